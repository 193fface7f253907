/- are prices even? (the answer). -/
import Derived.Test.YtlgdffofhnfedaaGreatX28
set_option linter.unusedVariables false
set_option linter.unusedSimpArgs false
set_option maxRecDepth 10000
set_option maxHeartbeats 2000000
namespace Go.Sl
open Go.RowKit
open Go.Proofs
theorem bidOk_no {m : Mk} {o : Oc} {i : Nat} (hi : i < m.bids.length) (h : ¬ bidOk m o i) : ¬ evenV m o := fun hE => h (hE.2.2.2.2.2 i hi)
theorem R15Even_ {w0 : World} {u v : Value} {m : Mk} {o : Oc} (hm : RdM w0 u m) (ho : RdO w0 v o) :
   Ret Tryz.prog 37 [u, v] w0 (fun r w => ∃ b, r = .bool b ∧ (b = true ↔ evenV m o) ∧ Below w0.heap.size w0 w) := by
 refine ret_of_C Tryz.func37 rfl rfl rfl ?_
 have H := Loc.refl w0
 have hm0 := hm
 obtain ⟨a, b, c, rfl, ra, rb, rc⟩ := hm
 obtain ⟨ha, pa, rfl, rh, rp⟩ := ho
 obtain ⟨A1, c1, rfl, hA1, hA2⟩ := ra.len
 obtain ⟨A2, c2, rfl, hB1, hB2⟩ := rb.len
 obtain ⟨A3, c3, rfl, hC1, hC2⟩ := rh.len
 obtain ⟨A4, c4, rfl, hD1, hD2⟩ := rp.len
 refine C_seq (C_region rfl (R_o rfl (E_box (cs := [.slice A1 m.res.length c1, .slice A2 m.bids.length c2, c]) rfl H ?_)))
 clear H; intro w b2 H
 refine R_o rfl (E_box (cs := [.slice A3 o.has.length c3, .slice A4 o.pri.length c4]) rfl H ?_)
 clear H; intro w b3 H
 refine R_o rfl (E_assign (R_nil (C_seq (C_seq (C_region rfl (R_o rfl (E_loadw H rfl (by rfl) ?_)))))))
 refine R_o rfl (E_call rfl (R5Check_ (Abides.below H.below hm0)) ?_)
 rintro _ w1 ⟨rfl, hb⟩
 replace H := H.call0 hb; clear hb
 refine R_o rfl (E_not rfl ?_)
 refine R_o rfl (E_move (R_part (t := 14) rfl (fun h14 => ?_) (fun h14 => ?_)))
 ·
  refine R_p rfl rfl rfl ?_
  refine R_p rfl rfl rfl ?_
  refine R_p rfl rfl rfl ?_
  refine R_p rfl rfl rfl ?_
  refine R_p rfl rfl rfl ?_
  refine R_p rfl rfl rfl ?_
  refine R_p rfl rfl rfl ?_
  refine R_o rfl (E_pick rfl ?_)
  refine R_o rfl (E_move (R_p rfl rfl rfl ?_))
  refine R_p rfl rfl rfl ?_
  refine R_p rfl rfl rfl ?_
  refine R_p rfl rfl rfl ?_
  refine R_p rfl rfl rfl ?_
  refine R_p rfl rfl rfl ?_
  refine R_p rfl rfl rfl ?_
  refine R_o rfl (E_pick rfl ?_)
  refine R_nil (C_true (t := 31) rfl ?_)
  refine C_seq (C_region rfl (R_o rfl (E_assign (R_nil (C_ret ?_)))))
  with_reducible repeat (first | refine thn_ret ?_ | refine inB_ret ?_ | refine noG_ret ?_ | refine jmp_ret ?_)
  first
    | exact ret_one rfl rfl ⟨_, rfl, ⟨(fun h => by cases h), fun h => absurd h.1 h14⟩, H.below⟩
    | exact ret_one rfl rfl ⟨_, rfl, ⟨(fun h => by cases h), fun h => absurd h.2.1 (by omega)⟩, H.below⟩
    | exact ret_one rfl rfl ⟨_, rfl, ⟨(fun h => by cases h), fun h => absurd h.2.2.1 (by omega)⟩, H.below⟩
    | exact ret_one rfl hd ⟨_, rfl, ⟨fun _ => ⟨hok, hl1, hl2, hst0.2, fun j hj => by have h5 := hst j hj; have hc := hst0.1 j hj; rw [List.take_length] at hc; exact ⟨by omega, h5.2.1, fun h0 => h5.2.2 (by omega)⟩, fun i hi => hst3 i (by omega)⟩, fun _ => rfl⟩, H.below⟩
    | exact ret_one rfl hd ⟨_, rfl, ⟨(fun h => by cases h), fun h => absurd h (bidOk_no hkm (by unfold bidOk; rw [hgb, if_pos hbe, hgx]; exact h148))⟩, H.below⟩
    | exact ret_one rfl hd ⟨_, rfl, ⟨(fun h => by cases h), fun h => absurd h (bidOk_no hkm (by unfold bidOk; rw [hgb, if_neg hbe, hgx]; exact fun h5 => by have := h5.1; omega))⟩, H.below⟩
    | exact ret_one rfl hd ⟨_, rfl, ⟨(fun h => by cases h), fun h => absurd h (bidOk_no hkm (by unfold bidOk; rw [hgb, if_neg hbe, hgx]; exact fun h5 => by have h6 := h5.2 j (by omega); have h7 := h181; rw [nowV_at] at h7; omega))⟩, H.below⟩
    | exact ret_one rfl hd ⟨_, rfl, ⟨(fun h => by cases h), fun h => absurd h (hno (by omega))⟩, H.below⟩
    | exact ret_one rfl hd ⟨_, rfl, ⟨(fun h => by cases h), fun h => (by have h5 := h.2.2.2.1 k (by omega); rw [hgx] at h5; omega)⟩, H.below⟩
 ·
  have hok := Decidable.of_not_not h14
  refine R_w rfl rfl rfl (E_fieldAddr rfl ?_)
  refine R_w rfl rfl rfl (E_load H rfl rfl ?_)
  refine R_w rfl rfl rfl (E_len rfl ?_)
  refine R_w rfl rfl rfl (E_fieldAddr rfl ?_)
  refine R_w rfl rfl rfl (E_load H rfl rfl ?_)
  refine R_w rfl rfl rfl (E_len rfl ?_)
  refine R_w rfl rfl rfl (E_neq rfl rfl ?_)
  refine R_o rfl (E_pick rfl ?_)
  refine R_o rfl (E_move (R_part (t := 23) rfl (fun h23 => ?_) (fun h23 => ?_)))
  ·
   refine R_p rfl rfl rfl ?_
   refine R_p rfl rfl rfl ?_
   refine R_p rfl rfl rfl ?_
   refine R_p rfl rfl rfl ?_
   refine R_p rfl rfl rfl ?_
   refine R_p rfl rfl rfl ?_
   refine R_p rfl rfl rfl ?_
   refine R_o rfl (E_pick rfl ?_)
   refine R_nil (C_true (t := 31) rfl ?_)
   refine C_seq (C_region rfl (R_o rfl (E_assign (R_nil (C_ret ?_)))))
   with_reducible repeat (first | refine thn_ret ?_ | refine inB_ret ?_ | refine noG_ret ?_ | refine jmp_ret ?_)
   first
     | exact ret_one rfl rfl ⟨_, rfl, ⟨(fun h => by cases h), fun h => absurd h.1 h14⟩, H.below⟩
     | exact ret_one rfl rfl ⟨_, rfl, ⟨(fun h => by cases h), fun h => absurd h.2.1 (by omega)⟩, H.below⟩
     | exact ret_one rfl rfl ⟨_, rfl, ⟨(fun h => by cases h), fun h => absurd h.2.2.1 (by omega)⟩, H.below⟩
     | exact ret_one rfl hd ⟨_, rfl, ⟨fun _ => ⟨hok, hl1, hl2, hst0.2, fun j hj => by have h5 := hst j hj; have hc := hst0.1 j hj; rw [List.take_length] at hc; exact ⟨by omega, h5.2.1, fun h0 => h5.2.2 (by omega)⟩, fun i hi => hst3 i (by omega)⟩, fun _ => rfl⟩, H.below⟩
     | exact ret_one rfl hd ⟨_, rfl, ⟨(fun h => by cases h), fun h => absurd h (bidOk_no hkm (by unfold bidOk; rw [hgb, if_pos hbe, hgx]; exact h148))⟩, H.below⟩
     | exact ret_one rfl hd ⟨_, rfl, ⟨(fun h => by cases h), fun h => absurd h (bidOk_no hkm (by unfold bidOk; rw [hgb, if_neg hbe, hgx]; exact fun h5 => by have := h5.1; omega))⟩, H.below⟩
     | exact ret_one rfl hd ⟨_, rfl, ⟨(fun h => by cases h), fun h => absurd h (bidOk_no hkm (by unfold bidOk; rw [hgb, if_neg hbe, hgx]; exact fun h5 => by have h6 := h5.2 j (by omega); have h7 := h181; rw [nowV_at] at h7; omega))⟩, H.below⟩
     | exact ret_one rfl hd ⟨_, rfl, ⟨(fun h => by cases h), fun h => absurd h (hno (by omega))⟩, H.below⟩
     | exact ret_one rfl hd ⟨_, rfl, ⟨(fun h => by cases h), fun h => (by have h5 := h.2.2.2.1 k (by omega); rw [hgx] at h5; omega)⟩, H.below⟩
  ·
   refine R_w rfl rfl rfl (E_fieldAddr rfl ?_)
   refine R_w rfl rfl rfl (E_load H rfl rfl ?_)
   refine R_w rfl rfl rfl (E_len rfl ?_)
   refine R_w rfl rfl rfl (E_fieldAddr rfl ?_)
   refine R_w rfl rfl rfl (E_load H rfl rfl ?_)
   refine R_w rfl rfl rfl (E_len rfl ?_)
   refine R_w rfl rfl rfl (E_neq rfl rfl ?_)
   refine R_o rfl (E_pick rfl ?_)
   refine R_nil (C_cond (t := 31) rfl (fun h31 => ?_) (fun h31 => ?_))
   ·
    refine C_seq (C_region rfl (R_o rfl (E_assign (R_nil (C_ret ?_)))))
    with_reducible repeat (first | refine thn_ret ?_ | refine inB_ret ?_ | refine noG_ret ?_ | refine jmp_ret ?_)
    first
      | exact ret_one rfl rfl ⟨_, rfl, ⟨(fun h => by cases h), fun h => absurd h.1 h14⟩, H.below⟩
      | exact ret_one rfl rfl ⟨_, rfl, ⟨(fun h => by cases h), fun h => absurd h.2.1 (by omega)⟩, H.below⟩
      | exact ret_one rfl rfl ⟨_, rfl, ⟨(fun h => by cases h), fun h => absurd h.2.2.1 (by omega)⟩, H.below⟩
      | exact ret_one rfl hd ⟨_, rfl, ⟨fun _ => ⟨hok, hl1, hl2, hst0.2, fun j hj => by have h5 := hst j hj; have hc := hst0.1 j hj; rw [List.take_length] at hc; exact ⟨by omega, h5.2.1, fun h0 => h5.2.2 (by omega)⟩, fun i hi => hst3 i (by omega)⟩, fun _ => rfl⟩, H.below⟩
      | exact ret_one rfl hd ⟨_, rfl, ⟨(fun h => by cases h), fun h => absurd h (bidOk_no hkm (by unfold bidOk; rw [hgb, if_pos hbe, hgx]; exact h148))⟩, H.below⟩
      | exact ret_one rfl hd ⟨_, rfl, ⟨(fun h => by cases h), fun h => absurd h (bidOk_no hkm (by unfold bidOk; rw [hgb, if_neg hbe, hgx]; exact fun h5 => by have := h5.1; omega))⟩, H.below⟩
      | exact ret_one rfl hd ⟨_, rfl, ⟨(fun h => by cases h), fun h => absurd h (bidOk_no hkm (by unfold bidOk; rw [hgb, if_neg hbe, hgx]; exact fun h5 => by have h6 := h5.2 j (by omega); have h7 := h181; rw [nowV_at] at h7; omega))⟩, H.below⟩
      | exact ret_one rfl hd ⟨_, rfl, ⟨(fun h => by cases h), fun h => absurd h (hno (by omega))⟩, H.below⟩
      | exact ret_one rfl hd ⟨_, rfl, ⟨(fun h => by cases h), fun h => (by have h5 := h.2.2.2.1 k (by omega); rw [hgx] at h5; omega)⟩, H.below⟩
   ·
    have hl1 : o.has.length = m.bids.length := by omega
    have hl2 : o.pri.length = m.res.length := by omega
    have hn1 := hok.1.2.1
    have hn2 := hok.2.1.2
    have hn3 := hok.1.1
    refine C_skip (C_seq (C_region rfl (R_o rfl (E_fieldAddr rfl ?_))))
    refine R_o rfl (E_load H rfl rfl ?_)
    refine R_o rfl (E_len rfl ?_)
    refine R_o rfl (E_makec o.pri.length o.pri.length H rfl rfl (by omega) (by omega) (by omega) ?_)
    clear H; intro w b5 H
    replace H := H.cle (cs' := tint o.pri.length fun _ => 0) (tint_const _ _)
    refine R_o rfl (E_assign (R_nil (C_seq (C_seq (C_region rfl (R_o rfl (E_assign (R_nil (C_block (C_loop (ds := []) [2, 3, 5, 6] (fun m_ vs w => ∃ k : Nat, ∃ f : Nat → Int, vs = [.pointer (some ⟨b2, 0, none⟩), .pointer (some ⟨b3, 0, none⟩), .slice (some ⟨b5, 0, none⟩) o.pri.length o.pri.length, .int .i64 k] ∧ m_ = o.has.length - k ∧ k ≤ o.has.length ∧ (CntF o.has k o.pri.length f ∧ ∀ i, i < k → -1 ≤ o.has.getD i 0 ∧ o.has.getD i 0 < (o.pri.length : Int)) ∧ Loc w0 w [cl b5 3 (tint o.pri.length f), cl b2 25 [.slice A1 m.res.length c1, .slice A2 m.bids.length c2, c], cl b3 27 [.slice A3 o.has.length c3, .slice A4 o.pri.length c4]]) (m := o.has.length) (by first | rfl | exact hd) ?_ ?_))))))))))
    · exact ⟨0, _, rfl, by omega, by omega, ⟨CntF.zero _ _, fun i h => by omega⟩, H.al⟩
    intro m vs ρ₀ w hd hI
    clear H
    obtain ⟨k, f, rfl, rfl, hk, hst0, H⟩ := hI
    refine C_seq (C_seq (C_region rfl (R_o rfl (E_move (R_o rfl (E_fieldAddr rfl ?_))))))
    refine R_o rfl (E_load H rfl rfl ?_)
    refine R_o rfl (E_len rfl ?_)
    refine R_o rfl (E_lss rfl rfl ?_)
    refine R_nil (C_cond (t := 40) rfl (fun hlt => ?_) (fun hlt => ?_))
    ·
     obtain ⟨x, hx⟩ := get_of (xs := o.has) (k := k) (by omega)
     have hgx : o.has.getD k 0 = x := getD_of hx
     refine C_skip (C_seq (C_block (C_seq (C_seq (C_drawL [] H (by kernel_rfl) (fun w H => ?_))))))
     refine D_takeT 0 rfl rfl rfl (by kernel_rfl) (fun w K Z kk => E_fieldAddr rfl kk) ?_
     refine D_take 1 rfl rfl rfl (by kernel_rfl) (by first | exact H | exact H.drop | exact H.drop.drop | exact H.drop.drop.drop | exact H.drop.drop.drop.drop) (fun w HS K Z kk => E_load HS rfl rfl kk) ?_
     refine D_takeT 2 rfl rfl rfl (by kernel_rfl) (fun w K Z kk => E_move kk) ?_
     refine D_takeT 3 rfl rfl rfl (by kernel_rfl) (fun w K Z kk => E_idxr rh rfl rfl (by omega) (by omega) kk) ?_
     refine D_take 4 rfl rfl rfl (by kernel_rfl) (by first | exact H | exact H.drop | exact H.drop.drop | exact H.drop.drop.drop | exact H.drop.drop.drop.drop) (fun w HS K Z kk => E_loadi rh HS rfl hx kk) ?_
     refine D_takeT 5 rfl rfl rfl (by kernel_rfl) (fun w K Z kk => E_lss rfl rfl kk) ?_
     refine D_takeT 6 rfl rfl rfl (by kernel_rfl) (fun w K Z kk => E_move kk) ?_
     refine D_part (t := 49) rfl (fun h49 => ?_) (fun h49 => ?_)
     ·
      refine D_passT 7 rfl rfl rfl rfl rfl (by kernel_rfl) ?_
      refine D_passT 8 rfl rfl rfl rfl rfl (by kernel_rfl) ?_
      refine D_passT 9 rfl rfl rfl rfl rfl (by kernel_rfl) ?_
      refine D_passT 10 rfl rfl rfl rfl rfl (by kernel_rfl) ?_
      refine D_passT 11 rfl rfl rfl rfl rfl (by kernel_rfl) ?_
      refine D_passT 12 rfl rfl rfl rfl rfl (by kernel_rfl) ?_
      refine D_passT 13 rfl rfl rfl rfl rfl (by kernel_rfl) ?_
      refine D_passT 14 rfl rfl rfl rfl rfl (by kernel_rfl) ?_
      refine D_passT 15 rfl rfl rfl rfl rfl (by kernel_rfl) ?_
      refine D_takeT 16 rfl rfl rfl (by kernel_rfl) (fun w K Z kk => E_pick rfl kk) ?_
      refine D_done (by kernel_rfl) ?_
      refine C_true (t := 59) rfl ?_
      refine C_seq (C_region rfl (R_o rfl (E_assign (R_nil (C_ret ?_)))))
      with_reducible repeat (first | refine thn_ret ?_ | refine inB_ret ?_ | refine noG_ret ?_ | refine jmp_ret ?_)
      first
        | exact ret_one rfl rfl ⟨_, rfl, ⟨(fun h => by cases h), fun h => absurd h.1 h14⟩, H.below⟩
        | exact ret_one rfl rfl ⟨_, rfl, ⟨(fun h => by cases h), fun h => absurd h.2.1 (by omega)⟩, H.below⟩
        | exact ret_one rfl rfl ⟨_, rfl, ⟨(fun h => by cases h), fun h => absurd h.2.2.1 (by omega)⟩, H.below⟩
        | exact ret_one rfl hd ⟨_, rfl, ⟨fun _ => ⟨hok, hl1, hl2, hst0.2, fun j hj => by have h5 := hst j hj; have hc := hst0.1 j hj; rw [List.take_length] at hc; exact ⟨by omega, h5.2.1, fun h0 => h5.2.2 (by omega)⟩, fun i hi => hst3 i (by omega)⟩, fun _ => rfl⟩, H.below⟩
        | exact ret_one rfl hd ⟨_, rfl, ⟨(fun h => by cases h), fun h => absurd h (bidOk_no hkm (by unfold bidOk; rw [hgb, if_pos hbe, hgx]; exact h148))⟩, H.below⟩
        | exact ret_one rfl hd ⟨_, rfl, ⟨(fun h => by cases h), fun h => absurd h (bidOk_no hkm (by unfold bidOk; rw [hgb, if_neg hbe, hgx]; exact fun h5 => by have := h5.1; omega))⟩, H.below⟩
        | exact ret_one rfl hd ⟨_, rfl, ⟨(fun h => by cases h), fun h => absurd h (bidOk_no hkm (by unfold bidOk; rw [hgb, if_neg hbe, hgx]; exact fun h5 => by have h6 := h5.2 j (by omega); have h7 := h181; rw [nowV_at] at h7; omega))⟩, H.below⟩
        | exact ret_one rfl hd ⟨_, rfl, ⟨(fun h => by cases h), fun h => absurd h (hno (by omega))⟩, H.below⟩
        | exact ret_one rfl hd ⟨_, rfl, ⟨(fun h => by cases h), fun h => (by have h5 := h.2.2.2.1 k (by omega); rw [hgx] at h5; omega)⟩, H.below⟩
     ·
      refine D_takeTw 7 rfl rfl rfl rfl rfl (by kernel_rfl) (fun w K Z kk => E_fieldAddr rfl kk) ?_
      refine D_takew 8 rfl rfl rfl rfl rfl (by kernel_rfl) (by first | exact H | exact H.drop | exact H.drop.drop | exact H.drop.drop.drop | exact H.drop.drop.drop.drop) (fun w HS K Z kk => E_load HS rfl rfl kk) ?_
      refine D_takeTw 9 rfl rfl rfl rfl rfl (by kernel_rfl) (fun w K Z kk => E_move kk) ?_
      refine D_takeTw 10 rfl rfl rfl rfl rfl (by kernel_rfl) (fun w K Z kk => E_idxr rh rfl rfl (by omega) (by omega) kk) ?_
      refine D_takew 11 rfl rfl rfl rfl rfl (by kernel_rfl) (by first | exact H | exact H.drop | exact H.drop.drop | exact H.drop.drop.drop | exact H.drop.drop.drop.drop) (fun w HS K Z kk => E_loadi rh HS rfl hx kk) ?_
      refine D_takeTw 12 rfl rfl rfl rfl rfl (by kernel_rfl) (fun w K Z kk => E_fieldAddr rfl kk) ?_
      refine D_takew 13 rfl rfl rfl rfl rfl (by kernel_rfl) (by first | exact H | exact H.drop | exact H.drop.drop | exact H.drop.drop.drop | exact H.drop.drop.drop.drop) (fun w HS K Z kk => E_load HS rfl rfl kk) ?_
      refine D_takeTw 14 rfl rfl rfl rfl rfl (by kernel_rfl) (fun w K Z kk => E_len rfl kk) ?_
      refine D_takeTw 15 rfl rfl rfl rfl rfl (by kernel_rfl) (fun w K Z kk => E_geq rfl rfl kk) ?_
      refine D_takeT 16 rfl rfl rfl (by kernel_rfl) (fun w K Z kk => E_pick rfl kk) ?_
      refine D_done (by kernel_rfl) ?_
      refine C_cond (t := 59) rfl (fun h59 => ?_) (fun h59 => ?_)
      ·
       refine C_seq (C_region rfl (R_o rfl (E_assign (R_nil (C_ret ?_)))))
       with_reducible repeat (first | refine thn_ret ?_ | refine inB_ret ?_ | refine noG_ret ?_ | refine jmp_ret ?_)
       first
         | exact ret_one rfl rfl ⟨_, rfl, ⟨(fun h => by cases h), fun h => absurd h.1 h14⟩, H.below⟩
         | exact ret_one rfl rfl ⟨_, rfl, ⟨(fun h => by cases h), fun h => absurd h.2.1 (by omega)⟩, H.below⟩
         | exact ret_one rfl rfl ⟨_, rfl, ⟨(fun h => by cases h), fun h => absurd h.2.2.1 (by omega)⟩, H.below⟩
         | exact ret_one rfl hd ⟨_, rfl, ⟨fun _ => ⟨hok, hl1, hl2, hst0.2, fun j hj => by have h5 := hst j hj; have hc := hst0.1 j hj; rw [List.take_length] at hc; exact ⟨by omega, h5.2.1, fun h0 => h5.2.2 (by omega)⟩, fun i hi => hst3 i (by omega)⟩, fun _ => rfl⟩, H.below⟩
         | exact ret_one rfl hd ⟨_, rfl, ⟨(fun h => by cases h), fun h => absurd h (bidOk_no hkm (by unfold bidOk; rw [hgb, if_pos hbe, hgx]; exact h148))⟩, H.below⟩
         | exact ret_one rfl hd ⟨_, rfl, ⟨(fun h => by cases h), fun h => absurd h (bidOk_no hkm (by unfold bidOk; rw [hgb, if_neg hbe, hgx]; exact fun h5 => by have := h5.1; omega))⟩, H.below⟩
         | exact ret_one rfl hd ⟨_, rfl, ⟨(fun h => by cases h), fun h => absurd h (bidOk_no hkm (by unfold bidOk; rw [hgb, if_neg hbe, hgx]; exact fun h5 => by have h6 := h5.2 j (by omega); have h7 := h181; rw [nowV_at] at h7; omega))⟩, H.below⟩
         | exact ret_one rfl hd ⟨_, rfl, ⟨(fun h => by cases h), fun h => absurd h (hno (by omega))⟩, H.below⟩
         | exact ret_one rfl hd ⟨_, rfl, ⟨(fun h => by cases h), fun h => (by have h5 := h.2.2.2.1 k (by omega); rw [hgx] at h5; omega)⟩, H.below⟩
      ·
       refine C_skip (C_seq (C_region rfl (R_o rfl (E_fieldAddr rfl ?_))))
       refine R_o rfl (E_load H rfl rfl ?_)
       refine R_o rfl (E_move (R_o rfl (E_idxr rh rfl rfl (by omega) (by omega) ?_)))
       refine R_o rfl (E_loadi rh H rfl hx ?_)
       refine R_o rfl (E_geq rfl rfl ?_)
       refine R_nil (C_cond (t := 65) rfl (fun h65 => ?_) (fun h65 => ?_))
       ·
        have hx' : o.has[k]? = some ((x.toNat : Nat) : Int) := by rw [hx]; congr 1; omega
        have hfb := hst0.1.bound (x := x.toNat) (by omega)
        refine C_region rfl (R_o rfl (E_move (R_o rfl (E_fieldAddr rfl ?_))))
        refine R_o rfl (E_load H rfl rfl ?_)
        refine R_o rfl (E_move (R_o rfl (E_idxr rh rfl rfl (by omega) (by omega) ?_)))
        refine R_o rfl (E_loadi rh H rfl hx ?_)
        refine R_o rfl (E_idxb rfl rfl (by omega) (by omega) ?_)
        refine R_o rfl (E_loadt x.toNat H rfl (by simp) (by omega) ?_)
        refine R_o rfl (E_add rfl rfl (by omega) ?_)
        refine R_o rfl (E_idxb rfl rfl (by omega) (by omega) ?_)
        refine R_n rfl (E_storet x.toNat H rfl rfl (by simp) (by omega) ?_)
        clear H; intro w H
        refine R_nil (C_region rfl (R_o rfl (E_move (R_o rfl (E_add rfl rfl (by omega) ?_)))))
        refine R_o rfl (E_assign (R_nil ?_))
        first
          | exact ⟨hd, o.has.length - (k + 1), by omega, k + 1, _, rfl, rfl, by omega, ⟨hst0.1.put hx', all_succ.2 ⟨hst0.2, by rw [hgx]; omega⟩⟩, H⟩
          | exact ⟨hd, o.has.length - (k + 1), by omega, k + 1, f, rfl, rfl, by omega, ⟨hst0.1.skip hx (.inl (by omega)), all_succ.2 ⟨hst0.2, by rw [hgx]; omega⟩⟩, H⟩
       ·
        refine C_skip (C_region rfl (R_o rfl (E_move (R_o rfl (E_add rfl rfl (by omega) ?_)))))
        refine R_o rfl (E_assign (R_nil ?_))
        first
          | exact ⟨hd, o.has.length - (k + 1), by omega, k + 1, _, rfl, rfl, by omega, ⟨hst0.1.put hx', all_succ.2 ⟨hst0.2, by rw [hgx]; omega⟩⟩, H⟩
          | exact ⟨hd, o.has.length - (k + 1), by omega, k + 1, f, rfl, rfl, by omega, ⟨hst0.1.skip hx (.inl (by omega)), all_succ.2 ⟨hst0.2, by rw [hgx]; omega⟩⟩, H⟩
    ·
     obtain rfl : k = o.has.length := by omega
     refine C_exit ?_
     refine C_seq (C_seq (C_region rfl (R_o rfl (E_assign (R_nil (C_block (C_loop (ds := []) [2, 3, 5, 7] (fun m_ vs w => ∃ k : Nat, vs = [.pointer (some ⟨b2, 0, none⟩), .pointer (some ⟨b3, 0, none⟩), .slice (some ⟨b5, 0, none⟩) o.pri.length o.pri.length, .int .i64 k] ∧ m_ = o.pri.length - k ∧ k ≤ o.pri.length ∧ (∀ j, j < k → f j ≤ 1 ∧ priOk m o j ∧ (f j = 0 → o.pri.getD j 0 = m.res.getD j 0)) ∧ Loc w0 w [cl b5 3 (tint o.pri.length f), cl b2 25 [.slice A1 m.res.length c1, .slice A2 m.bids.length c2, c], cl b3 27 [.slice A3 o.has.length c3, .slice A4 o.pri.length c4]]) (m := o.pri.length) (by first | rfl | exact hd) ?_ ?_)))))))
     · exact ⟨0, rfl, by omega, by omega, fun j h => by omega, H⟩
     intro m vs ρ₀ w hd hI
     clear H
     obtain ⟨k, rfl, rfl, hk, hst, H⟩ := hI
     refine C_seq (C_seq (C_region rfl (R_o rfl (E_move (R_o rfl (E_fieldAddr rfl ?_))))))
     refine R_o rfl (E_load H rfl rfl ?_)
     refine R_o rfl (E_len rfl ?_)
     refine R_o rfl (E_lss rfl rfl ?_)
     refine R_nil (C_cond (t := 80) rfl (fun hlt2 => ?_) (fun hlt2 => ?_))
     ·
      obtain ⟨x, hx⟩ := get_of (xs := o.pri) (k := k) (by omega)
      obtain ⟨r, hr⟩ := get_of (xs := m.res) (k := k) (by omega)
      have hcf := hst0.1 k (by omega)
      rw [List.take_length] at hcf
      have hgx : o.pri.getD k 0 = x := getD_of hx
      have hgr : m.res.getD k 0 = r := getD_of hr
      have hno : ¬ (f k ≤ 1 ∧ (r ≤ x ∧ x ≤ 2000000) ∧ (f k = 0 → x = r)) → ¬ evenV m o := fun h hE => h (by have h5 := hE.2.2.2.2.1 k (by omega); unfold priOk at h5; rw [hgx, hgr] at h5; exact ⟨by omega, h5.2.1, fun h0 => h5.2.2 (by omega)⟩)
      have hyes : (f k ≤ 1 ∧ (r ≤ x ∧ x ≤ 2000000) ∧ (f k = 0 → x = r)) → (f k ≤ 1 ∧ priOk m o k ∧ (f k = 0 → o.pri.getD k 0 = m.res.getD k 0)) := fun h => by unfold priOk; rw [hgx, hgr]; exact h
      refine C_skip (C_seq (C_block (C_seq (C_drawL [] H (by kernel_rfl) (fun w H => ?_)))))
      refine D_takeT 0 rfl rfl rfl (by kernel_rfl) (fun w K Z kk => E_move kk) ?_
      refine D_takeT 1 rfl rfl rfl (by kernel_rfl) (fun w K Z kk => E_move kk) ?_
      refine D_takeT 2 rfl rfl rfl (by kernel_rfl) (fun w K Z kk => E_idxb rfl rfl (by omega) (by omega) kk) ?_
      refine D_take 3 rfl rfl rfl (by kernel_rfl) (by first | exact H | exact H.drop | exact H.drop.drop | exact H.drop.drop.drop | exact H.drop.drop.drop.drop) (fun w HS K Z kk => E_loadt k HS rfl (by simp) (by omega) kk) ?_
      refine D_takeT 4 rfl rfl rfl (by kernel_rfl) (fun w K Z kk => E_gtr rfl rfl kk) ?_
      refine D_takeT 5 rfl rfl rfl (by kernel_rfl) (fun w K Z kk => E_move kk) ?_
      refine D_part (t := 88) rfl (fun h88 => ?_) (fun h88 => ?_)
      ·
       refine D_passT 6 rfl rfl rfl rfl rfl (by kernel_rfl) ?_
       refine D_passT 7 rfl rfl rfl rfl rfl (by kernel_rfl) ?_
       refine D_passT 8 rfl rfl rfl rfl rfl (by kernel_rfl) ?_
       refine D_passT 9 rfl rfl rfl rfl rfl (by kernel_rfl) ?_
       refine D_passT 10 rfl rfl rfl rfl rfl (by kernel_rfl) ?_
       refine D_passT 11 rfl rfl rfl rfl rfl (by kernel_rfl) ?_
       refine D_passT 12 rfl rfl rfl rfl rfl (by kernel_rfl) ?_
       refine D_passT 13 rfl rfl rfl rfl rfl (by kernel_rfl) ?_
       refine D_passT 14 rfl rfl rfl rfl rfl (by kernel_rfl) ?_
       refine D_passT 15 rfl rfl rfl rfl rfl (by kernel_rfl) ?_
       refine D_passT 16 rfl rfl rfl rfl rfl (by kernel_rfl) ?_
       refine D_takeT 17 rfl rfl rfl (by kernel_rfl) (fun w K Z kk => E_pick rfl kk) ?_
       refine D_takeT 18 rfl rfl rfl (by kernel_rfl) (fun w K Z kk => E_move kk) ?_
       refine D_passT 19 rfl rfl rfl rfl rfl (by kernel_rfl) ?_
       refine D_passT 20 rfl rfl rfl rfl rfl (by kernel_rfl) ?_
       refine D_passT 21 rfl rfl rfl rfl rfl (by kernel_rfl) ?_
       refine D_passT 22 rfl rfl rfl rfl rfl (by kernel_rfl) ?_
       refine D_passT 23 rfl rfl rfl rfl rfl (by kernel_rfl) ?_
       refine D_passT 24 rfl rfl rfl rfl rfl (by kernel_rfl) ?_
       refine D_takeT 25 rfl rfl rfl (by kernel_rfl) (fun w K Z kk => E_pick rfl kk) ?_
       refine D_takeT 26 rfl rfl rfl (by kernel_rfl) (fun w K Z kk => E_move kk) ?_
       refine D_passT 27 rfl rfl rfl rfl rfl (by kernel_rfl) ?_
       refine D_passT 28 rfl rfl rfl rfl rfl (by kernel_rfl) ?_
       refine D_passT 29 rfl rfl rfl rfl rfl (by kernel_rfl) ?_
       refine D_passT 30 rfl rfl rfl rfl rfl (by kernel_rfl) ?_
       refine D_passT 31 rfl rfl rfl rfl rfl (by kernel_rfl) ?_
       refine D_passT 32 rfl rfl rfl rfl rfl (by kernel_rfl) ?_
       refine D_passU 33 rfl rfl rfl rfl (by kernel_rfl) ?_
       refine D_passU 34 rfl rfl rfl rfl (by kernel_rfl) ?_
       refine D_passU 35 rfl rfl rfl rfl (by kernel_rfl) ?_
       refine D_passU 36 rfl rfl rfl rfl (by kernel_rfl) ?_
       refine D_passU 37 rfl rfl rfl rfl (by kernel_rfl) ?_
       refine D_passU 38 rfl rfl rfl rfl (by kernel_rfl) ?_
       refine D_passU 39 rfl rfl rfl rfl (by kernel_rfl) ?_
       refine D_passU 40 rfl rfl rfl rfl (by kernel_rfl) ?_
       refine D_passU 41 rfl rfl rfl rfl (by kernel_rfl) ?_
       refine D_passU 42 rfl rfl rfl rfl (by kernel_rfl) ?_
       refine D_passU 43 rfl rfl rfl rfl (by kernel_rfl) ?_
       refine D_passT 44 rfl rfl rfl rfl rfl (by kernel_rfl) ?_
       refine D_takeT 45 rfl rfl rfl (by kernel_rfl) (fun w K Z kk => E_pick rfl kk) ?_
       refine D_done (by kernel_rfl) ?_
       refine C_true (t := 128) rfl ?_
       refine C_seq (C_region rfl (R_o rfl (E_assign (R_nil (C_ret ?_)))))
       with_reducible repeat (first | refine thn_ret ?_ | refine inB_ret ?_ | refine noG_ret ?_ | refine jmp_ret ?_)
       first
         | exact ret_one rfl rfl ⟨_, rfl, ⟨(fun h => by cases h), fun h => absurd h.1 h14⟩, H.below⟩
         | exact ret_one rfl rfl ⟨_, rfl, ⟨(fun h => by cases h), fun h => absurd h.2.1 (by omega)⟩, H.below⟩
         | exact ret_one rfl rfl ⟨_, rfl, ⟨(fun h => by cases h), fun h => absurd h.2.2.1 (by omega)⟩, H.below⟩
         | exact ret_one rfl hd ⟨_, rfl, ⟨fun _ => ⟨hok, hl1, hl2, hst0.2, fun j hj => by have h5 := hst j hj; have hc := hst0.1 j hj; rw [List.take_length] at hc; exact ⟨by omega, h5.2.1, fun h0 => h5.2.2 (by omega)⟩, fun i hi => hst3 i (by omega)⟩, fun _ => rfl⟩, H.below⟩
         | exact ret_one rfl hd ⟨_, rfl, ⟨(fun h => by cases h), fun h => absurd h (bidOk_no hkm (by unfold bidOk; rw [hgb, if_pos hbe, hgx]; exact h148))⟩, H.below⟩
         | exact ret_one rfl hd ⟨_, rfl, ⟨(fun h => by cases h), fun h => absurd h (bidOk_no hkm (by unfold bidOk; rw [hgb, if_neg hbe, hgx]; exact fun h5 => by have := h5.1; omega))⟩, H.below⟩
         | exact ret_one rfl hd ⟨_, rfl, ⟨(fun h => by cases h), fun h => absurd h (bidOk_no hkm (by unfold bidOk; rw [hgb, if_neg hbe, hgx]; exact fun h5 => by have h6 := h5.2 j (by omega); have h7 := h181; rw [nowV_at] at h7; omega))⟩, H.below⟩
         | exact ret_one rfl hd ⟨_, rfl, ⟨(fun h => by cases h), fun h => absurd h (hno (by omega))⟩, H.below⟩
         | exact ret_one rfl hd ⟨_, rfl, ⟨(fun h => by cases h), fun h => (by have h5 := h.2.2.2.1 k (by omega); rw [hgx] at h5; omega)⟩, H.below⟩
      ·
       refine D_takeTw 6 rfl rfl rfl rfl rfl (by kernel_rfl) (fun w K Z kk => E_fieldAddr rfl kk) ?_
       refine D_takew 7 rfl rfl rfl rfl rfl (by kernel_rfl) (by first | exact H | exact H.drop | exact H.drop.drop | exact H.drop.drop.drop | exact H.drop.drop.drop.drop) (fun w HS K Z kk => E_load HS rfl rfl kk) ?_
       refine D_takeTw 8 rfl rfl rfl rfl rfl (by kernel_rfl) (fun w K Z kk => E_move kk) ?_
       refine D_takeTw 9 rfl rfl rfl rfl rfl (by kernel_rfl) (fun w K Z kk => E_idxr rp rfl rfl (by omega) (by omega) kk) ?_
       refine D_takew 10 rfl rfl rfl rfl rfl (by kernel_rfl) (by first | exact H | exact H.drop | exact H.drop.drop | exact H.drop.drop.drop | exact H.drop.drop.drop.drop) (fun w HS K Z kk => E_loadi rp HS rfl hx kk) ?_
       refine D_takeTw 11 rfl rfl rfl rfl rfl (by kernel_rfl) (fun w K Z kk => E_fieldAddr rfl kk) ?_
       refine D_takew 12 rfl rfl rfl rfl rfl (by kernel_rfl) (by first | exact H | exact H.drop | exact H.drop.drop | exact H.drop.drop.drop | exact H.drop.drop.drop.drop) (fun w HS K Z kk => E_load HS rfl rfl kk) ?_
       refine D_takeTw 13 rfl rfl rfl rfl rfl (by kernel_rfl) (fun w K Z kk => E_move kk) ?_
       refine D_takeTw 14 rfl rfl rfl rfl rfl (by kernel_rfl) (fun w K Z kk => E_idxr ra rfl rfl (by omega) (by omega) kk) ?_
       refine D_takew 15 rfl rfl rfl rfl rfl (by kernel_rfl) (by first | exact H | exact H.drop | exact H.drop.drop | exact H.drop.drop.drop | exact H.drop.drop.drop.drop) (fun w HS K Z kk => E_loadi ra HS rfl hr kk) ?_
       refine D_takeTw 16 rfl rfl rfl rfl rfl (by kernel_rfl) (fun w K Z kk => E_lss rfl rfl kk) ?_
       refine D_takeT 17 rfl rfl rfl (by kernel_rfl) (fun w K Z kk => E_pick rfl kk) ?_
       refine D_takeT 18 rfl rfl rfl (by kernel_rfl) (fun w K Z kk => E_move kk) ?_
       refine D_part (t := 101) rfl (fun h101 => ?_) (fun h101 => ?_)
       ·
        refine D_passT 19 rfl rfl rfl rfl rfl (by kernel_rfl) ?_
        refine D_passT 20 rfl rfl rfl rfl rfl (by kernel_rfl) ?_
        refine D_passT 21 rfl rfl rfl rfl rfl (by kernel_rfl) ?_
        refine D_passT 22 rfl rfl rfl rfl rfl (by kernel_rfl) ?_
        refine D_passT 23 rfl rfl rfl rfl rfl (by kernel_rfl) ?_
        refine D_passT 24 rfl rfl rfl rfl rfl (by kernel_rfl) ?_
        refine D_takeT 25 rfl rfl rfl (by kernel_rfl) (fun w K Z kk => E_pick rfl kk) ?_
        refine D_takeT 26 rfl rfl rfl (by kernel_rfl) (fun w K Z kk => E_move kk) ?_
        refine D_passT 27 rfl rfl rfl rfl rfl (by kernel_rfl) ?_
        refine D_passT 28 rfl rfl rfl rfl rfl (by kernel_rfl) ?_
        refine D_passT 29 rfl rfl rfl rfl rfl (by kernel_rfl) ?_
        refine D_passT 30 rfl rfl rfl rfl rfl (by kernel_rfl) ?_
        refine D_passT 31 rfl rfl rfl rfl rfl (by kernel_rfl) ?_
        refine D_passT 32 rfl rfl rfl rfl rfl (by kernel_rfl) ?_
        refine D_passU 33 rfl rfl rfl rfl (by kernel_rfl) ?_
        refine D_passU 34 rfl rfl rfl rfl (by kernel_rfl) ?_
        refine D_passU 35 rfl rfl rfl rfl (by kernel_rfl) ?_
        refine D_passU 36 rfl rfl rfl rfl (by kernel_rfl) ?_
        refine D_passU 37 rfl rfl rfl rfl (by kernel_rfl) ?_
        refine D_passU 38 rfl rfl rfl rfl (by kernel_rfl) ?_
        refine D_passU 39 rfl rfl rfl rfl (by kernel_rfl) ?_
        refine D_passU 40 rfl rfl rfl rfl (by kernel_rfl) ?_
        refine D_passU 41 rfl rfl rfl rfl (by kernel_rfl) ?_
        refine D_passU 42 rfl rfl rfl rfl (by kernel_rfl) ?_
        refine D_passU 43 rfl rfl rfl rfl (by kernel_rfl) ?_
        refine D_passT 44 rfl rfl rfl rfl rfl (by kernel_rfl) ?_
        refine D_takeT 45 rfl rfl rfl (by kernel_rfl) (fun w K Z kk => E_pick rfl kk) ?_
        refine D_done (by kernel_rfl) ?_
        refine C_true (t := 128) rfl ?_
        refine C_seq (C_region rfl (R_o rfl (E_assign (R_nil (C_ret ?_)))))
        with_reducible repeat (first | refine thn_ret ?_ | refine inB_ret ?_ | refine noG_ret ?_ | refine jmp_ret ?_)
        first
          | exact ret_one rfl rfl ⟨_, rfl, ⟨(fun h => by cases h), fun h => absurd h.1 h14⟩, H.below⟩
          | exact ret_one rfl rfl ⟨_, rfl, ⟨(fun h => by cases h), fun h => absurd h.2.1 (by omega)⟩, H.below⟩
          | exact ret_one rfl rfl ⟨_, rfl, ⟨(fun h => by cases h), fun h => absurd h.2.2.1 (by omega)⟩, H.below⟩
          | exact ret_one rfl hd ⟨_, rfl, ⟨fun _ => ⟨hok, hl1, hl2, hst0.2, fun j hj => by have h5 := hst j hj; have hc := hst0.1 j hj; rw [List.take_length] at hc; exact ⟨by omega, h5.2.1, fun h0 => h5.2.2 (by omega)⟩, fun i hi => hst3 i (by omega)⟩, fun _ => rfl⟩, H.below⟩
          | exact ret_one rfl hd ⟨_, rfl, ⟨(fun h => by cases h), fun h => absurd h (bidOk_no hkm (by unfold bidOk; rw [hgb, if_pos hbe, hgx]; exact h148))⟩, H.below⟩
          | exact ret_one rfl hd ⟨_, rfl, ⟨(fun h => by cases h), fun h => absurd h (bidOk_no hkm (by unfold bidOk; rw [hgb, if_neg hbe, hgx]; exact fun h5 => by have := h5.1; omega))⟩, H.below⟩
          | exact ret_one rfl hd ⟨_, rfl, ⟨(fun h => by cases h), fun h => absurd h (bidOk_no hkm (by unfold bidOk; rw [hgb, if_neg hbe, hgx]; exact fun h5 => by have h6 := h5.2 j (by omega); have h7 := h181; rw [nowV_at] at h7; omega))⟩, H.below⟩
          | exact ret_one rfl hd ⟨_, rfl, ⟨(fun h => by cases h), fun h => absurd h (hno (by omega))⟩, H.below⟩
          | exact ret_one rfl hd ⟨_, rfl, ⟨(fun h => by cases h), fun h => (by have h5 := h.2.2.2.1 k (by omega); rw [hgx] at h5; omega)⟩, H.below⟩
       ·
        refine D_takeTw 19 rfl rfl rfl rfl rfl (by kernel_rfl) (fun w K Z kk => E_fieldAddr rfl kk) ?_
        refine D_takew 20 rfl rfl rfl rfl rfl (by kernel_rfl) (by first | exact H | exact H.drop | exact H.drop.drop | exact H.drop.drop.drop | exact H.drop.drop.drop.drop) (fun w HS K Z kk => E_load HS rfl rfl kk) ?_
        refine D_takeTw 21 rfl rfl rfl rfl rfl (by kernel_rfl) (fun w K Z kk => E_move kk) ?_
        refine D_takeTw 22 rfl rfl rfl rfl rfl (by kernel_rfl) (fun w K Z kk => E_idxr rp rfl rfl (by omega) (by omega) kk) ?_
        refine D_takew 23 rfl rfl rfl rfl rfl (by kernel_rfl) (by first | exact H | exact H.drop | exact H.drop.drop | exact H.drop.drop.drop | exact H.drop.drop.drop.drop) (fun w HS K Z kk => E_loadi rp HS rfl hx kk) ?_
        refine D_takeTw 24 rfl rfl rfl rfl rfl (by kernel_rfl) (fun w K Z kk => E_gtr rfl rfl kk) ?_
        refine D_takeT 25 rfl rfl rfl (by kernel_rfl) (fun w K Z kk => E_pick rfl kk) ?_
        refine D_takeT 26 rfl rfl rfl (by kernel_rfl) (fun w K Z kk => E_move kk) ?_
        refine D_part (t := 109) rfl (fun h109 => ?_) (fun h109 => ?_)
        ·
         refine D_passT 27 rfl rfl rfl rfl rfl (by kernel_rfl) ?_
         refine D_passT 28 rfl rfl rfl rfl rfl (by kernel_rfl) ?_
         refine D_passT 29 rfl rfl rfl rfl rfl (by kernel_rfl) ?_
         refine D_passT 30 rfl rfl rfl rfl rfl (by kernel_rfl) ?_
         refine D_passT 31 rfl rfl rfl rfl rfl (by kernel_rfl) ?_
         refine D_passT 32 rfl rfl rfl rfl rfl (by kernel_rfl) ?_
         refine D_passU 33 rfl rfl rfl rfl (by kernel_rfl) ?_
         refine D_passU 34 rfl rfl rfl rfl (by kernel_rfl) ?_
         refine D_passU 35 rfl rfl rfl rfl (by kernel_rfl) ?_
         refine D_passU 36 rfl rfl rfl rfl (by kernel_rfl) ?_
         refine D_passU 37 rfl rfl rfl rfl (by kernel_rfl) ?_
         refine D_passU 38 rfl rfl rfl rfl (by kernel_rfl) ?_
         refine D_passU 39 rfl rfl rfl rfl (by kernel_rfl) ?_
         refine D_passU 40 rfl rfl rfl rfl (by kernel_rfl) ?_
         refine D_passU 41 rfl rfl rfl rfl (by kernel_rfl) ?_
         refine D_passU 42 rfl rfl rfl rfl (by kernel_rfl) ?_
         refine D_passU 43 rfl rfl rfl rfl (by kernel_rfl) ?_
         refine D_passT 44 rfl rfl rfl rfl rfl (by kernel_rfl) ?_
         refine D_takeT 45 rfl rfl rfl (by kernel_rfl) (fun w K Z kk => E_pick rfl kk) ?_
         refine D_done (by kernel_rfl) ?_
         refine C_true (t := 128) rfl ?_
         refine C_seq (C_region rfl (R_o rfl (E_assign (R_nil (C_ret ?_)))))
         with_reducible repeat (first | refine thn_ret ?_ | refine inB_ret ?_ | refine noG_ret ?_ | refine jmp_ret ?_)
         first
           | exact ret_one rfl rfl ⟨_, rfl, ⟨(fun h => by cases h), fun h => absurd h.1 h14⟩, H.below⟩
           | exact ret_one rfl rfl ⟨_, rfl, ⟨(fun h => by cases h), fun h => absurd h.2.1 (by omega)⟩, H.below⟩
           | exact ret_one rfl rfl ⟨_, rfl, ⟨(fun h => by cases h), fun h => absurd h.2.2.1 (by omega)⟩, H.below⟩
           | exact ret_one rfl hd ⟨_, rfl, ⟨fun _ => ⟨hok, hl1, hl2, hst0.2, fun j hj => by have h5 := hst j hj; have hc := hst0.1 j hj; rw [List.take_length] at hc; exact ⟨by omega, h5.2.1, fun h0 => h5.2.2 (by omega)⟩, fun i hi => hst3 i (by omega)⟩, fun _ => rfl⟩, H.below⟩
           | exact ret_one rfl hd ⟨_, rfl, ⟨(fun h => by cases h), fun h => absurd h (bidOk_no hkm (by unfold bidOk; rw [hgb, if_pos hbe, hgx]; exact h148))⟩, H.below⟩
           | exact ret_one rfl hd ⟨_, rfl, ⟨(fun h => by cases h), fun h => absurd h (bidOk_no hkm (by unfold bidOk; rw [hgb, if_neg hbe, hgx]; exact fun h5 => by have := h5.1; omega))⟩, H.below⟩
           | exact ret_one rfl hd ⟨_, rfl, ⟨(fun h => by cases h), fun h => absurd h (bidOk_no hkm (by unfold bidOk; rw [hgb, if_neg hbe, hgx]; exact fun h5 => by have h6 := h5.2 j (by omega); have h7 := h181; rw [nowV_at] at h7; omega))⟩, H.below⟩
           | exact ret_one rfl hd ⟨_, rfl, ⟨(fun h => by cases h), fun h => absurd h (hno (by omega))⟩, H.below⟩
           | exact ret_one rfl hd ⟨_, rfl, ⟨(fun h => by cases h), fun h => (by have h5 := h.2.2.2.1 k (by omega); rw [hgx] at h5; omega)⟩, H.below⟩
        ·
         refine D_takeTw 27 rfl rfl rfl rfl rfl (by kernel_rfl) (fun w K Z kk => E_move kk) ?_
         refine D_takeTw 28 rfl rfl rfl rfl rfl (by kernel_rfl) (fun w K Z kk => E_move kk) ?_
         refine D_takeTw 29 rfl rfl rfl rfl rfl (by kernel_rfl) (fun w K Z kk => E_idxb rfl rfl (by omega) (by omega) kk) ?_
         refine D_takew 30 rfl rfl rfl rfl rfl (by kernel_rfl) (by first | exact H | exact H.drop | exact H.drop.drop | exact H.drop.drop.drop | exact H.drop.drop.drop.drop) (fun w HS K Z kk => E_loadt k HS rfl (by simp) (by omega) kk) ?_
         refine D_takeTw 31 rfl rfl rfl rfl rfl (by kernel_rfl) (fun w K Z kk => E_eql rfl rfl kk) ?_
         refine D_takeTw 32 rfl rfl rfl rfl rfl (by kernel_rfl) (fun w K Z kk => E_move kk) ?_
         refine D_part (t := 115) rfl (fun h115 => ?_) (fun h115 => ?_)
         ·
          refine D_takeTw 33 rfl rfl rfl rfl rfl (by kernel_rfl) (fun w K Z kk => E_fieldAddr rfl kk) ?_
          refine D_takew 34 rfl rfl rfl rfl rfl (by kernel_rfl) (by first | exact H | exact H.drop | exact H.drop.drop | exact H.drop.drop.drop | exact H.drop.drop.drop.drop) (fun w HS K Z kk => E_load HS rfl rfl kk) ?_
          refine D_takeTw 35 rfl rfl rfl rfl rfl (by kernel_rfl) (fun w K Z kk => E_move kk) ?_
          refine D_takeTw 36 rfl rfl rfl rfl rfl (by kernel_rfl) (fun w K Z kk => E_idxr rp rfl rfl (by omega) (by omega) kk) ?_
          refine D_takew 37 rfl rfl rfl rfl rfl (by kernel_rfl) (by first | exact H | exact H.drop | exact H.drop.drop | exact H.drop.drop.drop | exact H.drop.drop.drop.drop) (fun w HS K Z kk => E_loadi rp HS rfl hx kk) ?_
          refine D_takeTw 38 rfl rfl rfl rfl rfl (by kernel_rfl) (fun w K Z kk => E_fieldAddr rfl kk) ?_
          refine D_takew 39 rfl rfl rfl rfl rfl (by kernel_rfl) (by first | exact H | exact H.drop | exact H.drop.drop | exact H.drop.drop.drop | exact H.drop.drop.drop.drop) (fun w HS K Z kk => E_load HS rfl rfl kk) ?_
          refine D_takeTw 40 rfl rfl rfl rfl rfl (by kernel_rfl) (fun w K Z kk => E_move kk) ?_
          refine D_takeTw 41 rfl rfl rfl rfl rfl (by kernel_rfl) (fun w K Z kk => E_idxr ra rfl rfl (by omega) (by omega) kk) ?_
          refine D_takew 42 rfl rfl rfl rfl rfl (by kernel_rfl) (by first | exact H | exact H.drop | exact H.drop.drop | exact H.drop.drop.drop | exact H.drop.drop.drop.drop) (fun w HS K Z kk => E_loadi ra HS rfl hr kk) ?_
          refine D_takeTw 43 rfl rfl rfl rfl rfl (by kernel_rfl) (fun w K Z kk => E_neq rfl rfl kk) ?_
          refine D_takeTw 44 rfl rfl rfl rfl rfl (by kernel_rfl) (fun w K Z kk => E_pick rfl kk) ?_
          refine D_takeT 45 rfl rfl rfl (by kernel_rfl) (fun w K Z kk => E_pick rfl kk) ?_
          refine D_done (by kernel_rfl) ?_
          refine C_cond (t := 128) rfl (fun h128 => ?_) (fun h128 => ?_)
          ·
           refine C_seq (C_region rfl (R_o rfl (E_assign (R_nil (C_ret ?_)))))
           with_reducible repeat (first | refine thn_ret ?_ | refine inB_ret ?_ | refine noG_ret ?_ | refine jmp_ret ?_)
           first
             | exact ret_one rfl rfl ⟨_, rfl, ⟨(fun h => by cases h), fun h => absurd h.1 h14⟩, H.below⟩
             | exact ret_one rfl rfl ⟨_, rfl, ⟨(fun h => by cases h), fun h => absurd h.2.1 (by omega)⟩, H.below⟩
             | exact ret_one rfl rfl ⟨_, rfl, ⟨(fun h => by cases h), fun h => absurd h.2.2.1 (by omega)⟩, H.below⟩
             | exact ret_one rfl hd ⟨_, rfl, ⟨fun _ => ⟨hok, hl1, hl2, hst0.2, fun j hj => by have h5 := hst j hj; have hc := hst0.1 j hj; rw [List.take_length] at hc; exact ⟨by omega, h5.2.1, fun h0 => h5.2.2 (by omega)⟩, fun i hi => hst3 i (by omega)⟩, fun _ => rfl⟩, H.below⟩
             | exact ret_one rfl hd ⟨_, rfl, ⟨(fun h => by cases h), fun h => absurd h (bidOk_no hkm (by unfold bidOk; rw [hgb, if_pos hbe, hgx]; exact h148))⟩, H.below⟩
             | exact ret_one rfl hd ⟨_, rfl, ⟨(fun h => by cases h), fun h => absurd h (bidOk_no hkm (by unfold bidOk; rw [hgb, if_neg hbe, hgx]; exact fun h5 => by have := h5.1; omega))⟩, H.below⟩
             | exact ret_one rfl hd ⟨_, rfl, ⟨(fun h => by cases h), fun h => absurd h (bidOk_no hkm (by unfold bidOk; rw [hgb, if_neg hbe, hgx]; exact fun h5 => by have h6 := h5.2 j (by omega); have h7 := h181; rw [nowV_at] at h7; omega))⟩, H.below⟩
             | exact ret_one rfl hd ⟨_, rfl, ⟨(fun h => by cases h), fun h => absurd h (hno (by omega))⟩, H.below⟩
             | exact ret_one rfl hd ⟨_, rfl, ⟨(fun h => by cases h), fun h => (by have h5 := h.2.2.2.1 k (by omega); rw [hgx] at h5; omega)⟩, H.below⟩
          ·
           refine C_skip (C_region rfl (R_o rfl (E_move (R_o rfl (E_add rfl rfl (by omega) ?_)))))
           refine R_o rfl (E_assign (R_nil (⟨hd, o.pri.length - (k + 1), by omega, k + 1, rfl, rfl, by omega, all_succ.2 ⟨hst, hyes ⟨by omega, ⟨by omega, by omega⟩, fun h0 => by omega⟩⟩, H⟩)))
         ·
          refine D_passT 33 rfl rfl rfl rfl rfl (by kernel_rfl) ?_
          refine D_passT 34 rfl rfl rfl rfl rfl (by kernel_rfl) ?_
          refine D_passT 35 rfl rfl rfl rfl rfl (by kernel_rfl) ?_
          refine D_passT 36 rfl rfl rfl rfl rfl (by kernel_rfl) ?_
          refine D_passT 37 rfl rfl rfl rfl rfl (by kernel_rfl) ?_
          refine D_passT 38 rfl rfl rfl rfl rfl (by kernel_rfl) ?_
          refine D_passT 39 rfl rfl rfl rfl rfl (by kernel_rfl) ?_
          refine D_passT 40 rfl rfl rfl rfl rfl (by kernel_rfl) ?_
          refine D_passT 41 rfl rfl rfl rfl rfl (by kernel_rfl) ?_
          refine D_passT 42 rfl rfl rfl rfl rfl (by kernel_rfl) ?_
          refine D_passT 43 rfl rfl rfl rfl rfl (by kernel_rfl) ?_
          refine D_takeTw 44 rfl rfl rfl rfl rfl (by kernel_rfl) (fun w K Z kk => E_pick rfl kk) ?_
          refine D_takeT 45 rfl rfl rfl (by kernel_rfl) (fun w K Z kk => E_pick rfl kk) ?_
          refine D_done (by kernel_rfl) ?_
          refine C_false (t := 128) rfl ?_
          refine C_skip (C_region rfl (R_o rfl (E_move (R_o rfl (E_add rfl rfl (by omega) ?_)))))
          refine R_o rfl (E_assign (R_nil (⟨hd, o.pri.length - (k + 1), by omega, k + 1, rfl, rfl, by omega, all_succ.2 ⟨hst, hyes ⟨by omega, ⟨by omega, by omega⟩, fun h0 => by omega⟩⟩, H⟩)))
     ·
      obtain rfl : k = o.pri.length := by omega
      have hpp : ∀ j, j < o.pri.length → 0 ≤ o.pri.getD j 0 ∧ o.pri.getD j 0 ≤ 2000000 := fun j hj => by have h1 := (hst j hj).2.1; have h2 := res_bound hok j; unfold priOk at h1; omega
      refine C_exit ?_
      refine C_seq (C_seq (C_region rfl (R_o rfl (E_assign (R_nil (C_block (C_loop (ds := []) [2, 3, 8] (fun m_ vs w => ∃ k : Nat, vs = [.pointer (some ⟨b2, 0, none⟩), .pointer (some ⟨b3, 0, none⟩), .int .i64 k] ∧ m_ = o.has.length - k ∧ k ≤ o.has.length ∧ (∀ i, i < k → bidOk m o i) ∧ Loc w0 w [cl b2 25 [.slice A1 m.res.length c1, .slice A2 m.bids.length c2, c], cl b3 27 [.slice A3 o.has.length c3, .slice A4 o.pri.length c4]]) (m := o.has.length) (by first | rfl | exact hd) ?_ ?_)))))))
      · exact ⟨0, rfl, by omega, by omega, fun j h => by omega, H.al⟩
      intro m vs ρ₀ w hd hI
      clear H
      obtain ⟨k, rfl, rfl, hk, hst3, H⟩ := hI
      refine C_seq (C_seq (C_region rfl (R_o rfl (E_move (R_o rfl (E_fieldAddr rfl ?_))))))
      refine R_o rfl (E_load H rfl rfl ?_)
      refine R_o rfl (E_len rfl ?_)
      refine R_o rfl (E_lss rfl rfl ?_)
      refine R_nil (C_cond (t := 133) rfl (fun hlt3 => ?_) (fun hlt3 => ?_))
      ·
       obtain ⟨x, hx⟩ := get_of (xs := o.has) (k := k) (by omega)
       have hkm : k < m.bids.length := by omega
       obtain ⟨bd, hbd⟩ := get_of hkm
       have hgx : o.has.getD k 0 = x := getD_of hx
       have hgb : m.bids.getD k [] = bd := getD_of hbd
       have hx2 := hst0.2 k (by omega)
       rw [hgx] at hx2
       obtain ⟨ub, hcb, hub⟩ := rb.at hbd
       obtain ⟨Ab, cb, rfl, hub1, hub2⟩ := hub.len
       refine C_skip (C_seq (C_block (C_seq (C_seq (C_region rfl (R_o rfl (E_fieldAddr rfl ?_)))))))
       refine R_o rfl (E_load H rfl rfl ?_)
       refine R_o rfl (E_move (R_o rfl (E_idxr rb rfl rfl (by omega) (by omega) ?_)))
       refine R_o rfl (E_loadc hcb H rfl ?_)
       refine R_o rfl (E_len rfl ?_)
       refine R_o rfl (E_eql rfl rfl ?_)
       refine R_nil (C_cond (t := 142) rfl (fun h142 => ?_) (fun h142 => ?_))
       ·
        have hbe : bd = [] := List.eq_nil_of_length_eq_zero (by omega)
        refine C_seq (C_seq (C_region rfl (R_o rfl (E_fieldAddr rfl ?_))))
        refine R_o rfl (E_load H rfl rfl ?_)
        refine R_o rfl (E_move (R_o rfl (E_idxr rh rfl rfl (by omega) (by omega) ?_)))
        refine R_o rfl (E_loadi rh H rfl hx ?_)
        refine R_o rfl (E_neq rfl rfl ?_)
        refine R_nil (C_cond (t := 148) rfl (fun h148 => ?_) (fun h148 => ?_))
        ·
         refine C_seq (C_region rfl (R_o rfl (E_assign (R_nil (C_ret ?_)))))
         with_reducible repeat (first | refine thn_ret ?_ | refine inB_ret ?_ | refine noG_ret ?_ | refine jmp_ret ?_)
         first
           | exact ret_one rfl rfl ⟨_, rfl, ⟨(fun h => by cases h), fun h => absurd h.1 h14⟩, H.below⟩
           | exact ret_one rfl rfl ⟨_, rfl, ⟨(fun h => by cases h), fun h => absurd h.2.1 (by omega)⟩, H.below⟩
           | exact ret_one rfl rfl ⟨_, rfl, ⟨(fun h => by cases h), fun h => absurd h.2.2.1 (by omega)⟩, H.below⟩
           | exact ret_one rfl hd ⟨_, rfl, ⟨fun _ => ⟨hok, hl1, hl2, hst0.2, fun j hj => by have h5 := hst j hj; have hc := hst0.1 j hj; rw [List.take_length] at hc; exact ⟨by omega, h5.2.1, fun h0 => h5.2.2 (by omega)⟩, fun i hi => hst3 i (by omega)⟩, fun _ => rfl⟩, H.below⟩
           | exact ret_one rfl hd ⟨_, rfl, ⟨(fun h => by cases h), fun h => absurd h (bidOk_no hkm (by unfold bidOk; rw [hgb, if_pos hbe, hgx]; exact h148))⟩, H.below⟩
           | exact ret_one rfl hd ⟨_, rfl, ⟨(fun h => by cases h), fun h => absurd h (bidOk_no hkm (by unfold bidOk; rw [hgb, if_neg hbe, hgx]; exact fun h5 => by have := h5.1; omega))⟩, H.below⟩
           | exact ret_one rfl hd ⟨_, rfl, ⟨(fun h => by cases h), fun h => absurd h (bidOk_no hkm (by unfold bidOk; rw [hgb, if_neg hbe, hgx]; exact fun h5 => by have h6 := h5.2 j (by omega); have h7 := h181; rw [nowV_at] at h7; omega))⟩, H.below⟩
           | exact ret_one rfl hd ⟨_, rfl, ⟨(fun h => by cases h), fun h => absurd h (hno (by omega))⟩, H.below⟩
           | exact ret_one rfl hd ⟨_, rfl, ⟨(fun h => by cases h), fun h => (by have h5 := h.2.2.2.1 k (by omega); rw [hgx] at h5; omega)⟩, H.below⟩
        ·
         have hbw : bidOk m o k := by unfold bidOk; rw [hgb, if_pos hbe, hgx]; exact Decidable.of_not_not h148
         refine C_skip (C_exit ?_)
         refine C_region rfl (R_o rfl (E_move (R_o rfl (E_add rfl rfl (by omega) ?_))))
         refine R_o rfl (E_assign (R_nil (⟨hd, o.has.length - (k + 1), by omega, k + 1, rfl, rfl, by omega, all_succ.2 ⟨hst3, hbw⟩, H⟩)))
       ·
        have hbe : bd ≠ [] := fun e => h142 (by rw [e]; rfl)
        have hbd2 := bid_bound hok hkm (by rw [hgb]; exact hbe)
        rw [hgb] at hbd2
        have hbl : bd.length = o.pri.length := by omega
        have hbb := hbd2.2
        refine C_skip (C_seq (C_drawL [] H (by kernel_rfl) (fun w H => ?_)))
        refine D_takeT 0 rfl rfl rfl (by kernel_rfl) (fun w K Z kk => E_fieldAddr rfl kk) ?_
        refine D_take 1 rfl rfl rfl (by kernel_rfl) (by first | exact H | exact H.drop | exact H.drop.drop | exact H.drop.drop.drop | exact H.drop.drop.drop.drop) (fun w HS K Z kk => E_load HS rfl rfl kk) ?_
        refine D_takeT 2 rfl rfl rfl (by kernel_rfl) (fun w K Z kk => E_move kk) ?_
        refine D_takeT 3 rfl rfl rfl (by kernel_rfl) (fun w K Z kk => E_idxr rb rfl rfl (by omega) (by omega) kk) ?_
        refine D_take 4 rfl rfl rfl (by kernel_rfl) (by first | exact H | exact H.drop | exact H.drop.drop | exact H.drop.drop.drop | exact H.drop.drop.drop.drop) (fun w HS K Z kk => E_loadc hcb HS rfl kk) ?_
        refine D_takeT 5 rfl rfl rfl (by kernel_rfl) (fun w K Z kk => E_fieldAddr rfl kk) ?_
        refine D_take 6 rfl rfl rfl (by kernel_rfl) (by first | exact H | exact H.drop | exact H.drop.drop | exact H.drop.drop.drop | exact H.drop.drop.drop.drop) (fun w HS K Z kk => E_load HS rfl rfl kk) ?_
        refine D_takeT 7 rfl rfl rfl (by kernel_rfl) (fun w K Z kk => E_fieldAddr rfl kk) ?_
        refine D_take 8 rfl rfl rfl (by kernel_rfl) (by first | exact H | exact H.drop | exact H.drop.drop | exact H.drop.drop.drop | exact H.drop.drop.drop.drop) (fun w HS K Z kk => E_load HS rfl rfl kk) ?_
        refine D_takeT 9 rfl rfl rfl (by kernel_rfl) (fun w K Z kk => E_move kk) ?_
        refine D_takeT 10 rfl rfl rfl (by kernel_rfl) (fun w K Z kk => E_idxr rh rfl rfl (by omega) (by omega) kk) ?_
        refine D_take 11 rfl rfl rfl (by kernel_rfl) (by first | exact H | exact H.drop | exact H.drop.drop | exact H.drop.drop.drop | exact H.drop.drop.drop.drop) (fun w HS K Z kk => E_loadi rh HS rfl hx kk) ?_
        refine D_act 12 rfl rfl (by kernel_rfl) (E_call rfl (R15has_ (b := bd) (p := o.pri) (x := x) (Abides.below H.below hub) (Abides.below H.below rp) hbl hx2 hbb hpp) ?_)
        rintro _ w1 ⟨rfl, hb⟩
        replace H := H.call0 hb; clear hb
        refine ⟨fun _ _ => (by first | exact H | exact H.drop | exact H.drop.drop | exact H.drop.drop.drop | exact H.drop.drop.drop.drop), ?_⟩
        refine D_takeT 13 rfl rfl rfl (by kernel_rfl) (fun w K Z kk => E_assign kk) ?_
        refine D_done (by kernel_rfl) ?_
        refine C_seq (C_seq (C_region rfl (R_o rfl (E_move (R_o rfl (E_lss rfl rfl ?_))))))
        refine R_nil (C_cond (t := 163) rfl (fun h163 => ?_) (fun h163 => ?_))
        ·
         refine C_seq (C_region rfl (R_o rfl (E_assign (R_nil (C_ret ?_)))))
         with_reducible repeat (first | refine thn_ret ?_ | refine inB_ret ?_ | refine noG_ret ?_ | refine jmp_ret ?_)
         first
           | exact ret_one rfl rfl ⟨_, rfl, ⟨(fun h => by cases h), fun h => absurd h.1 h14⟩, H.below⟩
           | exact ret_one rfl rfl ⟨_, rfl, ⟨(fun h => by cases h), fun h => absurd h.2.1 (by omega)⟩, H.below⟩
           | exact ret_one rfl rfl ⟨_, rfl, ⟨(fun h => by cases h), fun h => absurd h.2.2.1 (by omega)⟩, H.below⟩
           | exact ret_one rfl hd ⟨_, rfl, ⟨fun _ => ⟨hok, hl1, hl2, hst0.2, fun j hj => by have h5 := hst j hj; have hc := hst0.1 j hj; rw [List.take_length] at hc; exact ⟨by omega, h5.2.1, fun h0 => h5.2.2 (by omega)⟩, fun i hi => hst3 i (by omega)⟩, fun _ => rfl⟩, H.below⟩
           | exact ret_one rfl hd ⟨_, rfl, ⟨(fun h => by cases h), fun h => absurd h (bidOk_no hkm (by unfold bidOk; rw [hgb, if_pos hbe, hgx]; exact h148))⟩, H.below⟩
           | exact ret_one rfl hd ⟨_, rfl, ⟨(fun h => by cases h), fun h => absurd h (bidOk_no hkm (by unfold bidOk; rw [hgb, if_neg hbe, hgx]; exact fun h5 => by have := h5.1; omega))⟩, H.below⟩
           | exact ret_one rfl hd ⟨_, rfl, ⟨(fun h => by cases h), fun h => absurd h (bidOk_no hkm (by unfold bidOk; rw [hgb, if_neg hbe, hgx]; exact fun h5 => by have h6 := h5.2 j (by omega); have h7 := h181; rw [nowV_at] at h7; omega))⟩, H.below⟩
           | exact ret_one rfl hd ⟨_, rfl, ⟨(fun h => by cases h), fun h => absurd h (hno (by omega))⟩, H.below⟩
           | exact ret_one rfl hd ⟨_, rfl, ⟨(fun h => by cases h), fun h => (by have h5 := h.2.2.2.1 k (by omega); rw [hgx] at h5; omega)⟩, H.below⟩
        ·
         refine C_skip (C_seq (C_region rfl (R_o rfl (E_assign (R_nil (C_block (C_loop (ds := []) [2, 3, 8, 9, 10] (fun m_ vs w => ∃ j : Nat, vs = [.pointer (some ⟨b2, 0, none⟩), .pointer (some ⟨b3, 0, none⟩), .int .i64 (k : Int), .int .i64 (nowV bd o.pri x), .int .i64 (j : Int)] ∧ m_ = o.pri.length - j ∧ j ≤ o.pri.length ∧ (∀ j2, j2 < j → bd.getD j2 0 - o.pri.getD j2 0 ≤ nowV bd o.pri x) ∧ Loc w0 w [cl b2 25 [.slice A1 m.res.length c1, .slice A2 m.bids.length c2, c], cl b3 27 [.slice A3 o.has.length c3, .slice A4 o.pri.length c4]]) (m := o.pri.length) (by first | rfl | exact hd) ?_ ?_)))))))
         · exact ⟨0, rfl, by omega, by omega, fun j2 h => by omega, H⟩
         intro m vs ρ₀ w hd hI
         clear H
         obtain ⟨j, rfl, rfl, hj, hrow, H⟩ := hI
         refine C_seq (C_seq (C_region rfl (R_o rfl (E_move (R_o rfl (E_fieldAddr rfl ?_))))))
         refine R_o rfl (E_load H rfl rfl ?_)
         refine R_o rfl (E_len rfl ?_)
         refine R_o rfl (E_lss rfl rfl ?_)
         refine R_nil (C_cond (t := 168) rfl (fun hlt4 => ?_) (fun hlt4 => ?_))
         ·
          refine C_skip (C_seq (C_block (C_seq (C_drawL [] H (by kernel_rfl) (fun w H => ?_)))))
          refine D_takeT 0 rfl rfl rfl (by kernel_rfl) (fun w K Z kk => E_fieldAddr rfl kk) ?_
          refine D_take 1 rfl rfl rfl (by kernel_rfl) (by first | exact H | exact H.drop | exact H.drop.drop | exact H.drop.drop.drop | exact H.drop.drop.drop.drop) (fun w HS K Z kk => E_load HS rfl rfl kk) ?_
          refine D_takeT 2 rfl rfl rfl (by kernel_rfl) (fun w K Z kk => E_move kk) ?_
          refine D_takeT 3 rfl rfl rfl (by kernel_rfl) (fun w K Z kk => E_idxr rb rfl rfl (by omega) (by omega) kk) ?_
          refine D_take 4 rfl rfl rfl (by kernel_rfl) (by first | exact H | exact H.drop | exact H.drop.drop | exact H.drop.drop.drop | exact H.drop.drop.drop.drop) (fun w HS K Z kk => E_loadc hcb HS rfl kk) ?_
          refine D_takeT 5 rfl rfl rfl (by kernel_rfl) (fun w K Z kk => E_fieldAddr rfl kk) ?_
          refine D_take 6 rfl rfl rfl (by kernel_rfl) (by first | exact H | exact H.drop | exact H.drop.drop | exact H.drop.drop.drop | exact H.drop.drop.drop.drop) (fun w HS K Z kk => E_load HS rfl rfl kk) ?_
          refine D_takeT 7 rfl rfl rfl (by kernel_rfl) (fun w K Z kk => E_move kk) ?_
          refine D_takeT 9 rfl rfl rfl (by kernel_rfl) (fun w K Z kk => E_move kk) ?_
          refine D_act 8 rfl rfl (by kernel_rfl) (E_call rfl (R15has_ (b := bd) (p := o.pri) (x := (j : Int)) (Abides.below H.below hub) (Abides.below H.below rp) hbl (by omega) hbb hpp) ?_)
          rintro _ w1 ⟨rfl, hb⟩
          replace H := H.call0 hb; clear hb
          refine ⟨fun _ _ => (by first | exact H | exact H.drop | exact H.drop.drop | exact H.drop.drop.drop | exact H.drop.drop.drop.drop), ?_⟩
          refine D_takeT 10 rfl rfl rfl (by kernel_rfl) (fun w K Z kk => E_gtr rfl rfl kk) ?_
          refine D_done (by kernel_rfl) ?_
          refine C_cond (t := 181) rfl (fun h181 => ?_) (fun h181 => ?_)
          ·
           refine C_seq (C_region rfl (R_o rfl (E_assign (R_nil (C_ret ?_)))))
           with_reducible repeat (first | refine thn_ret ?_ | refine inB_ret ?_ | refine noG_ret ?_ | refine jmp_ret ?_)
           first
             | exact ret_one rfl rfl ⟨_, rfl, ⟨(fun h => by cases h), fun h => absurd h.1 h14⟩, H.below⟩
             | exact ret_one rfl rfl ⟨_, rfl, ⟨(fun h => by cases h), fun h => absurd h.2.1 (by omega)⟩, H.below⟩
             | exact ret_one rfl rfl ⟨_, rfl, ⟨(fun h => by cases h), fun h => absurd h.2.2.1 (by omega)⟩, H.below⟩
             | exact ret_one rfl hd ⟨_, rfl, ⟨fun _ => ⟨hok, hl1, hl2, hst0.2, fun j hj => by have h5 := hst j hj; have hc := hst0.1 j hj; rw [List.take_length] at hc; exact ⟨by omega, h5.2.1, fun h0 => h5.2.2 (by omega)⟩, fun i hi => hst3 i (by omega)⟩, fun _ => rfl⟩, H.below⟩
             | exact ret_one rfl hd ⟨_, rfl, ⟨(fun h => by cases h), fun h => absurd h (bidOk_no hkm (by unfold bidOk; rw [hgb, if_pos hbe, hgx]; exact h148))⟩, H.below⟩
             | exact ret_one rfl hd ⟨_, rfl, ⟨(fun h => by cases h), fun h => absurd h (bidOk_no hkm (by unfold bidOk; rw [hgb, if_neg hbe, hgx]; exact fun h5 => by have := h5.1; omega))⟩, H.below⟩
             | exact ret_one rfl hd ⟨_, rfl, ⟨(fun h => by cases h), fun h => absurd h (bidOk_no hkm (by unfold bidOk; rw [hgb, if_neg hbe, hgx]; exact fun h5 => by have h6 := h5.2 j (by omega); have h7 := h181; rw [nowV_at] at h7; omega))⟩, H.below⟩
             | exact ret_one rfl hd ⟨_, rfl, ⟨(fun h => by cases h), fun h => absurd h (hno (by omega))⟩, H.below⟩
             | exact ret_one rfl hd ⟨_, rfl, ⟨(fun h => by cases h), fun h => (by have h5 := h.2.2.2.1 k (by omega); rw [hgx] at h5; omega)⟩, H.below⟩
          ·
           refine C_skip (C_region rfl (R_o rfl (E_move (R_o rfl (E_add rfl rfl (by omega) ?_)))))
           refine R_o rfl (E_assign (R_nil ?_))
           exact ⟨hd, o.pri.length - (j + 1), by omega, j + 1, rfl, rfl, by omega, all_succ.2 ⟨hrow, by have := h181; rw [nowV_at] at this; omega⟩, H⟩
         ·
          obtain rfl : j = o.pri.length := by omega
          have hbw : bidOk m o k := by unfold bidOk; rw [hgb, if_neg hbe, hgx]; exact ⟨by omega, hrow⟩
          refine C_exit ?_
          refine C_region rfl (R_o rfl (E_move (R_o rfl (E_add rfl rfl (by omega) ?_))))
          refine R_o rfl (E_assign (R_nil (⟨hd, o.has.length - (k + 1), by omega, k + 1, rfl, rfl, by omega, all_succ.2 ⟨hst3, hbw⟩, H⟩)))
      ·
       obtain rfl : k = o.has.length := by omega
       refine C_exit ?_
       refine C_seq (C_region rfl (R_o rfl (E_assign (R_nil (C_ret ?_)))))
       with_reducible repeat (first | refine thn_ret ?_ | refine inB_ret ?_ | refine noG_ret ?_ | refine jmp_ret ?_)
       first
         | exact ret_one rfl rfl ⟨_, rfl, ⟨(fun h => by cases h), fun h => absurd h.1 h14⟩, H.below⟩
         | exact ret_one rfl rfl ⟨_, rfl, ⟨(fun h => by cases h), fun h => absurd h.2.1 (by omega)⟩, H.below⟩
         | exact ret_one rfl rfl ⟨_, rfl, ⟨(fun h => by cases h), fun h => absurd h.2.2.1 (by omega)⟩, H.below⟩
         | exact ret_one rfl hd ⟨_, rfl, ⟨fun _ => ⟨hok, hl1, hl2, hst0.2, fun j hj => by have h5 := hst j hj; have hc := hst0.1 j hj; rw [List.take_length] at hc; exact ⟨by omega, h5.2.1, fun h0 => h5.2.2 (by omega)⟩, fun i hi => hst3 i (by omega)⟩, fun _ => rfl⟩, H.below⟩
         | exact ret_one rfl hd ⟨_, rfl, ⟨(fun h => by cases h), fun h => absurd h (bidOk_no hkm (by unfold bidOk; rw [hgb, if_pos hbe, hgx]; exact h148))⟩, H.below⟩
         | exact ret_one rfl hd ⟨_, rfl, ⟨(fun h => by cases h), fun h => absurd h (bidOk_no hkm (by unfold bidOk; rw [hgb, if_neg hbe, hgx]; exact fun h5 => by have := h5.1; omega))⟩, H.below⟩
         | exact ret_one rfl hd ⟨_, rfl, ⟨(fun h => by cases h), fun h => absurd h (bidOk_no hkm (by unfold bidOk; rw [hgb, if_neg hbe, hgx]; exact fun h5 => by have h6 := h5.2 j (by omega); have h7 := h181; rw [nowV_at] at h7; omega))⟩, H.below⟩
         | exact ret_one rfl hd ⟨_, rfl, ⟨(fun h => by cases h), fun h => absurd h (hno (by omega))⟩, H.below⟩
         | exact ret_one rfl hd ⟨_, rfl, ⟨(fun h => by cases h), fun h => (by have h5 := h.2.2.2.1 k (by omega); rw [hgx] at h5; omega)⟩, H.below⟩
end Go.Sl
