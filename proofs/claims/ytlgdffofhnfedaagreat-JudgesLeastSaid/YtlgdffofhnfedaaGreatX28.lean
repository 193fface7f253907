/- are prices even?. -/
import Derived.Test.YtlgdffofhnfedaaGreatX27
set_option linter.unusedVariables false
set_option linter.unusedSimpArgs false
set_option maxRecDepth 10000
set_option maxHeartbeats 2000000
namespace Go.Sl
open Go.RowKit
open Go.Proofs
theorem oHas_ {w0 : World} {u v : Value} {b p : List Int} {x : Int} (hb : RdI w0 u b) (hp : RdI w0 v p) (hl : b.length = p.length) (hx : -1 ≤ x ∧ x < (p.length : Int)) :
   Ret Tryz.prog 54 [u, v, .int .i64 x] w0 (fun r w => r = .int .i64 (nowW b p x) ∧ Below w0.heap.size w0 w) := by
 refine ret_of_C Tryz.func54 rfl rfl rfl ?_
 have H := Loc.refl w0
 obtain ⟨A, c, rfl, hc1, hc2⟩ := hb.len
 obtain ⟨B, d, rfl, hd1, hd2⟩ := hp.len
 refine C_seq (C_region rfl (R_o rfl (E_assign (R_nil (C_seq (C_seq (C_region rfl (R_o rfl (E_move (R_o rfl (E_eql rfl rfl ?_)))))))))))
 refine R_nil (C_cond (t := 8) rfl (fun h8 => ?_) (fun h8 => ?_))
 ·
  refine C_seq (C_region rfl (R_o rfl (E_assign (R_nil (C_ret ?_)))))
  with_reducible repeat (first | refine thn_ret ?_ | refine inB_ret ?_ | refine noG_ret ?_ | refine jmp_ret ?_)
  first
    | exact ret_one rfl rfl ⟨by unfold nowW; rw [if_pos h8]; rfl, H.below⟩
    | exact ret_one rfl rfl ⟨by unfold nowW; rw [if_neg h8, getD_of hy, getD_of hz]; rfl, H.below⟩
 ·
  obtain ⟨y, hy⟩ := get_of (xs := b) (k := x.toNat) (by omega)
  obtain ⟨z, hz⟩ := get_of (xs := p) (k := x.toNat) (by omega)
  refine C_skip (C_seq (C_drawL [] H (by kernel_rfl) (fun w H => ?_)))
  refine D_takeT 0 rfl rfl rfl (by kernel_rfl) (fun w K Z kk => E_move kk) ?_
  refine D_takeT 1 rfl rfl rfl (by kernel_rfl) (fun w K Z kk => E_move kk) ?_
  refine D_takeT 2 rfl rfl rfl (by kernel_rfl) (fun w K Z kk => E_idxr hb rfl rfl (by omega) (by omega) kk) ?_
  refine D_take 3 rfl rfl rfl (by kernel_rfl) (by first | exact H | exact H.drop | exact H.drop.drop | exact H.drop.drop.drop | exact H.drop.drop.drop.drop) (fun w HS K Z kk => E_loadi hb HS rfl hy kk) ?_
  refine D_takeT 4 rfl rfl rfl (by kernel_rfl) (fun w K Z kk => E_move kk) ?_
  refine D_takeT 5 rfl rfl rfl (by kernel_rfl) (fun w K Z kk => E_move kk) ?_
  refine D_takeT 6 rfl rfl rfl (by kernel_rfl) (fun w K Z kk => E_idxr hp rfl rfl (by omega) (by omega) kk) ?_
  refine D_take 7 rfl rfl rfl (by kernel_rfl) (by first | exact H | exact H.drop | exact H.drop.drop | exact H.drop.drop.drop | exact H.drop.drop.drop.drop) (fun w HS K Z kk => E_loadi hp HS rfl hz kk) ?_
  refine D_takeT 8 rfl rfl rfl (by kernel_rfl) (fun w K Z kk => E_subW rfl rfl kk) ?_
  refine D_takeT 9 rfl rfl rfl (by kernel_rfl) (fun w K Z kk => E_assign kk) ?_
  refine D_done (by kernel_rfl) ?_
  refine C_ret ?_
  with_reducible repeat (first | refine thn_ret ?_ | refine inB_ret ?_ | refine noG_ret ?_ | refine jmp_ret ?_)
  first
    | exact ret_one rfl rfl ⟨by unfold nowW; rw [if_pos h8]; rfl, H.below⟩
    | exact ret_one rfl rfl ⟨by unfold nowW; rw [if_neg h8, getD_of hy, getD_of hz]; rfl, H.below⟩
theorem R15has_ {w0 : World} {u v : Value} {b p : List Int} {x : Int} (hb : RdI w0 u b) (hp : RdI w0 v p) (hl : b.length = p.length) (hx : -1 ≤ x ∧ x < (p.length : Int)) (hb1 : ∀ j, 0 ≤ b.getD j 0 ∧ b.getD j 0 ≤ 1000000) (hp1 : ∀ j, j < p.length → 0 ≤ p.getD j 0 ∧ p.getD j 0 ≤ 2000000) :
   Ret Tryz.prog 60 [u, v, .int .i64 x] w0 (fun r w => r = .int .i64 (nowV b p x) ∧ Below w0.heap.size w0 w) := by
 refine ret_of_C Tryz.func60 rfl rfl rfl ?_
 have H := Loc.refl w0
 obtain ⟨A, c, rfl, hc1, hc2⟩ := hb.len
 obtain ⟨B, d, rfl, hd1, hd2⟩ := hp.len
 refine C_seq (C_region rfl (R_o rfl (E_assign (R_nil (C_seq (C_seq (C_region rfl (R_o rfl (E_move (R_o rfl (E_lss rfl rfl ?_)))))))))))
 refine R_nil (C_cond (t := 8) rfl (fun h8 => ?_) (fun h8 => ?_))
 ·
  refine C_seq (C_region rfl (R_o rfl (E_assign (R_nil (C_ret ?_)))))
  with_reducible repeat (first | refine thn_ret ?_ | refine inB_ret ?_ | refine noG_ret ?_ | refine jmp_ret ?_)
  first
    | exact ret_one rfl rfl ⟨by unfold nowV; rw [if_pos h8]; rfl, H.below⟩
    | exact ret_one rfl rfl ⟨by unfold nowV; rw [if_neg h8, getD_of hy, getD_of hz]; rfl, H.below⟩
 ·
  obtain ⟨y, hy⟩ := get_of (xs := b) (k := x.toNat) (by omega)
  obtain ⟨z, hz⟩ := get_of (xs := p) (k := x.toNat) (by omega)
  have hyb := hb1 x.toNat
  have hzb := hp1 x.toNat (by omega)
  rw [getD_of hy] at hyb
  rw [getD_of hz] at hzb
  refine C_skip (C_seq (C_drawL [] H (by kernel_rfl) (fun w H => ?_)))
  refine D_takeT 0 rfl rfl rfl (by kernel_rfl) (fun w K Z kk => E_move kk) ?_
  refine D_takeT 1 rfl rfl rfl (by kernel_rfl) (fun w K Z kk => E_move kk) ?_
  refine D_takeT 2 rfl rfl rfl (by kernel_rfl) (fun w K Z kk => E_idxr hb rfl rfl (by omega) (by omega) kk) ?_
  refine D_take 3 rfl rfl rfl (by kernel_rfl) (by first | exact H | exact H.drop | exact H.drop.drop | exact H.drop.drop.drop | exact H.drop.drop.drop.drop) (fun w HS K Z kk => E_loadi hb HS rfl hy kk) ?_
  refine D_takeT 4 rfl rfl rfl (by kernel_rfl) (fun w K Z kk => E_move kk) ?_
  refine D_takeT 5 rfl rfl rfl (by kernel_rfl) (fun w K Z kk => E_move kk) ?_
  refine D_takeT 6 rfl rfl rfl (by kernel_rfl) (fun w K Z kk => E_idxr hp rfl rfl (by omega) (by omega) kk) ?_
  refine D_take 7 rfl rfl rfl (by kernel_rfl) (by first | exact H | exact H.drop | exact H.drop.drop | exact H.drop.drop.drop | exact H.drop.drop.drop.drop) (fun w HS K Z kk => E_loadi hp HS rfl hz kk) ?_
  refine D_takeT 8 rfl rfl rfl (by kernel_rfl) (fun w K Z kk => E_sub rfl rfl (by omega) kk) ?_
  refine D_takeT 9 rfl rfl rfl (by kernel_rfl) (fun w K Z kk => E_assign kk) ?_
  refine D_done (by kernel_rfl) ?_
  refine C_ret ?_
  with_reducible repeat (first | refine thn_ret ?_ | refine inB_ret ?_ | refine noG_ret ?_ | refine jmp_ret ?_)
  first
    | exact ret_one rfl rfl ⟨by unfold nowV; rw [if_pos h8]; rfl, H.below⟩
    | exact ret_one rfl rfl ⟨by unfold nowV; rw [if_neg h8, getD_of hy, getD_of hz]; rfl, H.below⟩
theorem nowW_at {b p : List Int} {j : Nat} : nowW b p (j : Int) = W64 (b.getD j 0 - p.getD j 0) := by unfold nowW; rw [if_neg (by omega), Int.toNat_natCast]
theorem nowV_at {b p : List Int} {j : Nat} : nowV b p (j : Int) = b.getD j 0 - p.getD j 0 := by unfold nowV; rw [if_neg (by omega), Int.toNat_natCast]
theorem all_succ {P : Nat → Prop} {k : Nat} : (∀ j, j < k + 1 → P j) ↔ (∀ j, j < k → P j) ∧ P k :=
 ⟨fun h => ⟨fun j hj => h j (by omega), h k (by omega)⟩, fun h j hj => by
   by_cases e : j = k
   · subst e; exact h.2
   · exact h.1 j (by omega)⟩
theorem Even_ {w0 : World} {u v : Value} {m : Mk} {o : Oc} (hm : RdM w0 u m) (ho : RdO w0 v o) :
   Ret Tryz.prog 34 [u, v] w0 (fun r w => ∃ b, r = .bool b ∧ (b = true ↔ evenV m o) ∧ Below w0.heap.size w0 w) := by
 refine ret_of_C Tryz.func34 rfl rfl rfl ?_
 have H := Loc.refl w0
 have hm0 := hm
 obtain ⟨a, b, c, rfl, ra, rb, rc⟩ := hm
 obtain ⟨ha, pa, rfl, rh, rp⟩ := ho
 obtain ⟨A1, c1, rfl, hA1, hA2⟩ := ra.len
 obtain ⟨A2, c2, rfl, hB1, hB2⟩ := rb.len
 obtain ⟨A3, c3, rfl, hC1, hC2⟩ := rh.len
 obtain ⟨A4, c4, rfl, hD1, hD2⟩ := rp.len
 refine C_seq (C_region rfl (R_o rfl (E_box (cs := [.slice A1 m.res.length c1, .slice A2 m.bids.length c2, c]) rfl H ?_)))
 clear H; intro w b2 H
 refine R_o rfl (E_box (cs := [.slice A3 o.has.length c3, .slice A4 o.pri.length c4]) rfl H ?_)
 clear H; intro w b3 H
 refine R_o rfl (E_assign (R_nil (C_scope (C_seq (C_seq (C_region rfl (R_o rfl (E_loadw H rfl (by rfl) ?_))))))))
 refine R_o rfl (E_call rfl (Check_ (Abides.below H.below hm0)) ?_)
 rintro _ w1 ⟨rfl, hb⟩
 replace H := H.call0 hb; clear hb
 refine R_o rfl (E_not rfl ?_)
 refine R_o rfl (E_move (R_part (t := 19) rfl (fun h19 => ?_) (fun h19 => ?_)))
 ·
  refine R_p rfl rfl rfl ?_
  refine R_p rfl rfl rfl ?_
  refine R_p rfl rfl rfl ?_
  refine R_p rfl rfl rfl ?_
  refine R_p rfl rfl rfl ?_
  refine R_p rfl rfl rfl ?_
  refine R_p rfl rfl rfl ?_
  refine R_o rfl (E_pick rfl ?_)
  refine R_o rfl (E_move (R_p rfl rfl rfl ?_))
  refine R_p rfl rfl rfl ?_
  refine R_p rfl rfl rfl ?_
  refine R_p rfl rfl rfl ?_
  refine R_p rfl rfl rfl ?_
  refine R_p rfl rfl rfl ?_
  refine R_p rfl rfl rfl ?_
  refine R_o rfl (E_pick rfl ?_)
  refine R_nil (C_true (t := 36) rfl ?_)
  refine C_seq (C_region rfl (R_o rfl (E_assign (R_nil (C_ret ?_)))))
  with_reducible repeat (first | refine thn_ret ?_ | refine inB_ret ?_ | refine noG_ret ?_ | refine jmp_ret ?_)
  first
    | exact ret_one rfl rfl ⟨_, rfl, ⟨(fun h => by cases h), fun h => absurd h.1 h19⟩, H.below⟩
    | exact ret_one rfl rfl ⟨_, rfl, ⟨(fun h => by cases h), fun h => absurd h.2.1 (by omega)⟩, H.below⟩
    | exact ret_one rfl rfl ⟨_, rfl, ⟨(fun h => by cases h), fun h => absurd h.2.2.1 (by omega)⟩, H.below⟩
    | exact ret_one rfl hd ⟨_, rfl, by rw [decide_eq_true_iff, tab_inj, ← hfin, ← hev]; exact ⟨fun h => ⟨h138, h⟩, fun h => h.2⟩, H.below⟩
    | exact ret_one rfl hd ⟨_, rfl, by rw [← hfin, ← hev, h138]; exact ⟨(fun h => by cases h), fun h => by cases h.1⟩, H.below⟩
 ·
  have hok := Decidable.of_not_not h19
  refine R_w rfl rfl rfl (E_fieldAddr rfl ?_)
  refine R_w rfl rfl rfl (E_load H rfl rfl ?_)
  refine R_w rfl rfl rfl (E_len rfl ?_)
  refine R_w rfl rfl rfl (E_fieldAddr rfl ?_)
  refine R_w rfl rfl rfl (E_load H rfl rfl ?_)
  refine R_w rfl rfl rfl (E_len rfl ?_)
  refine R_w rfl rfl rfl (E_neq rfl rfl ?_)
  refine R_o rfl (E_pick rfl ?_)
  refine R_o rfl (E_move (R_part (t := 28) rfl (fun h28 => ?_) (fun h28 => ?_)))
  ·
   refine R_p rfl rfl rfl ?_
   refine R_p rfl rfl rfl ?_
   refine R_p rfl rfl rfl ?_
   refine R_p rfl rfl rfl ?_
   refine R_p rfl rfl rfl ?_
   refine R_p rfl rfl rfl ?_
   refine R_p rfl rfl rfl ?_
   refine R_o rfl (E_pick rfl ?_)
   refine R_nil (C_true (t := 36) rfl ?_)
   refine C_seq (C_region rfl (R_o rfl (E_assign (R_nil (C_ret ?_)))))
   with_reducible repeat (first | refine thn_ret ?_ | refine inB_ret ?_ | refine noG_ret ?_ | refine jmp_ret ?_)
   first
     | exact ret_one rfl rfl ⟨_, rfl, ⟨(fun h => by cases h), fun h => absurd h.1 h19⟩, H.below⟩
     | exact ret_one rfl rfl ⟨_, rfl, ⟨(fun h => by cases h), fun h => absurd h.2.1 (by omega)⟩, H.below⟩
     | exact ret_one rfl rfl ⟨_, rfl, ⟨(fun h => by cases h), fun h => absurd h.2.2.1 (by omega)⟩, H.below⟩
     | exact ret_one rfl hd ⟨_, rfl, by rw [decide_eq_true_iff, tab_inj, ← hfin, ← hev]; exact ⟨fun h => ⟨h138, h⟩, fun h => h.2⟩, H.below⟩
     | exact ret_one rfl hd ⟨_, rfl, by rw [← hfin, ← hev, h138]; exact ⟨(fun h => by cases h), fun h => by cases h.1⟩, H.below⟩
  ·
   refine R_w rfl rfl rfl (E_fieldAddr rfl ?_)
   refine R_w rfl rfl rfl (E_load H rfl rfl ?_)
   refine R_w rfl rfl rfl (E_len rfl ?_)
   refine R_w rfl rfl rfl (E_fieldAddr rfl ?_)
   refine R_w rfl rfl rfl (E_load H rfl rfl ?_)
   refine R_w rfl rfl rfl (E_len rfl ?_)
   refine R_w rfl rfl rfl (E_neq rfl rfl ?_)
   refine R_o rfl (E_pick rfl ?_)
   refine R_nil (C_cond (t := 36) rfl (fun h36 => ?_) (fun h36 => ?_))
   ·
    refine C_seq (C_region rfl (R_o rfl (E_assign (R_nil (C_ret ?_)))))
    with_reducible repeat (first | refine thn_ret ?_ | refine inB_ret ?_ | refine noG_ret ?_ | refine jmp_ret ?_)
    first
      | exact ret_one rfl rfl ⟨_, rfl, ⟨(fun h => by cases h), fun h => absurd h.1 h19⟩, H.below⟩
      | exact ret_one rfl rfl ⟨_, rfl, ⟨(fun h => by cases h), fun h => absurd h.2.1 (by omega)⟩, H.below⟩
      | exact ret_one rfl rfl ⟨_, rfl, ⟨(fun h => by cases h), fun h => absurd h.2.2.1 (by omega)⟩, H.below⟩
      | exact ret_one rfl hd ⟨_, rfl, by rw [decide_eq_true_iff, tab_inj, ← hfin, ← hev]; exact ⟨fun h => ⟨h138, h⟩, fun h => h.2⟩, H.below⟩
      | exact ret_one rfl hd ⟨_, rfl, by rw [← hfin, ← hev, h138]; exact ⟨(fun h => by cases h), fun h => by cases h.1⟩, H.below⟩
   ·
    have hl1 : o.has.length = m.bids.length := by omega
    have hl2 : o.pri.length = m.res.length := by omega
    have hn1 := hok.1.2.1
    have hn2 := hok.2.1.2
    have hn3 := hok.1.1
    refine C_skip (C_seq (C_region rfl (R_o rfl (E_alloc H ?_))))
    clear H; intro w b5 H
    replace H := H.cle (cs' := tint 8 fun _ => 0) rfl
    refine R_o rfl (E_alloc H ?_)
    clear H; intro w b6 H
    replace H := H.cle (cs' := tint 8 fun _ => 0) rfl
    refine R_nil (C_seq (C_region rfl (R_o rfl (E_assign (R_nil (C_seq (C_label ?_)))))))
    refine C_cutr (ds := []) [2, 3, 5, 6, 7] (fun vs w => ∃ (e0 : Bool) (f : Nat → Int) (kk : Nat), vs = [.pointer (some ⟨b2, 0, none⟩), .pointer (some ⟨b3, 0, none⟩), .pointer (some ⟨b5, 0, none⟩), .pointer (some ⟨b6, 0, none⟩), .bool e0] ∧ kk ≤ o.has.length ∧ CntF o.has kk o.pri.length f ∧ (e0 = true → kk = o.has.length ∧ ∀ i, i < m.bids.length → bidW m o i) ∧ (e0 = false → ¬ evenV m o) ∧ Loc w0 w [cl b5 80 (tint 8 f), cl b6 80 (tint 8 fun _ => 0), cl b2 25 [.slice A1 m.res.length c1, .slice A2 m.bids.length c2, c], cl b3 27 [.slice A3 o.has.length c3, .slice A4 o.pri.length c4]]) ?_ ?_
    ·
     refine C_seq (C_region rfl (R_o rfl (E_fieldAddr rfl ?_)))
     refine R_o rfl (E_load H rfl rfl ?_)
     refine R_o rfl (E_len rfl ?_)
     refine R_o rfl (E_move (R_nil (C_block (C_loop (ds := []) [2, 3, 5, 6, 7, 38, 39, 40] (fun m_ vs w => ∃ k : Nat, ∃ f : Nat → Int, vs = [.pointer (some ⟨b2, 0, none⟩), .pointer (some ⟨b3, 0, none⟩), .pointer (some ⟨b5, 0, none⟩), .pointer (some ⟨b6, 0, none⟩), .bool true, .slice A3 o.has.length c3, .int .i64 o.has.length, .int .i64 k] ∧ m_ = o.has.length - k ∧ k ≤ o.has.length ∧ ((∀ i, i < k → bidW m o i) ∧ CntF o.has k o.pri.length f) ∧ Loc w0 w [cl b5 80 (tint 8 f), cl b6 80 (tint 8 fun _ => 0), cl b2 25 [.slice A1 m.res.length c1, .slice A2 m.bids.length c2, c], cl b3 27 [.slice A3 o.has.length c3, .slice A4 o.pri.length c4]]) (m := o.has.length) (by first | rfl | exact hd) ?_ ?_))))
     · exact ⟨0, _, rfl, by omega, by omega, ⟨fun i h => by omega, CntF.zero _ _⟩, H.al⟩
     intro m vs ρ₀ w hd hI
     clear H
     obtain ⟨k, f, rfl, rfl, hk, hst, H⟩ := hI
     refine C_seq (C_region rfl (R_o rfl (E_lss rfl rfl ?_)))
     refine R_nil (C_seq (C_cond (t := 41) rfl (fun hlt => ?_) (fun hlt => ?_)))
     ·
      obtain ⟨x, hx⟩ := get_of (xs := o.has) (k := k) (by omega)
      have hkm : k < m.bids.length := by omega
      obtain ⟨bd, hbd⟩ := get_of hkm
      have hgx : o.has.getD k 0 = x := getD_of hx
      have hgb : m.bids.getD k [] = bd := getD_of hbd
      refine C_skip (C_seq (C_block (C_seq (C_region rfl (R_o rfl (E_move (R_o rfl (E_idxr rh rfl rfl (by omega) (by omega) ?_))))))))
      refine R_o rfl (E_loadi rh H rfl hx ?_)
      refine R_o rfl (E_assign (R_o rfl (E_assign (R_nil (C_seq (C_seq (C_region rfl (R_o rfl (E_move (R_o rfl (E_lss rfl rfl ?_)))))))))))
      refine R_o rfl (E_move (R_part (t := 47) rfl (fun h47 => ?_) (fun h47 => ?_)))
      ·
       refine R_p rfl rfl rfl ?_
       refine R_p rfl rfl rfl ?_
       refine R_p rfl rfl rfl ?_
       refine R_p rfl rfl rfl ?_
       refine R_p rfl rfl rfl ?_
       refine R_o rfl (E_pick rfl ?_)
       refine R_nil (C_true (t := 53) rfl ?_)
       refine C_seq (C_region rfl (R_o rfl (E_assign (R_nil (C_exit ?_)))))
       first
         | (obtain rfl : k = o.has.length := by omega
            exact ⟨hd, true, f, o.has.length, rfl, Nat.le_refl _, hst.2, fun _ => ⟨rfl, fun i hi => hst.1 i (by omega)⟩, (fun h => by cases h), H⟩)
         | exact ⟨hd, false, _, k + 1, rfl, by omega, hst.2.put hx', (fun h => by cases h), fun _ hE => hnb (hE.bidW hkm), H⟩
         | exact ⟨hd, false, f, k + 1, rfl, by omega, hst.2.skip hx (.inl (by omega)), (fun h => by cases h), fun _ hE => hnb (hE.bidW hkm), H⟩
         | exact ⟨hd, false, _, k, rfl, by omega, hst.2, (fun h => by cases h), fun _ hE => (by have h5 := hE.2.2.2.1 k (by omega); rw [getD_of hx] at h5; omega), H⟩
         | exact ⟨hd, false, f1, k + 1, rfl, by omega, hf1, (fun h => by cases h), fun _ hE => hnb2 (hE.bidW hkm), H⟩
         | exact absurd h70 h55
      ·
       refine R_w rfl rfl rfl (E_move ?_)
       refine R_w rfl rfl rfl (E_fieldAddr rfl ?_)
       refine R_w rfl rfl rfl (E_load H rfl rfl ?_)
       refine R_w rfl rfl rfl (E_len rfl ?_)
       refine R_w rfl rfl rfl (E_geq rfl rfl ?_)
       refine R_o rfl (E_pick rfl ?_)
       refine R_nil (C_cond (t := 53) rfl (fun h53 => ?_) (fun h53 => ?_))
       ·
        refine C_seq (C_region rfl (R_o rfl (E_assign (R_nil (C_exit ?_)))))
        first
          | (obtain rfl : k = o.has.length := by omega
             exact ⟨hd, true, f, o.has.length, rfl, Nat.le_refl _, hst.2, fun _ => ⟨rfl, fun i hi => hst.1 i (by omega)⟩, (fun h => by cases h), H⟩)
          | exact ⟨hd, false, _, k + 1, rfl, by omega, hst.2.put hx', (fun h => by cases h), fun _ hE => hnb (hE.bidW hkm), H⟩
          | exact ⟨hd, false, f, k + 1, rfl, by omega, hst.2.skip hx (.inl (by omega)), (fun h => by cases h), fun _ hE => hnb (hE.bidW hkm), H⟩
          | exact ⟨hd, false, _, k, rfl, by omega, hst.2, (fun h => by cases h), fun _ hE => (by have h5 := hE.2.2.2.1 k (by omega); rw [getD_of hx] at h5; omega), H⟩
          | exact ⟨hd, false, f1, k + 1, rfl, by omega, hf1, (fun h => by cases h), fun _ hE => hnb2 (hE.bidW hkm), H⟩
          | exact absurd h70 h55
       ·
        have hx2 : -1 ≤ x ∧ x < (o.pri.length : Int) := by omega
        refine C_skip (C_seq (C_seq (C_region rfl (R_o rfl (E_move (R_o rfl (E_neq rfl rfl ?_)))))))
        refine R_nil (C_cond (t := 55) rfl (fun h55 => ?_) (fun h55 => ?_))
        ·
         have hx' : o.has[k]? = some ((x.toNat : Nat) : Int) := by rw [hx]; congr 1; omega
         have hfb := hst.2.bound (x := x.toNat) (by omega)
         refine C_region rfl (R_o rfl (E_move (R_o rfl (E_idxa rfl rfl (by omega) (by omega) ?_))))
         refine R_o rfl (E_loadt x.toNat H rfl (by simp) (by omega) ?_)
         refine R_o rfl (E_add rfl rfl (by omega) ?_)
         refine R_o rfl (E_idxa rfl rfl (by omega) (by omega) ?_)
         refine R_n rfl (E_storet x.toNat H rfl rfl (by simp) (by omega) ?_)
         clear H; intro w H
         refine R_nil (C_seq (C_region rfl (R_o rfl (E_fieldAddr rfl ?_))))
         refine R_o rfl (E_load H rfl rfl ?_)
         refine R_o rfl (E_move (R_o rfl (E_idxr rb rfl rfl (by omega) (by omega) ?_)))
         refine R_o rfl (E_loadr rb H rfl hbd ?_)
         intro ub hub
         obtain ⟨Ab, cb, rfl, hub1, hub2⟩ := hub.len
         refine R_o rfl (E_assign (R_nil (C_seq (C_seq (C_region rfl (R_o rfl (E_move (R_o rfl (E_len rfl ?_)))))))))
         refine R_o rfl (E_eql rfl rfl ?_)
         refine R_nil (C_cond (t := 68) rfl (fun h68 => ?_) (fun h68 => ?_))
         ·
          have hbe : bd = [] := List.eq_nil_of_length_eq_zero (by omega)
          have hbwn : x = -1 → bidW m o k := fun h => ⟨by rw [hgx]; omega, by rw [hgb, if_pos hbe, hgx]; exact h⟩
          refine C_seq (C_seq (C_region rfl (R_o rfl (E_move (R_o rfl (E_neq rfl rfl ?_))))))
          refine R_nil (C_cond (t := 70) rfl (fun h70 => ?_) (fun h70 => ?_))
          ·
           have hnb : ¬ bidW m o k := fun h => by have := h.2; rw [hgb, if_pos hbe, hgx] at this; exact h70 this
           refine C_seq (C_region rfl (R_o rfl (E_assign (R_nil (C_exit ?_)))))
           first
             | (obtain rfl : k = o.has.length := by omega
                exact ⟨hd, true, f, o.has.length, rfl, Nat.le_refl _, hst.2, fun _ => ⟨rfl, fun i hi => hst.1 i (by omega)⟩, (fun h => by cases h), H⟩)
             | exact ⟨hd, false, _, k + 1, rfl, by omega, hst.2.put hx', (fun h => by cases h), fun _ hE => hnb (hE.bidW hkm), H⟩
             | exact ⟨hd, false, f, k + 1, rfl, by omega, hst.2.skip hx (.inl (by omega)), (fun h => by cases h), fun _ hE => hnb (hE.bidW hkm), H⟩
             | exact ⟨hd, false, _, k, rfl, by omega, hst.2, (fun h => by cases h), fun _ hE => (by have h5 := hE.2.2.2.1 k (by omega); rw [getD_of hx] at h5; omega), H⟩
             | exact ⟨hd, false, f1, k + 1, rfl, by omega, hf1, (fun h => by cases h), fun _ hE => hnb2 (hE.bidW hkm), H⟩
             | exact absurd h70 h55
          ·
           refine C_skip (C_exit ?_)
           refine C_region rfl (R_o rfl (E_add rfl rfl (by omega) ?_))
           refine R_o rfl (E_move (R_nil ?_))
           first
             | exact ⟨hd, o.has.length - (k + 1), by omega, k + 1, f1, rfl, rfl, by omega, ⟨all_succ.2 ⟨hst.1, hbw⟩, hf1⟩, H⟩
             | exact ⟨hd, o.has.length - (k + 1), by omega, k + 1, f, rfl, rfl, by omega, ⟨all_succ.2 ⟨hst.1, hbwn (Decidable.of_not_not h70)⟩, hst.2.skip hx (.inl (by omega))⟩, H⟩
             | exact absurd (Decidable.of_not_not h70) h55
         ·
          have hbe : bd ≠ [] := fun e => h68 (by rw [e]; rfl)
          have hbl : bd.length = o.pri.length := by have := (bid_bound hok hkm (by rw [hgb]; exact hbe)).1; rw [hgb] at this; omega
          refine C_skip (C_seq (C_region rfl (R_o rfl (E_move (R_o rfl (E_fieldAddr rfl ?_))))))
          refine R_o rfl (E_load H rfl rfl ?_)
          refine R_o rfl (E_move (R_o rfl (E_call rfl (oHas_ (b := bd) (p := o.pri) (x := x) (Abides.below H.below hub) (Abides.below H.below rp) hbl hx2) ?_)))
          rintro _ w1 ⟨rfl, hb⟩
          replace H := H.call0 hb; clear hb
          refine R_o rfl (E_assign (R_nil (C_seq (C_region rfl (R_o rfl (E_fieldAddr rfl ?_))))))
          refine R_o rfl (E_load H rfl rfl ?_)
          refine R_o rfl (E_len rfl ?_)
          refine R_o rfl (E_move (R_nil (C_block (C_loop (ds := []) [2, 3, 5, 6, 7, 38, 39, 40, 8, 9, 10, 11, 77, 78, 79] (fun m_ vs w => ∃ (j : Nat) (f1 : Nat → Int), vs = [.pointer (some ⟨b2, 0, none⟩), .pointer (some ⟨b3, 0, none⟩), .pointer (some ⟨b5, 0, none⟩), .pointer (some ⟨b6, 0, none⟩), .bool true, .slice A3 o.has.length c3, .int .i64 o.has.length, .int .i64 (k : Int), .int .i64 (k : Int), .int .i64 x, .slice Ab bd.length cb, .int .i64 (nowW bd o.pri x), .slice A4 o.pri.length c4, .int .i64 o.pri.length, .int .i64 (j : Int)] ∧ m_ = o.pri.length - j ∧ j ≤ o.pri.length ∧ CntF o.has (k + 1) o.pri.length f1 ∧ (∀ j2, j2 < j → 0 ≤ nowW bd o.pri x ∧ W64 (bd.getD j2 0 - o.pri.getD j2 0) ≤ nowW bd o.pri x) ∧ Loc w0 w [cl b5 80 (tint 8 f1), cl b6 80 (tint 8 fun _ => 0), cl b2 25 [.slice A1 m.res.length c1, .slice A2 m.bids.length c2, c], cl b3 27 [.slice A3 o.has.length c3, .slice A4 o.pri.length c4]]) (m := o.pri.length) (by first | rfl | exact hd) ?_ ?_))))
          · first
              | exact ⟨0, _, rfl, by omega, by omega, hst.2.put hx', fun j2 h => by omega, H⟩
              | exact ⟨0, f, rfl, by omega, by omega, hst.2.skip hx (.inl (by omega)), fun j2 h => by omega, H⟩
          intro m vs ρ₀ w hd hI
          clear H
          obtain ⟨j, f1, rfl, rfl, hj, hf1, hrow, H⟩ := hI
          refine C_seq (C_region rfl (R_o rfl (E_lss rfl rfl ?_)))
          refine R_nil (C_seq (C_cond (t := 80) rfl (fun hlt2 => ?_) (fun hlt2 => ?_)))
          ·
           refine C_skip (C_seq (C_block (C_seq (C_region rfl (R_o rfl (E_move (R_o rfl (E_assign (R_nil (C_seq (C_region rfl (R_o rfl (E_move (R_o rfl (E_lss rfl rfl ?_)))))))))))))))
           refine R_o rfl (E_move (R_part (t := 84) rfl (fun h84 => ?_) (fun h84 => ?_)))
           ·
            have hnb2 : ¬ bidW m o k := fun h => by have h5 := h.2; rw [hgb, if_neg hbe, hgx] at h5; have := h5.1; omega
            refine R_p rfl rfl rfl ?_
            refine R_p rfl rfl rfl ?_
            refine R_p rfl rfl rfl ?_
            refine R_p rfl rfl rfl ?_
            refine R_p rfl rfl rfl ?_
            refine R_p rfl rfl rfl ?_
            refine R_p rfl rfl rfl ?_
            refine R_o rfl (E_pick rfl ?_)
            refine R_nil (C_true (t := 92) rfl ?_)
            refine C_seq (C_region rfl (R_o rfl (E_assign (R_nil (C_exit ?_)))))
            first
              | (obtain rfl : k = o.has.length := by omega
                 exact ⟨hd, true, f, o.has.length, rfl, Nat.le_refl _, hst.2, fun _ => ⟨rfl, fun i hi => hst.1 i (by omega)⟩, (fun h => by cases h), H⟩)
              | exact ⟨hd, false, _, k + 1, rfl, by omega, hst.2.put hx', (fun h => by cases h), fun _ hE => hnb (hE.bidW hkm), H⟩
              | exact ⟨hd, false, f, k + 1, rfl, by omega, hst.2.skip hx (.inl (by omega)), (fun h => by cases h), fun _ hE => hnb (hE.bidW hkm), H⟩
              | exact ⟨hd, false, _, k, rfl, by omega, hst.2, (fun h => by cases h), fun _ hE => (by have h5 := hE.2.2.2.1 k (by omega); rw [getD_of hx] at h5; omega), H⟩
              | exact ⟨hd, false, f1, k + 1, rfl, by omega, hf1, (fun h => by cases h), fun _ hE => hnb2 (hE.bidW hkm), H⟩
              | exact absurd h70 h55
           ·
            refine R_w rfl rfl rfl (E_move ?_)
            refine R_w rfl rfl rfl (E_fieldAddr rfl ?_)
            refine R_w rfl rfl rfl (E_load H rfl rfl ?_)
            refine R_w rfl rfl rfl (E_move ?_)
            refine R_w rfl rfl rfl (E_call rfl (oHas_ (b := bd) (p := o.pri) (x := (j : Int)) (Abides.below H.below hub) (Abides.below H.below rp) hbl (by omega)) ?_)
            rintro _ w1 ⟨rfl, hb⟩
            replace H := H.call0 hb; clear hb
            refine R_w rfl rfl rfl (E_move ?_)
            refine R_w rfl rfl rfl (E_gtr rfl rfl ?_)
            refine R_o rfl (E_pick rfl ?_)
            refine R_nil (C_cond (t := 92) rfl (fun h92 => ?_) (fun h92 => ?_))
            ·
             have hnb2 : ¬ bidW m o k := fun h => by have h5 := h.2; rw [hgb, if_neg hbe, hgx] at h5; have h6 := h5.2 j (by omega); have h7 := h92; rw [nowW_at] at h7; omega
             refine C_seq (C_region rfl (R_o rfl (E_assign (R_nil (C_exit ?_)))))
             first
               | (obtain rfl : k = o.has.length := by omega
                  exact ⟨hd, true, f, o.has.length, rfl, Nat.le_refl _, hst.2, fun _ => ⟨rfl, fun i hi => hst.1 i (by omega)⟩, (fun h => by cases h), H⟩)
               | exact ⟨hd, false, _, k + 1, rfl, by omega, hst.2.put hx', (fun h => by cases h), fun _ hE => hnb (hE.bidW hkm), H⟩
               | exact ⟨hd, false, f, k + 1, rfl, by omega, hst.2.skip hx (.inl (by omega)), (fun h => by cases h), fun _ hE => hnb (hE.bidW hkm), H⟩
               | exact ⟨hd, false, _, k, rfl, by omega, hst.2, (fun h => by cases h), fun _ hE => (by have h5 := hE.2.2.2.1 k (by omega); rw [getD_of hx] at h5; omega), H⟩
               | exact ⟨hd, false, f1, k + 1, rfl, by omega, hf1, (fun h => by cases h), fun _ hE => hnb2 (hE.bidW hkm), H⟩
               | exact absurd h70 h55
            ·
             refine C_skip (C_region rfl (R_o rfl (E_add rfl rfl (by omega) ?_)))
             refine R_o rfl (E_move (R_nil ?_))
             exact ⟨hd, o.pri.length - (j + 1), by omega, j + 1, f1, rfl, rfl, by omega, hf1, all_succ.2 ⟨hrow, by omega, by have := h92; rw [nowW_at] at this; omega⟩, H⟩
          ·
           obtain rfl : j = o.pri.length := by omega
           have hbw : bidW m o k := ⟨by rw [hgx]; exact hx2, by rw [hgb, if_neg hbe, hgx]; exact ⟨(hrow 0 (by omega)).1, fun j hj => (hrow j hj).2⟩⟩
           refine C_exit ?_
           refine C_region rfl (R_o rfl (E_add rfl rfl (by omega) ?_))
           refine R_o rfl (E_move (R_nil ?_))
           first
             | exact ⟨hd, o.has.length - (k + 1), by omega, k + 1, f1, rfl, rfl, by omega, ⟨all_succ.2 ⟨hst.1, hbw⟩, hf1⟩, H⟩
             | exact ⟨hd, o.has.length - (k + 1), by omega, k + 1, f, rfl, rfl, by omega, ⟨all_succ.2 ⟨hst.1, hbwn (Decidable.of_not_not h70)⟩, hst.2.skip hx (.inl (by omega))⟩, H⟩
             | exact absurd (Decidable.of_not_not h70) h55
        ·
         refine C_skip (C_seq (C_region rfl (R_o rfl (E_fieldAddr rfl ?_))))
         refine R_o rfl (E_load H rfl rfl ?_)
         refine R_o rfl (E_move (R_o rfl (E_idxr rb rfl rfl (by omega) (by omega) ?_)))
         refine R_o rfl (E_loadr rb H rfl hbd ?_)
         intro ub hub
         obtain ⟨Ab, cb, rfl, hub1, hub2⟩ := hub.len
         refine R_o rfl (E_assign (R_nil (C_seq (C_seq (C_region rfl (R_o rfl (E_move (R_o rfl (E_len rfl ?_)))))))))
         refine R_o rfl (E_eql rfl rfl ?_)
         refine R_nil (C_cond (t := 68) rfl (fun h68 => ?_) (fun h68 => ?_))
         ·
          have hbe : bd = [] := List.eq_nil_of_length_eq_zero (by omega)
          have hbwn : x = -1 → bidW m o k := fun h => ⟨by rw [hgx]; omega, by rw [hgb, if_pos hbe, hgx]; exact h⟩
          refine C_seq (C_seq (C_region rfl (R_o rfl (E_move (R_o rfl (E_neq rfl rfl ?_))))))
          refine R_nil (C_cond (t := 70) rfl (fun h70 => ?_) (fun h70 => ?_))
          ·
           have hnb : ¬ bidW m o k := fun h => by have := h.2; rw [hgb, if_pos hbe, hgx] at this; exact h70 this
           refine C_seq (C_region rfl (R_o rfl (E_assign (R_nil (C_exit ?_)))))
           first
             | (obtain rfl : k = o.has.length := by omega
                exact ⟨hd, true, f, o.has.length, rfl, Nat.le_refl _, hst.2, fun _ => ⟨rfl, fun i hi => hst.1 i (by omega)⟩, (fun h => by cases h), H⟩)
             | exact ⟨hd, false, _, k + 1, rfl, by omega, hst.2.put hx', (fun h => by cases h), fun _ hE => hnb (hE.bidW hkm), H⟩
             | exact ⟨hd, false, f, k + 1, rfl, by omega, hst.2.skip hx (.inl (by omega)), (fun h => by cases h), fun _ hE => hnb (hE.bidW hkm), H⟩
             | exact ⟨hd, false, _, k, rfl, by omega, hst.2, (fun h => by cases h), fun _ hE => (by have h5 := hE.2.2.2.1 k (by omega); rw [getD_of hx] at h5; omega), H⟩
             | exact ⟨hd, false, f1, k + 1, rfl, by omega, hf1, (fun h => by cases h), fun _ hE => hnb2 (hE.bidW hkm), H⟩
             | exact absurd h70 h55
          ·
           refine C_skip (C_exit ?_)
           refine C_region rfl (R_o rfl (E_add rfl rfl (by omega) ?_))
           refine R_o rfl (E_move (R_nil ?_))
           first
             | exact ⟨hd, o.has.length - (k + 1), by omega, k + 1, f1, rfl, rfl, by omega, ⟨all_succ.2 ⟨hst.1, hbw⟩, hf1⟩, H⟩
             | exact ⟨hd, o.has.length - (k + 1), by omega, k + 1, f, rfl, rfl, by omega, ⟨all_succ.2 ⟨hst.1, hbwn (Decidable.of_not_not h70)⟩, hst.2.skip hx (.inl (by omega))⟩, H⟩
             | exact absurd (Decidable.of_not_not h70) h55
         ·
          have hbe : bd ≠ [] := fun e => h68 (by rw [e]; rfl)
          have hbl : bd.length = o.pri.length := by have := (bid_bound hok hkm (by rw [hgb]; exact hbe)).1; rw [hgb] at this; omega
          refine C_skip (C_seq (C_region rfl (R_o rfl (E_move (R_o rfl (E_fieldAddr rfl ?_))))))
          refine R_o rfl (E_load H rfl rfl ?_)
          refine R_o rfl (E_move (R_o rfl (E_call rfl (oHas_ (b := bd) (p := o.pri) (x := x) (Abides.below H.below hub) (Abides.below H.below rp) hbl hx2) ?_)))
          rintro _ w1 ⟨rfl, hb⟩
          replace H := H.call0 hb; clear hb
          refine R_o rfl (E_assign (R_nil (C_seq (C_region rfl (R_o rfl (E_fieldAddr rfl ?_))))))
          refine R_o rfl (E_load H rfl rfl ?_)
          refine R_o rfl (E_len rfl ?_)
          refine R_o rfl (E_move (R_nil (C_block (C_loop (ds := []) [2, 3, 5, 6, 7, 38, 39, 40, 8, 9, 10, 11, 77, 78, 79] (fun m_ vs w => ∃ (j : Nat) (f1 : Nat → Int), vs = [.pointer (some ⟨b2, 0, none⟩), .pointer (some ⟨b3, 0, none⟩), .pointer (some ⟨b5, 0, none⟩), .pointer (some ⟨b6, 0, none⟩), .bool true, .slice A3 o.has.length c3, .int .i64 o.has.length, .int .i64 (k : Int), .int .i64 (k : Int), .int .i64 x, .slice Ab bd.length cb, .int .i64 (nowW bd o.pri x), .slice A4 o.pri.length c4, .int .i64 o.pri.length, .int .i64 (j : Int)] ∧ m_ = o.pri.length - j ∧ j ≤ o.pri.length ∧ CntF o.has (k + 1) o.pri.length f1 ∧ (∀ j2, j2 < j → 0 ≤ nowW bd o.pri x ∧ W64 (bd.getD j2 0 - o.pri.getD j2 0) ≤ nowW bd o.pri x) ∧ Loc w0 w [cl b5 80 (tint 8 f1), cl b6 80 (tint 8 fun _ => 0), cl b2 25 [.slice A1 m.res.length c1, .slice A2 m.bids.length c2, c], cl b3 27 [.slice A3 o.has.length c3, .slice A4 o.pri.length c4]]) (m := o.pri.length) (by first | rfl | exact hd) ?_ ?_))))
          · first
              | exact ⟨0, _, rfl, by omega, by omega, hst.2.put hx', fun j2 h => by omega, H⟩
              | exact ⟨0, f, rfl, by omega, by omega, hst.2.skip hx (.inl (by omega)), fun j2 h => by omega, H⟩
          intro m vs ρ₀ w hd hI
          clear H
          obtain ⟨j, f1, rfl, rfl, hj, hf1, hrow, H⟩ := hI
          refine C_seq (C_region rfl (R_o rfl (E_lss rfl rfl ?_)))
          refine R_nil (C_seq (C_cond (t := 80) rfl (fun hlt2 => ?_) (fun hlt2 => ?_)))
          ·
           refine C_skip (C_seq (C_block (C_seq (C_region rfl (R_o rfl (E_move (R_o rfl (E_assign (R_nil (C_seq (C_region rfl (R_o rfl (E_move (R_o rfl (E_lss rfl rfl ?_)))))))))))))))
           refine R_o rfl (E_move (R_part (t := 84) rfl (fun h84 => ?_) (fun h84 => ?_)))
           ·
            have hnb2 : ¬ bidW m o k := fun h => by have h5 := h.2; rw [hgb, if_neg hbe, hgx] at h5; have := h5.1; omega
            refine R_p rfl rfl rfl ?_
            refine R_p rfl rfl rfl ?_
            refine R_p rfl rfl rfl ?_
            refine R_p rfl rfl rfl ?_
            refine R_p rfl rfl rfl ?_
            refine R_p rfl rfl rfl ?_
            refine R_p rfl rfl rfl ?_
            refine R_o rfl (E_pick rfl ?_)
            refine R_nil (C_true (t := 92) rfl ?_)
            refine C_seq (C_region rfl (R_o rfl (E_assign (R_nil (C_exit ?_)))))
            first
              | (obtain rfl : k = o.has.length := by omega
                 exact ⟨hd, true, f, o.has.length, rfl, Nat.le_refl _, hst.2, fun _ => ⟨rfl, fun i hi => hst.1 i (by omega)⟩, (fun h => by cases h), H⟩)
              | exact ⟨hd, false, _, k + 1, rfl, by omega, hst.2.put hx', (fun h => by cases h), fun _ hE => hnb (hE.bidW hkm), H⟩
              | exact ⟨hd, false, f, k + 1, rfl, by omega, hst.2.skip hx (.inl (by omega)), (fun h => by cases h), fun _ hE => hnb (hE.bidW hkm), H⟩
              | exact ⟨hd, false, _, k, rfl, by omega, hst.2, (fun h => by cases h), fun _ hE => (by have h5 := hE.2.2.2.1 k (by omega); rw [getD_of hx] at h5; omega), H⟩
              | exact ⟨hd, false, f1, k + 1, rfl, by omega, hf1, (fun h => by cases h), fun _ hE => hnb2 (hE.bidW hkm), H⟩
              | exact absurd h70 h55
           ·
            refine R_w rfl rfl rfl (E_move ?_)
            refine R_w rfl rfl rfl (E_fieldAddr rfl ?_)
            refine R_w rfl rfl rfl (E_load H rfl rfl ?_)
            refine R_w rfl rfl rfl (E_move ?_)
            refine R_w rfl rfl rfl (E_call rfl (oHas_ (b := bd) (p := o.pri) (x := (j : Int)) (Abides.below H.below hub) (Abides.below H.below rp) hbl (by omega)) ?_)
            rintro _ w1 ⟨rfl, hb⟩
            replace H := H.call0 hb; clear hb
            refine R_w rfl rfl rfl (E_move ?_)
            refine R_w rfl rfl rfl (E_gtr rfl rfl ?_)
            refine R_o rfl (E_pick rfl ?_)
            refine R_nil (C_cond (t := 92) rfl (fun h92 => ?_) (fun h92 => ?_))
            ·
             have hnb2 : ¬ bidW m o k := fun h => by have h5 := h.2; rw [hgb, if_neg hbe, hgx] at h5; have h6 := h5.2 j (by omega); have h7 := h92; rw [nowW_at] at h7; omega
             refine C_seq (C_region rfl (R_o rfl (E_assign (R_nil (C_exit ?_)))))
             first
               | (obtain rfl : k = o.has.length := by omega
                  exact ⟨hd, true, f, o.has.length, rfl, Nat.le_refl _, hst.2, fun _ => ⟨rfl, fun i hi => hst.1 i (by omega)⟩, (fun h => by cases h), H⟩)
               | exact ⟨hd, false, _, k + 1, rfl, by omega, hst.2.put hx', (fun h => by cases h), fun _ hE => hnb (hE.bidW hkm), H⟩
               | exact ⟨hd, false, f, k + 1, rfl, by omega, hst.2.skip hx (.inl (by omega)), (fun h => by cases h), fun _ hE => hnb (hE.bidW hkm), H⟩
               | exact ⟨hd, false, _, k, rfl, by omega, hst.2, (fun h => by cases h), fun _ hE => (by have h5 := hE.2.2.2.1 k (by omega); rw [getD_of hx] at h5; omega), H⟩
               | exact ⟨hd, false, f1, k + 1, rfl, by omega, hf1, (fun h => by cases h), fun _ hE => hnb2 (hE.bidW hkm), H⟩
               | exact absurd h70 h55
            ·
             refine C_skip (C_region rfl (R_o rfl (E_add rfl rfl (by omega) ?_)))
             refine R_o rfl (E_move (R_nil ?_))
             exact ⟨hd, o.pri.length - (j + 1), by omega, j + 1, f1, rfl, rfl, by omega, hf1, all_succ.2 ⟨hrow, by omega, by have := h92; rw [nowW_at] at this; omega⟩, H⟩
          ·
           obtain rfl : j = o.pri.length := by omega
           have hbw : bidW m o k := ⟨by rw [hgx]; exact hx2, by rw [hgb, if_neg hbe, hgx]; exact ⟨(hrow 0 (by omega)).1, fun j hj => (hrow j hj).2⟩⟩
           refine C_exit ?_
           refine C_region rfl (R_o rfl (E_add rfl rfl (by omega) ?_))
           refine R_o rfl (E_move (R_nil ?_))
           first
             | exact ⟨hd, o.has.length - (k + 1), by omega, k + 1, f1, rfl, rfl, by omega, ⟨all_succ.2 ⟨hst.1, hbw⟩, hf1⟩, H⟩
             | exact ⟨hd, o.has.length - (k + 1), by omega, k + 1, f, rfl, rfl, by omega, ⟨all_succ.2 ⟨hst.1, hbwn (Decidable.of_not_not h70)⟩, hst.2.skip hx (.inl (by omega))⟩, H⟩
             | exact absurd (Decidable.of_not_not h70) h55
     ·
      refine C_exit ?_
      first
        | (obtain rfl : k = o.has.length := by omega
           exact ⟨hd, true, f, o.has.length, rfl, Nat.le_refl _, hst.2, fun _ => ⟨rfl, fun i hi => hst.1 i (by omega)⟩, (fun h => by cases h), H⟩)
        | exact ⟨hd, false, _, k + 1, rfl, by omega, hst.2.put hx', (fun h => by cases h), fun _ hE => hnb (hE.bidW hkm), H⟩
        | exact ⟨hd, false, f, k + 1, rfl, by omega, hst.2.skip hx (.inl (by omega)), (fun h => by cases h), fun _ hE => hnb (hE.bidW hkm), H⟩
        | exact ⟨hd, false, _, k, rfl, by omega, hst.2, (fun h => by cases h), fun _ hE => (by have h5 := hE.2.2.2.1 k (by omega); rw [getD_of hx] at h5; omega), H⟩
        | exact ⟨hd, false, f1, k + 1, rfl, by omega, hf1, (fun h => by cases h), fun _ hE => hnb2 (hE.bidW hkm), H⟩
        | exact absurd h70 h55
    intro vs ρ₀ w hd hI
    clear H
    obtain ⟨e0, f, kk, rfl, hkk, hcf, ht, hf, H⟩ := hI
    refine C_seq (C_seq (C_region rfl (R_o rfl (E_fieldAddr rfl ?_))))
    refine R_o rfl (E_load H rfl rfl ?_)
    refine R_o rfl (E_len rfl ?_)
    refine R_o rfl (E_move (R_nil (C_block (C_loop (ds := []) [2, 3, 5, 6, 7, 96, 97, 98] (fun m_ vs w => ∃ (k : Nat) (ev : Bool) (g : Nat → Int), vs = [.pointer (some ⟨b2, 0, none⟩), .pointer (some ⟨b3, 0, none⟩), .pointer (some ⟨b5, 0, none⟩), .pointer (some ⟨b6, 0, none⟩), .bool ev, .slice A4 o.pri.length c4, .int .i64 o.pri.length, .int .i64 (k : Int)] ∧ m_ = o.pri.length - k ∧ k ≤ o.pri.length ∧ (ev = true ↔ (e0 = true ∧ ∀ j, j < k → priP m o f j)) ∧ (∀ j, j < 8 → g j = if j < k then max 0 (f j - 1) else 0) ∧ Loc w0 w [cl b5 80 (tint 8 f), cl b6 80 (tint 8 g), cl b2 25 [.slice A1 m.res.length c1, .slice A2 m.bids.length c2, c], cl b3 27 [.slice A3 o.has.length c3, .slice A4 o.pri.length c4]]) (m := o.pri.length) (by first | rfl | exact hd) ?_ ?_))))
    · exact ⟨0, e0, _, rfl, by omega, by omega, ⟨fun h => ⟨h, fun j hj => by omega⟩, fun h => h.1⟩, fun j hj => by rw [if_neg (by omega)], H⟩
    intro m vs ρ₀ w hd hI
    clear H
    obtain ⟨k, ev, g, rfl, rfl, hk, hev, hg, H⟩ := hI
    refine C_seq (C_region rfl (R_o rfl (E_lss rfl rfl ?_)))
    refine R_nil (C_seq (C_cond (t := 99) rfl (fun hlt3 => ?_) (fun hlt3 => ?_)))
    ·
     obtain ⟨x, hx⟩ := get_of (xs := o.pri) (k := k) (by omega)
     obtain ⟨r, hr⟩ := get_of (xs := m.res) (k := k) (by omega)
     have hfb := hcf.bound (x := k) (by omega)
     have hP : priP m o f k ↔ ((r ≤ x ∧ x ≤ 2000000) ∧ (0 < f k ∨ x = r)) := by unfold priP priOk; rw [getD_of hx, getD_of hr]
     refine C_skip (C_seq (C_block (C_seq (C_region rfl (R_o rfl (E_move (R_o rfl (E_idxr rp rfl rfl (by omega) (by omega) ?_))))))))
     refine R_o rfl (E_loadi rp H rfl hx ?_)
     refine R_o rfl (E_assign (R_o rfl (E_assign (R_nil (C_seq (C_region rfl (R_o rfl (E_move (R_o rfl (E_move (R_o rfl (E_idxa rfl rfl (by omega) (by omega) ?_))))))))))))
     refine R_o rfl (E_loadt k H rfl (by simp) (by omega) ?_)
     refine R_o rfl (E_sub rfl rfl (by omega) ?_)
     refine R_o rfl (E_max2 rfl rfl ?_)
     refine R_o rfl (E_idxa rfl rfl (by omega) (by omega) ?_)
     refine R_n rfl (E_storet k H rfl rfl (by simp) (by omega) ?_)
     clear H; intro w H
     refine R_nil (C_seq (C_region rfl (R_o rfl (E_fieldAddr rfl ?_))))
     refine R_o rfl (E_load H rfl rfl ?_)
     refine R_o rfl (E_move (R_o rfl (E_idxr ra rfl rfl (by omega) (by omega) ?_)))
     refine R_o rfl (E_loadi ra H rfl hr ?_)
     refine R_o rfl (E_assign (R_nil (C_region rfl (R_o rfl (E_move (R_o rfl (E_move (R_partb (t := 116) rfl (fun h116 => ?_) (fun h116 => ?_)))))))))
     ·
      refine R_w rfl rfl rfl (E_move ?_)
      refine R_w rfl rfl rfl (E_move ?_)
      refine R_w rfl rfl rfl (E_geq rfl rfl ?_)
      refine R_o rfl (E_pick rfl ?_)
      refine R_o rfl (E_move (R_part (t := 121) rfl (fun h121 => ?_) (fun h121 => ?_)))
      ·
       refine R_w rfl rfl rfl (E_move ?_)
       refine R_w rfl rfl rfl (E_leq rfl rfl ?_)
       refine R_o rfl (E_pick rfl ?_)
       refine R_o rfl (E_move (R_part (t := 125) rfl (fun h125 => ?_) (fun h125 => ?_)))
       ·
        refine R_w rfl rfl rfl (E_move ?_)
        refine R_w rfl rfl rfl (E_idxa rfl rfl (by omega) (by omega) ?_)
        refine R_w rfl rfl rfl (E_loadt k H rfl (by simp) (by omega) ?_)
        refine R_w rfl rfl rfl (E_gtr rfl rfl ?_)
        refine R_w rfl rfl rfl (E_move ?_)
        refine R_part (t := 130) rfl (fun h130 => ?_) (fun h130 => ?_)
        ·
         refine R_p rfl rfl rfl ?_
         refine R_p rfl rfl rfl ?_
         refine R_p rfl rfl rfl ?_
         refine R_w rfl rfl rfl (E_pick rfl ?_)
         refine R_o rfl (E_pick rfl ?_)
         refine R_o rfl (E_assign (R_nil (C_region rfl (R_o rfl (E_add rfl rfl (by omega) ?_)))))
         refine R_o rfl (E_move (R_nil ?_))
         have hiff : ∀ bb : Bool, (bb = true ↔ (ev = true ∧ ((r ≤ x ∧ x ≤ 2000000) ∧ (0 < f k ∨ x = r)))) → (bb = true ↔ (e0 = true ∧ ∀ j, j < k + 1 → priP m o f j)) := fun bb h => by
           rw [h, all_succ, hev, and_assoc, ← hP]
         have hg2 : ∀ j, j < 8 → upd g k (max 0 (f k - 1)) j = if j < k + 1 then max 0 (f j - 1) else 0 := fun j hj => by
           unfold upd
           by_cases e : j = k
           · subst e; rw [if_pos rfl, if_pos (by omega)]
           · rw [if_neg e, hg j hj]
             by_cases e2 : j < k
             · rw [if_pos e2, if_pos (by omega)]
             · rw [if_neg e2, if_neg (by omega)]
         first
           | exact ⟨hd, o.pri.length - (k + 1), by omega, k + 1, true, _, rfl, rfl, by omega, hiff true ⟨fun _ => ⟨h116, ⟨h121, h125⟩, .inl h130⟩, fun _ => rfl⟩, hg2, H.al⟩
           | exact ⟨hd, o.pri.length - (k + 1), by omega, k + 1, decide (x = r), _, rfl, rfl, by omega, hiff _ ⟨fun h => ⟨h116, ⟨h121, h125⟩, .inr (of_decide_eq_true h)⟩, fun h => decide_eq_true (h.2.2.resolve_left h130)⟩, hg2, H.al⟩
           | exact ⟨hd, o.pri.length - (k + 1), by omega, k + 1, false, _, rfl, rfl, by omega, hiff false ⟨(fun h => by cases h), fun h => absurd h.2.1.2 h125⟩, hg2, H.al⟩
           | exact ⟨hd, o.pri.length - (k + 1), by omega, k + 1, false, _, rfl, rfl, by omega, hiff false ⟨(fun h => by cases h), fun h => absurd h.2.1.1 h121⟩, hg2, H.al⟩
           | exact ⟨hd, o.pri.length - (k + 1), by omega, k + 1, false, _, rfl, rfl, by omega, hiff false ⟨(fun h => by cases h), fun h => absurd h.1 (by rw [h116]; decide)⟩, hg2, H.al⟩
        ·
         refine R_w rfl rfl rfl (E_move ?_)
         refine R_w rfl rfl rfl (E_move ?_)
         refine R_w rfl rfl rfl (E_eql rfl rfl ?_)
         refine R_w rfl rfl rfl (E_pick rfl ?_)
         refine R_o rfl (E_pick rfl ?_)
         refine R_o rfl (E_assign (R_nil (C_region rfl (R_o rfl (E_add rfl rfl (by omega) ?_)))))
         refine R_o rfl (E_move (R_nil ?_))
         have hiff : ∀ bb : Bool, (bb = true ↔ (ev = true ∧ ((r ≤ x ∧ x ≤ 2000000) ∧ (0 < f k ∨ x = r)))) → (bb = true ↔ (e0 = true ∧ ∀ j, j < k + 1 → priP m o f j)) := fun bb h => by
           rw [h, all_succ, hev, and_assoc, ← hP]
         have hg2 : ∀ j, j < 8 → upd g k (max 0 (f k - 1)) j = if j < k + 1 then max 0 (f j - 1) else 0 := fun j hj => by
           unfold upd
           by_cases e : j = k
           · subst e; rw [if_pos rfl, if_pos (by omega)]
           · rw [if_neg e, hg j hj]
             by_cases e2 : j < k
             · rw [if_pos e2, if_pos (by omega)]
             · rw [if_neg e2, if_neg (by omega)]
         first
           | exact ⟨hd, o.pri.length - (k + 1), by omega, k + 1, true, _, rfl, rfl, by omega, hiff true ⟨fun _ => ⟨h116, ⟨h121, h125⟩, .inl h130⟩, fun _ => rfl⟩, hg2, H.al⟩
           | exact ⟨hd, o.pri.length - (k + 1), by omega, k + 1, decide (x = r), _, rfl, rfl, by omega, hiff _ ⟨fun h => ⟨h116, ⟨h121, h125⟩, .inr (of_decide_eq_true h)⟩, fun h => decide_eq_true (h.2.2.resolve_left h130)⟩, hg2, H.al⟩
           | exact ⟨hd, o.pri.length - (k + 1), by omega, k + 1, false, _, rfl, rfl, by omega, hiff false ⟨(fun h => by cases h), fun h => absurd h.2.1.2 h125⟩, hg2, H.al⟩
           | exact ⟨hd, o.pri.length - (k + 1), by omega, k + 1, false, _, rfl, rfl, by omega, hiff false ⟨(fun h => by cases h), fun h => absurd h.2.1.1 h121⟩, hg2, H.al⟩
           | exact ⟨hd, o.pri.length - (k + 1), by omega, k + 1, false, _, rfl, rfl, by omega, hiff false ⟨(fun h => by cases h), fun h => absurd h.1 (by rw [h116]; decide)⟩, hg2, H.al⟩
       ·
        refine R_p rfl rfl rfl ?_
        refine R_p rfl rfl rfl ?_
        refine R_p rfl rfl rfl ?_
        refine R_p rfl rfl rfl ?_
        refine R_p rfl rfl rfl ?_
        refine R_pu rfl rfl ?_
        refine R_pu rfl rfl ?_
        refine R_pu rfl rfl ?_
        refine R_p rfl rfl rfl ?_
        refine R_o rfl (E_pick rfl ?_)
        refine R_o rfl (E_assign (R_nil (C_region rfl (R_o rfl (E_add rfl rfl (by omega) ?_)))))
        refine R_o rfl (E_move (R_nil ?_))
        have hiff : ∀ bb : Bool, (bb = true ↔ (ev = true ∧ ((r ≤ x ∧ x ≤ 2000000) ∧ (0 < f k ∨ x = r)))) → (bb = true ↔ (e0 = true ∧ ∀ j, j < k + 1 → priP m o f j)) := fun bb h => by
          rw [h, all_succ, hev, and_assoc, ← hP]
        have hg2 : ∀ j, j < 8 → upd g k (max 0 (f k - 1)) j = if j < k + 1 then max 0 (f j - 1) else 0 := fun j hj => by
          unfold upd
          by_cases e : j = k
          · subst e; rw [if_pos rfl, if_pos (by omega)]
          · rw [if_neg e, hg j hj]
            by_cases e2 : j < k
            · rw [if_pos e2, if_pos (by omega)]
            · rw [if_neg e2, if_neg (by omega)]
        first
          | exact ⟨hd, o.pri.length - (k + 1), by omega, k + 1, true, _, rfl, rfl, by omega, hiff true ⟨fun _ => ⟨h116, ⟨h121, h125⟩, .inl h130⟩, fun _ => rfl⟩, hg2, H.al⟩
          | exact ⟨hd, o.pri.length - (k + 1), by omega, k + 1, decide (x = r), _, rfl, rfl, by omega, hiff _ ⟨fun h => ⟨h116, ⟨h121, h125⟩, .inr (of_decide_eq_true h)⟩, fun h => decide_eq_true (h.2.2.resolve_left h130)⟩, hg2, H.al⟩
          | exact ⟨hd, o.pri.length - (k + 1), by omega, k + 1, false, _, rfl, rfl, by omega, hiff false ⟨(fun h => by cases h), fun h => absurd h.2.1.2 h125⟩, hg2, H.al⟩
          | exact ⟨hd, o.pri.length - (k + 1), by omega, k + 1, false, _, rfl, rfl, by omega, hiff false ⟨(fun h => by cases h), fun h => absurd h.2.1.1 h121⟩, hg2, H.al⟩
          | exact ⟨hd, o.pri.length - (k + 1), by omega, k + 1, false, _, rfl, rfl, by omega, hiff false ⟨(fun h => by cases h), fun h => absurd h.1 (by rw [h116]; decide)⟩, hg2, H.al⟩
      ·
       refine R_p rfl rfl rfl ?_
       refine R_p rfl rfl rfl ?_
       refine R_o rfl (E_pick rfl ?_)
       refine R_o rfl (E_move (R_p rfl rfl rfl ?_))
       refine R_p rfl rfl rfl ?_
       refine R_p rfl rfl rfl ?_
       refine R_p rfl rfl rfl ?_
       refine R_p rfl rfl rfl ?_
       refine R_pu rfl rfl ?_
       refine R_pu rfl rfl ?_
       refine R_pu rfl rfl ?_
       refine R_p rfl rfl rfl ?_
       refine R_o rfl (E_pick rfl ?_)
       refine R_o rfl (E_assign (R_nil (C_region rfl (R_o rfl (E_add rfl rfl (by omega) ?_)))))
       refine R_o rfl (E_move (R_nil ?_))
       have hiff : ∀ bb : Bool, (bb = true ↔ (ev = true ∧ ((r ≤ x ∧ x ≤ 2000000) ∧ (0 < f k ∨ x = r)))) → (bb = true ↔ (e0 = true ∧ ∀ j, j < k + 1 → priP m o f j)) := fun bb h => by
         rw [h, all_succ, hev, and_assoc, ← hP]
       have hg2 : ∀ j, j < 8 → upd g k (max 0 (f k - 1)) j = if j < k + 1 then max 0 (f j - 1) else 0 := fun j hj => by
         unfold upd
         by_cases e : j = k
         · subst e; rw [if_pos rfl, if_pos (by omega)]
         · rw [if_neg e, hg j hj]
           by_cases e2 : j < k
           · rw [if_pos e2, if_pos (by omega)]
           · rw [if_neg e2, if_neg (by omega)]
       first
         | exact ⟨hd, o.pri.length - (k + 1), by omega, k + 1, true, _, rfl, rfl, by omega, hiff true ⟨fun _ => ⟨h116, ⟨h121, h125⟩, .inl h130⟩, fun _ => rfl⟩, hg2, H.al⟩
         | exact ⟨hd, o.pri.length - (k + 1), by omega, k + 1, decide (x = r), _, rfl, rfl, by omega, hiff _ ⟨fun h => ⟨h116, ⟨h121, h125⟩, .inr (of_decide_eq_true h)⟩, fun h => decide_eq_true (h.2.2.resolve_left h130)⟩, hg2, H.al⟩
         | exact ⟨hd, o.pri.length - (k + 1), by omega, k + 1, false, _, rfl, rfl, by omega, hiff false ⟨(fun h => by cases h), fun h => absurd h.2.1.2 h125⟩, hg2, H.al⟩
         | exact ⟨hd, o.pri.length - (k + 1), by omega, k + 1, false, _, rfl, rfl, by omega, hiff false ⟨(fun h => by cases h), fun h => absurd h.2.1.1 h121⟩, hg2, H.al⟩
         | exact ⟨hd, o.pri.length - (k + 1), by omega, k + 1, false, _, rfl, rfl, by omega, hiff false ⟨(fun h => by cases h), fun h => absurd h.1 (by rw [h116]; decide)⟩, hg2, H.al⟩
     ·
      refine R_p rfl rfl rfl ?_
      refine R_p rfl rfl rfl ?_
      refine R_p rfl rfl rfl ?_
      refine R_o rfl (E_pick rfl ?_)
      refine R_o rfl (E_move (R_p rfl rfl rfl ?_))
      refine R_p rfl rfl rfl ?_
      refine R_o rfl (E_pick rfl ?_)
      refine R_o rfl (E_move (R_p rfl rfl rfl ?_))
      refine R_p rfl rfl rfl ?_
      refine R_p rfl rfl rfl ?_
      refine R_p rfl rfl rfl ?_
      refine R_p rfl rfl rfl ?_
      refine R_pu rfl rfl ?_
      refine R_pu rfl rfl ?_
      refine R_pu rfl rfl ?_
      refine R_p rfl rfl rfl ?_
      refine R_o rfl (E_pick rfl ?_)
      refine R_o rfl (E_assign (R_nil (C_region rfl (R_o rfl (E_add rfl rfl (by omega) ?_)))))
      refine R_o rfl (E_move (R_nil ?_))
      have hiff : ∀ bb : Bool, (bb = true ↔ (ev = true ∧ ((r ≤ x ∧ x ≤ 2000000) ∧ (0 < f k ∨ x = r)))) → (bb = true ↔ (e0 = true ∧ ∀ j, j < k + 1 → priP m o f j)) := fun bb h => by
        rw [h, all_succ, hev, and_assoc, ← hP]
      have hg2 : ∀ j, j < 8 → upd g k (max 0 (f k - 1)) j = if j < k + 1 then max 0 (f j - 1) else 0 := fun j hj => by
        unfold upd
        by_cases e : j = k
        · subst e; rw [if_pos rfl, if_pos (by omega)]
        · rw [if_neg e, hg j hj]
          by_cases e2 : j < k
          · rw [if_pos e2, if_pos (by omega)]
          · rw [if_neg e2, if_neg (by omega)]
      first
        | exact ⟨hd, o.pri.length - (k + 1), by omega, k + 1, true, _, rfl, rfl, by omega, hiff true ⟨fun _ => ⟨h116, ⟨h121, h125⟩, .inl h130⟩, fun _ => rfl⟩, hg2, H.al⟩
        | exact ⟨hd, o.pri.length - (k + 1), by omega, k + 1, decide (x = r), _, rfl, rfl, by omega, hiff _ ⟨fun h => ⟨h116, ⟨h121, h125⟩, .inr (of_decide_eq_true h)⟩, fun h => decide_eq_true (h.2.2.resolve_left h130)⟩, hg2, H.al⟩
        | exact ⟨hd, o.pri.length - (k + 1), by omega, k + 1, false, _, rfl, rfl, by omega, hiff false ⟨(fun h => by cases h), fun h => absurd h.2.1.2 h125⟩, hg2, H.al⟩
        | exact ⟨hd, o.pri.length - (k + 1), by omega, k + 1, false, _, rfl, rfl, by omega, hiff false ⟨(fun h => by cases h), fun h => absurd h.2.1.1 h121⟩, hg2, H.al⟩
        | exact ⟨hd, o.pri.length - (k + 1), by omega, k + 1, false, _, rfl, rfl, by omega, hiff false ⟨(fun h => by cases h), fun h => absurd h.1 (by rw [h116]; decide)⟩, hg2, H.al⟩
    ·
     obtain rfl : k = o.pri.length := by omega
     have hfin := even_of (e0 := e0) (f := f) (g := g) hok hl1 hl2 (by omega) (fun h => ⟨(ht h).2, by rw [← (ht h).1]; exact hcf⟩) hf hg
     refine C_exit ?_
     refine C_seq (C_region rfl (R_o rfl (E_move (R_o rfl (E_move (R_partb (t := 138) rfl (fun h138 => ?_) (fun h138 => ?_)))))))
     ·
      refine R_w rfl rfl rfl (E_loadw H rfl (by rfl) ?_)
      refine R_w rfl rfl rfl (E_buildA0 ?_)
      refine R_w rfl rfl rfl (E_eqarr (xs := tab 8 g) (ys := tab 8 fun _ => 0) rfl rfl (by simp) (by simp) (by kernel_rfl) ?_)
      refine R_o rfl (E_pick rfl ?_)
      refine R_o rfl (E_assign (R_nil (C_ret ?_)))
      with_reducible repeat (first | refine thn_ret ?_ | refine inB_ret ?_ | refine noG_ret ?_ | refine jmp_ret ?_)
      first
        | exact ret_one rfl rfl ⟨_, rfl, ⟨(fun h => by cases h), fun h => absurd h.1 h19⟩, H.below⟩
        | exact ret_one rfl rfl ⟨_, rfl, ⟨(fun h => by cases h), fun h => absurd h.2.1 (by omega)⟩, H.below⟩
        | exact ret_one rfl rfl ⟨_, rfl, ⟨(fun h => by cases h), fun h => absurd h.2.2.1 (by omega)⟩, H.below⟩
        | exact ret_one rfl hd ⟨_, rfl, by rw [decide_eq_true_iff, tab_inj, ← hfin, ← hev]; exact ⟨fun h => ⟨h138, h⟩, fun h => h.2⟩, H.below⟩
        | exact ret_one rfl hd ⟨_, rfl, by rw [← hfin, ← hev, h138]; exact ⟨(fun h => by cases h), fun h => by cases h.1⟩, H.below⟩
     ·
      refine R_p rfl rfl rfl ?_
      refine R_p rfl rfl rfl ?_
      refine R_p rfl rfl rfl ?_
      refine R_o rfl (E_pick rfl ?_)
      refine R_o rfl (E_assign (R_nil (C_ret ?_)))
      with_reducible repeat (first | refine thn_ret ?_ | refine inB_ret ?_ | refine noG_ret ?_ | refine jmp_ret ?_)
      first
        | exact ret_one rfl rfl ⟨_, rfl, ⟨(fun h => by cases h), fun h => absurd h.1 h19⟩, H.below⟩
        | exact ret_one rfl rfl ⟨_, rfl, ⟨(fun h => by cases h), fun h => absurd h.2.1 (by omega)⟩, H.below⟩
        | exact ret_one rfl rfl ⟨_, rfl, ⟨(fun h => by cases h), fun h => absurd h.2.2.1 (by omega)⟩, H.below⟩
        | exact ret_one rfl hd ⟨_, rfl, by rw [decide_eq_true_iff, tab_inj, ← hfin, ← hev]; exact ⟨fun h => ⟨h138, h⟩, fun h => h.2⟩, H.below⟩
        | exact ret_one rfl hd ⟨_, rfl, by rw [← hfin, ← hev, h138]; exact ⟨(fun h => by cases h), fun h => by cases h.1⟩, H.below⟩
end Go.Sl
