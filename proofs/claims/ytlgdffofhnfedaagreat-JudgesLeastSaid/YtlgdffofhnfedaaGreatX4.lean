/- gains, markets without a bidder. -/
import Derived.Test.YtlgdffofhnfedaaGreatX3
set_option linter.unusedVariables false
set_option linter.unusedSimpArgs false
set_option maxRecDepth 10000
namespace Go.Sl
open Go.RowKit
open Go.Proofs
theorem gain1_length {res b : List Int} (h : b = [] ∨ b.length = res.length) : (gain1 res b).length = res.length := by
 unfold gain1
 split
 · simp
 · rcases h with h | h
   · contradiction
   · simp [h]
theorem gain1_get {res b : List Int} {j : Nat} {x y : Int} (hb : b ≠ []) (hx : b[j]? = some x) (hy : res[j]? = some y) : (gain1 res b).getD j 0 = x - y := by
 unfold gain1
 rw [if_neg hb, List.getD_eq_getElem?_getD, List.getElem?_zipWith, hx, hy]
 rfl
theorem gain1_nil {res : List Int} {j : Nat} (hj : j < res.length) : (gain1 res []).getD j 0 = -1 := by
 unfold gain1
 simp [hj]
theorem tint_of {n : Nat} {G : List Int} (h : G.length = n) : tint n (fun j => if j < n then G.getD j 0 else 0) = ints .i64 G := by
 unfold tint
 congr 1
 apply List.ext_getElem?
 intro j
 by_cases hj : j < n
 · rw [tab_get hj, if_pos hj, List.getElem?_eq_getElem (by omega), List.getD_eq_getElem?_getD, List.getElem?_eq_getElem (by omega)]; rfl
 · rw [List.getElem?_eq_none (by simp; omega), List.getElem?_eq_none (by omega)]
theorem tint_upd {n k : Nat} {G : List Int} {v : Int} (h : G.getD k 0 = v) : tint n (upd (fun j => if j < k then G.getD j 0 else 0) k v) = tint n (fun j => if j < k + 1 then G.getD j 0 else 0) := by
 apply tint_congr
 intro j hj
 simp only [upd]
 by_cases e : j = k
 · subst e; rw [if_pos rfl, if_pos (by omega), h]
 · rw [if_neg e]
   by_cases e2 : j < k
   · rw [if_pos e2, if_pos (by omega)]
   · rw [if_neg e2, if_neg (by omega)]
theorem upd_upd {α : Type} (f : Nat → α) (i : Nat) (a b : α) : upd (upd f i a) i b = upd f i b := by
 funext j; unfold upd; split <;> rfl
theorem okMk.len {m : Mk} (h : okMk m) {k : Nat} {b : List Int} (hb : m.bids[k]? = some b) : b = [] ∨ b.length = m.res.length := by
 by_cases e : b = []
 · exact .inl e
 · have h1 := h.2.2.2 b (mem_of_get hb)
   have h2 : okVec b m.res.length := by
     refine Decidable.of_not_not fun hn => h1 ⟨List.length_pos_iff.2 e, hn⟩
   exact .inr (by have := h2.2.2.1; omega)
theorem gains_get {m : Mk} {k : Nat} {b : List Int} (hb : m.bids[k]? = some b) : (gains m)[k]? = some (gain1 m.res b) := by simp [gains, hb]
@[simp] theorem gains_length (m : Mk) : (gains m).length = m.bids.length := by simp [gains]
theorem row_rdI {w : World} {S : Nat → Prop} {e n : Nat} {v : Value} {xs : List Int} (h : (row e 1 v n (ints .i64 xs)).p S w) (hl : xs.length = n) : RdI w v xs := RdI.of_own h.2 hl
theorem row_rdE {α : Type} {r : World → Value → α → Prop} {w : World} {S : Nat → Prop} {e n : Nat} {v : Value} {us : List Value} {xs : List α} (h : (row e 1 v n us).p S w) (he : Els r w us xs) : RdS r w v xs :=
 RdS.of_own h.2 (by rw [← he.1]; simpa using h.2.1) fun i x hx => he.get hx
theorem okMk.bound {m : Mk} (h : okMk m) {k : Nat} {b : List Int} (hb : m.bids[k]? = some b) {j : Nat} {x y : Int} (hx : b[j]? = some x) (hy : m.res[j]? = some y) : 0 ≤ x ∧ x ≤ 1000000 ∧ 0 ≤ y ∧ y ≤ 1000000 := by
 have h1 := h.2.2.2 b (mem_of_get hb)
 have h2 : okVec b m.res.length := by
   refine Decidable.of_not_not fun hn => h1 ⟨?_, hn⟩
   have := lt_of_get hx; omega
 have h3 := h2.2.2.2 x (mem_of_get hx)
 have h4 := h.1.2.2.2 y (mem_of_get hy)
 exact ⟨h3.1, h3.2, h4.1, h4.2⟩
def GainsPo (m : Mk) (w0 : World) (r : Value) (w : World) : Prop :=
 (okMk m ∧ ∃ v, r = .tuple #[v, .int .i64 0] ∧ Loc w0 w [rdv v (fun w => RdII w v (gains m))]) ∨ (¬ okMk m ∧ r = .tuple #[.slice none 0 0, .int .i64 1] ∧ Loc w0 w [])
theorem Gains_ {w0 : World} {v : Value} {m : Mk} (hm : RdM w0 v m) : Ret Tryz.prog 31 [v] w0 (GainsPo m w0) := by
 refine ret_of_C Tryz.func31 rfl rfl rfl ?_
 have H := Loc.refl w0
 have hm0 := hm
 obtain ⟨a, b, c, rfl, ra, rb, rc⟩ := hm
 obtain ⟨A1, c1, rfl, hA1, hA2⟩ := ra.len
 obtain ⟨A2, c2, rfl, hB1, hB2⟩ := rb.len
 refine C_seq (C_region rfl (R_o rfl (E_box (cs := [.slice A1 m.res.length c1, .slice A2 m.bids.length c2, c]) rfl H ?_)))
 clear H; intro w b1 H
 refine R_o rfl (E_assign (R_o rfl (E_assign (R_nil (C_seq (C_seq (C_region rfl (R_o rfl (E_loadw H rfl (by rfl) ?_)))))))))
 refine R_o rfl (E_call rfl (Check_ (Abides.below H.below hm0)) ?_)
 rintro _ w1 ⟨rfl, hb⟩
 replace H := H.call0 hb; clear hb
 refine R_o rfl (E_not rfl ?_)
 refine R_nil (C_cond (t := 11) rfl (fun hno => ?_) (fun hno => ?_))
 ·
  refine C_seq (C_region rfl (R_o rfl (E_assign (R_o rfl (E_assign (R_nil (C_ret ?_)))))))
  with_reducible repeat (first | refine thn_ret ?_ | refine inB_ret ?_ | refine noG_ret ?_)
  first
    | exact ret_two rfl rfl (.inr ⟨hno, rfl, H.o0⟩)
    | (refine ret_two rfl hd (.inl ⟨hok, _, rfl, ?_⟩)
       subst hk
       rw [Nat.sub_self, List.replicate_zero, List.append_nil, List.take_of_length_le (by simp)] at H
       exact (H.join (.slice (some ⟨b15, 0, none⟩) m.bids.length m.bids.length) (fun w => RdII w (.slice (some ⟨b15, 0, none⟩) m.bids.length m.bids.length) (gains m)) fun S1 S2 w' h1 h2 => row_rdE h2 (rdv_now h1)).fst)
 ·
  have hok : okMk m := Decidable.of_not_not hno
  have hn1 := hok.1.2.1
  have hn2 := hok.2.1.2
  refine C_skip (C_seq (C_region rfl (R_o rfl (E_fieldAddr rfl ?_))))
  refine R_o rfl (E_load H rfl rfl ?_)
  refine R_o rfl (E_len rfl ?_)
  refine R_o rfl (E_maken m.bids.length m.bids.length H rfl rfl (by omega) (by omega) (by omega) ?_)
  clear H; intro w b15 H
  replace H := H.mkEmp.toRd undef (fun w => Els RdI w [] ((gains m).take 0)) (fun _ _ _ => Els.nil _ _)
  refine R_o rfl (E_assign (R_nil (C_seq (C_seq (C_region rfl (R_o rfl (E_fieldAddr rfl ?_)))))))
  refine R_o rfl (E_load H rfl rfl ?_)
  refine R_o rfl (E_len rfl ?_)
  refine R_o rfl (E_move (R_nil (C_block (C_loop (ds := []) [1, 4, 17, 18, 19] (fun m_ vs w => ∃ k : Nat, ∃ us : List Value, vs = [.pointer (some ⟨b1, 0, none⟩), .slice (some ⟨b15, 0, none⟩) m.bids.length m.bids.length, .slice A2 m.bids.length c2, .int .i64 m.bids.length, .int .i64 k] ∧ m_ = m.bids.length - k ∧ k ≤ m.bids.length ∧ (us.length = k) ∧ Loc w0 w [rdv undef (fun w => Els RdI w us ((gains m).take k)), row 22 1 (.slice (some ⟨b15, 0, none⟩) m.bids.length m.bids.length) m.bids.length (us ++ List.replicate (m.bids.length - k) (.slice none 0 0)), cl b1 25 [.slice A1 m.res.length c1, .slice A2 m.bids.length c2, c]]) (m := m.bids.length) (by first | rfl | exact hd) ?_ ?_))))
  · rw [show List.replicate m.bids.length (Value.slice none 0 0) = [] ++ List.replicate (m.bids.length - 0) (Value.slice none 0 0) from rfl] at H
    exact ⟨0, [], rfl, by omega, by omega, rfl, H.o3⟩
  intro m vs ρ₀ w hd hI
  clear H
  obtain ⟨k, us, rfl, rfl, hk, hst, H⟩ := hI
  refine C_seq (C_region rfl (R_o rfl (E_lss rfl rfl ?_)))
  refine R_nil (C_seq (C_cond (t := 20) rfl (fun hlt => ?_) (fun hlt => ?_)))
  ·
   obtain ⟨x, hx⟩ := get_of (xs := m.bids) (k := k) (by omega)
   have hul := hst
   refine C_skip (C_seq (C_block (C_seq (C_region rfl (R_o rfl (E_move (R_o rfl (E_idxr rb rfl rfl (by omega) (by omega) ?_))))))))
   refine R_o rfl (E_loadr rb H rfl hx ?_)
   intro u hu
   obtain ⟨Au, cu, rfl, hu1, hu2⟩ := hu.len
   refine R_o rfl (E_assign (R_o rfl (E_assign (R_nil (C_seq (C_region rfl (R_o rfl (E_move (R_o rfl (E_move (R_o rfl (E_fieldAddr rfl ?_))))))))))))
   refine R_o rfl (E_load H rfl rfl ?_)
   refine R_o rfl (E_len rfl ?_)
   refine R_o rfl (E_maken m.res.length m.res.length H rfl rfl (by omega) (by omega) (by omega) ?_)
   clear H; intro w b29 H
   rw [tint_const] at H
   refine R_o rfl (E_idxw (v := .slice (some ⟨b15, 0, none⟩) m.bids.length m.bids.length) H rfl rfl (by omega) (by omega) ?_)
   refine R_n rfl (E_storew (v := .slice (some ⟨b15, 0, none⟩) m.bids.length m.bids.length) (j := k) (u := .slice (some ⟨b29, 0, none⟩) m.res.length m.res.length) H rfl rfl rfl (by omega) ?_)
   clear H; intro w H
   rw [set_mid hul (by omega)] at H
   refine R_nil (C_seq (C_region rfl (R_o rfl (E_fieldAddr rfl ?_))))
   refine R_o rfl (E_load H rfl rfl ?_)
   refine R_o rfl (E_len rfl ?_)
   refine R_o rfl (E_move (R_nil (C_block (C_loop (ds := []) [1, 4, 5, 6, 17, 18, 19, 32, 33, 34] (fun m_ vs w => ∃ j : Nat, vs = [.pointer (some ⟨b1, 0, none⟩), .slice (some ⟨b15, 0, none⟩) m.bids.length m.bids.length, .int .i64 k, .slice Au x.length cu, .slice A2 m.bids.length c2, .int .i64 m.bids.length, .int .i64 k, .slice A1 m.res.length c1, .int .i64 m.res.length, .int .i64 j] ∧ m_ = m.res.length - j ∧ j ≤ m.res.length ∧ (True) ∧ Loc w0 w [row 3 1 (.slice (some ⟨b29, 0, none⟩) m.res.length m.res.length) m.res.length (tint m.res.length (fun i => if i < j then (gain1 m.res x).getD i 0 else 0)), rdv undef (fun w => Els RdI w us ((gains m).take k)), row 22 1 (.slice (some ⟨b15, 0, none⟩) m.bids.length m.bids.length) m.bids.length ((us ++ [.slice (some ⟨b29, 0, none⟩) m.res.length m.res.length]) ++ List.replicate (m.bids.length - (k + 1)) (.slice none 0 0)), cl b1 25 [.slice A1 m.res.length c1, .slice A2 m.bids.length c2, c]]) (m := m.res.length) (by first | rfl | exact hd) ?_ ?_))))
   · rw [show tint m.res.length (fun _ => 0) = tint m.res.length (fun j => if j < 0 then (gain1 m.res x).getD j 0 else 0) from tint_congr fun i _ => by simp] at H
     exact ⟨0, rfl, by omega, by omega, trivial, H.o4⟩
   intro m vs ρ₀ w hd hI
   clear H
   obtain ⟨j, rfl, rfl, hj, _, H⟩ := hI
   refine C_seq (C_region rfl (R_o rfl (E_lss rfl rfl ?_)))
   refine R_nil (C_seq (C_cond (t := 35) rfl (fun hlt2 => ?_) (fun hlt2 => ?_)))
   ·
    obtain ⟨y, hy⟩ := get_of (xs := m.res) (k := j) (by omega)
    refine C_skip (C_seq (C_block (C_seq (C_region rfl (R_o rfl (E_move (R_o rfl (E_idxr ra rfl rfl (by omega) (by omega) ?_))))))))
    refine R_o rfl (E_loadi ra H rfl hy ?_)
    refine R_o rfl (E_assign (R_o rfl (E_assign (R_nil (C_seq (C_region rfl (R_o rfl (E_move (R_o rfl (E_move (R_o rfl (E_idxw (v := .slice (some ⟨b15, 0, none⟩) m.bids.length m.bids.length) H rfl rfl (by omega) (by omega) ?_))))))))))))
    refine R_o rfl (E_loadw' (v := .slice (some ⟨b15, 0, none⟩) m.bids.length m.bids.length) H rfl (get_mid hul) ?_)
    refine R_o rfl (E_move (R_o rfl (E_idxw (v := .slice (some ⟨b29, 0, none⟩) m.res.length m.res.length) H rfl rfl (by omega) (by omega) ?_)))
    refine R_n rfl (E_storew (v := .slice (some ⟨b29, 0, none⟩) m.res.length m.res.length) (j := j) (u := .int .i64 (-1)) H rfl rfl rfl (by omega) ?_)
    clear H; intro w H
    rw [tint_set] at H
    refine R_nil (C_seq (C_region rfl (R_o rfl (E_move (R_o rfl (E_len rfl ?_))))))
    refine R_o rfl (E_gtr rfl rfl ?_)
    refine R_nil (C_cond (t := 47) rfl (fun h47 => ?_) (fun h47 => ?_))
    ·
     obtain ⟨z, hz⟩ := get_of (xs := x) (k := j) (by rcases hok.len hx with e | e; (subst e; simp at h47); omega)
     have hzb := hok.bound hx hz hy
     have hjz := lt_of_get hz
     refine C_drawL [12] H (by kernel_rfl) (fun w H => ?_)
     refine D_takeT 0 rfl rfl rfl (by kernel_rfl) (fun w K Z kk => E_move kk) ?_
     refine D_takeT 1 rfl rfl rfl (by kernel_rfl) (fun w K Z kk => E_move kk) ?_
     refine D_take 2 rfl rfl rfl (by kernel_rfl) (by first | exact H | exact H.drop | exact H.drop.drop | exact H.drop.drop.drop | exact H.drop.drop.drop.drop) (fun w HS K Z kk => E_idxw (v := .slice (some ⟨b15, 0, none⟩) m.bids.length m.bids.length) HS rfl rfl (by omega) (by omega) kk) ?_
     refine D_take 3 rfl rfl rfl (by kernel_rfl) (by first | exact H | exact H.drop | exact H.drop.drop | exact H.drop.drop.drop | exact H.drop.drop.drop.drop) (fun w HS K Z kk => E_loadw' (v := .slice (some ⟨b15, 0, none⟩) m.bids.length m.bids.length) HS rfl (get_mid hul) kk) ?_
     refine D_takeT 4 rfl rfl rfl (by kernel_rfl) (fun w K Z kk => E_move kk) ?_
     refine D_takeT 5 rfl rfl rfl (by kernel_rfl) (fun w K Z kk => E_move kk) ?_
     refine D_takeT 6 rfl rfl rfl (by kernel_rfl) (fun w K Z kk => E_move kk) ?_
     refine D_takeT 7 rfl rfl rfl (by kernel_rfl) (fun w K Z kk => E_idxr hu rfl rfl (by omega) (by omega) kk) ?_
     refine D_take 8 rfl rfl rfl (by kernel_rfl) (by first | exact H | exact H.drop | exact H.drop.drop | exact H.drop.drop.drop | exact H.drop.drop.drop.drop) (fun w HS K Z kk => E_loadi hu HS rfl hz kk) ?_
     refine D_takeT 9 rfl rfl rfl (by kernel_rfl) (fun w K Z kk => E_move kk) ?_
     refine D_takeT 10 rfl rfl rfl (by kernel_rfl) (fun w K Z kk => E_sub rfl rfl (by omega) kk) ?_
     refine D_take 11 rfl rfl rfl (by kernel_rfl) (by first | exact H | exact H.drop | exact H.drop.drop | exact H.drop.drop.drop | exact H.drop.drop.drop.drop) (fun w HS K Z kk => E_idxw (v := .slice (some ⟨b29, 0, none⟩) m.res.length m.res.length) HS rfl rfl (by omega) (by omega) kk) ?_
     refine D_actn 12 rfl (by kernel_rfl) (E_storew (v := .slice (some ⟨b29, 0, none⟩) m.res.length m.res.length) (j := j) (u := .int .i64 (z - y)) H rfl rfl rfl (by omega) ?_)
     clear H; intro w H
     rw [tint_set, upd_upd, tint_upd (gain1_get (by intro e; subst e; simp at h47) hz hy)] at H
     refine ⟨fun h => Bool.noConfusion (h : true = false), ?_⟩
     refine D_done (by kernel_rfl) ?_
     refine C_region rfl (R_o rfl (E_add rfl rfl (by omega) ?_))
     refine R_o rfl (E_move (R_nil (⟨hd, m.res.length - (j + 1), by omega, j + 1, rfl, rfl, by omega, trivial, H.o4⟩)))
    ·
     obtain rfl : x = [] := List.eq_nil_of_length_eq_zero (by omega)
     rw [tint_upd (gain1_nil (by omega))] at H
     refine C_skip (C_region rfl (R_o rfl (E_add rfl rfl (by omega) ?_)))
     refine R_o rfl (E_move (R_nil (⟨hd, m.res.length - (j + 1), by omega, j + 1, rfl, rfl, by omega, trivial, H.o4⟩)))
   ·
    have hj : j = m.res.length := by omega
    refine C_exit ?_
    refine C_region rfl (R_o rfl (E_add rfl rfl (by omega) ?_))
    refine R_o rfl (E_move (R_nil ?_))
    subst hj
    rw [tint_of (gain1_length (hok.len hx))] at H
    replace H := H.join undef (fun w => Els RdI w (us ++ [.slice (some ⟨b29, 0, none⟩) m.res.length m.res.length]) ((gains m).take (k + 1))) (fun S1 S2 w h1 h2 => by rw [take_step (gains_get hx)]; exact (rdv_now h2).snoc (row_rdI h1 (gain1_length (hok.len hx))))
    refine ⟨hd, m.bids.length - (k + 1), by omega, k + 1, us ++ [.slice (some ⟨b29, 0, none⟩) m.res.length m.res.length], rfl, rfl, by omega, (by simp [hul]), H.o3⟩
  ·
   have hk : k = m.bids.length := by omega
   refine C_exit ?_
   refine C_seq (C_region rfl (R_o rfl (E_move (R_o rfl (E_assign (R_o rfl (E_assign (R_nil (C_ret ?_)))))))))
   with_reducible repeat (first | refine thn_ret ?_ | refine inB_ret ?_ | refine noG_ret ?_)
   first
     | exact ret_two rfl rfl (.inr ⟨hno, rfl, H.o0⟩)
     | (refine ret_two rfl hd (.inl ⟨hok, _, rfl, ?_⟩)
        subst hk
        rw [Nat.sub_self, List.replicate_zero, List.append_nil, List.take_of_length_le (by simp)] at H
        exact (H.join (.slice (some ⟨b15, 0, none⟩) m.bids.length m.bids.length) (fun w => RdII w (.slice (some ⟨b15, 0, none⟩) m.bids.length m.bids.length) (gains m)) fun S1 S2 w' h1 h2 => row_rdE h2 (rdv_now h1)).fst)
end Go.Sl
