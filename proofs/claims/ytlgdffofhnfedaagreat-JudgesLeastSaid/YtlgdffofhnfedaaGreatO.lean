/- the answer of chapter 12 Who may have what, plainly. No program in sight. -/
import Derived.Test.YtlgdffofhnfedaaGreatX12
import Derived.Test.YtlgdffofhnfedaaGreatI
set_option linter.unusedVariables false
set_option linter.unusedSimpArgs false
set_option maxRecDepth 10000
set_option maxHeartbeats 2000000
namespace Go.Sl
open Go.RowKit
open Go.Proofs
theorem R12Prices_ {w0 : World} {v : Value} {p : List Int} (hp : RdI w0 v p) :
   Ret Tryz.prog 133 [v] w0 (fun v w => v = .bool (decide (okPr p)) ∧ Below w0.heap.size w0 w) := by
 refine ret_of_C Tryz.func133 rfl rfl rfl ?_
 have H := Loc.refl w0
 obtain ⟨A, c, rfl, hc1, hc2⟩ := hp.len
 refine C_seq (C_region rfl (R_o rfl (E_assign (R_nil (C_seq (C_seq (C_region rfl (R_o rfl (E_move (R_o rfl (E_len rfl ?_)))))))))))
 refine R_o rfl (E_lss rfl rfl ?_)
 refine R_o rfl (E_move (R_part (t := 7) rfl (fun h7 => ?_) (fun h7 => ?_)))
 ·
  refine R_p rfl rfl rfl ?_
  refine R_p rfl rfl rfl ?_
  refine R_p rfl rfl rfl ?_
  refine R_o rfl (E_pick rfl ?_)
  refine R_nil (C_true (t := 11) rfl ?_)
  refine C_seq (C_region rfl (R_o rfl (E_assign (R_nil (C_ret ?_)))))
  with_reducible repeat (first | refine thn_ret ?_ | refine inB_ret ?_ | refine noG_ret ?_ | refine jmp_ret ?_)
  first
    | exact ret_one rfl rfl ⟨congrArg Value.bool (decide_eq_false (fun h => by have := h.1; have := h.2.1; omega)).symm, H.below⟩
    | exact ret_one rfl hd ⟨congrArg Value.bool (decide_eq_false (fun h => by have := h.2.2 x (mem_of_get hx); omega)).symm, H.below⟩
    | exact ret_one rfl hd ⟨congrArg Value.bool (decide_eq_true ⟨hl8.1, hl8.2, fun y hy => by obtain ⟨j, hj, rfl⟩ := List.getElem_of_mem hy; exact hst j _ (by omega) (List.getElem?_eq_getElem hj)⟩).symm, H.below⟩
 ·
  refine R_w rfl rfl rfl (E_move ?_)
  refine R_w rfl rfl rfl (E_len rfl ?_)
  refine R_w rfl rfl rfl (E_gtr rfl rfl ?_)
  refine R_o rfl (E_pick rfl ?_)
  refine R_nil (C_cond (t := 11) rfl (fun h11 => ?_) (fun h11 => ?_))
  ·
   refine C_seq (C_region rfl (R_o rfl (E_assign (R_nil (C_ret ?_)))))
   with_reducible repeat (first | refine thn_ret ?_ | refine inB_ret ?_ | refine noG_ret ?_ | refine jmp_ret ?_)
   first
     | exact ret_one rfl rfl ⟨congrArg Value.bool (decide_eq_false (fun h => by have := h.1; have := h.2.1; omega)).symm, H.below⟩
     | exact ret_one rfl hd ⟨congrArg Value.bool (decide_eq_false (fun h => by have := h.2.2 x (mem_of_get hx); omega)).symm, H.below⟩
     | exact ret_one rfl hd ⟨congrArg Value.bool (decide_eq_true ⟨hl8.1, hl8.2, fun y hy => by obtain ⟨j, hj, rfl⟩ := List.getElem_of_mem hy; exact hst j _ (by omega) (List.getElem?_eq_getElem hj)⟩).symm, H.below⟩
  ·
   have hl8 : 1 ≤ p.length ∧ p.length ≤ 8 := ⟨by omega, by omega⟩
   refine C_skip (C_seq (C_seq (C_region rfl (R_o rfl (E_assign (R_nil (C_block (C_loop (ds := []) [0, 3] (fun m_ vs w => ∃ k : Nat, vs = [.slice A p.length c, .int .i64 k] ∧ m_ = p.length - k ∧ k ≤ p.length ∧ (∀ j y, j < k → p[j]? = some y → 0 ≤ y ∧ y ≤ 2000000) ∧ Loc w0 w []) (m := p.length) (by first | rfl | exact hd) ?_ ?_))))))))
   · exact ⟨0, rfl, by omega, by omega, fun j y hj => by omega, H⟩
   intro m vs ρ₀ w hd hI
   clear H
   obtain ⟨k, rfl, rfl, hk, hst, H⟩ := hI
   refine C_seq (C_seq (C_region rfl (R_o rfl (E_move (R_o rfl (E_move (R_o rfl (E_len rfl ?_))))))))
   refine R_o rfl (E_lss rfl rfl ?_)
   refine R_nil (C_cond (t := 15) rfl (fun hlt => ?_) (fun hlt => ?_))
   ·
    obtain ⟨x, hx⟩ := get_of (xs := p) (k := k) (by omega)
    refine C_skip (C_seq (C_block (C_seq (C_region rfl (R_o rfl (E_move (R_o rfl (E_move (R_o rfl (E_idxr hp rfl rfl (by omega) (by omega) ?_))))))))))
    refine R_o rfl (E_loadi hp H rfl hx ?_)
    refine R_o rfl (E_lss rfl rfl ?_)
    refine R_o rfl (E_move (R_part (t := 23) rfl (fun h23 => ?_) (fun h23 => ?_)))
    ·
     refine R_p rfl rfl rfl ?_
     refine R_p rfl rfl rfl ?_
     refine R_p rfl rfl rfl ?_
     refine R_p rfl rfl rfl ?_
     refine R_p rfl rfl rfl ?_
     refine R_o rfl (E_pick rfl ?_)
     refine R_nil (C_true (t := 29) rfl ?_)
     refine C_seq (C_region rfl (R_o rfl (E_assign (R_nil (C_ret ?_)))))
     with_reducible repeat (first | refine thn_ret ?_ | refine inB_ret ?_ | refine noG_ret ?_ | refine jmp_ret ?_)
     first
       | exact ret_one rfl rfl ⟨congrArg Value.bool (decide_eq_false (fun h => by have := h.1; have := h.2.1; omega)).symm, H.below⟩
       | exact ret_one rfl hd ⟨congrArg Value.bool (decide_eq_false (fun h => by have := h.2.2 x (mem_of_get hx); omega)).symm, H.below⟩
       | exact ret_one rfl hd ⟨congrArg Value.bool (decide_eq_true ⟨hl8.1, hl8.2, fun y hy => by obtain ⟨j, hj, rfl⟩ := List.getElem_of_mem hy; exact hst j _ (by omega) (List.getElem?_eq_getElem hj)⟩).symm, H.below⟩
    ·
     refine R_w rfl rfl rfl (E_move ?_)
     refine R_w rfl rfl rfl (E_move ?_)
     refine R_w rfl rfl rfl (E_idxr hp rfl rfl (by omega) (by omega) ?_)
     refine R_w rfl rfl rfl (E_loadi hp H rfl hx ?_)
     refine R_w rfl rfl rfl (E_gtr rfl rfl ?_)
     refine R_o rfl (E_pick rfl ?_)
     refine R_nil (C_cond (t := 29) rfl (fun h29 => ?_) (fun h29 => ?_))
     ·
      refine C_seq (C_region rfl (R_o rfl (E_assign (R_nil (C_ret ?_)))))
      with_reducible repeat (first | refine thn_ret ?_ | refine inB_ret ?_ | refine noG_ret ?_ | refine jmp_ret ?_)
      first
        | exact ret_one rfl rfl ⟨congrArg Value.bool (decide_eq_false (fun h => by have := h.1; have := h.2.1; omega)).symm, H.below⟩
        | exact ret_one rfl hd ⟨congrArg Value.bool (decide_eq_false (fun h => by have := h.2.2 x (mem_of_get hx); omega)).symm, H.below⟩
        | exact ret_one rfl hd ⟨congrArg Value.bool (decide_eq_true ⟨hl8.1, hl8.2, fun y hy => by obtain ⟨j, hj, rfl⟩ := List.getElem_of_mem hy; exact hst j _ (by omega) (List.getElem?_eq_getElem hj)⟩).symm, H.below⟩
     ·
      refine C_skip (C_region rfl (R_o rfl (E_move (R_o rfl (E_add rfl rfl (by omega) ?_)))))
      refine R_o rfl (E_assign (R_nil (⟨hd, p.length - (k + 1), by omega, k + 1, rfl, rfl, by omega, fun j y hj hy => ?_, H⟩)))
      by_cases e : j = k
      · subst e; rw [hx] at hy; cases hy; exact ⟨by omega, by omega⟩
      · exact hst j y (by omega) hy--
   ·
    have hk : k = p.length := by omega
    refine C_exit ?_
    refine C_seq (C_region rfl (R_o rfl (E_assign (R_nil (C_ret ?_)))))
    with_reducible repeat (first | refine thn_ret ?_ | refine inB_ret ?_ | refine noG_ret ?_ | refine jmp_ret ?_)
    first
      | exact ret_one rfl rfl ⟨congrArg Value.bool (decide_eq_false (fun h => by have := h.1; have := h.2.1; omega)).symm, H.below⟩
      | exact ret_one rfl hd ⟨congrArg Value.bool (decide_eq_false (fun h => by have := h.2.2 x (mem_of_get hx); omega)).symm, H.below⟩
      | exact ret_one rfl hd ⟨congrArg Value.bool (decide_eq_true ⟨hl8.1, hl8.2, fun y hy => by obtain ⟨j, hj, rfl⟩ := List.getElem_of_mem hy; exact hst j _ (by omega) (List.getElem?_eq_getElem hj)⟩).symm, H.below⟩
def topsG (ds : List Int) (gn : Int) (k : Nat) : List Int := ((List.range k).filter (fun j => ds.getD j 0 == gn)).map (fun j : Nat => (j : Int))
theorem topsG_step {ds : List Int} {gn x : Int} {k : Nat} (hx : ds[k]? = some x) : topsG ds gn (k + 1) = if x = gn then topsG ds gn k ++ [(k : Int)] else topsG ds gn k := by
 have h2 : ds.getD k 0 = x := by rw [List.getD_eq_getElem?_getD, hx]; rfl
 unfold topsG
 rw [List.range_succ, List.filter_append]
 by_cases e : x = gn
 · subst e
   simp only [List.filter_cons, h2, beq_self_eq_true, if_true, List.filter_nil, List.map_append, List.map_cons, List.map_nil]
 · have h3 : (x == gn) = false := by rw [beq_eq_false_iff_ne]; exact e
   simp only [List.filter_cons, h2, h3, Bool.false_eq_true, if_false, List.filter_nil, List.append_nil, e]
theorem topsG_len (ds : List Int) (gn : Int) (k : Nat) : (topsG ds gn k).length ≤ k := by
 unfold topsG
 rw [List.length_map]
 exact Nat.le_trans (List.length_filter_le _ _) (by simp)
theorem topsG_full (b p : List Int) : topsG (diffs b p) (topV b p) (diffs b p).length = topsV b p := by
 unfold topsG topsV topsP topV
 rw [topP_full]
theorem R12Of_ {w0 : World} {u v : Value} {b p : List Int} (hb : RdI w0 u b) (hp : RdI w0 v p) (hpr : okPr p) (hbk : b = [] ∨ okVec b p.length) :
   Ret Tryz.prog 134 [u, v] w0 (fun r w => ∃ x, r = .tuple #[x, .bool (decide (topV b p = 0)), .int .i64 (topV b p), .int .i64 0] ∧ Loc w0 w [rdv x (fun w => RdI w x (topsV b p))]) := by
 refine ret_of_C Tryz.func134 rfl rfl rfl ?_
 have H := Loc.refl w0
 have hl : b = [] ∨ b.length = p.length := hbk.imp id fun h => by have := h.2.2.1; omega
 have hbb : ∀ x ∈ b, 0 ≤ x ∧ x ≤ 1000000 := fun x hx => hbk.elim (fun e => by subst e; cases hx) (fun h => h.2.2.2 x hx)
 have hdl := diffs_len hl
 obtain ⟨A, c, rfl, hc1, hc2⟩ := hb.len
 obtain ⟨B, d1, rfl, hd1, hd2⟩ := hp.len
 have hp8 := hpr.2.1
 have hbl : b.length ≤ 8 := hl.elim (fun e => by subst e; simp) (fun e => by omega)
 refine C_seq (C_region rfl (R_o rfl (E_assign (R_o rfl (E_assign (R_o rfl (E_assign (R_o rfl (E_assign (R_nil (C_seq (C_seq (C_region rfl (R_o rfl (E_move (R_o rfl (E_call rfl (R12Prices_ (Abides.below H.below hp)) ?_)))))))))))))))))
 rintro _ w1 ⟨rfl, hb⟩
 replace H := H.call0 hb; clear hb
 refine R_o rfl (E_not rfl ?_)
 refine R_o rfl (E_move (R_part (t := 15) rfl (fun h15 => ?_) (fun h15 => ?_)))
 ·
  exact absurd hpr h15
 ·
  refine R_w rfl rfl rfl (E_move ?_)
  refine R_w rfl rfl rfl (E_len rfl ?_)
  refine R_w rfl rfl rfl (E_gtr rfl rfl ?_)
  refine R_w rfl rfl rfl (E_move ?_)
  refine R_part (t := 19) rfl (fun h19 => ?_) (fun h19 => ?_)
  ·
   refine R_w rfl rfl rfl (E_move ?_)
   refine R_w rfl rfl rfl (E_move ?_)
   refine R_w rfl rfl rfl (E_len rfl ?_)
   refine R_w rfl rfl rfl (E_call rfl (R4Check_ (Abides.below H.below hb) ⟨by omega, by omega⟩) ?_)
   rintro _ w1 ⟨rfl, hb⟩
   replace H := H.call0 hb; clear hb
   refine R_w rfl rfl rfl (E_not rfl ?_)
   refine R_w rfl rfl rfl (E_pick rfl ?_)
   refine R_o rfl (E_pick rfl ?_)
   refine R_nil (C_cond (t := 26) rfl (fun h26 => ?_) (fun h26 => ?_))
   ·
    exact absurd (hbk.resolve_left (fun e => by subst e; simp at h19)) h26
   ·
    refine C_skip (C_seq (C_region rfl (R_o rfl (E_assign (R_nil (C_seq (C_seq (C_region rfl (R_o rfl (E_assign (R_nil (C_block (C_loop (ds := []) [0, 1, 8, 9] (fun m_ vs w => ∃ k : Nat, ∃ g : Int, vs = [.slice A b.length c, .slice B p.length d1, .int .i64 g, .int .i64 k] ∧ m_ = b.length - k ∧ k ≤ b.length ∧ (g = topP (diffs b p) k) ∧ Loc w0 w []) (m := b.length) (by first | rfl | exact hd) ?_ ?_)))))))))))))
    · exact ⟨0, 0, rfl, by omega, by omega, rfl, H⟩
    intro m vs ρ₀ w hd hI
    clear H
    obtain ⟨k, g, rfl, rfl, hk, hst, H⟩ := hI
    refine C_seq (C_seq (C_region rfl (R_o rfl (E_move (R_o rfl (E_move (R_o rfl (E_len rfl ?_))))))))
    refine R_o rfl (E_lss rfl rfl ?_)
    refine R_nil (C_cond (t := 30) rfl (fun hlt => ?_) (fun hlt => ?_))
    ·
     obtain ⟨x, hx⟩ := get_of (xs := b) (k := k) (by omega)
     obtain ⟨z, hz⟩ := get_of (xs := p) (k := k) (hl.elim (fun e => by subst e; simp at hx) (fun e => by omega))
     have hxb := hbb x (mem_of_get hx)
     have hzb := hpr.2.2 z (mem_of_get hz)
     have hkp := lt_of_get hz
     have hdx := diffs_get hx hz
     refine C_skip (C_seq (C_block (C_drawL [] H (by kernel_rfl) (fun w H => ?_))))
     refine D_takeT 0 rfl rfl rfl (by kernel_rfl) (fun w K Z kk => E_move kk) ?_
     refine D_takeT 1 rfl rfl rfl (by kernel_rfl) (fun w K Z kk => E_move kk) ?_
     refine D_takeT 2 rfl rfl rfl (by kernel_rfl) (fun w K Z kk => E_move kk) ?_
     refine D_takeT 3 rfl rfl rfl (by kernel_rfl) (fun w K Z kk => E_idxr hb rfl rfl (by omega) (by omega) kk) ?_
     refine D_take 4 rfl rfl rfl (by kernel_rfl) (by first | exact H | exact H.drop | exact H.drop.drop | exact H.drop.drop.drop | exact H.drop.drop.drop.drop) (fun w HS K Z kk => E_loadi hb HS rfl hx kk) ?_
     refine D_takeT 5 rfl rfl rfl (by kernel_rfl) (fun w K Z kk => E_move kk) ?_
     refine D_takeT 6 rfl rfl rfl (by kernel_rfl) (fun w K Z kk => E_move kk) ?_
     refine D_takeT 7 rfl rfl rfl (by kernel_rfl) (fun w K Z kk => E_idxr hp rfl rfl (by omega) (by omega) kk) ?_
     refine D_take 8 rfl rfl rfl (by kernel_rfl) (by first | exact H | exact H.drop | exact H.drop.drop | exact H.drop.drop.drop | exact H.drop.drop.drop.drop) (fun w HS K Z kk => E_loadi hp HS rfl hz kk) ?_
     refine D_takeT 9 rfl rfl rfl (by kernel_rfl) (fun w K Z kk => E_sub rfl rfl (by omega) kk) ?_
     refine D_takeT 10 rfl rfl rfl (by kernel_rfl) (fun w K Z kk => E_max2 rfl rfl kk) ?_
     refine D_takeT 11 rfl rfl rfl (by kernel_rfl) (fun w K Z kk => E_assign kk) ?_
     refine D_done (by kernel_rfl) ?_
     refine C_region rfl (R_o rfl (E_move (R_o rfl (E_add rfl rfl (by omega) ?_))))
     refine R_o rfl (E_assign (R_nil (⟨hd, b.length - (k + 1), by omega, k + 1, max g (x - z), rfl, rfl, by omega, by rw [hst, topP_succ hdx], H⟩)))
    ·
     have hgt : g = topV b p := by rw [hst, show k = (diffs b p).length by omega, topP_full]; rfl
     refine C_exit ?_
     refine C_seq (C_region rfl (R_o rfl (E_assign (R_nil (C_seq (C_seq (C_region rfl (R_o rfl (E_assign (R_nil (C_block (C_loop (ds := []) [0, 1, 8, 10, 11] (fun m_ vs w => ∃ k : Nat, ∃ vi : Value, vs = [.slice A b.length c, .slice B p.length d1, .int .i64 g, vi, .int .i64 k] ∧ m_ = b.length - k ∧ k ≤ b.length ∧ (True) ∧ Loc w0 w [row 3 1 vi (topsG (diffs b p) g k).length (ints .i64 (topsG (diffs b p) g k))]) (m := b.length) (by first | rfl | exact hd) ?_ ?_))))))))))))
     · replace H := nilRow 3 1 H
       exact ⟨0, .slice none 0 0, rfl, by omega, by omega, trivial, H⟩
     intro m vs ρ₀ w hd hI
     clear H
     obtain ⟨k, vi, rfl, rfl, hk, hst, H⟩ := hI
     refine C_seq (C_seq (C_region rfl (R_o rfl (E_move (R_o rfl (E_move (R_o rfl (E_len rfl ?_))))))))
     refine R_o rfl (E_lss rfl rfl ?_)
     refine R_nil (C_cond (t := 47) rfl (fun hlt2 => ?_) (fun hlt2 => ?_))
     ·
      obtain ⟨x, hx⟩ := get_of (xs := b) (k := k) (by omega)
      obtain ⟨z, hz⟩ := get_of (xs := p) (k := k) (hl.elim (fun e => by subst e; simp at hx) (fun e => by omega))
      have hxb := hbb x (mem_of_get hx)
      have hzb := hpr.2.2 z (mem_of_get hz)
      have hkp := lt_of_get hz
      have hdx := diffs_get hx hz
      have htl := topsG_len (diffs b p) g k
      refine C_skip (C_seq (C_block (C_seq (C_drawL [] H (by kernel_rfl) (fun w H => ?_)))))
      refine D_takeT 0 rfl rfl rfl (by kernel_rfl) (fun w K Z kk => E_move kk) ?_
      refine D_takeT 1 rfl rfl rfl (by kernel_rfl) (fun w K Z kk => E_move kk) ?_
      refine D_takeT 2 rfl rfl rfl (by kernel_rfl) (fun w K Z kk => E_idxr hb rfl rfl (by omega) (by omega) kk) ?_
      refine D_take 3 rfl rfl rfl (by kernel_rfl) (by first | exact H | exact H.drop | exact H.drop.drop | exact H.drop.drop.drop | exact H.drop.drop.drop.drop) (fun w HS K Z kk => E_loadi hb HS rfl hx kk) ?_
      refine D_takeT 4 rfl rfl rfl (by kernel_rfl) (fun w K Z kk => E_move kk) ?_
      refine D_takeT 5 rfl rfl rfl (by kernel_rfl) (fun w K Z kk => E_move kk) ?_
      refine D_takeT 6 rfl rfl rfl (by kernel_rfl) (fun w K Z kk => E_idxr hp rfl rfl (by omega) (by omega) kk) ?_
      refine D_take 7 rfl rfl rfl (by kernel_rfl) (by first | exact H | exact H.drop | exact H.drop.drop | exact H.drop.drop.drop | exact H.drop.drop.drop.drop) (fun w HS K Z kk => E_loadi hp HS rfl hz kk) ?_
      refine D_takeT 8 rfl rfl rfl (by kernel_rfl) (fun w K Z kk => E_sub rfl rfl (by omega) kk) ?_
      refine D_takeT 9 rfl rfl rfl (by kernel_rfl) (fun w K Z kk => E_move kk) ?_
      refine D_takeT 10 rfl rfl rfl (by kernel_rfl) (fun w K Z kk => E_eql rfl rfl kk) ?_
      refine D_done (by kernel_rfl) ?_
      refine C_cond (t := 60) rfl (fun heq => ?_) (fun heq => ?_)
      ·
       refine C_region rfl (R_o rfl (E_move (R_o rfl (E_move (R_o rfl (E_lit (vs := [.int .i64 k]) [.tmp 62] rfl rfl rfl rfl rfl H ?_))))))
       clear H; intro w b63 H
       refine R_o rfl (E_append1 (v := vi) (b := b63) (u := .int .i64 k) H rfl rfl rfl (by omega) (by omega) ?_)
       clear H; intro w v64 H
       refine R_o rfl (E_assign (R_nil (C_region rfl (R_o rfl (E_move (R_o rfl (E_add rfl rfl (by omega) ?_)))))))
       refine R_o rfl (E_assign (R_nil ?_))
       first
         | (have e := (topsG_step (gn := g) hdx).trans (if_pos heq)
            exact ⟨hd, b.length - (k + 1), by omega, k + 1, v64, rfl, rfl, by omega, trivial, by rw [e, List.length_append, ints_append]; exact H⟩)
         | (have e := (topsG_step (gn := g) hdx).trans (if_neg heq)
            exact ⟨hd, b.length - (k + 1), by omega, k + 1, vi, rfl, rfl, by omega, trivial, by rw [e]; exact H⟩)
      ·
       refine C_skip (C_region rfl (R_o rfl (E_move (R_o rfl (E_add rfl rfl (by omega) ?_)))))
       refine R_o rfl (E_assign (R_nil ?_))
       first
         | (have e := (topsG_step (gn := g) hdx).trans (if_pos heq)
            exact ⟨hd, b.length - (k + 1), by omega, k + 1, v64, rfl, rfl, by omega, trivial, by rw [e, List.length_append, ints_append]; exact H⟩)
         | (have e := (topsG_step (gn := g) hdx).trans (if_neg heq)
            exact ⟨hd, b.length - (k + 1), by omega, k + 1, vi, rfl, rfl, by omega, trivial, by rw [e]; exact H⟩)
     ·
      have hk : k = (diffs b p).length := by omega
      refine C_exit ?_
      refine C_seq (C_region rfl (R_o rfl (E_move (R_o rfl (E_move (R_o rfl (E_eql rfl rfl ?_)))))))
      refine R_o rfl (E_move (R_o rfl (E_assign (R_o rfl (E_assign (R_o rfl (E_assign (R_o rfl (E_assign (R_nil (C_ret ?_)))))))))))
      with_reducible repeat (first | refine thn_ret ?_ | refine inB_ret ?_ | refine noG_ret ?_ | refine jmp_ret ?_)
      refine ret_list (rs := [.tmp 4, .tmp 5, .tmp 6, .tmp 7]) (vs := [vi, .bool (decide (g = 0)), .int .i64 g, .int .i64 0]) rfl hd ⟨rfl, rfl, rfl, rfl, trivial⟩ ⟨vi, ?_, ?_⟩
      · rw [← hgt]; rfl
      · rw [hk, hgt, topsG_full] at H
        exact H.fst.rowInts
  ·
   refine R_p rfl rfl rfl ?_
   refine R_p rfl rfl rfl ?_
   refine R_p rfl rfl rfl ?_
   refine R_p rfl rfl rfl ?_
   refine R_p rfl rfl rfl ?_
   refine R_w rfl rfl rfl (E_pick rfl ?_)
   refine R_o rfl (E_pick rfl ?_)
   refine R_nil (C_false (t := 26) rfl ?_)
   refine C_skip (C_seq (C_region rfl (R_o rfl (E_assign (R_nil (C_seq (C_seq (C_region rfl (R_o rfl (E_assign (R_nil (C_block (C_loop (ds := []) [0, 1, 8, 9] (fun m_ vs w => ∃ k : Nat, ∃ g : Int, vs = [.slice A b.length c, .slice B p.length d1, .int .i64 g, .int .i64 k] ∧ m_ = b.length - k ∧ k ≤ b.length ∧ (g = topP (diffs b p) k) ∧ Loc w0 w []) (m := b.length) (by first | rfl | exact hd) ?_ ?_)))))))))))))
   · exact ⟨0, 0, rfl, by omega, by omega, rfl, H⟩
   intro m vs ρ₀ w hd hI
   clear H
   obtain ⟨k, g, rfl, rfl, hk, hst, H⟩ := hI
   refine C_seq (C_seq (C_region rfl (R_o rfl (E_move (R_o rfl (E_move (R_o rfl (E_len rfl ?_))))))))
   refine R_o rfl (E_lss rfl rfl ?_)
   refine R_nil (C_cond (t := 30) rfl (fun hlt => ?_) (fun hlt => ?_))
   ·
    obtain ⟨x, hx⟩ := get_of (xs := b) (k := k) (by omega)
    obtain ⟨z, hz⟩ := get_of (xs := p) (k := k) (hl.elim (fun e => by subst e; simp at hx) (fun e => by omega))
    have hxb := hbb x (mem_of_get hx)
    have hzb := hpr.2.2 z (mem_of_get hz)
    have hkp := lt_of_get hz
    have hdx := diffs_get hx hz
    refine C_skip (C_seq (C_block (C_drawL [] H (by kernel_rfl) (fun w H => ?_))))
    refine D_takeT 0 rfl rfl rfl (by kernel_rfl) (fun w K Z kk => E_move kk) ?_
    refine D_takeT 1 rfl rfl rfl (by kernel_rfl) (fun w K Z kk => E_move kk) ?_
    refine D_takeT 2 rfl rfl rfl (by kernel_rfl) (fun w K Z kk => E_move kk) ?_
    refine D_takeT 3 rfl rfl rfl (by kernel_rfl) (fun w K Z kk => E_idxr hb rfl rfl (by omega) (by omega) kk) ?_
    refine D_take 4 rfl rfl rfl (by kernel_rfl) (by first | exact H | exact H.drop | exact H.drop.drop | exact H.drop.drop.drop | exact H.drop.drop.drop.drop) (fun w HS K Z kk => E_loadi hb HS rfl hx kk) ?_
    refine D_takeT 5 rfl rfl rfl (by kernel_rfl) (fun w K Z kk => E_move kk) ?_
    refine D_takeT 6 rfl rfl rfl (by kernel_rfl) (fun w K Z kk => E_move kk) ?_
    refine D_takeT 7 rfl rfl rfl (by kernel_rfl) (fun w K Z kk => E_idxr hp rfl rfl (by omega) (by omega) kk) ?_
    refine D_take 8 rfl rfl rfl (by kernel_rfl) (by first | exact H | exact H.drop | exact H.drop.drop | exact H.drop.drop.drop | exact H.drop.drop.drop.drop) (fun w HS K Z kk => E_loadi hp HS rfl hz kk) ?_
    refine D_takeT 9 rfl rfl rfl (by kernel_rfl) (fun w K Z kk => E_sub rfl rfl (by omega) kk) ?_
    refine D_takeT 10 rfl rfl rfl (by kernel_rfl) (fun w K Z kk => E_max2 rfl rfl kk) ?_
    refine D_takeT 11 rfl rfl rfl (by kernel_rfl) (fun w K Z kk => E_assign kk) ?_
    refine D_done (by kernel_rfl) ?_
    refine C_region rfl (R_o rfl (E_move (R_o rfl (E_add rfl rfl (by omega) ?_))))
    refine R_o rfl (E_assign (R_nil (⟨hd, b.length - (k + 1), by omega, k + 1, max g (x - z), rfl, rfl, by omega, by rw [hst, topP_succ hdx], H⟩)))
   ·
    have hgt : g = topV b p := by rw [hst, show k = (diffs b p).length by omega, topP_full]; rfl
    refine C_exit ?_
    refine C_seq (C_region rfl (R_o rfl (E_assign (R_nil (C_seq (C_seq (C_region rfl (R_o rfl (E_assign (R_nil (C_block (C_loop (ds := []) [0, 1, 8, 10, 11] (fun m_ vs w => ∃ k : Nat, ∃ vi : Value, vs = [.slice A b.length c, .slice B p.length d1, .int .i64 g, vi, .int .i64 k] ∧ m_ = b.length - k ∧ k ≤ b.length ∧ (True) ∧ Loc w0 w [row 3 1 vi (topsG (diffs b p) g k).length (ints .i64 (topsG (diffs b p) g k))]) (m := b.length) (by first | rfl | exact hd) ?_ ?_))))))))))))
    · replace H := nilRow 3 1 H
      exact ⟨0, .slice none 0 0, rfl, by omega, by omega, trivial, H⟩
    intro m vs ρ₀ w hd hI
    clear H
    obtain ⟨k, vi, rfl, rfl, hk, hst, H⟩ := hI
    refine C_seq (C_seq (C_region rfl (R_o rfl (E_move (R_o rfl (E_move (R_o rfl (E_len rfl ?_))))))))
    refine R_o rfl (E_lss rfl rfl ?_)
    refine R_nil (C_cond (t := 47) rfl (fun hlt2 => ?_) (fun hlt2 => ?_))
    ·
     obtain ⟨x, hx⟩ := get_of (xs := b) (k := k) (by omega)
     obtain ⟨z, hz⟩ := get_of (xs := p) (k := k) (hl.elim (fun e => by subst e; simp at hx) (fun e => by omega))
     have hxb := hbb x (mem_of_get hx)
     have hzb := hpr.2.2 z (mem_of_get hz)
     have hkp := lt_of_get hz
     have hdx := diffs_get hx hz
     have htl := topsG_len (diffs b p) g k
     refine C_skip (C_seq (C_block (C_seq (C_drawL [] H (by kernel_rfl) (fun w H => ?_)))))
     refine D_takeT 0 rfl rfl rfl (by kernel_rfl) (fun w K Z kk => E_move kk) ?_
     refine D_takeT 1 rfl rfl rfl (by kernel_rfl) (fun w K Z kk => E_move kk) ?_
     refine D_takeT 2 rfl rfl rfl (by kernel_rfl) (fun w K Z kk => E_idxr hb rfl rfl (by omega) (by omega) kk) ?_
     refine D_take 3 rfl rfl rfl (by kernel_rfl) (by first | exact H | exact H.drop | exact H.drop.drop | exact H.drop.drop.drop | exact H.drop.drop.drop.drop) (fun w HS K Z kk => E_loadi hb HS rfl hx kk) ?_
     refine D_takeT 4 rfl rfl rfl (by kernel_rfl) (fun w K Z kk => E_move kk) ?_
     refine D_takeT 5 rfl rfl rfl (by kernel_rfl) (fun w K Z kk => E_move kk) ?_
     refine D_takeT 6 rfl rfl rfl (by kernel_rfl) (fun w K Z kk => E_idxr hp rfl rfl (by omega) (by omega) kk) ?_
     refine D_take 7 rfl rfl rfl (by kernel_rfl) (by first | exact H | exact H.drop | exact H.drop.drop | exact H.drop.drop.drop | exact H.drop.drop.drop.drop) (fun w HS K Z kk => E_loadi hp HS rfl hz kk) ?_
     refine D_takeT 8 rfl rfl rfl (by kernel_rfl) (fun w K Z kk => E_sub rfl rfl (by omega) kk) ?_
     refine D_takeT 9 rfl rfl rfl (by kernel_rfl) (fun w K Z kk => E_move kk) ?_
     refine D_takeT 10 rfl rfl rfl (by kernel_rfl) (fun w K Z kk => E_eql rfl rfl kk) ?_
     refine D_done (by kernel_rfl) ?_
     refine C_cond (t := 60) rfl (fun heq => ?_) (fun heq => ?_)
     ·
      refine C_region rfl (R_o rfl (E_move (R_o rfl (E_move (R_o rfl (E_lit (vs := [.int .i64 k]) [.tmp 62] rfl rfl rfl rfl rfl H ?_))))))
      clear H; intro w b63 H
      refine R_o rfl (E_append1 (v := vi) (b := b63) (u := .int .i64 k) H rfl rfl rfl (by omega) (by omega) ?_)
      clear H; intro w v64 H
      refine R_o rfl (E_assign (R_nil (C_region rfl (R_o rfl (E_move (R_o rfl (E_add rfl rfl (by omega) ?_)))))))
      refine R_o rfl (E_assign (R_nil ?_))
      first
        | (have e := (topsG_step (gn := g) hdx).trans (if_pos heq)
           exact ⟨hd, b.length - (k + 1), by omega, k + 1, v64, rfl, rfl, by omega, trivial, by rw [e, List.length_append, ints_append]; exact H⟩)
        | (have e := (topsG_step (gn := g) hdx).trans (if_neg heq)
           exact ⟨hd, b.length - (k + 1), by omega, k + 1, vi, rfl, rfl, by omega, trivial, by rw [e]; exact H⟩)
     ·
      refine C_skip (C_region rfl (R_o rfl (E_move (R_o rfl (E_add rfl rfl (by omega) ?_)))))
      refine R_o rfl (E_assign (R_nil ?_))
      first
        | (have e := (topsG_step (gn := g) hdx).trans (if_pos heq)
           exact ⟨hd, b.length - (k + 1), by omega, k + 1, v64, rfl, rfl, by omega, trivial, by rw [e, List.length_append, ints_append]; exact H⟩)
        | (have e := (topsG_step (gn := g) hdx).trans (if_neg heq)
           exact ⟨hd, b.length - (k + 1), by omega, k + 1, vi, rfl, rfl, by omega, trivial, by rw [e]; exact H⟩)
    ·
     have hk : k = (diffs b p).length := by omega
     refine C_exit ?_
     refine C_seq (C_region rfl (R_o rfl (E_move (R_o rfl (E_move (R_o rfl (E_eql rfl rfl ?_)))))))
     refine R_o rfl (E_move (R_o rfl (E_assign (R_o rfl (E_assign (R_o rfl (E_assign (R_o rfl (E_assign (R_nil (C_ret ?_)))))))))))
     with_reducible repeat (first | refine thn_ret ?_ | refine inB_ret ?_ | refine noG_ret ?_ | refine jmp_ret ?_)
     refine ret_list (rs := [.tmp 4, .tmp 5, .tmp 6, .tmp 7]) (vs := [vi, .bool (decide (g = 0)), .int .i64 g, .int .i64 0]) rfl hd ⟨rfl, rfl, rfl, rfl, trivial⟩ ⟨vi, ?_, ?_⟩
     · rw [← hgt]; rfl
     · rw [hk, hgt, topsG_full] at H
       exact H.fst.rowInts
def rBool : World → Value → Bool → Prop := fun _ u x => u = .bool x
instance : Abides rBool := ⟨fun _ h => h⟩
def bools (l : List Bool) : List Value := l.map Value.bool
theorem bools_els (w : World) (l : List Bool) : Els rBool w (bools l) l := ⟨by simp [bools], fun i u x hu hx => by
 unfold bools at hu
 rw [List.getElem?_map, hx] at hu
 exact (Option.some.inj hu).symm⟩
theorem okMk.bid {m : Mk} (h : okMk m) {k : Nat} {b : List Int} (hb : m.bids[k]? = some b) : b = [] ∨ okVec b m.res.length := by
 by_cases e : b = []
 · exact .inl e
 · exact .inr (Decidable.of_not_not fun hn => h.2.2.2 b (mem_of_get hb) ⟨List.length_pos_iff.2 e, hn⟩)
def demV (m : Mk) (p : List Int) : List (List Int) := m.bids.map fun b => topsV b p
def nonV (m : Mk) (p : List Int) : List Bool := m.bids.map fun b => decide (topV b p = 0)
theorem demV_get {m : Mk} {p : List Int} {k : Nat} {b : List Int} (hb : m.bids[k]? = some b) : (demV m p)[k]? = some (topsV b p) := by simp [demV, hb]
theorem nonV_get {m : Mk} {p : List Int} {k : Nat} {b : List Int} (hb : m.bids[k]? = some b) : (nonV m p)[k]? = some (decide (topV b p = 0)) := by simp [nonV, hb]
@[simp] theorem demV_len (m : Mk) (p : List Int) : (demV m p).length = m.bids.length := by simp [demV]
@[simp] theorem nonV_len (m : Mk) (p : List Int) : (nonV m p).length = m.bids.length := by simp [nonV]
theorem Loc.join3 {w0 w : World} {A B : HP} {L : List HP} (h : Loc w0 w (A :: B :: L)) (v : Value) (f : World → Prop) (hf : ∀ S1 S2 w', A.p S1 w' → B.p S2 w' → f w') : Loc w0 w (rdv v f :: L) := h.join v f hf
theorem R12AllW_ {w0 : World} {mv v : Value} {m : Mk} {p : List Int} (hm : RdM w0 mv m) (hp : RdI w0 v p) (hok : okMk m) (hpr : okPr p) (hpl : p.length = m.res.length) :
   Ret Tryz.prog 104 [mv, v] w0 (fun r w => ∃ x y us, r = .tuple #[x, y, .int .i64 0] ∧ Loc w0 w [rdv undef (fun w => Els RdI w us (demV m p)), row 22 1 x m.bids.length us, rdv y (fun w => RdS rBool w y (nonV m p))]) := by
 refine ret_of_C Tryz.func104 rfl rfl rfl ?_
 have H := Loc.refl w0
 have hm0 := hm
 obtain ⟨a, b, c, rfl, ra, rb, rc⟩ := hm
 obtain ⟨A1, c1, rfl, hA1, hA2⟩ := ra.len
 obtain ⟨A2, c2, rfl, hB1, hB2⟩ := rb.len
 obtain ⟨B, d1, rfl, hd1, hd2⟩ := hp.len
 have hn1 := hok.1.2.1
 have hn2 := hok.2.1.2
 refine C_seq (C_region rfl (R_o rfl (E_box (cs := [.slice A1 m.res.length c1, .slice A2 m.bids.length c2, c]) rfl H ?_)))
 clear H; intro w b2 H
 refine R_o rfl (E_assign (R_o rfl (E_assign (R_o rfl (E_assign (R_nil (C_seq (C_seq (C_region rfl (R_o rfl (E_loadw H rfl (by rfl) ?_)))))))))))
 refine R_o rfl (E_call rfl (R5Check_ (Abides.below H.below hm0)) ?_)
 rintro _ w1 ⟨rfl, hb⟩
 replace H := H.call0 hb; clear hb
 refine R_o rfl (E_not rfl ?_)
 refine R_o rfl (E_move (R_part (t := 17) rfl (fun h17 => ?_) (fun h17 => ?_)))
 ·
  exact absurd hok h17
 ·
  refine R_w rfl rfl rfl (E_move ?_)
  refine R_w rfl rfl rfl (E_len rfl ?_)
  refine R_w rfl rfl rfl (E_fieldAddr rfl ?_)
  refine R_w rfl rfl rfl (E_load H rfl rfl ?_)
  refine R_w rfl rfl rfl (E_len rfl ?_)
  refine R_w rfl rfl rfl (E_neq rfl rfl ?_)
  refine R_o rfl (E_pick rfl ?_)
  refine R_o rfl (E_move (R_part (t := 25) rfl (fun h25 => ?_) (fun h25 => ?_)))
  ·
   exact absurd (by omega) h25
  ·
   refine R_w rfl rfl rfl (E_move ?_)
   refine R_w rfl rfl rfl (E_call rfl (R12Prices_ (Abides.below H.below hp)) ?_)
   rintro _ w1 ⟨rfl, hb⟩
   replace H := H.call0 hb; clear hb
   refine R_w rfl rfl rfl (E_not rfl ?_)
   refine R_o rfl (E_pick rfl ?_)
   refine R_nil (C_cond (t := 29) rfl (fun h29 => ?_) (fun h29 => ?_))
   ·
    exact absurd hpr h29
   ·
    refine C_skip (C_seq (C_region rfl (R_o rfl (E_assign (R_nil (C_seq (C_region rfl (R_o rfl (E_assign (R_nil (C_seq (C_seq (C_region rfl (R_o rfl (E_assign (R_nil (C_block (C_loop (ds := []) [1, 2, 7, 8, 9] (fun m_ vs w => ∃ k : Nat, ∃ (vi vn : Value) (us : List Value), vs = [.slice B p.length d1, .pointer (some ⟨b2, 0, none⟩), vi, vn, .int .i64 k] ∧ m_ = m.bids.length - k ∧ k ≤ m.bids.length ∧ (True) ∧ Loc w0 w [rdv undef (fun w => Els RdI w us ((demV m p).take k)), row 22 1 vi k us, row 4 1 vn k (bools ((nonV m p).take k)), cl b2 25 [.slice A1 m.res.length c1, .slice A2 m.bids.length c2, c]]) (m := m.bids.length) (by first | rfl | exact hd) ?_ ?_))))))))))))))))))
    · replace H := (nilRow 22 1 ((nilRow 4 1 H).rowe (cs' := bools ((nonV m p).take 0)) rfl)).mkEmp.toRd undef (fun w => Els RdI w [] ((demV m p).take 0)) (fun _ _ _ => Els.nil _ _)
      exact ⟨0, .slice none 0 0, .slice none 0 0, [], rfl, by omega, by omega, trivial, H.o4⟩
    intro m vs ρ₀ w hd hI
    clear H
    obtain ⟨k, vi, vn, us, rfl, rfl, hk, hst, H⟩ := hI
    refine C_seq (C_seq (C_region rfl (R_o rfl (E_move (R_o rfl (E_fieldAddr rfl ?_))))))
    refine R_o rfl (E_load H rfl rfl ?_)
    refine R_o rfl (E_len rfl ?_)
    refine R_o rfl (E_lss rfl rfl ?_)
    refine R_nil (C_cond (t := 34) rfl (fun hlt => ?_) (fun hlt => ?_))
    ·
     obtain ⟨x, hx⟩ := get_of (xs := m.bids) (k := k) (by omega)
     refine C_skip (C_seq (C_block (C_seq (C_region rfl (R_o rfl (E_fieldAddr rfl ?_))))))
     refine R_o rfl (E_load H rfl rfl ?_)
     refine R_o rfl (E_move (R_o rfl (E_idxr rb rfl rfl (by omega) (by omega) ?_)))
     refine R_o rfl (E_loadr rb H rfl hx ?_)
     intro u hu
     refine R_o rfl (E_move (R_o rfl (E_call rfl (R12Of_ (Abides.below H.below hu) (Abides.below H.below hp) hpr (by rw [hpl]; exact hok.bid hx)) ?_)))
     rintro _ w1 ⟨x44, rfl, hc⟩
     replace H := H.call1 hc; clear hc
     obtain ⟨A44, c44, rfl, _⟩ := H.read.len
     replace H := H.join3 undef (fun w => Els RdI w (us ++ [.slice A44 (topsV x p).length c44]) ((demV m p).take (k + 1))) (fun S1 S2 w h1 h2 => by rw [take_step (demV_get hx)]; exact (rdv_now h2).snoc (rdv_now h1))
     refine R_o rfl (E_move (R_o rfl (E_extract rfl rfl ?_)))
     refine R_o rfl (E_extract rfl rfl ?_)
     refine R_o rfl (E_extract rfl rfl ?_)
     refine R_o rfl (E_extract rfl rfl ?_)
     refine R_o rfl (E_assign (R_o rfl (E_assign (R_o rfl (E_assign (R_o rfl (E_assign (R_nil (C_seq (C_region rfl (R_o rfl (E_move (R_o rfl (E_move (R_o rfl (E_lit (vs := [.slice A44 (topsV x p).length c44]) [.tmp 50] rfl rfl rfl rfl rfl H ?_))))))))))))))))
     clear H; intro w b51 H
     refine R_o rfl (E_append1 (v := vi) (b := b51) (u := .slice A44 (topsV x p).length c44) H rfl rfl rfl (by omega) (by omega) ?_)
     clear H; intro w v52 H
     refine R_o rfl (E_assign (R_nil (C_region rfl (R_o rfl (E_move (R_o rfl (E_move (R_o rfl (E_lit (vs := [.bool (decide (topV x p = 0))]) [.tmp 54] rfl rfl rfl rfl rfl H ?_)))))))))
     clear H; intro w b55 H
     refine R_o rfl (E_append1 (v := vn) (b := b55) (u := .bool (decide (topV x p = 0))) H rfl rfl rfl (by omega) (by omega) ?_)
     clear H; intro w v56 H
     refine R_o rfl (E_assign (R_nil (C_region rfl (R_o rfl (E_move (R_o rfl (E_add rfl rfl (by omega) ?_)))))))
     refine R_o rfl (E_assign (R_nil ?_))
     replace H := H.rowe (cs' := bools ((nonV m p).take (k + 1))) (by rw [take_step (nonV_get hx)]; simp [bools])
     refine ⟨hd, m.bids.length - (k + 1), by omega, k + 1, v52, v56, us ++ [.slice A44 (topsV x p).length c44], rfl, rfl, by omega, trivial, H.o4⟩
    ·
     have hk : k = m.bids.length := by omega
     refine C_exit ?_
     refine C_seq (C_region rfl (R_o rfl (E_move (R_o rfl (E_move (R_o rfl (E_assign (R_o rfl (E_assign (R_o rfl (E_assign (R_nil (C_ret ?_)))))))))))))
     with_reducible repeat (first | refine thn_ret ?_ | refine inB_ret ?_ | refine noG_ret ?_ | refine jmp_ret ?_)
     refine ret_three rfl hd ⟨vi, vn, us, rfl, ?_⟩
     rw [hk, List.take_of_length_le (by simp), List.take_of_length_le (by simp)] at H
     have H1 := (H.fr (row 4 1 vn m.bids.length (bools (nonV m p)))).toRd vn (fun w => RdS rBool w vn (nonV m p)) (fun S w' hp => row_rdE hp (bools_els w' _))
     exact H1.o3
end Go.Sl
set_option linter.unusedVariables false
set_option linter.unusedSimpArgs false
namespace Go.Sl
def isR (l : List Int) (n : Int) : Prop := (∀ x ∈ l, 0 ≤ x ∧ x < n) ∧ l.Pairwise (· < ·)
instance (l : List Int) (n : Int) : Decidable (isR l n) := by unfold isR; infer_instance
theorem isR_take {l : List Int} {n : Int} (h : isR l n) (k : Nat) : isR (l.take k) n := ⟨fun x hx => h.1 x (List.mem_of_mem_take hx), h.2.sublist (List.take_sublist k l)⟩
theorem isR_snoc {l : List Int} {x n : Int} : isR (l ++ [x]) n ↔ isR l n ∧ 0 ≤ x ∧ x < n ∧ ∀ y ∈ l, y < x := by
  unfold isR
  rw [List.pairwise_append]
  simp only [List.mem_append, List.mem_singleton, List.pairwise_singleton, true_and]
  constructor
  · rintro ⟨h1, h2, h3⟩
    exact ⟨⟨fun y hy => h1 y (.inl hy), h2⟩, (h1 x (.inr rfl)).1, (h1 x (.inr rfl)).2, fun y hy => h3 y hy x rfl⟩
  · rintro ⟨⟨h1, h2⟩, h3, h4, h5⟩
    exact ⟨fun y hy => hy.elim (h1 y) (fun e => by subst e; exact ⟨h3, h4⟩), h2, fun y hy z hz => by subst hz; exact h5 y hy⟩
theorem isR_step {l : List Int} {n x : Int} {k : Nat} (h : isR l n) (hx : l[k]? = some x) : 0 ≤ x ∧ x < n ∧ ∀ y ∈ l.take k, y < x := by
  have := isR_take h (k + 1)
  rw [take_step hx, isR_snoc] at this
  exact this.2
theorem isR_nodup {l : List Int} {n : Int} (h : isR l n) : l.Nodup := h.2.imp fun h => by omega
def okGr (g : List (List Int)) (items : Int) : Prop := (0 ≤ items ∧ items ≤ 8) ∧ g.length ≤ 8 ∧ ∀ l ∈ g, isR l items
instance (g : List (List Int)) (items : Int) : Decidable (okGr g items) := by unfold okGr; infer_instance
def fits (g : List (List Int)) (has : List Int) : Prop := has.length = g.length ∧ (∀ (i : Nat) (k : Int), has[i]? = some k → k ≠ -1 → k ∈ g.getD i []) ∧ ∀ (i j : Nat) (k : Int), has[i]? = some k → has[j]? = some k → k ≠ -1 → i = j
def edgesTo (g : List (List Int)) : Nat → List (Nat × Int)
  | 0 => []
  | i + 1 => edgesTo g i ++ (g.getD i []).map (fun x => (i, x))
theorem edgesTo_succ {g : List (List Int)} {i : Nat} {l : List Int} (h : g[i]? = some l) : edgesTo g (i + 1) = edgesTo g i ++ l.map (fun x => (i, x)) := by
  rw [edgesTo, List.getD_eq_getElem?_getD, h]; rfl
theorem edgesTo_le {g : List (List Int)} {i m : Nat} : ∀ {n : Nat}, i ≤ n → m < (edgesTo g i).length → (edgesTo g n)[m]? = (edgesTo g i)[m]?
  | 0, h, hm => by
    have : i = 0 := by omega
    subst this; rfl
  | n + 1, h, hm => by
    by_cases e : i = n + 1
    · subst e; rfl
    · have ih := edgesTo_le (g := g) (m := m) (show i ≤ n by omega) hm
      have h2 : m < (edgesTo g n).length := by
        rw [List.getElem?_eq_getElem hm] at ih
        exact (List.getElem?_eq_some_iff.1 ih).1
      rw [edgesTo, List.getElem?_append_left h2, ih]
theorem edges_get {g : List (List Int)} {i j : Nat} {l : List Int} {x : Int} (hl : g[i]? = some l) (hx : l[j]? = some x) : (edgesTo g g.length)[(edgesTo g i).length + j]? = some (i, x) := by
  have hi := lt_of_get hl
  have hj := lt_of_get hx
  rw [edgesTo_le (i := i + 1) (by omega) (by rw [edgesTo_succ hl, List.length_append, List.length_map]; omega), edgesTo_succ hl, List.getElem?_append_right (by omega)]
  rw [show (edgesTo g i).length + j - (edgesTo g i).length = j by omega, List.getElem?_map, hx]; rfl
theorem edges_mem {g : List (List Int)} {p : Nat × Int} : ∀ {n : Nat}, p ∈ edgesTo g n ↔ p.1 < n ∧ p.2 ∈ g.getD p.1 []
  | 0 => by simp [edgesTo]
  | n + 1 => by
    rw [edgesTo, List.mem_append, edges_mem, List.mem_map]
    constructor
    · rintro (⟨h1, h2⟩ | ⟨x, hx, rfl⟩)
      · exact ⟨by omega, h2⟩
      · exact ⟨by simp, hx⟩
    · rintro ⟨h1, h2⟩
      by_cases e : p.1 < n
      · exact .inl ⟨e, h2⟩
      · have e2 : p.1 = n := by omega
        exact .inr ⟨p.2, by rw [← e2]; exact h2, by rw [← e2]⟩
end Go.Sl
