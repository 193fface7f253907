/- the answers of chapters 4 and 5. -/
import Derived.Test.YtlgdffofhnfedaaGreatX4
set_option linter.unusedVariables false
set_option linter.unusedSimpArgs false
set_option maxRecDepth 10000
namespace Go.Sl
open Go.RowKit
open Go.Proofs
theorem R4Check_ {w0 : World} {n : Int} {s : Value} {xs : List Int} (hs : RdI w0 s xs) (hn : 0 ≤ n ∧ n ≤ 9223372036854775807) :
   Ret Tryz.prog 29 [s, .int .i64 n] w0 (fun v w => v = .bool (decide (okVec xs n)) ∧ Below w0.heap.size w0 w) := by
 refine ret_of_C Tryz.func29 rfl rfl rfl ?_
 have H := Loc.refl w0
 obtain ⟨A, c, rfl, hc1, hc2⟩ := hs.len
 refine C_seq (C_region rfl (R_o rfl (E_assign (R_nil (C_seq (C_seq (C_region rfl (R_o rfl (E_move (R_o rfl (E_lss rfl rfl ?_)))))))))))
 refine R_o rfl (E_move (R_part (t := 8) rfl (fun h8 => ?_) (fun h8 => ?_)))
 ·
  refine R_p rfl rfl rfl ?_
  refine R_p rfl rfl rfl ?_
  refine R_o rfl (E_pick rfl ?_)
  refine R_o rfl (E_move (R_p rfl rfl rfl ?_))
  refine R_p rfl rfl rfl ?_
  refine R_p rfl rfl rfl ?_
  refine R_p rfl rfl rfl ?_
  refine R_o rfl (E_pick rfl ?_)
  refine R_nil (C_true (t := 17) rfl ?_)
  refine C_seq (C_region rfl (R_o rfl (E_assign (R_nil (C_ret ?_)))))
  with_reducible repeat (first | refine thn_ret ?_ | refine inB_ret ?_ | refine noG_ret ?_)
  first
    | exact ret_one rfl rfl ⟨congrArg Value.bool (decide_eq_false (fun h => by have := h.1; have := h.2.1; have := h.2.2.1; omega)).symm, H.below⟩
    | exact ret_one rfl hd ⟨congrArg Value.bool (decide_eq_false (fun h => by have := h.2.2.2 x (mem_of_get hx); omega)).symm, H.below⟩
    | exact ret_one rfl hd ⟨congrArg Value.bool (decide_eq_true ⟨hn8.1, hn8.2.1, hn8.2.2, fun y hy => by obtain ⟨j, hj, rfl⟩ := List.getElem_of_mem hy; exact hst j _ (by omega) (List.getElem?_eq_getElem hj)⟩).symm, H.below⟩
 ·
  refine R_w rfl rfl rfl (E_move ?_)
  refine R_w rfl rfl rfl (E_gtr rfl rfl ?_)
  refine R_o rfl (E_pick rfl ?_)
  refine R_o rfl (E_move (R_part (t := 12) rfl (fun h12 => ?_) (fun h12 => ?_)))
  ·
   refine R_p rfl rfl rfl ?_
   refine R_p rfl rfl rfl ?_
   refine R_p rfl rfl rfl ?_
   refine R_p rfl rfl rfl ?_
   refine R_o rfl (E_pick rfl ?_)
   refine R_nil (C_true (t := 17) rfl ?_)
   refine C_seq (C_region rfl (R_o rfl (E_assign (R_nil (C_ret ?_)))))
   with_reducible repeat (first | refine thn_ret ?_ | refine inB_ret ?_ | refine noG_ret ?_)
   first
     | exact ret_one rfl rfl ⟨congrArg Value.bool (decide_eq_false (fun h => by have := h.1; have := h.2.1; have := h.2.2.1; omega)).symm, H.below⟩
     | exact ret_one rfl hd ⟨congrArg Value.bool (decide_eq_false (fun h => by have := h.2.2.2 x (mem_of_get hx); omega)).symm, H.below⟩
     | exact ret_one rfl hd ⟨congrArg Value.bool (decide_eq_true ⟨hn8.1, hn8.2.1, hn8.2.2, fun y hy => by obtain ⟨j, hj, rfl⟩ := List.getElem_of_mem hy; exact hst j _ (by omega) (List.getElem?_eq_getElem hj)⟩).symm, H.below⟩
  ·
   refine R_w rfl rfl rfl (E_move ?_)
   refine R_w rfl rfl rfl (E_len rfl ?_)
   refine R_w rfl rfl rfl (E_move ?_)
   refine R_w rfl rfl rfl (E_neq rfl rfl ?_)
   refine R_o rfl (E_pick rfl ?_)
   refine R_nil (C_cond (t := 17) rfl (fun h17 => ?_) (fun h17 => ?_))
   ·
    refine C_seq (C_region rfl (R_o rfl (E_assign (R_nil (C_ret ?_)))))
    with_reducible repeat (first | refine thn_ret ?_ | refine inB_ret ?_ | refine noG_ret ?_)
    first
      | exact ret_one rfl rfl ⟨congrArg Value.bool (decide_eq_false (fun h => by have := h.1; have := h.2.1; have := h.2.2.1; omega)).symm, H.below⟩
      | exact ret_one rfl hd ⟨congrArg Value.bool (decide_eq_false (fun h => by have := h.2.2.2 x (mem_of_get hx); omega)).symm, H.below⟩
      | exact ret_one rfl hd ⟨congrArg Value.bool (decide_eq_true ⟨hn8.1, hn8.2.1, hn8.2.2, fun y hy => by obtain ⟨j, hj, rfl⟩ := List.getElem_of_mem hy; exact hst j _ (by omega) (List.getElem?_eq_getElem hj)⟩).symm, H.below⟩
   ·
    have hn8 : 1 ≤ n ∧ n ≤ 8 ∧ (xs.length : Int) = n := ⟨by omega, by omega, by omega⟩
    refine C_skip (C_seq (C_seq (C_region rfl (R_o rfl (E_assign (R_nil (C_block (C_loop (ds := []) [0, 1, 5] (fun m_ vs w => ∃ k : Nat, vs = [.slice A xs.length c, .int .i64 n, .int .i64 k] ∧ m_ = xs.length - k ∧ k ≤ xs.length ∧ (∀ j y, j < k → xs[j]? = some y → 0 ≤ y ∧ y ≤ 1000000) ∧ Loc w0 w []) (m := xs.length) (by first | rfl | exact hd) ?_ ?_))))))))
    · exact ⟨0, rfl, by omega, by omega, fun j y hj => by omega, H⟩
    intro m vs ρ₀ w hd hI
    clear H
    obtain ⟨k, rfl, rfl, hk, hst, H⟩ := hI
    refine C_seq (C_seq (C_region rfl (R_o rfl (E_move (R_o rfl (E_move (R_o rfl (E_lss rfl rfl ?_))))))))
    refine R_nil (C_cond (t := 20) rfl (fun hlt => ?_) (fun hlt => ?_))
    ·
     obtain ⟨x, hx⟩ := get_of (xs := xs) (k := k) (by omega)
     refine C_skip (C_seq (C_block (C_seq (C_region rfl (R_o rfl (E_move (R_o rfl (E_move (R_o rfl (E_idxr hs rfl rfl (by omega) (by omega) ?_))))))))))
     refine R_o rfl (E_loadi hs H rfl hx ?_)
     refine R_o rfl (E_lss rfl rfl ?_)
     refine R_o rfl (E_move (R_part (t := 28) rfl (fun h28 => ?_) (fun h28 => ?_)))
     ·
      refine R_p rfl rfl rfl ?_
      refine R_p rfl rfl rfl ?_
      refine R_p rfl rfl rfl ?_
      refine R_p rfl rfl rfl ?_
      refine R_p rfl rfl rfl ?_
      refine R_o rfl (E_pick rfl ?_)
      refine R_nil (C_true (t := 34) rfl ?_)
      refine C_seq (C_region rfl (R_o rfl (E_assign (R_nil (C_ret ?_)))))
      with_reducible repeat (first | refine thn_ret ?_ | refine inB_ret ?_ | refine noG_ret ?_)
      first
        | exact ret_one rfl rfl ⟨congrArg Value.bool (decide_eq_false (fun h => by have := h.1; have := h.2.1; have := h.2.2.1; omega)).symm, H.below⟩
        | exact ret_one rfl hd ⟨congrArg Value.bool (decide_eq_false (fun h => by have := h.2.2.2 x (mem_of_get hx); omega)).symm, H.below⟩
        | exact ret_one rfl hd ⟨congrArg Value.bool (decide_eq_true ⟨hn8.1, hn8.2.1, hn8.2.2, fun y hy => by obtain ⟨j, hj, rfl⟩ := List.getElem_of_mem hy; exact hst j _ (by omega) (List.getElem?_eq_getElem hj)⟩).symm, H.below⟩
     ·
      refine R_w rfl rfl rfl (E_move ?_)
      refine R_w rfl rfl rfl (E_move ?_)
      refine R_w rfl rfl rfl (E_idxr hs rfl rfl (by omega) (by omega) ?_)
      refine R_w rfl rfl rfl (E_loadi hs H rfl hx ?_)
      refine R_w rfl rfl rfl (E_gtr rfl rfl ?_)
      refine R_o rfl (E_pick rfl ?_)
      refine R_nil (C_cond (t := 34) rfl (fun h34 => ?_) (fun h34 => ?_))
      ·
       refine C_seq (C_region rfl (R_o rfl (E_assign (R_nil (C_ret ?_)))))
       with_reducible repeat (first | refine thn_ret ?_ | refine inB_ret ?_ | refine noG_ret ?_)
       first
         | exact ret_one rfl rfl ⟨congrArg Value.bool (decide_eq_false (fun h => by have := h.1; have := h.2.1; have := h.2.2.1; omega)).symm, H.below⟩
         | exact ret_one rfl hd ⟨congrArg Value.bool (decide_eq_false (fun h => by have := h.2.2.2 x (mem_of_get hx); omega)).symm, H.below⟩
         | exact ret_one rfl hd ⟨congrArg Value.bool (decide_eq_true ⟨hn8.1, hn8.2.1, hn8.2.2, fun y hy => by obtain ⟨j, hj, rfl⟩ := List.getElem_of_mem hy; exact hst j _ (by omega) (List.getElem?_eq_getElem hj)⟩).symm, H.below⟩
      ·
       refine C_skip (C_region rfl (R_o rfl (E_move (R_o rfl (E_add rfl rfl (by omega) ?_)))))
       refine R_o rfl (E_assign (R_nil (⟨hd, xs.length - (k + 1), by omega, k + 1, rfl, rfl, by omega, fun j y hj hy => ?_, H⟩)))
       by_cases e : j = k
       · subst e; rw [hx] at hy; cases hy; exact ⟨by omega, by omega⟩
       · exact hst j y (by omega) hy--
    ·
     have hk : k = xs.length := by omega
     refine C_exit ?_
     refine C_seq (C_region rfl (R_o rfl (E_assign (R_nil (C_ret ?_)))))
     with_reducible repeat (first | refine thn_ret ?_ | refine inB_ret ?_ | refine noG_ret ?_)
     first
       | exact ret_one rfl rfl ⟨congrArg Value.bool (decide_eq_false (fun h => by have := h.1; have := h.2.1; have := h.2.2.1; omega)).symm, H.below⟩
       | exact ret_one rfl hd ⟨congrArg Value.bool (decide_eq_false (fun h => by have := h.2.2.2 x (mem_of_get hx); omega)).symm, H.below⟩
       | exact ret_one rfl hd ⟨congrArg Value.bool (decide_eq_true ⟨hn8.1, hn8.2.1, hn8.2.2, fun y hy => by obtain ⟨j, hj, rfl⟩ := List.getElem_of_mem hy; exact hst j _ (by omega) (List.getElem?_eq_getElem hj)⟩).symm, H.below⟩
theorem R5Check_ {w0 : World} {v : Value} {m : Mk} (hm : RdM w0 v m) :
   Ret Tryz.prog 28 [v] w0 (fun v w => v = .bool (decide (okMk m)) ∧ Below w0.heap.size w0 w) := by
 refine ret_of_C Tryz.func28 rfl rfl rfl ?_
 have H := Loc.refl w0
 obtain ⟨a, b, c, rfl, ra, rb, rc⟩ := hm
 obtain ⟨A1, c1, rfl, hA1, hA2⟩ := ra.len
 obtain ⟨A2, c2, rfl, hB1, hB2⟩ := rb.len
 obtain ⟨A3, c3, rfl, hC1, hC2⟩ := rc.len
 refine C_seq (C_region rfl (R_o rfl (E_box (cs := [.slice A1 m.res.length c1, .slice A2 m.bids.length c2, .slice A3 m.ord.length c3]) rfl H ?_)))
 clear H; intro w b1 H
 refine R_o rfl (E_assign (R_nil (C_seq (C_region rfl (R_o rfl (E_fieldAddr rfl ?_))))))
 refine R_o rfl (E_load H rfl rfl ?_)
 refine R_o rfl (E_len rfl ?_)
 refine R_o rfl (E_assign (R_nil (C_seq (C_region rfl (R_o rfl (E_fieldAddr rfl ?_))))))
 refine R_o rfl (E_load H rfl rfl ?_)
 refine R_o rfl (E_len rfl ?_)
 refine R_o rfl (E_assign (R_nil (C_seq (C_seq (C_region rfl (R_o rfl (E_fieldAddr rfl ?_)))))))
 refine R_o rfl (E_load H rfl rfl ?_)
 refine R_o rfl (E_move (R_o rfl (E_call rfl (R4Check_ (Abides.below H.below ra) ⟨by omega, by omega⟩) ?_)))
 rintro _ w1 ⟨rfl, hb⟩
 replace H := H.call0 hb; clear hb
 refine R_o rfl (E_not rfl ?_)
 refine R_o rfl (E_move (R_part (t := 19) rfl (fun h1 => ?_) (fun h1 => ?_)))
 ·
  refine R_p rfl rfl rfl ?_
  refine R_p rfl rfl rfl ?_
  refine R_o rfl (E_pick rfl ?_)
  refine R_o rfl (E_move (R_p rfl rfl rfl ?_))
  refine R_p rfl rfl rfl ?_
  refine R_o rfl (E_pick rfl ?_)
  refine R_o rfl (E_move (R_p rfl rfl rfl ?_))
  refine R_p rfl rfl rfl ?_
  refine R_p rfl rfl rfl ?_
  refine R_p rfl rfl rfl ?_
  refine R_p rfl rfl rfl ?_
  refine R_o rfl (E_pick rfl ?_)
  refine R_nil (C_true (t := 33) rfl ?_)
  refine C_seq (C_region rfl (R_o rfl (E_assign (R_nil (C_ret ?_)))))
  with_reducible repeat (first | refine thn_ret ?_ | refine inB_ret ?_ | refine noG_ret ?_)
  first
    | exact ret_one rfl rfl ⟨congrArg Value.bool (decide_eq_false (fun h => by first | exact h1 h.1 | (have := h.2.1; have := okOrd_length h.2.2.1; omega))).symm, H.below⟩
    | exact ret_one rfl hd ⟨congrArg Value.bool (decide_eq_false (fun h => by first | exact h.2.2.2 x (mem_of_get hx) ⟨by omega, h55⟩ | (have := h.2.2.1.2 k (by omega); omega))).symm, H.below⟩
    | exact ret_one rfl hd ⟨congrArg Value.bool (decide_eq_true ⟨hres, ⟨hn2.1, hn2.2.1⟩, okOrd_iff.2 ⟨hn2.2.2, fun i hi => (hst i m.bids[i] (by omega) (List.getElem?_eq_getElem hi)).2⟩, fun y hy => by obtain ⟨j, hj, rfl⟩ := List.getElem_of_mem hy; exact (hst j _ (by omega) (List.getElem?_eq_getElem hj)).1⟩).symm, H.below⟩
 ·
  refine R_w rfl rfl rfl (E_move ?_)
  refine R_w rfl rfl rfl (E_lss rfl rfl ?_)
  refine R_o rfl (E_pick rfl ?_)
  refine R_o rfl (E_move (R_part (t := 23) rfl (fun h2 => ?_) (fun h2 => ?_)))
  ·
   refine R_p rfl rfl rfl ?_
   refine R_p rfl rfl rfl ?_
   refine R_o rfl (E_pick rfl ?_)
   refine R_o rfl (E_move (R_p rfl rfl rfl ?_))
   refine R_p rfl rfl rfl ?_
   refine R_p rfl rfl rfl ?_
   refine R_p rfl rfl rfl ?_
   refine R_p rfl rfl rfl ?_
   refine R_o rfl (E_pick rfl ?_)
   refine R_nil (C_true (t := 33) rfl ?_)
   refine C_seq (C_region rfl (R_o rfl (E_assign (R_nil (C_ret ?_)))))
   with_reducible repeat (first | refine thn_ret ?_ | refine inB_ret ?_ | refine noG_ret ?_)
   first
     | exact ret_one rfl rfl ⟨congrArg Value.bool (decide_eq_false (fun h => by first | exact h1 h.1 | (have := h.2.1; have := okOrd_length h.2.2.1; omega))).symm, H.below⟩
     | exact ret_one rfl hd ⟨congrArg Value.bool (decide_eq_false (fun h => by first | exact h.2.2.2 x (mem_of_get hx) ⟨by omega, h55⟩ | (have := h.2.2.1.2 k (by omega); omega))).symm, H.below⟩
     | exact ret_one rfl hd ⟨congrArg Value.bool (decide_eq_true ⟨hres, ⟨hn2.1, hn2.2.1⟩, okOrd_iff.2 ⟨hn2.2.2, fun i hi => (hst i m.bids[i] (by omega) (List.getElem?_eq_getElem hi)).2⟩, fun y hy => by obtain ⟨j, hj, rfl⟩ := List.getElem_of_mem hy; exact (hst j _ (by omega) (List.getElem?_eq_getElem hj)).1⟩).symm, H.below⟩
  ·
   refine R_w rfl rfl rfl (E_move ?_)
   refine R_w rfl rfl rfl (E_gtr rfl rfl ?_)
   refine R_o rfl (E_pick rfl ?_)
   refine R_o rfl (E_move (R_part (t := 27) rfl (fun h3 => ?_) (fun h3 => ?_)))
   ·
    refine R_p rfl rfl rfl ?_
    refine R_p rfl rfl rfl ?_
    refine R_p rfl rfl rfl ?_
    refine R_p rfl rfl rfl ?_
    refine R_p rfl rfl rfl ?_
    refine R_o rfl (E_pick rfl ?_)
    refine R_nil (C_true (t := 33) rfl ?_)
    refine C_seq (C_region rfl (R_o rfl (E_assign (R_nil (C_ret ?_)))))
    with_reducible repeat (first | refine thn_ret ?_ | refine inB_ret ?_ | refine noG_ret ?_)
    first
      | exact ret_one rfl rfl ⟨congrArg Value.bool (decide_eq_false (fun h => by first | exact h1 h.1 | (have := h.2.1; have := okOrd_length h.2.2.1; omega))).symm, H.below⟩
      | exact ret_one rfl hd ⟨congrArg Value.bool (decide_eq_false (fun h => by first | exact h.2.2.2 x (mem_of_get hx) ⟨by omega, h55⟩ | (have := h.2.2.1.2 k (by omega); omega))).symm, H.below⟩
      | exact ret_one rfl hd ⟨congrArg Value.bool (decide_eq_true ⟨hres, ⟨hn2.1, hn2.2.1⟩, okOrd_iff.2 ⟨hn2.2.2, fun i hi => (hst i m.bids[i] (by omega) (List.getElem?_eq_getElem hi)).2⟩, fun y hy => by obtain ⟨j, hj, rfl⟩ := List.getElem_of_mem hy; exact (hst j _ (by omega) (List.getElem?_eq_getElem hj)).1⟩).symm, H.below⟩
   ·
    refine R_w rfl rfl rfl (E_fieldAddr rfl ?_)
    refine R_w rfl rfl rfl (E_load H rfl rfl ?_)
    refine R_w rfl rfl rfl (E_len rfl ?_)
    refine R_w rfl rfl rfl (E_move ?_)
    refine R_w rfl rfl rfl (E_neq rfl rfl ?_)
    refine R_o rfl (E_pick rfl ?_)
    refine R_nil (C_cond (t := 33) rfl (fun h4 => ?_) (fun h4 => ?_))
    ·
     refine C_seq (C_region rfl (R_o rfl (E_assign (R_nil (C_ret ?_)))))
     with_reducible repeat (first | refine thn_ret ?_ | refine inB_ret ?_ | refine noG_ret ?_)
     first
       | exact ret_one rfl rfl ⟨congrArg Value.bool (decide_eq_false (fun h => by first | exact h1 h.1 | (have := h.2.1; have := okOrd_length h.2.2.1; omega))).symm, H.below⟩
       | exact ret_one rfl hd ⟨congrArg Value.bool (decide_eq_false (fun h => by first | exact h.2.2.2 x (mem_of_get hx) ⟨by omega, h55⟩ | (have := h.2.2.1.2 k (by omega); omega))).symm, H.below⟩
       | exact ret_one rfl hd ⟨congrArg Value.bool (decide_eq_true ⟨hres, ⟨hn2.1, hn2.2.1⟩, okOrd_iff.2 ⟨hn2.2.2, fun i hi => (hst i m.bids[i] (by omega) (List.getElem?_eq_getElem hi)).2⟩, fun y hy => by obtain ⟨j, hj, rfl⟩ := List.getElem_of_mem hy; exact (hst j _ (by omega) (List.getElem?_eq_getElem hj)).1⟩).symm, H.below⟩
    ·
     have hn2 : 1 ≤ m.bids.length ∧ m.bids.length ≤ 8 ∧ m.ord.length = m.bids.length := ⟨by omega, by omega, by omega⟩
     have hres := Decidable.of_not_not h1
     refine C_skip (C_seq (C_seq (C_region rfl (R_o rfl (E_assign (R_nil (C_block (C_loop (ds := []) [1, 3, 4, 5] (fun m_ vs w => ∃ k : Nat, vs = [.pointer (some ⟨b1, 0, none⟩), .int .i64 m.res.length, .int .i64 m.bids.length, .int .i64 k] ∧ m_ = m.bids.length - k ∧ k ≤ m.bids.length ∧ (∀ j (y : List Int), j < k → m.bids[j]? = some y → (¬ (0 < y.length ∧ ¬ okVec y m.res.length)) ∧ m.ord.count (j : Int) = 1) ∧ Loc w0 w [cl b1 25 [.slice A1 m.res.length c1, .slice A2 m.bids.length c2, .slice A3 m.ord.length c3]]) (m := m.bids.length) (by first | rfl | exact hd) ?_ ?_))))))))
     · exact ⟨0, rfl, by omega, by omega, fun j y hj => by omega, H⟩
     intro m vs ρ₀ w hd hI
     clear H
     obtain ⟨k, rfl, rfl, hk, hst, H⟩ := hI
     refine C_seq (C_seq (C_region rfl (R_o rfl (E_move (R_o rfl (E_move (R_o rfl (E_lss rfl rfl ?_))))))))
     refine R_nil (C_cond (t := 36) rfl (fun hlt => ?_) (fun hlt => ?_))
     ·
      obtain ⟨x, hx⟩ := get_of (xs := m.bids) (k := k) (by omega)
      refine C_skip (C_seq (C_block (C_seq (C_seq (C_region rfl (R_o rfl (E_fieldAddr rfl ?_)))))))
      refine R_o rfl (E_load H rfl rfl ?_)
      refine R_o rfl (E_move (R_o rfl (E_idxr rb rfl rfl (by omega) (by omega) ?_)))
      refine R_o rfl (E_loadr rb H rfl hx ?_)
      intro u hu
      obtain ⟨Au, cu, rfl, hu1, hu2⟩ := hu.len
      refine R_o rfl (E_len rfl ?_)
      refine R_o rfl (E_gtr rfl rfl ?_)
      refine R_o rfl (E_move (R_part (t := 46) rfl (fun h46 => ?_) (fun h46 => ?_)))
      ·
       refine R_w rfl rfl rfl (E_fieldAddr rfl ?_)
       refine R_w rfl rfl rfl (E_load H rfl rfl ?_)
       refine R_w rfl rfl rfl (E_move ?_)
       refine R_w rfl rfl rfl (E_idxr rb rfl rfl (by omega) (by omega) ?_)
       refine R_w rfl rfl rfl (E_loadr rb H rfl hx ?_)
       intro u2 hu2
       refine R_w rfl rfl rfl (E_move ?_)
       refine R_w rfl rfl rfl (E_call rfl (R4Check_ (Abides.below H.below hu2) ⟨by omega, by omega⟩) ?_)
       rintro _ w1 ⟨rfl, hb⟩
       replace H := H.call0 hb; clear hb
       refine R_w rfl rfl rfl (E_not rfl ?_)
       refine R_o rfl (E_pick rfl ?_)
       refine R_nil (C_cond (t := 55) rfl (fun h55 => ?_) (fun h55 => ?_))
       ·
        refine C_seq (C_region rfl (R_o rfl (E_assign (R_nil (C_ret ?_)))))
        with_reducible repeat (first | refine thn_ret ?_ | refine inB_ret ?_ | refine noG_ret ?_)
        first
          | exact ret_one rfl rfl ⟨congrArg Value.bool (decide_eq_false (fun h => by first | exact h1 h.1 | (have := h.2.1; have := okOrd_length h.2.2.1; omega))).symm, H.below⟩
          | exact ret_one rfl hd ⟨congrArg Value.bool (decide_eq_false (fun h => by first | exact h.2.2.2 x (mem_of_get hx) ⟨by omega, h55⟩ | (have := h.2.2.1.2 k (by omega); omega))).symm, H.below⟩
          | exact ret_one rfl hd ⟨congrArg Value.bool (decide_eq_true ⟨hres, ⟨hn2.1, hn2.2.1⟩, okOrd_iff.2 ⟨hn2.2.2, fun i hi => (hst i m.bids[i] (by omega) (List.getElem?_eq_getElem hi)).2⟩, fun y hy => by obtain ⟨j, hj, rfl⟩ := List.getElem_of_mem hy; exact (hst j _ (by omega) (List.getElem?_eq_getElem hj)).1⟩).symm, H.below⟩
       ·
        have hbok : ¬ (0 < x.length ∧ ¬ okVec x m.res.length) := fun hh => h55 hh.2
        refine C_skip (C_seq (C_region rfl (R_o rfl (E_assign (R_nil (C_seq (C_seq (C_region rfl (R_o rfl (E_assign (R_nil (C_block (C_loop (ds := []) [1, 3, 4, 5, 6, 7] (fun m_ vs w => ∃ j : Nat, ∃ n : Nat, vs = [.pointer (some ⟨b1, 0, none⟩), .int .i64 m.res.length, .int .i64 m.bids.length, .int .i64 k, .int .i64 (n : Nat), .int .i64 j] ∧ m_ = m.bids.length - j ∧ j ≤ m.bids.length ∧ (n = (m.ord.take j).count (k : Int)) ∧ Loc w0 w [cl b1 25 [.slice A1 m.res.length c1, .slice A2 m.bids.length c2, .slice A3 m.ord.length c3]]) (m := m.bids.length) (by first | rfl | exact hd) ?_ ?_)))))))))))))
        · exact ⟨0, 0, rfl, by omega, by omega, by simp, H⟩
        intro m vs ρ₀ w hd hI
        clear H
        obtain ⟨j, n, rfl, rfl, hj, hn, H⟩ := hI
        refine C_seq (C_seq (C_region rfl (R_o rfl (E_move (R_o rfl (E_move (R_o rfl (E_lss rfl rfl ?_))))))))
        refine R_nil (C_cond (t := 58) rfl (fun hlt2 => ?_) (fun hlt2 => ?_))
        ·
         obtain ⟨y, hy⟩ := get_of (xs := m.ord) (k := j) (by omega)
         refine C_skip (C_seq (C_block (C_seq (C_region rfl (R_o rfl (E_fieldAddr rfl ?_))))))
         refine R_o rfl (E_load H rfl rfl ?_)
         refine R_o rfl (E_move (R_o rfl (E_idxr rc rfl rfl (by omega) (by omega) ?_)))
         refine R_o rfl (E_loadi rc H rfl hy ?_)
         refine R_o rfl (E_move (R_o rfl (E_eql rfl rfl ?_)))
         refine R_nil (C_cond (t := 67) rfl (fun h67 => ?_) (fun h67 => ?_))
         ·
          refine C_region rfl (R_o rfl (E_move (R_o rfl (E_add rfl rfl (by have := List.count_le_length (a := (k : Int)) (l := m.ord.take j); rw [List.length_take, ← hn] at this; omega) ?_))))
          refine R_o rfl (E_assign (R_nil (C_region rfl (R_o rfl (E_move (R_o rfl (E_add rfl rfl (by omega) ?_)))))))
          refine R_o rfl (E_assign (R_nil (⟨hd, m.bids.length - (j + 1), by omega, j + 1, _, rfl, rfl, by omega, by rw [take_step hy, List.count_append, List.count_singleton, ← hn]; split <;> (rename_i he; simp at he; omega), H⟩)))
         ·
          refine C_skip (C_region rfl (R_o rfl (E_move (R_o rfl (E_add rfl rfl (by omega) ?_)))))
          refine R_o rfl (E_assign (R_nil (⟨hd, m.bids.length - (j + 1), by omega, j + 1, _, rfl, rfl, by omega, by rw [take_step hy, List.count_append, List.count_singleton, ← hn]; split <;> (rename_i he; simp at he; omega), H⟩)))
        ·
         have hj : j = m.ord.length := by omega
         subst hj
         rw [List.take_length] at hn
         refine C_exit ?_
         refine C_seq (C_region rfl (R_o rfl (E_move (R_o rfl (E_neq rfl rfl ?_)))))
         refine R_nil (C_cond (t := 71) rfl (fun h71 => ?_) (fun h71 => ?_))
         ·
          refine C_seq (C_region rfl (R_o rfl (E_assign (R_nil (C_ret ?_)))))
          with_reducible repeat (first | refine thn_ret ?_ | refine inB_ret ?_ | refine noG_ret ?_)
          first
            | exact ret_one rfl rfl ⟨congrArg Value.bool (decide_eq_false (fun h => by first | exact h1 h.1 | (have := h.2.1; have := okOrd_length h.2.2.1; omega))).symm, H.below⟩
            | exact ret_one rfl hd ⟨congrArg Value.bool (decide_eq_false (fun h => by first | exact h.2.2.2 x (mem_of_get hx) ⟨by omega, h55⟩ | (have := h.2.2.1.2 k (by omega); omega))).symm, H.below⟩
            | exact ret_one rfl hd ⟨congrArg Value.bool (decide_eq_true ⟨hres, ⟨hn2.1, hn2.2.1⟩, okOrd_iff.2 ⟨hn2.2.2, fun i hi => (hst i m.bids[i] (by omega) (List.getElem?_eq_getElem hi)).2⟩, fun y hy => by obtain ⟨j, hj, rfl⟩ := List.getElem_of_mem hy; exact (hst j _ (by omega) (List.getElem?_eq_getElem hj)).1⟩).symm, H.below⟩
         ·
          refine C_skip (C_region rfl (R_o rfl (E_move (R_o rfl (E_add rfl rfl (by omega) ?_)))))
          refine R_o rfl (E_assign (R_nil (⟨hd, m.bids.length - (k + 1), by omega, k + 1, rfl, rfl, by omega, fun i y hi hy => ?_, H⟩)))
          by_cases e : i = k
          · subst e; rw [hx] at hy; cases hy; exact ⟨hbok, by have h := Decidable.of_not_not h71; rw [← hn]; omega⟩
          · exact hst i y (by omega) hy--
      ·
       refine R_p rfl rfl rfl ?_
       refine R_p rfl rfl rfl ?_
       refine R_p rfl rfl rfl ?_
       refine R_p rfl rfl rfl ?_
       refine R_p rfl rfl rfl ?_
       refine R_p rfl rfl rfl ?_
       refine R_p rfl rfl rfl ?_
       refine R_p rfl rfl rfl ?_
       refine R_o rfl (E_pick rfl ?_)
       refine R_nil ?_
       have hbok : ¬ (0 < x.length ∧ ¬ okVec x m.res.length) := fun hh => by omega
       refine C_false (t := 55) rfl ?_
       refine C_skip (C_seq (C_region rfl (R_o rfl (E_assign (R_nil (C_seq (C_seq (C_region rfl (R_o rfl (E_assign (R_nil (C_block (C_loop (ds := []) [1, 3, 4, 5, 6, 7] (fun m_ vs w => ∃ j : Nat, ∃ n : Nat, vs = [.pointer (some ⟨b1, 0, none⟩), .int .i64 m.res.length, .int .i64 m.bids.length, .int .i64 k, .int .i64 (n : Nat), .int .i64 j] ∧ m_ = m.bids.length - j ∧ j ≤ m.bids.length ∧ (n = (m.ord.take j).count (k : Int)) ∧ Loc w0 w [cl b1 25 [.slice A1 m.res.length c1, .slice A2 m.bids.length c2, .slice A3 m.ord.length c3]]) (m := m.bids.length) (by first | rfl | exact hd) ?_ ?_)))))))))))))
       · exact ⟨0, 0, rfl, by omega, by omega, by simp, H⟩
       intro m vs ρ₀ w hd hI
       clear H
       obtain ⟨j, n, rfl, rfl, hj, hn, H⟩ := hI
       refine C_seq (C_seq (C_region rfl (R_o rfl (E_move (R_o rfl (E_move (R_o rfl (E_lss rfl rfl ?_))))))))
       refine R_nil (C_cond (t := 58) rfl (fun hlt2 => ?_) (fun hlt2 => ?_))
       ·
        obtain ⟨y, hy⟩ := get_of (xs := m.ord) (k := j) (by omega)
        refine C_skip (C_seq (C_block (C_seq (C_region rfl (R_o rfl (E_fieldAddr rfl ?_))))))
        refine R_o rfl (E_load H rfl rfl ?_)
        refine R_o rfl (E_move (R_o rfl (E_idxr rc rfl rfl (by omega) (by omega) ?_)))
        refine R_o rfl (E_loadi rc H rfl hy ?_)
        refine R_o rfl (E_move (R_o rfl (E_eql rfl rfl ?_)))
        refine R_nil (C_cond (t := 67) rfl (fun h67 => ?_) (fun h67 => ?_))
        ·
         refine C_region rfl (R_o rfl (E_move (R_o rfl (E_add rfl rfl (by have := List.count_le_length (a := (k : Int)) (l := m.ord.take j); rw [List.length_take, ← hn] at this; omega) ?_))))
         refine R_o rfl (E_assign (R_nil (C_region rfl (R_o rfl (E_move (R_o rfl (E_add rfl rfl (by omega) ?_)))))))
         refine R_o rfl (E_assign (R_nil (⟨hd, m.bids.length - (j + 1), by omega, j + 1, _, rfl, rfl, by omega, by rw [take_step hy, List.count_append, List.count_singleton, ← hn]; split <;> (rename_i he; simp at he; omega), H⟩)))
        ·
         refine C_skip (C_region rfl (R_o rfl (E_move (R_o rfl (E_add rfl rfl (by omega) ?_)))))
         refine R_o rfl (E_assign (R_nil (⟨hd, m.bids.length - (j + 1), by omega, j + 1, _, rfl, rfl, by omega, by rw [take_step hy, List.count_append, List.count_singleton, ← hn]; split <;> (rename_i he; simp at he; omega), H⟩)))
       ·
        have hj : j = m.ord.length := by omega
        subst hj
        rw [List.take_length] at hn
        refine C_exit ?_
        refine C_seq (C_region rfl (R_o rfl (E_move (R_o rfl (E_neq rfl rfl ?_)))))
        refine R_nil (C_cond (t := 71) rfl (fun h71 => ?_) (fun h71 => ?_))
        ·
         refine C_seq (C_region rfl (R_o rfl (E_assign (R_nil (C_ret ?_)))))
         with_reducible repeat (first | refine thn_ret ?_ | refine inB_ret ?_ | refine noG_ret ?_)
         first
           | exact ret_one rfl rfl ⟨congrArg Value.bool (decide_eq_false (fun h => by first | exact h1 h.1 | (have := h.2.1; have := okOrd_length h.2.2.1; omega))).symm, H.below⟩
           | exact ret_one rfl hd ⟨congrArg Value.bool (decide_eq_false (fun h => by first | exact h.2.2.2 x (mem_of_get hx) ⟨by omega, h55⟩ | (have := h.2.2.1.2 k (by omega); omega))).symm, H.below⟩
           | exact ret_one rfl hd ⟨congrArg Value.bool (decide_eq_true ⟨hres, ⟨hn2.1, hn2.2.1⟩, okOrd_iff.2 ⟨hn2.2.2, fun i hi => (hst i m.bids[i] (by omega) (List.getElem?_eq_getElem hi)).2⟩, fun y hy => by obtain ⟨j, hj, rfl⟩ := List.getElem_of_mem hy; exact (hst j _ (by omega) (List.getElem?_eq_getElem hj)).1⟩).symm, H.below⟩
        ·
         refine C_skip (C_region rfl (R_o rfl (E_move (R_o rfl (E_add rfl rfl (by omega) ?_)))))
         refine R_o rfl (E_assign (R_nil (⟨hd, m.bids.length - (k + 1), by omega, k + 1, rfl, rfl, by omega, fun i y hi hy => ?_, H⟩)))
         by_cases e : i = k
         · subst e; rw [hx] at hy; cases hy; exact ⟨hbok, by have h := Decidable.of_not_not h71; rw [← hn]; omega⟩
         · exact hst i y (by omega) hy--
     ·
      have hk : k = m.bids.length := by omega
      refine C_exit ?_
      refine C_seq (C_region rfl (R_o rfl (E_assign (R_nil (C_ret ?_)))))
      with_reducible repeat (first | refine thn_ret ?_ | refine inB_ret ?_ | refine noG_ret ?_)
      first
        | exact ret_one rfl rfl ⟨congrArg Value.bool (decide_eq_false (fun h => by first | exact h1 h.1 | (have := h.2.1; have := okOrd_length h.2.2.1; omega))).symm, H.below⟩
        | exact ret_one rfl hd ⟨congrArg Value.bool (decide_eq_false (fun h => by first | exact h.2.2.2 x (mem_of_get hx) ⟨by omega, h55⟩ | (have := h.2.2.1.2 k (by omega); omega))).symm, H.below⟩
        | exact ret_one rfl hd ⟨congrArg Value.bool (decide_eq_true ⟨hres, ⟨hn2.1, hn2.2.1⟩, okOrd_iff.2 ⟨hn2.2.2, fun i hi => (hst i m.bids[i] (by omega) (List.getElem?_eq_getElem hi)).2⟩, fun y hy => by obtain ⟨j, hj, rfl⟩ := List.getElem_of_mem hy; exact (hst j _ (by omega) (List.getElem?_eq_getElem hj)).1⟩).symm, H.below⟩
theorem R5Gains_ {w0 : World} {v : Value} {m : Mk} (hm : RdM w0 v m) : Ret Tryz.prog 38 [v] w0 (GainsPo m w0) := by
 refine ret_of_C Tryz.func38 rfl rfl rfl ?_
 have H := Loc.refl w0
 have hm0 := hm
 obtain ⟨a, b, c, rfl, ra, rb, rc⟩ := hm
 obtain ⟨A1, c1, rfl, hA1, hA2⟩ := ra.len
 obtain ⟨A2, c2, rfl, hB1, hB2⟩ := rb.len
 refine C_seq (C_region rfl (R_o rfl (E_box (cs := [.slice A1 m.res.length c1, .slice A2 m.bids.length c2, c]) rfl H ?_)))
 clear H; intro w b1 H
 refine R_o rfl (E_assign (R_o rfl (E_assign (R_nil (C_seq (C_seq (C_region rfl (R_o rfl (E_loadw H rfl (by rfl) ?_)))))))))
 refine R_o rfl (E_call rfl (R5Check_ (Abides.below H.below hm0)) ?_)
 rintro _ w1 ⟨rfl, hb⟩
 replace H := H.call0 hb; clear hb
 refine R_o rfl (E_not rfl ?_)
 refine R_nil (C_cond (t := 10) rfl (fun hno => ?_) (fun hno => ?_))
 ·
  refine C_seq (C_region rfl (R_o rfl (E_assign (R_o rfl (E_assign (R_nil (C_ret ?_)))))))
  with_reducible repeat (first | refine thn_ret ?_ | refine inB_ret ?_ | refine noG_ret ?_)
  first
    | exact ret_two rfl rfl (.inr ⟨hno, rfl, H.o0⟩)
    | (refine ret_two rfl hd (.inl ⟨hok, _, rfl, ?_⟩)
       subst hk
       rw [List.take_of_length_le (by simp)] at H
       exact (H.join vo (fun w => RdII w vo (gains m)) fun S1 S2 w' h1 h2 => row_rdE h2 (rdv_now h1)).fst)
 ·
  have hok : okMk m := Decidable.of_not_not hno
  have hn1 := hok.1.2.1
  have hn2 := hok.2.1.2
  refine C_skip (C_seq (C_region rfl (R_o rfl (E_assign (R_nil (C_seq (C_seq (C_region rfl (R_o rfl (E_assign (R_nil (C_block (C_loop (ds := []) [1, 4, 5] (fun m_ vs w => ∃ k : Nat, ∃ (vo : Value) (us : List Value), vs = [.pointer (some ⟨b1, 0, none⟩), vo, .int .i64 k] ∧ m_ = m.bids.length - k ∧ k ≤ m.bids.length ∧ (True) ∧ Loc w0 w [rdv undef (fun w => Els RdI w us ((gains m).take k)), row 22 1 vo k us, cl b1 25 [.slice A1 m.res.length c1, .slice A2 m.bids.length c2, c]]) (m := m.bids.length) (by first | rfl | exact hd) ?_ ?_)))))))))))))
  · replace H := (nilRow 22 1 H).mkEmp.toRd undef (fun w => Els RdI w [] ((gains m).take 0)) (fun _ _ _ => Els.nil _ _)
    exact ⟨0, .slice none 0 0, [], rfl, by omega, by omega, trivial, H.o3⟩
  intro m vs ρ₀ w hd hI
  clear H
  obtain ⟨k, vo, us, rfl, rfl, hk, hst, H⟩ := hI
  refine C_seq (C_seq (C_region rfl (R_o rfl (E_move (R_o rfl (E_fieldAddr rfl ?_))))))
  refine R_o rfl (E_load H rfl rfl ?_)
  refine R_o rfl (E_len rfl ?_)
  refine R_o rfl (E_lss rfl rfl ?_)
  refine R_nil (C_cond (t := 15) rfl (fun hlt => ?_) (fun hlt => ?_))
  ·
   obtain ⟨x, hx⟩ := get_of (xs := m.bids) (k := k) (by omega)
   obtain ⟨u, hcx, hu⟩ := rb.at hx
   obtain ⟨Au, cu, rfl, hu1, hu2⟩ := hu.len
   refine C_skip (C_seq (C_block (C_seq (C_region rfl (R_o rfl (E_assign (R_nil (C_seq (C_seq (C_region rfl (R_o rfl (E_assign (R_nil (C_block (C_loop (ds := []) [1, 4, 5, 6, 7] (fun m_ vs w => ∃ j : Nat, ∃ vl : Value, vs = [.pointer (some ⟨b1, 0, none⟩), vo, .int .i64 k, vl, .int .i64 j] ∧ m_ = m.res.length - j ∧ j ≤ m.res.length ∧ (True) ∧ Loc w0 w [row 3 1 vl j (ints .i64 ((gain1 m.res x).take j)), rdv undef (fun w => Els RdI w us ((gains m).take k)), row 22 1 vo k us, cl b1 25 [.slice A1 m.res.length c1, .slice A2 m.bids.length c2, c]]) (m := m.res.length) (by first | rfl | exact hd) ?_ ?_)))))))))))))))
   · replace H := nilRow 3 1 H
     replace H : Loc w0 _ (row 3 1 (.slice none 0 0) 0 (ints .i64 ((gain1 m.res x).take 0)) :: _) := H
     exact ⟨0, .slice none 0 0, rfl, by omega, by omega, trivial, H.o4⟩
   intro m vs ρ₀ w hd hI
   clear H
   obtain ⟨j, vl, rfl, rfl, hj, _, H⟩ := hI
   refine C_seq (C_seq (C_region rfl (R_o rfl (E_move (R_o rfl (E_fieldAddr rfl ?_))))))
   refine R_o rfl (E_load H rfl rfl ?_)
   refine R_o rfl (E_len rfl ?_)
   refine R_o rfl (E_lss rfl rfl ?_)
   refine R_nil (C_cond (t := 22) rfl (fun hlt2 => ?_) (fun hlt2 => ?_))
   ·
    obtain ⟨y, hy⟩ := get_of (xs := m.res) (k := j) (by omega)
    refine C_skip (C_seq (C_block (C_seq (C_region rfl (R_o rfl (E_fieldAddr rfl ?_))))))
    refine R_o rfl (E_load H rfl rfl ?_)
    refine R_o rfl (E_move (R_o rfl (E_idxr rb rfl rfl (by omega) (by omega) ?_)))
    refine R_o rfl (E_loadc hcx H rfl ?_)
    refine R_o rfl (E_len rfl ?_)
    refine R_o rfl (E_eql rfl rfl ?_)
    refine R_nil (C_cond (t := 31) rfl (fun h31 => ?_) (fun h31 => ?_))
    ·
     obtain rfl : x = [] := List.eq_nil_of_length_eq_zero (by omega)
     have hg : (gain1 m.res [])[j]? = some (-1) := by
       have h1 : j < (gain1 m.res []).length := by rw [gain1_length (.inl rfl)]; omega
       have h2 := gain1_nil (res := m.res) (j := j) (by omega)
       rw [List.getD_eq_getElem?_getD, List.getElem?_eq_getElem h1] at h2
       rw [List.getElem?_eq_getElem h1]; exact congrArg some h2
     refine C_region rfl (R_o rfl (E_move (R_o rfl (E_lit (vs := [.int .i64 (-1)]) [.const (.int .i64 (-1))] rfl rfl rfl rfl rfl H ?_))))
     clear H; intro w b33 H
     refine R_o rfl (E_append1 (v := vl) (b := b33) (u := .int .i64 (-1)) H rfl rfl rfl (by omega) (by omega) ?_)
     clear H; intro w v34 H
     refine R_o rfl (E_assign (R_nil (C_region rfl (R_o rfl (E_move (R_o rfl (E_add rfl rfl (by omega) ?_)))))))
     refine R_o rfl (E_assign (R_nil ?_))
     rw [← ints_snoc, ← take_step hg] at H
     refine ⟨hd, m.res.length - (j + 1), by omega, j + 1, v34, rfl, rfl, by omega, trivial, H.o4⟩
    ·
     obtain ⟨z, hz⟩ := get_of (xs := x) (k := j) (by rcases hok.len hx with e | e; (subst e; simp at h31); omega)
     have hzb := hok.bound hx hz hy
     have hjz := lt_of_get hz
     have hg : (gain1 m.res x)[j]? = some (z - y) := by
       have h1 : j < (gain1 m.res x).length := by rw [gain1_length (hok.len hx)]; omega
       have h2 := gain1_get (by intro e; subst e; simp at h31) hz hy
       rw [List.getD_eq_getElem?_getD, List.getElem?_eq_getElem h1] at h2
       rw [List.getElem?_eq_getElem h1]; exact congrArg some h2
     refine C_drawS [] [cl b1 25 [.slice A1 m.res.length c1, .slice A2 m.bids.length c2, c]] H (by kernel_rfl) (fun w H => ?_)
     refine D_takeT 0 rfl rfl rfl (by kernel_rfl) (fun w K Z kk => E_move kk) ?_
     refine D_takeT 1 rfl rfl rfl (by kernel_rfl) (fun w K Z kk => E_fieldAddr rfl kk) ?_
     refine D_take 2 rfl rfl rfl (by kernel_rfl) H.o1 (fun w HS K Z kk => E_load HS rfl rfl kk) ?_
     refine D_takeT 3 rfl rfl rfl (by kernel_rfl) (fun w K Z kk => E_move kk) ?_
     refine D_takeT 4 rfl rfl rfl (by kernel_rfl) (fun w K Z kk => E_idxr rb rfl rfl (by omega) (by omega) kk) ?_
     refine D_take 5 rfl rfl rfl (by kernel_rfl) H.o1 (fun w HS K Z kk => E_loadc hcx HS rfl kk) ?_
     refine D_takeT 6 rfl rfl rfl (by kernel_rfl) (fun w K Z kk => E_move kk) ?_
     refine D_takeT 7 rfl rfl rfl (by kernel_rfl) (fun w K Z kk => E_idxr hu rfl rfl (by omega) (by omega) kk) ?_
     refine D_take 8 rfl rfl rfl (by kernel_rfl) H.o1 (fun w HS K Z kk => E_loadi hu HS rfl hz kk) ?_
     refine D_takeT 9 rfl rfl rfl (by kernel_rfl) (fun w K Z kk => E_fieldAddr rfl kk) ?_
     refine D_take 10 rfl rfl rfl (by kernel_rfl) H.o1 (fun w HS K Z kk => E_load HS rfl rfl kk) ?_
     refine D_takeT 11 rfl rfl rfl (by kernel_rfl) (fun w K Z kk => E_move kk) ?_
     refine D_takeT 12 rfl rfl rfl (by kernel_rfl) (fun w K Z kk => E_idxr ra rfl rfl (by omega) (by omega) kk) ?_
     refine D_take 13 rfl rfl rfl (by kernel_rfl) H.o1 (fun w HS K Z kk => E_loadi ra HS rfl hy kk) ?_
     refine D_takeT 14 rfl rfl rfl (by kernel_rfl) (fun w K Z kk => E_sub rfl rfl (by omega) kk) ?_
     refine D_act 15 rfl rfl (by kernel_rfl) (E_lit (vs := [.int .i64 (z - y)]) [.tmp 49] rfl rfl rfl rfl rfl H ?_)
     clear H; intro w b50 H
     refine ⟨fun _ _ => H.o1, ?_⟩
     refine D_act 16 rfl rfl (by kernel_rfl) (E_append1 (v := vl) (b := b50) (u := .int .i64 (z - y)) H rfl rfl rfl (by omega) (by omega) ?_)
     clear H; intro w v34 H
     refine ⟨fun _ _ => H.o1, ?_⟩
     refine D_takeT 17 rfl rfl rfl (by kernel_rfl) (fun w K Z kk => E_assign kk) ?_
     refine D_done (by kernel_rfl) ?_
     refine C_region rfl (R_o rfl (E_move (R_o rfl (E_add rfl rfl (by omega) ?_))))
     refine R_o rfl (E_assign (R_nil ?_))
     rw [← ints_snoc, ← take_step hg] at H
     refine ⟨hd, m.res.length - (j + 1), by omega, j + 1, v34, rfl, rfl, by omega, trivial, H.o4⟩
   ·
    have hj : j = m.res.length := by omega
    subst hj
    rw [List.take_of_length_le (by rw [gain1_length (hok.len hx)]; omega)] at H
    obtain ⟨Al, cl, rfl, _⟩ := H.len (v := vl)
    replace H := H.join undef (fun w => Els RdI w (us ++ [.slice Al m.res.length cl]) ((gains m).take (k + 1))) (fun S1 S2 w h1 h2 => by rw [take_step (gains_get hx)]; exact (rdv_now h2).snoc (row_rdI h1 (gain1_length (hok.len hx))))
    refine C_exit ?_
    refine C_region rfl (R_o rfl (E_move (R_o rfl (E_move (R_o rfl (E_lit (vs := [.slice Al m.res.length cl]) [.tmp 53] rfl rfl rfl rfl rfl H ?_))))))
    clear H; intro w b54 H
    refine R_o rfl (E_append1 (v := vo) (b := b54) (u := .slice Al m.res.length cl) H rfl rfl rfl (by omega) (by omega) ?_)
    clear H; intro w v55 H
    refine R_o rfl (E_assign (R_nil (C_region rfl (R_o rfl (E_move (R_o rfl (E_add rfl rfl (by omega) ?_)))))))
    refine R_o rfl (E_assign (R_nil (⟨hd, m.bids.length - (k + 1), by omega, k + 1, v55, us ++ [.slice Al m.res.length cl], rfl, rfl, by omega, trivial, H.o3⟩)))
  ·
   have hk : k = m.bids.length := by omega
   refine C_exit ?_
   refine C_seq (C_region rfl (R_o rfl (E_move (R_o rfl (E_assign (R_o rfl (E_assign (R_nil (C_ret ?_)))))))))
   with_reducible repeat (first | refine thn_ret ?_ | refine inB_ret ?_ | refine noG_ret ?_)
   first
     | exact ret_two rfl rfl (.inr ⟨hno, rfl, H.o0⟩)
     | (refine ret_two rfl hd (.inl ⟨hok, _, rfl, ?_⟩)
        subst hk
        rw [List.take_of_length_le (by simp)] at H
        exact (H.join vo (fun w => RdII w vo (gains m)) fun S1 S2 w' h1 h2 => row_rdE h2 (rdv_now h1)).fst)
end Go.Sl
