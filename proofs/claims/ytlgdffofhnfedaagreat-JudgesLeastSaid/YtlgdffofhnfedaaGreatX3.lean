/- vectors, markets. -/
import Derived.Test.YtlgdffofhnfedaaGreatX2
set_option linter.unusedVariables false
set_option linter.unusedSimpArgs false
set_option maxRecDepth 10000
namespace Go.Sl
open Go.RowKit
open Go.Proofs
theorem within_ {w0 : World} {most : Int} {s : Value} {xs : List Int} (hs : RdI w0 s xs) :
   Ret Tryz.prog 63 [.int .i64 most, s] w0 (fun v w => v = .bool (decide (∀ x ∈ xs, 0 ≤ x ∧ x ≤ most)) ∧ Below w0.heap.size w0 w) := by
 refine ret_of_C Tryz.func63 rfl rfl rfl ?_
 have H := Loc.refl w0
 obtain ⟨A, c, rfl, hc1, hc2⟩ := hs.len
 refine C_seq (C_region rfl (R_o rfl (E_assign (R_nil (C_scope (C_seq (C_region rfl (R_o rfl (E_move (R_o rfl (E_len rfl ?_)))))))))))
 refine R_o rfl (E_assign (R_nil (C_seq (C_label ?_))))
 refine C_seq (C_seq (C_region rfl (R_o rfl (E_move (R_o rfl (E_len rfl ?_))))))
 refine R_o rfl (E_move (R_nil (C_block (C_loop (ds := []) [0, 5, 10, 11, 12] (fun m_ vs w => ∃ k : Nat, vs = [.int .i64 most, .int .i64 (xs.length - k), .slice A xs.length c, .int .i64 xs.length, .int .i64 k] ∧ m_ = xs.length - k ∧ k ≤ xs.length ∧ (∀ j y, j < k → xs[j]? = some y → 0 ≤ y ∧ y ≤ most) ∧ Loc w0 w []) (m := xs.length) (by first | rfl | exact hd) ?_ ?_))))
 · exact ⟨0, by show [_, Value.int .i64 (xs.length : Int), _, _, _] = _; rw [show ((xs.length : Int) - ((0 : Nat) : Int)) = xs.length by omega]; rfl, by omega, by omega, fun j y hj => by omega, H⟩
 intro m vs ρ₀ w hd hI
 clear H
 obtain ⟨k, rfl, rfl, hk, hst, H⟩ := hI
 refine C_seq (C_region rfl (R_o rfl (E_lss rfl rfl ?_)))
 refine R_nil (C_seq (C_cond (t := 13) rfl (fun hlt => ?_) (fun hlt => ?_)))
 ·
  obtain ⟨x, hx⟩ := get_of (xs := xs) (k := k) (by omega)
  refine C_skip (C_seq (C_block (C_seq (C_region rfl (R_o rfl (E_idxr hs rfl rfl (by omega) (by omega) ?_))))))
  refine R_o rfl (E_loadi hs H rfl hx ?_)
  refine R_o rfl (E_assign (R_nil (C_seq (C_block (C_seq (C_seq (C_region rfl (R_o rfl (E_move (R_o rfl (E_lss rfl rfl ?_)))))))))))
  refine R_o rfl (E_assign (R_nil (C_cond (t := 16) rfl (fun ha => ?_) (fun ha => ?_))))
  ·
   refine C_skip (C_cond (t := 16) rfl (fun hb => ?_) (fun hb => ?_))
   ·
    refine C_exit ?_
    refine C_seq (C_region rfl (R_o rfl (E_move (R_o rfl (E_eql rfl rfl ?_)))))
    refine R_o rfl (E_assign (R_nil (C_ret ?_)))
    with_reducible repeat (first | refine thn_ret ?_ | refine inB_ret ?_ | refine noG_ret ?_)
    first
      | exact ret_one rfl hd ⟨congrArg Value.bool (decide_eq_decide.2 ⟨fun h => absurd h (by omega), fun h => by have := h x (mem_of_get hx); omega⟩), H.below⟩
      | exact ret_one rfl hd ⟨congrArg Value.bool (decide_eq_decide.2 ⟨fun h y hy => by obtain ⟨j, hj, rfl⟩ := List.getElem_of_mem hy; exact hst j _ (by omega) (List.getElem?_eq_getElem hj), fun h => by omega⟩), H.below⟩
   ·
    exact absurd ha hb
  ·
   refine C_region rfl (R_o rfl (E_move (R_o rfl (E_move (R_o rfl (E_gtr rfl rfl ?_))))))
   refine R_o rfl (E_assign (R_nil (C_cond (t := 16) rfl (fun hb => ?_) (fun hb => ?_))))
   ·
    refine C_exit ?_
    refine C_seq (C_region rfl (R_o rfl (E_move (R_o rfl (E_eql rfl rfl ?_)))))
    refine R_o rfl (E_assign (R_nil (C_ret ?_)))
    with_reducible repeat (first | refine thn_ret ?_ | refine inB_ret ?_ | refine noG_ret ?_)
    first
      | exact ret_one rfl hd ⟨congrArg Value.bool (decide_eq_decide.2 ⟨fun h => absurd h (by omega), fun h => by have := h x (mem_of_get hx); omega⟩), H.below⟩
      | exact ret_one rfl hd ⟨congrArg Value.bool (decide_eq_decide.2 ⟨fun h y hy => by obtain ⟨j, hj, rfl⟩ := List.getElem_of_mem hy; exact hst j _ (by omega) (List.getElem?_eq_getElem hj), fun h => by omega⟩), H.below⟩
   ·
    refine C_skip (C_region rfl (R_o rfl (E_move (R_o rfl (E_sub rfl rfl (by omega) ?_)))))
    refine R_o rfl (E_assign (R_nil (C_region rfl (R_o rfl (E_add rfl rfl (by omega) ?_)))))
    refine R_o rfl (E_move (R_nil (⟨hd, xs.length - (k + 1), by omega, k + 1, by show [_, Value.int .i64 ((xs.length : Int) - k - 1), _, _, _] = _; rw [show (xs.length : Int) - k - 1 = xs.length - ((k + 1 : Nat) : Int) by omega]; rfl, rfl, by omega, fun j y hj hy => ?_, H⟩)))
    by_cases e : j = k
    · subst e; rw [hx] at hy; cases hy; exact ⟨by omega, by omega⟩
    · exact hst j y (by omega) hy--
 ·
  have hk : k = xs.length := by omega
  refine C_exit ?_
  refine C_seq (C_region rfl (R_o rfl (E_move (R_o rfl (E_eql rfl rfl ?_)))))
  refine R_o rfl (E_assign (R_nil (C_ret ?_)))
  with_reducible repeat (first | refine thn_ret ?_ | refine inB_ret ?_ | refine noG_ret ?_)
  first
    | exact ret_one rfl hd ⟨congrArg Value.bool (decide_eq_decide.2 ⟨fun h => absurd h (by omega), fun h => by have := h x (mem_of_get hx); omega⟩), H.below⟩
    | exact ret_one rfl hd ⟨congrArg Value.bool (decide_eq_decide.2 ⟨fun h y hy => by obtain ⟨j, hj, rfl⟩ := List.getElem_of_mem hy; exact hst j _ (by omega) (List.getElem?_eq_getElem hj), fun h => by omega⟩), H.below⟩
theorem VCheck_ {w0 : World} {n : Int} {s : Value} {xs : List Int} (hs : RdI w0 s xs) (hn : 0 ≤ n ∧ n ≤ 9223372036854775807) :
   Ret Tryz.prog 42 [s, .int .i64 n] w0 (fun v w => v = .bool (decide (okVec xs n)) ∧ Below w0.heap.size w0 w) := by
 refine ret_of_C Tryz.func42 rfl rfl rfl ?_
 have H := Loc.refl w0
 obtain ⟨A, c, rfl, hc1, hc2⟩ := hs.len
 refine C_seq (C_region rfl (R_o rfl (E_assign (R_nil (C_seq (C_region rfl (R_o rfl (E_move (R_o rfl (E_sub rfl rfl (by omega) ?_))))))))))
 refine R_o rfl (E_lit (vs := [.int .i64 (n - 1)]) [.tmp 6] rfl rfl rfl rfl rfl H ?_)
 clear H; intro w b7 H
 refine R_o rfl (E_call rfl (within_ (RdI.of_cl (k := .i64) (xs := [n - 1]) H (by simp))) ?_)
 rintro _ w1 ⟨rfl, hb⟩
 replace H := H.call0 hb; clear hb
 refine R_o rfl (E_move (R_part (t := 9) rfl (fun h9 => ?_) (fun h9 => ?_)))
 ·
  refine R_w rfl rfl rfl (E_move ?_)
  refine R_w rfl rfl rfl (E_len rfl ?_)
  refine R_w rfl rfl rfl (E_move ?_)
  refine R_w rfl rfl rfl (E_eql rfl rfl ?_)
  refine R_o rfl (E_pick rfl ?_)
  refine R_o rfl (E_move (R_part (t := 15) rfl (fun h15 => ?_) (fun h15 => ?_)))
  ·
   refine R_w rfl rfl rfl (E_move ?_)
   refine R_w rfl rfl rfl (E_call rfl (within_ (Abides.below H.below hs)) ?_)
   rintro _ w1 ⟨rfl, hb⟩
   replace H := H.call0 hb; clear hb
   refine R_o rfl (E_pick rfl ?_)
   refine R_o rfl (E_assign (R_nil (C_ret ?_)))
   with_reducible repeat (first | refine thn_ret ?_ | refine inB_ret ?_ | refine noG_ret ?_)
   exact ret_one rfl rfl ⟨congrArg Value.bool (by
     first
       | (show decide _ = decide _; rw [decide_eq_decide]; simp only [List.mem_singleton, forall_eq] at h9; exact ⟨fun h => ⟨by omega, by omega, h15, h⟩, fun h => h.2.2.2⟩)
       | (symm; rw [show (_ : Bool) = false from rfl, decide_eq_false_iff_not]; intro h; simp only [List.mem_singleton, forall_eq] at h9; first | exact h15 h.2.2.1 | (have := h.1; have := h.2.1; omega))), H.below⟩
  ·
   refine R_p rfl rfl rfl ?_
   refine R_p rfl rfl rfl ?_
   refine R_o rfl (E_pick rfl ?_)
   refine R_o rfl (E_assign (R_nil (C_ret ?_)))
   with_reducible repeat (first | refine thn_ret ?_ | refine inB_ret ?_ | refine noG_ret ?_)
   exact ret_one rfl rfl ⟨congrArg Value.bool (by
     first
       | (show decide _ = decide _; rw [decide_eq_decide]; simp only [List.mem_singleton, forall_eq] at h9; exact ⟨fun h => ⟨by omega, by omega, h15, h⟩, fun h => h.2.2.2⟩)
       | (symm; rw [show (_ : Bool) = false from rfl, decide_eq_false_iff_not]; intro h; simp only [List.mem_singleton, forall_eq] at h9; first | exact h15 h.2.2.1 | (have := h.1; have := h.2.1; omega))), H.below⟩
 ·
  refine R_p rfl rfl rfl ?_
  refine R_p rfl rfl rfl ?_
  refine R_p rfl rfl rfl ?_
  refine R_p rfl rfl rfl ?_
  refine R_o rfl (E_pick rfl ?_)
  refine R_o rfl (E_move (R_p rfl rfl rfl ?_))
  refine R_p rfl rfl rfl ?_
  refine R_o rfl (E_pick rfl ?_)
  refine R_o rfl (E_assign (R_nil (C_ret ?_)))
  with_reducible repeat (first | refine thn_ret ?_ | refine inB_ret ?_ | refine noG_ret ?_)
  exact ret_one rfl rfl ⟨congrArg Value.bool (by
    first
      | (show decide _ = decide _; rw [decide_eq_decide]; simp only [List.mem_singleton, forall_eq] at h9; exact ⟨fun h => ⟨by omega, by omega, h15, h⟩, fun h => h.2.2.2⟩)
      | (symm; rw [show (_ : Bool) = false from rfl, decide_eq_false_iff_not]; intro h; simp only [List.mem_singleton, forall_eq] at h9; first | exact h15 h.2.2.1 | (have := h.1; have := h.2.1; omega))), H.below⟩
theorem ordered_ {w0 : World} {many : Nat} {s : Value} {xs : List Int} (hs : RdI w0 s xs) (hm : many ≤ 8) :
   Ret Tryz.prog 43 [s, .int .i64 many] w0 (fun v w => v = .bool (decide (okOrd xs many)) ∧ Below w0.heap.size w0 w) := by
 refine ret_of_C Tryz.func43 rfl rfl rfl ?_
 have H := Loc.refl w0
 obtain ⟨A, c, rfl, hc1, hc2⟩ := hs.len
 refine C_seq (C_region rfl (R_o rfl (E_assign (R_nil (C_seq (C_region rfl (R_o rfl (E_alloc H ?_))))))))
 clear H; intro w b5 H
 refine R_o rfl (E_alloc H ?_)
 clear H; intro w b6 H
 refine R_nil (C_seq (C_seq (C_region rfl (R_o rfl (E_move (R_o rfl (E_move (R_nil (C_block (C_loop (ds := []) [0, 1, 5, 6, 10, 11] (fun m_ vs w => ∃ k : Nat, vs = [.slice A xs.length c, .int .i64 many, .pointer (some ⟨b5, 0, none⟩), .pointer (some ⟨b6, 0, none⟩), .int .i64 many, .int .i64 k] ∧ m_ = many - k ∧ k ≤ many ∧ (True) ∧ Loc w0 w [cl b6 80 (tint 8 fun i => if i < k then 1 else 0), cl b5 80 (tint 8 fun _ => 0)]) (m := many) (by first | rfl | exact hd) ?_ ?_))))))))))
 · exact ⟨0, rfl, by omega, by omega, trivial, H⟩
 intro m vs ρ₀ w hd hI
 clear H
 obtain ⟨k, rfl, rfl, hk, hst, H⟩ := hI
 refine C_seq (C_region rfl (R_o rfl (E_lss rfl rfl ?_)))
 refine R_nil (C_seq (C_cond (t := 12) rfl (fun hlt => ?_) (fun hlt => ?_)))
 ·
  refine C_skip (C_seq (C_block (C_seq (C_region rfl (R_o rfl (E_move (R_o rfl (E_assign (R_nil (C_region rfl (R_o rfl (E_move (R_o rfl (E_idxa rfl rfl (by omega) (by omega) ?_))))))))))))))
  refine R_n rfl (E_storet (f := fun i => if i < k then 1 else 0) k H rfl rfl (by simp) (by omega) ?_)
  clear H; intro w H
  rw [show tint 8 (upd (fun i => if i < k then 1 else 0) k 1) = tint 8 (fun i => if i < k + 1 then 1 else 0) from tint_congr fun i hi => by (show (if i = k then (1 : Int) else if i < k then 1 else 0) = if i < k + 1 then 1 else 0; (repeat' split) <;> omega)] at H
  refine R_nil (C_region rfl (R_o rfl (E_add rfl rfl (by omega) ?_)))
  refine R_o rfl (E_move (R_nil (⟨hd, many - (k + 1), by omega, k + 1, rfl, rfl, by omega, trivial, H⟩)))
 ·
  have hkm : k = many := by omega
  rw [hkm] at H
  refine C_exit ?_
  refine C_seq (C_seq (C_region rfl (R_o rfl (E_move (R_o rfl (E_len rfl ?_))))))
  refine R_o rfl (E_move (R_nil (C_block (C_loop (ds := []) [1, 5, 6, 17, 18, 19] (fun m_ vs w => ∃ k : Nat, vs = [.int .i64 many, .pointer (some ⟨b5, 0, none⟩), .pointer (some ⟨b6, 0, none⟩), .slice A xs.length c, .int .i64 xs.length, .int .i64 k] ∧ m_ = xs.length - k ∧ k ≤ xs.length ∧ (∀ y ∈ xs.take k, 0 ≤ y ∧ y < (many : Int)) ∧ Loc w0 w [cl b6 80 (tint 8 fun i => if i < many then 1 else 0), cl b5 80 (tint 8 fun i => (((xs.take k).count (i : Int) : Nat) : Int))]) (m := xs.length) (by first | rfl | exact hd) ?_ ?_))))
  · exact ⟨0, rfl, by omega, by omega, fun y hy => by simp at hy, H⟩
  intro m vs ρ₀ w hd hI
  clear H
  obtain ⟨k, rfl, rfl, hk, hst, H⟩ := hI
  refine C_seq (C_region rfl (R_o rfl (E_lss rfl rfl ?_)))
  refine R_nil (C_seq (C_cond (t := 20) rfl (fun hlt2 => ?_) (fun hlt2 => ?_)))
  ·
   obtain ⟨x, hx⟩ := get_of (xs := xs) (k := k) (by omega)
   refine C_skip (C_seq (C_block (C_seq (C_region rfl (R_o rfl (E_idxr hs rfl rfl (by omega) (by omega) ?_))))))
   refine R_o rfl (E_loadi hs H rfl hx ?_)
   refine R_o rfl (E_assign (R_nil (C_seq (C_seq (C_region rfl (R_o rfl (E_move (R_o rfl (E_lss rfl rfl ?_)))))))))
   refine R_o rfl (E_move (R_part (t := 25) rfl (fun hneg => ?_) (fun hneg => ?_)))
   ·
    refine R_p rfl rfl rfl ?_
    refine R_p rfl rfl rfl ?_
    refine R_p rfl rfl rfl ?_
    refine R_o rfl (E_pick rfl ?_)
    refine R_nil (C_true (t := 29) rfl ?_)
    refine C_seq (C_region rfl (R_o rfl (E_assign (R_nil (C_ret ?_)))))
    with_reducible repeat (first | refine thn_ret ?_ | refine inB_ret ?_ | refine noG_ret ?_)
    first
      | exact ret_one rfl hd ⟨congrArg Value.bool (decide_eq_false (fun h => by have := h.1 x (mem_of_get hx); omega)).symm, H.below⟩
      | exact ret_one rfl hd ⟨congrArg Value.bool (decide_eq_decide.2 (by rw [tab_inj]; exact ⟨fun h => ⟨hst, fun i hi => by have := h i (by omega); rw [if_pos hi] at this; omega⟩, fun h i hi => by split; (rename_i hi2; rw [h.2 i hi2]; rfl); (rw [List.count_eq_zero.2 (fun hm => by have := h.1 _ hm; omega)]; rfl)⟩)), H.below⟩
   ·
    refine R_w rfl rfl rfl (E_move ?_)
    refine R_w rfl rfl rfl (E_move ?_)
    refine R_w rfl rfl rfl (E_geq rfl rfl ?_)
    refine R_o rfl (E_pick rfl ?_)
    refine R_nil (C_cond (t := 29) rfl (fun hge => ?_) (fun hge => ?_))
    ·
     refine C_seq (C_region rfl (R_o rfl (E_assign (R_nil (C_ret ?_)))))
     with_reducible repeat (first | refine thn_ret ?_ | refine inB_ret ?_ | refine noG_ret ?_)
     first
       | exact ret_one rfl hd ⟨congrArg Value.bool (decide_eq_false (fun h => by have := h.1 x (mem_of_get hx); omega)).symm, H.below⟩
       | exact ret_one rfl hd ⟨congrArg Value.bool (decide_eq_decide.2 (by rw [tab_inj]; exact ⟨fun h => ⟨hst, fun i hi => by have := h i (by omega); rw [if_pos hi] at this; omega⟩, fun h i hi => by split; (rename_i hi2; rw [h.2 i hi2]; rfl); (rw [List.count_eq_zero.2 (fun hm => by have := h.1 _ hm; omega)]; rfl)⟩)), H.below⟩
    ·
     refine C_skip (C_region rfl (R_o rfl (E_move (R_o rfl (E_idxa rfl rfl (by omega) (by omega) ?_)))))
     refine R_o rfl (E_loadt x.toNat H rfl (by simp) (by omega) ?_)
     refine R_o rfl (E_add rfl rfl (by have := List.count_le_length (a := ((x.toNat : Nat) : Int)) (l := xs.take k); rw [List.length_take] at this; omega) ?_)
     refine R_o rfl (E_idxa rfl rfl (by omega) (by omega) ?_)
     refine R_n rfl (E_storet x.toNat H rfl rfl (by simp) (by omega) ?_)
     clear H; intro w H
     refine R_nil (C_region rfl (R_o rfl (E_add rfl rfl (by omega) ?_)))
     refine R_o rfl (E_move (R_nil ?_))
     rw [show tint 8 (upd (fun i => (((xs.take k).count (i : Int) : Nat) : Int)) x.toNat ((((xs.take k).count ((x.toNat : Nat) : Int) : Nat) : Int) + 1)) = tint 8 (fun i => (((xs.take (k + 1)).count (i : Int) : Nat) : Int)) from tint_congr fun i hi => by
       simp only [upd]
       rw [take_step hx, List.count_append, List.count_singleton]
       split
       · next e => subst e; rw [show ((x.toNat : Nat) : Int) = x by omega]; simp
       · next e => rw [if_neg (by simp; omega)]; simp] at H
     refine ⟨hd, xs.length - (k + 1), by omega, k + 1, rfl, rfl, by omega, fun y hy => by rw [take_step hx] at hy; rcases List.mem_append.1 hy with hy | hy; exact hst y hy; (simp at hy; subst hy; exact ⟨by omega, by omega⟩), H.o2⟩
  ·
   have hk : k = xs.length := by omega
   subst hk
   rw [List.take_length] at H hst
   refine C_exit ?_
   refine C_seq (C_region rfl (R_o rfl (E_loadw H rfl (by rfl) ?_)))
   refine R_o rfl (E_loadw H rfl (by rfl) ?_)
   refine R_o rfl (E_eqarr (xs := tab 8 fun i => ((xs.count (i : Int) : Nat) : Int)) (ys := tab 8 fun i => if i < many then 1 else 0) rfl rfl (by simp) (by simp) (by kernel_rfl) ?_)
   refine R_o rfl (E_assign (R_nil (C_ret ?_)))
   with_reducible repeat (first | refine thn_ret ?_ | refine inB_ret ?_ | refine noG_ret ?_)
   first
     | exact ret_one rfl hd ⟨congrArg Value.bool (decide_eq_false (fun h => by have := h.1 x (mem_of_get hx); omega)).symm, H.below⟩
     | exact ret_one rfl hd ⟨congrArg Value.bool (decide_eq_decide.2 (by rw [tab_inj]; exact ⟨fun h => ⟨hst, fun i hi => by have := h i (by omega); rw [if_pos hi] at this; omega⟩, fun h i hi => by split; (rename_i hi2; rw [h.2 i hi2]; rfl); (rw [List.count_eq_zero.2 (fun hm => by have := h.1 _ hm; omega)]; rfl)⟩)), H.below⟩
theorem Check1_ {w0 : World} {u : Value} {x : List Int} {a : Addr} {n : Nat} (hc : w0.cell? a = some (.int .i64 n)) (hn : n ≤ 9223372036854775807) (hu : RdI w0 u x) :
   Ret Tryz.prog 45 [u, .pointer (some a)] w0 (fun v w => v = .bool (decide (0 < x.length ∧ ¬ okVec x n)) ∧ Below w0.heap.size w0 w) := by
 refine ret_of_C Tryz.func45 rfl rfl rfl ?_
 have H := Loc.refl w0
 obtain ⟨A, c, rfl, hc1, hc2⟩ := hu.len
 refine C_seq (C_region rfl (R_o rfl (E_assign (R_nil (C_seq (C_region rfl (R_o rfl (E_move (R_o rfl (E_len rfl ?_))))))))))
 refine R_o rfl (E_gtr rfl rfl ?_)
 refine R_o rfl (E_move (R_part (t := 7) rfl (fun h7 => ?_) (fun h7 => ?_)))
 ·
  refine R_w rfl rfl rfl (E_move ?_)
  refine R_w rfl rfl rfl (E_load_cell rfl (Below.cell_some H.below hc) ?_)
  refine R_w rfl rfl rfl (E_call rfl (VCheck_ (Abides.below H.below hu) ⟨by omega, by omega⟩) ?_)
  rintro _ w1 ⟨rfl, hb⟩
  replace H := H.call0 hb; clear hb
  refine R_w rfl rfl rfl (E_not rfl ?_)
  refine R_o rfl (E_pick rfl ?_)
  refine R_o rfl (E_assign (R_nil (C_ret ?_)))
  with_reducible repeat (first | refine thn_ret ?_ | refine inB_ret ?_ | refine noG_ret ?_)
  exact ret_one rfl rfl ⟨congrArg Value.bool (by
    first
      | (show decide _ = decide _; rw [decide_eq_decide]; exact ⟨fun h => ⟨by omega, h⟩, fun h => h.2⟩)
      | (symm; rw [show (_ : Bool) = false from rfl, decide_eq_false_iff_not]; intro h; omega)), H.below⟩
 ·
  refine R_p rfl rfl rfl ?_
  refine R_p rfl rfl rfl ?_
  refine R_p rfl rfl rfl ?_
  refine R_p rfl rfl rfl ?_
  refine R_o rfl (E_pick rfl ?_)
  refine R_o rfl (E_assign (R_nil (C_ret ?_)))
  with_reducible repeat (first | refine thn_ret ?_ | refine inB_ret ?_ | refine noG_ret ?_)
  exact ret_one rfl rfl ⟨congrArg Value.bool (by
    first
      | (show decide _ = decide _; rw [decide_eq_decide]; exact ⟨fun h => ⟨by omega, h⟩, fun h => h.2⟩)
      | (symm; rw [show (_ : Bool) = false from rfl, decide_eq_false_iff_not]; intro h; omega)), H.below⟩
theorem Check_ {w0 : World} {v : Value} {m : Mk} (hm : RdM w0 v m) :
   Ret Tryz.prog 19 [v] w0 (fun v w => v = .bool (decide (okMk m)) ∧ Below w0.heap.size w0 w) := by
 refine ret_of_C Tryz.func19 rfl rfl rfl ?_
 have H := Loc.refl w0
 obtain ⟨a, b, c, rfl, ra, rb, rc⟩ := hm
 obtain ⟨A1, c1, rfl, hA1, hA2⟩ := ra.len
 obtain ⟨A2, c2, rfl, hB1, hB2⟩ := rb.len
 obtain ⟨A3, c3, rfl, hC1, hC2⟩ := rc.len
 refine C_seq (C_region rfl (R_o rfl (E_box rfl H ?_)))
 clear H; intro w b1 H
 refine R_o rfl (E_assign (R_nil (C_seq (C_drawL [] H (by kernel_rfl) (fun w H => ?_)))))
 refine D_takeT 0 rfl rfl rfl (by kernel_rfl) (fun w K Z kk => E_fieldAddr rfl kk) ?_
 refine D_take 1 rfl rfl rfl (by kernel_rfl) (by first | exact H | exact H.drop | exact H.drop.drop | exact H.drop.drop.drop | exact H.drop.drop.drop.drop) (fun w HS K Z kk => E_load HS rfl rfl kk) ?_
 refine D_takeT 2 rfl rfl rfl (by kernel_rfl) (fun w K Z kk => E_len rfl kk) ?_
 refine D_takeT 3 rfl rfl rfl (by kernel_rfl) (fun w K Z kk => E_fieldAddr rfl kk) ?_
 refine D_take 4 rfl rfl rfl (by kernel_rfl) (by first | exact H | exact H.drop | exact H.drop.drop | exact H.drop.drop.drop | exact H.drop.drop.drop.drop) (fun w HS K Z kk => E_load HS rfl rfl kk) ?_
 refine D_takeT 5 rfl rfl rfl (by kernel_rfl) (fun w K Z kk => E_len rfl kk) ?_
 refine D_act 6 rfl rfl (by kernel_rfl) (E_alloc H ?_)
 clear H; intro w b3 H
 refine ⟨fun _ _ => (by first | exact H | exact H.drop | exact H.drop.drop | exact H.drop.drop.drop | exact H.drop.drop.drop.drop), ?_⟩
 refine D_actn 7 rfl (by kernel_rfl) (E_store H rfl rfl rfl (by decide) ?_)
 clear H; intro w H
 refine ⟨fun _ _ => (by first | exact H | exact H.drop | exact H.drop.drop | exact H.drop.drop.drop | exact H.drop.drop.drop.drop), ?_⟩
 refine D_takeT 8 rfl rfl rfl (by kernel_rfl) (fun w K Z kk => E_assign kk) ?_
 refine D_done (by kernel_rfl) ?_
 refine C_seq (C_region rfl (R_o rfl (E_fieldAddr rfl ?_)))
 refine R_o rfl (E_load H rfl rfl ?_)
 refine R_o rfl (E_load H rfl rfl ?_)
 refine R_o rfl (E_call rfl (VCheck_ (Abides.below H.below ra) ⟨by omega, by omega⟩) ?_)
 rintro _ w1 ⟨rfl, hb⟩
 replace H := H.call0 hb; clear hb
 refine R_o rfl (E_move (R_part (t := 15) rfl (fun h1 => ?_) (fun h1 => ?_)))
 ·
  refine R_w rfl rfl rfl (E_move ?_)
  refine R_w rfl rfl rfl (E_geq rfl rfl ?_)
  refine R_o rfl (E_pick rfl ?_)
  refine R_o rfl (E_move (R_part (t := 19) rfl (fun h2 => ?_) (fun h2 => ?_)))
  ·
   refine R_w rfl rfl rfl (E_move ?_)
   refine R_w rfl rfl rfl (E_leq rfl rfl ?_)
   refine R_o rfl (E_pick rfl ?_)
   refine R_o rfl (E_move (R_part (t := 23) rfl (fun h3 => ?_) (fun h3 => ?_)))
   ·
    refine R_w rfl rfl rfl (E_fieldAddr rfl ?_)
    refine R_w rfl rfl rfl (E_load H rfl rfl ?_)
    refine R_w rfl rfl rfl (E_move ?_)
    refine R_w rfl rfl rfl (E_call rfl (ordered_ (Abides.below H.below rc) (by omega)) ?_)
    rintro _ w1 ⟨rfl, hb⟩
    replace H := H.call0 hb; clear hb
    refine R_o rfl (E_pick rfl ?_)
    refine R_o rfl (E_move (R_part (t := 29) rfl (fun h4 => ?_) (fun h4 => ?_)))
    ·
     refine R_w rfl rfl rfl (E_fieldAddr rfl ?_)
     refine R_w rfl rfl rfl (E_load H rfl rfl ?_)
     refine R_w rfl rfl rfl (E_makeFunc rfl rfl ?_)
     refine R_w rfl rfl rfl (E_call rfl (ContainsFunc_rows (p := fun x : List Int => decide (0 < x.length ∧ ¬ okVec x m.res.length)) (Abides.below H.below rb) ⟨45, #[], #[.pointer (some ⟨b3, 0, none⟩)], rfl, by kernel_rfl, fun w' x u hb _ hu => (Check1_ (n := m.res.length) (Below.cell_some hb ((H.cell (b := b3) (o := 0)).trans rfl)) (by omega) (Abides.below hb hu))⟩) ?_)
     rintro _ w1 ⟨rfl, hb⟩
     replace H := H.call0 hb; clear hb
     refine R_w rfl rfl rfl (E_notb rfl ?_)
     refine R_o rfl (E_pick rfl ?_)
     refine R_o rfl (E_assign (R_nil (C_ret ?_)))
     with_reducible repeat (first | refine thn_ret ?_ | refine inB_ret ?_ | refine noG_ret ?_)
     exact ret_one rfl rfl ⟨congrArg Value.bool (by
       first
         | (show (!(m.bids.any fun x => decide (0 < x.length ∧ ¬ okVec x m.res.length))) = decide _
            rw [List.not_any_eq_all_not]
            rw [Bool.eq_iff_iff, List.all_eq_true, decide_eq_true_iff]
            refine ⟨fun h => ⟨h1, ⟨by omega, by omega⟩, h4, fun b hb => by have := h b hb; rw [Bool.not_eq_true'] at this; exact of_decide_eq_false this⟩, fun h b hb => by rw [Bool.not_eq_true']; exact decide_eq_false (h.2.2.2 b hb)⟩)
         | (symm; rw [show (_ : Bool) = false from rfl, decide_eq_false_iff_not]; intro h; first | exact h1 h.1 | exact h4 h.2.2.1 | (have := h.2.1; omega))), H.below⟩
    ·
     refine R_p rfl rfl rfl ?_
     refine R_p rfl rfl rfl ?_
     refine R_p rfl rfl rfl ?_
     refine R_p rfl rfl rfl ?_
     refine R_p rfl rfl rfl ?_
     refine R_o rfl (E_pick rfl ?_)
     refine R_o rfl (E_assign (R_nil (C_ret ?_)))
     with_reducible repeat (first | refine thn_ret ?_ | refine inB_ret ?_ | refine noG_ret ?_)
     exact ret_one rfl rfl ⟨congrArg Value.bool (by
       first
         | (show (!(m.bids.any fun x => decide (0 < x.length ∧ ¬ okVec x m.res.length))) = decide _
            rw [List.not_any_eq_all_not]
            rw [Bool.eq_iff_iff, List.all_eq_true, decide_eq_true_iff]
            refine ⟨fun h => ⟨h1, ⟨by omega, by omega⟩, h4, fun b hb => by have := h b hb; rw [Bool.not_eq_true'] at this; exact of_decide_eq_false this⟩, fun h b hb => by rw [Bool.not_eq_true']; exact decide_eq_false (h.2.2.2 b hb)⟩)
         | (symm; rw [show (_ : Bool) = false from rfl, decide_eq_false_iff_not]; intro h; first | exact h1 h.1 | exact h4 h.2.2.1 | (have := h.2.1; omega))), H.below⟩
   ·
    refine R_p rfl rfl rfl ?_
    refine R_p rfl rfl rfl ?_
    refine R_p rfl rfl rfl ?_
    refine R_p rfl rfl rfl ?_
    refine R_o rfl (E_pick rfl ?_)
    refine R_o rfl (E_move (R_p rfl rfl rfl ?_))
    refine R_p rfl rfl rfl ?_
    refine R_p rfl rfl rfl ?_
    refine R_p rfl rfl rfl ?_
    refine R_p rfl rfl rfl ?_
    refine R_o rfl (E_pick rfl ?_)
    refine R_o rfl (E_assign (R_nil (C_ret ?_)))
    with_reducible repeat (first | refine thn_ret ?_ | refine inB_ret ?_ | refine noG_ret ?_)
    exact ret_one rfl rfl ⟨congrArg Value.bool (by
      first
        | (show (!(m.bids.any fun x => decide (0 < x.length ∧ ¬ okVec x m.res.length))) = decide _
           rw [List.not_any_eq_all_not]
           rw [Bool.eq_iff_iff, List.all_eq_true, decide_eq_true_iff]
           refine ⟨fun h => ⟨h1, ⟨by omega, by omega⟩, h4, fun b hb => by have := h b hb; rw [Bool.not_eq_true'] at this; exact of_decide_eq_false this⟩, fun h b hb => by rw [Bool.not_eq_true']; exact decide_eq_false (h.2.2.2 b hb)⟩)
        | (symm; rw [show (_ : Bool) = false from rfl, decide_eq_false_iff_not]; intro h; first | exact h1 h.1 | exact h4 h.2.2.1 | (have := h.2.1; omega))), H.below⟩
  ·
   refine R_p rfl rfl rfl ?_
   refine R_p rfl rfl rfl ?_
   refine R_o rfl (E_pick rfl ?_)
   refine R_o rfl (E_move (R_p rfl rfl rfl ?_))
   refine R_p rfl rfl rfl ?_
   refine R_p rfl rfl rfl ?_
   refine R_p rfl rfl rfl ?_
   refine R_o rfl (E_pick rfl ?_)
   refine R_o rfl (E_move (R_p rfl rfl rfl ?_))
   refine R_p rfl rfl rfl ?_
   refine R_p rfl rfl rfl ?_
   refine R_p rfl rfl rfl ?_
   refine R_p rfl rfl rfl ?_
   refine R_o rfl (E_pick rfl ?_)
   refine R_o rfl (E_assign (R_nil (C_ret ?_)))
   with_reducible repeat (first | refine thn_ret ?_ | refine inB_ret ?_ | refine noG_ret ?_)
   exact ret_one rfl rfl ⟨congrArg Value.bool (by
     first
       | (show (!(m.bids.any fun x => decide (0 < x.length ∧ ¬ okVec x m.res.length))) = decide _
          rw [List.not_any_eq_all_not]
          rw [Bool.eq_iff_iff, List.all_eq_true, decide_eq_true_iff]
          refine ⟨fun h => ⟨h1, ⟨by omega, by omega⟩, h4, fun b hb => by have := h b hb; rw [Bool.not_eq_true'] at this; exact of_decide_eq_false this⟩, fun h b hb => by rw [Bool.not_eq_true']; exact decide_eq_false (h.2.2.2 b hb)⟩)
       | (symm; rw [show (_ : Bool) = false from rfl, decide_eq_false_iff_not]; intro h; first | exact h1 h.1 | exact h4 h.2.2.1 | (have := h.2.1; omega))), H.below⟩
 ·
  refine R_p rfl rfl rfl ?_
  refine R_p rfl rfl rfl ?_
  refine R_o rfl (E_pick rfl ?_)
  refine R_o rfl (E_move (R_p rfl rfl rfl ?_))
  refine R_p rfl rfl rfl ?_
  refine R_o rfl (E_pick rfl ?_)
  refine R_o rfl (E_move (R_p rfl rfl rfl ?_))
  refine R_p rfl rfl rfl ?_
  refine R_p rfl rfl rfl ?_
  refine R_p rfl rfl rfl ?_
  refine R_o rfl (E_pick rfl ?_)
  refine R_o rfl (E_move (R_p rfl rfl rfl ?_))
  refine R_p rfl rfl rfl ?_
  refine R_p rfl rfl rfl ?_
  refine R_p rfl rfl rfl ?_
  refine R_p rfl rfl rfl ?_
  refine R_o rfl (E_pick rfl ?_)
  refine R_o rfl (E_assign (R_nil (C_ret ?_)))
  with_reducible repeat (first | refine thn_ret ?_ | refine inB_ret ?_ | refine noG_ret ?_)
  exact ret_one rfl rfl ⟨congrArg Value.bool (by
    first
      | (show (!(m.bids.any fun x => decide (0 < x.length ∧ ¬ okVec x m.res.length))) = decide _
         rw [List.not_any_eq_all_not]
         rw [Bool.eq_iff_iff, List.all_eq_true, decide_eq_true_iff]
         refine ⟨fun h => ⟨h1, ⟨by omega, by omega⟩, h4, fun b hb => by have := h b hb; rw [Bool.not_eq_true'] at this; exact of_decide_eq_false this⟩, fun h b hb => by rw [Bool.not_eq_true']; exact decide_eq_false (h.2.2.2 b hb)⟩)
      | (symm; rw [show (_ : Bool) = false from rfl, decide_eq_false_iff_not]; intro h; first | exact h1 h.1 | exact h4 h.2.2.1 | (have := h.2.1; omega))), H.below⟩
end Go.Sl
