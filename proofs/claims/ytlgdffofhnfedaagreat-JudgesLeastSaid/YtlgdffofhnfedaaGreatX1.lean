/- slices, most. -/
import Derived.Test.YtlgdffofhnfedaaGreatT
import Derived.Test.YtlgdffofhnfedaaGreatW
set_option linter.unusedVariables false
set_option linter.unusedSimpArgs false
set_option maxRecDepth 10000
namespace Go.Sl
open Go.RowKit
open Go.Proofs
theorem IndexFunc_rows {α : Type} {r : World → Value → α → Prop} [Abides r] {w0 : World} {s fv : Value} {xs : List α} {p : α → Bool} (hs : RdS r w0 s xs) (hf : PredAt Tryz.prog fv w0 r p xs) :
   Ret Tryz.prog 64 [s, fv] w0 (fun v w => v = .int .i64 (idxOf p xs) ∧ Below w0.heap.size w0 w) := by
 refine ret_of_C Tryz.func64 rfl rfl rfl ?_
 have H := Loc.refl w0
 obtain ⟨A, c, rfl, hc1, hc2⟩ := hs.len
 obtain ⟨g, first, captured, rfl, hgb, hg⟩ := hf
 haveI : Hb Tryz.prog g := ⟨hgb⟩
 refine C_seq (C_region rfl (R_o rfl (E_assign (R_nil (C_seq (C_seq (C_region rfl (R_o rfl (E_move (R_o rfl (E_len rfl ?_)))))))))))
 refine R_o rfl (E_move (R_nil (C_block (C_loop (ds := []) [0, 1, 7, 8] (fun m_ vs w => ∃ k : Nat, vs = [.slice A xs.length c, .func (.func g) first captured, .int .i64 xs.length, .int .i64 k] ∧ m_ = xs.length - k ∧ k ≤ xs.length ∧ (∀ j y, j < k → xs[j]? = some y → p y = false) ∧ Loc w0 w []) (m := xs.length) (by first | rfl | exact hd) ?_ ?_))))
 · exact ⟨0, rfl, by omega, by omega, fun j y hj => by omega, H⟩
 intro m vs ρ₀ w hd hI
 clear H
 obtain ⟨k, rfl, rfl, hk, hst, H⟩ := hI
 refine C_seq (C_region rfl (R_o rfl (E_lss rfl rfl ?_)))
 refine R_nil (C_seq (C_cond (t := 9) rfl (fun hlt => ?_) (fun hlt => ?_)))
 ·
  obtain ⟨x, hx⟩ := get_of (xs := xs) (k := k) (by omega)
  refine C_skip (C_seq (C_block (C_seq (C_region rfl (R_o rfl (E_move (R_o rfl (E_assign (R_nil (C_seq (C_region rfl (R_o rfl (E_move (R_o rfl (E_move (R_o rfl (E_move (R_o rfl (E_idxr hs rfl rfl (by omega) (by omega) ?_)))))))))))))))))))
  refine R_o rfl (E_loadr hs H rfl hx ?_)
  intro u hu
  refine R_o rfl (E_callv rfl rfl (hg w _ u H.below (List.mem_of_getElem? hx) hu) ?_)
  rintro _ w1 ⟨rfl, hb⟩
  replace H := H.call0 hb; clear hb
  refine R_nil (C_condb (t := 16) rfl (fun hpx => ?_) (fun hpx => ?_))
  ·
   refine C_seq (C_region rfl (R_o rfl (E_move (R_o rfl (E_assign (R_nil (C_ret ?_)))))))
   with_reducible repeat (first | refine thn_ret ?_ | refine inB_ret ?_ | refine noG_ret ?_)
   first
     | exact ret_one rfl hd ⟨congrArg (Value.int .i64) (idxOf_at p xs k x hx hpx hst).symm, H.below⟩
     | exact ret_one rfl hd ⟨congrArg (Value.int .i64) (idxOf_none p xs (fun j y hy => hst j y (by have := lt_of_get hy; omega) hy)).symm, H.below⟩
  ·
   refine C_skip (C_region rfl (R_o rfl (E_add rfl rfl (by omega) ?_)))
   refine R_o rfl (E_move (R_nil (⟨hd, xs.length - (k + 1), by omega, k + 1, rfl, rfl, by omega, fun j y hj hy => ?_, H⟩)))
   by_cases e : j = k
   · subst e; rw [hx] at hy; cases hy; exact hpx
   · exact hst j y (by omega) hy
 ·
  have hk : k = xs.length := by omega
  refine C_exit ?_
  refine C_seq (C_region rfl (R_o rfl (E_assign (R_nil (C_ret ?_)))))
  with_reducible repeat (first | refine thn_ret ?_ | refine inB_ret ?_ | refine noG_ret ?_)
  first
    | exact ret_one rfl hd ⟨congrArg (Value.int .i64) (idxOf_at p xs k x hx hpx hst).symm, H.below⟩
    | exact ret_one rfl hd ⟨congrArg (Value.int .i64) (idxOf_none p xs (fun j y hy => hst j y (by have := lt_of_get hy; omega) hy)).symm, H.below⟩
theorem ContainsFunc_rows {α : Type} {r : World → Value → α → Prop} [Abides r] {w0 : World} {s fv : Value} {xs : List α} {p : α → Bool} (hs : RdS r w0 s xs) (hf : PredAt Tryz.prog fv w0 r p xs) :
   Ret Tryz.prog 44 [s, fv] w0 (fun v w => v = .bool (xs.any p) ∧ Below w0.heap.size w0 w) := by
 refine ret_of_C Tryz.func44 rfl rfl rfl ?_
 have H := Loc.refl w0
 refine C_seq (C_region rfl (R_o rfl (E_assign (R_nil (C_seq (C_region rfl (R_o rfl (E_move (R_o rfl (E_move (R_o rfl (E_call rfl (IndexFunc_rows hs hf) ?_))))))))))))
 rintro _ w1 ⟨rfl, hb⟩
 replace H := H.call0 hb; clear hb
 refine R_o rfl (E_geq rfl rfl ?_)
 refine R_o rfl (E_assign (R_nil (C_ret ?_)))
 with_reducible repeat (first | refine thn_ret ?_ | refine inB_ret ?_ | refine noG_ret ?_)
 exact ret_one rfl rfl ⟨congrArg Value.bool (idxOf_any p xs), H.below⟩
theorem IndexFunc_ints {α : Type} {r : World → Value → α → Prop} [Abides r] {w0 : World} {s fv : Value} {xs : List α} {p : α → Bool} (hs : RdS r w0 s xs) (hf : PredAt Tryz.prog fv w0 r p xs) :
   Ret Tryz.prog 107 [s, fv] w0 (fun v w => v = .int .i64 (idxOf p xs) ∧ Below w0.heap.size w0 w) := by
 refine ret_of_C Tryz.func107 rfl rfl rfl ?_
 have H := Loc.refl w0
 obtain ⟨A, c, rfl, hc1, hc2⟩ := hs.len
 obtain ⟨g, first, captured, rfl, hgb, hg⟩ := hf
 haveI : Hb Tryz.prog g := ⟨hgb⟩
 refine C_seq (C_region rfl (R_o rfl (E_assign (R_nil (C_seq (C_seq (C_region rfl (R_o rfl (E_move (R_o rfl (E_len rfl ?_)))))))))))
 refine R_o rfl (E_move (R_nil (C_block (C_loop (ds := []) [0, 1, 7, 8] (fun m_ vs w => ∃ k : Nat, vs = [.slice A xs.length c, .func (.func g) first captured, .int .i64 xs.length, .int .i64 k] ∧ m_ = xs.length - k ∧ k ≤ xs.length ∧ (∀ j y, j < k → xs[j]? = some y → p y = false) ∧ Loc w0 w []) (m := xs.length) (by first | rfl | exact hd) ?_ ?_))))
 · exact ⟨0, rfl, by omega, by omega, fun j y hj => by omega, H⟩
 intro m vs ρ₀ w hd hI
 clear H
 obtain ⟨k, rfl, rfl, hk, hst, H⟩ := hI
 refine C_seq (C_region rfl (R_o rfl (E_lss rfl rfl ?_)))
 refine R_nil (C_seq (C_cond (t := 9) rfl (fun hlt => ?_) (fun hlt => ?_)))
 ·
  obtain ⟨x, hx⟩ := get_of (xs := xs) (k := k) (by omega)
  refine C_skip (C_seq (C_block (C_seq (C_region rfl (R_o rfl (E_move (R_o rfl (E_assign (R_nil (C_seq (C_region rfl (R_o rfl (E_move (R_o rfl (E_move (R_o rfl (E_move (R_o rfl (E_idxr hs rfl rfl (by omega) (by omega) ?_)))))))))))))))))))
  refine R_o rfl (E_loadr hs H rfl hx ?_)
  intro u hu
  refine R_o rfl (E_callv rfl rfl (hg w _ u H.below (List.mem_of_getElem? hx) hu) ?_)
  rintro _ w1 ⟨rfl, hb⟩
  replace H := H.call0 hb; clear hb
  refine R_nil (C_condb (t := 16) rfl (fun hpx => ?_) (fun hpx => ?_))
  ·
   refine C_seq (C_region rfl (R_o rfl (E_move (R_o rfl (E_assign (R_nil (C_ret ?_)))))))
   with_reducible repeat (first | refine thn_ret ?_ | refine inB_ret ?_ | refine noG_ret ?_)
   first
     | exact ret_one rfl hd ⟨congrArg (Value.int .i64) (idxOf_at p xs k x hx hpx hst).symm, H.below⟩
     | exact ret_one rfl hd ⟨congrArg (Value.int .i64) (idxOf_none p xs (fun j y hy => hst j y (by have := lt_of_get hy; omega) hy)).symm, H.below⟩
  ·
   refine C_skip (C_region rfl (R_o rfl (E_add rfl rfl (by omega) ?_)))
   refine R_o rfl (E_move (R_nil (⟨hd, xs.length - (k + 1), by omega, k + 1, rfl, rfl, by omega, fun j y hj hy => ?_, H⟩)))
   by_cases e : j = k
   · subst e; rw [hx] at hy; cases hy; exact hpx
   · exact hst j y (by omega) hy
 ·
  have hk : k = xs.length := by omega
  refine C_exit ?_
  refine C_seq (C_region rfl (R_o rfl (E_assign (R_nil (C_ret ?_)))))
  with_reducible repeat (first | refine thn_ret ?_ | refine inB_ret ?_ | refine noG_ret ?_)
  first
    | exact ret_one rfl hd ⟨congrArg (Value.int .i64) (idxOf_at p xs k x hx hpx hst).symm, H.below⟩
    | exact ret_one rfl hd ⟨congrArg (Value.int .i64) (idxOf_none p xs (fun j y hy => hst j y (by have := lt_of_get hy; omega) hy)).symm, H.below⟩
theorem ContainsFunc_ints {α : Type} {r : World → Value → α → Prop} [Abides r] {w0 : World} {s fv : Value} {xs : List α} {p : α → Bool} (hs : RdS r w0 s xs) (hf : PredAt Tryz.prog fv w0 r p xs) :
   Ret Tryz.prog 92 [s, fv] w0 (fun v w => v = .bool (xs.any p) ∧ Below w0.heap.size w0 w) := by
 refine ret_of_C Tryz.func92 rfl rfl rfl ?_
 have H := Loc.refl w0
 refine C_seq (C_region rfl (R_o rfl (E_assign (R_nil (C_seq (C_region rfl (R_o rfl (E_move (R_o rfl (E_move (R_o rfl (E_call rfl (IndexFunc_ints hs hf) ?_))))))))))))
 rintro _ w1 ⟨rfl, hb⟩
 replace H := H.call0 hb; clear hb
 refine R_o rfl (E_geq rfl rfl ?_)
 refine R_o rfl (E_assign (R_nil (C_ret ?_)))
 with_reducible repeat (first | refine thn_ret ?_ | refine inB_ret ?_ | refine noG_ret ?_)
 exact ret_one rfl rfl ⟨congrArg Value.bool (idxOf_any p xs), H.below⟩
theorem Index_ints {w0 : World} {s : Value} {xs : List Int} {x0 : Int} (hs : RdI w0 s xs) :
   Ret Tryz.prog 158 [s, .int .i64 x0] w0 (fun v w => v = .int .i64 (idxOf (fun y => decide (x0 = y)) xs) ∧ Below w0.heap.size w0 w) := by
 refine ret_of_C Tryz.func158 rfl rfl rfl ?_
 have H := Loc.refl w0
 obtain ⟨A, c, rfl, hc1, hc2⟩ := hs.len
 refine C_seq (C_region rfl (R_o rfl (E_assign (R_nil (C_seq (C_seq (C_region rfl (R_o rfl (E_move (R_o rfl (E_len rfl ?_)))))))))))
 refine R_o rfl (E_move (R_nil (C_block (C_loop (ds := []) [0, 1, 7, 8] (fun m_ vs w => ∃ k : Nat, vs = [.slice A xs.length c, .int .i64 x0, .int .i64 xs.length, .int .i64 k] ∧ m_ = xs.length - k ∧ k ≤ xs.length ∧ (∀ j y, j < k → xs[j]? = some y → (decide (x0 = y)) = false) ∧ Loc w0 w []) (m := xs.length) (by first | rfl | exact hd) ?_ ?_))))
 · exact ⟨0, rfl, by omega, by omega, fun j y hj => by omega, H⟩
 intro m vs ρ₀ w hd hI
 clear H
 obtain ⟨k, rfl, rfl, hk, hst, H⟩ := hI
 refine C_seq (C_region rfl (R_o rfl (E_lss rfl rfl ?_)))
 refine R_nil (C_seq (C_cond (t := 9) rfl (fun hlt => ?_) (fun hlt => ?_)))
 ·
  obtain ⟨x, hx⟩ := get_of (xs := xs) (k := k) (by omega)
  refine C_skip (C_seq (C_block (C_seq (C_region rfl (R_o rfl (E_move (R_o rfl (E_assign (R_nil (C_seq (C_region rfl (R_o rfl (E_move (R_o rfl (E_move (R_o rfl (E_move (R_o rfl (E_idxr hs rfl rfl (by omega) (by omega) ?_)))))))))))))))))))
  refine R_o rfl (E_loadi hs H rfl hx ?_)
  refine R_o rfl (E_eql rfl rfl ?_)
  refine R_nil (C_cond (t := 16) rfl (fun hpx => ?_) (fun hpx => ?_))
  ·
   refine C_seq (C_region rfl (R_o rfl (E_move (R_o rfl (E_assign (R_nil (C_ret ?_)))))))
   with_reducible repeat (first | refine thn_ret ?_ | refine inB_ret ?_ | refine noG_ret ?_)
   first
     | exact ret_one rfl hd ⟨congrArg (Value.int .i64) (idxOf_at _ xs k x hx (by simpa using hpx) hst).symm, H.below⟩
     | exact ret_one rfl hd ⟨congrArg (Value.int .i64) (idxOf_none _ xs (fun j y hy => hst j y (by have := lt_of_get hy; omega) hy)).symm, H.below⟩
  ·
   refine C_skip (C_region rfl (R_o rfl (E_add rfl rfl (by omega) ?_)))
   refine R_o rfl (E_move (R_nil (⟨hd, xs.length - (k + 1), by omega, k + 1, rfl, rfl, by omega, fun j y hj hy => ?_, H⟩)))
   by_cases e : j = k
   · subst e; rw [hx] at hy; cases hy; simpa using hpx
   · exact hst j y (by omega) hy
 ·
  have hk : k = xs.length := by omega
  refine C_exit ?_
  refine C_seq (C_region rfl (R_o rfl (E_assign (R_nil (C_ret ?_)))))
  with_reducible repeat (first | refine thn_ret ?_ | refine inB_ret ?_ | refine noG_ret ?_)
  first
    | exact ret_one rfl hd ⟨congrArg (Value.int .i64) (idxOf_at _ xs k x hx (by simpa using hpx) hst).symm, H.below⟩
    | exact ret_one rfl hd ⟨congrArg (Value.int .i64) (idxOf_none _ xs (fun j y hy => hst j y (by have := lt_of_get hy; omega) hy)).symm, H.below⟩
theorem any_mem (x0 : Int) (xs : List Int) : xs.any (fun y => decide (x0 = y)) = decide (x0 ∈ xs) := by
 rw [Bool.eq_iff_iff]; simp
theorem Contains_ints {w0 : World} {s : Value} {xs : List Int} {x0 : Int} (hs : RdI w0 s xs) :
   Ret Tryz.prog 117 [s, .int .i64 x0] w0 (fun v w => v = .bool (decide (x0 ∈ xs)) ∧ Below w0.heap.size w0 w) := by
 refine ret_of_C Tryz.func117 rfl rfl rfl ?_
 have H := Loc.refl w0
 refine C_seq (C_region rfl (R_o rfl (E_assign (R_nil (C_seq (C_region rfl (R_o rfl (E_move (R_o rfl (E_move (R_o rfl (E_call rfl (Index_ints hs) ?_))))))))))))
 rintro _ w1 ⟨rfl, hb⟩
 replace H := H.call0 hb; clear hb
 refine R_o rfl (E_geq rfl rfl ?_)
 refine R_o rfl (E_assign (R_nil (C_ret ?_)))
 with_reducible repeat (first | refine thn_ret ?_ | refine inB_ret ?_ | refine noG_ret ?_)
 exact ret_one rfl rfl ⟨congrArg Value.bool ((idxOf_any _ xs).trans (any_mem x0 xs)), H.below⟩
theorem Equal_ints {w0 : World} {s t : Value} {xs ys : List Int} (hs : RdI w0 s xs) (ht : RdI w0 t ys) :
   Ret Tryz.prog 59 [s, t] w0 (fun v w => v = .bool (decide (xs = ys)) ∧ Below w0.heap.size w0 w) := by
 refine ret_of_C Tryz.func59 rfl rfl rfl ?_
 have H := Loc.refl w0
 obtain ⟨A, c, rfl, hc1, hc2⟩ := hs.len
 obtain ⟨B, d, rfl, hd1, hd2⟩ := ht.len
 refine C_seq (C_region rfl (R_o rfl (E_assign (R_nil (C_seq (C_seq (C_region rfl (R_o rfl (E_move (R_o rfl (E_len rfl ?_)))))))))))
 refine R_o rfl (E_move (R_o rfl (E_len rfl ?_)))
 refine R_o rfl (E_neq rfl rfl ?_)
 refine R_nil (C_cond (t := 10) rfl (fun hne => ?_) (fun hne => ?_))
 ·
  refine C_seq (C_region rfl (R_o rfl (E_assign (R_nil (C_ret ?_)))))
  with_reducible repeat (first | refine thn_ret ?_ | refine inB_ret ?_ | refine noG_ret ?_)
  first
    | exact ret_one rfl hd ⟨congrArg Value.bool (decide_eq_false (fun e => by subst e; rw [hx] at hy; cases hy; exact hxy rfl)).symm, H.below⟩
    | exact ret_one rfl hd ⟨congrArg Value.bool (decide_eq_true (by rw [take_full (by omega) (by omega), take_full (by omega) (by omega)] at hst; exact hst)).symm, H.below⟩
    | exact ret_one rfl rfl ⟨congrArg Value.bool (decide_eq_false (fun e => by subst e; exact hne rfl)).symm, H.below⟩
 ·
  have hlen : xs.length = ys.length := by omega
  refine C_skip (C_seq (C_seq (C_region rfl (R_o rfl (E_move (R_o rfl (E_len rfl ?_)))))))
  refine R_o rfl (E_move (R_nil (C_block (C_loop (ds := []) [0, 1, 12, 13] (fun m_ vs w => ∃ k : Nat, vs = [.slice A xs.length c, .slice B ys.length d, .int .i64 xs.length, .int .i64 k] ∧ m_ = xs.length - k ∧ k ≤ xs.length ∧ (xs.take k = ys.take k) ∧ Loc w0 w []) (m := xs.length) (by first | rfl | exact hd) ?_ ?_))))
  · exact ⟨0, rfl, by omega, by omega, rfl, H⟩
  intro m vs ρ₀ w hd hI
  clear H
  obtain ⟨k, rfl, rfl, hk, hst, H⟩ := hI
  refine C_seq (C_region rfl (R_o rfl (E_lss rfl rfl ?_)))
  refine R_nil (C_seq (C_cond (t := 14) rfl (fun hlt => ?_) (fun hlt => ?_)))
  ·
   obtain ⟨x, hx⟩ := get_of (xs := xs) (k := k) (by omega)
   obtain ⟨y, hy⟩ := get_of (xs := ys) (k := k) (by omega)
   refine C_skip (C_seq (C_block (C_seq (C_region rfl (R_o rfl (E_move (R_o rfl (E_assign (R_nil (C_seq (C_drawL [] H (by kernel_rfl) (fun w H => ?_))))))))))))
   refine D_takeT 0 rfl rfl rfl (by kernel_rfl) (fun w K Z kk => E_move kk) ?_
   refine D_takeT 1 rfl rfl rfl (by kernel_rfl) (fun w K Z kk => E_move kk) ?_
   refine D_takeT 2 rfl rfl rfl (by kernel_rfl) (fun w K Z kk => E_idxr hs rfl rfl (by omega) (by omega) kk) ?_
   refine D_take 3 rfl rfl rfl (by kernel_rfl) (by first | exact H | exact H.drop | exact H.drop.drop | exact H.drop.drop.drop | exact H.drop.drop.drop.drop) (fun w HS K Z kk => E_loadi hs HS rfl hx kk) ?_
   refine D_takeT 4 rfl rfl rfl (by kernel_rfl) (fun w K Z kk => E_move kk) ?_
   refine D_takeT 5 rfl rfl rfl (by kernel_rfl) (fun w K Z kk => E_move kk) ?_
   refine D_takeT 6 rfl rfl rfl (by kernel_rfl) (fun w K Z kk => E_idxr ht rfl rfl (by omega) (by omega) kk) ?_
   refine D_take 7 rfl rfl rfl (by kernel_rfl) (by first | exact H | exact H.drop | exact H.drop.drop | exact H.drop.drop.drop | exact H.drop.drop.drop.drop) (fun w HS K Z kk => E_loadi ht HS rfl hy kk) ?_
   refine D_takeT 8 rfl rfl rfl (by kernel_rfl) (fun w K Z kk => E_neq rfl rfl kk) ?_
   refine D_done (by kernel_rfl) ?_
   refine C_cond (t := 24) rfl (fun hxy => ?_) (fun hxy => ?_)
   ·
    refine C_seq (C_region rfl (R_o rfl (E_assign (R_nil (C_ret ?_)))))
    with_reducible repeat (first | refine thn_ret ?_ | refine inB_ret ?_ | refine noG_ret ?_)
    first
      | exact ret_one rfl hd ⟨congrArg Value.bool (decide_eq_false (fun e => by subst e; rw [hx] at hy; cases hy; exact hxy rfl)).symm, H.below⟩
      | exact ret_one rfl hd ⟨congrArg Value.bool (decide_eq_true (by rw [take_full (by omega) (by omega), take_full (by omega) (by omega)] at hst; exact hst)).symm, H.below⟩
      | exact ret_one rfl rfl ⟨congrArg Value.bool (decide_eq_false (fun e => by subst e; exact hne rfl)).symm, H.below⟩
   ·
    refine C_skip (C_region rfl (R_o rfl (E_add rfl rfl (by omega) ?_)))
    refine R_o rfl (E_move (R_nil (⟨hd, xs.length - (k + 1), by omega, k + 1, rfl, rfl, by omega, by rw [take_step hx, take_step hy, hst]; rw [show x = y by omega], H⟩)))
  ·
   have hk : k = xs.length := by omega
   refine C_exit ?_
   refine C_seq (C_region rfl (R_o rfl (E_assign (R_nil (C_ret ?_)))))
   with_reducible repeat (first | refine thn_ret ?_ | refine inB_ret ?_ | refine noG_ret ?_)
   first
     | exact ret_one rfl hd ⟨congrArg Value.bool (decide_eq_false (fun e => by subst e; rw [hx] at hy; cases hy; exact hxy rfl)).symm, H.below⟩
     | exact ret_one rfl hd ⟨congrArg Value.bool (decide_eq_true (by rw [take_full (by omega) (by omega), take_full (by omega) (by omega)] at hst; exact hst)).symm, H.below⟩
     | exact ret_one rfl rfl ⟨congrArg Value.bool (decide_eq_false (fun e => by subst e; exact hne rfl)).symm, H.below⟩
theorem row_of_lit {w0 w : World} {b t n : Nat} {cs : List Value} {L : List HP} (H : Loc w0 w (cl b t cs :: L)) (hc : n ≤ 9223372036854775807) (hl : cs.length = n) : Loc w0 w (row t 1 (.slice (some ⟨b, 0, none⟩) n n) n cs :: L) :=
 H.clRow 1 n (Nat.le_refl _) hc (by omega) (by rw [Nat.mul_one, ← hl, List.take_length])
theorem Clone_any_ints {α : Type} {r : World → Value → α → Prop} [Abides r] [OneC r] {w0 : World} {s : Value} {xs : List α} (hs : RdS r w0 s xs) (hb : xs.length ≤ 1000000000) :
   Ret Tryz.prog 57 [s] w0 (fun v w => ∃ us, Els r w0 us xs ∧ Loc w0 w [row 3 1 v xs.length us]) := by
 refine ret_of_C Tryz.func57 rfl rfl rfl ?_
 have H := Loc.refl w0
 obtain ⟨us, he, A, c, rfl, hc1, hc2, hu⟩ := hs.els
 have hul := he.1
 refine C_seq (C_region rfl (R_o rfl (E_assign (R_nil (C_seq (C_seq (C_region rfl (R_o rfl (E_move (R_o rfl (E_eqnil rfl rfl ?_)))))))))))
 refine R_nil (C_cond (t := 4) rfl (fun hnil => ?_) (fun hnil => ?_))
 ·
  subst hnil
  obtain rfl : xs = [] := hs.none_nil
  obtain rfl : us = [] := List.eq_nil_of_length_eq_zero he.1
  refine C_seq (C_region rfl (R_o rfl (E_assign (R_nil (C_ret ?_)))))
  with_reducible repeat (first | refine thn_ret ?_ | refine inB_ret ?_ | refine noG_ret ?_)
  first
    | exact ret_one rfl rfl ⟨us, he, H⟩
    | exact ret_one rfl rfl ⟨[], Els.nil r w0, nilRow _ _ H⟩
 ·
  refine C_skip (C_seq (C_region rfl (R_o rfl (E_lit (vs := []) [] rfl rfl rfl rfl rfl H ?_))))
  clear H; intro w b5 H
  replace H := row_of_lit (n := 0) H (by omega) rfl
  refine R_o rfl (E_move (R_o rfl (E_append_rd (v := .slice (some ⟨b5, 0, none⟩) 0 0) H rfl rfl he.1 (fun j u hj => by obtain ⟨a, e, hcell⟩ := hu j u hj; exact ⟨a, e, Below.cell_some H.below hcell⟩) he.one (by omega) (by omega) ?_)))
  clear H; intro w v7 H
  simp only [Nat.zero_add, List.nil_append] at H
  refine R_o rfl (E_assign (R_nil (C_ret ?_)))
  with_reducible repeat (first | refine thn_ret ?_ | refine inB_ret ?_ | refine noG_ret ?_)
  first
    | exact ret_one rfl rfl ⟨us, he, H⟩
    | exact ret_one rfl rfl ⟨[], Els.nil r w0, nilRow _ _ H⟩
theorem Clone_any_rows {α : Type} {r : World → Value → α → Prop} [Abides r] [OneC r] {w0 : World} {s : Value} {xs : List α} (hs : RdS r w0 s xs) (hb : xs.length ≤ 1000000000) :
   Ret Tryz.prog 26 [s] w0 (fun v w => ∃ us, Els r w0 us xs ∧ Loc w0 w [row 22 1 v xs.length us]) := by
 refine ret_of_C Tryz.func26 rfl rfl rfl ?_
 have H := Loc.refl w0
 obtain ⟨us, he, A, c, rfl, hc1, hc2, hu⟩ := hs.els
 have hul := he.1
 refine C_seq (C_region rfl (R_o rfl (E_assign (R_nil (C_seq (C_seq (C_region rfl (R_o rfl (E_move (R_o rfl (E_eqnil rfl rfl ?_)))))))))))
 refine R_nil (C_cond (t := 4) rfl (fun hnil => ?_) (fun hnil => ?_))
 ·
  subst hnil
  obtain rfl : xs = [] := hs.none_nil
  obtain rfl : us = [] := List.eq_nil_of_length_eq_zero he.1
  refine C_seq (C_region rfl (R_o rfl (E_assign (R_nil (C_ret ?_)))))
  with_reducible repeat (first | refine thn_ret ?_ | refine inB_ret ?_ | refine noG_ret ?_)
  first
    | exact ret_one rfl rfl ⟨us, he, H⟩
    | exact ret_one rfl rfl ⟨[], Els.nil r w0, nilRow _ _ H⟩
 ·
  refine C_skip (C_seq (C_region rfl (R_o rfl (E_lit (vs := []) [] rfl rfl rfl rfl rfl H ?_))))
  clear H; intro w b5 H
  replace H := row_of_lit (n := 0) H (by omega) rfl
  refine R_o rfl (E_move (R_o rfl (E_append_rd (v := .slice (some ⟨b5, 0, none⟩) 0 0) H rfl rfl he.1 (fun j u hj => by obtain ⟨a, e, hcell⟩ := hu j u hj; exact ⟨a, e, Below.cell_some H.below hcell⟩) he.one (by omega) (by omega) ?_)))
  clear H; intro w v7 H
  simp only [Nat.zero_add, List.nil_append] at H
  refine R_o rfl (E_assign (R_nil (C_ret ?_)))
  with_reducible repeat (first | refine thn_ret ?_ | refine inB_ret ?_ | refine noG_ret ?_)
  first
    | exact ret_one rfl rfl ⟨us, he, H⟩
    | exact ret_one rfl rfl ⟨[], Els.nil r w0, nilRow _ _ H⟩
theorem Clone_ints {w0 : World} {s : Value} {xs : List Int} (hs : RdI w0 s xs) (hb : xs.length ≤ 1000000000) :
   Ret Tryz.prog 57 [s] w0 (fun v w => Loc w0 w [row 3 1 v xs.length (ints .i64 xs)]) :=
 (Clone_any_ints hs hb).mono fun v w ⟨us, he, H⟩ => by rw [he.ints_eq] at H; exact H
theorem Clip_ints {w0 : World} {A : Option Addr} {n c : Nat} (hc1 : n ≤ c) :
   Ret Tryz.prog 69 [.slice A n c] w0 (fun v w => v = .slice A n n ∧ Below w0.heap.size w0 w) := by
 refine ret_of_C Tryz.func69 rfl rfl rfl ?_
 have H := Loc.refl w0
 refine C_seq (C_region rfl (R_o rfl (E_assign (R_nil (C_seq (C_region rfl (R_o rfl (E_move (R_o rfl (E_move (R_o rfl (E_len rfl ?_))))))))))))
 refine R_o rfl (E_move (R_o rfl (E_len rfl ?_)))
 refine R_o rfl (E_clip rfl rfl rfl hc1 ?_)
 refine R_o rfl (E_assign (R_nil (C_ret ?_)))
 with_reducible repeat (first | refine thn_ret ?_ | refine inB_ret ?_ | refine noG_ret ?_)
 exact ret_one rfl rfl ⟨rfl, H.below⟩
theorem most_ints {w0 : World} {s : Value} {xs : List Int} {x0 : Int} (hs : RdI w0 s xs) :
   Ret Tryz.prog 94 [.int .i64 x0, s] w0 (fun v w => v = .int .i64 (maxL x0 xs) ∧ Below w0.heap.size w0 w) := by
 refine ret_of_C Tryz.func94 rfl rfl rfl ?_
 have H := Loc.refl w0
 obtain ⟨A, c, rfl, hc1, hc2⟩ := hs.len
 refine C_seq (C_region rfl (R_o rfl (E_assign (R_nil (C_seq (C_seq (C_region rfl (R_o rfl (E_move (R_o rfl (E_len rfl ?_)))))))))))
 refine R_o rfl (E_move (R_nil (C_block (C_loop (ds := []) [0, 7, 8, 9] (fun m_ vs w => ∃ k : Nat, ∃ a : Int, vs = [.int .i64 a, .slice A xs.length c, .int .i64 xs.length, .int .i64 k] ∧ m_ = xs.length - k ∧ k ≤ xs.length ∧ (a = maxL x0 (xs.take k)) ∧ Loc w0 w []) (m := xs.length) (by first | rfl | exact hd) ?_ ?_))))
 · exact ⟨0, x0, rfl, by omega, by omega, rfl, H⟩
 intro m vs ρ₀ w hd hI
 clear H
 obtain ⟨k, a, rfl, rfl, hk, hst, H⟩ := hI
 refine C_seq (C_region rfl (R_o rfl (E_lss rfl rfl ?_)))
 refine R_nil (C_seq (C_cond (t := 10) rfl (fun hlt => ?_) (fun hlt => ?_)))
 ·
  obtain ⟨x, hx⟩ := get_of (xs := xs) (k := k) (by omega)
  refine C_skip (C_seq (C_block (C_seq (C_region rfl (R_o rfl (E_idxr hs rfl rfl (by omega) (by omega) ?_))))))
  refine R_o rfl (E_loadi hs H rfl hx ?_)
  refine R_o rfl (E_assign (R_nil (C_seq (C_region rfl (R_o rfl (E_move (R_o rfl (E_move (R_o rfl (E_gtr rfl rfl ?_))))))))))
  refine R_nil (C_cond (t := 15) rfl (fun hgt => ?_) (fun hgt => ?_))
  ·
   refine C_region rfl (R_o rfl (E_move (R_o rfl (E_assign (R_nil (C_region rfl (R_o rfl (E_add rfl rfl (by omega) ?_))))))))
   refine R_o rfl (E_move (R_nil (⟨hd, xs.length - (k + 1), by omega, k + 1, _, rfl, rfl, by omega, by rw [take_step hx]; simp only [maxL, List.foldl_append, List.foldl_cons, List.foldl_nil]; rw [show List.foldl max x0 (xs.take k) = a from hst.symm]; omega, H⟩)))
  ·
   refine C_skip (C_region rfl (R_o rfl (E_add rfl rfl (by omega) ?_)))
   refine R_o rfl (E_move (R_nil (⟨hd, xs.length - (k + 1), by omega, k + 1, _, rfl, rfl, by omega, by rw [take_step hx]; simp only [maxL, List.foldl_append, List.foldl_cons, List.foldl_nil]; rw [show List.foldl max x0 (xs.take k) = a from hst.symm]; omega, H⟩)))
 ·
  have hk : k = xs.length := by omega
  refine C_exit ?_
  refine C_seq (C_region rfl (R_o rfl (E_move (R_o rfl (E_assign (R_nil (C_ret ?_)))))))
  with_reducible repeat (first | refine thn_ret ?_ | refine inB_ret ?_ | refine noG_ret ?_)
  exact ret_one rfl hd ⟨congrArg (Value.int .i64) (by rw [hst, hk, List.take_length]), H.below⟩
end Go.Sl
