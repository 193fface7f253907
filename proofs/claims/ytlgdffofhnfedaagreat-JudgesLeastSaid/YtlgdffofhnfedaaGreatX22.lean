/- the answers of chapters 6 and 9. -/
import Derived.Test.YtlgdffofhnfedaaGreatX21
set_option linter.unusedVariables false
set_option linter.unusedSimpArgs false
set_option maxRecDepth 10000
set_option maxHeartbeats 2000000
namespace Go.Sl
open Go.RowKit
open Go.Proofs
theorem R6Rises_ {w0 : World} {v : Value} {l : List Int} {n : Int} (hl : RdI w0 v l) (h : isR l n) :
   Ret Tryz.prog 136 [v, .int .i64 n] w0 (fun v w => v = .bool true ∧ Below w0.heap.size w0 w) := by
 refine ret_of_C Tryz.func136 rfl rfl rfl ?_
 have H := Loc.refl w0
 obtain ⟨A, c, rfl, hc1, hc2⟩ := hl.len
 refine C_seq (C_region rfl (R_o rfl (E_assign (R_nil (C_seq (C_seq (C_region rfl (R_o rfl (E_assign (R_nil (C_block (C_loop (ds := []) [0, 1, 5] (fun m_ vs w => ∃ k : Nat, vs = [.slice A l.length c, .int .i64 n, .int .i64 k] ∧ m_ = l.length - k ∧ k ≤ l.length ∧ (True) ∧ Loc w0 w []) (m := l.length) (by first | rfl | exact hd) ?_ ?_))))))))))))
 · exact ⟨0, rfl, by omega, by omega, trivial, H⟩
 intro m vs ρ₀ w hd hI
 clear H
 obtain ⟨k, rfl, rfl, hk, hst, H⟩ := hI
 refine C_seq (C_seq (C_region rfl (R_o rfl (E_move (R_o rfl (E_move (R_o rfl (E_len rfl ?_))))))))
 refine R_o rfl (E_lss rfl rfl ?_)
 refine R_nil (C_cond (t := 9) rfl (fun hlt => ?_) (fun hlt => ?_))
 ·
  obtain ⟨x, hx⟩ := get_of (xs := l) (k := k) (by omega)
  have hxb := h.1 x (mem_of_get hx)
  refine C_skip (C_seq (C_block (C_seq (C_drawL [] H (by kernel_rfl) (fun w H => ?_)))))
  refine D_takeT 0 rfl rfl rfl (by kernel_rfl) (fun w K Z kk => E_move kk) ?_
  refine D_takeT 1 rfl rfl rfl (by kernel_rfl) (fun w K Z kk => E_move kk) ?_
  refine D_takeT 2 rfl rfl rfl (by kernel_rfl) (fun w K Z kk => E_idxr hl rfl rfl (by omega) (by omega) kk) ?_
  refine D_take 3 rfl rfl rfl (by kernel_rfl) (by first | exact H | exact H.drop | exact H.drop.drop | exact H.drop.drop.drop | exact H.drop.drop.drop.drop) (fun w HS K Z kk => E_loadi hl HS rfl hx kk) ?_
  refine D_takeT 4 rfl rfl rfl (by kernel_rfl) (fun w K Z kk => E_lss rfl rfl kk) ?_
  refine D_takeT 5 rfl rfl rfl (by kernel_rfl) (fun w K Z kk => E_move kk) ?_
  refine D_part (t := 17) rfl (fun h17 => ?_) (fun h17 => ?_)
  ·
   exact absurd h17 (by omega)
  ·
   refine D_takeTw 6 rfl rfl rfl rfl rfl (by kernel_rfl) (fun w K Z kk => E_move kk) ?_
   refine D_takeTw 7 rfl rfl rfl rfl rfl (by kernel_rfl) (fun w K Z kk => E_move kk) ?_
   refine D_takeTw 8 rfl rfl rfl rfl rfl (by kernel_rfl) (fun w K Z kk => E_idxr hl rfl rfl (by omega) (by omega) kk) ?_
   refine D_takew 9 rfl rfl rfl rfl rfl (by kernel_rfl) (by first | exact H | exact H.drop | exact H.drop.drop | exact H.drop.drop.drop | exact H.drop.drop.drop.drop) (fun w HS K Z kk => E_loadi hl HS rfl hx kk) ?_
   refine D_takeTw 10 rfl rfl rfl rfl rfl (by kernel_rfl) (fun w K Z kk => E_move kk) ?_
   refine D_takeTw 11 rfl rfl rfl rfl rfl (by kernel_rfl) (fun w K Z kk => E_geq rfl rfl kk) ?_
   refine D_takeT 12 rfl rfl rfl (by kernel_rfl) (fun w K Z kk => E_pick rfl kk) ?_
   refine D_takeT 13 rfl rfl rfl (by kernel_rfl) (fun w K Z kk => E_move kk) ?_
   refine D_part (t := 25) rfl (fun h25 => ?_) (fun h25 => ?_)
   ·
    exact absurd h25 (by omega)
   ·
    refine D_takeTw 14 rfl rfl rfl rfl rfl (by kernel_rfl) (fun w K Z kk => E_move kk) ?_
    refine D_takeTw 15 rfl rfl rfl rfl rfl (by kernel_rfl) (fun w K Z kk => E_gtr rfl rfl kk) ?_
    refine D_takeTw 16 rfl rfl rfl rfl rfl (by kernel_rfl) (fun w K Z kk => E_move kk) ?_
    refine D_part (t := 28) rfl (fun h28 => ?_) (fun h28 => ?_)
    ·
     obtain ⟨x1, hx1⟩ := get_of (xs := l) (k := k - 1) (by omega)
     have hlt2 : x1 < x := by
       have := List.pairwise_iff_getElem.1 h.2 (k - 1) k (lt_of_get hx1) (lt_of_get hx) (by omega)
       rw [List.getElem?_eq_getElem (lt_of_get hx1)] at hx1
       rw [List.getElem?_eq_getElem (lt_of_get hx)] at hx
       have e1 := Option.some.inj hx1; have e2 := Option.some.inj hx
       omega
     refine D_takeTw 17 rfl rfl rfl rfl rfl (by kernel_rfl) (fun w K Z kk => E_move kk) ?_
     refine D_takeTw 18 rfl rfl rfl rfl rfl (by kernel_rfl) (fun w K Z kk => E_move kk) ?_
     refine D_takeTw 19 rfl rfl rfl rfl rfl (by kernel_rfl) (fun w K Z kk => E_idxr hl rfl rfl (by omega) (by omega) kk) ?_
     refine D_takew 20 rfl rfl rfl rfl rfl (by kernel_rfl) (by first | exact H | exact H.drop | exact H.drop.drop | exact H.drop.drop.drop | exact H.drop.drop.drop.drop) (fun w HS K Z kk => E_loadi hl HS rfl hx kk) ?_
     refine D_takeTw 21 rfl rfl rfl rfl rfl (by kernel_rfl) (fun w K Z kk => E_move kk) ?_
     refine D_takeTw 22 rfl rfl rfl rfl rfl (by kernel_rfl) (fun w K Z kk => E_move kk) ?_
     refine D_takeTw 23 rfl rfl rfl rfl rfl (by kernel_rfl) (fun w K Z kk => E_subc ((k - 1 : Nat) : Int) rfl rfl (by omega) (by omega) kk) ?_
     refine D_takeTw 24 rfl rfl rfl rfl rfl (by kernel_rfl) (fun w K Z kk => E_idxr hl rfl rfl (by omega) (by omega) kk) ?_
     refine D_takew 25 rfl rfl rfl rfl rfl (by kernel_rfl) (by first | exact H | exact H.drop | exact H.drop.drop | exact H.drop.drop.drop | exact H.drop.drop.drop.drop) (fun w HS K Z kk => E_loadi hl HS rfl hx1 kk) ?_
     refine D_takeTw 26 rfl rfl rfl rfl rfl (by kernel_rfl) (fun w K Z kk => E_leq rfl rfl kk) ?_
     refine D_takeTw 27 rfl rfl rfl rfl rfl (by kernel_rfl) (fun w K Z kk => E_pick rfl kk) ?_
     refine D_takeT 28 rfl rfl rfl (by kernel_rfl) (fun w K Z kk => E_pick rfl kk) ?_
     refine D_done (by kernel_rfl) ?_
     refine C_cond (t := 40) rfl (fun h40 => ?_) (fun h40 => ?_)
     ·
      exact absurd h40 (by omega)
     ·
      refine C_skip (C_region rfl (R_o rfl (E_move (R_o rfl (E_add rfl rfl (by omega) ?_)))))
      refine R_o rfl (E_assign (R_nil (⟨hd, l.length - (k + 1), by omega, k + 1, rfl, rfl, by omega, trivial, H⟩)))
    ·
     refine D_passT 17 rfl rfl rfl rfl rfl (by kernel_rfl) ?_
     refine D_passT 18 rfl rfl rfl rfl rfl (by kernel_rfl) ?_
     refine D_passT 19 rfl rfl rfl rfl rfl (by kernel_rfl) ?_
     refine D_passT 20 rfl rfl rfl rfl rfl (by kernel_rfl) ?_
     refine D_passT 21 rfl rfl rfl rfl rfl (by kernel_rfl) ?_
     refine D_passT 22 rfl rfl rfl rfl rfl (by kernel_rfl) ?_
     refine D_passT 23 rfl rfl rfl rfl rfl (by kernel_rfl) ?_
     refine D_passT 24 rfl rfl rfl rfl rfl (by kernel_rfl) ?_
     refine D_passT 25 rfl rfl rfl rfl rfl (by kernel_rfl) ?_
     refine D_passT 26 rfl rfl rfl rfl rfl (by kernel_rfl) ?_
     refine D_takeTw 27 rfl rfl rfl rfl rfl (by kernel_rfl) (fun w K Z kk => E_pick rfl kk) ?_
     refine D_takeT 28 rfl rfl rfl (by kernel_rfl) (fun w K Z kk => E_pick rfl kk) ?_
     refine D_done (by kernel_rfl) ?_
     refine C_false (t := 40) rfl ?_
     refine C_skip (C_region rfl (R_o rfl (E_move (R_o rfl (E_add rfl rfl (by omega) ?_)))))
     refine R_o rfl (E_assign (R_nil (⟨hd, l.length - (k + 1), by omega, k + 1, rfl, rfl, by omega, trivial, H⟩)))
 ·
  skip
  refine C_exit ?_
  refine C_seq (C_region rfl (R_o rfl (E_assign (R_nil (C_ret ?_)))))
  with_reducible repeat (first | refine thn_ret ?_ | refine inB_ret ?_ | refine noG_ret ?_ | refine jmp_ret ?_)
  exact ret_one rfl hd ⟨rfl, H.below⟩
theorem R6Has_ {w0 : World} {v : Value} {l : List Int} {n : Int} (hl : RdI w0 v l) :
   Ret Tryz.prog 137 [v, .int .i64 n] w0 (fun v w => v = .bool (decide (n ∈ l)) ∧ Below w0.heap.size w0 w) := by
 refine ret_of_C Tryz.func137 rfl rfl rfl ?_
 have H := Loc.refl w0
 obtain ⟨A, c, rfl, hc1, hc2⟩ := hl.len
 refine C_seq (C_region rfl (R_o rfl (E_assign (R_nil (C_seq (C_seq (C_region rfl (R_o rfl (E_assign (R_nil (C_block (C_loop (ds := []) [0, 1, 5] (fun m_ vs w => ∃ k : Nat, vs = [.slice A l.length c, .int .i64 n, .int .i64 k] ∧ m_ = l.length - k ∧ k ≤ l.length ∧ (¬ n ∈ l.take k) ∧ Loc w0 w []) (m := l.length) (by first | rfl | exact hd) ?_ ?_))))))))))))
 · exact ⟨0, rfl, by omega, by omega, by simp, H⟩
 intro m vs ρ₀ w hd hI
 clear H
 obtain ⟨k, rfl, rfl, hk, hst, H⟩ := hI
 refine C_seq (C_seq (C_region rfl (R_o rfl (E_move (R_o rfl (E_move (R_o rfl (E_len rfl ?_))))))))
 refine R_o rfl (E_lss rfl rfl ?_)
 refine R_nil (C_cond (t := 9) rfl (fun hlt => ?_) (fun hlt => ?_))
 ·
  obtain ⟨x, hx⟩ := get_of (xs := l) (k := k) (by omega)
  refine C_skip (C_seq (C_block (C_seq (C_region rfl (R_o rfl (E_move (R_o rfl (E_move (R_o rfl (E_idxr hl rfl rfl (by omega) (by omega) ?_))))))))))
  refine R_o rfl (E_loadi hl H rfl hx ?_)
  refine R_o rfl (E_move (R_o rfl (E_eql rfl rfl ?_)))
  refine R_nil (C_cond (t := 17) rfl (fun h17 => ?_) (fun h17 => ?_))
  ·
   refine C_seq (C_region rfl (R_o rfl (E_assign (R_nil (C_ret ?_)))))
   with_reducible repeat (first | refine thn_ret ?_ | refine inB_ret ?_ | refine noG_ret ?_ | refine jmp_ret ?_)
   first
     | exact ret_one rfl hd ⟨congrArg Value.bool (decide_eq_true (by rw [← h17]; exact mem_of_get hx)).symm, H.below⟩
     | exact ret_one rfl hd ⟨congrArg Value.bool (decide_eq_false (by rw [hk, List.take_length] at hst; exact hst)).symm, H.below⟩
  ·
   refine C_skip (C_region rfl (R_o rfl (E_move (R_o rfl (E_add rfl rfl (by omega) ?_)))))
   refine R_o rfl (E_assign (R_nil (⟨hd, l.length - (k + 1), by omega, k + 1, rfl, rfl, by omega, by rw [take_step hx, List.mem_append, List.mem_singleton]; exact fun h => h.elim hst (fun h => h17 h.symm), H⟩)))
 ·
  have hk : k = l.length := by omega
  refine C_exit ?_
  refine C_seq (C_region rfl (R_o rfl (E_assign (R_nil (C_ret ?_)))))
  with_reducible repeat (first | refine thn_ret ?_ | refine inB_ret ?_ | refine noG_ret ?_ | refine jmp_ret ?_)
  first
    | exact ret_one rfl hd ⟨congrArg Value.bool (decide_eq_true (by rw [← h17]; exact mem_of_get hx)).symm, H.below⟩
    | exact ret_one rfl hd ⟨congrArg Value.bool (decide_eq_false (by rw [hk, List.take_length] at hst; exact hst)).symm, H.below⟩
theorem R13in_ {w0 : World} {v : Value} {l : List Int} {n : Int} (hl : RdI w0 v l) :
   Ret Tryz.prog 106 [v, .int .i64 n] w0 (fun v w => v = .bool (decide (n ∈ l)) ∧ Below w0.heap.size w0 w) := by
 refine ret_of_C Tryz.func106 rfl rfl rfl ?_
 have H := Loc.refl w0
 obtain ⟨A, c, rfl, hc1, hc2⟩ := hl.len
 refine C_seq (C_region rfl (R_o rfl (E_assign (R_nil (C_seq (C_seq (C_region rfl (R_o rfl (E_assign (R_nil (C_block (C_loop (ds := []) [0, 1, 5] (fun m_ vs w => ∃ k : Nat, vs = [.slice A l.length c, .int .i64 n, .int .i64 k] ∧ m_ = l.length - k ∧ k ≤ l.length ∧ (¬ n ∈ l.take k) ∧ Loc w0 w []) (m := l.length) (by first | rfl | exact hd) ?_ ?_))))))))))))
 · exact ⟨0, rfl, by omega, by omega, by simp, H⟩
 intro m vs ρ₀ w hd hI
 clear H
 obtain ⟨k, rfl, rfl, hk, hst, H⟩ := hI
 refine C_seq (C_seq (C_region rfl (R_o rfl (E_move (R_o rfl (E_move (R_o rfl (E_len rfl ?_))))))))
 refine R_o rfl (E_lss rfl rfl ?_)
 refine R_nil (C_cond (t := 9) rfl (fun hlt => ?_) (fun hlt => ?_))
 ·
  obtain ⟨x, hx⟩ := get_of (xs := l) (k := k) (by omega)
  refine C_skip (C_seq (C_block (C_seq (C_region rfl (R_o rfl (E_move (R_o rfl (E_move (R_o rfl (E_idxr hl rfl rfl (by omega) (by omega) ?_))))))))))
  refine R_o rfl (E_loadi hl H rfl hx ?_)
  refine R_o rfl (E_move (R_o rfl (E_eql rfl rfl ?_)))
  refine R_nil (C_cond (t := 17) rfl (fun h17 => ?_) (fun h17 => ?_))
  ·
   refine C_seq (C_region rfl (R_o rfl (E_assign (R_nil (C_ret ?_)))))
   with_reducible repeat (first | refine thn_ret ?_ | refine inB_ret ?_ | refine noG_ret ?_ | refine jmp_ret ?_)
   first
     | exact ret_one rfl hd ⟨congrArg Value.bool (decide_eq_true (by rw [← h17]; exact mem_of_get hx)).symm, H.below⟩
     | exact ret_one rfl hd ⟨congrArg Value.bool (decide_eq_false (by rw [hk, List.take_length] at hst; exact hst)).symm, H.below⟩
  ·
   refine C_skip (C_region rfl (R_o rfl (E_move (R_o rfl (E_add rfl rfl (by omega) ?_)))))
   refine R_o rfl (E_assign (R_nil (⟨hd, l.length - (k + 1), by omega, k + 1, rfl, rfl, by omega, by rw [take_step hx, List.mem_append, List.mem_singleton]; exact fun h => h.elim hst (fun h => h17 h.symm), H⟩)))
 ·
  have hk : k = l.length := by omega
  refine C_exit ?_
  refine C_seq (C_region rfl (R_o rfl (E_assign (R_nil (C_ret ?_)))))
  with_reducible repeat (first | refine thn_ret ?_ | refine inB_ret ?_ | refine noG_ret ?_ | refine jmp_ret ?_)
  first
    | exact ret_one rfl hd ⟨congrArg Value.bool (decide_eq_true (by rw [← h17]; exact mem_of_get hx)).symm, H.below⟩
    | exact ret_one rfl hd ⟨congrArg Value.bool (decide_eq_false (by rw [hk, List.take_length] at hst; exact hst)).symm, H.below⟩
theorem R6Check_ {w0 : World} {v : Value} {g : List (List Int)} {n : Int} (hg : RdII w0 v g) (hok : okGr g n) :
   Ret Tryz.prog 135 [v, .int .i64 n] w0 (fun v w => v = .bool true ∧ Below w0.heap.size w0 w) := by
 refine ret_of_C Tryz.func135 rfl rfl rfl ?_
 have H := Loc.refl w0
 obtain ⟨A, c, rfl, hc1, hc2⟩ := hg.len
 have h1 := hok.1
 have h2 := hok.2.1
 refine C_seq (C_region rfl (R_o rfl (E_assign (R_nil (C_seq (C_seq (C_region rfl (R_o rfl (E_move (R_o rfl (E_lss rfl rfl ?_)))))))))))
 refine R_o rfl (E_move (R_part (t := 8) rfl (fun h8 => ?_) (fun h8 => ?_)))
 ·
  exact absurd h8 (by omega)
 ·
  refine R_w rfl rfl rfl (E_move ?_)
  refine R_w rfl rfl rfl (E_gtr rfl rfl ?_)
  refine R_o rfl (E_pick rfl ?_)
  refine R_o rfl (E_move (R_part (t := 12) rfl (fun h12 => ?_) (fun h12 => ?_)))
  ·
   exact absurd h12 (by omega)
  ·
   refine R_w rfl rfl rfl (E_move ?_)
   refine R_w rfl rfl rfl (E_len rfl ?_)
   refine R_w rfl rfl rfl (E_gtr rfl rfl ?_)
   refine R_o rfl (E_pick rfl ?_)
   refine R_nil (C_cond (t := 16) rfl (fun h16 => ?_) (fun h16 => ?_))
   ·
    exact absurd h16 (by omega)
   ·
    refine C_skip (C_seq (C_seq (C_region rfl (R_o rfl (E_assign (R_nil (C_block (C_loop (ds := []) [0, 1, 5] (fun m_ vs w => ∃ k : Nat, vs = [.slice A g.length c, .int .i64 n, .int .i64 k] ∧ m_ = g.length - k ∧ k ≤ g.length ∧ (True) ∧ Loc w0 w []) (m := g.length) (by first | rfl | exact hd) ?_ ?_))))))))
    · exact ⟨0, rfl, by omega, by omega, trivial, H⟩
    intro m vs ρ₀ w hd hI
    clear H
    obtain ⟨k, rfl, rfl, hk, hst, H⟩ := hI
    refine C_seq (C_seq (C_region rfl (R_o rfl (E_move (R_o rfl (E_move (R_o rfl (E_len rfl ?_))))))))
    refine R_o rfl (E_lss rfl rfl ?_)
    refine R_nil (C_cond (t := 20) rfl (fun hlt => ?_) (fun hlt => ?_))
    ·
     obtain ⟨x, hx⟩ := get_of (xs := g) (k := k) (by omega)
     refine C_skip (C_seq (C_block (C_seq (C_region rfl (R_o rfl (E_move (R_o rfl (E_move (R_o rfl (E_idxr hg rfl rfl (by omega) (by omega) ?_))))))))))
     refine R_o rfl (E_loadr hg H rfl hx ?_)
     intro u hu
     refine R_o rfl (E_move (R_o rfl (E_call rfl (R6Rises_ (Abides.below H.below hu) (hok.2.2 x (mem_of_get hx))) ?_)))
     rintro _ w1 ⟨rfl, hb⟩
     replace H := H.call0 hb; clear hb
     refine R_o rfl (E_notb rfl ?_)
     refine R_nil (C_condb (t := 29) rfl (fun h29 => ?_) (fun h29 => ?_))
     ·
      cases h29
     ·
      refine C_skip (C_region rfl (R_o rfl (E_move (R_o rfl (E_add rfl rfl (by omega) ?_)))))
      refine R_o rfl (E_assign (R_nil (⟨hd, g.length - (k + 1), by omega, k + 1, rfl, rfl, by omega, trivial, H⟩)))
    ·
     refine C_exit ?_
     refine C_seq (C_region rfl (R_o rfl (E_assign (R_nil (C_ret ?_)))))
     with_reducible repeat (first | refine thn_ret ?_ | refine inB_ret ?_ | refine noG_ret ?_ | refine jmp_ret ?_)
     exact ret_one rfl hd ⟨rfl, H.below⟩
theorem lexLt_same {x y : Int} {a b : List Int} (h : x = y) : lexLt (x :: a) (y :: b) ↔ lexLt a b := ⟨fun h' => h'.elim (fun h' => by omega) (fun h' => h'.2), fun h' => .inr ⟨h, h'⟩⟩
theorem lexLt_diff {x y : Int} {a b : List Int} (h : ¬ x = y) : lexLt (x :: a) (y :: b) ↔ x < y := ⟨fun h' => h'.elim id (fun h' => absurd h'.1 h), .inl⟩
theorem get_eq {α : Type} {xs : List α} {k : Nat} {x : α} (h : xs[k]? = some x) : xs[k]'(lt_of_get h) = x := by
 have := List.getElem?_eq_getElem (lt_of_get h)
 rw [h] at this
 exact (Option.some.inj this).symm
theorem R9less_ {w0 : World} {u v : Value} {a b : List Int} (ha : RdI w0 u a) (hb : RdI w0 v b) (hl : a.length = b.length) :
   Ret Tryz.prog 138 [u, v] w0 (fun r w => ∃ x, r = .bool x ∧ (x = true ↔ lexLt a b) ∧ Below w0.heap.size w0 w) := by
 refine ret_of_C Tryz.func138 rfl rfl rfl ?_
 have H := Loc.refl w0
 obtain ⟨A, c, rfl, hc1, hc2⟩ := ha.len
 obtain ⟨B, d, rfl, hd1, hd2⟩ := hb.len
 refine C_seq (C_region rfl (R_o rfl (E_assign (R_nil (C_seq (C_seq (C_region rfl (R_o rfl (E_assign (R_nil (C_block (C_loop (ds := []) [0, 1, 5] (fun m_ vs w => ∃ k : Nat, vs = [.slice A a.length c, .slice B b.length d, .int .i64 k] ∧ m_ = a.length - k ∧ k ≤ a.length ∧ ((lexLt a b ↔ lexLt (a.drop k) (b.drop k))) ∧ Loc w0 w []) (m := a.length) (by first | rfl | exact hd) ?_ ?_))))))))))))
 · exact ⟨0, rfl, by omega, by omega, Iff.rfl, H⟩
 intro m vs ρ₀ w hd hI
 clear H
 obtain ⟨k, rfl, rfl, hk, hst, H⟩ := hI
 refine C_seq (C_seq (C_region rfl (R_o rfl (E_move (R_o rfl (E_move (R_o rfl (E_len rfl ?_))))))))
 refine R_o rfl (E_lss rfl rfl ?_)
 refine R_nil (C_cond (t := 9) rfl (fun hlt => ?_) (fun hlt => ?_))
 ·
  obtain ⟨x, hx⟩ := get_of (xs := a) (k := k) (by omega)
  obtain ⟨y, hy⟩ := get_of (xs := b) (k := k) (by omega)
  refine C_skip (C_seq (C_block (C_seq (C_drawL [] H (by kernel_rfl) (fun w H => ?_)))))
  refine D_takeT 0 rfl rfl rfl (by kernel_rfl) (fun w K Z kk => E_move kk) ?_
  refine D_takeT 1 rfl rfl rfl (by kernel_rfl) (fun w K Z kk => E_move kk) ?_
  refine D_takeT 2 rfl rfl rfl (by kernel_rfl) (fun w K Z kk => E_idxr ha rfl rfl (by omega) (by omega) kk) ?_
  refine D_take 3 rfl rfl rfl (by kernel_rfl) (by first | exact H | exact H.drop | exact H.drop.drop | exact H.drop.drop.drop | exact H.drop.drop.drop.drop) (fun w HS K Z kk => E_loadi ha HS rfl hx kk) ?_
  refine D_takeT 4 rfl rfl rfl (by kernel_rfl) (fun w K Z kk => E_move kk) ?_
  refine D_takeT 5 rfl rfl rfl (by kernel_rfl) (fun w K Z kk => E_move kk) ?_
  refine D_takeT 6 rfl rfl rfl (by kernel_rfl) (fun w K Z kk => E_idxr hb rfl rfl (by omega) (by omega) kk) ?_
  refine D_take 7 rfl rfl rfl (by kernel_rfl) (by first | exact H | exact H.drop | exact H.drop.drop | exact H.drop.drop.drop | exact H.drop.drop.drop.drop) (fun w HS K Z kk => E_loadi hb HS rfl hy kk) ?_
  refine D_takeT 8 rfl rfl rfl (by kernel_rfl) (fun w K Z kk => E_neq rfl rfl kk) ?_
  refine D_done (by kernel_rfl) ?_
  refine C_cond (t := 20) rfl (fun h20 => ?_) (fun h20 => ?_)
  ·
   refine C_seq (C_drawL [] H (by kernel_rfl) (fun w H => ?_))
   refine D_takeT 0 rfl rfl rfl (by kernel_rfl) (fun w K Z kk => E_move kk) ?_
   refine D_takeT 1 rfl rfl rfl (by kernel_rfl) (fun w K Z kk => E_move kk) ?_
   refine D_takeT 2 rfl rfl rfl (by kernel_rfl) (fun w K Z kk => E_idxr ha rfl rfl (by omega) (by omega) kk) ?_
   refine D_take 3 rfl rfl rfl (by kernel_rfl) (by first | exact H | exact H.drop | exact H.drop.drop | exact H.drop.drop.drop | exact H.drop.drop.drop.drop) (fun w HS K Z kk => E_loadi ha HS rfl hx kk) ?_
   refine D_takeT 4 rfl rfl rfl (by kernel_rfl) (fun w K Z kk => E_move kk) ?_
   refine D_takeT 5 rfl rfl rfl (by kernel_rfl) (fun w K Z kk => E_move kk) ?_
   refine D_takeT 6 rfl rfl rfl (by kernel_rfl) (fun w K Z kk => E_idxr hb rfl rfl (by omega) (by omega) kk) ?_
   refine D_take 7 rfl rfl rfl (by kernel_rfl) (by first | exact H | exact H.drop | exact H.drop.drop | exact H.drop.drop.drop | exact H.drop.drop.drop.drop) (fun w HS K Z kk => E_loadi hb HS rfl hy kk) ?_
   refine D_takeT 8 rfl rfl rfl (by kernel_rfl) (fun w K Z kk => E_lss rfl rfl kk) ?_
   refine D_takeT 9 rfl rfl rfl (by kernel_rfl) (fun w K Z kk => E_assign kk) ?_
   refine D_done (by kernel_rfl) ?_
   refine C_ret ?_
   with_reducible repeat (first | refine thn_ret ?_ | refine inB_ret ?_ | refine noG_ret ?_ | refine jmp_ret ?_)
   first
     | (refine ret_one rfl hd ⟨_, rfl, ?_, H.below⟩
        rw [hst, List.drop_eq_getElem_cons (lt_of_get hx), List.drop_eq_getElem_cons (lt_of_get hy), lexLt_diff (by rw [get_eq hx, get_eq hy]; exact h20), get_eq hx, get_eq hy, decide_eq_true_iff])
     | (refine ret_one rfl hd ⟨_, rfl, ?_, H.below⟩
        rw [hst, List.drop_of_length_le (by omega)]
        exact ⟨fun h => (by cases h), fun h => h.elim⟩)
  ·
   refine C_skip (C_region rfl (R_o rfl (E_move (R_o rfl (E_add rfl rfl (by omega) ?_)))))
   refine R_o rfl (E_assign (R_nil (⟨hd, a.length - (k + 1), by omega, k + 1, rfl, rfl, by omega, by rw [hst, List.drop_eq_getElem_cons (lt_of_get hx), List.drop_eq_getElem_cons (lt_of_get hy), lexLt_same (by rw [get_eq hx, get_eq hy]; exact Decidable.of_not_not h20)], H⟩)))
 ·
  have hk : k = a.length := by omega
  refine C_exit ?_
  refine C_seq (C_region rfl (R_o rfl (E_assign (R_nil (C_ret ?_)))))
  with_reducible repeat (first | refine thn_ret ?_ | refine inB_ret ?_ | refine noG_ret ?_ | refine jmp_ret ?_)
  first
    | (refine ret_one rfl hd ⟨_, rfl, ?_, H.below⟩
       rw [hst, List.drop_eq_getElem_cons (lt_of_get hx), List.drop_eq_getElem_cons (lt_of_get hy), lexLt_diff (by rw [get_eq hx, get_eq hy]; exact h20), get_eq hx, get_eq hy, decide_eq_true_iff])
    | (refine ret_one rfl hd ⟨_, rfl, ?_, H.below⟩
       rw [hst, List.drop_of_length_le (by omega)]
       exact ⟨fun h => (by cases h), fun h => h.elim⟩)
theorem maskL_succ (n k : Nat) : maskL (k + 1) n = if n / 2 ^ k &&& 1 = 1 then maskL k n ++ [(k : Int)] else maskL k n := by
 have hb : n.testBit k = decide (n / 2 ^ k &&& 1 = 1) := by rw [Nat.testBit_eq_decide_div_mod_eq, Nat.and_one_is_mod]
 unfold maskL
 rw [List.range_succ, List.filter_append]
 by_cases h : n / 2 ^ k &&& 1 = 1
 · rw [if_pos h, List.filter_cons_of_pos (by rw [hb]; exact decide_eq_true h), List.filter_nil, List.map_append]; rfl
 · rw [if_neg h, List.filter_cons_of_neg (by rw [hb, decide_eq_false h]; exact Bool.false_ne_true), List.filter_nil, List.append_nil]
theorem fdt {fd : Bool} (h : (!fd) = false) : fd = true := by revert h; cases fd <;> simp
theorem fdf {fd : Bool} (h : (!fd) = true) : ¬ fd = true := by revert h; cases fd <;> simp
theorem nb_len {a b : List Int} (h1 : a.length ≠ b.length) (h2 : ¬ a.length < b.length) : ¬ before a b := fun h => h.elim h2 (fun h => h1 h.1)
theorem nb_lex {a b : List Int} {bl : Bool} (h1 : a.length = b.length) (h2 : bl = true ↔ lexLt a b) (h3 : bl = false) : ¬ before a b := fun h => h.elim (fun h => by omega) (fun h => by rw [h2.2 h.2] at h3; cases h3)
theorem maskL_len (k n : Nat) : (maskL k n).length ≤ k := isR_len (maskL_isR k n)
theorem all_step {l : List Int} {p : Int → Bool} {k : Nat} {x : Int} (h : l[k]? = some x) : (l.take (k + 1)).all p = ((l.take k).all p && p x) := by
 rw [take_step h, List.all_append]; simp
theorem R9Few_ {w0 : World} {u v : Value} {g : List (List Int)} {items : Nat} {sm : List Int} (hg : RdII w0 u g) (hsr : RdI w0 v sm) (hok : okGr g items) (hsm : isR sm g.length) :
   Ret Tryz.prog 105 [u, .int .i64 (items : Int), v] w0 (fun r w => ∃ x b, r = .tuple #[x, .bool b, .int .i64 0] ∧ ((b = false ∧ IsFew g items sm none ∧ Below w0.heap.size w0 w) ∨ (b = true ∧ ∃ l, IsFew g items sm (some l) ∧ Loc w0 w [rdv x (fun w => RdI w x l)]))) := by
 refine ret_of_C Tryz.func105 rfl rfl rfl ?_
 have H := Loc.refl w0
 obtain ⟨A, c, rfl, hc1, hc2⟩ := hg.len
 obtain ⟨B, d1, rfl, hd1, hd2⟩ := hsr.len
 have hg8 := hok.2.1
 have hi8 := hok.1
 have hsl := isR_len hsm
 obtain ⟨N, hNp⟩ : ∃ N, N = 2 ^ items := ⟨_, rfl⟩
 have hp8 : N ≤ 256 := by rw [hNp]; exact Nat.le_trans (Nat.pow_le_pow_right (by omega) (by omega)) (by decide : 2 ^ 8 ≤ 256)
 refine C_seq (C_region rfl (R_o rfl (E_assign (R_o rfl (E_assign (R_o rfl (E_assign (R_nil (C_seq (C_seq (C_region rfl (R_o rfl (E_move (R_o rfl (E_move (R_o rfl (E_call rfl (R6Check_ (Abides.below H.below hg) hok) ?_)))))))))))))))))
 rintro _ w1 ⟨rfl, hb⟩
 replace H := H.call0 hb; clear hb
 refine R_o rfl (E_notb rfl ?_)
 refine R_o rfl (E_move (R_partb (t := 23) rfl (fun h23 => ?_) (fun h23 => ?_)))
 ·
  cases h23
 ·
  refine R_w rfl rfl rfl (E_move ?_)
  refine R_w rfl rfl rfl (E_move ?_)
  refine R_w rfl rfl rfl (E_len rfl ?_)
  refine R_w rfl rfl rfl (E_call rfl (R6Rises_ (Abides.below H.below hsr) hsm) ?_)
  rintro _ w1 ⟨rfl, hb⟩
  replace H := H.call0 hb; clear hb
  refine R_w rfl rfl rfl (E_notb rfl ?_)
  refine R_o rfl (E_pick rfl ?_)
  refine R_nil (C_condb (t := 29) rfl (fun h29 => ?_) (fun h29 => ?_))
  ·
   cases h29
  ·
   refine C_skip (C_seq (C_region rfl (R_o rfl (E_assign (R_nil (C_seq (C_region rfl (R_o rfl (E_assign (R_nil (C_seq (C_seq (C_region rfl (R_o rfl (E_assign (R_nil (C_block (C_loop (ds := []) [0, 1, 2, 9, 10, 11] (fun m_ vs w => ∃ (n : Nat) (best : List Int) (fd : Bool) (v9 : Value), vs = [.slice A g.length c, .int .i64 (items : Int), .slice B sm.length d1, v9, .bool fd, .int .i64 (n : Int)] ∧ m_ = N - n ∧ n ≤ N ∧ BestTo g items sm n best fd ∧ Loc w0 w [rdv v9 (fun w => RdI w v9 best)]) (m := N) (by first | rfl | exact hd) ?_ ?_))))))))))))))))))
   · replace H := H.mkEmp.toRd (.slice none 0 0) (fun w => RdI w (.slice none 0 0) []) (fun _ _ _ => RdS.nil _ _)
     exact ⟨0, [], false, .slice none 0 0, rfl, by omega, by omega, BestTo.zero g items sm, H.al⟩
   intro m vs ρ₀ w hd hI
   clear H
   obtain ⟨n, best, fd, v9, rfl, rfl, hn, hB, H⟩ := hI
   refine C_seq (C_seq (C_region rfl (R_o rfl (E_move (R_o rfl (E_move (R_o rfl (E_convu rfl (by omega) ?_))))))))
   refine R_o rfl (E_shl1 (i := items) rfl rfl (by omega) ?_)
   rw [← hNp]
   refine R_o rfl (E_lss rfl rfl ?_)
   refine R_nil (C_cond (t := 34) rfl (fun hlt => ?_) (fun hlt => ?_))
   ·
    refine C_skip (C_seq (C_block (C_seq (C_region rfl (R_o rfl (E_assign (R_nil (C_seq (C_seq (C_region rfl (R_o rfl (E_assign (R_nil (C_block (C_loop (ds := []) [0, 1, 2, 9, 10, 11, 12, 13] (fun m_ vs w => ∃ (k : Nat) (v12 : Value), vs = [.slice A g.length c, .int .i64 (items : Int), .slice B sm.length d1, v9, .bool fd, .int .i64 (n : Int), v12, .int .i64 (k : Int)] ∧ m_ = items - k ∧ k ≤ items ∧ Loc w0 w [row 3 1 v12 (maskL k n).length (ints .i64 (maskL k n)), rdv v9 (fun w => RdI w v9 best)]) (m := items) (by first | rfl | exact hd) ?_ ?_)))))))))))))))
    · replace H := nilRow 3 1 H
      exact ⟨0, .slice none 0 0, rfl, by omega, by omega, H⟩
    intro m vs ρ₀ w hd hI
    clear H
    obtain ⟨k, v12, rfl, rfl, hk, H⟩ := hI
    have hml := maskL_len k n
    refine C_seq (C_seq (C_region rfl (R_o rfl (E_move (R_o rfl (E_move (R_o rfl (E_lss rfl rfl ?_))))))))
    refine R_nil (C_cond (t := 39) rfl (fun hlt2 => ?_) (fun hlt2 => ?_))
    ·
     refine C_skip (C_seq (C_block (C_seq (C_region rfl (R_o rfl (E_move (R_o rfl (E_move (R_o rfl (E_convu rfl (by omega) ?_))))))))))
     refine R_o rfl (E_shrn (a := n) (b := k) rfl rfl (by omega) ?_)
     refine R_o rfl (E_and (a := n / 2 ^ k) (b := 1) rfl rfl (by have := Nat.div_le_self n (2 ^ k); omega) (by omega) ?_)
     refine R_o rfl (E_eql rfl rfl ?_)
     refine R_nil (C_cond (t := 47) rfl (fun h47 => ?_) (fun h47 => ?_))
     ·
      refine C_region rfl (R_o rfl (E_move (R_o rfl (E_move (R_o rfl (E_lit (vs := [.int .i64 k]) [.tmp 49] rfl rfl rfl rfl rfl H ?_))))))
      clear H; intro w b50 H
      refine R_o rfl (E_append1 (v := v12) (b := b50) (u := .int .i64 k) H rfl rfl rfl (by omega) (by omega) ?_)
      clear H; intro w v51 H
      refine R_o rfl (E_assign (R_nil (C_region rfl (R_o rfl (E_move (R_o rfl (E_add rfl rfl (by omega) ?_)))))))
      refine R_o rfl (E_assign (R_nil ?_))
      first
        | (have e := (maskL_succ n k).trans (if_pos (by omega))
           exact ⟨hd, items - (k + 1), by omega, k + 1, v51, rfl, rfl, by omega, by rw [e, List.length_append, ints_append]; exact H⟩)
        | (have e := (maskL_succ n k).trans (if_neg (by omega))
           exact ⟨hd, items - (k + 1), by omega, k + 1, v12, rfl, rfl, by omega, by rw [e]; exact H⟩)
     ·
      refine C_skip (C_region rfl (R_o rfl (E_move (R_o rfl (E_add rfl rfl (by omega) ?_)))))
      refine R_o rfl (E_assign (R_nil ?_))
      first
        | (have e := (maskL_succ n k).trans (if_pos (by omega))
           exact ⟨hd, items - (k + 1), by omega, k + 1, v51, rfl, rfl, by omega, by rw [e, List.length_append, ints_append]; exact H⟩)
        | (have e := (maskL_succ n k).trans (if_neg (by omega))
           exact ⟨hd, items - (k + 1), by omega, k + 1, v12, rfl, rfl, by omega, by rw [e]; exact H⟩)
    ·
     refine C_exit ?_
     refine C_seq (C_region rfl (R_o rfl (E_assign (R_nil (C_seq (C_seq (C_region rfl (R_o rfl (E_assign (R_nil (C_block (C_loop (ds := []) [0, 1, 2, 9, 10, 11, 12, 14, 15] (fun m_ vs w => ∃ j : Nat, vs = [.slice A g.length c, .int .i64 (items : Int), .slice B sm.length d1, v9, .bool fd, .int .i64 (n : Int), v12, .int .i64 (withinV g (sm.take j) (maskL items n)), .int .i64 (j : Int)] ∧ m_ = sm.length - j ∧ j ≤ sm.length ∧ Loc w0 w [rdv v12 (fun w => RdI w v12 (maskL items n)), rdv v9 (fun w => RdI w v9 best)]) (m := sm.length) (by first | rfl | exact hd) ?_ ?_))))))))))))
     · obtain rfl : k = items := by omega
       exact ⟨0, rfl, by omega, by omega, H.rowInts⟩
     intro m vs ρ₀ w hd hI
     clear H
     obtain ⟨j, rfl, rfl, hj, H⟩ := hI
     have hwl := within_le g (sm.take j) (maskL items n)
     have hwt : (sm.take j).length = j := by rw [List.length_take]; omega
     refine C_seq (C_seq (C_region rfl (R_o rfl (E_move (R_o rfl (E_move (R_o rfl (E_len rfl ?_))))))))
     refine R_o rfl (E_lss rfl rfl ?_)
     refine R_nil (C_cond (t := 55) rfl (fun hlt3 => ?_) (fun hlt3 => ?_))
     ·
      obtain ⟨x, hx⟩ := get_of (xs := sm) (k := j) (by omega)
      have hxb := hsm.1 x (mem_of_get hx)
      obtain ⟨l0, hl0⟩ := get_of (xs := g) (k := x.toNat) (by omega)
      refine C_skip (C_seq (C_block (C_seq (C_region rfl (R_o rfl (E_move (R_o rfl (E_move (R_o rfl (E_move (R_o rfl (E_idxr hsr rfl rfl (by omega) (by omega) ?_))))))))))))
      refine R_o rfl (E_loadi hsr H rfl hx ?_)
      refine R_o rfl (E_idxr hg rfl rfl (by omega) (by omega) ?_)
      refine R_o rfl (E_loadr hg H rfl hl0 ?_)
      intro u hu
      obtain ⟨Au, cu, rfl, hu1, hu2⟩ := hu.len
      refine R_o rfl (E_assign (R_nil (C_seq (C_region rfl (R_o rfl (E_assign (R_nil (C_seq (C_seq (C_region rfl (R_o rfl (E_assign (R_nil (C_block (C_loop (ds := []) [0, 1, 2, 9, 10, 11, 12, 14, 15, 16, 17, 18] (fun m_ vs w => ∃ i : Nat, vs = [.slice A g.length c, .int .i64 (items : Int), .slice B sm.length d1, v9, .bool fd, .int .i64 (n : Int), v12, .int .i64 (withinV g (sm.take j) (maskL items n)), .int .i64 (j : Int), .slice Au l0.length cu, .bool ((l0.take i).all fun k => decide (k ∈ maskL items n)), .int .i64 (i : Int)] ∧ m_ = l0.length - i ∧ i ≤ l0.length ∧ Loc w0 w [rdv v12 (fun w => RdI w v12 (maskL items n)), rdv v9 (fun w => RdI w v9 best)]) (m := l0.length) (by first | rfl | exact hd) ?_ ?_)))))))))))))))
      · exact ⟨0, rfl, by omega, by omega, H⟩
      intro m vs ρ₀ w hd hI
      clear H
      obtain ⟨i, rfl, rfl, hi, H⟩ := hI
      refine C_seq (C_seq (C_region rfl (R_o rfl (E_move (R_o rfl (E_move (R_o rfl (E_len rfl ?_))))))))
      refine R_o rfl (E_lss rfl rfl ?_)
      refine R_nil (C_cond (t := 68) rfl (fun hlt4 => ?_) (fun hlt4 => ?_))
      ·
       obtain ⟨z, hz⟩ := get_of (xs := l0) (k := i) (by omega)
       refine C_skip (C_seq (C_block (C_region rfl (R_o rfl (E_move (R_o rfl (E_move (R_partb (t := 72) rfl (fun h72 => ?_) (fun h72 => ?_)))))))))
       ·
        refine R_w rfl rfl rfl (E_move ?_)
        refine R_w rfl rfl rfl (E_move ?_)
        refine R_w rfl rfl rfl (E_move ?_)
        refine R_w rfl rfl rfl (E_idxr hu rfl rfl (by omega) (by omega) ?_)
        refine R_w rfl rfl rfl (E_loadi hu H rfl hz ?_)
        refine R_w rfl rfl rfl (E_call rfl (R6Has_ (v := v12) (l := maskL items n) (H.fr (rdv v12 (fun w => RdI w v12 (maskL items n)))).read) ?_)
        rintro _ w1 ⟨rfl, hb⟩
        replace H := H.call0 hb; clear hb
        refine R_o rfl (E_pick rfl ?_)
        refine R_o rfl (E_assign (R_nil (C_region rfl (R_o rfl (E_move (R_o rfl (E_add rfl rfl (by omega) ?_)))))))
        refine R_o rfl (E_assign (R_nil ?_))
        first
          | (have e := all_step (p := fun k => decide (k ∈ maskL items n)) hz
             rw [h72, Bool.true_and] at e
             exact ⟨hd, l0.length - (i + 1), by omega, i + 1, by rw [e]; rfl, rfl, by omega, H⟩)
          | (have e := all_step (p := fun k => decide (k ∈ maskL items n)) hz
             rw [h72, Bool.false_and] at e
             exact ⟨hd, l0.length - (i + 1), by omega, i + 1, by rw [e]; rfl, rfl, by omega, H⟩)
       ·
        refine R_p rfl rfl rfl ?_
        refine R_p rfl rfl rfl ?_
        refine R_p rfl rfl rfl ?_
        refine R_p rfl rfl rfl ?_
        refine R_p rfl rfl rfl ?_
        refine R_p rfl rfl rfl ?_
        refine R_o rfl (E_pick rfl ?_)
        refine R_o rfl (E_assign (R_nil (C_region rfl (R_o rfl (E_move (R_o rfl (E_add rfl rfl (by omega) ?_)))))))
        refine R_o rfl (E_assign (R_nil ?_))
        first
          | (have e := all_step (p := fun k => decide (k ∈ maskL items n)) hz
             rw [h72, Bool.true_and] at e
             exact ⟨hd, l0.length - (i + 1), by omega, i + 1, by rw [e]; rfl, rfl, by omega, H⟩)
          | (have e := all_step (p := fun k => decide (k ∈ maskL items n)) hz
             rw [h72, Bool.false_and] at e
             exact ⟨hd, l0.length - (i + 1), by omega, i + 1, by rw [e]; rfl, rfl, by omega, H⟩)
      ·
       obtain rfl : i = l0.length := by omega
       refine C_exit ?_
       refine C_seq (C_region rfl (R_o rfl (E_move (R_nil ?_))))
       have hg2 : g.getD x.toNat [] = l0 := by rw [List.getD_eq_getElem?_getD, hl0]; rfl
       rw [List.take_length, ← hg2] at *
       refine C_condb (t := 80) rfl (fun h80 => ?_) (fun h80 => ?_)
       ·
        refine C_region rfl (R_o rfl (E_move (R_o rfl (E_add rfl rfl (by omega) ?_))))
        refine R_o rfl (E_assign (R_nil (C_region rfl (R_o rfl (E_move (R_o rfl (E_add rfl rfl (by omega) ?_)))))))
        refine R_o rfl (E_assign (R_nil ?_))
        first
          | (have e := (within_step (g := g) (l := maskL items n) hx).trans (congrArg _ (if_pos h80))
             exact ⟨hd, sm.length - (j + 1), by omega, j + 1, by rw [e]; rfl, rfl, by omega, H⟩)
          | (have e := (within_step (g := g) (l := maskL items n) hx).trans (congrArg _ (if_neg (by rw [h80]; exact Bool.false_ne_true)))
             exact ⟨hd, sm.length - (j + 1), by omega, j + 1, by rw [e]; rfl, rfl, by omega, H⟩)
       ·
        refine C_skip (C_region rfl (R_o rfl (E_move (R_o rfl (E_add rfl rfl (by omega) ?_)))))
        refine R_o rfl (E_assign (R_nil ?_))
        first
          | (have e := (within_step (g := g) (l := maskL items n) hx).trans (congrArg _ (if_pos h80))
             exact ⟨hd, sm.length - (j + 1), by omega, j + 1, by rw [e]; rfl, rfl, by omega, H⟩)
          | (have e := (within_step (g := g) (l := maskL items n) hx).trans (congrArg _ (if_neg (by rw [h80]; exact Bool.false_ne_true)))
             exact ⟨hd, sm.length - (j + 1), by omega, j + 1, by rw [e]; rfl, rfl, by omega, H⟩)
     ·
      obtain rfl : j = sm.length := by omega
      rw [List.take_length] at hwl
      obtain ⟨A12, c12, rfl, hc12, _⟩ := (H.fr (rdv v12 (fun w => RdI w v12 (maskL items n)))).read.len
      obtain ⟨A9, c9, rfl, hc9, _⟩ := (H.fr (rdv v9 (fun w => RdI w v9 best))).read.len
      have hW : withinV g (sm.take sm.length) (maskL items n) = withinV g sm (maskL items n) := by rw [List.take_length]
      refine C_exit ?_
      refine C_seq (C_region rfl (R_o rfl (E_move (R_o rfl (E_move (R_o rfl (E_len rfl ?_)))))))
      refine R_o rfl (E_gtr rfl rfl ?_)
      refine R_o rfl (E_move (R_part (t := 87) rfl (fun h87 => ?_) (fun h87 => ?_)))
      ·
       refine R_w rfl rfl rfl (E_move ?_)
       refine R_w rfl rfl rfl (E_notb rfl ?_)
       refine R_w rfl rfl rfl (E_move ?_)
       refine R_partb (t := 90) rfl (fun h90 => ?_) (fun h90 => ?_)
       ·
        refine R_p rfl rfl rfl ?_
        refine R_p rfl rfl rfl ?_
        refine R_p rfl rfl rfl ?_
        refine R_p rfl rfl rfl ?_
        refine R_p rfl rfl rfl ?_
        refine R_w rfl rfl rfl (E_pick rfl ?_)
        refine R_w rfl rfl rfl (E_move ?_)
        refine R_p rfl rfl rfl ?_
        refine R_p rfl rfl rfl ?_
        refine R_p rfl rfl rfl ?_
        refine R_p rfl rfl rfl ?_
        refine R_p rfl rfl rfl ?_
        refine R_p rfl rfl rfl ?_
        refine R_pu rfl rfl ?_
        refine R_pu rfl rfl ?_
        refine R_pu rfl rfl ?_
        refine R_p rfl rfl rfl ?_
        refine R_w rfl rfl rfl (E_pick rfl ?_)
        refine R_o rfl (E_pick rfl ?_)
        refine R_nil (C_true (t := 109) rfl ?_)
        refine C_seq (C_region rfl (R_o rfl (E_move (R_o rfl (E_assign (R_nil (C_region rfl (R_o rfl (E_assign (R_nil (C_region rfl (R_o rfl (E_move (R_o rfl (E_add rfl rfl (by omega) ?_)))))))))))))))
        refine R_o rfl (E_assign (R_nil ?_))
        first
          | exact ⟨hd, N - (n + 1), by omega, n + 1, maskL items n, true, .slice A12 (maskL items n).length c12, rfl, rfl, by omega, hB.take (by unfold tooMany; omega) (fun h => absurd h (fdf h90)), H.al⟩
          | exact ⟨hd, N - (n + 1), by omega, n + 1, maskL items n, true, .slice A12 (maskL items n).length c12, rfl, rfl, by omega, hB.take (by unfold tooMany; omega) (fun _ => .inl (by omega)), H.al⟩
          | exact ⟨hd, N - (n + 1), by omega, n + 1, maskL items n, true, .slice A12 (maskL items n).length c12, rfl, rfl, by omega, hB.take (by unfold tooMany; omega) (fun _ => .inr ⟨by omega, hbl.1 h109⟩), H.al⟩
          | exact ⟨hd, N - (n + 1), by omega, n + 1, best, fd, .slice A9 best.length c9, rfl, rfl, by omega, hB.leave (fun ht => (by unfold tooMany at ht; omega)), H.al⟩
          | exact ⟨hd, N - (n + 1), by omega, n + 1, best, fd, .slice A9 best.length c9, rfl, rfl, by omega, hB.leave (fun _ => ⟨fdt h90, nb_len (by omega) (by omega)⟩), H.al⟩
          | exact ⟨hd, N - (n + 1), by omega, n + 1, best, fd, .slice A9 best.length c9, rfl, rfl, by omega, hB.leave (fun _ => ⟨fdt h90, nb_lex (by omega) hbl h109⟩), H.al⟩
       ·
        refine R_w rfl rfl rfl (E_move ?_)
        refine R_w rfl rfl rfl (E_len rfl ?_)
        refine R_w rfl rfl rfl (E_move ?_)
        refine R_w rfl rfl rfl (E_len rfl ?_)
        refine R_w rfl rfl rfl (E_lss rfl rfl ?_)
        refine R_w rfl rfl rfl (E_pick rfl ?_)
        refine R_w rfl rfl rfl (E_move ?_)
        refine R_part (t := 97) rfl (fun h97 => ?_) (fun h97 => ?_)
        ·
         refine R_p rfl rfl rfl ?_
         refine R_p rfl rfl rfl ?_
         refine R_p rfl rfl rfl ?_
         refine R_p rfl rfl rfl ?_
         refine R_p rfl rfl rfl ?_
         refine R_p rfl rfl rfl ?_
         refine R_pu rfl rfl ?_
         refine R_pu rfl rfl ?_
         refine R_pu rfl rfl ?_
         refine R_p rfl rfl rfl ?_
         refine R_w rfl rfl rfl (E_pick rfl ?_)
         refine R_o rfl (E_pick rfl ?_)
         refine R_nil (C_true (t := 109) rfl ?_)
         refine C_seq (C_region rfl (R_o rfl (E_move (R_o rfl (E_assign (R_nil (C_region rfl (R_o rfl (E_assign (R_nil (C_region rfl (R_o rfl (E_move (R_o rfl (E_add rfl rfl (by omega) ?_)))))))))))))))
         refine R_o rfl (E_assign (R_nil ?_))
         first
           | exact ⟨hd, N - (n + 1), by omega, n + 1, maskL items n, true, .slice A12 (maskL items n).length c12, rfl, rfl, by omega, hB.take (by unfold tooMany; omega) (fun h => absurd h (fdf h90)), H.al⟩
           | exact ⟨hd, N - (n + 1), by omega, n + 1, maskL items n, true, .slice A12 (maskL items n).length c12, rfl, rfl, by omega, hB.take (by unfold tooMany; omega) (fun _ => .inl (by omega)), H.al⟩
           | exact ⟨hd, N - (n + 1), by omega, n + 1, maskL items n, true, .slice A12 (maskL items n).length c12, rfl, rfl, by omega, hB.take (by unfold tooMany; omega) (fun _ => .inr ⟨by omega, hbl.1 h109⟩), H.al⟩
           | exact ⟨hd, N - (n + 1), by omega, n + 1, best, fd, .slice A9 best.length c9, rfl, rfl, by omega, hB.leave (fun ht => (by unfold tooMany at ht; omega)), H.al⟩
           | exact ⟨hd, N - (n + 1), by omega, n + 1, best, fd, .slice A9 best.length c9, rfl, rfl, by omega, hB.leave (fun _ => ⟨fdt h90, nb_len (by omega) (by omega)⟩), H.al⟩
           | exact ⟨hd, N - (n + 1), by omega, n + 1, best, fd, .slice A9 best.length c9, rfl, rfl, by omega, hB.leave (fun _ => ⟨fdt h90, nb_lex (by omega) hbl h109⟩), H.al⟩
        ·
         refine R_w rfl rfl rfl (E_move ?_)
         refine R_w rfl rfl rfl (E_len rfl ?_)
         refine R_w rfl rfl rfl (E_move ?_)
         refine R_w rfl rfl rfl (E_len rfl ?_)
         refine R_w rfl rfl rfl (E_eql rfl rfl ?_)
         refine R_w rfl rfl rfl (E_move ?_)
         refine R_part (t := 103) rfl (fun h103 => ?_) (fun h103 => ?_)
         ·
          refine R_w rfl rfl rfl (E_move ?_)
          refine R_w rfl rfl rfl (E_move ?_)
          refine R_w rfl rfl rfl (E_call rfl (R9less_ (a := maskL items n) (b := best) (H.fr (rdv (.slice A12 (maskL items n).length c12) (fun w => RdI w (.slice A12 (maskL items n).length c12) (maskL items n)))).read (H.fr (rdv (.slice A9 best.length c9) (fun w => RdI w (.slice A9 best.length c9) best))).read (by omega)) ?_)
          rintro _ w1 ⟨bl, rfl, hbl, hb⟩
          replace H := H.call0 hb; clear hb
          refine R_w rfl rfl rfl (E_pick rfl ?_)
          refine R_w rfl rfl rfl (E_pick rfl ?_)
          refine R_o rfl (E_pick rfl ?_)
          refine R_nil (C_condb (t := 109) rfl (fun h109 => ?_) (fun h109 => ?_))
          ·
           refine C_seq (C_region rfl (R_o rfl (E_move (R_o rfl (E_assign (R_nil (C_region rfl (R_o rfl (E_assign (R_nil (C_region rfl (R_o rfl (E_move (R_o rfl (E_add rfl rfl (by omega) ?_)))))))))))))))
           refine R_o rfl (E_assign (R_nil ?_))
           first
             | exact ⟨hd, N - (n + 1), by omega, n + 1, maskL items n, true, .slice A12 (maskL items n).length c12, rfl, rfl, by omega, hB.take (by unfold tooMany; omega) (fun h => absurd h (fdf h90)), H.al⟩
             | exact ⟨hd, N - (n + 1), by omega, n + 1, maskL items n, true, .slice A12 (maskL items n).length c12, rfl, rfl, by omega, hB.take (by unfold tooMany; omega) (fun _ => .inl (by omega)), H.al⟩
             | exact ⟨hd, N - (n + 1), by omega, n + 1, maskL items n, true, .slice A12 (maskL items n).length c12, rfl, rfl, by omega, hB.take (by unfold tooMany; omega) (fun _ => .inr ⟨by omega, hbl.1 h109⟩), H.al⟩
             | exact ⟨hd, N - (n + 1), by omega, n + 1, best, fd, .slice A9 best.length c9, rfl, rfl, by omega, hB.leave (fun ht => (by unfold tooMany at ht; omega)), H.al⟩
             | exact ⟨hd, N - (n + 1), by omega, n + 1, best, fd, .slice A9 best.length c9, rfl, rfl, by omega, hB.leave (fun _ => ⟨fdt h90, nb_len (by omega) (by omega)⟩), H.al⟩
             | exact ⟨hd, N - (n + 1), by omega, n + 1, best, fd, .slice A9 best.length c9, rfl, rfl, by omega, hB.leave (fun _ => ⟨fdt h90, nb_lex (by omega) hbl h109⟩), H.al⟩
          ·
           refine C_skip (C_region rfl (R_o rfl (E_move (R_o rfl (E_add rfl rfl (by omega) ?_)))))
           refine R_o rfl (E_assign (R_nil ?_))
           first
             | exact ⟨hd, N - (n + 1), by omega, n + 1, maskL items n, true, .slice A12 (maskL items n).length c12, rfl, rfl, by omega, hB.take (by unfold tooMany; omega) (fun h => absurd h (fdf h90)), H.al⟩
             | exact ⟨hd, N - (n + 1), by omega, n + 1, maskL items n, true, .slice A12 (maskL items n).length c12, rfl, rfl, by omega, hB.take (by unfold tooMany; omega) (fun _ => .inl (by omega)), H.al⟩
             | exact ⟨hd, N - (n + 1), by omega, n + 1, maskL items n, true, .slice A12 (maskL items n).length c12, rfl, rfl, by omega, hB.take (by unfold tooMany; omega) (fun _ => .inr ⟨by omega, hbl.1 h109⟩), H.al⟩
             | exact ⟨hd, N - (n + 1), by omega, n + 1, best, fd, .slice A9 best.length c9, rfl, rfl, by omega, hB.leave (fun ht => (by unfold tooMany at ht; omega)), H.al⟩
             | exact ⟨hd, N - (n + 1), by omega, n + 1, best, fd, .slice A9 best.length c9, rfl, rfl, by omega, hB.leave (fun _ => ⟨fdt h90, nb_len (by omega) (by omega)⟩), H.al⟩
             | exact ⟨hd, N - (n + 1), by omega, n + 1, best, fd, .slice A9 best.length c9, rfl, rfl, by omega, hB.leave (fun _ => ⟨fdt h90, nb_lex (by omega) hbl h109⟩), H.al⟩
         ·
          refine R_p rfl rfl rfl ?_
          refine R_p rfl rfl rfl ?_
          refine R_p rfl rfl rfl ?_
          refine R_w rfl rfl rfl (E_pick rfl ?_)
          refine R_w rfl rfl rfl (E_pick rfl ?_)
          refine R_o rfl (E_pick rfl ?_)
          refine R_nil (C_false (t := 109) rfl ?_)
          refine C_skip (C_region rfl (R_o rfl (E_move (R_o rfl (E_add rfl rfl (by omega) ?_)))))
          refine R_o rfl (E_assign (R_nil ?_))
          first
            | exact ⟨hd, N - (n + 1), by omega, n + 1, maskL items n, true, .slice A12 (maskL items n).length c12, rfl, rfl, by omega, hB.take (by unfold tooMany; omega) (fun h => absurd h (fdf h90)), H.al⟩
            | exact ⟨hd, N - (n + 1), by omega, n + 1, maskL items n, true, .slice A12 (maskL items n).length c12, rfl, rfl, by omega, hB.take (by unfold tooMany; omega) (fun _ => .inl (by omega)), H.al⟩
            | exact ⟨hd, N - (n + 1), by omega, n + 1, maskL items n, true, .slice A12 (maskL items n).length c12, rfl, rfl, by omega, hB.take (by unfold tooMany; omega) (fun _ => .inr ⟨by omega, hbl.1 h109⟩), H.al⟩
            | exact ⟨hd, N - (n + 1), by omega, n + 1, best, fd, .slice A9 best.length c9, rfl, rfl, by omega, hB.leave (fun ht => (by unfold tooMany at ht; omega)), H.al⟩
            | exact ⟨hd, N - (n + 1), by omega, n + 1, best, fd, .slice A9 best.length c9, rfl, rfl, by omega, hB.leave (fun _ => ⟨fdt h90, nb_len (by omega) (by omega)⟩), H.al⟩
            | exact ⟨hd, N - (n + 1), by omega, n + 1, best, fd, .slice A9 best.length c9, rfl, rfl, by omega, hB.leave (fun _ => ⟨fdt h90, nb_lex (by omega) hbl h109⟩), H.al⟩
      ·
       refine R_p rfl rfl rfl ?_
       refine R_p rfl rfl rfl ?_
       refine R_p rfl rfl rfl ?_
       refine R_pu rfl rfl ?_
       refine R_pu rfl rfl ?_
       refine R_pu rfl rfl ?_
       refine R_pu rfl rfl ?_
       refine R_pu rfl rfl ?_
       refine R_p rfl rfl rfl ?_
       refine R_p rfl rfl rfl ?_
       refine R_pu rfl rfl ?_
       refine R_pu rfl rfl ?_
       refine R_pu rfl rfl ?_
       refine R_pu rfl rfl ?_
       refine R_pu rfl rfl ?_
       refine R_pu rfl rfl ?_
       refine R_pu rfl rfl ?_
       refine R_pu rfl rfl ?_
       refine R_pu rfl rfl ?_
       refine R_pu rfl rfl ?_
       refine R_p rfl rfl rfl ?_
       refine R_o rfl (E_pick rfl ?_)
       refine R_nil (C_false (t := 109) rfl ?_)
       refine C_skip (C_region rfl (R_o rfl (E_move (R_o rfl (E_add rfl rfl (by omega) ?_)))))
       refine R_o rfl (E_assign (R_nil ?_))
       first
         | exact ⟨hd, N - (n + 1), by omega, n + 1, maskL items n, true, .slice A12 (maskL items n).length c12, rfl, rfl, by omega, hB.take (by unfold tooMany; omega) (fun h => absurd h (fdf h90)), H.al⟩
         | exact ⟨hd, N - (n + 1), by omega, n + 1, maskL items n, true, .slice A12 (maskL items n).length c12, rfl, rfl, by omega, hB.take (by unfold tooMany; omega) (fun _ => .inl (by omega)), H.al⟩
         | exact ⟨hd, N - (n + 1), by omega, n + 1, maskL items n, true, .slice A12 (maskL items n).length c12, rfl, rfl, by omega, hB.take (by unfold tooMany; omega) (fun _ => .inr ⟨by omega, hbl.1 h109⟩), H.al⟩
         | exact ⟨hd, N - (n + 1), by omega, n + 1, best, fd, .slice A9 best.length c9, rfl, rfl, by omega, hB.leave (fun ht => (by unfold tooMany at ht; omega)), H.al⟩
         | exact ⟨hd, N - (n + 1), by omega, n + 1, best, fd, .slice A9 best.length c9, rfl, rfl, by omega, hB.leave (fun _ => ⟨fdt h90, nb_len (by omega) (by omega)⟩), H.al⟩
         | exact ⟨hd, N - (n + 1), by omega, n + 1, best, fd, .slice A9 best.length c9, rfl, rfl, by omega, hB.leave (fun _ => ⟨fdt h90, nb_lex (by omega) hbl h109⟩), H.al⟩
   ·
    obtain rfl : n = N := by omega
    refine C_exit ?_
    refine C_seq (C_region rfl (R_o rfl (E_move (R_o rfl (E_move (R_o rfl (E_assign (R_o rfl (E_assign (R_o rfl (E_assign (R_nil (C_ret ?_)))))))))))))
    with_reducible repeat (first | refine thn_ret ?_ | refine inB_ret ?_ | refine noG_ret ?_ | refine jmp_ret ?_)
    refine ret_three rfl hd ⟨v9, fd, rfl, ?_⟩
    rw [hNp] at hB
    have hF := hB.few
    cases fd with
    | false => exact .inl ⟨rfl, by simpa using hF, H.below⟩
    | true => exact .inr ⟨rfl, best, by simpa using hF, H⟩
end Go.Sl
