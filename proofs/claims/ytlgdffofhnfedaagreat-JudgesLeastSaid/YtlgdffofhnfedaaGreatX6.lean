/- weights. -/
import Derived.Test.YtlgdffofhnfedaaGreatX5
set_option linter.unusedVariables false
set_option linter.unusedSimpArgs false
set_option maxRecDepth 10000
namespace Go.Sl
open Go.RowKit
open Go.Proofs
theorem WCheck11_ {w0 : World} {n : Int} : Ret Tryz.prog 93 [.int .i64 n] w0 (fun v w => v = .bool (decide (¬ (-1000000 ≤ n ∧ n ≤ 1000000))) ∧ Below w0.heap.size w0 w) := by
 refine ret_of_C Tryz.func93 rfl rfl rfl ?_
 have H := Loc.refl w0
 refine C_seq (C_region rfl (R_o rfl (E_assign (R_nil (C_seq (C_region rfl (R_o rfl (E_move (R_o rfl (E_lss rfl rfl ?_))))))))))
 refine R_o rfl (E_move (R_part (t := 5) rfl (fun h5 => ?_) (fun h5 => ?_)))
 ·
  refine R_p rfl rfl rfl ?_
  refine R_p rfl rfl rfl ?_
  refine R_o rfl (E_pick rfl ?_)
  refine R_o rfl (E_assign (R_nil (C_ret ?_)))
  with_reducible repeat (first | refine thn_ret ?_ | refine inB_ret ?_ | refine noG_ret ?_)
  first
    | exact ret_one rfl rfl ⟨congrArg Value.bool (decide_eq_true (by omega)).symm, H.below⟩
    | exact ret_one rfl rfl ⟨congrArg Value.bool (decide_eq_decide.2 (by omega)), H.below⟩
 ·
  refine R_w rfl rfl rfl (E_move ?_)
  refine R_w rfl rfl rfl (E_gtr rfl rfl ?_)
  refine R_o rfl (E_pick rfl ?_)
  refine R_o rfl (E_assign (R_nil (C_ret ?_)))
  with_reducible repeat (first | refine thn_ret ?_ | refine inB_ret ?_ | refine noG_ret ?_)
  first
    | exact ret_one rfl rfl ⟨congrArg Value.bool (decide_eq_true (by omega)).symm, H.below⟩
    | exact ret_one rfl rfl ⟨congrArg Value.bool (decide_eq_decide.2 (by omega)), H.below⟩
theorem WCheck1_ {w0 : World} {u : Value} {x : List Int} {a : Addr} {n : Int} (hc : w0.cell? a = some (.int .i64 n)) (hu : RdI w0 u x) :
   Ret Tryz.prog 91 [u, .pointer (some a)] w0 (fun v w => v = .bool (decide (¬ (x.length : Int) = n ∨ ∃ y ∈ x, ¬ (-1000000 ≤ y ∧ y ≤ 1000000))) ∧ Below w0.heap.size w0 w) := by
 refine ret_of_C Tryz.func91 rfl rfl rfl ?_
 have H := Loc.refl w0
 obtain ⟨A, c, rfl, hc1, hc2⟩ := hu.len
 refine C_seq (C_region rfl (R_o rfl (E_assign (R_nil (C_seq (C_region rfl (R_o rfl (E_move (R_o rfl (E_len rfl ?_))))))))))
 refine R_o rfl (E_load_cell rfl (Below.cell_some H.below hc) ?_)
 refine R_o rfl (E_neq rfl rfl ?_)
 refine R_o rfl (E_move (R_part (t := 8) rfl (fun h8 => ?_) (fun h8 => ?_)))
 ·
  refine R_p rfl rfl rfl ?_
  refine R_p rfl rfl rfl ?_
  refine R_o rfl (E_pick rfl ?_)
  refine R_o rfl (E_assign (R_nil (C_ret ?_)))
  with_reducible repeat (first | refine thn_ret ?_ | refine inB_ret ?_ | refine noG_ret ?_)
  first
    | exact ret_one rfl rfl ⟨congrArg Value.bool (decide_eq_true (.inl h8)).symm, H.below⟩
    | exact ret_one rfl rfl ⟨congrArg Value.bool (by
        show (x.any fun x : Int => decide (¬ (-1000000 ≤ x ∧ x ≤ 1000000))) = decide _
        rw [Bool.eq_iff_iff, List.any_eq_true, decide_eq_true_iff]
        exact ⟨fun ⟨y, hy, hh⟩ => .inr ⟨y, hy, of_decide_eq_true hh⟩, fun hh => hh.elim (fun h => absurd h h8) (fun ⟨y, hy, h⟩ => ⟨y, hy, decide_eq_true h⟩)⟩), H.below⟩
 ·
  refine R_w rfl rfl rfl (E_move ?_)
  refine R_w rfl rfl rfl (E_call rfl (ContainsFunc_ints (p := fun x : Int => decide (¬ (-1000000 ≤ x ∧ x ≤ 1000000))) (Abides.below H.below hu) ⟨93, #[], #[], rfl, by kernel_rfl, fun w' x u hb _ hu => by rw [show u = .int .i64 x from hu]; exact WCheck11_⟩) ?_)
  rintro _ w1 ⟨rfl, hb⟩
  replace H := H.call0 hb; clear hb
  refine R_o rfl (E_pick rfl ?_)
  refine R_o rfl (E_assign (R_nil (C_ret ?_)))
  with_reducible repeat (first | refine thn_ret ?_ | refine inB_ret ?_ | refine noG_ret ?_)
  first
    | exact ret_one rfl rfl ⟨congrArg Value.bool (decide_eq_true (.inl h8)).symm, H.below⟩
    | exact ret_one rfl rfl ⟨congrArg Value.bool (by
        show (x.any fun x : Int => decide (¬ (-1000000 ≤ x ∧ x ≤ 1000000))) = decide _
        rw [Bool.eq_iff_iff, List.any_eq_true, decide_eq_true_iff]
        exact ⟨fun ⟨y, hy, hh⟩ => .inr ⟨y, hy, of_decide_eq_true hh⟩, fun hh => hh.elim (fun h => absurd h h8) (fun ⟨y, hy, h⟩ => ⟨y, hy, decide_eq_true h⟩)⟩), H.below⟩
theorem WCheck_ {w0 : World} {v : Value} {g : List (List Int)} {n : Int} (hg : RdII w0 v g) :
   Ret Tryz.prog 76 [v, .int .i64 n] w0 (fun v w => v = .bool (decide (okG g n)) ∧ Below w0.heap.size w0 w) := by
 refine ret_of_C Tryz.func76 rfl rfl rfl ?_
 have H := Loc.refl w0
 obtain ⟨A, c, rfl, hc1, hc2⟩ := hg.len
 refine C_seq (C_region rfl (R_o rfl (E_box (cs := [.int .i64 n]) rfl H ?_)))
 clear H; intro w b3 H
 refine R_o rfl (E_assign (R_nil (C_seq (C_region rfl (R_o rfl (E_load H rfl rfl ?_))))))
 refine R_o rfl (E_geq rfl rfl ?_)
 refine R_o rfl (E_move (R_part (t := 7) rfl (fun h1 => ?_) (fun h1 => ?_)))
 ·
  refine R_w rfl rfl rfl (E_load H rfl rfl ?_)
  refine R_w rfl rfl rfl (E_leq rfl rfl ?_)
  refine R_o rfl (E_pick rfl ?_)
  refine R_o rfl (E_move (R_part (t := 11) rfl (fun h2 => ?_) (fun h2 => ?_)))
  ·
   refine R_w rfl rfl rfl (E_move ?_)
   refine R_w rfl rfl rfl (E_len rfl ?_)
   refine R_w rfl rfl rfl (E_leq rfl rfl ?_)
   refine R_o rfl (E_pick rfl ?_)
   refine R_o rfl (E_move (R_part (t := 16) rfl (fun h3 => ?_) (fun h3 => ?_)))
   ·
    refine R_w rfl rfl rfl (E_move ?_)
    refine R_w rfl rfl rfl (E_makeFunc rfl rfl ?_)
    refine R_w rfl rfl rfl (E_call rfl (ContainsFunc_rows (p := fun x : List Int => decide (¬ (x.length : Int) = n ∨ ∃ y ∈ x, ¬ (-1000000 ≤ y ∧ y ≤ 1000000))) (Abides.below H.below hg) ⟨91, #[], #[.pointer (some ⟨b3, 0, none⟩)], rfl, by kernel_rfl, fun w' x u hb _ hu => WCheck1_ (Below.cell_some hb ((H.cell (b := b3) (o := 0)).trans rfl)) (Abides.below hb hu)⟩) ?_)
    rintro _ w1 ⟨rfl, hb⟩
    replace H := H.call0 hb; clear hb
    refine R_w rfl rfl rfl (E_notb rfl ?_)
    refine R_o rfl (E_pick rfl ?_)
    refine R_o rfl (E_assign (R_nil (C_ret ?_)))
    with_reducible repeat (first | refine thn_ret ?_ | refine inB_ret ?_ | refine noG_ret ?_)
    exact ret_one rfl rfl ⟨congrArg Value.bool (by
      first
        | (show (!(g.any fun x : List Int => decide (¬ (x.length : Int) = n ∨ ∃ y ∈ x, ¬ (-1000000 ≤ y ∧ y ≤ 1000000)))) = decide _
           rw [List.not_any_eq_all_not, Bool.eq_iff_iff, List.all_eq_true, decide_eq_true_iff]
           refine ⟨fun h => ⟨⟨by omega, by omega⟩, by omega, fun b hb => by have := h b hb; rw [Bool.not_eq_true'] at this; exact of_decide_eq_false this⟩, fun h b hb => by rw [Bool.not_eq_true']; exact decide_eq_false (h.2.2 b hb)⟩)
        | (symm; rw [show (_ : Bool) = false from rfl, decide_eq_false_iff_not]; intro h; have h4 := h.1; have h5 := h.2.1; omega)), H.below⟩
   ·
    refine R_p rfl rfl rfl ?_
    refine R_p rfl rfl rfl ?_
    refine R_p rfl rfl rfl ?_
    refine R_p rfl rfl rfl ?_
    refine R_o rfl (E_pick rfl ?_)
    refine R_o rfl (E_assign (R_nil (C_ret ?_)))
    with_reducible repeat (first | refine thn_ret ?_ | refine inB_ret ?_ | refine noG_ret ?_)
    exact ret_one rfl rfl ⟨congrArg Value.bool (by
      first
        | (show (!(g.any fun x : List Int => decide (¬ (x.length : Int) = n ∨ ∃ y ∈ x, ¬ (-1000000 ≤ y ∧ y ≤ 1000000)))) = decide _
           rw [List.not_any_eq_all_not, Bool.eq_iff_iff, List.all_eq_true, decide_eq_true_iff]
           refine ⟨fun h => ⟨⟨by omega, by omega⟩, by omega, fun b hb => by have := h b hb; rw [Bool.not_eq_true'] at this; exact of_decide_eq_false this⟩, fun h b hb => by rw [Bool.not_eq_true']; exact decide_eq_false (h.2.2 b hb)⟩)
        | (symm; rw [show (_ : Bool) = false from rfl, decide_eq_false_iff_not]; intro h; have h4 := h.1; have h5 := h.2.1; omega)), H.below⟩
  ·
   refine R_p rfl rfl rfl ?_
   refine R_p rfl rfl rfl ?_
   refine R_p rfl rfl rfl ?_
   refine R_o rfl (E_pick rfl ?_)
   refine R_o rfl (E_move (R_p rfl rfl rfl ?_))
   refine R_p rfl rfl rfl ?_
   refine R_p rfl rfl rfl ?_
   refine R_p rfl rfl rfl ?_
   refine R_o rfl (E_pick rfl ?_)
   refine R_o rfl (E_assign (R_nil (C_ret ?_)))
   with_reducible repeat (first | refine thn_ret ?_ | refine inB_ret ?_ | refine noG_ret ?_)
   exact ret_one rfl rfl ⟨congrArg Value.bool (by
     first
       | (show (!(g.any fun x : List Int => decide (¬ (x.length : Int) = n ∨ ∃ y ∈ x, ¬ (-1000000 ≤ y ∧ y ≤ 1000000)))) = decide _
          rw [List.not_any_eq_all_not, Bool.eq_iff_iff, List.all_eq_true, decide_eq_true_iff]
          refine ⟨fun h => ⟨⟨by omega, by omega⟩, by omega, fun b hb => by have := h b hb; rw [Bool.not_eq_true'] at this; exact of_decide_eq_false this⟩, fun h b hb => by rw [Bool.not_eq_true']; exact decide_eq_false (h.2.2 b hb)⟩)
       | (symm; rw [show (_ : Bool) = false from rfl, decide_eq_false_iff_not]; intro h; have h4 := h.1; have h5 := h.2.1; omega)), H.below⟩
 ·
  refine R_p rfl rfl rfl ?_
  refine R_p rfl rfl rfl ?_
  refine R_o rfl (E_pick rfl ?_)
  refine R_o rfl (E_move (R_p rfl rfl rfl ?_))
  refine R_p rfl rfl rfl ?_
  refine R_p rfl rfl rfl ?_
  refine R_o rfl (E_pick rfl ?_)
  refine R_o rfl (E_move (R_p rfl rfl rfl ?_))
  refine R_p rfl rfl rfl ?_
  refine R_p rfl rfl rfl ?_
  refine R_p rfl rfl rfl ?_
  refine R_o rfl (E_pick rfl ?_)
  refine R_o rfl (E_assign (R_nil (C_ret ?_)))
  with_reducible repeat (first | refine thn_ret ?_ | refine inB_ret ?_ | refine noG_ret ?_)
  exact ret_one rfl rfl ⟨congrArg Value.bool (by
    first
      | (show (!(g.any fun x : List Int => decide (¬ (x.length : Int) = n ∨ ∃ y ∈ x, ¬ (-1000000 ≤ y ∧ y ≤ 1000000)))) = decide _
         rw [List.not_any_eq_all_not, Bool.eq_iff_iff, List.all_eq_true, decide_eq_true_iff]
         refine ⟨fun h => ⟨⟨by omega, by omega⟩, by omega, fun b hb => by have := h b hb; rw [Bool.not_eq_true'] at this; exact of_decide_eq_false this⟩, fun h b hb => by rw [Bool.not_eq_true']; exact decide_eq_false (h.2.2 b hb)⟩)
      | (symm; rw [show (_ : Bool) = false from rfl, decide_eq_false_iff_not]; intro h; have h4 := h.1; have h5 := h.2.1; omega)), H.below⟩
def hadF (a : Nat → Nat → Int) (n j q i : Nat) : Nat → Int := fun w => if w < q then optB a n (j + 1) (fun b => w.testBit b) else if w = q then fm (optB a n j (fun b => q.testBit b)) (optH a n j (fun b => q.testBit b)) i else if w < 2 ^ n then optB a n j (fun b => w.testBit b) else 0
def had0 (a : Nat → Nat → Int) (n j : Nat) : Nat → Int := fun w => if w < 2 ^ n then optB a n j (fun b => w.testBit b) else 0
def hadQ (a : Nat → Nat → Int) (n j q : Nat) : Nat → Int := fun w => if w < q then optB a n (j + 1) (fun b => w.testBit b) else had0 a n j w
theorem hadQ_zero {a : Nat → Nat → Int} {n j m : Nat} : tint m (had0 a n j) = tint m (hadQ a n j 0) := tint_congr fun i _ => by simp [hadQ]
theorem hadQ_full {a : Nat → Nat → Int} {n j m : Nat} : tint m (hadQ a n j (2 ^ n)) = tint m (had0 a n (j + 1)) := tint_congr fun i _ => by
 simp only [hadQ, had0]
 split <;> rfl
theorem hadF_zero {a : Nat → Nat → Int} {n j q m : Nat} (hq : q < 2 ^ n) : tint m (hadQ a n j q) = tint m (hadF a n j q 0) := tint_congr fun i _ => by
 simp only [hadQ, hadF, had0, fm]
 by_cases h1 : i < q
 · rw [if_pos h1, if_pos h1]
 · rw [if_neg h1, if_neg h1]
   by_cases h2 : i = q
   · subst h2; rw [if_pos hq, if_pos rfl]
   · rw [if_neg h2]
theorem hadF_full {a : Nat → Nat → Int} {n j q m : Nat} : tint m (hadF a n j q n) = tint m (hadQ a n j (q + 1)) := tint_congr fun i _ => by
 simp only [hadQ, hadF, had0]
 by_cases h1 : i < q
 · rw [if_pos h1, if_pos (by omega)]
 · rw [if_neg h1]
   by_cases h2 : i = q
   · subst h2; rw [if_pos rfl, if_pos (by omega)]; rfl
   · rw [if_neg h2, if_neg (show ¬ i < q + 1 by omega)]
theorem hadF_q {a : Nat → Nat → Int} {n j q i : Nat} : hadF a n j q i q = fm (optB a n j (fun b => q.testBit b)) (optH a n j (fun b => q.testBit b)) i := by
 simp [hadF]
theorem hadF_same {a : Nat → Nat → Int} {n j q i m : Nat} (h : optH a n j (fun b => q.testBit b) i = none) : tint m (hadF a n j q i) = tint m (hadF a n j q (i + 1)) := tint_congr fun w _ => by
 simp only [hadF, fm, h]
theorem hadF_upd {a : Nat → Nat → Int} {n j q i m : Nat} {v x : Int} (h : optH a n j (fun b => q.testBit b) i = some x) (hv : v = max (fm (optB a n j (fun b => q.testBit b)) (optH a n j (fun b => q.testBit b)) i) x) : tint m (upd (hadF a n j q i) q v) = tint m (hadF a n j q (i + 1)) := tint_congr fun w _ => by
 simp only [upd]
 by_cases e : w = q
 · subst e; rw [if_pos rfl, hadF_q]
   have : fm (optB a n j (fun b => w.testBit b)) (optH a n j (fun b => w.testBit b)) (i + 1) = max (fm (optB a n j (fun b => w.testBit b)) (optH a n j (fun b => w.testBit b)) i) x := by
     rw [fm, h]
   rw [this, hv]
 · rw [if_neg e]; simp only [hadF, if_neg e]
theorem wbest_ {w0 : World} {v s : Value} {g : List (List Int)} {ks : List Int} {n : Int} (hg : RdII w0 v g) (hs : RdI w0 s ks) (hok : okG g n) (hks : ∀ x ∈ ks, 0 ≤ x ∧ x < n) (hl : ks.length ≤ 16) :
   Ret Tryz.prog 77 [v, s] w0 (fun v w => v = .int .i64 (optB (fun j i => gv g i (ks.getD j 0).toNat) g.length ks.length (fun _ => true)) ∧ Below w0.heap.size w0 w) := by
 refine ret_of_C Tryz.func77 rfl rfl rfl ?_
 have H := Loc.refl w0
 obtain ⟨A, c, rfl, hc1, hc2⟩ := hg.len
 obtain ⟨B, d, rfl, hd1, hd2⟩ := hs.len
 have hn8 := hok.2.1
 have hp := two_pow_le hn8
 obtain ⟨N, hN⟩ : ∃ N, N = 2 ^ g.length := ⟨_, rfl⟩
 rw [← hN] at hp
 have hab : ∀ (j i : Nat), -1000000 ≤ gv g i (ks.getD j 0).toNat ∧ gv g i (ks.getD j 0).toNat ≤ 1000000 := fun j i => hok.gv_le _ _
 refine C_seq (C_region rfl (R_o rfl (E_assign (R_nil (C_seq (C_region rfl (R_o rfl (E_alloc H ?_))))))))
 clear H; intro w b5 H
 rw [tint_const] at H
 refine R_nil (C_seq (C_seq (C_region rfl (R_o rfl (E_move (R_o rfl (E_len rfl ?_)))))))
 refine R_o rfl (E_move (R_nil (C_block (C_loop (ds := []) [0, 5, 12, 13, 14] (fun m_ vs w => ∃ k : Nat, vs = [.slice A g.length c, .pointer (some ⟨b5, 0, none⟩), .slice B ks.length d, .int .i64 ks.length, .int .i64 k] ∧ m_ = ks.length - k ∧ k ≤ ks.length ∧ (True) ∧ Loc w0 w [cl b5 89 (tint 256 (had0 (fun j i => gv g i (ks.getD j 0).toNat) g.length k))]) (m := ks.length) (by first | rfl | exact hd) ?_ ?_))))
 · rw [show tint 256 (fun _ => 0) = tint 256 (had0 (fun j i => gv g i (ks.getD j 0).toNat) g.length 0) from tint_congr fun i _ => by simp [had0, optB]] at H
   exact ⟨0, rfl, by omega, by omega, trivial, H⟩
 intro m vs ρ₀ w hd hI
 clear H
 obtain ⟨k, rfl, rfl, hk, hst, H⟩ := hI
 refine C_seq (C_region rfl (R_o rfl (E_lss rfl rfl ?_)))
 refine R_nil (C_seq (C_cond (t := 15) rfl (fun hlt => ?_) (fun hlt => ?_)))
 ·
  obtain ⟨x, hx⟩ := get_of (xs := ks) (k := k) (by omega)
  have hxb := hks x (mem_of_get hx)
  have hks0 : ks.getD k 0 = x := by simp [List.getD_eq_getElem?_getD, hx]
  refine C_skip (C_seq (C_block (C_seq (C_region rfl (R_o rfl (E_idxr hs rfl rfl (by omega) (by omega) ?_))))))
  refine R_o rfl (E_loadi hs H rfl hx ?_)
  refine R_o rfl (E_assign (R_nil (C_seq (C_region rfl (R_o rfl (E_loadw H rfl (by rfl) ?_))))))
  refine R_o rfl (E_alloc H ?_)
  clear H; intro w b8 H
  refine R_n rfl (E_storeall (vs := tint 256 (had0 (fun j i => gv g i (ks.getD j 0).toNat) g.length k)) H rfl rfl (ints_one _ _) (by rfl) (by rfl) ?_)
  clear H; intro w H
  refine R_nil (C_seq (C_region rfl (R_o rfl (E_move (R_o rfl (E_len rfl ?_))))))
  refine R_o rfl (E_shl1 (i := g.length) rfl rfl (by omega) ?_)
  rw [← hN]
  refine R_o rfl (E_move (R_nil (C_block (C_loop (ds := []) [0, 5, 7, 8, 12, 13, 14, 21, 22] (fun m_ vs w => ∃ q : Nat, vs = [.slice A g.length c, .pointer (some ⟨b5, 0, none⟩), .int .i64 x, .pointer (some ⟨b8, 0, none⟩), .slice B ks.length d, .int .i64 ks.length, .int .i64 k, .int .i64 (N : Nat), .int .i64 q] ∧ m_ = N - q ∧ q ≤ N ∧ (True) ∧ Loc w0 w [cl b5 89 (tint 256 (hadQ (fun j i => gv g i (ks.getD j 0).toNat) g.length k q)), cl b8 89 (tint 256 (had0 (fun j i => gv g i (ks.getD j 0).toNat) g.length k))]) (m := N) (by first | rfl | exact hd) ?_ ?_))))
  · replace H := H.swap
    replace H := H.cle (hadQ_zero (m := 256))
    exact ⟨0, rfl, by omega, by omega, trivial, H.o2⟩
  intro m vs ρ₀ w hd hI
  clear H
  obtain ⟨q, rfl, rfl, hq0, _, H⟩ := hI
  refine C_seq (C_region rfl (R_o rfl (E_lss rfl rfl ?_)))
  refine R_nil (C_seq (C_cond (t := 23) rfl (fun hlt2 => ?_) (fun hlt2 => ?_)))
  ·
   have hq : q < 2 ^ g.length := by rw [← hN]; omega
   refine C_skip (C_seq (C_block (C_seq (C_region rfl (R_o rfl (E_move (R_o rfl (E_assign (R_nil (C_seq (C_region rfl (R_o rfl (E_move (R_o rfl (E_len rfl ?_)))))))))))))))
   refine R_o rfl (E_move (R_nil (C_block (C_loop (ds := []) [0, 5, 7, 8, 9, 12, 13, 14, 21, 22, 25, 26, 27] (fun m_ vs w => ∃ i : Nat, vs = [.slice A g.length c, .pointer (some ⟨b5, 0, none⟩), .int .i64 x, .pointer (some ⟨b8, 0, none⟩), .int .i64 q, .slice B ks.length d, .int .i64 ks.length, .int .i64 k, .int .i64 (N : Nat), .int .i64 q, .slice A g.length c, .int .i64 g.length, .int .i64 i] ∧ m_ = g.length - i ∧ i ≤ g.length ∧ (True) ∧ Loc w0 w [cl b5 89 (tint 256 (hadF (fun j i => gv g i (ks.getD j 0).toNat) g.length k q i)), cl b8 89 (tint 256 (had0 (fun j i => gv g i (ks.getD j 0).toNat) g.length k))]) (m := g.length) (by first | rfl | exact hd) ?_ ?_))))
   · rw [hadF_zero hq] at H
     exact ⟨0, rfl, by omega, by omega, trivial, H⟩
   intro m vs ρ₀ w hd hI
   clear H
   obtain ⟨i, rfl, rfl, hi0, _, H⟩ := hI
   refine C_seq (C_region rfl (R_o rfl (E_lss rfl rfl ?_)))
   refine R_nil (C_seq (C_cond (t := 28) rfl (fun hlt3 => ?_) (fun hlt3 => ?_)))
   ·
    have hi8 : i < 8 := by omega
    obtain ⟨y, hy⟩ := get_of (xs := g) (k := i) (by omega)
    obtain ⟨z, hz⟩ := get_of (xs := y) (k := x.toNat) (by have := (hok.row hy).1; omega)
    have hgv : gv g i (ks.getD k 0).toNat = z := by rw [hks0]; exact gv_of hy hz
    refine C_skip (C_seq (C_block (C_seq (C_region rfl (R_o rfl (E_move (R_o rfl (E_idxr hg rfl rfl (by omega) (by omega) ?_))))))))
    refine R_o rfl (E_loadr hg H rfl hy ?_)
    intro u hu
    obtain ⟨Au, cu, rfl, hu1, hu2⟩ := hu.len
    refine R_o rfl (E_assign (R_o rfl (E_assign (R_nil (C_seq (C_region rfl (R_o rfl (E_move (R_o rfl (E_move (R_o rfl (E_shrn (a := q) (b := i) rfl rfl (by omega) ?_))))))))))))
    refine R_o rfl (E_and (a := q / 2 ^ i) (b := 1) rfl rfl (by have := Nat.div_le_self q (2 ^ i); omega) (by omega) ?_)
    refine R_o rfl (E_eql rfl rfl ?_)
    refine R_o rfl (E_move (R_part (t := 37) rfl (fun hbit => ?_) (fun hbit => ?_)))
    ·
     have hbit2 := (bit_iff q i).1 hbit
     refine R_w rfl rfl rfl (E_move ?_)
     refine R_w rfl rfl rfl (E_move ?_)
     refine R_w rfl rfl rfl (E_idxr hu rfl rfl (by omega) (by have := (hok.row hy).1; omega) ?_)
     refine R_w rfl rfl rfl (E_loadi hu H rfl hz ?_)
     refine R_w rfl rfl rfl (E_geq rfl rfl ?_)
     refine R_o rfl (E_pick rfl ?_)
     refine R_nil (C_cond (t := 43) rfl (fun hpos => ?_) (fun hpos => ?_))
     ·
      have hhad : had0 (fun j i => gv g i (ks.getD j 0).toNat) g.length k (andNot q (2 ^ i)) = optB (fun j i => gv g i (ks.getD j 0).toNat) g.length k (no (fun b => q.testBit b) i) := by
        unfold had0; rw [if_pos (andNot_lt hq), tb_andNot]
      have hopt : optH (fun j i => gv g i (ks.getD j 0).toNat) g.length k (fun b => q.testBit b) i = some (optB (fun j i => gv g i (ks.getD j 0).toNat) g.length k (no (fun b => q.testBit b) i) + z) := by
        unfold optH; rw [if_pos ⟨hbit2, by show 0 ≤ gv g i (ks.getD k 0).toNat; rw [hgv]; exact hpos⟩]; show some (_ + gv g i (ks.getD k 0).toNat) = _; rw [hgv]
      have hb1 := optB_nonneg (fun j i => gv g i (ks.getD j 0).toNat) g.length k (no (fun b => q.testBit b) i)
      have hb2 := optB_bound (a := (fun j i => gv g i (ks.getD j 0).toNat)) (m := g.length) (n := k) (F := no (fun b => q.testBit b) i) (fun j _ i _ => (hab j i).2)
      have hb3 := hab k i
      rw [hgv] at hb3
      refine C_drawL [18] H (by kernel_rfl) (fun w H => ?_)
      refine D_takeT 0 rfl rfl rfl (by kernel_rfl) (fun w K Z kk => E_move kk) ?_
      refine D_takeT 1 rfl rfl rfl (by kernel_rfl) (fun w K Z kk => E_move kk) ?_
      refine D_takeT 2 rfl rfl rfl (by kernel_rfl) (fun w K Z kk => E_idxa rfl rfl (by omega) (by omega) kk) ?_
      refine D_take 3 rfl rfl rfl (by kernel_rfl) (by first | exact H | exact H.drop | exact H.drop.drop | exact H.drop.drop.drop | exact H.drop.drop.drop.drop) (fun w HS K Z kk => E_loadt q HS rfl (by simp) (by omega) kk) ?_
      refine D_takeT 4 rfl rfl rfl (by kernel_rfl) (fun w K Z kk => E_move kk) ?_
      refine D_takeT 5 rfl rfl rfl (by kernel_rfl) (fun w K Z kk => E_move kk) ?_
      refine D_takeT 6 rfl rfl rfl (by kernel_rfl) (fun w K Z kk => E_shl1 (i := i) rfl rfl (by omega) kk) ?_
      refine D_takeT 7 rfl rfl rfl (by kernel_rfl) (fun w K Z kk => E_andNot (a := q) (b := 2 ^ i) rfl rfl (by omega) (by have := Nat.pow_lt_pow_right (a := 2) (by omega) hi8; omega) kk) ?_
      refine D_takeT 8 rfl rfl rfl (by kernel_rfl) (fun w K Z kk => E_idxa rfl rfl (by omega) (by have := andNot_lt (i := i) hq; rw [← hN] at this; omega) kk) ?_
      refine D_take 9 rfl rfl rfl (by kernel_rfl) (by first | exact H | exact H.drop | exact H.drop.drop | exact H.drop.drop.drop | exact H.drop.drop.drop.drop) (fun w HS K Z kk => E_loadt (andNot q (2 ^ i)) HS rfl (by simp) (by have := andNot_lt (i := i) hq; rw [← hN] at this; omega) kk) ?_
      refine D_takeT 10 rfl rfl rfl (by kernel_rfl) (fun w K Z kk => E_move kk) ?_
      refine D_takeT 11 rfl rfl rfl (by kernel_rfl) (fun w K Z kk => E_move kk) ?_
      refine D_takeT 12 rfl rfl rfl (by kernel_rfl) (fun w K Z kk => E_idxr hu rfl rfl (by omega) (by have := (hok.row hy).1; omega) kk) ?_
      refine D_take 13 rfl rfl rfl (by kernel_rfl) (by first | exact H | exact H.drop | exact H.drop.drop | exact H.drop.drop.drop | exact H.drop.drop.drop.drop) (fun w HS K Z kk => E_loadi hu HS rfl hz kk) ?_
      refine D_takeT 14 rfl rfl rfl (by kernel_rfl) (fun w K Z kk => E_add rfl rfl (by rw [hhad]; omega) kk) ?_
      refine D_act 15 rfl rfl (by kernel_rfl) (E_lit (vs := [.int .i64 (had0 (fun j i => gv g i (ks.getD j 0).toNat) g.length k (andNot q (2 ^ i)) + z)]) [.tmp 58] rfl rfl rfl rfl rfl H ?_)
      clear H; intro w b59 H
      refine ⟨fun _ _ => (by first | exact H | exact H.drop | exact H.drop.drop | exact H.drop.drop.drop | exact H.drop.drop.drop.drop), ?_⟩
      refine D_act 16 rfl rfl (by kernel_rfl) (E_call rfl (most_ints (RdI.of_cl (k := .i64) (xs := [had0 (fun j i => gv g i (ks.getD j 0).toNat) g.length k (andNot q (2 ^ i)) + z]) H (by simp))) ?_)
      rintro _ w1 ⟨rfl, hb⟩
      replace H := H.call0 hb; clear hb
      replace H := H.drop
      refine ⟨fun _ _ => (by first | exact H | exact H.drop | exact H.drop.drop | exact H.drop.drop.drop | exact H.drop.drop.drop.drop), ?_⟩
      refine D_takeT 17 rfl rfl rfl (by kernel_rfl) (fun w K Z kk => E_idxa rfl rfl (by omega) (by omega) kk) ?_
      refine D_actn 18 rfl (by kernel_rfl) (E_storet q H rfl rfl (by simp) (by omega) ?_)
      clear H; intro w H
      rw [hadF_upd hopt (by rw [hhad, hadF_q]; rfl)] at H
      refine ⟨fun h => Bool.noConfusion (h : true = false), ?_⟩
      refine D_done (by kernel_rfl) ?_
      refine C_region rfl (R_o rfl (E_add rfl rfl (by omega) ?_))
      refine R_o rfl (E_move (R_nil (⟨hd, g.length - (i + 1), by omega, i + 1, rfl, rfl, by omega, trivial, H.o2⟩)))
     ·
      rw [hadF_same (by unfold optH; rw [if_neg]; intro hh; have h2 : 0 ≤ gv g i (ks.getD k 0).toNat := hh.2; rw [hgv] at h2; exact hpos h2)] at H
      refine C_skip (C_region rfl (R_o rfl (E_add rfl rfl (by omega) ?_)))
      refine R_o rfl (E_move (R_nil (⟨hd, g.length - (i + 1), by omega, i + 1, rfl, rfl, by omega, trivial, H.o2⟩)))
    ·
     rw [hadF_same (by unfold optH; rw [if_neg]; intro hh; exact hbit ((bit_iff q i).2 hh.1))] at H
     refine R_p rfl rfl rfl ?_
     refine R_p rfl rfl rfl ?_
     refine R_p rfl rfl rfl ?_
     refine R_p rfl rfl rfl ?_
     refine R_p rfl rfl rfl ?_
     refine R_o rfl (E_pick rfl ?_)
     refine R_nil (C_false (t := 43) rfl ?_)
     refine C_skip (C_region rfl (R_o rfl (E_add rfl rfl (by omega) ?_)))
     refine R_o rfl (E_move (R_nil (⟨hd, g.length - (i + 1), by omega, i + 1, rfl, rfl, by omega, trivial, H.o2⟩)))
   ·
    have hi : i = g.length := by omega
    subst hi
    refine C_exit ?_
    refine C_region rfl (R_o rfl (E_add rfl rfl (by omega) ?_))
    refine R_o rfl (E_move (R_nil ?_))
    rw [hadF_full] at H
    refine ⟨hd, N - (q + 1), by omega, q + 1, rfl, rfl, by omega, trivial, H.o2⟩
  ·
   have hq : q = N := by omega
   rw [hq, hN] at H
   refine C_exit ?_
   refine C_region rfl (R_o rfl (E_add rfl rfl (by omega) ?_))
   refine R_o rfl (E_move (R_nil ?_))
   rw [hadQ_full] at H
   refine ⟨hd, ks.length - (k + 1), by omega, k + 1, rfl, rfl, by omega, trivial, H.o1⟩
 ·
  have hk : k = ks.length := by omega
  subst hk
  refine C_exit ?_
  refine C_seq (C_region rfl (R_o rfl (E_sliceArr rfl ?_)))
  refine R_o rfl (E_call rfl (most_ints (RdI.of_arr (n := 256) H (by omega))) ?_)
  rintro _ w1 ⟨rfl, hb⟩
  replace H := H.call0 hb; clear hb
  refine R_o rfl (E_assign (R_nil (C_ret ?_)))
  with_reducible repeat (first | refine thn_ret ?_ | refine inB_ret ?_ | refine noG_ret ?_)
  refine ret_one rfl hd ⟨congrArg (Value.int .i64) ?_, H.below⟩
  refine maxL_eq (fun x hx => ?_) (optB_nonneg _ _ _ _) (.inr ?_)
  · revert x
    rw [tab_all]
    intro i hi
    unfold had0
    split
    · exact optB_mono fun _ _ _ => rfl
    · exact optB_nonneg _ _ _ _
  · have hp0 := Nat.pow_pos (a := 2) (n := g.length) (by omega)
    refine mem_of_get (k := 2 ^ g.length - 1) ((tab_get (by omega)).trans (congrArg some ?_))
    unfold had0
    rw [if_pos (by omega)]
    exact optB_congr fun k hk => full_bits hk
theorem weach_ {w0 : World} {n : Nat} (hn : n ≤ 1000000) :
   Ret Tryz.prog 78 [.int .i64 n, .slice none 0 0] w0 (fun v w => Loc w0 w [row 3 1 v n (tint n fun i => (i : Int))]) := by
 refine ret_of_C Tryz.func78 rfl rfl rfl ?_
 have H := Loc.refl w0
 refine C_seq (C_region rfl (R_o rfl (E_assign (R_nil (C_seq (C_region rfl (R_o rfl (E_assign (R_nil (C_seq (C_seq (C_region rfl (R_o rfl (E_move (R_o rfl (E_move (R_nil (C_block (C_loop (ds := []) [1, 5, 7, 8] (fun m_ vs w => ∃ k : Nat, ∃ vl : Value, vs = [.slice none 0 0, vl, .int .i64 n, .int .i64 k] ∧ m_ = n - k ∧ k ≤ n ∧ (True) ∧ Loc w0 w [row 3 1 vl k (tint k fun i => (i : Int))]) (m := n) (by first | rfl | exact hd) ?_ ?_)))))))))))))))))))
 · replace H := (nilRow 3 1 H).rowe (cs' := tint 0 fun i => (i : Int)) rfl
   exact ⟨0, .slice none 0 0, rfl, by omega, by omega, trivial, H.o1⟩
 intro m vs ρ₀ w hd hI
 clear H
 obtain ⟨k, vl, rfl, rfl, hk, hst, H⟩ := hI
 refine C_seq (C_region rfl (R_o rfl (E_lss rfl rfl ?_)))
 refine R_nil (C_seq (C_cond (t := 9) rfl (fun hlt => ?_) (fun hlt => ?_)))
 ·
  refine C_skip (C_seq (C_block (C_seq (C_region rfl (R_o rfl (E_move (R_o rfl (E_assign (R_nil (C_region rfl (R_o rfl (E_move (R_o rfl (E_move (R_o rfl (E_lit (vs := [.int .i64 k]) [.tmp 12] rfl rfl rfl rfl rfl H ?_))))))))))))))))
  clear H; intro w b13 H
  refine R_o rfl (E_append1 (v := vl) (b := b13) (u := .int .i64 k) H rfl rfl rfl (by omega) (by omega) ?_)
  clear H; intro w v14 H
  refine R_o rfl (E_assign (R_nil (C_region rfl (R_o rfl (E_add rfl rfl (by omega) ?_)))))
  refine R_o rfl (E_move (R_nil ?_))
  rw [show tint k (fun i => (i : Int)) ++ [Value.int .i64 k] = tint (k + 1) (fun i => (i : Int)) by unfold tint; rw [tab_succ, ints_snoc]] at H
  refine ⟨hd, n - (k + 1), by omega, k + 1, v14, rfl, rfl, by omega, trivial, H.o1⟩
 ·
  have hk : k = n := by omega
  subst hk
  refine C_exit ?_
  refine C_seq (C_region rfl (R_o rfl (E_move (R_o rfl (E_move (R_o rfl (E_append_rd (v := vl) (A := none) (m := 0) (c := 0) (news := []) H rfl rfl rfl (fun j u hj => by simp at hj) rfl (by omega) (by omega) ?_)))))))
  clear H; intro w v18 H
  rw [List.append_nil, Nat.add_zero] at H
  refine R_o rfl (E_assign (R_nil (C_ret ?_)))
  with_reducible repeat (first | refine thn_ret ?_ | refine inB_ret ?_ | refine noG_ret ?_)
  exact ret_one rfl hd H
theorem each_opt {g : List (List Int)} {n : Nat} : optB (fun j i => gv g i ((tab n fun i => (i : Int)).getD j 0).toNat) g.length (tab n fun i => (i : Int)).length (fun _ => true) = bestV g n := by
 rw [tab_length]
 refine Eq.trans (optB_congr_a (a' := fun j i => gv g i j) fun i hi k hk => ?_) ?_
 · rw [List.getD_eq_getElem?_getD, tab_get hi]; simp
 · exact (optB_swap (a := gv g) (m := n) (n := g.length)).symm
def BestV (g : List (List Int)) (n : Nat) : Value := if okG g n then .tuple #[.int .i64 (bestV g n), .int .i64 0] else .tuple #[.int .i64 0, .int .i64 1]
theorem WBest_ {w0 : World} {v : Value} {g : List (List Int)} {n : Nat} (hg : RdII w0 v g) (hn : n ≤ 9223372036854775807) :
   Ret Tryz.prog 55 [v, .int .i64 n] w0 (fun v w => v = BestV g n ∧ Below w0.heap.size w0 w) := by
 refine ret_of_C Tryz.func55 rfl rfl rfl ?_
 have H := Loc.refl w0
 refine C_seq (C_region rfl (R_o rfl (E_assign (R_o rfl (E_assign (R_nil (C_seq (C_seq (C_region rfl (R_o rfl (E_move (R_o rfl (E_move (R_o rfl (E_call rfl (WCheck_ hg) ?_)))))))))))))))
 rintro _ w1 ⟨rfl, hb⟩
 replace H := H.call0 hb; clear hb
 refine R_o rfl (E_not rfl ?_)
 refine R_nil (C_cond (t := 9) rfl (fun hno => ?_) (fun hno => ?_))
 ·
  refine C_seq (C_region rfl (R_o rfl (E_assign (R_o rfl (E_assign (R_nil (C_ret ?_)))))))
  with_reducible repeat (first | refine thn_ret ?_ | refine inB_ret ?_ | refine noG_ret ?_)
  first
    | exact ret_two rfl rfl ⟨by unfold BestV; rw [if_neg hno]; rfl, H.below⟩
    | exact ret_two rfl rfl ⟨by unfold BestV; rw [if_pos hok, ← each_opt]; rfl, H.below⟩
 ·
  have hok : okG g n := Decidable.of_not_not hno
  refine C_skip (C_seq (C_region rfl (R_o rfl (E_move (R_o rfl (E_move (R_o rfl (E_call rfl (weach_ (n := n) (by have := hok.1; omega)) ?_))))))))
  rintro v12 w1 hc
  replace H := H.call1 hc; clear hc
  refine R_o rfl (E_call rfl (wbest_ (n := n) (ks := tab n fun i => (i : Int)) (Abides.below H.below hg) (row_rdI (S := fun x => v12.ownBlock = some x) ⟨fun _ => Iff.rfl, H.own⟩ (by simp)) hok (by rw [tab_all]; intro i hi; omega) (by rw [tab_length]; have := hok.1; omega)) ?_)
  rintro _ w1 ⟨rfl, hb⟩
  replace H := H.call0 hb; clear hb
  refine R_o rfl (E_assign (R_o rfl (E_assign (R_nil (C_ret ?_)))))
  with_reducible repeat (first | refine thn_ret ?_ | refine inB_ret ?_ | refine noG_ret ?_)
  first
    | exact ret_two rfl rfl ⟨by unfold BestV; rw [if_neg hno]; rfl, H.below⟩
    | exact ret_two rfl rfl ⟨by unfold BestV; rw [if_pos hok, ← each_opt]; rfl, H.below⟩
theorem R10Check_ {w0 : World} {v : Value} {g : List (List Int)} {n : Nat} (hg : RdII w0 v g) (hn : n ≤ 9223372036854775807) :
   Ret Tryz.prog 61 [v, .int .i64 n] w0 (fun v w => v = .bool (decide (okG g n)) ∧ Below w0.heap.size w0 w) := by
 refine ret_of_C Tryz.func61 rfl rfl rfl ?_
 have H := Loc.refl w0
 obtain ⟨A, c, rfl, hc1, hc2⟩ := hg.len
 refine C_seq (C_region rfl (R_o rfl (E_assign (R_nil (C_seq (C_seq (C_region rfl (R_o rfl (E_move (R_o rfl (E_lss rfl rfl ?_)))))))))))
 refine R_o rfl (E_move (R_part (t := 9) rfl (fun h1 => ?_) (fun h1 => ?_)))
 ·
  refine R_p rfl rfl rfl ?_
  refine R_p rfl rfl rfl ?_
  refine R_o rfl (E_pick rfl ?_)
  refine R_o rfl (E_move (R_p rfl rfl rfl ?_))
  refine R_p rfl rfl rfl ?_
  refine R_p rfl rfl rfl ?_
  refine R_o rfl (E_pick rfl ?_)
  refine R_nil (C_true (t := 17) rfl ?_)
  refine C_seq (C_region rfl (R_o rfl (E_assign (R_nil (C_ret ?_)))))
  with_reducible repeat (first | refine thn_ret ?_ | refine inB_ret ?_ | refine noG_ret ?_)
  first
    | exact ret_one rfl rfl ⟨congrArg Value.bool (decide_eq_false (fun h => by have := h.1; have := h.2.1; omega)).symm, H.below⟩
    | exact ret_one rfl hd ⟨congrArg Value.bool (decide_eq_false (fun h => h.2.2 x (mem_of_get hx) (by first | exact .inl h30 | exact .inr ⟨y, mem_of_get hy, by omega⟩))).symm, H.below⟩
    | exact ret_one rfl hd ⟨congrArg Value.bool (decide_eq_true ⟨hn3.1, hn3.2, fun l hl => by obtain ⟨j, hj, rfl⟩ := List.getElem_of_mem hl; exact hst j _ (by omega) (List.getElem?_eq_getElem hj)⟩).symm, H.below⟩
 ·
  refine R_w rfl rfl rfl (E_move ?_)
  refine R_w rfl rfl rfl (E_gtr rfl rfl ?_)
  refine R_o rfl (E_pick rfl ?_)
  refine R_o rfl (E_move (R_part (t := 13) rfl (fun h2 => ?_) (fun h2 => ?_)))
  ·
   refine R_p rfl rfl rfl ?_
   refine R_p rfl rfl rfl ?_
   refine R_p rfl rfl rfl ?_
   refine R_o rfl (E_pick rfl ?_)
   refine R_nil (C_true (t := 17) rfl ?_)
   refine C_seq (C_region rfl (R_o rfl (E_assign (R_nil (C_ret ?_)))))
   with_reducible repeat (first | refine thn_ret ?_ | refine inB_ret ?_ | refine noG_ret ?_)
   first
     | exact ret_one rfl rfl ⟨congrArg Value.bool (decide_eq_false (fun h => by have := h.1; have := h.2.1; omega)).symm, H.below⟩
     | exact ret_one rfl hd ⟨congrArg Value.bool (decide_eq_false (fun h => h.2.2 x (mem_of_get hx) (by first | exact .inl h30 | exact .inr ⟨y, mem_of_get hy, by omega⟩))).symm, H.below⟩
     | exact ret_one rfl hd ⟨congrArg Value.bool (decide_eq_true ⟨hn3.1, hn3.2, fun l hl => by obtain ⟨j, hj, rfl⟩ := List.getElem_of_mem hl; exact hst j _ (by omega) (List.getElem?_eq_getElem hj)⟩).symm, H.below⟩
  ·
   refine R_w rfl rfl rfl (E_move ?_)
   refine R_w rfl rfl rfl (E_len rfl ?_)
   refine R_w rfl rfl rfl (E_gtr rfl rfl ?_)
   refine R_o rfl (E_pick rfl ?_)
   refine R_nil (C_cond (t := 17) rfl (fun h3 => ?_) (fun h3 => ?_))
   ·
    refine C_seq (C_region rfl (R_o rfl (E_assign (R_nil (C_ret ?_)))))
    with_reducible repeat (first | refine thn_ret ?_ | refine inB_ret ?_ | refine noG_ret ?_)
    first
      | exact ret_one rfl rfl ⟨congrArg Value.bool (decide_eq_false (fun h => by have := h.1; have := h.2.1; omega)).symm, H.below⟩
      | exact ret_one rfl hd ⟨congrArg Value.bool (decide_eq_false (fun h => h.2.2 x (mem_of_get hx) (by first | exact .inl h30 | exact .inr ⟨y, mem_of_get hy, by omega⟩))).symm, H.below⟩
      | exact ret_one rfl hd ⟨congrArg Value.bool (decide_eq_true ⟨hn3.1, hn3.2, fun l hl => by obtain ⟨j, hj, rfl⟩ := List.getElem_of_mem hl; exact hst j _ (by omega) (List.getElem?_eq_getElem hj)⟩).symm, H.below⟩
   ·
    have hn3 : (1 ≤ (n : Int) ∧ (n : Int) ≤ 8) ∧ g.length ≤ 8 := ⟨⟨by omega, by omega⟩, by omega⟩
    refine C_skip (C_seq (C_seq (C_region rfl (R_o rfl (E_assign (R_nil (C_block (C_loop (ds := []) [0, 1, 5] (fun m_ vs w => ∃ k : Nat, vs = [.slice A g.length c, .int .i64 n, .int .i64 k] ∧ m_ = g.length - k ∧ k ≤ g.length ∧ (∀ j (y : List Int), j < k → g[j]? = some y → ¬ (¬ (y.length : Int) = n ∨ ∃ x ∈ y, ¬ (-1000000 ≤ x ∧ x ≤ 1000000))) ∧ Loc w0 w []) (m := g.length) (by first | rfl | exact hd) ?_ ?_))))))))
    · exact ⟨0, rfl, by omega, by omega, fun j y hj => by omega, H⟩
    intro m vs ρ₀ w hd hI
    clear H
    obtain ⟨k, rfl, rfl, hk, hst, H⟩ := hI
    refine C_seq (C_seq (C_region rfl (R_o rfl (E_move (R_o rfl (E_move (R_o rfl (E_len rfl ?_))))))))
    refine R_o rfl (E_lss rfl rfl ?_)
    refine R_nil (C_cond (t := 21) rfl (fun hlt => ?_) (fun hlt => ?_))
    ·
     obtain ⟨x, hx⟩ := get_of (xs := g) (k := k) (by omega)
     obtain ⟨u, hcx, hu⟩ := hg.at hx
     obtain ⟨Au, cu, rfl, hu1, hu2⟩ := hu.len
     refine C_skip (C_seq (C_block (C_seq (C_seq (C_region rfl (R_o rfl (E_move (R_o rfl (E_move (R_o rfl (E_idxr hg rfl rfl (by omega) (by omega) ?_)))))))))))
     refine R_o rfl (E_loadc hcx H rfl ?_)
     refine R_o rfl (E_len rfl ?_)
     refine R_o rfl (E_move (R_o rfl (E_neq rfl rfl ?_)))
     refine R_nil (C_cond (t := 30) rfl (fun h30 => ?_) (fun h30 => ?_))
     ·
      refine C_seq (C_region rfl (R_o rfl (E_assign (R_nil (C_ret ?_)))))
      with_reducible repeat (first | refine thn_ret ?_ | refine inB_ret ?_ | refine noG_ret ?_)
      first
        | exact ret_one rfl rfl ⟨congrArg Value.bool (decide_eq_false (fun h => by have := h.1; have := h.2.1; omega)).symm, H.below⟩
        | exact ret_one rfl hd ⟨congrArg Value.bool (decide_eq_false (fun h => h.2.2 x (mem_of_get hx) (by first | exact .inl h30 | exact .inr ⟨y, mem_of_get hy, by omega⟩))).symm, H.below⟩
        | exact ret_one rfl hd ⟨congrArg Value.bool (decide_eq_true ⟨hn3.1, hn3.2, fun l hl => by obtain ⟨j, hj, rfl⟩ := List.getElem_of_mem hl; exact hst j _ (by omega) (List.getElem?_eq_getElem hj)⟩).symm, H.below⟩
     ·
      have hxl : (x.length : Int) = n := Decidable.of_not_not h30
      refine C_skip (C_seq (C_region rfl (R_o rfl (E_assign (R_nil (C_block (C_loop (ds := []) [0, 1, 5, 6] (fun m_ vs w => ∃ j : Nat, vs = [.slice A g.length c, .int .i64 n, .int .i64 k, .int .i64 j] ∧ m_ = n - j ∧ j ≤ n ∧ (∀ i (y : Int), i < j → x[i]? = some y → -1000000 ≤ y ∧ y ≤ 1000000) ∧ Loc w0 w []) (m := n) (by first | rfl | exact hd) ?_ ?_)))))))
      · exact ⟨0, rfl, by omega, by omega, fun j y hj => by omega, H⟩
      intro m vs ρ₀ w hd hI
      clear H
      obtain ⟨j, rfl, rfl, hj, hst2, H⟩ := hI
      refine C_seq (C_seq (C_region rfl (R_o rfl (E_move (R_o rfl (E_move (R_o rfl (E_lss rfl rfl ?_))))))))
      refine R_nil (C_cond (t := 33) rfl (fun hlt2 => ?_) (fun hlt2 => ?_))
      ·
       obtain ⟨y, hy⟩ := get_of (xs := x) (k := j) (by omega)
       refine C_skip (C_seq (C_block (C_seq (C_region rfl (R_o rfl (E_move (R_o rfl (E_move (R_o rfl (E_idxr hg rfl rfl (by omega) (by omega) ?_))))))))))
       refine R_o rfl (E_loadc hcx H rfl ?_)
       refine R_o rfl (E_move (R_o rfl (E_idxr hu rfl rfl (by omega) (by omega) ?_)))
       refine R_o rfl (E_loadi hu H rfl hy ?_)
       refine R_o rfl (E_lss rfl rfl ?_)
       refine R_o rfl (E_move (R_part (t := 44) rfl (fun h44 => ?_) (fun h44 => ?_)))
       ·
        refine R_p rfl rfl rfl ?_
        refine R_p rfl rfl rfl ?_
        refine R_p rfl rfl rfl ?_
        refine R_p rfl rfl rfl ?_
        refine R_p rfl rfl rfl ?_
        refine R_p rfl rfl rfl ?_
        refine R_p rfl rfl rfl ?_
        refine R_p rfl rfl rfl ?_
        refine R_o rfl (E_pick rfl ?_)
        refine R_nil (C_true (t := 53) rfl ?_)
        refine C_seq (C_region rfl (R_o rfl (E_assign (R_nil (C_ret ?_)))))
        with_reducible repeat (first | refine thn_ret ?_ | refine inB_ret ?_ | refine noG_ret ?_)
        first
          | exact ret_one rfl rfl ⟨congrArg Value.bool (decide_eq_false (fun h => by have := h.1; have := h.2.1; omega)).symm, H.below⟩
          | exact ret_one rfl hd ⟨congrArg Value.bool (decide_eq_false (fun h => h.2.2 x (mem_of_get hx) (by first | exact .inl h30 | exact .inr ⟨y, mem_of_get hy, by omega⟩))).symm, H.below⟩
          | exact ret_one rfl hd ⟨congrArg Value.bool (decide_eq_true ⟨hn3.1, hn3.2, fun l hl => by obtain ⟨j, hj, rfl⟩ := List.getElem_of_mem hl; exact hst j _ (by omega) (List.getElem?_eq_getElem hj)⟩).symm, H.below⟩
       ·
        refine R_w rfl rfl rfl (E_move ?_)
        refine R_w rfl rfl rfl (E_move ?_)
        refine R_w rfl rfl rfl (E_idxr hg rfl rfl (by omega) (by omega) ?_)
        refine R_w rfl rfl rfl (E_loadc hcx H rfl ?_)
        refine R_w rfl rfl rfl (E_move ?_)
        refine R_w rfl rfl rfl (E_idxr hu rfl rfl (by omega) (by omega) ?_)
        refine R_w rfl rfl rfl (E_loadi hu H rfl hy ?_)
        refine R_w rfl rfl rfl (E_gtr rfl rfl ?_)
        refine R_o rfl (E_pick rfl ?_)
        refine R_nil (C_cond (t := 53) rfl (fun h53 => ?_) (fun h53 => ?_))
        ·
         refine C_seq (C_region rfl (R_o rfl (E_assign (R_nil (C_ret ?_)))))
         with_reducible repeat (first | refine thn_ret ?_ | refine inB_ret ?_ | refine noG_ret ?_)
         first
           | exact ret_one rfl rfl ⟨congrArg Value.bool (decide_eq_false (fun h => by have := h.1; have := h.2.1; omega)).symm, H.below⟩
           | exact ret_one rfl hd ⟨congrArg Value.bool (decide_eq_false (fun h => h.2.2 x (mem_of_get hx) (by first | exact .inl h30 | exact .inr ⟨y, mem_of_get hy, by omega⟩))).symm, H.below⟩
           | exact ret_one rfl hd ⟨congrArg Value.bool (decide_eq_true ⟨hn3.1, hn3.2, fun l hl => by obtain ⟨j, hj, rfl⟩ := List.getElem_of_mem hl; exact hst j _ (by omega) (List.getElem?_eq_getElem hj)⟩).symm, H.below⟩
        ·
         refine C_skip (C_region rfl (R_o rfl (E_move (R_o rfl (E_add rfl rfl (by omega) ?_)))))
         refine R_o rfl (E_assign (R_nil (⟨hd, n - (j + 1), by omega, j + 1, rfl, rfl, by omega, fun i z hi hz => ?_, H⟩)))
         by_cases e : i = j
         · subst e; rw [hy] at hz; cases hz; exact ⟨by omega, by omega⟩
         · exact hst2 i z (by omega) hz--
      ·
       have hj : j = n := by omega
       have hrow : ¬ (¬ (x.length : Int) = n ∨ ∃ y ∈ x, ¬ (-1000000 ≤ y ∧ y ≤ 1000000)) := by
         rintro (h | ⟨y, hy, h⟩)
         · exact h hxl
         · obtain ⟨i, hi, rfl⟩ := List.getElem_of_mem hy
           exact h (hst2 i _ (by omega) (List.getElem?_eq_getElem hi))
       refine C_exit ?_
       refine C_region rfl (R_o rfl (E_move (R_o rfl (E_add rfl rfl (by omega) ?_))))
       refine R_o rfl (E_assign (R_nil (⟨hd, g.length - (k + 1), by omega, k + 1, rfl, rfl, by omega, fun i y hi hy => ?_, H⟩)))
       by_cases e : i = k
       · subst e; rw [hx] at hy; cases hy; exact hrow
       · exact hst i y (by omega) hy--
    ·
     have hk : k = g.length := by omega
     refine C_exit ?_
     refine C_seq (C_region rfl (R_o rfl (E_assign (R_nil (C_ret ?_)))))
     with_reducible repeat (first | refine thn_ret ?_ | refine inB_ret ?_ | refine noG_ret ?_)
     first
       | exact ret_one rfl rfl ⟨congrArg Value.bool (decide_eq_false (fun h => by have := h.1; have := h.2.1; omega)).symm, H.below⟩
       | exact ret_one rfl hd ⟨congrArg Value.bool (decide_eq_false (fun h => h.2.2 x (mem_of_get hx) (by first | exact .inl h30 | exact .inr ⟨y, mem_of_get hy, by omega⟩))).symm, H.below⟩
       | exact ret_one rfl hd ⟨congrArg Value.bool (decide_eq_true ⟨hn3.1, hn3.2, fun l hl => by obtain ⟨j, hj, rfl⟩ := List.getElem_of_mem hl; exact hst j _ (by omega) (List.getElem?_eq_getElem hj)⟩).symm, H.below⟩
theorem xor_bit {q k : Nat} (h : q.testBit k = true) : q ^^^ 2 ^ k = andNot q (2 ^ k) := by
 unfold andNot
 congr 1
 apply Nat.eq_of_testBit_eq
 intro i
 rw [Nat.testBit_and, Nat.testBit_two_pow]
 by_cases e : k = i
 · subst e; simp [h]
 · simp [e]
theorem R10best_ {w0 : World} {v : Value} {g : List (List Int)} {n : Nat} (hg : RdII w0 v g) (hok : okG g n) :
   Ret Tryz.prog 62 [v, .int .i64 n] w0 (fun v w => v = .int .i64 (bestV g n) ∧ Below w0.heap.size w0 w) := by
 refine ret_of_C Tryz.func62 rfl rfl rfl ?_
 have H := Loc.refl w0
 obtain ⟨A, c, rfl, hc1, hc2⟩ := hg.len
 have hn8 := hok.1
 have hg8 := hok.2.1
 have hp := two_pow_le (n := n) (by omega)
 obtain ⟨N, hN⟩ : ∃ N, N = 2 ^ n := ⟨_, rfl⟩
 rw [← hN] at hp
 refine C_seq (C_region rfl (R_o rfl (E_assign (R_nil (C_seq (C_region rfl (R_o rfl (E_move (R_o rfl (E_convu rfl (by omega) ?_))))))))))
 refine R_o rfl (E_shl1 (i := n) rfl rfl (by omega) ?_)
 rw [← hN]
 refine R_o rfl (E_maken N N H rfl rfl (by omega) (by omega) (by omega) ?_)
 clear H; intro w b13 H
 rw [tint_const] at H
 refine R_o rfl (E_assign (R_nil (C_seq (C_seq (C_region rfl (R_o rfl (E_assign (R_nil (C_block (C_loop (ds := []) [0, 1, 5, 6] (fun m_ vs w => ∃ k : Nat, ∃ (Ah : Option Addr) (ch : Nat), vs = [.slice A g.length c, .int .i64 n, .slice Ah N ch, .int .i64 k] ∧ m_ = g.length - k ∧ k ≤ g.length ∧ (True) ∧ Loc w0 w [row 3 1 (.slice Ah N ch) N (tint N (had0 (gv g) n k))]) (m := g.length) (by first | rfl | exact hd) ?_ ?_))))))))))
 · replace H := H.rowe (cs' := tint N (had0 (gv g) n 0)) (tint_congr fun i _ => by simp [had0, optB])
   exact ⟨0, _, _, rfl, by omega, by omega, trivial, H⟩
 intro m vs ρ₀ w hd hI
 clear H
 obtain ⟨k, Ah, ch, rfl, rfl, hk, hst, H⟩ := hI
 refine C_seq (C_seq (C_region rfl (R_o rfl (E_move (R_o rfl (E_move (R_o rfl (E_len rfl ?_))))))))
 refine R_o rfl (E_lss rfl rfl ?_)
 refine R_nil (C_cond (t := 17) rfl (fun hlt => ?_) (fun hlt => ?_))
 ·
  obtain ⟨x, hx⟩ := get_of (xs := g) (k := k) (by omega)
  obtain ⟨u, hcx, hu⟩ := hg.at hx
  obtain ⟨Au, cu, rfl, hu1, hu2⟩ := hu.len
  have hxl := (hok.row hx).1
  obtain ⟨Ah', ch', e1, _, _, hcells⟩ := row_cells H.own
  cases e1
  refine C_skip (C_seq (C_block (C_seq (C_region rfl (R_o rfl (E_move (R_o rfl (E_append_rd (v := .slice none 0 0) (A := Ah) (m := N) (c := ch) (news := tint N (had0 (gv g) n k)) (nilRow 3 1 H) rfl rfl (by simp) hcells (ints_one _ _) (by omega) (by omega) ?_))))))))
  clear H; intro w v21 H
  rw [List.nil_append, Nat.zero_add] at H
  refine R_o rfl (E_assign (R_nil (C_seq (C_seq (C_region rfl (R_o rfl (E_assign (R_nil (C_block (C_loop (ds := []) [0, 1, 5, 6, 7, 8] (fun m_ vs w => ∃ q : Nat, ∃ vn : Value, vs = [.slice A g.length c, .int .i64 n, .slice Ah N ch, .int .i64 k, vn, .int .i64 q] ∧ m_ = N - q ∧ q ≤ N ∧ (True) ∧ Loc w0 w [row 3 1 vn N (tint N (hadQ (gv g) n k q)), row 3 1 (.slice Ah N ch) N (tint N (had0 (gv g) n k))]) (m := N) (by first | rfl | exact hd) ?_ ?_))))))))))
  · replace H := H.rowe (hadQ_zero (m := N))
    exact ⟨0, v21, rfl, by omega, by omega, trivial, H⟩
  intro m vs ρ₀ w hd hI
  clear H
  obtain ⟨q, vn, rfl, rfl, hq0, _, H⟩ := hI
  refine C_seq (C_seq (C_region rfl (R_o rfl (E_move (R_o rfl (E_move (R_o rfl (E_len rfl ?_))))))))
  refine R_o rfl (E_lss rfl rfl ?_)
  refine R_nil (C_cond (t := 25) rfl (fun hlt2 => ?_) (fun hlt2 => ?_))
  ·
   have hqN : q < N := by omega
   have hq : q < 2 ^ n := by rw [← hN]; exact hqN
   refine C_skip (C_seq (C_block (C_seq (C_region rfl (R_o rfl (E_assign (R_nil (C_block (C_loop (ds := []) [0, 1, 5, 6, 7, 8, 9] (fun m_ vs w => ∃ i : Nat, vs = [.slice A g.length c, .int .i64 n, .slice Ah N ch, .int .i64 k, vn, .int .i64 q, .int .i64 i] ∧ m_ = n - i ∧ i ≤ n ∧ (True) ∧ Loc w0 w [row 3 1 vn N (tint N (hadF (gv g) n k q i)), row 3 1 (.slice Ah N ch) N (tint N (had0 (gv g) n k))]) (m := n) (by first | rfl | exact hd) ?_ ?_)))))))))
   · replace H := H.rowe (hadF_zero hq)
     exact ⟨0, rfl, by omega, by omega, trivial, H⟩
   intro m vs ρ₀ w hd hI
   clear H
   obtain ⟨i, rfl, rfl, hi0, _, H⟩ := hI
   refine C_seq (C_seq (C_region rfl (R_o rfl (E_move (R_o rfl (E_move (R_o rfl (E_lss rfl rfl ?_))))))))
   refine R_nil (C_cond (t := 30) rfl (fun hlt3 => ?_) (fun hlt3 => ?_))
   ·
    have hi8 : i < 8 := by omega
    obtain ⟨z, hz⟩ := get_of (xs := x) (k := i) (by omega)
    have hgv : gv g k i = z := gv_of hx hz
    refine C_skip (C_seq (C_block (C_seq (C_region rfl (R_o rfl (E_move (R_o rfl (E_move (R_o rfl (E_convu rfl (by omega) ?_))))))))))
    refine R_o rfl (E_shrn (a := q) (b := i) rfl rfl (by omega) ?_)
    refine R_o rfl (E_and (a := q / 2 ^ i) (b := 1) rfl rfl (by have := Nat.div_le_self q (2 ^ i); omega) (by omega) ?_)
    refine R_o rfl (E_eql rfl rfl ?_)
    refine R_o rfl (E_move (R_part (t := 39) rfl (fun hbit => ?_) (fun hbit => ?_)))
    ·
     have hbit2 := (bit_iff q i).1 hbit
     refine R_w rfl rfl rfl (E_move ?_)
     refine R_w rfl rfl rfl (E_move ?_)
     refine R_w rfl rfl rfl (E_idxr hg rfl rfl (by omega) (by omega) ?_)
     refine R_w rfl rfl rfl (E_loadc hcx H rfl ?_)
     refine R_w rfl rfl rfl (E_move ?_)
     refine R_w rfl rfl rfl (E_idxr hu rfl rfl (by omega) (by omega) ?_)
     refine R_w rfl rfl rfl (E_loadi hu H rfl hz ?_)
     refine R_w rfl rfl rfl (E_geq rfl rfl ?_)
     refine R_o rfl (E_pick rfl ?_)
     refine R_nil (C_cond (t := 48) rfl (fun hpos => ?_) (fun hpos => ?_))
     ·
      have hxN : q ^^^ 2 ^ i < N := by rw [xor_bit hbit2, hN]; exact andNot_lt hq
      have hhad : had0 (gv g) n k (q ^^^ 2 ^ i) = optB (gv g) n k (no (fun b => q.testBit b) i) := by
        rw [xor_bit hbit2]; unfold had0; rw [if_pos (andNot_lt hq), tb_andNot]
      have hopt : optH (gv g) n k (fun b => q.testBit b) i = some (optB (gv g) n k (no (fun b => q.testBit b) i) + z) := by
        unfold optH; rw [if_pos ⟨hbit2, by rw [hgv]; exact hpos⟩, hgv]
      have hb1 := optB_nonneg (gv g) n k (no (fun b => q.testBit b) i)
      have hb2 := optB_bound (a := gv g) (m := n) (n := k) (F := no (fun b => q.testBit b) i) (fun j _ i _ => (hok.gv_le j i).2)
      have hb3 := hok.gv_le k i
      rw [hgv] at hb3
      refine C_drawL [24] H (by kernel_rfl) (fun w H => ?_)
      refine D_takeT 0 rfl rfl rfl (by kernel_rfl) (fun w K Z kk => E_move kk) ?_
      refine D_takeT 1 rfl rfl rfl (by kernel_rfl) (fun w K Z kk => E_move kk) ?_
      refine D_takeT 2 rfl rfl rfl (by kernel_rfl) (fun w K Z kk => E_move kk) ?_
      refine D_takeT 3 rfl rfl rfl (by kernel_rfl) (fun w K Z kk => E_move kk) ?_
      refine D_take 4 rfl rfl rfl (by kernel_rfl) (by first | exact H | exact H.drop | exact H.drop.drop | exact H.drop.drop.drop | exact H.drop.drop.drop.drop) (fun w HS K Z kk => E_idxw (v := vn) HS rfl rfl (by omega) (by omega) kk) ?_
      refine D_take 5 rfl rfl rfl (by kernel_rfl) (by first | exact H | exact H.drop | exact H.drop.drop | exact H.drop.drop.drop | exact H.drop.drop.drop.drop) (fun w HS K Z kk => E_loadw' (v := vn) HS rfl (tint_get (n := N) hqN) kk) ?_
      refine D_takeT 6 rfl rfl rfl (by kernel_rfl) (fun w K Z kk => E_move kk) ?_
      refine D_takeT 7 rfl rfl rfl (by kernel_rfl) (fun w K Z kk => E_move kk) ?_
      refine D_takeT 8 rfl rfl rfl (by kernel_rfl) (fun w K Z kk => E_move kk) ?_
      refine D_takeT 9 rfl rfl rfl (by kernel_rfl) (fun w K Z kk => E_convu rfl (by omega) kk) ?_
      refine D_takeT 10 rfl rfl rfl (by kernel_rfl) (fun w K Z kk => E_shl1 (i := i) rfl rfl (by omega) kk) ?_
      refine D_takeT 11 rfl rfl rfl (by kernel_rfl) (fun w K Z kk => E_xor (a := q) (b := 2 ^ i) rfl rfl (by omega) (by have := Nat.pow_lt_pow_right (a := 2) (by omega) hi8; omega) kk) ?_
      refine D_take 12 rfl rfl rfl (by kernel_rfl) (by first | exact H | exact H.drop | exact H.drop.drop | exact H.drop.drop.drop | exact H.drop.drop.drop.drop) (fun w HS K Z kk => E_idxw (v := .slice Ah N ch) HS rfl rfl (by omega) (by omega) kk) ?_
      refine D_take 13 rfl rfl rfl (by kernel_rfl) (by first | exact H | exact H.drop | exact H.drop.drop | exact H.drop.drop.drop | exact H.drop.drop.drop.drop) (fun w HS K Z kk => E_loadw' (v := .slice Ah N ch) HS rfl (tint_get hxN) kk) ?_
      refine D_takeT 14 rfl rfl rfl (by kernel_rfl) (fun w K Z kk => E_move kk) ?_
      refine D_takeT 15 rfl rfl rfl (by kernel_rfl) (fun w K Z kk => E_move kk) ?_
      refine D_takeT 16 rfl rfl rfl (by kernel_rfl) (fun w K Z kk => E_idxr hg rfl rfl (by omega) (by omega) kk) ?_
      refine D_take 17 rfl rfl rfl (by kernel_rfl) (by first | exact H | exact H.drop | exact H.drop.drop | exact H.drop.drop.drop | exact H.drop.drop.drop.drop) (fun w HS K Z kk => E_loadc hcx HS rfl kk) ?_
      refine D_takeT 18 rfl rfl rfl (by kernel_rfl) (fun w K Z kk => E_move kk) ?_
      refine D_takeT 19 rfl rfl rfl (by kernel_rfl) (fun w K Z kk => E_idxr hu rfl rfl (by omega) (by omega) kk) ?_
      refine D_take 20 rfl rfl rfl (by kernel_rfl) (by first | exact H | exact H.drop | exact H.drop.drop | exact H.drop.drop.drop | exact H.drop.drop.drop.drop) (fun w HS K Z kk => E_loadi hu HS rfl hz kk) ?_
      refine D_takeT 21 rfl rfl rfl (by kernel_rfl) (fun w K Z kk => E_add rfl rfl (by rw [Int.toNat_natCast, hhad]; omega) kk) ?_
      refine D_takeT 22 rfl rfl rfl (by kernel_rfl) (fun w K Z kk => E_max2 rfl rfl kk) ?_
      refine D_take 23 rfl rfl rfl (by kernel_rfl) (by first | exact H | exact H.drop | exact H.drop.drop | exact H.drop.drop.drop | exact H.drop.drop.drop.drop) (fun w HS K Z kk => E_idxw (v := vn) HS rfl rfl (by omega) (by omega) kk) ?_
      refine D_actn 24 rfl (by kernel_rfl) (E_storew (v := vn) (j := q) (u := .int .i64 (max (hadF (gv g) n k q i q) (had0 (gv g) n k (q ^^^ 2 ^ i) + z))) H rfl rfl rfl (by omega) ?_)
      clear H; intro w H
      rw [tint_set, hadF_upd hopt (by rw [hhad, hadF_q])] at H
      refine ⟨fun h => Bool.noConfusion (h : true = false), ?_⟩
      refine D_done (by kernel_rfl) ?_
      refine C_region rfl (R_o rfl (E_move (R_o rfl (E_add rfl rfl (by omega) ?_))))
      refine R_o rfl (E_assign (R_nil (⟨hd, n - (i + 1), by omega, i + 1, rfl, rfl, by omega, trivial, H.o2⟩)))
     ·
      replace H := H.rowe (hadF_same (by unfold optH; rw [if_neg]; intro hh; have h2 := hh.2; rw [hgv] at h2; exact hpos h2))
      refine C_skip (C_region rfl (R_o rfl (E_move (R_o rfl (E_add rfl rfl (by omega) ?_)))))
      refine R_o rfl (E_assign (R_nil (⟨hd, n - (i + 1), by omega, i + 1, rfl, rfl, by omega, trivial, H.o2⟩)))
    ·
     replace H := H.rowe (hadF_same (by unfold optH; rw [if_neg]; intro hh; exact hbit ((bit_iff q i).2 hh.1)))
     refine R_p rfl rfl rfl ?_
     refine R_p rfl rfl rfl ?_
     refine R_p rfl rfl rfl ?_
     refine R_p rfl rfl rfl ?_
     refine R_p rfl rfl rfl ?_
     refine R_p rfl rfl rfl ?_
     refine R_p rfl rfl rfl ?_
     refine R_p rfl rfl rfl ?_
     refine R_o rfl (E_pick rfl ?_)
     refine R_nil (C_false (t := 48) rfl ?_)
     refine C_skip (C_region rfl (R_o rfl (E_move (R_o rfl (E_add rfl rfl (by omega) ?_)))))
     refine R_o rfl (E_assign (R_nil (⟨hd, n - (i + 1), by omega, i + 1, rfl, rfl, by omega, trivial, H.o2⟩)))
   ·
    have hi : i = n := by omega
    rw [hi] at H
    refine C_exit ?_
    refine C_region rfl (R_o rfl (E_move (R_o rfl (E_add rfl rfl (by omega) ?_))))
    refine R_o rfl (E_assign (R_nil ?_))
    replace H := H.rowe hadF_full
    refine ⟨hd, N - (q + 1), by omega, q + 1, vn, rfl, rfl, by omega, trivial, H.o2⟩
  ·
   have hq : q = N := by omega
   rw [hq] at H
   replace H := H.rowe (show _ = tint N (hadQ (gv g) n k (2 ^ n)) by rw [hN])
   refine C_exit ?_
   refine C_region rfl (R_o rfl (E_move (R_o rfl (E_assign (R_nil (C_region rfl (R_o rfl (E_move (R_o rfl (E_add rfl rfl (by omega) ?_))))))))))
   refine R_o rfl (E_assign (R_nil ?_))
   obtain ⟨An, cn, rfl, _⟩ := H.len (v := vn)
   rw [hN] at hq0
   replace H := H.rowe (hadQ_full (n := n) (m := N))
   refine ⟨hd, g.length - (k + 1), by omega, k + 1, _, _, rfl, rfl, by omega, trivial, H.o1⟩
 ·
  have hk : k = g.length := by omega
  subst hk
  have hN1 : 1 ≤ N := by rw [hN]; exact Nat.pow_pos (by omega)
  refine C_exit ?_
  refine C_seq (C_region rfl (R_o rfl (E_move (R_o rfl (E_move (R_o rfl (E_len rfl ?_)))))))
  refine R_o rfl (E_sub rfl rfl (by omega) ?_)
  refine R_o rfl (E_idxw (v := .slice Ah N ch) H rfl rfl (by omega) (by omega) ?_)
  refine R_o rfl (E_loadw' (v := .slice Ah N ch) (j := ((N : Int) - 1).toNat) H rfl (tint_get (by omega)) ?_)
  refine R_o rfl (E_assign (R_nil (C_ret ?_)))
  with_reducible repeat (first | refine thn_ret ?_ | refine inB_ret ?_ | refine noG_ret ?_)
  refine ret_one rfl hd ⟨congrArg (Value.int .i64) ?_, H.below⟩
  rw [show ((N : Int) - 1).toNat = N - 1 by omega]
  unfold had0
  rw [if_pos (by rw [← hN]; omega), hN]
  exact optB_congr fun k hk => full_bits hk
theorem R10Best_ {w0 : World} {v : Value} {g : List (List Int)} {n : Nat} (hg : RdII w0 v g) (hn : n ≤ 9223372036854775807) :
   Ret Tryz.prog 39 [v, .int .i64 n] w0 (fun v w => v = BestV g n ∧ Below w0.heap.size w0 w) := by
 refine ret_of_C Tryz.func39 rfl rfl rfl ?_
 have H := Loc.refl w0
 refine C_seq (C_region rfl (R_o rfl (E_assign (R_o rfl (E_assign (R_nil (C_seq (C_seq (C_region rfl (R_o rfl (E_move (R_o rfl (E_move (R_o rfl (E_call rfl (R10Check_ hg hn) ?_)))))))))))))))
 rintro _ w1 ⟨rfl, hb⟩
 replace H := H.call0 hb; clear hb
 refine R_o rfl (E_not rfl ?_)
 refine R_nil (C_cond (t := 9) rfl (fun hno => ?_) (fun hno => ?_))
 ·
  refine C_seq (C_region rfl (R_o rfl (E_assign (R_o rfl (E_assign (R_nil (C_ret ?_)))))))
  with_reducible repeat (first | refine thn_ret ?_ | refine inB_ret ?_ | refine noG_ret ?_)
  first
    | exact ret_two rfl rfl ⟨by unfold BestV; rw [if_neg hno]; rfl, H.below⟩
    | exact ret_two rfl rfl ⟨by unfold BestV; rw [if_pos hok]; rfl, H.below⟩
 ·
  have hok : okG g n := Decidable.of_not_not hno
  refine C_skip (C_seq (C_region rfl (R_o rfl (E_move (R_o rfl (E_move (R_o rfl (E_call rfl (R10best_ (Abides.below H.below hg) hok) ?_))))))))
  rintro _ w1 ⟨rfl, hb⟩
  replace H := H.call0 hb; clear hb
  refine R_o rfl (E_assign (R_o rfl (E_assign (R_nil (C_ret ?_)))))
  with_reducible repeat (first | refine thn_ret ?_ | refine inB_ret ?_ | refine noG_ret ?_)
  first
    | exact ret_two rfl rfl ⟨by unfold BestV; rw [if_neg hno]; rfl, H.below⟩
    | exact ret_two rfl rfl ⟨by unfold BestV; rw [if_pos hok]; rfl, H.below⟩
end Go.Sl
