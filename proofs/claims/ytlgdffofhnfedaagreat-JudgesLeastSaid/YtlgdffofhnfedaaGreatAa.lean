/- What a reading of a market, an outcome and a list of numbers gives: the lists, and their lengths within the bulk. -/
import Derived.Test.YtlgdffofhnfedaaGreatRows
import Derived.Deep.Matrix
import Derived.Carry
import Derived.ChangeSame
import Derived.Test.YtlgdffofhnfedaaGreatX36
set_option linter.unusedVariables false
set_option linter.unusedSimpArgs false
namespace Go.Sl
set_option maxRecDepth 100000
open Go.RowKit Go.ChangeShapes Go.Deep Go.Proofs Go.Proofs.YtlgdffofhnfedaaGreat
theorem bulk_one {H : Type} (d : DataW H) : 1 ≤ Rows.uptoBulk d := by
  cases d with
  | lit l => cases l <;> simp [Rows.uptoBulk]
  | nil => simp [Rows.uptoBulk]
  | ptr d => simp [Rows.uptoBulk]
  | slice elems spare => simp [Rows.uptoBulk]
  | agg parts => simp [Rows.uptoBulk]
  | iface t d => simp [Rows.uptoBulk]
  | map entries => simp [Rows.uptoBulk]
  | held h => simp [Rows.uptoBulk]
theorem bulk_part {H : Type} {d : DataW H} {l : List (DataW H)} (h : d ∈ l) : Rows.uptoBulk d ≤ Rows.uptoBulkAll l := by
  induction l with
  | nil => cases h
  | cons x r ih =>
    simp only [Rows.uptoBulkAll]
    rcases List.mem_cons.1 h with e | e
    · subst e; omega
    · have := ih e; omega
theorem bulk_length {H : Type} (l : List (DataW H)) : l.length ≤ Rows.uptoBulkAll l := by
  induction l with
  | nil => simp [Rows.uptoBulkAll]
  | cons x r ih => have := bulk_one x; simp only [Rows.uptoBulkAll, List.length_cons]; omega
theorem bulk_slice {H : Type} (elems spare : List (DataW H)) : elems.length ≤ Rows.uptoBulk (.slice elems spare) ∧ ∀ d ∈ elems, Rows.uptoBulk d ≤ Rows.uptoBulk (.slice elems spare) := by
  have h1 := bulk_length elems
  refine ⟨by simp only [Rows.uptoBulk]; omega, fun d hd => ?_⟩
  have := bulk_part hd
  simp only [Rows.uptoBulk]; omega
section
variable {H : Type} {enc : TypeId × Value → H} {P : Program} {w : World} {base : Nat} {held : Bool}
theorem fieldsAt {t : TypeId} {fuel : Nat} {cs : List Value} {x : DataW H × List MemPlace} {sp : Nat → Bool} {k : Nat} (hu : P.underlying t = some (.struct (P.fieldsOf t))) (hk : (P.fieldsOf t).size = k) (h : DataW.trod enc P w base sp held fuel t cs = some x) :
    ∃ (xs : List (DataW H × List MemPlace)) (n : Nat), x = (.agg (xs.map (·.1)), xs.flatMap (·.2)) ∧ cs.length = P.cellsOf t ∧ xs.length = k ∧
      ∀ (i : Nat) (ti off : Nat), ((P.fieldsOf t)[i]?).map (fun f => (f.type, f.offset)) = some (ti, off) → DataW.trod enc P w base sp held n ti ((cs.drop off).take (P.cellsOf ti)) = xs[i]? := by
  obtain ⟨xs, n, _, rfl, hl, hlen, hf⟩ := DataW.trod_struct hu h
  refine ⟨xs, n, rfl, hl, by rw [hlen, hk], fun i ti off hi => ?_⟩
  cases hfi : (P.fieldsOf t)[i]? with
  | none => rw [hfi] at hi; cases hi
  | some f =>
    rw [hfi] at hi
    simp only [Option.map_some, Option.some.injEq, Prod.mk.injEq] at hi
    have := hf i f hfi
    rw [hi.1, hi.2] at this
    exact this
theorem maxLen_le : maxLen ≤ 9223372036854775807 := by decide
theorem openI {t e : TypeId} {fuel : Nat} {cs : List Value} {x : DataW H × List MemPlace} {sp : Nat → Bool} (ht : P.underlying t = some (.slice e)) (he : P.underlying e = some (.int .i64)) (hc : P.cellsOf e = 1)
    (h : DataW.trod enc P w base sp held fuel t cs = some x) : ∃ v xs, cs = [v] ∧ RdI w v xs ∧ xs.length ≤ Rows.uptoBulk x.1 := by
  rcases open_ints ht he hc h with ⟨rfl, rfl⟩ | ⟨a, len, cap, zs, rfl, _, h1, h2, h3, rfl, h4, h5⟩
  · exact ⟨_, [], rfl, RdS.nil _ _, by simp⟩
  · have hzl : len ≤ zs.length := by rw [h3]; split <;> omega
    have hl : (zs.take len).length = len := by rw [List.length_take]; omega
    refine ⟨_, zs.take len, rfl, ⟨some a, cap, by rw [hl], by rw [hl]; exact h1, Nat.le_trans h2 maxLen_le, fun i y hy => ?_⟩, ?_⟩
    · have hi : i < len := by have := lt_of_get hy; omega
      have hy' : zs[i]? = some y := by rw [List.getElem?_take_of_lt hi] at hy; exact hy
      exact ⟨a, _, rfl, h4 i (by omega), by rw [getD_of hy']; rfl⟩
    · have := (bulk_slice (lits (H := H) .i64 (zs.take len)) (lits .i64 (zs.drop len))).1
      simp only [lits, List.length_map] at this ⊢
      exact this
theorem openII {t e q : TypeId} {fuel : Nat} {cs : List Value} {x : DataW H × List MemPlace} (ht : P.underlying t = some (.slice e)) (he : P.underlying e = some (.slice q)) (hq : P.underlying q = some (.int .i64)) (ce : P.cellsOf e = 1) (cq : P.cellsOf q = 1)
    (h : DataW.trod enc P w base (fun _ => true) held fuel t cs = some x) : ∃ v xs, cs = [v] ∧ RdII w v xs ∧ xs.length ≤ Rows.uptoBulk x.1 ∧ ∀ y ∈ xs, y.length ≤ Rows.uptoBulk x.1 := by
  rcases open_int_rows ht he hq ce cq h with ⟨rfl, rfl⟩ | ⟨a, len, cap, A, L, C, Z, rfl, _, h1, h2, rfl, h3⟩
  · exact ⟨_, [], rfl, RdS.nil _ _, by simp, fun y hy => by cases hy⟩
  · have hrow : ∀ r, r < len → RdI w (.slice (A r) (L r) (C r)) ((Z r).take (L r)) ∧ ((Z r).take (L r)).length = L r := by
      intro r hr
      obtain ⟨_, g2, g3, g4, _, g6, g7⟩ := h3 r (by omega)
      have hl : ((Z r).take (L r)).length = L r := by rw [List.length_take]; omega
      refine ⟨⟨A r, C r, by rw [hl], by rw [hl]; exact g2, Nat.le_trans g3 maxLen_le, fun i y hy => ?_⟩, hl⟩
      have hi : i < L r := by have := lt_of_get hy; omega
      have hy' : (Z r)[i]? = some y := by rw [List.getElem?_take_of_lt hi] at hy; exact hy
      cases hA : A r with
      | none => have := g6 hA; omega
      | some a' => exact ⟨a', _, rfl, (g7 a' hA).2 i (by omega), by rw [getD_of hy']; rfl⟩
    refine ⟨_, (List.range len).map (fun r => (Z r).take (L r)), rfl, ⟨some a, cap, by simp, by simpa using h1, Nat.le_trans h2 maxLen_le, fun i y hy => ?_⟩, ?_, fun y hy => ?_⟩
    · have hi : i < len := by have := lt_of_get hy; simpa using this
      rw [List.getElem?_map, List.getElem?_range hi] at hy
      cases hy
      exact ⟨a, _, rfl, (h3 i (by omega)).1, (hrow i hi).1⟩
    · have := (bulk_slice (H := H) ((List.range len).map fun r => intRow .i64 (A r) (L r) (Z r)) ((List.range (cap - len)).map fun j => intRow .i64 (A (len + j)) (L (len + j)) (Z (len + j)))).1
      simp only [List.length_map, List.length_range] at this ⊢
      exact this
    · obtain ⟨r, hr, rfl⟩ := List.mem_map.1 hy
      have hr := List.mem_range.1 hr
      have h5 := (bulk_slice (H := H) ((List.range len).map fun r => intRow .i64 (A r) (L r) (Z r)) ((List.range (cap - len)).map fun j => intRow .i64 (A (len + j)) (L (len + j)) (Z (len + j)))).2 (intRow .i64 (A r) (L r) (Z r)) (List.mem_map.2 ⟨r, List.mem_range.2 hr, rfl⟩)
      refine Nat.le_trans ?_ h5
      have hl := (hrow r hr).2
      cases hA : A r with
      | none => have g := h3 r (by omega); have := g.2.2.2.2.2.1 hA; have := g.2.1; omega
      | some a' =>
        have := (bulk_slice (lits (H := H) .i64 ((Z r).take (L r))) (lits .i64 ((Z r).drop (L r)))).1
        simp only [intRow]
        simp only [lits, List.length_map] at this ⊢
        exact this
end
section
variable {H : Type} {enc : TypeId × Value → H} {w : World} {base : Nat} {held : Bool} {fuel : Nat} {cs : List Value} {x : DataW H × List MemPlace}
theorem open22 {sp : Nat → Bool} (h : DataW.trod enc Tryz.prog w base sp held fuel 22 cs = some x) : ∃ v xs, cs = [v] ∧ RdI w v xs ∧ xs.length ≤ Rows.uptoBulk x.1 :=
  openI (e := 3) (by kernel_rfl) (by kernel_rfl) (by kernel_rfl) h
theorem open23 (h : DataW.trod enc Tryz.prog w base (fun _ => true) held fuel 23 cs = some x) : ∃ v xs, cs = [v] ∧ RdII w v xs ∧ xs.length ≤ Rows.uptoBulk x.1 ∧ ∀ y ∈ xs, y.length ≤ Rows.uptoBulk x.1 :=
  openII (e := 22) (q := 3) (by kernel_rfl) (by kernel_rfl) (by kernel_rfl) (by kernel_rfl) (by kernel_rfl) h
theorem openM (h : DataW.trod enc Tryz.prog w base (fun _ => true) held fuel 25 cs = some x) : ∃ a b c m, cs = [a, b, c] ∧ RdM w (.agg #[a, b, c]) m ∧ m.le (Rows.uptoBulk x.1) := by
  obtain ⟨xs, n, rfl, hl, hk, hf⟩ := fieldsAt (k := 3) (by kernel_rfl) (by kernel_rfl) h
  rw [show Tryz.prog.cellsOf 25 = 3 by kernel_rfl] at hl
  match cs, hl, xs, hk with
  | [a, b, c], _, [y0, y1, y2], _ =>
    have c22 : Tryz.prog.cellsOf 22 = 1 := by kernel_rfl
    have c23 : Tryz.prog.cellsOf 23 = 1 := by kernel_rfl
    have f0 := hf 0 22 0 (by kernel_rfl)
    have f1 := hf 1 23 1 (by kernel_rfl)
    have f2 := hf 2 22 2 (by kernel_rfl)
    rw [c22] at f0 f2
    rw [c23] at f1
    obtain ⟨v0, x0, e0, r0, l0⟩ := open22 f0
    obtain ⟨v1, x1, e1, r1, l1, l1'⟩ := open23 f1
    obtain ⟨v2, x2, e2, r2, l2⟩ := open22 f2
    cases e0; cases e1; cases e2
    have hb : Rows.uptoBulk (DataW.agg [y0.1, y1.1, y2.1]) = Rows.uptoBulk y0.1 + (Rows.uptoBulk y1.1 + (Rows.uptoBulk y2.1 + 0)) + 1 := by simp only [Rows.uptoBulk, Rows.uptoBulkAll]
    refine ⟨_, _, _, ⟨x0, x1, x2⟩, rfl, ⟨_, _, _, rfl, r0, r1, r2⟩, ?_, ?_, fun y hy => ?_, ?_⟩
    · show x0.length ≤ Rows.uptoBulk (DataW.agg [y0.1, y1.1, y2.1]); omega
    · show x1.length ≤ Rows.uptoBulk (DataW.agg [y0.1, y1.1, y2.1]); omega
    · have := l1' y hy; show y.length ≤ Rows.uptoBulk (DataW.agg [y0.1, y1.1, y2.1]); omega
    · show x2.length ≤ Rows.uptoBulk (DataW.agg [y0.1, y1.1, y2.1]); omega
theorem openO {sp : Nat → Bool} (h : DataW.trod enc Tryz.prog w base sp held fuel 27 cs = some x) : ∃ a b o, cs = [a, b] ∧ RdO w (.agg #[a, b]) o ∧ o.le (Rows.uptoBulk x.1) := by
  obtain ⟨xs, n, rfl, hl, hk, hf⟩ := fieldsAt (k := 2) (by kernel_rfl) (by kernel_rfl) h
  rw [show Tryz.prog.cellsOf 27 = 2 by kernel_rfl] at hl
  match cs, hl, xs, hk with
  | [a, b], _, [y0, y1], _ =>
    have c22 : Tryz.prog.cellsOf 22 = 1 := by kernel_rfl
    have f0 := hf 0 22 0 (by kernel_rfl)
    have f1 := hf 1 22 1 (by kernel_rfl)
    rw [c22] at f0 f1
    obtain ⟨v0, x0, e0, r0, l0⟩ := open22 f0
    obtain ⟨v1, x1, e1, r1, l1⟩ := open22 f1
    cases e0; cases e1
    have hb : Rows.uptoBulk (DataW.agg [y0.1, y1.1]) = Rows.uptoBulk y0.1 + (Rows.uptoBulk y1.1 + 0) + 1 := by simp only [Rows.uptoBulk, Rows.uptoBulkAll]
    refine ⟨_, _, ⟨x0, x1⟩, rfl, ⟨_, _, rfl, r0, r1⟩, ?_, ?_⟩
    · show x0.length ≤ Rows.uptoBulk (DataW.agg [y0.1, y1.1]); omega
    · show x1.length ≤ Rows.uptoBulk (DataW.agg [y0.1, y1.1]); omega
end
end Go.Sl
