/- The shallow logic, part 8: slices of one's own that do not grow, struct literals, results in cells. No program in sight. The shallow logic, part 9: tables (arrays of numbers, told by a function). No program in sight. -/
import Derived.Test.YtlgdffofhnfedaaGreatG
set_option linter.unusedVariables false
set_option linter.unusedSimpArgs false
namespace Go.Sl
open Go.RowKit
def Els {α : Type} (r : World → Value → α → Prop) (w : World) (us : List Value) (xs : List α) : Prop :=
  us.length = xs.length ∧ ∀ (i : Nat) (u : Value) (x : α), us[i]? = some u → xs[i]? = some x → r w u x
theorem Els.below {α : Type} {r : World → Value → α → Prop} [Abides r] {w w' : World} {us : List Value} {xs : List α} (h : Els r w us xs) (hb : Below w.heap.size w w') : Els r w' us xs :=
  ⟨h.1, fun i u x hu hx => Abides.below hb (h.2 i u x hu hx)⟩
theorem Els.nil {α : Type} (r : World → Value → α → Prop) (w : World) : Els r w [] [] := ⟨rfl, fun i u x hu _ => by simp at hu⟩
theorem Els.snoc {α : Type} {r : World → Value → α → Prop} {w : World} {us : List Value} {xs : List α} {u : Value} {x : α} (h : Els r w us xs) (hu : r w u x) : Els r w (us ++ [u]) (xs ++ [x]) := by
  refine ⟨by simp [h.1], fun i v y hv hy => ?_⟩
  rw [List.getElem?_append] at hv hy
  rw [h.1] at hv
  by_cases hi : i < xs.length
  · rw [if_pos hi] at hv hy; exact h.2 i v y hv hy
  · rw [if_neg hi] at hv hy
    by_cases h0 : i - xs.length = 0
    · rw [h0] at hv hy
      simp at hv hy
      subst hv; subst hy; exact hu
    · obtain ⟨n, hn⟩ : ∃ n, i - xs.length = n + 1 := ⟨i - xs.length - 1, by omega⟩
      rw [hn] at hv
      simp at hv
theorem Els.get {α : Type} {r : World → Value → α → Prop} {w : World} {us : List Value} {xs : List α} (h : Els r w us xs) {i : Nat} {x : α} (hx : xs[i]? = some x) : ∃ u, us[i]? = some u ∧ r w u x := by
  have hlt := (List.getElem?_eq_some_iff.1 hx).1
  have : i < us.length := by rw [h.1]; exact hlt
  exact ⟨us[i], List.getElem?_eq_getElem this, h.2 i _ x (List.getElem?_eq_getElem this) hx⟩
theorem Els.set {α : Type} {r : World → Value → α → Prop} {w : World} {us : List Value} {xs : List α} {u : Value} {x : α} (h : Els r w us xs) (i : Nat) (hu : r w u x) : Els r w (us.set i u) (xs.set i x) := by
  refine ⟨by simp [h.1], fun j v y hv hy => ?_⟩
  rw [List.getElem?_set] at hv hy
  by_cases e : i = j
  · subst e
    simp only [if_true] at hv hy
    split at hv
    · split at hy
      · cases hv; cases hy; exact hu
      · cases hy
    · cases hv
  · rw [if_neg e] at hv hy
    exact h.2 j v y hv hy
theorem RdS.els {α : Type} {r : World → Value → α → Prop} {w : World} {v : Value} {xs : List α} (h : RdS r w v xs) : ∃ us, Els r w us xs ∧ ∃ A c, v = .slice A xs.length c ∧ xs.length ≤ c ∧ c ≤ 9223372036854775807 ∧ ∀ (i : Nat) (u : Value), us[i]? = some u → ∃ a, A = some a ∧ w.cell? (a.add i) = some u := by
  obtain ⟨A, c, rfl, h1, h2, h3⟩ := h
  cases A with
  | none =>
    have : xs = [] := by
      cases xs with
      | nil => rfl
      | cons x xs => obtain ⟨ad, u, e, _⟩ := h3 0 x rfl; cases e
    subst this
    exact ⟨[], Els.nil r w, none, c, rfl, h1, h2, fun i u hu => by simp at hu⟩
  | some a =>
    have key : ∀ i x, xs[i]? = some x → ∃ u, w.cell? (a.add i) = some u ∧ r w u x := fun i x hx => by
      obtain ⟨ad, u, e, hc, hr⟩ := h3 i x hx
      cases e; exact ⟨u, hc, hr⟩
    refine ⟨(List.range xs.length).map fun i => (w.cell? (a.add i)).getD undef, ⟨by simp, fun i u x hu hx => ?_⟩, some a, c, rfl, h1, h2, fun i u hu => ⟨a, rfl, ?_⟩⟩
    · have hlt := (List.getElem?_eq_some_iff.1 hx).1
      obtain ⟨u', hc, hr⟩ := key i x hx
      simp [hlt, hc] at hu
      subst hu; exact hr
    · have hlt : i < xs.length := by
        have := (List.getElem?_eq_some_iff.1 hu).1
        simpa using this
      obtain ⟨u', hc, hr⟩ := key i _ (List.getElem?_eq_getElem hlt)
      simp [hlt, hc] at hu
      subst hu; exact hc
class OneC {α : Type} (r : World → Value → α → Prop) : Prop where one : ∀ {w u x}, r w u x → u.oneCell' = true
instance (k : IntKind) : OneC (rInt k) := ⟨fun h => by rw [show _ = Value.int k _ from h]; rfl⟩
instance {α : Type} (r : World → Value → α → Prop) : OneC (RdS r) := ⟨fun ⟨A, c, e, _⟩ => by rw [e]; rfl⟩
theorem Els.one {α : Type} {r : World → Value → α → Prop} [OneC r] {w : World} {us : List Value} {xs : List α} (h : Els r w us xs) : us.all (·.oneCell') = true := by
  rw [List.all_eq_true]
  intro u hu
  obtain ⟨i, hi, rfl⟩ := List.getElem_of_mem hu
  have : i < xs.length := by rw [← h.1]; exact hi
  exact OneC.one (h.2 i _ _ (List.getElem?_eq_getElem hi) (List.getElem?_eq_getElem this))
theorem Els.ints_eq {k : IntKind} {w : World} {us : List Value} {xs : List Int} (h : Els (rInt k) w us xs) : us = ints k xs := by
  apply List.ext_getElem?
  intro i
  by_cases hi : i < xs.length
  · have : i < us.length := by rw [h.1]; exact hi
    rw [ints_get k xs i _ (List.getElem?_eq_getElem hi), List.getElem?_eq_getElem this]
    exact congrArg some (h.2 i _ _ (List.getElem?_eq_getElem this) (List.getElem?_eq_getElem hi))
  · rw [List.getElem?_eq_none (by rw [h.1]; omega), List.getElem?_eq_none (by simp; omega)]
def wsl (e : Nat) (v : Value) (n : Nat) (xs : List Value) : HP where
  p S w := (∀ x, S x ↔ v.ownBlock = some x) ∧ xs.length = n ∧ ((∃ c, v = .slice none 0 c ∧ n = 0 ∧ c ≤ 9223372036854775807) ∨
    ∃ g c cur, v = .slice (some ⟨g, 0, none⟩) n c ∧ w.heap[g]? = some (.cells cur e (0, 0)) ∧ n ≤ c ∧ c ≤ 9223372036854775807 ∧ n ≤ cur.size ∧ cur.toList.take n = xs)
  loc {S w w'} hs hp := by
    refine ⟨hp.1, hp.2.1, ?_⟩
    rcases hp.2.2 with hn | ⟨g, cap, cur, rfl, hg, rest⟩
    · exact .inl hn
    · refine .inr ⟨g, cap, cur, rfl, ?_, rest⟩
      rw [hs g ((hp.1 g).2 rfl)]
      exact hg
class Po (L : List HP) (v : Value) (e n : outParam Nat) (xs : outParam (List Value)) (L' : outParam (List HP)) : Prop where
  perm : L.Perm (wsl e v n xs :: L')
instance (priority := high) Po.here (v : Value) (e n : Nat) (xs : List Value) (L : List HP) : Po (wsl e v n xs :: L) v e n xs L := ⟨List.Perm.refl _⟩
instance Po.there (R : HP) (L : List HP) (v : Value) (e n : Nat) (xs : List Value) (L' : List HP) [h : Po L v e n xs L'] : Po (R :: L) v e n xs (R :: L') :=
  ⟨(List.Perm.cons _ h.perm).trans (List.Perm.swap _ _ _)⟩
section own
variable {w0 w : World} {L L' : List HP} {v : Value} {e n : Nat} {xs : List Value}
theorem Loc.ownOf (h : Loc w0 w (wsl e v n xs :: L)) : xs.length = n ∧ ((∃ c, v = .slice none 0 c ∧ n = 0 ∧ c ≤ 9223372036854775807) ∨
    ∃ g c cur, v = .slice (some ⟨g, 0, none⟩) n c ∧ w.heap[g]? = some (.cells cur e (0, 0)) ∧ n ≤ c ∧ c ≤ 9223372036854775807 ∧ n ≤ cur.size ∧ cur.toList.take n = xs) :=
  let ⟨S, k1, S1, S2, k2, k3, k5, k6⟩ := h.sep; k5.2
theorem Loc.rowOwn (h : Loc w0 w (row e 1 v n xs :: L)) : Loc w0 w (wsl e v n xs :: L) :=
  h.imp fun S hp => ⟨hp.1, by simpa using hp.2.1, by
    rcases hp.2.2 with ⟨rfl, rfl⟩ | ⟨g, cap, cur, rfl, hb, hg, h1, h2, h3, h4⟩
    · exact .inl ⟨0, rfl, rfl, by omega⟩
    · exact .inr ⟨g, cap, cur, rfl, hg, h1, by simpa [maxLen] using h2, by omega, by simpa using h4⟩⟩
theorem Loc.ownClip (h : Loc w0 w (wsl e v n xs :: L)) : Loc w0 w (wsl e (clipV v) n xs :: L) :=
  h.imp fun S hp => by
    rcases hp.2.2 with ⟨c, rfl, rfl, hc⟩ | ⟨g, cap, cur, rfl, hg, h1, h2, h3, h4⟩
    · exact ⟨fun x => by rw [hp.1]; simp [clipV, Value.ownBlock], hp.2.1, .inl ⟨0, rfl, rfl, by omega⟩⟩
    · exact ⟨fun x => by rw [hp.1]; simp [clipV, Value.ownBlock], hp.2.1, .inr ⟨g, n, cur, rfl, hg, Nat.le_refl _, by omega, h3, h4⟩⟩
theorem own_rd {α : Type} {r : World → Value → α → Prop} {S : Nat → Prop} {xs' : List α} (hx : xs'.length = n) (h : (wsl e v n xs).p S w) (hr : ∀ (i : Nat) (x : α), xs'[i]? = some x → ∃ u, xs[i]? = some u ∧ r w u x) : RdS r w v xs' := by
  obtain ⟨_, hl, ⟨c, rfl, rfl, hc⟩ | ⟨g, c, cur, rfl, hg, h1, h2, h3, h4⟩⟩ := h
  · obtain rfl : xs' = [] := List.eq_nil_of_length_eq_zero hx
    exact RdS.empty r w none c hc
  · refine ⟨some ⟨g, 0, none⟩, c, by rw [hx], by omega, h2, fun i x hi => ?_⟩
    obtain ⟨u, hu, hru⟩ := hr i x hi
    refine ⟨_, u, rfl, ?_, hru⟩
    rw [add_plain, cell_of_blk hg, Nat.zero_add]
    rw [← h4, List.getElem?_take] at hu
    split at hu
    · simpa using hu
    · cases hu
theorem Loc.ownGive {α : Type} {r : World → Value → α → Prop} [Abides r] {xs' : List α} (h : Loc w0 w (wsl e v n xs :: L)) (hs : ∀ (i : Nat) (x : α), xs'[i]? = some x → ∃ u, xs[i]? = some u ∧ ∀ w', r w' u x) (hl : xs'.length = n) : Loc w0 w (rdv v (fun w => RdS r w v xs') :: L) :=
  h.toRd v _ fun S w' hp => own_rd hl hp fun i x hx => by obtain ⟨u, hu, hr⟩ := hs i x hx; exact ⟨u, hu, hr w'⟩
theorem Loc.ownInts {k : IntKind} {xs : List Int} (h : Loc w0 w (wsl e v n (ints k xs) :: L)) : Loc w0 w (rdv v (fun w => RdS (rInt k) w v xs) :: L) :=
  h.ownGive (fun i x hx => ⟨_, ints_get k xs i x hx, fun _ => rfl⟩) (by have := h.ownOf.1; simpa using this)
theorem Loc.rowInts {k : IntKind} {xs : List Int} (h : Loc w0 w (row e 1 v n (ints k xs) :: L)) : Loc w0 w (rdv v (fun w => RdS (rInt k) w v xs) :: L) := h.rowOwn.ownInts
end own
section ops
variable {P : Program} {yl : Bool} {ρ : Rg} {w w0 : World} {L L' : List HP} {ty : TypeId} {K : Value → World → Prop} {Z : List PanicEntry → World → Prop} {x y z : Operand}
theorem E_idxo {t e by_ : Nat} [hs : St P t e 1 by_] {v : Value} {e' n : Nat} {xs : List Value} [hw : Po L v e' n xs L'] (H : Loc w0 w L) {kk : IntKind} {i : Int} (hx : ρ.ev x = v) (hi : ρ.ev y = .int kk i) (h0 : 0 ≤ i) (h1 : i < n)
    (k : K (sad v i.toNat) w) : E P yl ρ w (.indexAddr t x y) ty K Z := by
  rcases (H.perm hw.perm).ownOf.2 with ⟨c, rfl, rfl, _⟩ | ⟨g, cap, cur, rfl, _⟩
  · omega
  · exact E_idx hx hi h0 h1 (by rw [Nat.mul_one]; exact k)
theorem E_loado {t : TypeId} [Sc P t] {v : Value} {e' n : Nat} {xs : List Value} [hw : Po L v e' n xs L'] (H : Loc w0 w L) {j : Nat} {u : Value} (hp : ρ.ev x = sad v j) (hu : xs[j]? = some u) (k : K u w) : E P yl ρ w (.load t x) ty K Z := by
  have hown := (H.perm hw.perm).ownOf
  have hj := (List.getElem?_eq_some_iff.1 hu).1
  rcases hown.2 with ⟨c, rfl, rfl, _⟩ | ⟨g, cap, cur, rfl, hg, h1, h2, h3, h4⟩
  · have := hown.1; omega
  · refine E_load_cell (a := ⟨g, j, none⟩) (by rw [hp]; simp [sad, add_plain]) ?_ k
    rw [cell_of_blk hg]
    rw [← h4, List.getElem?_take] at hu
    split at hu
    · simpa using hu
    · cases hu
theorem E_storeo {t : TypeId} [hs : Sc P t] {v : Value} {e' n : Nat} {xs : List Value} [hw : Po L v e' n xs L'] (H : Loc w0 w L) {j : Nat} {u : Value} (hp : ρ.ev x = sad v j) (hy : ρ.ev y = u) (h1 : u.oneCell' = true) (hj : j < n)
    (k : ∀ w', Loc w0 w' (wsl e' v n (xs.set j u) :: L') → K undef w') : E P yl ρ w (.store t x y) ty K Z := by
  obtain ⟨i, hi, hsz⟩ := hs.inf
  have hc : u.cells = #[u] := by cases u <;> first | rfl | (cases h1)
  have H' := H.perm hw.perm
  have hown := H'.ownOf
  rcases hown.2 with ⟨c, rfl, rfl, _⟩ | ⟨g, cap, cur, rfl, hg, h2, h3, h4, h5⟩
  · omega
  · have hjc : j < cur.size := by omega
    have hcell : w.cell? ⟨g, j, none⟩ = some cur[j] := by rw [cell_of_blk hg]; simp [hjc]
    have hsad : sad (.slice (some ⟨g, 0, none⟩) n cap) j = .pointer (some ⟨g, j, none⟩) := by simp [sad, add_plain]
    rw [hsad] at hp
    have e : (execOp ρ.ev ⟨none, .store t x y, ty, "", #[], none⟩).run P w = .ok .skip (w.setCell ⟨g, j, none⟩ u) := by
      simp [execOp, Instr.storeAt, Instr.sureAddr, hp, hy, storeVar, run_sizeOf' hi, hsz, hc, storeCells, add_plain, run_store P w _ u _ h1, hcell, frozen_of_blk hg]
    unfold E; rw [e]
    refine k _ ?_
    obtain ⟨S, k0, S1, S2, k1, k2, k3, k5⟩ := H'.sep
    have hgS : S g := (k1 g).2 (.inl ((k3.1 g).2 rfl))
    have hlt := (k0 g hgS)
    refine ⟨H'.below.trans ⟨rfl, rfl, rfl, by simp, fun k' hk' => Below.heap_setCell w ⟨g, j, none⟩ u k' (fun e => by have : k' = g := e; omega)⟩, S, fun b hb => ?_, S1, S2, k1, k2, ⟨k3.1, by simp [k3.2.1], .inr ⟨g, cap, cur.setIfInBounds j u, rfl, ?_, h2, h3, by simp [h4], ?_⟩⟩, k5.loc fun b hb => Below.heap_setCell w ⟨g, j, none⟩ u b (fun e => ?_)⟩
    · have := k0 b hb; simpa using this
    · simp [World.setCell, Array.getElem?_modify, hg]
    · rw [Array.toList_setIfInBounds, List.take_set, h5]
    · have : b = g := e
      subst this
      exact k2 b ⟨(k3.1 b).2 rfl, hb⟩
end ops
def fsB (P : Program) (t : TypeId) (pl : List (Nat × Nat)) : Bool :=
  match P.underlying t with
  | some (.struct fs) => (fs.toList.map fun f => (f.offset, match P.info? f.type with | some i => i.size | none => 999999999)) == pl && fs.toList.all fun f => (P.info? f.type).isSome
  | _ => false
class Fs (P : Program) (t : TypeId) (pl : outParam (List (Nat × Nat))) : Prop where h : fsB P t pl = true
theorem mapM_places {P : Program} (w : World) : ∀ (fs : List Field), (fs.all fun f => (P.info? f.type).isSome) = true →
    (fs.mapM fun f => (do pure (f.offset, ← sizeOf f.type) : Sem (Nat × Nat))).run P w = .ok (fs.map fun f => (f.offset, match P.info? f.type with | some i => i.size | none => 999999999)) w
  | [], _ => by simp
  | f :: fs, h => by
    simp only [List.all_cons, Bool.and_eq_true] at h
    cases hi : P.info? f.type with
    | none => rw [hi] at h; cases h.1
    | some i =>
      rw [List.mapM_cons]
      simp only [Sem.run_bind, run_sizeOf' hi, Result.andThen_ok, Sem.run_pure, mapM_places w fs h.2, List.map_cons, hi]
theorem Fs.run {P : Program} {t : TypeId} {pl : List (Nat × Nat)} [h : Fs P t pl] (w : World) : ∃ fs, P.underlying t = some (.struct fs) ∧ (fs.mapM fun f => (do pure (f.offset, ← sizeOf f.type) : Sem (Nat × Nat))).run P w = .ok pl.toArray w := by
  have := h.h
  unfold fsB at this
  split at this
  · rename_i fs hu
    simp only [Bool.and_eq_true, beq_iff_eq] at this
    refine ⟨fs, hu, ?_⟩
    rw [Array.mapM_eq_mapM_toList, Sem.run_map, mapM_places w fs.toList this.2]
    simp [this.1]
  · cases this
def cellsL (v : Value) : List Value := v.cells.toList
def fillL (pl : List (Nat × Nat)) : List Value → List (Nat × List Value) → Option (List Value)
  | cs, [] => some cs
  | cs, (i, vs) :: rest =>
    match pl[i]? with
    | none => none
    | some (off, size) => if vs.length = size ∧ off + vs.length ≤ cs.length then fillL pl (cs.take off ++ vs ++ cs.drop (off + vs.length)) rest else none
theorem foldl_set (off : Nat) : ∀ (vs : List Value) (j : Nat) (cs : Array Value), off + j + vs.length ≤ cs.size →
    ((vs.zipIdx j).foldl (fun (cs : Array Value) (p : Value × Nat) => cs.setIfInBounds (off + p.2) p.1) cs).toList = cs.toList.take (off + j) ++ vs ++ cs.toList.drop (off + j + vs.length)
  | [], j, cs, _ => by simp
  | v :: vs, j, cs, h => by
    simp only [List.length_cons] at h
    rw [List.zipIdx_cons, List.foldl_cons, foldl_set off vs (j + 1) _ (by simp; omega)]
    simp only [Array.toList_setIfInBounds, List.length_cons]
    have hlt : off + j < cs.toList.length := by simpa using (by omega : off + j < cs.size)
    rw [show off + (j + 1) = off + j + 1 by omega, show off + j + 1 + vs.length = off + j + (vs.length + 1) by omega]
    rw [List.drop_set_of_lt (by omega), List.take_add_one, List.getElem?_set_self hlt, List.take_set_of_le (by omega)]
    simp
theorem fill_L (pl : List (Nat × Nat)) : ∀ (parts : List (Nat × Value)) (cs : List Value) (out : List Value), fillL pl cs (parts.map fun p => (p.1, cellsL p.2)) = some out →
    Instr.fill (fun i => pl[i]?) cs.toArray parts = some out.toArray
  | [], cs, out, h => by simp only [List.map_nil, fillL, Option.some.injEq] at h; subst h; rfl
  | (i, v) :: parts, cs, out, h => by
    simp only [List.map_cons, fillL] at h
    unfold Instr.fill
    cases hp : pl[i]? with
    | none => rw [hp] at h; cases h
    | some q =>
      obtain ⟨off, size⟩ := q
      rw [hp] at h
      simp only at h ⊢
      split at h
      · rename_i hc
        have hl : (cellsL v).length = v.cells.size := by simp [cellsL]
        rw [hl] at hc
        rw [if_neg (by
          simp only [ne_eq, Bool.or_eq_true, decide_eq_true_eq, not_or, List.size_toArray]
          exact ⟨fun hne => (by simpa using hne : ¬ v.cells.size = size) hc.1, by omega⟩)]
        have e := fill_L pl parts _ out h
        have e2 : Array.foldl (fun (cs : Array Value) (p : Value × Nat) => cs.setIfInBounds (off + p.2) p.1) cs.toArray v.cells.zipIdx = (List.take off cs ++ cellsL v ++ List.drop (off + (cellsL v).length) cs).toArray := by
          apply Array.ext'
          have := foldl_set off v.cells.toList 0 cs.toArray (by simp; omega)
          simp only [Nat.add_zero] at this
          rw [show v.cells.zipIdx = (v.cells.toList.zipIdx).toArray from by apply Array.ext'; rw [Array.toList_zipIdx], List.foldl_toArray]
          rw [this]
          simp [cellsL]
        exact (congrArg (fun c => Instr.fill (fun i => pl[i]?) c parts) e2).trans e
      · cases h
section ops
variable {P : Program} {yl : Bool} {ρ : Rg} {w w0 : World} {L L' : List HP} {ty : TypeId} {K : Value → World → Prop} {Z : List PanicEntry → World → Prop} {x y z : Operand}
theorem E_build {t : TypeId} {zs : List Value} [hz : Zr P t zs] {pl : List (Nat × Nat)} [hf : Fs P t pl] {parts : List (Nat × Operand)} {cs : List Value} (h : fillL pl zs (parts.map fun p => (p.1, cellsL (ρ.ev p.2))) = some cs)
    (k : K (.agg cs.toArray) w) : E P yl ρ w (.build t parts.toArray) ty K Z := by
  obtain ⟨v, hv, hr⟩ := run_zeroValue' (P := P) (t := t) (zs := zs)
  obtain ⟨fs, hu, hm⟩ := hf.run w
  refine E_of_run ?_ k
  have h2 := fill_L pl (parts.map fun p => (p.1, ρ.ev p.2)) zs cs (by simpa [Function.comp_def] using h)
  have h3 : v.cells = zs.toArray := by rw [← hv]
  simp only [execOp, Instr.build, Sem.run_bind, hr, Result.andThen_ok, run_underlying hu, hm, h3]
  simp [h2]
theorem E_maken {t e by_ : Nat} [hs : St P t e 1 by_] {zv : Value} [hz : Zr P e [zv]] (l c : Nat) {kl kc : IntKind} (H : Loc w0 w L) (hx : ρ.ev x = .int kl l) (hy : ρ.ev y = .int kc c) (hlc : l ≤ c) (hb : by_ * c ≤ 281474976710656) (hc : c ≤ 9223372036854775807)
    (k : ∀ w' b, Loc w0 w' (row e 1 (.slice (some ⟨b, 0, none⟩) l c) l (List.replicate l zv) :: L) → K (.slice (some ⟨b, 0, none⟩) l c) w') : E P yl ρ w (.makeSlice t x y) ty K Z := by
  refine E_make H hx hy (by omega) (by omega) (by rw [← Int.natCast_mul]; omega) (by omega) fun w' b H' => ?_
  simp only [Int.toNat_natCast] at H' ⊢
  exact k w' b (H'.clRow 1 l hlc hc (by rw [List.length_replicate, Nat.mul_one]) (by rw [Nat.mul_one, List.take_replicate, Nat.min_eq_left hlc]))
end ops
theorem Loc.call1 {w0 w w' : World} {A : HP} {L : List HP} (h : Loc w0 w L) (h' : Loc w w' [A]) : Loc w0 w' (A :: L) := h.call h'
theorem Loc.call2 {w0 w w' : World} {A B : HP} {L : List HP} (h : Loc w0 w L) (h' : Loc w w' [A, B]) : Loc w0 w' (A :: B :: L) := h.call h'
theorem Loc.call3 {w0 w w' : World} {A B C : HP} {L : List HP} (h : Loc w0 w L) (h' : Loc w w' [A, B, C]) : Loc w0 w' (A :: B :: C :: L) := h.call h'
theorem Loc.fst {w0 w : World} {A : HP} {L : List HP} (h : Loc w0 w (A :: L)) : Loc w0 w [A] := by
  obtain ⟨S, k0, S1, S2, k1, k2, k3, k4⟩ := h.sep
  exact ⟨h.below, S1, fun b hb => k0 b ((k1 b).2 (.inl hb)), S1, fun _ => False, fun b => by simp, fun b hb => hb.2, k3, fun b hb => hb⟩
theorem E_storeall {P : Program} {yl : Bool} {ρ : Rg} {w w0 : World} {L L' : List HP} {ty : TypeId} {K : Value → World → Prop} {Z : List PanicEntry → World → Prop} {x y : Operand}
    {t n : TypeId} [ha : Ag P t n] {b : Nat} {bt : TypeId} {cs vs : List Value} [hk : Pk L b bt cs L'] (H : Loc w0 w L) (hp : ρ.ev x = .pointer (some ⟨b, 0, none⟩)) (hy : ρ.ev y = .agg vs.toArray)
    (h1 : vs.all (·.oneCell') = true) (hn : vs.length = n) (hc : cs.length = n) (k : ∀ w', Loc w0 w' (cl b bt vs :: L') → K undef w') : E P yl ρ w (.store t x y) ty K Z :=
  E_storea (hk := hk) H hp hy h1 hn (by omega) fun w' H' => k w' (by
    have : cs.take 0 ++ vs ++ cs.drop (0 + vs.length) = vs := by rw [List.drop_of_length_le (by omega)]; simp
    rwa [this] at H')
def res1 (P : Program) (w : World) (ρ : Rg) : ResultVar → Value → Prop
  | .tmp t, v => ρ.r t = v
  | .cell a t, v => ∃ ad, ρ.r a = .pointer (some ad) ∧ (loadVar t ad).run P w = .ok v w
def resL (P : Program) (w : World) (ρ : Rg) : List ResultVar → List Value → Prop
  | [], [] => True
  | x :: xs, v :: vs => res1 P w ρ x v ∧ resL P w ρ xs vs
  | _, _ => False
def tupV : List Value → Value
  | [v] => v
  | vs => .tuple vs.toArray
section
variable {P : Program} {fn : Func} {Po : Value → World → Prop} {ρ : Rg} {w w0 : World}
theorem res_run {tmps : Array Value} (ht : ∀ i, tmps.getD i undef = ρ.r i) : ∀ (rs : List ResultVar) (vs : List Value), resL P w ρ rs vs →
    (rs.mapM fun x => (match x with | .tmp t => pure (tmps.getD t undef) | .cell a t => do loadVar t (← asAddr (tmps.getD a undef)) : Sem Value)).run P w = .ok vs w
  | [], [], _ => by simp
  | x :: xs, v :: vs, h => by
    rw [List.mapM_cons]
    have ih := res_run ht xs vs h.2
    cases x with
    | tmp t =>
      have h1 : ρ.r t = v := h.1
      simp only [ht] at ih
      simp only [Sem.run_bind, Sem.run_pure, Result.andThen_ok, ht, ih, h1]
    | cell a t =>
      obtain ⟨ad, h1, h2⟩ := h.1
      simp only [ht] at ih
      have h3 : (asAddr (Value.pointer (some ad))).run P w = .ok ad w := by simp [asAddr]
      simp only [Sem.run_bind, Sem.run_pure, Result.andThen_ok, ht, ih, h1, h3, h2]
  | [], _ :: _, h => h.elim
  | _ :: _, [], h => h.elim
theorem resOf_list {rs : List ResultVar} {vs : List Value} (hr : fn.results = rs.toArray) (hv : resL P w ρ rs vs) {K : Value → Prop} (h : K (tupV vs)) : resOf P fn ρ w K := by
  intro tmps ht
  refine ⟨_, ?_, h⟩
  have := res_run (P := P) (w := w) ht rs vs hv
  unfold results
  rw [hr]
  rw [List.mapM_toArray, Sem.run_bind, Sem.run_map]
  erw [this]
  simp only [Result.andThen_ok]
  match vs with
  | [] => simp [tupV]
  | [v] => simp [tupV]
  | v :: v' :: vs => simp [tupV]
theorem ret_list {rs : List ResultVar} {vs : List Value} (hr : fn.results = rs.toArray) (hd : ρ.d = []) (hv : resL P w ρ rs vs) (h : Po (tupV vs) w) : bodyQ P fn (fun e w' => ∃ v, e = .returned v ∧ Po v w') .ret ρ w :=
  ⟨hd, resOf_list hr hv ⟨_, rfl, h⟩⟩
theorem res_tmp {t : Nat} {v : Value} (h : ρ.r t = v) : res1 P w ρ (.tmp t) v := h
theorem res_cellw {a t n : Nat} [ha : Ag P t n] {b : Nat} {bt : TypeId} {cs : List Value} {L L' : List HP} [Pk L b bt cs L'] (H : Loc w0 w L) (hp : ρ.r a = .pointer (some ⟨b, 0, none⟩)) (hn : cs.length = n) : res1 P w ρ (.cell a t) (.agg cs.toArray) := by
  obtain ⟨i, hi, hs⟩ := ha.inf
  refine ⟨_, hp, ?_⟩
  have hl : (loadCells ⟨b, 0, none⟩ i.size).run P w = .ok cs.toArray w := by
    rw [hs, ← hn]
    exact run_loadCells_list (P := P) w ⟨b, 0, none⟩ cs (fun j v hj => by rw [add_plain, H.cell, Nat.zero_add]; exact hj)
  simp [loadVar, run_isAgg_ag, run_sizeOf' hi, hl]
theorem res_cell1 {a t : Nat} [hs : Sc P t] {b o : Nat} {bt : TypeId} {cs : List Value} {v : Value} {L L' : List HP} [Pk L b bt cs L'] (H : Loc w0 w L) (hp : ρ.r a = .pointer (some ⟨b, o, none⟩)) (hv : cs[o]? = some v) : res1 P w ρ (.cell a t) v := by
  refine ⟨_, hp, ?_⟩
  have hc : w.cell? ⟨b, o, none⟩ = some v := H.cell.trans hv
  simp [loadVar, run_isAgg_sc, hc]
end
end Go.Sl
set_option linter.unusedVariables false
set_option linter.unusedSimpArgs false
namespace Go.Sl
open Go.RowKit
theorem take_step {α : Type} {xs : List α} {k : Nat} {x : α} (h : xs[k]? = some x) : xs.take (k + 1) = xs.take k ++ [x] := by
  rw [List.take_add_one, h]; rfl
theorem get_of {α : Type} {xs : List α} {k : Nat} (h : k < xs.length) : ∃ x, xs[k]? = some x := ⟨xs[k], List.getElem?_eq_getElem h⟩
theorem lt_of_get {α : Type} {xs : List α} {k : Nat} {x : α} (h : xs[k]? = some x) : k < xs.length := (List.getElem?_eq_some_iff.1 h).1
theorem take_full {α : Type} {xs : List α} {k : Nat} (h : k ≤ xs.length) (h2 : ¬ k < xs.length) : xs.take k = xs := by rw [List.take_of_length_le (by omega)]
theorem mem_of_get {α : Type} {xs : List α} {k : Nat} {x : α} (h : xs[k]? = some x) : x ∈ xs := List.mem_of_getElem? h
theorem set_mid {α : Type} {us : List α} {k n : Nat} {u z : α} (h : us.length = k) (hk : k < n) : (us ++ List.replicate (n - k) z).set k u = (us ++ [u]) ++ List.replicate (n - (k + 1)) z := by
  rw [show n - k = (n - (k + 1)) + 1 by omega, List.replicate_succ, List.set_append_right _ _ (by omega), show k - us.length = 0 by omega]
  simp
theorem get_mid {α : Type} {us : List α} {k n : Nat} {u z : α} (h : us.length = k) : ((us ++ [u]) ++ List.replicate (n - (k + 1)) z)[k]? = some u := by
  rw [List.getElem?_append_left (by simp; omega), List.getElem?_append_right (by omega), show k - us.length = 0 by omega]
  rfl
def tab {α : Type} (n : Nat) (f : Nat → α) : List α := (List.range n).map f
def upd {α : Type} (f : Nat → α) (i : Nat) (v : α) : Nat → α := fun j => if j = i then v else f j
@[simp] theorem tab_length {α : Type} (n : Nat) (f : Nat → α) : (tab n f).length = n := by simp [tab]
theorem tab_get {α : Type} {n : Nat} {f : Nat → α} {i : Nat} (h : i < n) : (tab n f)[i]? = some (f i) := by simp [tab, h]
theorem tab_set {α : Type} (n : Nat) (f : Nat → α) (i : Nat) (v : α) : (tab n f).set i v = tab n (upd f i v) := by
  apply List.ext_getElem?
  intro j
  rw [List.getElem?_set]
  by_cases hj : j < n
  · rw [tab_get hj, tab_length]
    by_cases e : i = j
    · subst e; rw [if_pos rfl, if_pos hj, tab_get hj]; simp [upd]
    · rw [if_neg e, tab_get hj]; simp [upd, Ne.symm e]
  · rw [List.getElem?_eq_none (l := tab n f) (by simp; omega), List.getElem?_eq_none (l := tab n (upd f i v)) (by simp; omega)]
    by_cases e : i = j
    · subst e; rw [if_pos rfl, tab_length, if_neg hj]
    · rw [if_neg e]
theorem tab_congr {α : Type} {n : Nat} {f g : Nat → α} (h : ∀ i, i < n → f i = g i) : tab n f = tab n g := by
  unfold tab
  exact List.map_congr_left fun i hi => h i (by simpa using hi)
theorem tab_inj {α : Type} {n : Nat} {f g : Nat → α} : tab n f = tab n g ↔ ∀ i, i < n → f i = g i := by
  refine ⟨fun h i hi => ?_, tab_congr⟩
  have := congrArg (fun l => l[i]?) h
  simpa [tab_get hi] using this
theorem tab_const {α : Type} (n : Nat) (a : α) : List.replicate n a = tab n (fun _ => a) := by
  apply List.ext_getElem?
  intro i
  by_cases hi : i < n
  · rw [tab_get hi]; simp [hi]
  · rw [List.getElem?_eq_none (by simp; omega), List.getElem?_eq_none (by simp; omega)]
theorem tab_succ {α : Type} (n : Nat) (f : Nat → α) : tab (n + 1) f = tab n f ++ [f n] := by simp [tab, List.range_succ]
theorem tab_of {α : Type} [Inhabited α] (xs : List α) : xs = tab xs.length (fun i => xs.getD i default) := by
  apply List.ext_getElem?
  intro i
  by_cases hi : i < xs.length
  · rw [tab_get hi, List.getElem?_eq_getElem hi]; simp [hi]
  · rw [List.getElem?_eq_none (by omega), List.getElem?_eq_none (by simp; omega)]
theorem tab_all {α : Type} {n : Nat} {f : Nat → α} {p : α → Prop} : (∀ x ∈ tab n f, p x) ↔ ∀ i, i < n → p (f i) := by
  simp [tab]
theorem tab_map {α β : Type} (n : Nat) (f : Nat → α) (g : α → β) : (tab n f).map g = tab n (fun i => g (f i)) := by simp [tab, Function.comp_def]
def tint (n : Nat) (f : Nat → Int) : List Value := ints .i64 (tab n f)
@[simp] theorem tint_length (n : Nat) (f : Nat → Int) : (tint n f).length = n := by simp [tint]
theorem tint_get {n : Nat} {f : Nat → Int} {i : Nat} (h : i < n) : (tint n f)[i]? = some (.int .i64 (f i)) := ints_get _ _ _ _ (tab_get h)
theorem tint_set (n : Nat) (f : Nat → Int) (i : Nat) (v : Int) : (tint n f).set i (.int .i64 v) = tint n (upd f i v) := by
  rw [tint, ints_set, tab_set]; rfl
theorem tint_const (n : Nat) (a : Int) : List.replicate n (Value.int .i64 a) = tint n (fun _ => a) := by
  rw [ints_replicate, tab_const]; rfl
theorem tint_congr {n : Nat} {f g : Nat → Int} (h : ∀ i, i < n → f i = g i) : tint n f = tint n g := by unfold tint; rw [tab_congr h]
class Pq (L : List HP) (A : HP) (L' : outParam (List HP)) : Prop where
  perm : L.Perm (A :: L')
instance (priority := high) Pq.here (A : HP) (L : List HP) : Pq (A :: L) A L := ⟨List.Perm.refl _⟩
instance Pq.there (R : HP) (L : List HP) (A : HP) (L' : List HP) [h : Pq L A L'] : Pq (R :: L) A (R :: L') :=
  ⟨(List.Perm.cons _ h.perm).trans (List.Perm.swap _ _ _)⟩
theorem Loc.rest {w0 w : World} {L L' : List HP} {A : HP} (h : Loc w0 w (A :: L)) (f : Loc w0 w (L ++ [A]) → Loc w0 w L') : Loc w0 w L' := f (h.perm (List.perm_append_singleton A L).symm)
theorem Loc.none {w0 w : World} : ∀ {L : List HP}, Loc w0 w L → Loc w0 w []
  | [], h => h
  | _ :: _, h => h.drop.none
theorem Loc.upto {w0 w : World} {L0 : List HP} : ∀ {L : List HP}, Loc w0 w (L0 ++ L) → Loc w0 w L0
  | [], h => by rwa [List.append_nil] at h
  | A :: L, h => by
    have h1 : Loc w0 w (A :: (L0 ++ L)) := h.perm List.perm_middle
    exact h1.drop.upto
section
variable {w0 w : World} {L L1 L2 L3 L4 L5 L6 : List HP} {A B C D E F : HP}
theorem Loc.o0 (h : Loc w0 w L) : Loc w0 w [] := h.none
theorem Loc.o1 [h1 : Pq L A L1] (h : Loc w0 w L) : Loc w0 w [A] := (h.perm h1.perm).upto (L0 := [A])
theorem Loc.o2 [h1 : Pq L A L1] [h2 : Pq L1 B L2] (h : Loc w0 w L) : Loc w0 w [A, B] := (h.perm (h1.perm.trans (.cons _ h2.perm))).upto (L0 := [A, B])
theorem Loc.o3 [h1 : Pq L A L1] [h2 : Pq L1 B L2] [h3 : Pq L2 C L3] (h : Loc w0 w L) : Loc w0 w [A, B, C] := (h.perm (h1.perm.trans (.cons _ (h2.perm.trans (.cons _ h3.perm))))).upto (L0 := [A, B, C])
theorem Loc.o4 [h1 : Pq L A L1] [h2 : Pq L1 B L2] [h3 : Pq L2 C L3] [h4 : Pq L3 D L4] (h : Loc w0 w L) : Loc w0 w [A, B, C, D] :=
  (h.perm (h1.perm.trans (.cons _ (h2.perm.trans (.cons _ (h3.perm.trans (.cons _ h4.perm))))))).upto (L0 := [A, B, C, D])
theorem Loc.o6 [h1 : Pq L A L1] [h2 : Pq L1 B L2] [h3 : Pq L2 C L3] [h4 : Pq L3 D L4] [h5 : Pq L4 E L5] [h6 : Pq L5 F L6] (h : Loc w0 w L) : Loc w0 w [A, B, C, D, E, F] :=
  (h.perm (h1.perm.trans (.cons _ (h2.perm.trans (.cons _ (h3.perm.trans (.cons _ (h4.perm.trans (.cons _ (h5.perm.trans (.cons _ h6.perm))))))))))).upto (L0 := [A, B, C, D, E, F])
end
theorem row_cells {w : World} {e n : Nat} {v : Value} {xs : List Value} (h : w.ownsRow 0 e 1 v n xs) : ∃ A c, v = .slice A n c ∧ n ≤ c ∧ c ≤ 9223372036854775807 ∧ ∀ (j : Nat) (u : Value), xs[j]? = some u → ∃ a, A = some a ∧ w.cell? (a.add j) = some u := by
  rcases h.2 with ⟨rfl, rfl⟩ | ⟨g, cap, cur, rfl, _, hg, h1, h2, h3, h4⟩
  · refine ⟨none, 0, rfl, Nat.le_refl _, by omega, fun j u hu => ?_⟩
    have := (List.getElem?_eq_some_iff.1 hu).1
    have := h.1
    omega
  · exact ⟨_, cap, rfl, h1, by simpa [maxLen] using h2, fun j u hu => ⟨_, rfl, h.cells (g := g) rfl j u hu⟩⟩
theorem Loc.cle {w0 w : World} {L : List HP} {b t : Nat} {cs cs' : List Value} (h : Loc w0 w (cl b t cs :: L)) (e : cs = cs') : Loc w0 w (cl b t cs' :: L) := e ▸ h
theorem Loc.rowe {w0 w : World} {L : List HP} {t s n : Nat} {v : Value} {cs cs' : List Value} (h : Loc w0 w (row t s v n cs :: L)) (e : cs = cs') : Loc w0 w (row t s v n cs' :: L) := e ▸ h
theorem Loc.fr {w0 w : World} {L L' : List HP} (A : HP) [h1 : Pq L A L'] (h : Loc w0 w L) : Loc w0 w (A :: L') := h.perm h1.perm
section ops
variable {P : Program} {yl : Bool} {ρ : Rg} {w w0 : World} {L L' : List HP} {ty : TypeId} {K : Value → World → Prop} {Z : List PanicEntry → World → Prop} {x y z : Operand}
theorem E_loadt {t : TypeId} [Sc P t] {b o : Nat} {bt : TypeId} {n : Nat} {f : Nat → Int} [Pk L b bt (tint n f) L'] (i : Nat) (H : Loc w0 w L) (hp : ρ.ev x = .pointer (some ⟨b, o, none⟩)) (ho : o = i) (hi : i < n) (k : K (.int .i64 (f i)) w) : E P yl ρ w (.load t x) ty K Z :=
  E_load H hp (by rw [ho]; exact tint_get hi) k
theorem E_storet {t : TypeId} [Sc P t] {b o : Nat} {bt : TypeId} {n : Nat} {f : Nat → Int} [Pk L b bt (tint n f) L'] (i : Nat) {v : Int} (H : Loc w0 w L) (hp : ρ.ev x = .pointer (some ⟨b, o, none⟩)) (hy : ρ.ev y = .int .i64 v) (ho : o = i) (hi : i < n)
    (k : ∀ w', Loc w0 w' (cl b bt (tint n (upd f i v)) :: L') → K undef w') : E P yl ρ w (.store t x y) ty K Z :=
  E_store H hp hy rfl (by rw [ho]; simpa using hi) fun w' H' => k w' (by rw [ho, tint_set] at H'; exact H')
theorem E_shl1 {i : Nat} {xt yt : TypeId} {yk : IntKind} (hx : ρ.ev x = .int .i64 1) (hy : ρ.ev y = .int yk i) (h1 : i < 62) (k : K (.int .i64 ((2 ^ i : Nat) : Int)) w) : E P yl ρ w (.binOp .shl xt x y yt) ty K Z := by
  have hp : 2 ^ i < 2 ^ 62 := Nat.pow_lt_pow_right (by omega) h1
  have e : (1 : Int) * 2 ^ ((i : Int).toNat) = ((2 ^ i : Nat) : Int) := by rw [Int.toNat_natCast, Int.one_mul]; exact (Int.natCast_pow 2 i).symm
  have hp' : 2 ^ i < 4611686018427387904 := by simpa using hp
  refine E_shl hx hy (by omega) (by omega) ?_ ?_
  · rw [e]
    obtain ⟨N, hN⟩ : ∃ N, N = 2 ^ i := ⟨_, rfl⟩
    rw [← hN] at hp' ⊢
    omega
  · rw [e]; exact k
theorem E_shrn {a b : Nat} {xt yt : TypeId} {yk : IntKind} (hx : ρ.ev x = .int .i64 a) (hy : ρ.ev y = .int yk b) (h1 : b < 62) (k : K (.int .i64 ((a / 2 ^ b : Nat) : Int)) w) : E P yl ρ w (.binOp .shr xt x y yt) ty K Z := by
  refine E_shr hx hy (by omega) (by omega) (by omega) ?_
  rw [Int.toNat_natCast, show ((a : Int) / 2 ^ b) = ((a / 2 ^ b : Nat) : Int) by rw [Int.natCast_ediv, Int.natCast_pow]; rfl]
  exact k
theorem E_convu {s d : TypeId} {ks : IntKind} [hs : Ik P s ks] [hd : Ik P d .u64] {a : Nat} (hx : ρ.ev x = .int ks a) (h : a < 9223372036854775808) (k : K (.int .u64 a) w) : E P yl ρ w (.convert s d x) ty K Z := by
  refine E_conv hx ?_
  rw [IntWalk.u64_in _ (by omega)]; exact k
theorem RdI.of_arr {b t n : Nat} {f : Nat → Int} [hp : Pk L b t (tint n f) L'] (H : Loc w0 w L) (hm : n ≤ 9223372036854775807) : RdI w (.slice (some ⟨b, 0, none⟩) n n) (tab n f) := by
  have := RdI.of_cl (k := .i64) (xs := tab n f) (hp := hp) H (by simpa using hm)
  rwa [tab_length] at this
end ops
end Go.Sl
