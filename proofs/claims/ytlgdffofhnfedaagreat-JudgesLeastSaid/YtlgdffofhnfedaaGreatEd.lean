/- Prices that bear a matching: its gain is the greatest, and each matching of greatest gain is borne by them. No program in sight. -/
import Derived.Test.YtlgdffofhnfedaaGreatEc
import Derived.Test.YtlgdffofhnfedaaGreatX31
set_option linter.unusedVariables false
set_option linter.unusedSimpArgs false
namespace Go.Sl
theorem sumN_lt {f g : Nat → Int} : ∀ {n a : Nat}, (∀ i, i < n → f i ≤ g i) → a < n → f a < g a → sumN n f < sumN n g
  | 0, a, _, ha, _ => absurd ha (Nat.not_lt_zero _)
  | n + 1, a, h, ha, hlt => by
    simp only [sumN]
    by_cases e : a = n
    · subst e
      have := sumN_le (f := f) (g := g) (n := a) fun i hi => h i (by omega)
      omega
    · have := sumN_lt (f := f) (g := g) (n := n) (fun i hi => h i (by omega)) (by omega) hlt
      have := h n (by omega)
      omega
section dual
variable {a : Nat → Nat → Int} {n k : Nat} {F : Nat → Bool} {X : Nat → Nat → Bool} {u v : Nat → Int}
def rowS (k : Nat) (X : Nat → Nat → Bool) (u : Nat → Int) (i : Nat) : Int := sumN k fun j => if X i j then u i else 0
def colS (n : Nat) (X : Nat → Nat → Bool) (v : Nat → Int) (j : Nat) : Int := sumN n fun i => if X i j then v j else 0
theorem rowS_some (h : IsM a k n F X) {i j : Nat} (hi : i < n) (hj : j < k) (hx : X i j = true) : rowS k X u i = u i := by
  unfold rowS
  rw [sumN_one hj fun j' hj' hne => by
    by_cases hc : X i j' = true
    · exact absurd (h.row i hi j' j hj' hj hc hx) hne
    · simp [hc], if_pos hx]
theorem rowS_none {i : Nat} (hx : ∀ j, j < k → X i j ≠ true) : rowS k X u i = 0 := sumN_zero fun j hj => by simp [hx j hj]
theorem colS_some (h : IsM a k n F X) {i j : Nat} (hi : i < n) (hj : j < k) (hx : X i j = true) : colS n X v j = v j := by
  unfold colS
  rw [sumN_one hi fun i' hi' hne => by
    by_cases hc : X i' j = true
    · exact absurd (h.col i' i hi' hi j hj hc hx) hne
    · simp [hc], if_pos hx]
theorem colS_none {j : Nat} (hx : ∀ i, i < n → X i j ≠ true) : colS n X v j = 0 := sumN_zero fun i hi => by simp [hx i hi]
theorem rowS_le (h : IsM a k n F X) (hu : ∀ i, i < n → 0 ≤ u i) {i : Nat} (hi : i < n) : rowS k X u i ≤ u i := by
  by_cases hx : ∃ j, j < k ∧ X i j = true
  · obtain ⟨j, hj, hx⟩ := hx
    rw [rowS_some h hi hj hx]; exact Int.le_refl _
  · rw [rowS_none fun j hj hx' => hx ⟨j, hj, hx'⟩]; exact hu i hi
theorem colS_le (h : IsM a k n F X) (hv : ∀ j, j < k → 0 ≤ v j) {j : Nat} (hj : j < k) : colS n X v j ≤ v j := by
  by_cases hx : ∃ i, i < n ∧ X i j = true
  · obtain ⟨i, hi, hx⟩ := hx
    rw [colS_some h hi hj hx]; exact Int.le_refl _
  · rw [colS_none fun i hi hx' => hx ⟨i, hi, hx'⟩]; exact hv j hj
def valU (k n : Nat) (X : Nat → Nat → Bool) (u v : Nat → Int) : Int := sumN n fun i => sumN k fun j => if X i j then u i + v j else 0
theorem valU_eq : valU k n X u v = sumN n (rowS k X u) + sumN k (colS n X v) := by
  have e : valU k n X u v = sumN n (fun i => rowS k X u i + sumN k fun j => if X i j then v j else 0) := by
    unfold valU rowS
    refine sumN_congr fun i _ => ?_
    rw [← sumN_add]
    refine sumN_congr fun j _ => ?_
    split <;> simp
  rw [e, sumN_add, sumN_swap (f := fun i j => if X i j then v j else 0)]; rfl
theorem val_le_valU (h : ∀ i j, i < n → j < k → X i j = true → a i j ≤ u i + v j) : val a k n X ≤ valU k n X u v :=
  sumN_le fun i hi => sumN_le fun j hj => by
    by_cases hx : X i j = true
    · rw [if_pos hx, if_pos hx]; exact h i j hi hj hx
    · rw [if_neg hx, if_neg hx]; exact Int.le_refl _
theorem val_eq_valU (h : ∀ i j, i < n → j < k → X i j = true → a i j = u i + v j) : val a k n X = valU k n X u v :=
  sumN_congr fun i hi => sumN_congr fun j hj => by
    by_cases hx : X i j = true
    · rw [if_pos hx, if_pos hx, h i j hi hj hx]
    · rw [if_neg hx, if_neg hx]
theorem dual_le (h : IsM a k n F X) (hu : ∀ i, i < n → 0 ≤ u i) (hv : ∀ j, j < k → 0 ≤ v j) (ha : ∀ i j, i < n → j < k → a i j ≤ u i + v j) : val a k n X ≤ sumN n u + sumN k v := by
  have h1 := val_le_valU (a := a) (X := X) (u := u) (v := v) fun i j hi hj _ => ha i j hi hj
  rw [valU_eq] at h1
  have h2 := sumN_le (n := n) (f := rowS k X u) (g := u) fun i hi => rowS_le h hu hi
  have h3 := sumN_le (n := k) (f := colS n X v) (g := v) fun j hj => colS_le h hv hj
  omega
theorem dual_eq (h : IsM a k n F X) (ha : ∀ i j, i < n → j < k → X i j = true → a i j = u i + v j) (hu : ∀ i, i < n → (∀ j, j < k → X i j ≠ true) → u i = 0) (hv : ∀ j, j < k → (∀ i, i < n → X i j ≠ true) → v j = 0) :
    val a k n X = sumN n u + sumN k v := by
  rw [val_eq_valU ha, valU_eq]
  have h2 : sumN n (rowS k X u) = sumN n u := sumN_congr fun i hi => by
    by_cases hx : ∃ j, j < k ∧ X i j = true
    · obtain ⟨j, hj, hx⟩ := hx; exact rowS_some h hi hj hx
    · rw [rowS_none fun j hj hx' => hx ⟨j, hj, hx'⟩, hu i hi fun j hj hx' => hx ⟨j, hj, hx'⟩]
  have h3 : sumN k (colS n X v) = sumN k v := sumN_congr fun j hj => by
    by_cases hx : ∃ i, i < n ∧ X i j = true
    · obtain ⟨i, hi, hx⟩ := hx; exact colS_some h hi hj hx
    · rw [colS_none fun i hi hx' => hx ⟨i, hi, hx'⟩, hv j hj fun i hi hx' => hx ⟨i, hi, hx'⟩]
  rw [h2, h3]
structure Borne (a : Nat → Nat → Int) (n k : Nat) (X : Nat → Nat → Bool) (u v : Nat → Int) : Prop where
  at_ : ∀ i j, i < n → j < k → X i j = true → a i j = u i + v j
  row : ∀ i, i < n → u i ≠ 0 → ∃ j, j < k ∧ X i j = true
  col : ∀ j, j < k → v j ≠ 0 → ∃ i, i < n ∧ X i j = true
theorem borne_of (h : IsM a k n F X) (hu : ∀ i, i < n → 0 ≤ u i) (hv : ∀ j, j < k → 0 ≤ v j) (ha : ∀ i j, i < n → j < k → a i j ≤ u i + v j) (he : sumN n u + sumN k v ≤ val a k n X) : Borne a n k X u v := by
  have h1 := val_le_valU (a := a) (X := X) (u := u) (v := v) fun i j hi hj _ => ha i j hi hj
  have h2 := sumN_le (n := n) (f := rowS k X u) (g := u) fun i hi => rowS_le h hu hi
  have h3 := sumN_le (n := k) (f := colS n X v) (g := v) fun j hj => colS_le h hv hj
  have e := valU_eq (k := k) (n := n) (X := X) (u := u) (v := v)
  refine ⟨fun i j hi hj hx => ?_, fun i hi hne => ?_, fun j hj hne => ?_⟩
  · refine Classical.byContradiction fun hn => ?_
    have hlt : a i j < u i + v j := by have := ha i j hi hj; omega
    have : val a k n X < valU k n X u v := sumN_lt (a := i) (fun i hi => sumN_le fun j hj => by
      by_cases hx : X i j = true
      · rw [if_pos hx, if_pos hx]; exact ha i j hi hj
      · rw [if_neg hx, if_neg hx]; exact Int.le_refl _) hi (sumN_lt (a := j) (fun j hj => by
      by_cases hx : X i j = true
      · rw [if_pos hx, if_pos hx]; exact ha i j hi hj
      · rw [if_neg hx, if_neg hx]; exact Int.le_refl _) hj (by rw [if_pos hx, if_pos hx]; exact hlt))
    omega
  · refine Classical.byContradiction fun hn => ?_
    have := sumN_lt (n := n) (a := i) (f := rowS k X u) (g := u) (fun i hi => rowS_le h hu hi) hi (by rw [rowS_none fun j hj hx => hn ⟨j, hj, hx⟩]; have := hu i hi; omega)
    omega
  · refine Classical.byContradiction fun hn => ?_
    have := sumN_lt (n := k) (a := j) (f := colS n X v) (g := v) (fun j hj => colS_le h hv hj) hj (by rw [colS_none fun i hi hx => hn ⟨i, hi, hx⟩]; have := hv j hj; omega)
    omega
end dual
end Go.Sl
