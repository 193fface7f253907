/- What rises: each set of items that rose is wanted by more than it has items. No program in sight. -/
import Derived.Test.YtlgdffofhnfedaaGreatU
set_option linter.unusedVariables false
namespace Go.Sl
open Classical in
noncomputable def cn : Nat → (Nat → Prop) → Nat
  | 0, _ => 0
  | n + 1, P => cn n P + if P n then 1 else 0
theorem cn_imp {P Q : Nat → Prop} : ∀ {n : Nat}, (∀ i, i < n → P i → Q i) → cn n P ≤ cn n Q
  | 0, _ => Nat.le_refl _
  | n + 1, h => by
    have ih := cn_imp (n := n) fun i hi => h i (by omega)
    have := h n (by omega)
    simp only [cn]
    by_cases hp : P n
    · rw [if_pos hp, if_pos (this hp)]; omega
    · rw [if_neg hp]; omega
theorem cn_congr {P Q : Nat → Prop} {n : Nat} (h : ∀ i, i < n → (P i ↔ Q i)) : cn n P = cn n Q :=
  Nat.le_antisymm (cn_imp fun i hi => (h i hi).1) (cn_imp fun i hi => (h i hi).2)
theorem cn_or_and (P Q : Nat → Prop) : ∀ n : Nat, cn n (fun i => P i ∨ Q i) + cn n (fun i => P i ∧ Q i) = cn n P + cn n Q
  | 0 => rfl
  | n + 1 => by
    have ih := cn_or_and P Q n
    simp only [cn]
    by_cases hp : P n <;> by_cases hq : Q n
    · rw [if_pos (.inl hp), if_pos ⟨hp, hq⟩, if_pos hp, if_pos hq]; omega
    · rw [if_pos (.inl hp), if_neg (fun h => hq h.2), if_pos hp, if_neg hq]; omega
    · rw [if_pos (.inr hq), if_neg (fun h => hp h.1), if_neg hp, if_pos hq]; omega
    · rw [if_neg (fun h => h.elim hp hq), if_neg (fun h => hp h.1), if_neg hp, if_neg hq]; omega
theorem cn_lt {P Q : Nat → Prop} : ∀ {n a : Nat}, (∀ i, i < n → P i → Q i) → a < n → ¬ P a → Q a → cn n P + 1 ≤ cn n Q
  | 0, a, _, ha, _, _ => absurd ha (Nat.not_lt_zero _)
  | n + 1, a, h, ha, hp, hq => by
    simp only [cn]
    by_cases e : a = n
    · subst e
      rw [if_neg hp, if_pos hq]
      have := cn_imp (n := a) fun i hi => h i (by omega)
      omega
    · have ih := cn_lt (n := n) (fun i hi => h i (by omega)) (by omega) hp hq
      have := h n (by omega)
      by_cases hp' : P n
      · rw [if_pos hp', if_pos (this hp')]; omega
      · rw [if_neg hp']; omega
theorem cn_one {a : Nat} : ∀ n : Nat, cn n (fun i => i = a) ≤ 1
  | 0 => Nat.zero_le _
  | n + 1 => by
    simp only [cn]
    by_cases e : n = a
    · rw [if_pos e]
      have : cn n (fun i => i = a) = 0 := by
        subst e
        have gen : ∀ m : Nat, m ≤ n → cn m (fun i => i = n) = 0 := by
          intro m
          induction m with
          | zero => intro _; rfl
          | succ m ih => intro hm; simp only [cn]; rw [if_neg (by omega), ih (by omega)]
        exact gen n (Nat.le_refl _)
      omega
    · rw [if_neg e]; have := cn_one (a := a) n; omega
theorem cn_none {P : Nat → Prop} : ∀ {n : Nat}, (∀ i, i < n → ¬ P i) → cn n P = 0
  | 0, _ => rfl
  | n + 1, h => by simp only [cn]; rw [if_neg (h n (by omega)), cn_none fun i hi => h i (by omega)]
theorem cn_zero {P : Nat → Prop} {n i : Nat} (h : cn n P = 0) (hi : i < n) : ¬ P i := fun hp => by
  have := cn_lt (P := fun _ => False) (Q := P) (n := n) (a := i) (fun _ _ h => h.elim) hi (fun h => h) hp
  omega
theorem cn_add {P : Nat → Prop} {a : Nat} (n : Nat) : cn n (fun i => P i ∨ i = a) ≤ cn n P + 1 := by
  have := cn_or_and P (fun i => i = a) n
  have := cn_one (a := a) n
  omega
section hall
variable {n k : Nat}
def within (k : Nat) (D : Nat → Nat → Prop) (l : Nat → Prop) (i : Nat) : Prop := ∀ j, j < k → D i j → l j
def HallC (n k : Nat) (X : Nat → Prop) (D : Nat → Nat → Prop) : Prop := ∀ l : Nat → Prop, cn n (fun i => X i ∧ within k D l i) ≤ cn k l
def Serves (n k : Nat) (X : Nat → Prop) (D : Nat → Nat → Prop) (f : Nat → Nat) : Prop := (∀ i, i < n → X i → f i < k ∧ D i (f i)) ∧ ∀ i i', i < n → i' < n → X i → X i' → f i = f i' → i = i'
noncomputable def wtD (k : Nat) (X : Nat → Prop) (D : Nat → Nat → Prop) : Nat → Nat
  | 0 => 0
  | n + 1 => wtD k X D n + cn k (fun j => X n ∧ D n j)
theorem wtD_le {X : Nat → Prop} {D D' : Nat → Nat → Prop} (h : ∀ i j, D' i j → D i j) : ∀ n, wtD k X D' n ≤ wtD k X D n
  | 0 => Nat.le_refl _
  | n + 1 => by
    have := wtD_le (X := X) h n
    have := cn_imp (n := k) (P := fun j => X n ∧ D' n j) (Q := fun j => X n ∧ D n j) fun j _ hj => ⟨hj.1, h n j hj.2⟩
    simp only [wtD]; omega
theorem wtD_lt {X : Nat → Prop} {D D' : Nat → Nat → Prop} (h : ∀ i j, D' i j → D i j) {i j : Nat} (hX : X i) (hj : j < k) (hD : D i j) (hD' : ¬ D' i j) : ∀ n, i < n → wtD k X D' n < wtD k X D n
  | 0, hi => absurd hi (Nat.not_lt_zero _)
  | n + 1, hi => by
    simp only [wtD]
    by_cases e : i = n
    · subst e
      have := wtD_le (k := k) (X := X) h i
      have := cn_lt (n := k) (P := fun j => X i ∧ D' i j) (Q := fun j => X i ∧ D i j) (a := j) (fun j _ hj => ⟨hj.1, h i j hj.2⟩) hj (fun h => hD' h.2) ⟨hX, hD⟩
      omega
    · have := wtD_lt h hX hj hD hD' n (by omega)
      have := cn_imp (n := k) (P := fun j => X n ∧ D' n j) (Q := fun j => X n ∧ D n j) fun j _ hj => ⟨hj.1, h n j hj.2⟩
      omega
def less1 (D : Nat → Nat → Prop) (a b : Nat) : Nat → Nat → Prop := fun i j => D i j ∧ ¬ (i = a ∧ j = b)
theorem tight_of {X : Nat → Prop} {D : Nat → Nat → Prop} {a b : Nat} (H : HallC n k X D) (ha : a < n) (hX : X a) (hb : b < k) (hD : D a b) (hno : ¬ HallC n k X (less1 D a b)) :
    ∃ l : Nat → Prop, cn n (fun i => X i ∧ within k D l i) = cn k l ∧ ¬ l b ∧ ∀ j, j < k → D a j → j ≠ b → l j := by
  have : ∃ l : Nat → Prop, ¬ cn n (fun i => X i ∧ within k (less1 D a b) l i) ≤ cn k l := Classical.not_forall.1 hno
  obtain ⟨l, hl⟩ := this
  have hH := H l
  have hsub : ∀ i, i < n → (X i ∧ within k (less1 D a b) l i) → ((X i ∧ within k D l i) ∨ i = a) := fun i hi h => by
    by_cases e : i = a
    · exact .inr e
    · exact .inl ⟨h.1, fun j hj hd => h.2 j hj ⟨hd, fun h => e h.1⟩⟩
  have h1 := cn_imp (n := n) hsub
  have h2 := cn_add (P := fun i => X i ∧ within k D l i) (a := a) n
  have hla : within k (less1 D a b) l a := Classical.byContradiction fun hna => by
    have := cn_imp (n := n) (P := fun i => X i ∧ within k (less1 D a b) l i) (Q := fun i => X i ∧ within k D l i) fun i hi h => by
      rcases hsub i hi h with h' | rfl
      · exact h'
      · exact absurd h.2 hna
    omega
  refine ⟨l, by omega, fun hlb => ?_, fun j hj hd hne => hla j hj ⟨hd, fun h => hne h.2⟩⟩
  have := cn_imp (n := n) (P := fun i => X i ∧ within k (less1 D a b) l i) (Q := fun i => X i ∧ within k D l i) fun i hi h => ⟨h.1, fun j hj hd => by
    by_cases e : i = a ∧ j = b
    · rw [e.2]; exact hlb
    · exact h.2 j hj ⟨hd, e⟩⟩
  omega
theorem hall_step {X : Nat → Prop} {D : Nat → Nat → Prop} {a b c : Nat} (H : HallC n k X D) (ha : a < n) (hX : X a) (hb : b < k) (hc : c < k) (hbc : b ≠ c) (hDb : D a b) (hDc : D a c) :
    HallC n k X (less1 D a b) ∨ HallC n k X (less1 D a c) := by
  refine Classical.byContradiction fun hno => ?_
  obtain ⟨l1, t1, n1, s1⟩ := tight_of H ha hX hb hDb fun h => hno (.inl h)
  obtain ⟨l2, t2, n2, s2⟩ := tight_of H ha hX hc hDc fun h => hno (.inr h)
  have hU := H fun j => l1 j ∨ l2 j
  have hI := H fun j => l1 j ∧ l2 j
  have e1 := cn_or_and (fun i => X i ∧ within k D l1 i) (fun i => X i ∧ within k D l2 i) n
  have e2 := cn_or_and l1 l2 k
  have e3 := cn_imp (n := n) (P := fun i => (X i ∧ within k D l1 i) ∧ (X i ∧ within k D l2 i)) (Q := fun i => X i ∧ within k D (fun j => l1 j ∧ l2 j) i) fun i _ h => ⟨h.1.1, fun j hj hd => ⟨h.1.2 j hj hd, h.2.2 j hj hd⟩⟩
  have e4 := cn_lt (n := n) (a := a) (P := fun i => (X i ∧ within k D l1 i) ∨ (X i ∧ within k D l2 i)) (Q := fun i => X i ∧ within k D (fun j => l1 j ∨ l2 j) i)
    (fun i _ h => by
      rcases h with h | h
      · exact ⟨h.1, fun j hj hd => .inl (h.2 j hj hd)⟩
      · exact ⟨h.1, fun j hj hd => .inr (h.2 j hj hd)⟩) ha
    (fun h => by
      rcases h with h | h
      · exact n1 (h.2 b hb hDb)
      · exact n2 (h.2 c hc hDc))
    ⟨hX, fun j hj hd => by
      by_cases e : j = b
      · subst e; exact .inr (s2 j hj hd hbc)
      · exact .inl (s1 j hj hd e)⟩
  omega
theorem hall_one {X : Nat → Prop} {D : Nat → Nat → Prop} (H : HallC n k X D) (h1 : ∀ i, i < n → X i → ∀ b c, b < k → c < k → D i b → D i c → b = c) : ∃ f, Serves n k X D f := by
  have hex : ∀ i, ∃ j, i < n → X i → j < k ∧ D i j := fun i => by
    by_cases h : i < n ∧ X i
    · refine Classical.byContradiction fun hno => ?_
      have h0 := H fun _ => False
      rw [cn_none (P := fun _ => False) (n := k) fun _ _ h => h] at h0
      refine cn_zero (i := i) (Nat.le_zero.1 h0) h.1 ⟨h.2, fun j hj hd => ?_⟩
      exact hno ⟨j, fun _ _ => ⟨hj, hd⟩⟩
    · exact ⟨0, fun h1 h2 => absurd ⟨h1, h2⟩ h⟩
  refine ⟨fun i => Classical.choose (hex i), fun i hi hX => Classical.choose_spec (hex i) hi hX, fun i i' hi hi' hX hX' he => ?_⟩
  have p := Classical.choose_spec (hex i) hi hX
  have p' := Classical.choose_spec (hex i') hi' hX'
  have he' : Classical.choose (hex i) = Classical.choose (hex i') := he
  rw [← he'] at p'
  generalize Classical.choose (hex i) = j at p p'
  refine Classical.byContradiction fun hne => ?_
  have h2 := H fun x => x = j
  have h3 := cn_one (a := j) k
  have h4 := cn_lt (n := n) (a := i) (P := fun x => x = i') (Q := fun x => X x ∧ within k D (fun x => x = j) x) (fun x hx e => by subst e; exact ⟨hX', fun y hy hd => h1 x hx hX' y j hy p'.1 hd p'.2⟩) hi (fun e => hne e) ⟨hX, fun y hy hd => h1 i hi hX y j hy p.1 hd p.2⟩
  have h5 := cn_lt (n := n) (a := i') (P := fun _ => False) (Q := fun x => x = i') (fun _ _ h => h.elim) hi' (fun h => h) rfl
  omega
theorem hall_aux {X : Nat → Prop} : ∀ (m : Nat) {D : Nat → Nat → Prop}, wtD k X D n ≤ m → HallC n k X D → ∃ f, Serves n k X D f
  | m, D, hm, H => by
    by_cases h1 : ∀ i, i < n → X i → ∀ b c, b < k → c < k → D i b → D i c → b = c
    · exact hall_one H h1
    · obtain ⟨i, h⟩ := Classical.not_forall.1 h1
      obtain ⟨hi, h⟩ := Classical.not_imp.1 h
      obtain ⟨hX, h⟩ := Classical.not_imp.1 h
      obtain ⟨b, h⟩ := Classical.not_forall.1 h
      obtain ⟨c, h⟩ := Classical.not_forall.1 h
      obtain ⟨hb, h⟩ := Classical.not_imp.1 h
      obtain ⟨hc, h⟩ := Classical.not_imp.1 h
      obtain ⟨hDb, h⟩ := Classical.not_imp.1 h
      obtain ⟨hDc, hne⟩ := Classical.not_imp.1 h
      have go : ∀ x, x < k → D i x → HallC n k X (less1 D i x) → ∃ f, Serves n k X D f := fun x hx hDx hH => by
        have hlt := wtD_lt (k := k) (X := X) (D := D) (D' := less1 D i x) (fun _ _ h => h.1) hX hx hDx (fun h => h.2 ⟨rfl, rfl⟩) n hi
        match m, hm with
        | 0, hm => omega
        | m + 1, hm =>
          obtain ⟨f, hf⟩ := hall_aux m (D := less1 D i x) (by omega) hH
          exact ⟨f, fun a ha hXa => ⟨(hf.1 a ha hXa).1, (hf.1 a ha hXa).2.1⟩, hf.2⟩
      rcases hall_step H hi hX hb hc hne hDb hDc with h | h
      · exact go b hb hDb h
      · exact go c hc hDc h
theorem hall {X : Nat → Prop} {D : Nat → Nat → Prop} (H : HallC n k X D) : ∃ f, Serves n k X D f := hall_aux _ (Nat.le_refl _) H
end hall
section two
variable {n k : Nat} {X Y : Nat → Prop} {D : Nat → Nat → Prop}
inductive Chain (n k : Nat) (X Y : Nat → Prop) (A B : Nat → Nat) : Nat → Prop
  | base {i : Nat} (hi : i < n) (hX : X i) (h : ∀ j, j < k → Y j → B j ≠ i) : Chain n k X Y A B i
  | step {i : Nat} (hi : i < n) (hX : X i) (hc : Chain n k X Y A B i) (hY : Y (A i)) : Chain n k X Y A B (B (A i))
theorem Chain.case {A B : Nat → Nat} {i : Nat} (h : Chain n k X Y A B i) : (∀ j, j < k → Y j → B j ≠ i) ∨ ∃ i', i' < n ∧ X i' ∧ Chain n k X Y A B i' ∧ Y (A i') ∧ B (A i') = i := by
  cases h with
  | base hi hX h => exact .inl h
  | step hi hX hc hY => exact .inr ⟨_, hi, hX, hc, hY, rfl⟩
structure Both (n k : Nat) (X Y : Nat → Prop) (D : Nat → Nat → Prop) (M : Nat → Option Nat) : Prop where
  want : ∀ i j, i < n → M i = some j → j < k ∧ D i j
  inj : ∀ i i' j, i < n → i' < n → M i = some j → M i' = some j → i = i'
  must : ∀ i, i < n → X i → M i ≠ none
  had : ∀ j, j < k → Y j → ∃ i, i < n ∧ M i = some j
open Classical in
theorem both_of {A B : Nat → Nat} (hA : Serves n k X D A) (hB : Serves k n Y (fun j i => D i j) B) : ∃ M, Both n k X Y D M := by
  let C := Chain n k X Y A B
  let M : Nat → Option Nat := fun i => if C i then (if X i then some (A i) else none) else if h : ∃ j, j < k ∧ Y j ∧ B j = i then some (Classical.choose h) else none
  have hM1 : ∀ {i}, C i → X i → M i = some (A i) := fun h1 h2 => by show (if _ then _ else _) = _; rw [if_pos h1, if_pos h2]
  have hM2 : ∀ {j}, j < k → Y j → ¬ C (B j) → M (B j) = some j := fun {j} hj hY hC => by
    have hex : ∃ j', j' < k ∧ Y j' ∧ B j' = B j := ⟨j, hj, hY, rfl⟩
    show (if _ then _ else _) = _
    rw [if_neg hC, dif_pos hex]
    have hs := Classical.choose_spec hex
    rw [hB.2 _ _ hs.1 hj hs.2.1 hY hs.2.2]
  have hM3 : ∀ {i j}, M i = some j → (C i ∧ X i ∧ A i = j) ∨ (¬ C i ∧ j < k ∧ Y j ∧ B j = i) := fun {i j} h => by
    change (if _ then _ else _) = _ at h
    by_cases hC : C i
    · rw [if_pos hC] at h
      by_cases hX : X i
      · rw [if_pos hX] at h; exact .inl ⟨hC, hX, Option.some.inj h⟩
      · rw [if_neg hX] at h; cases h
    · rw [if_neg hC] at h
      by_cases hex : ∃ j, j < k ∧ Y j ∧ B j = i
      · rw [dif_pos hex] at h
        have hs := Classical.choose_spec hex
        rw [Option.some.inj h] at hs
        exact .inr ⟨hC, hs⟩
      · rw [dif_neg hex] at h; cases h
  refine ⟨M, ⟨fun i j hi h => ?_, fun i i' j hi hi' h h' => ?_, fun i hi hX h => ?_, fun j hj hY => ?_⟩⟩
  · rcases hM3 h with ⟨_, hX, rfl⟩ | ⟨_, hj, hY, rfl⟩
    · exact hA.1 i hi hX
    · exact ⟨hj, (hB.1 j hj hY).2⟩
  · rcases hM3 h with ⟨hC, hX, rfl⟩ | ⟨hC, hj, hY, rfl⟩ <;> rcases hM3 h' with ⟨hC', hX', e⟩ | ⟨hC', hj', hY', e⟩
    · exact hA.2 _ _ hi hi' hX hX' e.symm
    · exact absurd (e ▸ Chain.step hi hX hC hY') hC'
    · subst e; exact absurd (Chain.step hi' hX' hC' hY) hC
    · exact e
  · by_cases hC : C i
    · rw [hM1 hC hX] at h; cases h
    · refine hC (Chain.base hi hX fun j hj hY e => ?_)
      subst e
      rw [hM2 hj hY hC] at h
      cases h
  · by_cases hC : C (B j)
    · rcases hC.case with h | ⟨i', hi', hX', hC', hY', e⟩
      · exact absurd rfl (h j hj hY)
      · have e2 := hB.2 _ _ (hA.1 i' hi' hX').1 hj hY' hY e
        exact ⟨i', hi', by rw [hM1 hC' hX', e2]⟩
    · exact ⟨B j, (hB.1 j hj hY).1, hM2 hj hY hC⟩
end two
end Go.Sl
set_option linter.unusedVariables false
set_option linter.unusedSimpArgs false
namespace Go.Sl
open Classical in
noncomputable def lst (k : Nat) (W : Nat → Prop) : List Int := ((List.range k).filter fun j => decide (W j)).map fun j : Nat => (j : Int)
theorem lst_mem {k : Nat} {W : Nat → Prop} {x : Int} : x ∈ lst k W ↔ ∃ j : Nat, x = j ∧ j < k ∧ W j := by
  unfold lst
  simp only [List.mem_map, List.mem_filter, List.mem_range, decide_eq_true_eq]
  constructor
  · rintro ⟨j, ⟨h1, h2⟩, rfl⟩; exact ⟨j, rfl, h1, h2⟩
  · rintro ⟨j, rfl, h1, h2⟩; exact ⟨j, ⟨h1, h2⟩, rfl⟩
theorem lst_isR (k : Nat) (W : Nat → Prop) : isR (lst k W) k := by
  refine ⟨fun x hx => ?_, ?_⟩
  · obtain ⟨j, rfl, hj, _⟩ := lst_mem.1 hx; omega
  · unfold lst
    rw [List.pairwise_map]
    exact List.Pairwise.imp (fun {a b} h => by omega) (List.pairwise_lt_range.filter _)
theorem lst_len (W : Nat → Prop) : ∀ k : Nat, (lst k W).length = cn k W
  | 0 => rfl
  | k + 1 => by
    have ih := lst_len W k
    unfold lst at ih ⊢
    rw [List.length_map] at ih ⊢
    rw [List.range_succ, List.filter_append, List.length_append, ih]
    simp only [cn]
    by_cases h : W k
    · rw [if_pos h, List.filter_cons_of_pos (by simpa using h)]; rfl
    · rw [if_neg h, List.filter_cons_of_neg (by simpa using h)]; rfl
theorem isR_len_cn {k : Nat} : ∀ (n : Nat) {l : List Int}, l.length = n → isR l k → l.length = cn k (fun j => (j : Int) ∈ l)
  | 0, l, hn, _ => by
    obtain rfl := List.eq_nil_of_length_eq_zero hn
    rw [cn_none (fun _ _ h => by cases h)]; rfl
  | n + 1, l, hn, h => by
    have hne : l ≠ [] := fun e => by rw [e] at hn; cases hn
    have he := List.dropLast_concat_getLast hne
    generalize l.getLast hne = x at he
    have hdl : l.dropLast.length = n := by rw [List.length_dropLast]; omega
    generalize l.dropLast = l' at he hdl
    subst he
    obtain ⟨h1, h2, h3, h4⟩ := isR_snoc.1 h
    have ih := isR_len_cn n hdl h1
    rw [List.length_append, ih]
    have e : cn k (fun j => (j : Int) ∈ l' ++ [x]) = cn k (fun j => (j : Int) ∈ l') + cn k (fun j => j = x.toNat) := by
      have := cn_or_and (fun j => (j : Int) ∈ l') (fun j => j = x.toNat) k
      rw [cn_none (P := fun i => (i : Int) ∈ l' ∧ i = x.toNat) fun i _ hi => by have := h4 _ hi.1; omega] at this
      rw [Nat.add_zero] at this
      rw [← this]
      refine cn_congr fun j _ => ?_
      simp only [List.mem_append, List.mem_singleton]
      constructor
      · rintro (h | h)
        · exact .inl h
        · exact .inr (by omega)
      · rintro (h | h)
        · exact .inl h
        · exact .inr (by omega)
    have e1 : cn k (fun j => j = x.toNat) = 1 := by
      have a := cn_one (a := x.toNat) k
      have b := cn_lt (n := k) (a := x.toNat) (P := fun _ => False) (Q := fun j => j = x.toNat) (fun _ _ h => h.elim) (by omega) (fun h => h) rfl
      omega
    rw [e, e1]; rfl
section rise
variable {m : Mk} {p : List Int}
def wantD (m : Mk) (p : List Int) (i j : Nat) : Prop := ∃ x z, (m.bids.getD i [])[j]? = some x ∧ p[j]? = some z ∧ x - z = topV (m.bids.getD i []) p
def mustP (m : Mk) (p : List Int) (i : Nat) : Prop := topV (m.bids.getD i []) p ≠ 0
theorem want_tops {i j : Nat} : wantD m p i j ↔ (j : Int) ∈ topsV (m.bids.getD i []) p := by
  rw [tops_mem]
  constructor
  · rintro ⟨x, z, h⟩; exact ⟨j, x, z, rfl, h⟩
  · rintro ⟨j', x, z, e, h⟩
    obtain rfl : j = j' := by omega
    exact ⟨x, z, h⟩
theorem within_grV {i : Nat} {l : List Int} (hi : i < m.bids.length) (hm : mustP m p i) : inB' (grV m p) l (i : Int) = true ↔ within p.length (wantD m p) (fun j => (j : Int) ∈ l) i := by
  obtain ⟨b, hb⟩ := get_of hi
  have hgb : m.bids.getD i [] = b := by rw [List.getD_eq_getElem?_getD, hb]; rfl
  unfold mustP at hm
  rw [hgb] at hm
  simp only [inB', List.all_eq_true, decide_eq_true_eq, Int.toNat_natCast]
  rw [List.getD_eq_getElem?_getD, grV_get hb]
  simp only [Option.getD_some, if_neg hm]
  constructor
  · intro h j hj hd
    refine h _ ?_
    rw [← hgb]
    exact want_tops.1 hd
  · intro h x hx
    obtain ⟨j, _, z, rfl, _, hz, _⟩ := tops_mem.1 hx
    exact h j (lt_of_get hz) (want_tops.2 (by rw [hgb]; exact hx))
theorem withinV_cn (m : Mk) (p l : List Int) : withinV (grV m p) (mustV m p) l = cn m.bids.length (fun i => mustP m p i ∧ within p.length (wantD m p) (fun j => (j : Int) ∈ l) i) := by
  unfold withinV mustV
  have gen : ∀ n : Nat, n ≤ m.bids.length → ((mustTo m p n).filter fun i => ((grV m p).getD i.toNat []).all fun k => decide (k ∈ l)).length = cn n (fun i => mustP m p i ∧ within p.length (wantD m p) (fun j => (j : Int) ∈ l) i) := by
    intro n
    induction n with
    | zero => intro _; rfl
    | succ n ih =>
      intro hn
      have ih := ih (by omega)
      unfold mustTo at ih ⊢
      rw [List.range_succ, List.filter_append, List.map_append, List.filter_append, List.length_append, ih]
      simp only [cn]
      congr 1
      by_cases hm : mustP m p n
      · have hw := within_grV (l := l) (show n < m.bids.length by omega) hm
        rw [List.filter_cons_of_pos (by simpa [mustP] using hm)]
        by_cases hb : inB' (grV m p) l (n : Int) = true
        · rw [if_pos ⟨hm, hw.1 hb⟩]
          simp only [List.filter_nil, List.map_cons, List.map_nil]
          have hb' : ((grV m p).getD (n : Int).toNat []).all (fun k => decide (k ∈ l)) = true := hb
          rw [List.filter_cons_of_pos (by exact hb')]; rfl
        · rw [if_neg fun h => hb (hw.2 h.2)]
          simp only [List.filter_nil, List.map_cons, List.map_nil]
          have hb' : ¬ ((grV m p).getD (n : Int).toNat []).all (fun k => decide (k ∈ l)) = true := hb
          rw [List.filter_cons_of_neg (by exact hb')]; rfl
      · rw [if_neg fun h => hm h.1]
        rw [List.filter_cons_of_neg (by simpa [mustP] using hm)]; rfl
  exact gen _ (Nat.le_refl _)
theorem hall_of_none (h : stepV m p = none) : HallC m.bids.length p.length (mustP m p) (wantD m p) := by
  have hf : fewV (grV m p) p.length (mustV m p) = none := by
    unfold stepV at h
    cases hf : fewV (grV m p) p.length (mustV m p) with
    | none => rfl
    | some s => rw [hf] at h; cases h
  obtain ⟨r, hr⟩ := few_ex (grV m p) p.length (mustV m p)
  have hrn : r = none := by rw [← hr.eq, hf]
  subst hrn
  intro l
  have h1 := hr (lst p.length l) (lst_isR _ _)
  unfold tooMany at h1
  rw [withinV_cn, lst_len] at h1
  have h2 : cn m.bids.length (fun i => mustP m p i ∧ within p.length (wantD m p) l i) ≤ cn m.bids.length (fun i => mustP m p i ∧ within p.length (wantD m p) (fun j => (j : Int) ∈ lst p.length l) i) :=
    cn_imp fun i _ hi => ⟨hi.1, fun j hj hd => lst_mem.2 ⟨j, rfl, hj, hi.2 j hj hd⟩⟩
  omega
def rose (m : Mk) (p : List Int) (j : Nat) : Prop := ∃ r z, m.res[j]? = some r ∧ p[j]? = some z ∧ r < z
def RoseC (m : Mk) (p : List Int) : Prop := ∀ W : Nat → Prop, (∀ j, W j → rose m p j) → (∃ j, W j) → cn p.length W < cn m.bids.length (fun i => ∃ j, W j ∧ wantD m p i j)
theorem RoseC.first (m : Mk) : RoseC m m.res := by
  rintro W hW ⟨j, hj⟩
  obtain ⟨r, z, h1, h2, h3⟩ := hW j hj
  rw [h1] at h2
  cases h2
  omega
end rise
end Go.Sl
