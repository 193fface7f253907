/- Markets, plainly: what may be a bid, an order, a market; gains; the market without a bidder. No program in sight. Matchings that gain the most, plainly. No program in sight. -/
import Derived.Test.YtlgdffofhnfedaaGreatI
set_option linter.unusedVariables false
set_option linter.unusedSimpArgs false
namespace Go.Sl
structure Mk where
  res : List Int
  bids : List (List Int)
  ord : List Int
structure Oc where
  has : List Int
  pri : List Int
def okVec (b : List Int) (n : Int) : Prop := 1 ≤ n ∧ n ≤ 8 ∧ (b.length : Int) = n ∧ ∀ x ∈ b, 0 ≤ x ∧ x ≤ 1000000
instance (b : List Int) (n : Int) : Decidable (okVec b n) := by unfold okVec; infer_instance
def okOrd (l : List Int) (many : Nat) : Prop := (∀ n ∈ l, 0 ≤ n ∧ n < (many : Int)) ∧ ∀ i : Nat, i < many → l.count (i : Int) = 1
instance (l : List Int) (many : Nat) : Decidable (okOrd l many) := by unfold okOrd; infer_instance
def okMk (m : Mk) : Prop := okVec m.res m.res.length ∧ (1 ≤ m.bids.length ∧ m.bids.length ≤ 8) ∧ okOrd m.ord m.bids.length ∧ ∀ b ∈ m.bids, ¬ (0 < b.length ∧ ¬ okVec b m.res.length)
instance (m : Mk) : Decidable (okMk m) := by unfold okMk; infer_instance
theorem countP_split (l : List Int) (n : Nat) : l.countP (fun x => decide (0 ≤ x ∧ x < ((n + 1 : Nat) : Int))) = l.countP (fun x => decide (0 ≤ x ∧ x < (n : Int))) + l.count (n : Int) := by
  induction l with
  | nil => rfl
  | cons x l ih =>
    simp only [List.countP_cons, List.count_cons, ih]
    by_cases h : x = (n : Int)
    · subst h
      have h1 : decide ((0:Int) ≤ (n : Int) ∧ (n : Int) < ((n + 1 : Nat) : Int)) = true := by simp; omega
      have h2 : decide ((0:Int) ≤ (n : Int) ∧ (n : Int) < (n : Int)) = false := by simp
      rw [h1, h2]; simp only [beq_self_eq_true, if_true, Bool.false_eq_true, if_false]; omega
    · have h1 : decide (0 ≤ x ∧ x < ((n + 1 : Nat) : Int)) = decide (0 ≤ x ∧ x < (n : Int)) := by
        rw [decide_eq_decide]; omega
      have h2 : (x == (n : Int)) = false := by simpa using h
      rw [h1, h2]; simp only [Bool.false_eq_true, if_false]; omega
theorem countP_all (l : List Int) : ∀ n : Nat, (∀ i : Nat, i < n → l.count (i : Int) = 1) → l.countP (fun x => decide (0 ≤ x ∧ x < (n : Int))) = n
  | 0, _ => by
    rw [List.countP_eq_zero]
    intro x _; simp
  | n + 1, h => by rw [countP_split, countP_all l n (fun i hi => h i (by omega)), h n (by omega)]
theorem okOrd_length {l : List Int} {many : Nat} (h : okOrd l many) : l.length = many := by
  rw [← countP_all l many h.2]
  symm
  rw [List.countP_eq_length]
  intro x hx
  simpa using h.1 x hx
theorem okOrd_iff {l : List Int} {many : Nat} : okOrd l many ↔ l.length = many ∧ ∀ i : Nat, i < many → l.count (i : Int) = 1 := by
  refine ⟨fun h => ⟨okOrd_length h, h.2⟩, fun ⟨h1, h2⟩ => ⟨?_, h2⟩⟩
  have := countP_all l many h2
  rw [← h1, List.countP_eq_length] at this
  intro x hx
  rw [← h1]
  simpa using this x hx
def gain1 (res b : List Int) : List Int := if b = [] then List.replicate res.length (-1) else List.zipWith (· - ·) b res
def gains (m : Mk) : List (List Int) := m.bids.map (gain1 m.res)
def without (m : Mk) (i : Nat) : Mk := { m with bids := m.bids.set i [] }
end Go.Sl
set_option linter.unusedVariables false
set_option linter.unusedSimpArgs false
namespace Go.Sl
def maxL (a : Int) (l : List Int) : Int := l.foldl max a
def minL (a : Int) (l : List Int) : Int := l.foldl min a
theorem maxL_ge (l : List Int) : ∀ a, a ≤ maxL a l ∧ ∀ x ∈ l, x ≤ maxL a l := by
  induction l with
  | nil => intro a; exact ⟨Int.le_refl _, fun x hx => by cases hx⟩
  | cons y l ih =>
    intro a
    have h := ih (max a y)
    refine ⟨by have := h.1; simp only [maxL, List.foldl_cons] at *; omega, fun x hx => ?_⟩
    rcases List.mem_cons.1 hx with rfl | hx
    · have := h.1; simp only [maxL, List.foldl_cons] at *; omega
    · exact h.2 x hx
theorem maxL_mem (l : List Int) : ∀ a, maxL a l = a ∨ maxL a l ∈ l := by
  induction l with
  | nil => intro a; exact .inl rfl
  | cons y l ih =>
    intro a
    rcases ih (max a y) with h | h
    · have e : maxL a (y :: l) = max a y := h
      rw [e]
      by_cases hy : y ≤ a
      · left; omega
      · right; rw [show max a y = y by omega]; exact List.mem_cons_self
    · right; exact List.mem_cons_of_mem _ h
theorem maxL_eq {l : List Int} {a M : Int} (h1 : ∀ x ∈ l, x ≤ M) (h2 : a ≤ M) (h3 : M = a ∨ M ∈ l) : maxL a l = M := by
  have hg := maxL_ge l a
  rcases maxL_mem l a with h | h
  · rcases h3 with rfl | h3
    · exact h
    · have := hg.2 M h3; omega
  · have := h1 _ h
    rcases h3 with rfl | h3
    · have := hg.1; omega
    · have := hg.2 M h3; omega
def fm (base : Int) (h : Nat → Option Int) : Nat → Int
  | 0 => base
  | j + 1 => match h j with
    | some v => max (fm base h j) v
    | none => fm base h j
theorem fm_base (base : Int) (h : Nat → Option Int) : ∀ n, base ≤ fm base h n
  | 0 => Int.le_refl _
  | n + 1 => by
    have := fm_base base h n
    unfold fm
    split <;> omega
theorem fm_ge {base : Int} {h : Nat → Option Int} : ∀ {n k : Nat} {v : Int}, k < n → h k = some v → v ≤ fm base h n
  | n + 1, k, v, hk, hv => by
    unfold fm
    by_cases e : k = n
    · subst e; rw [hv]; simp only; omega
    · have := fm_ge (base := base) (n := n) (k := k) (by omega) hv
      split <;> omega
theorem fm_mem (base : Int) (h : Nat → Option Int) : ∀ n, fm base h n = base ∨ ∃ k, k < n ∧ h k = some (fm base h n)
  | 0 => .inl rfl
  | n + 1 => by
    unfold fm
    rcases fm_mem base h n with hb | ⟨k, hk, he⟩
    · cases hv : h n with
      | none => exact .inl hb
      | some v =>
        simp only
        by_cases hle : v ≤ fm base h n
        · left; omega
        · right; exact ⟨n, by omega, by rw [hv]; congr 1; omega⟩
    · cases hv : h n with
      | none => exact .inr ⟨k, by omega, he⟩
      | some v =>
        simp only
        right
        by_cases hle : v ≤ fm base h n
        · exact ⟨k, by omega, by rw [he]; congr 1; omega⟩
        · exact ⟨n, by omega, by rw [hv]; congr 1; omega⟩
theorem fm_congr {base : Int} {h h' : Nat → Option Int} : ∀ {n : Nat}, (∀ k, k < n → h k = h' k) → fm base h n = fm base h' n
  | 0, _ => rfl
  | n + 1, e => by
    unfold fm
    rw [e n (by omega), fm_congr (n := n) fun k hk => e k (by omega)]
theorem fm_le {base M : Int} {h : Nat → Option Int} {n : Nat} (hb : base ≤ M) (hh : ∀ k v, k < n → h k = some v → v ≤ M) : fm base h n ≤ M := by
  rcases fm_mem base h n with e | ⟨k, hk, e⟩
  · rw [e]; exact hb
  · exact hh k _ hk e
def no (F : Nat → Bool) (k : Nat) : Nat → Bool := fun j => F j && !(j == k)
def optB (a : Nat → Nat → Int) (m : Nat) : Nat → (Nat → Bool) → Int
  | 0, _ => 0
  | n + 1, F => fm (optB a m n F) (fun k => if F k = true ∧ 0 ≤ a n k then some (optB a m n (no F k) + a n k) else none) m
def optH (a : Nat → Nat → Int) (m n : Nat) (F : Nat → Bool) : Nat → Option Int := fun k => if F k = true ∧ 0 ≤ a n k then some (optB a m n (no F k) + a n k) else none
theorem optB_succ (a : Nat → Nat → Int) (m n : Nat) (F : Nat → Bool) : optB a m (n + 1) F = fm (optB a m n F) (optH a m n F) m := rfl
theorem optB_congr {a : Nat → Nat → Int} {m : Nat} : ∀ {n : Nat} {F G : Nat → Bool}, (∀ k, k < m → F k = G k) → optB a m n F = optB a m n G
  | 0, _, _, _ => rfl
  | n + 1, F, G, h => by
    rw [optB_succ, optB_succ, optB_congr h]
    refine fm_congr fun k hk => ?_
    unfold optH
    rw [h k hk, optB_congr (F := no F k) (G := no G k) fun j hj => by unfold no; rw [h j hj]]
theorem optB_congr_a {a a' : Nat → Nat → Int} {m : Nat} : ∀ {n : Nat} {F : Nat → Bool}, (∀ i, i < n → ∀ k, k < m → a i k = a' i k) → optB a m n F = optB a' m n F
  | 0, _, _ => rfl
  | n + 1, F, h => by
    rw [optB_succ, optB_succ, optB_congr_a fun i hi => h i (by omega)]
    refine fm_congr fun k hk => ?_
    unfold optH
    rw [h n (by omega) k hk, optB_congr_a (F := no F k) fun i hi => h i (by omega)]
theorem optB_nonneg (a : Nat → Nat → Int) (m : Nat) : ∀ (n : Nat) (F : Nat → Bool), 0 ≤ optB a m n F
  | 0, _ => Int.le_refl _
  | n + 1, F => Int.le_trans (optB_nonneg a m n F) (fm_base _ _ _)
theorem optB_bound {a : Nat → Nat → Int} {m : Nat} : ∀ {n : Nat} {F : Nat → Bool}, (∀ i, i < n → ∀ k, k < m → a i k ≤ 1000000) → optB a m n F ≤ 1000000 * n
  | 0, _, _ => by simp [optB]
  | n + 1, F, h => by
    have ih := fun F => optB_bound (a := a) (m := m) (n := n) (F := F) fun i hi => h i (by omega)
    rw [optB_succ]
    refine fm_le (by have := ih F; omega) fun k v hk hv => ?_
    unfold optH at hv
    split at hv
    · cases hv
      have := ih (no F k)
      have := h n (by omega) k hk
      omega
    · cases hv
theorem optB_mono {a : Nat → Nat → Int} {m : Nat} : ∀ {n : Nat} {F G : Nat → Bool}, (∀ k, k < m → F k = true → G k = true) → optB a m n F ≤ optB a m n G
  | 0, _, _, _ => Int.le_refl _
  | n + 1, F, G, h => by
    rw [optB_succ, optB_succ]
    refine fm_le (Int.le_trans (optB_mono h) (fm_base _ _ _)) fun k v hk hv => ?_
    unfold optH at hv
    split at hv
    · rename_i hc
      cases hv
      have h1 := optB_mono (a := a) (m := m) (n := n) (F := no F k) (G := no G k) fun j hj hf => by
        unfold no at *
        simp only [Bool.and_eq_true] at *
        exact ⟨h j hj hf.1, hf.2⟩
      have h2 : optB a m n (no G k) + a n k ≤ fm (optB a m n G) (optH a m n G) m := fm_ge hk (by unfold optH; rw [if_pos ⟨h k hk hc.1, hc.2⟩])
      omega
    · cases hv
theorem optB_step {a : Nat → Nat → Int} {m n : Nat} (F : Nat → Bool) : optB a m n F ≤ optB a m (n + 1) F := fm_base _ _ _
def sumN : Nat → (Nat → Int) → Int
  | 0, _ => 0
  | n + 1, f => sumN n f + f n
theorem sumN_congr {f g : Nat → Int} : ∀ {n : Nat}, (∀ i, i < n → f i = g i) → sumN n f = sumN n g
  | 0, _ => rfl
  | n + 1, h => by unfold sumN; rw [sumN_congr fun i hi => h i (by omega), h n (by omega)]
theorem sumN_zero {f : Nat → Int} : ∀ {n : Nat}, (∀ i, i < n → f i = 0) → sumN n f = 0
  | 0, _ => rfl
  | n + 1, h => by unfold sumN; rw [sumN_zero fun i hi => h i (by omega), h n (by omega)]; rfl
theorem sumN_one {f : Nat → Int} : ∀ {n k : Nat}, k < n → (∀ i, i < n → i ≠ k → f i = 0) → sumN n f = f k
  | n + 1, k, hk, h => by
    unfold sumN
    by_cases e : k = n
    · subst e; rw [sumN_zero fun i hi => h i (by omega) (by omega)]; omega
    · rw [sumN_one (n := n) (k := k) (by omega) fun i hi hne => h i (by omega) hne, h n (by omega) (by omega)]; omega
theorem sumN_add {f g : Nat → Int} : ∀ {n : Nat}, sumN n (fun i => f i + g i) = sumN n f + sumN n g
  | 0 => rfl
  | n + 1 => by
    show sumN n (fun i => f i + g i) + (f n + g n) = (sumN n f + f n) + (sumN n g + g n)
    rw [sumN_add]; omega
theorem sumN_swap {f : Nat → Nat → Int} {m : Nat} : ∀ {n : Nat}, sumN n (fun i => sumN m (f i)) = sumN m (fun k => sumN n (fun i => f i k))
  | 0 => by
    show (0 : Int) = sumN m (fun _ => 0)
    rw [sumN_zero fun _ _ => rfl]
  | n + 1 => by
    have e : (fun k => sumN (n + 1) fun i => f i k) = fun k => sumN n (fun i => f i k) + f n k := rfl
    rw [e, sumN_add, ← sumN_swap (n := n)]; rfl
theorem sumN_le {f g : Nat → Int} : ∀ {n : Nat}, (∀ i, i < n → f i ≤ g i) → sumN n f ≤ sumN n g
  | 0, _ => Int.le_refl _
  | n + 1, h => by unfold sumN; have := sumN_le (f := f) (g := g) (n := n) fun i hi => h i (by omega); have := h n (by omega); omega
structure IsM (a : Nat → Nat → Int) (m n : Nat) (F : Nat → Bool) (X : Nat → Nat → Bool) : Prop where
  ok : ∀ i, i < n → ∀ k, k < m → X i k = true → 0 ≤ a i k ∧ F k = true
  row : ∀ i, i < n → ∀ k k', k < m → k' < m → X i k = true → X i k' = true → k = k'
  col : ∀ i i', i < n → i' < n → ∀ k, k < m → X i k = true → X i' k = true → i = i'
def val (a : Nat → Nat → Int) (m n : Nat) (X : Nat → Nat → Bool) : Int := sumN n fun i => sumN m fun k => if X i k then a i k else 0
theorem val_le_optB {a : Nat → Nat → Int} {m : Nat} : ∀ {n : Nat} {F : Nat → Bool} {X : Nat → Nat → Bool}, IsM a m n F X → val a m n X ≤ optB a m n F
  | 0, F, X, h => Int.le_refl _
  | n + 1, F, X, h => by
    have e : val a m (n + 1) X = val a m n X + sumN m (fun k => if X n k then a n k else 0) := rfl
    rw [e]
    by_cases hex : ∃ k, k < m ∧ X n k = true
    · obtain ⟨k, hk, hX⟩ := hex
      rw [sumN_one hk fun i hi hne => by
        by_cases hc : X n i = true
        · exact absurd (h.row n (by omega) i k hi hk hc hX) hne
        · simp [hc], if_pos hX]
      have hM : IsM a m n (no F k) X := ⟨fun i hi j hj hx => by
          have := h.ok i (by omega) j hj hx
          refine ⟨this.1, ?_⟩
          have hne : j ≠ k := fun e => by subst e; have := h.col i n (by omega) (by omega) j hk hx hX; omega
          simp [no, this.2, hne], fun i hi => h.row i (by omega), fun i i' hi hi' => h.col i i' (by omega) (by omega)⟩
      have h1 := val_le_optB hM
      have h2 : optB a m n (no F k) + a n k ≤ optB a m (n + 1) F := fm_ge hk (by have := h.ok n (by omega) k hk hX; simp [this.1, this.2])
      omega
    · rw [sumN_zero fun k hk => by
        have : ¬ X n k = true := fun hx => hex ⟨k, hk, hx⟩
        simp [this]]
      have hM : IsM a m n F X := ⟨fun i hi => h.ok i (by omega), fun i hi => h.row i (by omega), fun i i' hi hi' => h.col i i' (by omega) (by omega)⟩
      have h1 := val_le_optB hM
      have h2 := optB_step (a := a) (m := m) (n := n) F
      omega
theorem optB_val {a : Nat → Nat → Int} {m : Nat} : ∀ (n : Nat) (F : Nat → Bool), ∃ X, IsM a m n F X ∧ val a m n X = optB a m n F
  | 0, F => ⟨fun _ _ => false, ⟨fun i hi => by omega, fun i hi => by omega, fun i i' hi => by omega⟩, rfl⟩
  | n + 1, F => by
    rcases fm_mem (optB a m n F) (optH a m n F) m with e | ⟨k, hk, e⟩
    · obtain ⟨X, hX, hv⟩ := optB_val n F
      refine ⟨fun i j => decide (i < n) && X i j, ⟨fun i hi j hj hx => ?_, fun i hi j j' hj hj' hx hx' => ?_, fun i i' hi hi' j hj hx hx' => ?_⟩, ?_⟩
      · simp at hx; exact hX.ok i hx.1 j hj hx.2
      · simp at hx hx'; exact hX.row i hx.1 j j' hj hj' hx.2 hx'.2
      · simp at hx hx'; exact hX.col i i' hx.1 hx'.1 j hj hx.2 hx'.2
      · rw [optB_succ, e, ← hv]
        show sumN n _ + sumN m _ = _
        rw [sumN_zero (n := m) fun k hk => by simp, Int.add_zero]
        exact sumN_congr fun i hi => sumN_congr fun j hj => by simp [hi]
    · by_cases hc : F k = true ∧ 0 ≤ a n k
      · have e3 : optH a m n F k = some (optB a m n (no F k) + a n k) := by unfold optH; rw [if_pos hc]
        rw [e3] at e
        obtain ⟨X, hX, hv⟩ := optB_val (a := a) (m := m) n (no F k)
        have hXk : ∀ i, i < n → X i k = false := fun i hi => by
          cases hx : X i k with
          | false => rfl
          | true => have := (hX.ok i hi k hk hx).2; simp [no] at this
        refine ⟨fun i j => if i < n then X i j else decide (i = n) && decide (j = k), ⟨fun i hi j hj hx => ?_, fun i hi j j' hj hj' hx hx' => ?_, fun i i' hi hi' j hj hx hx' => ?_⟩, ?_⟩
        · split at hx
          · rename_i hi'
            have := hX.ok i hi' j hj hx
            refine ⟨this.1, ?_⟩
            have h2 := this.2; unfold no at h2; simp at h2; exact h2.1
          · simp at hx
            obtain ⟨rfl, rfl⟩ := hx
            exact ⟨hc.2, hc.1⟩
        · split at hx
          · rename_i hi'; rw [if_pos hi'] at hx'; exact hX.row i hi' j j' hj hj' hx hx'
          · rename_i hi'; rw [if_neg hi'] at hx'; simp at hx hx'; rw [hx.2, hx'.2]
        · split at hx
          · rename_i h1
            split at hx'
            · rename_i h2; exact hX.col i i' h1 h2 j hj hx hx'
            · simp at hx'; obtain ⟨rfl, rfl⟩ := hx'
              rw [hXk i h1] at hx; cases hx
          · simp at hx
            split at hx'
            · rename_i h2; obtain ⟨rfl, rfl⟩ := hx; rw [hXk i' h2] at hx'; cases hx'
            · simp at hx'; omega
        · rw [optB_succ, ← Option.some.inj e, ← hv]
          show sumN n _ + sumN m _ = _
          rw [sumN_one (n := m) hk fun j hj hne => by simp [hne]]
          simp only [Nat.lt_irrefl, if_false, decide_true, Bool.and_self, if_true]
          congr 1
          exact sumN_congr fun i hi => sumN_congr fun j hj => by simp [hi]
      · have e3 : optH a m n F k = none := by unfold optH; rw [if_neg hc]
        rw [e3] at e; cases e
theorem optB_swap_le {a : Nat → Nat → Int} {m n : Nat} : optB a m n (fun _ => true) ≤ optB (fun k i => a i k) n m (fun _ => true) := by
  obtain ⟨X, hX, hv⟩ := optB_val (a := a) (m := m) n (fun _ => true)
  rw [← hv]
  have hM : IsM (fun k i => a i k) n m (fun _ => true) (fun k i => X i k) := ⟨fun k hk i hi hx => ⟨(hX.ok i hi k hk hx).1, rfl⟩, fun k hk i i' hi hi' hx hx' => hX.col i i' hi hi' k hk hx hx', fun k k' hk hk' i hi hx hx' => hX.row i hi k k' hk hk' hx hx'⟩
  refine Int.le_trans (Int.le_of_eq ?_) (val_le_optB hM)
  exact sumN_swap
theorem optB_swap {a : Nat → Nat → Int} {m n : Nat} : optB a m n (fun _ => true) = optB (fun k i => a i k) n m (fun _ => true) :=
  Int.le_antisymm optB_swap_le optB_swap_le
def gv (g : List (List Int)) (i k : Nat) : Int := (g.getD i []).getD k 0
def bestV (g : List (List Int)) (items : Nat) : Int := optB (gv g) items g.length (fun _ => true)
def okG (g : List (List Int)) (items : Int) : Prop := (1 ≤ items ∧ items ≤ 8) ∧ g.length ≤ 8 ∧ ∀ l ∈ g, ¬ (¬ (l.length : Int) = items ∨ ∃ x ∈ l, ¬ (-1000000 ≤ x ∧ x ≤ 1000000))
instance (g : List (List Int)) (items : Int) : Decidable (okG g items) := by unfold okG; infer_instance
theorem okG.row {g : List (List Int)} {items : Int} (h : okG g items) {i : Nat} {l : List Int} (hl : g[i]? = some l) : (l.length : Int) = items ∧ ∀ x ∈ l, -1000000 ≤ x ∧ x ≤ 1000000 := by
  have := h.2.2 l (mem_of_get hl)
  refine ⟨Decidable.of_not_not fun hn => this (.inl hn), fun x hx => Decidable.of_not_not fun hn => this (.inr ⟨x, hx, hn⟩)⟩
theorem gv_of {g : List (List Int)} {i k : Nat} {l : List Int} {x : Int} (hl : g[i]? = some l) (hx : l[k]? = some x) : gv g i k = x := by simp [gv, hl, hx]
theorem okG.gv_le {g : List (List Int)} {items : Int} (h : okG g items) (i k : Nat) : -1000000 ≤ gv g i k ∧ gv g i k ≤ 1000000 := by
  unfold gv
  by_cases hi : i < g.length
  · have e : g.getD i [] = g[i] := by simp [hi]
    rw [e]
    have hr := h.row (List.getElem?_eq_getElem hi)
    by_cases hk : k < g[i].length
    · have e2 : g[i].getD k 0 = g[i][k] := by simp [hk]
      rw [e2]
      exact hr.2 _ (List.getElem_mem hk)
    · have e2 : g[i].getD k 0 = 0 := by rw [List.getD_eq_getElem?_getD, List.getElem?_eq_none (by omega)]; rfl
      rw [e2]; omega
  · have e : g.getD i [] = [] := by rw [List.getD_eq_getElem?_getD, List.getElem?_eq_none (by omega)]; rfl
    rw [e]; simp
theorem bit_iff (q i : Nat) : ((q / 2 ^ i &&& 1 : Nat) : Int) = 1 ↔ q.testBit i = true := by
  rw [Nat.and_one_is_mod, Nat.testBit_eq_decide_div_mod_eq, decide_eq_true_iff]
  omega
theorem tb_andNot (q i : Nat) : (fun j => (andNot q (2 ^ i)).testBit j) = no (fun j => q.testBit j) i := by
  funext j
  unfold andNot no
  rw [Nat.testBit_xor, Nat.testBit_and, Nat.testBit_two_pow]
  by_cases e : i = j
  · subst e; simp
  · have : (j == i) = false := by simp; omega
    simp [e, this]
theorem andNot_lt {q i n : Nat} (h : q < 2 ^ n) : andNot q (2 ^ i) < 2 ^ n := by
  have h1 : q &&& 2 ^ i ≤ q := Nat.and_le_left
  have : q &&& 2 ^ i < 2 ^ n := by omega
  exact Nat.xor_lt_two_pow h this
theorem two_pow_le {n : Nat} (h : n ≤ 8) : 2 ^ n ≤ 256 := by
  have := Nat.pow_le_pow_right (n := 2) (by omega) h
  simpa using this
theorem full_bits {n i : Nat} (h : i < n) : (2 ^ n - 1).testBit i = true := by
  rw [Nat.testBit_two_pow_sub_one]; simpa using h
end Go.Sl
