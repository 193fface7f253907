/- The first matching by an order is a matching of greatest gain. No program in sight. -/
import Derived.Test.YtlgdffofhnfedaaGreatEe
import Derived.Test.YtlgdffofhnfedaaGreatX11
set_option linter.unusedVariables false
set_option linter.unusedSimpArgs false
namespace Go.Sl
def gotV (a : Nat → Nat → Int) (h : Nat → Int) (i : Nat) : Int := if h i = -1 then 0 else a i (h i).toNat
structure FI (a : Nat → Nat → Int) (m n : Nat) (B : Int) (o : List Nat) (s : FS) (d : Nat) : Prop where
  want : s.want = optL a m (o.drop d) s.F
  is : ∀ i, s.has i = -1 ∨ ∃ k : Nat, k < m ∧ s.has i = (k : Int) ∧ s.F k = false ∧ 0 ≤ a i k
  inj : ∀ i i' : Nat, s.has i ≠ -1 → s.has i = s.has i' → i = i'
  not : ∀ i, ¬ i ∈ o.take d → s.has i = -1
  sum : sumN n (gotV a s.has) + s.want = B
theorem sumN_upd {n who : Nat} {f g : Nat → Int} (hw : who < n) (h : ∀ i, i < n → i ≠ who → f i = g i) : sumN n f = sumN n g + (f who - g who) := by
  have e : sumN n (fun i => if i = who then f who - g who else 0) = f who - g who := by
    rw [sumN_one hw fun i _ hne => if_neg hne, if_pos rfl]
  rw [← e, ← sumN_add]
  refine sumN_congr fun i hi => ?_
  by_cases e : i = who
  · subst e; rw [if_pos rfl]; omega
  · rw [if_neg e, h i hi e]; omega
theorem FI.step {a : Nat → Nat → Int} {m n : Nat} {B : Int} {o : List Nat} {s : FS} {d who : Nat} (h : FI a m n B o s d) (hn : o.Nodup) (hw : o[d]? = some who) (hwn : who < n) : FI a m n B o (firstStep a m (o.drop (d + 1)) who s) (d + 1) := by
  have hd : o.drop d = who :: o.drop (d + 1) := by
    have := lt_of_get hw
    rw [List.drop_eq_getElem_cons this]
    congr 1
    rw [List.getElem?_eq_getElem this] at hw
    exact Option.some.inj hw
  have hwt := h.want
  rw [hd, optL_cons] at hwt
  have hno := h.not who (not_yet hn hw)
  have htk : ∀ i, ¬ i ∈ o.take (d + 1) → ¬ i ∈ o.take d ∧ i ≠ who := fun i hi => by
    rw [take_step hw] at hi
    simp only [List.mem_append, List.mem_singleton] at hi
    exact ⟨fun h => hi (.inl h), fun h => hi (.inr h)⟩
  unfold firstStep
  cases hf : findK m (fun k => decide (isFirst a m (o.drop (d + 1)) who s.F s.want k)) with
  | some k =>
    have hk : k < m ∧ isFirst a m (o.drop (d + 1)) who s.F s.want k := by
      unfold findK at hf
      have h1 := List.mem_of_find?_eq_some hf
      have h2 := List.find?_some hf
      exact ⟨by simpa using h1, of_decide_eq_true h2⟩
    obtain ⟨hkm, h0, hF, he⟩ := hk
    have hfree : ∀ i, s.has i ≠ (k : Int) := fun i hi => by
      rcases h.is i with e | ⟨k', _, e, hf', _⟩
      · rw [e] at hi; omega
      · rw [e] at hi
        have : k' = k := by omega
        rw [this, hF] at hf'
        cases hf'
    refine ⟨?_, fun i => ?_, fun i i' h1 h2 => ?_, fun i hi => ?_, ?_⟩
    · show s.want - a who k = optL a m (o.drop (d + 1)) (no s.F k); omega
    · show upd s.has who k i = -1 ∨ _
      simp only [upd]
      by_cases e : i = who
      · subst e
        rw [if_pos rfl]
        exact .inr ⟨k, hkm, rfl, by simp [no], h0⟩
      · rw [if_neg e]
        rcases h.is i with e1 | ⟨k', h1, h2, h3, h4⟩
        · exact .inl e1
        · exact .inr ⟨k', h1, h2, by simp [no, h3], h4⟩
    · change upd s.has who k i ≠ -1 at h1
      change upd s.has who k i = upd s.has who k i' at h2
      simp only [upd] at h1 h2
      by_cases e : i = who <;> by_cases e' : i' = who
      · rw [e, e']
      · rw [if_pos e, if_neg e'] at h2; exact absurd h2.symm (hfree i')
      · rw [if_neg e, if_pos e'] at h2; exact absurd h2 (hfree i)
      · rw [if_neg e] at h1 h2; rw [if_neg e'] at h2; exact h.inj i i' h1 h2
    · obtain ⟨h1, h2⟩ := htk i hi
      show upd s.has who k i = -1
      simp only [upd]
      rw [if_neg h2]; exact h.not i h1
    · show sumN n (gotV a (upd s.has who k)) + (s.want - a who k) = B
      have hs := h.sum
      rw [sumN_upd (f := gotV a (upd s.has who k)) (g := gotV a s.has) hwn fun i _ hne => by simp [gotV, upd, hne]]
      have e1 : gotV a (upd s.has who k) who = a who k := by
        unfold gotV upd
        rw [if_pos rfl, if_neg (by omega), Int.toNat_natCast]
      have e2 : gotV a s.has who = 0 := by unfold gotV; rw [if_pos hno]
      omega
  | none =>
    have hnone : ∀ k, k < m → ¬ isFirst a m (o.drop (d + 1)) who s.F s.want k := fun k hk hc => by
      unfold findK at hf
      rw [List.find?_eq_none] at hf
      exact hf k (by simpa using hk) (decide_eq_true hc)
    have hwe : s.want = optL a m (o.drop (d + 1)) s.F := by
      rcases fm_mem (optL a m (o.drop (d + 1)) s.F) (optLH a (optL a m (o.drop (d + 1))) who s.F) m with e | ⟨k, hk, e⟩
      · rw [hwt, e]
      · obtain ⟨g1, g2, g3⟩ := optLH_some e
        exact absurd ⟨g2, g1, by rw [hwt]; omega⟩ (hnone k hk)
    have hu : ∀ i, upd s.has who (-1) i = s.has i := fun i => by
      simp only [upd]
      by_cases e : i = who
      · rw [if_pos e, e, hno]
      · rw [if_neg e]
    have hu' : upd s.has who (-1) = s.has := funext hu
    refine ⟨hwe, fun i => ?_, fun i i' h1 h2 => ?_, fun i hi => ?_, ?_⟩
    · show upd s.has who (-1) i = -1 ∨ _
      rw [hu']; exact h.is i
    · change upd s.has who (-1) i ≠ -1 at h1
      change upd s.has who (-1) i = upd s.has who (-1) i' at h2
      rw [hu'] at h1 h2
      exact h.inj i i' h1 h2
    · show upd s.has who (-1) i = -1
      rw [hu']; exact h.not i (htk i hi).1
    · show sumN n (gotV a (upd s.has who (-1))) + s.want = B
      rw [hu']; exact h.sum
theorem FI.at_ {g : List (List Int)} {items n : Nat} {o : List Nat} (hp : o.Perm (List.range n)) (hg : g.length = n) : ∀ d, d ≤ o.length → FI (gv g) items n (bestV g items) o (firstAt g items o d) d
  | 0, _ => by
    refine ⟨?_, fun i => .inl rfl, fun i i' h1 h2 => absurd rfl h1, fun i _ => rfl, ?_⟩
    · show bestV g items = optL (gv g) items (o.drop 0) (fun _ => true)
      rw [List.drop_zero]
      unfold bestV
      rw [optB_eq_optL, hg]
      exact optL_perm ((List.reverse_perm _).trans hp.symm) _
    · show sumN n (gotV (gv g) fun _ => -1) + bestV g items = bestV g items
      rw [sumN_zero fun i _ => by simp [gotV]]; omega
  | d + 1, hd => by
    obtain ⟨who, hw⟩ := get_of (xs := o) (k := d) (by omega)
    have hwn : who < n := by simpa using (hp.mem_iff (a := who)).1 (mem_of_get hw)
    have := (FI.at_ (items := items) hp hg d (by omega)).step (hp.nodup_iff.2 List.nodup_range) hw hwn
    show FI _ _ _ _ _ (firstStep (gv g) items (o.drop (d + 1)) (o.getD d 0) (firstAt g items o d)) _
    rw [getD_of hw]
    exact this
def hasX (h : Nat → Int) (i j : Nat) : Bool := h i == (j : Int)
theorem hasX_iff {h : Nat → Int} {i j : Nat} : hasX h i j = true ↔ h i = (j : Int) := by unfold hasX; simp
theorem val_hasX {a : Nat → Nat → Int} {k n : Nat} {h : Nat → Int} (hr : ∀ i, i < n → -1 ≤ h i ∧ h i < (k : Int)) : val a k n (hasX h) = sumN n (gotV a h) :=
  sumN_congr fun i hi => by
    unfold gotV
    have := hr i hi
    by_cases e : h i = -1
    · rw [if_pos e]
      refine sumN_zero fun j hj => ?_
      rw [if_neg fun hx => by rw [hasX_iff] at hx; omega]
    · rw [if_neg e, sumN_one (k := (h i).toNat) (by omega) fun j hj hne => if_neg fun hx => by rw [hasX_iff] at hx; omega]
      rw [if_pos (hasX_iff.2 (by omega))]
theorem sumTo_eq (m : Mk) (o : Oc) : ∀ k, sumTo m o k = sumN k (gotV (gv (gains m)) fun i => o.has.getD i 0)
  | 0 => rfl
  | k + 1 => by
    simp only [sumTo, sumN, gotV]
    rw [sumTo_eq m o k]
    split <;> simp [gotV]
structure BestM (m : Mk) (h : Nat → Int) : Prop where
  rng : ∀ i, i < m.bids.length → -1 ≤ h i ∧ h i < (m.res.length : Int)
  isM : IsM (gv (gains m)) m.res.length m.bids.length (fun _ => true) (hasX h)
  best : sumN m.bids.length (gotV (gv (gains m)) h) = bestV (gains m) m.res.length
theorem first_best {m : Mk} (hok : okMk m) : BestM m (firstAt (gains m) m.res.length (ordN m.ord) (ordN m.ord).length).has := by
  have h := FI.at_ (g := gains m) (items := m.res.length) (ordN_perm hok.2.2.1) (gainsLen m) _ (Nat.le_refl _)
  have hw := h.want
  rw [List.drop_length] at hw
  refine ⟨fun i _ => ?_, ⟨fun i hi j hj hx => ?_, fun i hi j j' hj hj' hx hx' => ?_, fun i i' hi hi' j hj hx hx' => ?_⟩, ?_⟩
  · rcases h.is i with e | ⟨k, hk, e, _⟩
    · rw [e]; omega
    · rw [e]; omega
  · rw [hasX_iff] at hx
    rcases h.is i with e | ⟨k, hk, e, _, h0⟩
    · rw [e] at hx; omega
    · rw [e] at hx
      have : k = j := by omega
      subst this
      exact ⟨h0, rfl⟩
  · rw [hasX_iff] at hx hx'; omega
  · rw [hasX_iff] at hx hx'
    exact h.inj i i' (by omega) (by omega)
  · have hs := h.sum
    have h0 : optL (gv (gains m)) m.res.length [] (firstAt (gains m) m.res.length (ordN m.ord) (ordN m.ord).length).F = 0 := rfl
    omega
end Go.Sl
