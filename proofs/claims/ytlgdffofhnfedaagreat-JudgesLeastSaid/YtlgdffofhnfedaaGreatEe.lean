/- At the prices at which nothing rises any more: the greatest gain, with all bidders and without any one. No program in sight. -/
import Derived.Test.YtlgdffofhnfedaaGreatEd
set_option linter.unusedVariables false
set_option linter.unusedSimpArgs false
namespace Go.Sl
section mk
variable {m : Mk} {p : List Int}
def topU (m : Mk) (p : List Int) (i : Nat) : Int := topV (m.bids.getD i []) p
def overV (m : Mk) (p : List Int) (j : Nat) : Int := p.getD j 0 - m.res.getD j 0
theorem gainsLen (m : Mk) : (gains m).length = m.bids.length := by simp [gains]
theorem topU_nonneg (i : Nat) : 0 ≤ topU m p i := topV_nonneg _ _
theorem overV_of (hp : OkP m p) {j : Nat} (hj : j < m.res.length) : ∃ r z, m.res[j]? = some r ∧ p[j]? = some z ∧ overV m p j = z - r ∧ r ≤ z := by
  obtain ⟨z, hz⟩ := get_of (xs := p) (k := j) (by rw [hp.1]; exact hj)
  obtain ⟨⟨r, hr, hle⟩, _⟩ := hp.2 j z hz
  exact ⟨r, z, hr, hz, by unfold overV; rw [getD_of hr, getD_of hz], hle⟩
theorem overV_nonneg (hp : OkP m p) {j : Nat} (hj : j < m.res.length) : 0 ≤ overV m p j := by
  obtain ⟨r, z, _, _, e, h⟩ := overV_of hp hj
  omega
theorem rose_iff (hp : OkP m p) {j : Nat} (hj : j < m.res.length) : rose m p j ↔ overV m p j ≠ 0 := by
  obtain ⟨r, z, hr, hz, e, h⟩ := overV_of hp hj
  constructor
  · rintro ⟨r', z', hr', hz', hlt⟩
    rw [hr] at hr'; rw [hz] at hz'
    cases hr'; cases hz'
    omega
  · intro hne
    exact ⟨r, z, hr, hz, by omega⟩
theorem gv_row {i j : Nat} {b : List Int} (hb : m.bids[i]? = some b) (hj : j < m.res.length) : (b = [] ∧ gv (gains m) i j = -1) ∨ (b ≠ [] ∧ ∀ x r, b[j]? = some x → m.res[j]? = some r → gv (gains m) i j = x - r) := by
  have hg : (gains m)[i]? = some (gain1 m.res b) := gains_row hb
  by_cases e : b = []
  · refine .inl ⟨e, gv_of hg ?_⟩
    unfold gain1
    rw [if_pos e, List.getElem?_replicate, if_pos hj]
  · refine .inr ⟨e, fun x r hx hr => gv_of hg ?_⟩
    unfold gain1
    rw [if_neg e, List.getElem?_zipWith, hx, hr]
theorem gv_le_borne (hok : okMk m) (hp : OkP m p) {i j : Nat} (hi : i < m.bids.length) (hj : j < m.res.length) : gv (gains m) i j ≤ topU m p i + overV m p j := by
  obtain ⟨b, hb⟩ := get_of hi
  have hgb : m.bids.getD i [] = b := getD_of hb
  obtain ⟨r, z, hr, hz, e, hle⟩ := overV_of hp hj
  have h0 := topU_nonneg (m := m) (p := p) i
  rcases gv_row hb hj with ⟨_, e2⟩ | ⟨hne, e2⟩
  · omega
  · have hl := (bid_bound hok hi (by rw [hgb]; exact hne)).1
    rw [hgb] at hl
    obtain ⟨x, hx⟩ := get_of (xs := b) (k := j) (by omega)
    rw [e2 x r hx hr]
    have := topV_ge hx hz
    unfold topU
    rw [hgb]
    omega
theorem want_borne (hok : okMk m) (hp : OkP m p) {i j : Nat} (hi : i < m.bids.length) (hj : j < m.res.length) : wantD m p i j ↔ gv (gains m) i j = topU m p i + overV m p j := by
  obtain ⟨b, hb⟩ := get_of hi
  have hgb : m.bids.getD i [] = b := getD_of hb
  obtain ⟨r, z, hr, hz, e, hle⟩ := overV_of hp hj
  have h0 := topU_nonneg (m := m) (p := p) i
  unfold wantD
  rcases gv_row hb hj with ⟨hn, e2⟩ | ⟨hne, e2⟩
  · constructor
    · rintro ⟨x, _, hx, _⟩
      rw [hgb, hn] at hx
      cases hx
    · intro h; omega
  · have hl := (bid_bound hok hi (by rw [hgb]; exact hne)).1
    rw [hgb] at hl
    obtain ⟨x, hx⟩ := get_of (xs := b) (k := j) (by omega)
    rw [e2 x r hx hr]
    unfold topU
    rw [hgb]
    constructor
    · rintro ⟨x', z', hx', hz', he⟩
      rw [hx] at hx'; rw [hz] at hz'
      cases hx'; cases hz'
      omega
    · intro h
      exact ⟨x, z, hx, hz, by omega⟩
noncomputable def tabM (M : Nat → Option Nat) (i j : Nat) : Bool := M i == some j
theorem tabM_iff {M : Nat → Option Nat} {i j : Nat} : tabM M i j = true ↔ M i = some j := by unfold tabM; simp
theorem tabM_isM (hok : okMk m) (hp : OkP m p) {X Y : Nat → Prop} {M : Nat → Option Nat} (hM : Both m.bids.length m.res.length X Y (wantD m p) M) : IsM (gv (gains m)) m.res.length m.bids.length (fun _ => true) (tabM M) :=
  ⟨fun i hi j hj hx => ⟨by
      have hw := (hM.want i j hi (tabM_iff.1 hx)).2
      have := (want_borne hok hp hi hj).1 hw
      have := topU_nonneg (m := m) (p := p) i
      have := overV_nonneg hp hj
      omega, rfl⟩, fun i hi j j' hj hj' hx hx' => by
      have h1 := tabM_iff.1 hx
      have h2 := tabM_iff.1 hx'
      rw [h1] at h2
      exact Option.some.inj h2, fun i i' hi hi' j hj hx hx' => hM.inj i i' j hi hi' (tabM_iff.1 hx) (tabM_iff.1 hx')⟩
theorem best_of (hok : okMk m) (hp : OkP m p) {M : Nat → Option Nat} (hM : Both m.bids.length m.res.length (mustP m p) (rose m p) (wantD m p) M) :
    bestV (gains m) m.res.length = sumN m.bids.length (topU m p) + sumN m.res.length (overV m p) := by
  have hI := tabM_isM hok hp hM
  have h1 := val_le_optB hI
  have h2 : val (gv (gains m)) m.res.length m.bids.length (tabM M) = sumN m.bids.length (topU m p) + sumN m.res.length (overV m p) :=
    dual_eq hI (fun i j hi hj hx => (want_borne hok hp hi hj).1 (hM.want i j hi (tabM_iff.1 hx)).2) (fun i hi hx => Classical.byContradiction fun hne => by
      have := hM.must i hi hne
      cases h : M i with
      | none => exact this h
      | some j => exact hx j (hM.want i j hi h).1 (tabM_iff.2 h)) (fun j hj hx => Classical.byContradiction fun hne => by
      obtain ⟨i, hi, h⟩ := hM.had j hj ((rose_iff hp hj).2 hne)
      exact hx i hi (tabM_iff.2 h))
  obtain ⟨X, hX, he⟩ := optB_val (a := gv (gains m)) (m := m.res.length) m.bids.length (fun _ => true)
  have h3 := dual_le hX (u := topU m p) (v := overV m p) (fun i _ => topU_nonneg i) (fun j hj => overV_nonneg hp hj) fun i j hi hj => gv_le_borne hok hp hi hj
  unfold bestV
  rw [gainsLen]
  omega
theorem borne_best (hok : okMk m) (hp : OkP m p) {M : Nat → Option Nat} (hM : Both m.bids.length m.res.length (mustP m p) (rose m p) (wantD m p) M) {X : Nat → Nat → Bool} (hX : IsM (gv (gains m)) m.res.length m.bids.length (fun _ => true) X)
    (he : val (gv (gains m)) m.res.length m.bids.length X = bestV (gains m) m.res.length) : Borne (gv (gains m)) m.bids.length m.res.length X (topU m p) (overV m p) :=
  borne_of hX (fun i _ => topU_nonneg i) (fun j hj => overV_nonneg hp hj) (fun i j hi hj => gv_le_borne hok hp hi hj) (by rw [he, best_of hok hp hM]; exact Int.le_refl _)
theorem without_getD (i0 i : Nat) : (without m i0).bids.getD i [] = if i = i0 then [] else m.bids.getD i [] := by
  rw [List.getD_eq_getElem?_getD, List.getD_eq_getElem?_getD]
  show (m.bids.set i0 [])[i]?.getD [] = _
  rw [List.getElem?_set]
  by_cases e : i0 = i
  · subst e
    rw [if_pos rfl, if_pos rfl]
    split <;> rfl
  · rw [if_neg e, if_neg fun h => e h.symm]
theorem top_nil (p : List Int) : topV [] p = 0 := by simp [topV, diffs, maxL]
theorem topU_without (i0 i : Nat) : topU (without m i0) p i = if i = i0 then 0 else topU m p i := by
  unfold topU
  rw [without_getD]
  split
  · exact top_nil p
  · rfl
theorem want_without {i0 i j : Nat} (hne : i ≠ i0) : wantD (without m i0) p i j ↔ wantD m p i j := by unfold wantD; rw [without_getD, if_neg hne]
theorem okP_without {i0 : Nat} (hp : OkP m p) : OkP (without m i0) p := hp
theorem both_without (hok : okMk m) (i0 : Nat) : ∃ M, Both (without m i0).bids.length (without m i0).res.length (mustP (without m i0) (leastV m)) (rose (without m i0) (leastV m)) (wantD (without m i0) (leastV m)) M := by
  have hlo := leastV_ok hok
  have hpl := hlo.1
  have hn : (without m i0).bids.length = m.bids.length := by show (m.bids.set i0 []).length = _; simp
  have hk : (without m i0).res.length = m.res.length := rfl
  have H := hall_of_none (end_spec hok).2
  have R := least_rose hok
  obtain ⟨A, hA⟩ := hall (n := m.bids.length) (k := m.res.length) (X := fun i => mustP m (leastV m) i ∧ i ≠ i0) (D := fun i j => wantD m (leastV m) i j ∧ i ≠ i0) (fun l => by
    have := H l
    rw [hpl] at this
    refine Nat.le_trans (cn_imp fun i hi h => ?_) this
    exact ⟨h.1.1, fun j hj hd => h.2 j hj ⟨hd, h.1.2⟩⟩)
  obtain ⟨B, hB⟩ := hall (n := m.res.length) (k := m.bids.length) (X := rose m (leastV m)) (D := fun j i => wantD m (leastV m) i j ∧ i ≠ i0) (fun l => by
    by_cases hex : ∃ j, (rose m (leastV m) j ∧ within m.bids.length (fun j i => wantD m (leastV m) i j ∧ i ≠ i0) l j)
    · have h1 := R (fun j => rose m (leastV m) j ∧ within m.bids.length (fun j i => wantD m (leastV m) i j ∧ i ≠ i0) l j) (fun j hj => hj.1) hex
      rw [hpl] at h1
      have h2 := cn_imp (n := m.bids.length) (P := fun i => ∃ j, (rose m (leastV m) j ∧ within m.bids.length (fun j i => wantD m (leastV m) i j ∧ i ≠ i0) l j) ∧ wantD m (leastV m) i j) (Q := fun i => l i ∨ i = i0) fun i hi h => by
        obtain ⟨j, hj, hd⟩ := h
        by_cases e : i = i0
        · exact .inr e
        · exact .inl (hj.2 i hi ⟨hd, e⟩)
      have h3 := cn_add (P := l) (a := i0) m.bids.length
      omega
    · rw [cn_none fun j _ hj => hex ⟨j, hj⟩]; exact Nat.zero_le _)
  obtain ⟨M, hM⟩ := both_of (D := fun i j => wantD m (leastV m) i j ∧ i ≠ i0) hA hB
  rw [hn, hk]
  refine ⟨M, ⟨fun i j hi h => ?_, hM.inj, fun i hi hX => ?_, fun j hj hY => hM.had j hj hY⟩⟩
  · obtain ⟨h1, h2, h3⟩ := hM.want i j hi h
    exact ⟨h1, (want_without h3).2 h2⟩
  · refine hM.must i hi ?_
    unfold mustP at hX ⊢
    rw [without_getD] at hX
    by_cases e : i = i0
    · rw [if_pos e] at hX; exact absurd (top_nil _) hX
    · rw [if_neg e] at hX; exact ⟨hX, e⟩
theorem without_none : without m m.bids.length = m := by unfold without; rw [List.set_eq_of_length_le (Nat.le_refl _)]
theorem both_least (hok : okMk m) : ∃ M, Both m.bids.length m.res.length (mustP m (leastV m)) (rose m (leastV m)) (wantD m (leastV m)) M := by
  have := both_without hok m.bids.length
  rw [without_none] at this
  exact this
theorem best_without (hok : okMk m) {i0 : Nat} (hi : i0 < m.bids.length) : bestV (gains (without m i0)) m.res.length = bestV (gains m) m.res.length - topU m (leastV m) i0 := by
  obtain ⟨M, hM⟩ := both_without hok i0
  obtain ⟨M', hM'⟩ := both_least hok
  have h1 := best_of (without_ok hok i0) (okP_without (leastV_ok hok)) hM
  have h2 := best_of hok (leastV_ok hok) hM'
  have hn : (without m i0).bids.length = m.bids.length := by show (m.bids.set i0 []).length = _; simp
  have hk : (without m i0).res.length = m.res.length := rfl
  rw [hn, hk] at h1
  have e1 : sumN m.res.length (overV (without m i0) (leastV m)) = sumN m.res.length (overV m (leastV m)) := rfl
  have e2 : sumN m.bids.length (topU m (leastV m)) = sumN m.bids.length (topU (without m i0) (leastV m)) + topU m (leastV m) i0 := by
    have e3 : sumN m.bids.length (fun i => if i = i0 then topU m (leastV m) i0 else 0) = topU m (leastV m) i0 := by
      rw [sumN_one hi fun i _ hne => if_neg hne, if_pos rfl]
    rw [← e3, ← sumN_add]
    refine sumN_congr fun i _ => ?_
    rw [topU_without]
    by_cases e : i = i0
    · subst e; simp
    · simp [e]
  omega
end mk
end Go.Sl
