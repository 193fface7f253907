/- The outcome of a market is its least even one; whoever says what items are worth to it has the most. No program in sight. -/
import Derived.Test.YtlgdffofhnfedaaGreatEg
set_option linter.unusedVariables false
set_option linter.unusedSimpArgs false
namespace Go.Sl
theorem count_le_one {l : List Int} {x : Int} (h : ∀ i i' : Nat, i < l.length → i' < l.length → l.getD i 0 = x → l.getD i' 0 = x → i = i') : l.count x ≤ 1 := by
  induction l with
  | nil => simp
  | cons y ys ih =>
    have ih' := ih fun i i' hi hi' e e' => by
      have := h (i + 1) (i' + 1) (by simpa using hi) (by simpa using hi') (by simpa using e) (by simpa using e')
      omega
    rw [List.count_cons]
    by_cases e : y = x
    · subst e
      have : ys.count y = 0 := List.count_eq_zero.2 fun hm => by
        obtain ⟨i, hi, he⟩ := List.getElem_of_mem hm
        have := h 0 (i + 1) (by simp) (by simpa using hi) rfl (by simp [hi, he])
        omega
      rw [this]; simp
    · have : (y == x) = false := by simpa using e
      rw [this]; simpa using ih'
theorem count_one_inj {l : List Int} {x : Int} (h : l.count x ≤ 1) : ∀ i i' : Nat, i < l.length → i' < l.length → l.getD i 0 = x → l.getD i' 0 = x → i = i' := by
  induction l with
  | nil => intro i i' hi; simp at hi
  | cons y ys ih =>
    rw [List.count_cons] at h
    have h1 : ys.count x ≤ 1 := by omega
    have hz : y = x → ∀ i, i < ys.length → ys.getD i 0 ≠ x := fun e i hi he => by
      subst e
      have : 0 < ys.count y := List.count_pos_iff.2 (by rw [← he, List.getD_eq_getElem?_getD, List.getElem?_eq_getElem hi]; exact List.getElem_mem hi)
      simp at h
      omega
    intro i i' hi hi' e e'
    cases i with
    | zero =>
      cases i' with
      | zero => rfl
      | succ i' => exact absurd (by simpa using e') (hz (by simpa using e) i' (by simpa using hi'))
    | succ i =>
      cases i' with
      | zero => exact absurd (by simpa using e) (hz (by simpa using e') i (by simpa using hi))
      | succ i' =>
        have := ih h1 i i' (by simpa using hi) (by simpa using hi') (by simpa using e) (by simpa using e')
        omega
section even
variable {m : Mk}
theorem count_zero_not {l : List Int} {x : Int} (h : l.count x = 0) {i : Nat} (hi : i < l.length) : l.getD i 0 ≠ x := fun he => by
  have := List.count_eq_zero.1 h
  exact this (by rw [← he, List.getD_eq_getElem?_getD, List.getElem?_eq_getElem hi]; exact List.getElem_mem hi)
theorem of_even (hok : okMk m) : evenV m (ofV m) := by
  have H := of_best hok
  have hlo := leastV_ok hok
  have hpl : (ofV m).pri.length = m.res.length := hlo.1
  refine ⟨hok, of_len, hpl, fun i hi => ?_, fun j hj => ⟨?_, ?_, fun h0 => ?_⟩, fun i hi => ?_⟩
  · rw [of_len] at hi
    rw [hpl]
    exact H.rng i hi
  · refine count_le_one fun i i' hi hi' e e' => ?_
    rw [of_len] at hi hi'
    exact H.isM.col i i' hi hi' j (by omega) (hasX_iff.2 e) (hasX_iff.2 e')
  · obtain ⟨r, z, hr, hz, _, hle⟩ := overV_of hlo (j := j) (by omega)
    have hb := (hlo.2 j z hz).2
    have hz' : (ofV m).pri.getD j 0 = z := getD_of hz
    unfold priOk
    rw [hz', getD_of hr]
    omega
  · obtain ⟨r, z, hr, hz, ev, hle⟩ := overV_of hlo (j := j) (by omega)
    have hz' : (ofV m).pri.getD j 0 = z := getD_of hz
    rw [hz', getD_of hr]
    have : overV m (leastV m) j = 0 := Classical.byContradiction fun hne => by
      obtain ⟨i, hi, hx⟩ := (H.borne hok).col j (by omega) hne
      exact count_zero_not h0 (by rw [of_len]; exact hi) (hasX_iff.1 hx)
    omega
  · unfold bidOk
    by_cases e : m.bids.getD i [] = []
    · rw [if_pos e]
      refine Classical.byContradiction fun hne => ?_
      obtain ⟨j, b, x, r, z, e1, hj, hb, hbn, _⟩ := H.some hok hi hne
      rw [getD_of hb] at e
      exact hbn e
    · rw [if_neg e]
      have hn : nowV (m.bids.getD i []) (ofV m).pri ((ofV m).has.getD i 0) = topU m (leastV m) i := H.now hok hi
      unfold rowOk
      rw [hn]
      refine ⟨topU_nonneg i, fun j hj => ?_⟩
      have hl := (bid_bound hok hi e).1
      obtain ⟨x, hx⟩ := get_of (xs := m.bids.getD i []) (k := j) (by omega)
      obtain ⟨z, hz⟩ := get_of (xs := (ofV m).pri) (k := j) hj
      rw [getD_of hx, getD_of hz]
      exact topV_ge hx hz
theorem of_least (hok : okMk m) : leastOk m (ofV m) := ⟨of_even hok, of_sum hok, of_want hok⟩
theorem even_best {o : Oc} (hE : evenV m o) (hs : sumV m o = bestV (gains m) m.res.length) : BestM m (fun i => o.has.getD i 0) := by
  obtain ⟨hok, hl, hpl, hr, hj, hb⟩ := id hE
  refine ⟨fun i hi => by have := hr i (by omega); rw [hpl] at this; exact this, ⟨fun i hi j hjk hx => ⟨?_, rfl⟩, fun i hi j j' _ _ h1 h2 => by rw [hasX_iff] at h1 h2; omega, fun i i' hi hi' j hjk h1 h2 => count_one_inj (hj j (by omega)).1 i i' (by omega) (by omega) (hasX_iff.1 h1) (hasX_iff.1 h2)⟩, ?_⟩
  · have hx' : o.has.getD i 0 = (j : Int) := hasX_iff.1 hx
    have hbi := hb i hi
    unfold bidOk at hbi
    by_cases e : m.bids.getD i [] = []
    · rw [if_pos e] at hbi; omega
    · rw [if_neg e] at hbi
      obtain ⟨b, hbb⟩ := get_of hi
      have hgb : m.bids.getD i [] = b := getD_of hbb
      have hl' := (bid_bound hok hi e).1
      rw [hgb] at hl' hbi e
      obtain ⟨x, hx2⟩ := get_of (xs := b) (k := j) (by omega)
      obtain ⟨r, hr2⟩ := get_of (xs := m.res) (k := j) hjk
      have hp := (hj j (by omega)).2.1
      unfold priOk at hp
      rw [getD_of hr2] at hp
      have h0 := hbi.1
      unfold nowV at h0
      rw [hx', if_neg (by omega), Int.toNat_natCast, getD_of hx2] at h0
      rcases gv_row hbb hjk with ⟨hn, _⟩ | ⟨_, e2⟩
      · exact absurd hn e
      · rw [e2 x r hx2 hr2]; omega
  · rw [← hs]
    unfold sumV
    rw [sumTo_eq, hl]
theorem least_pri {o : Oc} (h : leastOk m o) : o.pri = leastV m := by
  rw [← h.2.2]
  exact (even_best h.1 h.2.1).wants h.1.1 h.1.2.1
theorem gotV_some {a : Nat → Nat → Int} {h : Nat → Int} {i j : Nat} (e : h i = (j : Int)) : gotV a h i = a i j := by unfold gotV; rw [e, if_neg (by omega), Int.toNat_natCast]
theorem gotV_none {a : Nat → Nat → Int} {h : Nat → Int} {i : Nat} (e : h i = -1) : gotV a h i = 0 := by unfold gotV; rw [if_pos e]
theorem without_other (i : Nat) (bid : List Int) : without (otherM m i bid) i = without m i := by
  unfold without otherM
  simp
theorem sumN_others {n i0 : Nat} {f g : Nat → Int} (hi : i0 < n) (h : ∀ i, i < n → i ≠ i0 → f i = g i) : sumN n f - f i0 = sumN n g - g i0 := by
  have := sumN_upd (f := f) (g := g) hi h
  omega
theorem gv_other {i i0 j : Nat} {bid : List Int} (hne : i ≠ i0) : gv (gains (otherM m i0 bid)) i j = gv (gains m) i j := by
  unfold gv gains otherM
  simp only [List.getD_eq_getElem?_getD, List.getElem?_map, List.getElem?_set]
  rw [if_neg fun h => hne h.symm]
theorem true_all (hok : okMk m) {i : Nat} {bid : List Int} (hi : i < m.bids.length) (hne : m.bids.getD i [] ≠ []) (hok2 : okMk (otherM m i bid)) : trueV m i bid := by
  have hn' : (otherM m i bid).bids.length = m.bids.length := by simp [otherM]
  have e1 := hasV_eq hok hi
  refine ⟨by rw [e1]; exact topU_nonneg i, ?_⟩
  rw [e1]
  have H := of_best hok2
  have hw := best_without hok hi
  have hw2 := best_without hok2 (i0 := i) (by omega)
  rw [without_other] at hw2
  have hres : (otherM m i bid).res = m.res := rfl
  rw [hres] at hw2
  show nowV (m.bids.getD i []) (leastV (otherM m i bid)) ((ofV (otherM m i bid)).has.getD i 0) ≤ _
  by_cases e : (ofV (otherM m i bid)).has.getD i 0 = -1
  · unfold nowV
    rw [if_pos (by omega)]
    exact topU_nonneg i
  · obtain ⟨j, b', x', r, z, ej, hj, hb', _, hx', hr, hz, hg, hg0, hrz, et⟩ := H.some hok2 (by omega) e
    rw [hres] at hj hr
    obtain ⟨b, hb⟩ := get_of hi
    have hgb : m.bids.getD i [] = b := getD_of hb
    have hl := (bid_bound hok hi hne).1
    rw [hgb] at hl hne
    obtain ⟨x, hx⟩ := get_of (xs := b) (k := j) (by omega)
    have hgm : gv (gains m) i j = x - r := by
      rcases gv_row hb hj with ⟨hn, _⟩ | ⟨_, e2⟩
      · exact absurd hn hne
      · exact e2 x r hx hr
    have ej' : (ofV (otherM m i bid)).has.getD i 0 = (j : Int) := ej
    unfold nowV
    rw [ej', if_neg (by omega), Int.toNat_natCast, hgb, getD_of hx, getD_of hz]
    have hB := H.best
    rw [hn', hres] at hB
    -- the others have together a1s much in both markets
    have hoth : sumN m.bids.length (gotV (gv (gains m)) fun i => (ofV (otherM m i bid)).has.getD i 0) = sumN m.bids.length (gotV (gv (gains m)) fun i => (ofV (otherM m i bid)).has.getD i 0) := rfl
    have hrow : ∀ i', i' < m.bids.length → i' ≠ i → gotV (gv (gains m)) (fun a => (ofV (otherM m i bid)).has.getD a 0) i' = gotV (gv (gains (otherM m i bid))) (fun a => (ofV (otherM m i bid)).has.getD a 0) i' := fun i' hi' hne' => by
      unfold gotV
      split
      · rfl
      · rw [gv_other hne']
    have hso := sumN_others hi hrow
    have g1 : gotV (gv (gains (otherM m i bid))) (fun a => (ofV (otherM m i bid)).has.getD a 0) i = x' - r := by
      rw [gotV_some (h := fun a => (ofV (otherM m i bid)).has.getD a 0) ej', hg]
    have g2 : gotV (gv (gains m)) (fun a => (ofV (otherM m i bid)).has.getD a 0) i = x - r := by
      rw [gotV_some (h := fun a => (ofV (otherM m i bid)).has.getD a 0) ej', hgm]
    have hrng : ∀ i', i' < m.bids.length → -1 ≤ (ofV (otherM m i bid)).has.getD i' 0 ∧ (ofV (otherM m i bid)).has.getD i' 0 < (m.res.length : Int) := fun i' hi' => H.rng i' (by omega)
    have hbound : sumN m.bids.length (gotV (gv (gains m)) fun a => (ofV (otherM m i bid)).has.getD a 0) ≤ bestV (gains m) m.res.length := by
      by_cases h0 : 0 ≤ x - r
      · have hM : IsM (gv (gains m)) m.res.length m.bids.length (fun _ => true) (hasX fun a => (ofV (otherM m i bid)).has.getD a 0) := by
          refine ⟨fun i' hi' j' hj' hx2 => ⟨?_, rfl⟩, fun i' hi' => H.isM.row i' (by omega), fun i1 i2 h1 h2 => H.isM.col i1 i2 (by omega) (by omega)⟩
          by_cases e3 : i' = i
          · subst e3
            have : (ofV (otherM m i' bid)).has.getD i' 0 = (j' : Int) := hasX_iff.1 hx2
            have : j' = j := by omega
            subst this
            omega
          · have := (H.isM.ok i' (by omega) j' hj' hx2).1
            rw [gv_other e3] at this
            exact this
        have := val_le_optB hM
        rw [val_hasX hrng] at this
        unfold bestV
        rw [gainsLen]
        exact this
      · have hup : ∀ a, upd (fun a => (ofV (otherM m i bid)).has.getD a 0) i (-1) a = if a = i then -1 else (ofV (otherM m i bid)).has.getD a 0 := fun a => rfl
        have hM : IsM (gv (gains m)) m.res.length m.bids.length (fun _ => true) (hasX (upd (fun a => (ofV (otherM m i bid)).has.getD a 0) i (-1))) := by
          refine ⟨fun i' hi' j' hj' hx2 => ⟨?_, rfl⟩, fun i' hi' j1 j2 _ _ h1 h2 => by rw [hasX_iff] at h1 h2; omega, fun i1 i2 h1 h2 j' hj' k1 k2 => ?_⟩
          · rw [hasX_iff, hup] at hx2
            by_cases e3 : i' = i
            · rw [if_pos e3] at hx2; omega
            · rw [if_neg e3] at hx2
              have := (H.isM.ok i' (by omega) j' hj' (hasX_iff.2 hx2)).1
              rw [gv_other e3] at this
              exact this
          · rw [hasX_iff, hup] at k1 k2
            by_cases e3 : i1 = i
            · rw [if_pos e3] at k1; omega
            · by_cases e4 : i2 = i
              · rw [if_pos e4] at k2; omega
              · rw [if_neg e3] at k1; rw [if_neg e4] at k2
                exact H.isM.col i1 i2 (by omega) (by omega) j' hj' (hasX_iff.2 k1) (hasX_iff.2 k2)
        have hv := val_le_optB hM
        rw [val_hasX fun i' hi' => by
          rw [hup]
          split
          · omega
          · exact hrng i' hi'] at hv
        have hs := sumN_others (f := gotV (gv (gains m)) (upd (fun a => (ofV (otherM m i bid)).has.getD a 0) i (-1))) (g := gotV (gv (gains m)) fun a => (ofV (otherM m i bid)).has.getD a 0) hi fun i' hi' hne' => by unfold gotV; rw [hup, if_neg hne']
        have g3 : gotV (gv (gains m)) (upd (fun a => (ofV (otherM m i bid)).has.getD a 0) i (-1)) i = 0 := gotV_none (by rw [hup, if_pos rfl])
        unfold bestV
        rw [gainsLen]
        omega
    omega
theorem trueOk_true {bi : Int} {bid : List Int} (h : TrueOk m bi bid) : trueV m bi.toNat bid := by
  obtain ⟨hok, h1, h2, h3, h4⟩ := h
  exact true_all hok (by omega) h3 ((other_ok hok (by omega)).2 h4)
end even
end Go.Sl
