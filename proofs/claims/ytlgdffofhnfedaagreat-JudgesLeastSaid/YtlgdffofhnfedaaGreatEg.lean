/- What comes of a market is even, its prices are what others lose, and nobody has more by saying anything else. No program in sight. -/
import Derived.Test.YtlgdffofhnfedaaGreatEf
import Derived.Test.YtlgdffofhnfedaaGreatX27
set_option linter.unusedVariables false
set_option linter.unusedSimpArgs false
namespace Go.Sl
section got
variable {m : Mk} {h : Nat → Int}
theorem BestM.val (H : BestM m h) : val (gv (gains m)) m.res.length m.bids.length (hasX h) = bestV (gains m) m.res.length := by rw [val_hasX H.rng, H.best]
theorem BestM.borne (hok : okMk m) (H : BestM m h) : Borne (gv (gains m)) m.bids.length m.res.length (hasX h) (topU m (leastV m)) (overV m (leastV m)) := by
  obtain ⟨M, hM⟩ := both_least hok
  exact borne_best hok (leastV_ok hok) hM H.isM H.val
theorem BestM.none (hok : okMk m) (H : BestM m h) {i : Nat} (hi : i < m.bids.length) (e : h i = -1) : topU m (leastV m) i = 0 := Classical.byContradiction fun hne => by
  obtain ⟨j, hj, hx⟩ := (H.borne hok).row i hi hne
  rw [hasX_iff] at hx
  omega
theorem BestM.some (hok : okMk m) (H : BestM m h) {i : Nat} (hi : i < m.bids.length) (e : h i ≠ -1) : ∃ (j : Nat) (b : List Int) (x r z : Int), h i = (j : Int) ∧ j < m.res.length ∧ m.bids[i]? = some b ∧ b ≠ [] ∧ b[j]? = some x ∧ m.res[j]? = some r ∧ (leastV m)[j]? = some z ∧ gv (gains m) i j = x - r ∧ 0 ≤ x - r ∧ r ≤ z ∧ x - z = topU m (leastV m) i := by
  have hr := H.rng i hi
  have hj : (h i).toNat < m.res.length := by omega
  have hx : hasX h i (h i).toNat = true := hasX_iff.2 (by omega)
  obtain ⟨b, hb⟩ := get_of hi
  have hgb : m.bids.getD i [] = b := getD_of hb
  have h0 := (H.isM.ok i hi _ hj hx).1
  have ha := (H.borne hok).at_ i _ hi hj hx
  obtain ⟨r, z, hr', hz, ev, hle⟩ := overV_of (leastV_ok hok) hj
  rcases gv_row hb hj with ⟨_, e2⟩ | ⟨hne, e2⟩
  · omega
  · have hl := (bid_bound hok hi (by rw [hgb]; exact hne)).1
    rw [hgb] at hl
    obtain ⟨x, hx⟩ := get_of (xs := b) (k := (h i).toNat) (by omega)
    have e3 := e2 x r hx hr'
    exact ⟨(h i).toNat, b, x, r, z, by omega, hj, hb, hne, hx, hr', hz, e3, by omega, hle, by omega⟩
theorem BestM.now (hok : okMk m) (H : BestM m h) {i : Nat} (hi : i < m.bids.length) : nowV (m.bids.getD i []) (leastV m) (h i) = topU m (leastV m) i := by
  by_cases e : h i = -1
  · unfold nowV; rw [if_pos (by omega), H.none hok hi e]
  · obtain ⟨j, b, x, r, z, e1, hj, hb, _, hx, _, hz, _, _, _, e2⟩ := H.some hok hi e
    unfold nowV
    rw [e1, if_neg (by omega), Int.toNat_natCast, getD_of hb, getD_of hx, getD_of hz, e2]
theorem BestM.lost (hok : okMk m) {o : Oc} (H : BestM m (fun i => o.has.getD i 0)) (hl : o.has.length = m.bids.length) {i : Nat} (hi : i < m.bids.length) (e : o.has.getD i 0 ≠ -1) : lostV m o i (o.has.getD i 0) = overV m (leastV m) (o.has.getD i 0).toNat := by
  have hs : sumV m o = bestV (gains m) m.res.length := by unfold sumV; rw [sumTo_eq, hl, H.best]
  obtain ⟨j, b, x, r, z, e1, hj, hb, _, hx, hr, hz, hg, _, _, e2⟩ := H.some hok hi e
  have hw := best_without hok hi
  have hov : overV m (leastV m) j = z - r := by unfold overV; rw [getD_of hr, getD_of hz]
  unfold lostV
  have e1' : o.has.getD i 0 = (j : Int) := e1
  rw [e1', Int.toNat_natCast, hs, hw, hg, hov]
  omega
theorem BestM.wantTo (hok : okMk m) {o : Oc} (H : BestM m (fun i => o.has.getD i 0)) (hl : o.has.length = m.bids.length) : ∀ k, k ≤ m.bids.length → ∀ j : Nat, j < m.res.length →
    (wantTo m o k).getD j 0 = if ∃ i, i < k ∧ o.has.getD i 0 = (j : Int) then (leastV m).getD j 0 else m.res.getD j 0
  | 0, _, j, hj => by rw [if_neg fun h => by obtain ⟨i, hi, _⟩ := h; omega]; rfl
  | k + 1, hk, j, hj => by
    have ih := BestM.wantTo hok H hl k (by omega)
    have hr := H.rng k (by omega)
    simp only [Go.Sl.wantTo]
    by_cases e : o.has.getD k 0 = -1
    · rw [if_pos e, ih j hj]
      by_cases hex : ∃ i, i < k ∧ o.has.getD i 0 = (j : Int)
      · obtain ⟨i, hi, hx⟩ := hex
        rw [if_pos ⟨i, hi, hx⟩, if_pos ⟨i, by omega, hx⟩]
      · rw [if_neg hex, if_neg]
        rintro ⟨i, hi, hx⟩
        by_cases e2 : i = k
        · subst e2; omega
        · exact hex ⟨i, by omega, hx⟩
    · rw [if_neg e, H.lost hok hl (by omega) e]
      obtain ⟨j', hj'⟩ : ∃ j' : Nat, o.has.getD k 0 = (j' : Int) := ⟨(o.has.getD k 0).toNat, by have : -1 ≤ o.has.getD k 0 := hr.1; omega⟩
      have hj'k : j' < m.res.length := by have : o.has.getD k 0 < (m.res.length : Int) := hr.2; omega
      rw [hj', Int.toNat_natCast]
      have hnot : ¬ ∃ i, i < k ∧ o.has.getD i 0 = (j' : Int) := fun ⟨i, hi, hx⟩ => by
        have := H.isM.col i k (by omega) (by omega) j' hj'k (hasX_iff.2 hx) (hasX_iff.2 hj')
        omega
      have ihj := ih j' hj'k
      rw [if_neg hnot] at ihj
      rw [ihj, List.getD_eq_getElem?_getD, List.getElem?_set]
      by_cases e3 : j' = j
      · subst e3
        rw [if_pos rfl, if_pos (by simp; exact hj), if_pos ⟨k, by omega, hj'⟩]
        unfold overV
        simp only [Option.getD_some]
        omega
      · rw [if_neg e3, ← List.getD_eq_getElem?_getD, ih j hj]
        by_cases hex : ∃ i, i < k ∧ o.has.getD i 0 = (j : Int)
        · obtain ⟨i, hi, hx⟩ := hex
          rw [if_pos ⟨i, hi, hx⟩, if_pos ⟨i, by omega, hx⟩]
        · rw [if_neg hex, if_neg]
          rintro ⟨i, hi, hx⟩
          by_cases e2 : i = k
          · subst e2; omega
          · exact hex ⟨i, by omega, hx⟩
theorem BestM.wants (hok : okMk m) {o : Oc} (H : BestM m (fun i => o.has.getD i 0)) (hl : o.has.length = m.bids.length) : Go.Sl.wantTo m o o.has.length = leastV m := by
  have hlo := leastV_ok hok
  apply List.ext_getElem?
  intro j
  by_cases hj : j < m.res.length
  · obtain ⟨y, hy⟩ := get_of (xs := Go.Sl.wantTo m o o.has.length) (k := j) (by simp; exact hj)
    obtain ⟨r, z, hr, hz, ev, hle⟩ := overV_of hlo hj
    have hw := H.wantTo hok hl o.has.length (by omega) j hj
    rw [getD_of hy, getD_of hz, getD_of hr] at hw
    rw [hy, hz, hw]
    by_cases hex : ∃ i, i < o.has.length ∧ o.has.getD i 0 = (j : Int)
    · rw [if_pos hex]
    · rw [if_neg hex]
      have : overV m (leastV m) j = 0 := Classical.byContradiction fun hne => by
        obtain ⟨i, hi, hx⟩ := (H.borne hok).col j hj hne
        exact hex ⟨i, by omega, hasX_iff.1 hx⟩
      rw [show z = r by omega]
  · rw [List.getElem?_eq_none (by simp; omega), List.getElem?_eq_none (by rw [hlo.1]; omega)]
end got
section of
variable {m : Mk}
theorem of_has (hok : okMk m) {i : Nat} (hi : i < m.bids.length) : (ofV m).has.getD i 0 = (firstAt (gains m) m.res.length (ordN m.ord) (ordN m.ord).length).has i := by
  show (firstV (gains m) m.res.length (ordN m.ord)).getD i 0 = _
  unfold firstV
  rw [List.getD_eq_getElem?_getD, tab_get (by rw [gainsLen]; exact hi)]; rfl
theorem of_len : (ofV m).has.length = m.bids.length := by
  show (firstV (gains m) m.res.length (ordN m.ord)).length = _
  unfold firstV
  rw [tab_length, gainsLen]
theorem BestM.congr {h h' : Nat → Int} (H : BestM m h) (he : ∀ i, i < m.bids.length → h' i = h i) : BestM m h' := by
  have hx : ∀ i j, i < m.bids.length → hasX h' i j = hasX h i j := fun i j hi => by unfold hasX; rw [he i hi]
  refine ⟨fun i hi => by rw [he i hi]; exact H.rng i hi, ⟨fun i hi j hj hx' => H.isM.ok i hi j hj (by rw [← hx i j hi]; exact hx'), fun i hi j j' hj hj' h1 h2 => H.isM.row i hi j j' hj hj' (by rw [← hx i j hi]; exact h1) (by rw [← hx i j' hi]; exact h2), fun i i' hi hi' j hj h1 h2 => H.isM.col i i' hi hi' j hj (by rw [← hx i j hi]; exact h1) (by rw [← hx i' j hi']; exact h2)⟩, ?_⟩
  rw [← H.best]
  exact sumN_congr fun i hi => by unfold gotV; rw [he i hi]
theorem of_best (hok : okMk m) : BestM m (fun i => (ofV m).has.getD i 0) := (first_best hok).congr fun i hi => of_has hok hi
theorem hasV_eq (hok : okMk m) {i : Nat} (hi : i < m.bids.length) : hasV m i (m.bids.getD i []) = topU m (leastV m) i := (of_best hok).now hok hi
theorem of_sum (hok : okMk m) : sumV m (ofV m) = bestV (gains m) m.res.length := by unfold sumV; rw [sumTo_eq, of_len, (of_best hok).best]
theorem of_want (hok : okMk m) : wantTo m (ofV m) (ofV m).has.length = (ofV m).pri := (of_best hok).wants hok of_len
end of
end Go.Sl
