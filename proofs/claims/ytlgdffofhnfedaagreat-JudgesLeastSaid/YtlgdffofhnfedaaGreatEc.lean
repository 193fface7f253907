/- What rises, step by step: each set of items that rose stays wanted by more than it has items. No program in sight. -/
import Derived.Test.YtlgdffofhnfedaaGreatEb
set_option linter.unusedVariables false
set_option linter.unusedSimpArgs false
namespace Go.Sl
theorem topV_eq {b q : List Int} {t : Int} (h0 : 0 ≤ t) (hle : ∀ (j : Nat) (x z : Int), b[j]? = some x → q[j]? = some z → x - z ≤ t) (hex : t = 0 ∨ ∃ (j : Nat) (x z : Int), b[j]? = some x ∧ q[j]? = some z ∧ x - z = t) : topV b q = t := by
  have h1 : topV b q ≤ t := by
    by_cases e : topV b q = 0
    · omega
    · obtain ⟨k, hk⟩ := tops_some e
      obtain ⟨j, x, z, rfl, hx, hz, he⟩ := tops_mem.1 hk
      have := hle j x z hx hz
      omega
  have h2 : t ≤ topV b q := by
    rcases hex with rfl | ⟨j, x, z, hx, hz, he⟩
    · exact topV_nonneg b q
    · have := topV_ge hx hz; omega
  omega
section step
variable {m : Mk} {p S : List Int}
theorem lt_len_of_get {xs : List Int} {j : Nat} {x : Int} (h : xs[j]? = some x) : j < xs.length := lt_of_get h
theorem far_le (hs : Sp m p S) {i : Nat} (hi : i < m.bids.length) (hm : mustP m p i) (hw : within p.length (wantD m p) (fun j => (j : Int) ∈ S) i) :
    minV (farL m p S (mustV m p)) ≤ topV (m.bids.getD i []) p ∧ ∀ (j : Nat) (x z : Int), ¬ (j : Int) ∈ S → (m.bids.getD i [])[j]? = some x → p[j]? = some z → minV (farL m p S (mustV m p)) ≤ topV (m.bids.getD i []) p - (x - z) := by
  have hmem : ∀ y, y ∈ farI (m.bids.getD i []) p S → y ∈ farL m p S (mustV m p) := by
    intro y hy
    unfold farL
    refine List.mem_flatMap.2 ⟨(i : Int), must_mem.2 ⟨i, hi, rfl, hm⟩, ?_⟩
    rw [if_pos ((within_grV hi hm).2 hw)]
    exact hy
  refine ⟨hs.min.2 _ (hmem _ (by unfold farI; exact List.mem_cons_self)), fun j x z hj hx hz => hs.min.2 _ (hmem _ ?_)⟩
  unfold farI
  refine List.mem_cons_of_mem _ (List.mem_map.2 ⟨j, List.mem_filter.2 ⟨List.mem_range.2 (lt_of_get hz), by simpa using hj⟩, ?_⟩)
  have e1 : (m.bids.getD i []).getD j 0 = x := by rw [List.getD_eq_getElem?_getD, hx]; rfl
  have e2 : p.getD j 0 = z := by rw [List.getD_eq_getElem?_getD, hz]; rfl
  rw [e1, e2]
theorem raise_in {j : Nat} {z d : Int} (hz : p[j]? = some z) (hj : (j : Int) ∈ S) : (raise p S d)[j]? = some (z + d) := by rw [raise_get hz, if_pos hj]
theorem raise_out {j : Nat} {z d : Int} (hz : p[j]? = some z) (hj : ¬ (j : Int) ∈ S) : (raise p S d)[j]? = some z := by rw [raise_get hz, if_neg hj]
theorem raise_at {j : Nat} {z d : Int} (hz : (raise p S d)[j]? = some z) : ∃ y, p[j]? = some y ∧ z = if (j : Int) ∈ S then y + d else y := by
  have hj : j < p.length := by have := lt_of_get hz; simpa using this
  obtain ⟨y, hy⟩ := get_of hj
  rw [raise_get hy] at hz
  exact ⟨y, hy, (Option.some.inj hz).symm⟩
theorem top_in (hs : Sp m p S) {i : Nat} (hi : i < m.bids.length) (hm : mustP m p i) (hw : within p.length (wantD m p) (fun j => (j : Int) ∈ S) i) :
    topV (m.bids.getD i []) (raise p S (minV (farL m p S (mustV m p)))) = topV (m.bids.getD i []) p - minV (farL m p S (mustV m p)) := by
  obtain ⟨f1, f2⟩ := far_le hs hi hm hw
  refine topV_eq (by omega) (fun j x z hx hz => ?_) (.inr ?_)
  · obtain ⟨y, hy, rfl⟩ := raise_at hz
    have := topV_ge hx hy
    split
    · omega
    · rename_i hj
      have := f2 j x y hj hx hy
      omega
  · obtain ⟨k, hk⟩ := tops_some hm
    obtain ⟨j, x, z, rfl, hx, hz, he⟩ := tops_mem.1 hk
    have hjS : (j : Int) ∈ S := hw j (lt_of_get hz) ⟨x, z, hx, hz, he⟩
    exact ⟨j, x, _, hx, raise_in hz hjS, by omega⟩
theorem want_in (hs : Sp m p S) {i j : Nat} (hi : i < m.bids.length) (hm : mustP m p i) (hw : within p.length (wantD m p) (fun j => (j : Int) ∈ S) i) (hd : wantD m p i j) : wantD m (raise p S (minV (farL m p S (mustV m p)))) i j := by
  obtain ⟨x, z, hx, hz, he⟩ := id hd
  have hjS : (j : Int) ∈ S := hw j (lt_of_get hz) hd
  exact ⟨x, _, hx, raise_in hz hjS, by rw [top_in hs hi hm hw]; omega⟩
theorem want_out (hs : Sp m p S) {i j : Nat} (hj : ¬ (j : Int) ∈ S) (hd : wantD m p i j) : wantD m (raise p S (minV (farL m p S (mustV m p)))) i j := by
  obtain ⟨x, z, hx, hz, he⟩ := hd
  have h0 := topV_nonneg (m.bids.getD i []) p
  have hpos := hs.pos
  have ht : topV (m.bids.getD i []) (raise p S (minV (farL m p S (mustV m p)))) = topV (m.bids.getD i []) p := by
    refine topV_eq h0 (fun j' x' z' hx' hz' => ?_) (.inr ⟨j, x, z, hx, raise_out hz hj, he⟩)
    obtain ⟨y, hy, rfl⟩ := raise_at hz'
    have := topV_ge hx' hy
    split <;> omega
  exact ⟨x, z, hx, raise_out hz hj, by rw [ht]; exact he⟩
theorem rose_out {j : Nat} {d : Int} (hj : ¬ (j : Int) ∈ S) (h : rose m (raise p S d) j) : rose m p j := by
  obtain ⟨r, z, hr, hz, hlt⟩ := h
  obtain ⟨y, hy, rfl⟩ := raise_at hz
  rw [if_neg hj] at hlt
  exact ⟨r, y, hr, hy, hlt⟩
theorem few_part (hf : IsFew (grV m p) p.length (mustV m p) (some S)) (W : Nat → Prop) (hW : ∀ j, W j → j < p.length) (hex : ∃ j, W j ∧ (j : Int) ∈ S) :
    cn p.length (fun j => W j ∧ (j : Int) ∈ S) < cn m.bids.length (fun i => (mustP m p i ∧ within p.length (wantD m p) (fun j => (j : Int) ∈ S) i) ∧ ∃ j, (W j ∧ (j : Int) ∈ S) ∧ wantD m p i j) := by
  obtain ⟨hr, ht, hmin⟩ := hf
  have hlS := isR_len_cn _ rfl hr
  unfold tooMany at ht
  rw [withinV_cn, hlS] at ht
  have e1 := cn_or_and (fun j => W j ∧ (j : Int) ∈ S) (fun j => (j : Int) ∈ S ∧ ¬ W j) p.length
  rw [cn_none (P := fun j => (W j ∧ (j : Int) ∈ S) ∧ ((j : Int) ∈ S ∧ ¬ W j)) fun j _ h => h.2.2 h.1.1] at e1
  have e2 : cn p.length (fun j => (W j ∧ (j : Int) ∈ S) ∨ ((j : Int) ∈ S ∧ ¬ W j)) = cn p.length (fun j => (j : Int) ∈ S) := cn_congr fun j _ => by
    constructor
    · rintro (h | h)
      · exact h.2
      · exact h.1
    · intro h
      by_cases hw : W j
      · exact .inl ⟨hw, h⟩
      · exact .inr ⟨h, hw⟩
  have hpos : 1 ≤ cn p.length (fun j => W j ∧ (j : Int) ∈ S) := by
    obtain ⟨j, hj, hjS⟩ := hex
    have := cn_lt (n := p.length) (a := j) (P := fun _ => False) (Q := fun j => W j ∧ (j : Int) ∈ S) (fun _ _ h => h.elim) (hW j hj) (fun h => h) ⟨hj, hjS⟩
    omega
  have hl := lst_len (fun j => (j : Int) ∈ S ∧ ¬ W j) p.length
  have hno : ¬ tooMany (grV m p) (mustV m p) (lst p.length fun j => (j : Int) ∈ S ∧ ¬ W j) := fun h => by
    rcases hmin _ (lst_isR _ _) h with e | h2 | h2
    · rw [e] at hl; omega
    · omega
    · have := h2.1; omega
  unfold tooMany at hno
  rw [withinV_cn, hl] at hno
  have hsub := cn_imp (n := m.bids.length) (P := fun i => mustP m p i ∧ within p.length (wantD m p) (fun j => (j : Int) ∈ S) i)
    (Q := fun i => (mustP m p i ∧ within p.length (wantD m p) (fun j => (j : Int) ∈ lst p.length fun j => (j : Int) ∈ S ∧ ¬ W j) i) ∨ ((mustP m p i ∧ within p.length (wantD m p) (fun j => (j : Int) ∈ S) i) ∧ ∃ j, (W j ∧ (j : Int) ∈ S) ∧ wantD m p i j))
    fun i _ h => by
      by_cases hm : ∃ j, (W j ∧ (j : Int) ∈ S) ∧ wantD m p i j
      · exact .inr ⟨h, hm⟩
      · exact .inl ⟨h.1, fun j hj hd => lst_mem.2 ⟨j, rfl, hj, h.2 j hj hd, fun hw => hm ⟨j, ⟨hw, h.2 j hj hd⟩, hd⟩⟩⟩
  have e3 := cn_or_and (fun i => mustP m p i ∧ within p.length (wantD m p) (fun j => (j : Int) ∈ lst p.length fun j => (j : Int) ∈ S ∧ ¬ W j) i) (fun i => (mustP m p i ∧ within p.length (wantD m p) (fun j => (j : Int) ∈ S) i) ∧ ∃ j, (W j ∧ (j : Int) ∈ S) ∧ wantD m p i j) m.bids.length
  omega
theorem RoseC.step (hok : okMk m) (hp : OkP m p) (hR : RoseC m p) {q : List Int} (hq : stepV m p = some q) : RoseC m q := by
  obtain ⟨r, hr⟩ := few_ex (grV m p) p.length (mustV m p)
  unfold stepV at hq
  rw [hr.eq] at hq
  cases r with
  | none => cases hq
  | some S =>
    have hs := step_facts hok hp hr
    cases hq
    rintro W hW ⟨j0, hj0⟩
    show cn (raise p S (minV (farL m p S (mustV m p)))).length W < cn m.bids.length (fun i => ∃ j, W j ∧ wantD m (raise p S (minV (farL m p S (mustV m p)))) i j)
    rw [raise_len]
    have hWl : ∀ j, W j → j < p.length := fun j hj => by
      obtain ⟨_, _, _, hz, _⟩ := hW j hj
      have := lt_of_get hz
      simpa using this
    have eW := cn_or_and (fun j => W j ∧ (j : Int) ∈ S) (fun j => W j ∧ ¬ (j : Int) ∈ S) p.length
    rw [cn_none (P := fun j => (W j ∧ (j : Int) ∈ S) ∧ (W j ∧ ¬ (j : Int) ∈ S)) fun j _ h => h.2.2 h.1.2] at eW
    have eW2 : cn p.length (fun j => (W j ∧ (j : Int) ∈ S) ∨ (W j ∧ ¬ (j : Int) ∈ S)) = cn p.length W := cn_congr fun j _ => by
      constructor
      · rintro (h | h)
        · exact h.1
        · exact h.1
      · intro h
        by_cases hw : (j : Int) ∈ S
        · exact .inl ⟨h, hw⟩
        · exact .inr ⟨h, hw⟩
    have eN := cn_or_and (fun i => (mustP m p i ∧ within p.length (wantD m p) (fun j => (j : Int) ∈ S) i) ∧ ∃ j, (W j ∧ (j : Int) ∈ S) ∧ wantD m p i j) (fun i => ∃ j, (W j ∧ ¬ (j : Int) ∈ S) ∧ wantD m p i j) m.bids.length
    rw [cn_none (P := fun i => ((mustP m p i ∧ within p.length (wantD m p) (fun j => (j : Int) ∈ S) i) ∧ ∃ j, (W j ∧ (j : Int) ∈ S) ∧ wantD m p i j) ∧ ∃ j, (W j ∧ ¬ (j : Int) ∈ S) ∧ wantD m p i j) fun i _ h => by
      obtain ⟨j, ⟨hj, hjS⟩, hd⟩ := h.2
      exact hjS (h.1.1.2 j (hWl j hj) hd)] at eN
    have hN := cn_imp (n := m.bids.length) (P := fun i => ((mustP m p i ∧ within p.length (wantD m p) (fun j => (j : Int) ∈ S) i) ∧ ∃ j, (W j ∧ (j : Int) ∈ S) ∧ wantD m p i j) ∨ ∃ j, (W j ∧ ¬ (j : Int) ∈ S) ∧ wantD m p i j)
      (Q := fun i => ∃ j, W j ∧ wantD m (raise p S (minV (farL m p S (mustV m p)))) i j) fun i hi h => by
        rcases h with ⟨h1, j, hj, hd⟩ | ⟨j, hj, hd⟩
        · exact ⟨j, hj.1, want_in hs hi h1.1 h1.2 hd⟩
        · exact ⟨j, hj.1, want_out hs hj.2 hd⟩
    have h2 : (∃ j, W j ∧ ¬ (j : Int) ∈ S) → cn p.length (fun j => W j ∧ ¬ (j : Int) ∈ S) < cn m.bids.length (fun i => ∃ j, (W j ∧ ¬ (j : Int) ∈ S) ∧ wantD m p i j) := fun h =>
      hR (fun j => W j ∧ ¬ (j : Int) ∈ S) (fun j hj => rose_out hj.2 (hW j hj.1)) h
    have h2' : ¬ (∃ j, W j ∧ ¬ (j : Int) ∈ S) → cn p.length (fun j => W j ∧ ¬ (j : Int) ∈ S) = 0 := fun h => cn_none fun j _ hj => h ⟨j, hj⟩
    have h1' : ¬ (∃ j, W j ∧ (j : Int) ∈ S) → cn p.length (fun j => W j ∧ (j : Int) ∈ S) = 0 := fun h => cn_none fun j _ hj => h ⟨j, hj⟩
    by_cases c1 : ∃ j, W j ∧ (j : Int) ∈ S
    · have h1 := few_part hr W hWl c1
      by_cases c2 : ∃ j, W j ∧ ¬ (j : Int) ∈ S
      · have := h2 c2; omega
      · have := h2' c2; omega
    · have := h1' c1
      have := h2 (by
        refine ⟨j0, hj0, fun h => c1 ⟨j0, hj0, h⟩⟩)
      omega
theorem it_rose (hok : okMk m) : ∀ (n : Nat) (p : List Int), itV m n = some p → RoseC m p
  | 0, p, h => by cases h; exact RoseC.first m
  | n + 1, p, h => by
    simp only [itV] at h
    cases hn : itV m n with
    | none => rw [hn] at h; cases h
    | some q =>
      rw [hn] at h
      exact (it_rose hok n q hn).step hok (it_ok hok n q hn).1 h
theorem least_rose (hok : okMk m) : RoseC m (leastV m) := it_rose hok _ _ (end_spec hok).1
end step
end Go.Sl
