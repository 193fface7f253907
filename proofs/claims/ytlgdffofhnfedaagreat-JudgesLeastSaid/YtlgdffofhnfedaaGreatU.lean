/- Prices that rise, plainly. No program in sight. -/
import Derived.Test.YtlgdffofhnfedaaGreatY
import Derived.Test.YtlgdffofhnfedaaGreatX12
set_option linter.unusedVariables false
set_option linter.unusedSimpArgs false
namespace Go.Sl
def grV (m : Mk) (p : List Int) : List (List Int) := m.bids.map fun b => if topV b p = 0 then [] else topsV b p
def mustTo (m : Mk) (p : List Int) (k : Nat) : List Int := ((List.range k).filter (fun i => decide (¬ topV (m.bids.getD i []) p = 0))).map (fun i : Nat => (i : Int))
def mustV (m : Mk) (p : List Int) : List Int := mustTo m p m.bids.length
theorem mustTo_succ (m : Mk) (p : List Int) (k : Nat) : mustTo m p (k + 1) = if topV (m.bids.getD k []) p = 0 then mustTo m p k else mustTo m p k ++ [(k : Int)] := by
  unfold mustTo
  rw [List.range_succ, List.filter_append]
  by_cases h : topV (m.bids.getD k []) p = 0
  · rw [if_pos h, List.filter_cons_of_neg (by rw [decide_eq_true_iff]; exact fun hn => hn h), List.filter_nil, List.append_nil]
  · rw [if_neg h, List.filter_cons_of_pos (by rw [decide_eq_true_iff]; exact h), List.filter_nil, List.map_append]; rfl
theorem mustTo_len (m : Mk) (p : List Int) (k : Nat) : (mustTo m p k).length ≤ k := by
  unfold mustTo
  rw [List.length_map]
  exact Nat.le_trans (List.length_filter_le _ _) (by simp)
theorem must_mem {m : Mk} {p : List Int} {k : Nat} {x : Int} : x ∈ mustTo m p k ↔ ∃ i : Nat, i < k ∧ x = i ∧ ¬ topV (m.bids.getD i []) p = 0 := by
  simp only [mustTo, List.mem_map, List.mem_filter, List.mem_range, decide_eq_true_eq]
  constructor
  · rintro ⟨i, ⟨h1, h2⟩, rfl⟩; exact ⟨i, h1, rfl, h2⟩
  · rintro ⟨i, h1, rfl, h2⟩; exact ⟨i, ⟨h1, h2⟩, rfl⟩
theorem must_isR (m : Mk) (p : List Int) : isR (mustV m p) m.bids.length := by
  refine ⟨fun x hx => ?_, ?_⟩
  · obtain ⟨i, hi, rfl, _⟩ := must_mem.1 hx
    omega
  · unfold mustV mustTo
    rw [List.pairwise_map]
    exact List.Pairwise.imp (fun {a b} h => by omega) (List.pairwise_lt_range.filter _)
@[simp] theorem grV_len (m : Mk) (p : List Int) : (grV m p).length = m.bids.length := by simp [grV]
theorem grV_get {m : Mk} {p b : List Int} {i : Nat} (hb : m.bids[i]? = some b) : (grV m p)[i]? = some (if topV b p = 0 then [] else topsV b p) := by simp [grV, hb]
def farI (b p set : List Int) : List Int := topV b p :: ((List.range p.length).filter (fun j : Nat => decide (¬ (j : Int) ∈ set))).map (fun j : Nat => topV b p - (b.getD j 0 - p.getD j 0))
def inB' (g : List (List Int)) (set : List Int) (i : Int) : Bool := (g.getD i.toNat []).all fun k => decide (k ∈ set)
def farL (m : Mk) (p set : List Int) (is : List Int) : List Int := is.flatMap fun i => if inB' (grV m p) set i = true then farI (m.bids.getD i.toNat []) p set else []
def IsMin (l : List Int) (x : Int) : Prop := x ∈ l ∧ ∀ y ∈ l, x ≤ y
theorem IsMin.uniq {l : List Int} {x y : Int} (h : IsMin l x) (h' : IsMin l y) : x = y := by
  have := h.2 y h'.1; have := h'.2 x h.1; omega
theorem isMin_of : ∀ {l : List Int}, l ≠ [] → ∃ x, IsMin l x
  | [], h => absurd rfl h
  | x :: xs, _ => by
    by_cases e : xs = []
    · subst e; exact ⟨x, List.mem_cons_self, fun y hy => by rcases List.mem_cons.1 hy with rfl | hy; exact Int.le_refl _; cases hy⟩
    · obtain ⟨y, hy, hm⟩ := isMin_of e
      by_cases h : x ≤ y
      · exact ⟨x, List.mem_cons_self, fun z hz => by
          rcases List.mem_cons.1 hz with rfl | hz
          · exact Int.le_refl _
          · have := hm z hz; omega⟩
      · exact ⟨y, List.mem_cons_of_mem _ hy, fun z hz => by
          rcases List.mem_cons.1 hz with rfl | hz
          · omega
          · exact hm z hz⟩
open Classical in
noncomputable def minV (l : List Int) : Int := if h : ∃ x, IsMin l x then Classical.choose h else 0
theorem IsMin.eq {l : List Int} {x : Int} (h : IsMin l x) : minV l = x := by
  have hex : ∃ x, IsMin l x := ⟨x, h⟩
  unfold minV
  rw [dif_pos hex]
  exact (Classical.choose_spec hex).uniq h
theorem minV_spec {l : List Int} (h : l ≠ []) : IsMin l (minV l) := by
  obtain ⟨x, hx⟩ := isMin_of h
  rw [hx.eq]; exact hx
def raise (p set : List Int) (x : Int) : List Int := tab p.length fun j => if (j : Int) ∈ set then p.getD j 0 + x else p.getD j 0
@[simp] theorem raise_len (p set : List Int) (x : Int) : (raise p set x).length = p.length := by simp [raise]
theorem raise_get {p set : List Int} {x y : Int} {j : Nat} (h : p[j]? = some y) : (raise p set x)[j]? = some (if (j : Int) ∈ set then y + x else y) := by
  unfold raise
  rw [tab_get (lt_of_get h), List.getD_eq_getElem?_getD, h]; rfl
noncomputable def stepV (m : Mk) (p : List Int) : Option (List Int) := (fewV (grV m p) p.length (mustV m p)).map fun set => raise p set (minV (farL m p set (mustV m p)))
def OkP (m : Mk) (p : List Int) : Prop := p.length = m.res.length ∧ ∀ (j : Nat) (x : Int), p[j]? = some x → (∃ r, m.res[j]? = some r ∧ r ≤ x) ∧ 0 ≤ x ∧ x ≤ 1000000
theorem OkP.res {m : Mk} (h : okMk m) : OkP m m.res := ⟨rfl, fun j x hx => ⟨⟨x, hx, Int.le_refl _⟩, h.1.2.2.2 x (mem_of_get hx)⟩⟩
theorem OkP.pr {m : Mk} {p : List Int} (hm : okMk m) (h : OkP m p) : okPr p :=
  ⟨by have := hm.1.1; have := h.1; omega, by have := hm.1.2.1; have := h.1; omega, fun x hx => by
    obtain ⟨j, hj, rfl⟩ := List.getElem_of_mem hx
    have := (h.2 j _ (List.getElem?_eq_getElem hj)).2
    omega⟩
theorem topV_ge {b p : List Int} {j : Nat} {x z : Int} (hx : b[j]? = some x) (hz : p[j]? = some z) : x - z ≤ topV b p := by
  have hd : (diffs b p)[j]? = some (x - z) := by unfold diffs; rw [List.getElem?_zipWith, hx, hz]
  unfold topV
  rw [← topP_full]
  exact topP_ge (lt_of_get hd) hd
theorem tops_mem {b p : List Int} {k : Int} : k ∈ topsV b p ↔ ∃ (j : Nat) (x z : Int), k = j ∧ b[j]? = some x ∧ p[j]? = some z ∧ x - z = topV b p := by
  unfold topsV topsP
  rw [topP_full]
  simp only [List.mem_map, List.mem_filter, List.mem_range, beq_iff_eq]
  constructor
  · rintro ⟨j, ⟨hj, he⟩, rfl⟩
    obtain ⟨d, hd⟩ := get_of hj
    have hd' := hd
    unfold diffs at hd
    rw [List.getElem?_zipWith] at hd
    cases hb : b[j]? with
    | none => simp [hb] at hd
    | some x =>
      cases hp : p[j]? with
      | none => simp [hb, hp] at hd
      | some z =>
        simp [hb, hp] at hd
        refine ⟨j, x, z, rfl, hb, hp, ?_⟩
        rw [List.getD_eq_getElem?_getD, hd'] at he
        rw [hd]; exact he
  · rintro ⟨j, x, z, rfl, hx, hz, he⟩
    have hd : (diffs b p)[j]? = some (x - z) := by unfold diffs; rw [List.getElem?_zipWith, hx, hz]
    exact ⟨j, ⟨lt_of_get hd, by rw [List.getD_eq_getElem?_getD, hd]; exact he⟩, rfl⟩
theorem topV_nonneg (b p : List Int) : 0 ≤ topV b p := by
  unfold topV
  have := topP_succ (ds := 0 :: diffs b p) (k := 0) (x := 0) rfl
  have gen : ∀ (l : List Int) (a : Int), a ≤ maxL a l := by
    intro l
    induction l with
    | nil => intro a; exact Int.le_refl _
    | cons x xs ih => intro a; exact Int.le_trans (by omega) (ih (max a x))
  exact gen _ _
theorem tops_some {b p : List Int} (h : topV b p ≠ 0) : ∃ k, k ∈ topsV b p := by
  have gen : ∀ (l : List Int) (a : Int), maxL a l = a ∨ maxL a l ∈ l := by
    intro l
    induction l with
    | nil => intro a; exact .inl rfl
    | cons x xs ih =>
      intro a
      rcases ih (max a x) with h | h
      · have hu : maxL a (x :: xs) = maxL (max a x) xs := rfl
        rw [hu, h]
        by_cases e : a ≤ x
        · right; rw [show max a x = x by omega]; exact List.mem_cons_self
        · left; omega
      · right; exact List.mem_cons_of_mem _ h
  rcases gen (diffs b p) 0 with e | e
  · exact absurd e h
  · obtain ⟨j, hj, he⟩ := List.getElem_of_mem e
    have hd := List.getElem?_eq_getElem hj
    rw [he] at hd
    unfold diffs at hd
    rw [List.getElem?_zipWith] at hd
    cases hb : b[j]? with
    | none => simp [hb] at hd
    | some x =>
      cases hp : p[j]? with
      | none => simp [hb, hp] at hd
      | some z =>
        simp [hb, hp] at hd
        exact ⟨j, tops_mem.2 ⟨j, x, z, rfl, hb, hp, hd⟩⟩
def sumL (l : List Int) : Int := l.foldr (· + ·) 0
theorem sumL_le {a b : List Int} : ∀ (_ : a.length = b.length) (_ : ∀ (j : Nat) (x y : Int), a[j]? = some x → b[j]? = some y → x ≤ y), sumL a ≤ sumL b := by
  induction a generalizing b with
  | nil => intro h _; cases b with | nil => exact Int.le_refl _ | cons => simp at h
  | cons x xs ih =>
    intro h hl
    cases b with
    | nil => simp at h
    | cons y ys =>
      have := ih (b := ys) (by simpa using h) (fun j u v hu hv => hl (j + 1) u v (by simpa using hu) (by simpa using hv))
      have := hl 0 x y rfl rfl
      simp only [sumL, List.foldr_cons] at *
      omega
theorem sumL_lt {a b : List Int} : ∀ (_ : a.length = b.length) (_ : ∀ (j : Nat) (x y : Int), a[j]? = some x → b[j]? = some y → x ≤ y) (_ : ∃ (j : Nat) (x y : Int), a[j]? = some x ∧ b[j]? = some y ∧ x < y), sumL a < sumL b := by
  induction a generalizing b with
  | nil => rintro h _ ⟨j, x, y, hx, _⟩; simp at hx
  | cons x xs ih =>
    rintro h hl ⟨j, u, v, hu, hv, hlt⟩
    cases b with
    | nil => simp at h
    | cons y ys =>
      have hlen : xs.length = ys.length := by simpa using h
      have hl' : ∀ (j : Nat) (u v : Int), xs[j]? = some u → ys[j]? = some v → u ≤ v := fun j u v hu hv => hl (j + 1) u v (by simpa using hu) (by simpa using hv)
      have h0 := hl 0 x y rfl rfl
      simp only [sumL, List.foldr_cons]
      cases j with
      | zero =>
        simp at hu hv
        have := sumL_le hlen hl'
        simp only [sumL] at this
        omega
      | succ j =>
        have := ih hlen hl' ⟨j, u, v, by simpa using hu, by simpa using hv, hlt⟩
        simp only [sumL] at this
        omega
section step
variable {m : Mk} {p set : List Int}
structure Sp (m : Mk) (p set : List Int) : Prop where
  min : IsMin (farL m p set (mustV m p)) (minV (farL m p set (mustV m p)))
  pos : 1 ≤ minV (farL m p set (mustV m p))
  want : ∀ k ∈ set, ∃ (j : Nat) (z : Int), k = j ∧ p[j]? = some z ∧ z + minV (farL m p set (mustV m p)) ≤ 1000000
  ne : set ≠ []
  all : ∀ y ∈ farL m p set (mustV m p), 1 ≤ y ∧ y ≤ 3000000
theorem bid_of (hok : okMk m) {i : Nat} {b : List Int} (hb : m.bids[i]? = some b) (ht : topV b p ≠ 0) : b.length = m.res.length ∧ ∀ x ∈ b, 0 ≤ x ∧ x ≤ 1000000 := by
  have hne : b ≠ [] := by
    rintro rfl
    exact ht (by simp [topV, diffs, maxL])
  have := hok.2.2.2 b (mem_of_get hb)
  have hv : okVec b m.res.length := Decidable.of_not_not fun hn => this ⟨List.length_pos_iff.2 hne, hn⟩
  exact ⟨by have := hv.2.2.1; omega, hv.2.2.2⟩
theorem within_mem {g : List (List Int)} {sm l : List Int} {i : Int} : i ∈ (sm.filter fun i => (g.getD i.toNat []).all fun k => decide (k ∈ l)) ↔ i ∈ sm ∧ inB' g l i = true := by
  rw [List.mem_filter]; exact Iff.rfl
theorem step_facts (hok : okMk m) (hp : OkP m p) (hf : IsFew (grV m p) p.length (mustV m p) (some set)) : Sp m p set := by
  obtain ⟨hr, ht, hmin⟩ := hf
  have hpl := hp.1
  -- someone wants nothing else
  have hex : ∀ l : List Int, l.length < withinV (grV m p) (mustV m p) l → ∃ i, i ∈ mustV m p ∧ inB' (grV m p) l i = true := by
    intro l hl
    unfold withinV at hl
    cases hw : ((mustV m p).filter fun i => ((grV m p).getD i.toNat []).all fun k => decide (k ∈ l)) with
    | nil => rw [hw] at hl; simp at hl
    | cons i is => exact ⟨i, within_mem.1 (by rw [hw]; exact List.mem_cons_self)⟩
  have hall : ∀ y ∈ farL m p set (mustV m p), 1 ≤ y ∧ y ≤ 3000000 := by
    intro y hy
    unfold farL at hy
    obtain ⟨i, hi, hy⟩ := List.mem_flatMap.1 hy
    split at hy
    · rename_i hin
      obtain ⟨n, hn, rfl, htop⟩ := must_mem.1 hi
      obtain ⟨b, hb⟩ := get_of hn
      rw [List.getD_eq_getElem?_getD, hb] at htop
      simp only [Int.toNat_natCast] at hy hin
      rw [List.getD_eq_getElem?_getD, hb] at hy
      have htop' : topV b p ≠ 0 := htop
      obtain ⟨hbl, hbb⟩ := bid_of hok hb htop'
      have h0 := topV_nonneg b p
      have hle : topV b p ≤ 1000000 := by
        obtain ⟨k, hk⟩ := tops_some htop'
        obtain ⟨j, x, z, rfl, hx, hz, e⟩ := tops_mem.1 hk
        have := (hp.2 j z hz).2
        have := hbb x (mem_of_get hx)
        omega
      simp only [farI, Option.getD_some, List.mem_cons, List.mem_map, List.mem_filter, List.mem_range, decide_eq_true_eq] at hy
      rcases hy with rfl | ⟨j, ⟨hj, hns⟩, rfl⟩
      · omega
      · obtain ⟨z, hz⟩ := get_of hj
        obtain ⟨x, hx⟩ := get_of (xs := b) (k := j) (by omega)
        rw [List.getD_eq_getElem?_getD, List.getD_eq_getElem?_getD, hx, hz]
        simp only [Option.getD_some]
        have hge := topV_ge hx hz
        have hne : x - z ≠ topV b p := by
          intro e
          have hmem : (j : Int) ∈ topsV b p := tops_mem.2 ⟨j, x, z, rfl, hx, hz, e⟩
          simp only [inB', List.all_eq_true, decide_eq_true_eq, Int.toNat_natCast] at hin
          rw [List.getD_eq_getElem?_getD, grV_get hb] at hin
          simp only [Option.getD_some, if_neg htop'] at hin
          exact hns (hin _ hmem)
        have := (hp.2 j z hz).2
        have := hbb x (mem_of_get hx)
        omega
    · cases hy
  have hfar : farL m p set (mustV m p) ≠ [] := by
    obtain ⟨i, hi, hin⟩ := hex set ht
    intro e
    have : topV (m.bids.getD i.toNat []) p ∈ farL m p set (mustV m p) := by
      unfold farL
      refine List.mem_flatMap.2 ⟨i, hi, ?_⟩
      rw [if_pos hin]
      exact List.mem_cons_self
    rw [e] at this; cases this
  have hM := minV_spec hfar
  have hpos := (hall _ hM.1).1
  refine ⟨hM, hpos, fun k hk => ?_, ?_, hall⟩
  · have hkb := hr.1 k hk
    -- the set without k
    have hlen : (set.erase k).length = set.length - 1 := List.length_erase_of_mem hk
    have hlp := List.length_pos_of_mem hk
    have hsub : isR (set.erase k) p.length := ⟨fun x hx => hr.1 x (List.mem_of_mem_erase hx), hr.2.sublist List.erase_sublist⟩
    have hw : ∃ i, i ∈ mustV m p ∧ inB' (grV m p) set i = true ∧ k ∈ (grV m p).getD i.toNat [] := by
      refine Classical.byContradiction fun hno => ?_
      have hle : withinV (grV m p) (mustV m p) set ≤ withinV (grV m p) (mustV m p) (set.erase k) := by
        unfold withinV
        refine nodup_len (List.Nodup.sublist List.filter_sublist (isR_nodup (must_isR m p))) fun i hi => ?_
        obtain ⟨hi1, hi2⟩ := within_mem.1 hi
        refine within_mem.2 ⟨hi1, ?_⟩
        simp only [inB', List.all_eq_true, decide_eq_true_eq] at hi2 ⊢
        intro x hx
        have hxk : x ≠ k := by
          rintro rfl
          exact hno ⟨i, hi1, by simp only [inB', List.all_eq_true, decide_eq_true_eq]; exact hi2, hx⟩
        exact (List.mem_erase_of_ne hxk).2 (hi2 x hx)
      have ht' : tooMany (grV m p) (mustV m p) (set.erase k) := by
        unfold tooMany at ht ⊢
        omega
      rcases hmin _ hsub ht' with e | e
      · rw [e] at hlen; omega
      · rcases e with e | ⟨e, _⟩ <;> omega
    obtain ⟨i, hi, hin, hki⟩ := hw
    obtain ⟨n, hn, rfl, htop⟩ := must_mem.1 hi
    obtain ⟨b, hb⟩ := get_of hn
    rw [List.getD_eq_getElem?_getD, hb] at htop
    simp only [Option.getD_some] at htop
    rw [Int.toNat_natCast, List.getD_eq_getElem?_getD, grV_get hb] at hki
    simp only [Option.getD_some, if_neg htop] at hki
    obtain ⟨j, x, z, rfl, hx, hz, e⟩ := tops_mem.1 hki
    refine ⟨j, z, rfl, hz, ?_⟩
    have hmem : topV b p ∈ farL m p set (mustV m p) := by
      unfold farL
      refine List.mem_flatMap.2 ⟨(n : Int), hi, ?_⟩
      rw [if_pos hin, Int.toNat_natCast, List.getD_eq_getElem?_getD, hb]
      exact List.mem_cons_self
    have := hM.2 _ hmem
    have := (bid_of hok hb htop).2 x (mem_of_get hx)
    omega
  · rintro rfl
    obtain ⟨i, hi, hin⟩ := hex [] ht
    obtain ⟨n, hn, rfl, htop⟩ := must_mem.1 hi
    obtain ⟨b, hb⟩ := get_of hn
    rw [List.getD_eq_getElem?_getD, hb] at htop
    simp only [Option.getD_some] at htop
    obtain ⟨k, hk⟩ := tops_some htop
    simp only [inB', List.all_eq_true, decide_eq_true_eq, Int.toNat_natCast] at hin
    rw [List.getD_eq_getElem?_getD, grV_get hb] at hin
    simp only [Option.getD_some, if_neg htop] at hin
    exact absurd (hin k hk) (by simp)
theorem step_ok (hok : okMk m) (hp : OkP m p) {r : Option (List Int)} (hf : IsFew (grV m p) p.length (mustV m p) r) {q : List Int} (hq : stepV m p = some q) : OkP m q ∧ sumL p < sumL q := by
  unfold stepV at hq
  rw [hf.eq] at hq
  cases r with
  | none => cases hq
  | some set =>
    have S := step_facts hok hp hf
    simp only [Option.map_some, Option.some.injEq] at hq
    subst hq
    refine ⟨⟨by rw [raise_len]; exact hp.1, fun j x hx => ?_⟩, sumL_lt (by simp) (fun j x y hx hy => ?_) ?_⟩
    · have hj : j < p.length := by have := lt_of_get hx; rwa [raise_len] at this
      obtain ⟨z, hz⟩ := get_of hj
      rw [raise_get hz] at hx
      simp only [Option.some.injEq] at hx
      obtain ⟨⟨r, hr, hrz⟩, h0, h1⟩ := hp.2 j z hz
      have hpos := S.pos
      by_cases hs : (j : Int) ∈ set
      · rw [if_pos hs] at hx
        obtain ⟨j', z', e, hz', hle⟩ := S.want _ hs
        obtain rfl : j = j' := by omega
        rw [hz] at hz'
        cases hz'
        exact ⟨⟨r, hr, by omega⟩, by omega, by omega⟩
      · rw [if_neg hs] at hx
        exact ⟨⟨r, hr, by omega⟩, by omega, by omega⟩
    · rw [raise_get hx] at hy
      simp only [Option.some.injEq] at hy
      have hpos := S.pos
      split at hy <;> omega
    · obtain ⟨k, hk⟩ := List.exists_mem_of_ne_nil _ S.ne
      obtain ⟨j, z, rfl, hz, _⟩ := S.want k hk
      refine ⟨j, z, _, hz, raise_get hz, ?_⟩
      rw [if_pos hk]
      have := S.pos
      omega
end step
noncomputable def itV (m : Mk) : Nat → Option (List Int)
  | 0 => some m.res
  | n + 1 => (itV m n).bind (stepV m)
theorem few_ex (g : List (List Int)) (items : Nat) (sm : List Int) : ∃ r, IsFew g items sm r := by
  have : ∀ n, ∃ best found, BestTo g items sm n best found := by
    intro n
    induction n with
    | zero => exact ⟨_, _, BestTo.zero g items sm⟩
    | succ n ih =>
      obtain ⟨best, found, h⟩ := ih
      by_cases hc : tooMany g sm (maskL items n) ∧ (found = true → before (maskL items n) best)
      · exact ⟨_, _, h.take hc.1 hc.2⟩
      · refine ⟨_, _, h.leave fun ht => ?_⟩
        cases found with
        | false => exact absurd ⟨ht, fun h => by cases h⟩ hc
        | true => exact ⟨rfl, fun hb => hc ⟨ht, fun _ => hb⟩⟩
  obtain ⟨best, found, h⟩ := this (2 ^ items)
  exact ⟨_, h.few⟩
theorem it_ok {m : Mk} (hok : okMk m) : ∀ (n : Nat) (p : List Int), itV m n = some p → OkP m p ∧ (n : Int) ≤ sumL p
  | 0, p, h => by
    cases h
    refine ⟨OkP.res hok, ?_⟩
    have gen : ∀ l : List Int, (∀ x ∈ l, 0 ≤ x) → 0 ≤ sumL l := by
      intro l
      induction l with
      | nil => intro _; exact Int.le_refl _
      | cons x xs ih =>
        intro h
        have := ih fun y hy => h y (List.mem_cons_of_mem _ hy)
        have := h x List.mem_cons_self
        simp only [sumL, List.foldr_cons] at *
        omega
    exact gen _ fun x hx => (hok.1.2.2.2 x hx).1
  | n + 1, p, h => by
    simp only [itV] at h
    cases hn : itV m n with
    | none => rw [hn] at h; cases h
    | some q =>
      rw [hn] at h
      obtain ⟨h1, h2⟩ := it_ok hok n q hn
      obtain ⟨r, hr⟩ := few_ex (grV m q) q.length (mustV m q)
      obtain ⟨h3, h4⟩ := step_ok hok h1 hr h
      exact ⟨h3, by omega⟩
theorem it_bound {m : Mk} {p : List Int} (hok : okMk m) (hp : OkP m p) : sumL p ≤ 8000000 := by
  have gen : ∀ l : List Int, (∀ x ∈ l, x ≤ 1000000) → sumL l ≤ 1000000 * l.length := by
    intro l
    induction l with
    | nil => intro _; simp [sumL]
    | cons x xs ih =>
      intro h
      have := ih fun y hy => h y (List.mem_cons_of_mem _ hy)
      have := h x List.mem_cons_self
      simp only [sumL, List.foldr_cons, List.length_cons] at *
      omega
  have h1 := gen p fun x hx => by
    obtain ⟨j, hj, rfl⟩ := List.getElem_of_mem hx
    exact (hp.2 j _ (List.getElem?_eq_getElem hj)).2.2
  have := hp.1
  have := hok.1.2.1
  omega
theorem it_ends {m : Mk} (hok : okMk m) : ∃ N p, itV m N = some p ∧ stepV m p = none := by
  refine Classical.byContradiction fun hno => ?_
  have hall : ∀ n, ∃ p, itV m n = some p := by
    intro n
    induction n with
    | zero => exact ⟨_, rfl⟩
    | succ n ih =>
      obtain ⟨p, hp⟩ := ih
      cases hs : stepV m p with
      | none => exact absurd ⟨n, p, hp, hs⟩ hno
      | some q => exact ⟨q, by simp only [itV, hp]; exact hs⟩
  obtain ⟨p, hp⟩ := hall 8000001
  obtain ⟨h1, h2⟩ := it_ok hok _ _ hp
  have := it_bound hok h1
  omega
open Classical in
noncomputable def endN (m : Mk) : Nat := if h : ∃ N p, itV m N = some p ∧ stepV m p = none then Classical.choose h else 0
noncomputable def leastV (m : Mk) : List Int := (itV m (endN m)).getD []
theorem end_spec {m : Mk} (hok : okMk m) : itV m (endN m) = some (leastV m) ∧ stepV m (leastV m) = none := by
  have hex := it_ends hok
  have h : ∃ p, itV m (endN m) = some p ∧ stepV m p = none := by
    unfold endN
    rw [dif_pos hex]
    exact Classical.choose_spec hex
  obtain ⟨p, h1, h2⟩ := h
  have : leastV m = p := by unfold leastV; rw [h1]; rfl
  rw [this]
  exact ⟨h1, h2⟩
theorem it_before {m : Mk} {p q : List Int} : ∀ (d n : Nat), itV m (n + d) = some p → ∃ q, itV m n = some q
  | 0, n, h => ⟨p, h⟩
  | d + 1, n, h => by
    have h' : (itV m (n + d)).bind (stepV m) = some p := h
    cases hn : itV m (n + d) with
    | none => rw [hn] at h'; cases h'
    | some q' => exact it_before (p := q') (q := q) d n hn
theorem it_step {m : Mk} (hok : okMk m) {n : Nat} {p : List Int} (hn : n ≤ endN m) (hp : itV m n = some p) : (stepV m p = none ↔ n = endN m) := by
  obtain ⟨h1, h2⟩ := end_spec hok
  constructor
  · intro hs
    refine Classical.byContradiction fun hne => ?_
    obtain ⟨q, hq⟩ := it_before (q := []) (endN m - (n + 1)) (n + 1) (by rw [show n + 1 + (endN m - (n + 1)) = endN m by omega]; exact h1)
    simp only [itV, hp, Option.bind_some, hs] at hq
    cases hq
  · rintro rfl
    rw [hp] at h1
    cases h1
    exact h2
def grTo (m : Mk) (p : List Int) (k : Nat) : List (List Int) := tab m.bids.length fun i => if i < k ∧ topV (m.bids.getD i []) p = 0 then [] else topsV (m.bids.getD i []) p
theorem getD_of {α : Type} {xs : List α} {k : Nat} {x d : α} (h : xs[k]? = some x) : xs.getD k d = x := by rw [List.getD_eq_getElem?_getD, h]; rfl
theorem tab_getD {α : Type} (xs : List α) (d : α) : xs = tab xs.length (fun i => xs.getD i d) := by
  apply List.ext_getElem?
  intro i
  by_cases h : i < xs.length
  · rw [tab_get h, List.getElem?_eq_getElem h, getD_of (List.getElem?_eq_getElem h)]
  · rw [List.getElem?_eq_none (by omega), List.getElem?_eq_none (by simp; omega)]
theorem grTo_zero (m : Mk) (p : List Int) : grTo m p 0 = m.bids.map (fun b => topsV b p) := by
  conv => rhs; rw [tab_getD m.bids []]
  rw [tab_map]
  unfold grTo
  refine tab_congr fun i hi => ?_
  simp
theorem grTo_full (m : Mk) (p : List Int) : grTo m p m.bids.length = grV m p := by
  unfold grV
  conv => rhs; rw [tab_getD m.bids []]
  rw [tab_map]
  unfold grTo
  refine tab_congr fun i hi => ?_
  simp [hi]
theorem grTo_step {m : Mk} {p b : List Int} {k : Nat} (hb : m.bids[k]? = some b) : grTo m p (k + 1) = if topV b p = 0 then (grTo m p k).set k [] else grTo m p k := by
  have hg : m.bids.getD k [] = b := getD_of hb
  by_cases h : topV b p = 0
  · rw [if_pos h]
    unfold grTo
    rw [tab_set]
    refine tab_congr fun i hi => ?_
    unfold upd
    by_cases e : i = k
    · subst e; rw [if_pos rfl, if_pos ⟨by omega, by rw [hg]; exact h⟩]
    · rw [if_neg e]
      have : (i < k + 1 ∧ topV (m.bids.getD i []) p = 0) ↔ (i < k ∧ topV (m.bids.getD i []) p = 0) := ⟨fun h => ⟨by omega, h.2⟩, fun h => ⟨by omega, h.2⟩⟩
      simp only [this]
  · rw [if_neg h]
    unfold grTo
    refine tab_congr fun i hi => ?_
    by_cases e : i = k
    · subst e; rw [if_neg (by rw [hg]; exact fun h' => h h'.2), if_neg (fun h' => by omega)]
    · have : (i < k + 1 ∧ topV (m.bids.getD i []) p = 0) ↔ (i < k ∧ topV (m.bids.getD i []) p = 0) := ⟨fun h => ⟨by omega, h.2⟩, fun h => ⟨by omega, h.2⟩⟩
      simp only [this]
theorem farL_step {m : Mk} {p set is : List Int} {k : Nat} {i : Int} (h : is[k]? = some i) : farL m p set (is.take (k + 1)) = farL m p set (is.take k) ++ (if inB' (grV m p) set i = true then farI (m.bids.getD i.toNat []) p set else []) := by
  unfold farL
  rw [take_step h, List.flatMap_append]
  simp
def farTo (b p set : List Int) (j : Nat) : List Int := topV b p :: ((List.range j).filter (fun j : Nat => decide (¬ (j : Int) ∈ set))).map (fun j : Nat => topV b p - (b.getD j 0 - p.getD j 0))
theorem farTo_full (b p set : List Int) : farTo b p set p.length = farI b p set := rfl
theorem farTo_step {b p set : List Int} {j : Nat} {x z : Int} (hx : b[j]? = some x) (hz : p[j]? = some z) : farTo b p set (j + 1) = if (j : Int) ∈ set then farTo b p set j else farTo b p set j ++ [topV b p - (x - z)] := by
  unfold farTo
  rw [List.range_succ, List.filter_append]
  by_cases h : (j : Int) ∈ set
  · rw [if_pos h, List.filter_cons_of_neg (by rw [decide_eq_true_iff]; exact fun h' => h' h), List.filter_nil, List.append_nil]
  · rw [if_neg h, List.filter_cons_of_pos (by rw [decide_eq_true_iff]; exact h), List.filter_nil, List.map_append]
    simp only [List.map_cons, List.map_nil, getD_of hx, getD_of hz]
    rfl
theorem farTo_len (b p set : List Int) (j : Nat) : (farTo b p set j).length ≤ j + 1 := by
  unfold farTo
  rw [List.length_cons, List.length_map]
  have := List.length_filter_le (fun j : Nat => decide (¬ (j : Int) ∈ set)) (List.range j)
  rw [List.length_range] at this
  omega
theorem farL_len (m : Mk) (p set : List Int) : ∀ is : List Int, (farL m p set is).length ≤ is.length * (p.length + 1)
  | [] => by simp [farL]
  | i :: is => by
    have ih := farL_len m p set is
    unfold farL at ih ⊢
    rw [List.flatMap_cons, List.length_append, List.length_cons, Nat.succ_mul]
    have : (if inB' (grV m p) set i = true then farI (m.bids.getD i.toNat []) p set else []).length ≤ p.length + 1 := by
      split
      · exact farTo_len _ _ _ _
      · simp
    omega
theorem isMin_snoc {l : List Int} {x y : Int} (h : IsMin l x) : IsMin (l ++ [y]) (min x y) := by
  constructor
  · rw [List.mem_append, List.mem_singleton]
    rcases Int.le_total x y with e | e
    · rw [Int.min_eq_left e]; exact .inl h.1
    · rw [Int.min_eq_right e]; exact .inr rfl
  · intro z hz
    rw [List.mem_append, List.mem_singleton] at hz
    rcases hz with hz | rfl
    · have := h.2 z hz; omega
    · omega
theorem raise_step {p set : List Int} {x i : Int} {k : Nat} (hn : set.Nodup) (hi : set[k]? = some i) (h0 : 0 ≤ i) {z : Int} (hz : p[i.toNat]? = some z) : (raise p (set.take k) x)[i.toNat]? = some z ∧ raise p (set.take (k + 1)) x = (raise p (set.take k) x).set i.toNat (z + x) := by
  have hnot : ¬ i ∈ set.take k := by
    intro h
    obtain ⟨j, hj, e⟩ := List.getElem_of_mem h
    have hj' : j < k := by rw [List.length_take] at hj; omega
    have hp := List.pairwise_iff_getElem.1 hn j k (by have := (List.getElem?_eq_some_iff.1 hi).1; omega) (List.getElem?_eq_some_iff.1 hi).1 hj'
    rw [List.getElem_take] at e
    exact hp (e.trans ((List.getElem?_eq_some_iff.1 hi).2).symm)
  have hi2 : ((i.toNat : Nat) : Int) = i := by omega
  constructor
  · rw [raise_get hz, hi2, if_neg hnot]
  · unfold raise
    rw [tab_set]
    refine tab_congr fun j hj => ?_
    unfold upd
    rw [take_step hi]
    by_cases e : j = i.toNat
    · subst e
      rw [if_pos rfl, hi2, if_pos (by simp), getD_of hz]
    · rw [if_neg e]
      have : ((j : Int) ∈ set.take k ++ [i]) ↔ (j : Int) ∈ set.take k := by
        rw [List.mem_append, List.mem_singleton]
        exact ⟨fun h => h.elim id (fun h => by omega), .inl⟩
      simp only [this]
theorem raise_zero (p : List Int) (x : Int) : raise p [] x = p := by
  unfold raise
  conv => rhs; rw [tab_getD p 0]
  refine tab_congr fun i hi => ?_
  simp
theorem okGr_grV {m : Mk} {p : List Int} (hok : okMk m) (hp : OkP m p) : okGr (grV m p) p.length := by
  have h8 := (hp.pr hok).2.1
  refine ⟨⟨by omega, by omega⟩, by rw [grV_len]; exact hok.2.1.2, fun l hl => ?_⟩
  obtain ⟨b, hb, rfl⟩ := List.mem_map.1 hl
  split
  · exact ⟨fun x hx => (by cases hx), List.Pairwise.nil⟩
  · refine ⟨fun x hx => ?_, ?_⟩
    · obtain ⟨j, y, z, rfl, _, hz, _⟩ := tops_mem.1 hx
      have := lt_of_get hz
      omega
    · unfold topsV topsP
      rw [List.pairwise_map]
      exact List.Pairwise.imp (fun {a b} h => by omega) (List.pairwise_lt_range.filter _)
end Go.Sl
