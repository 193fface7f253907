/- Sets of items that too many want, plainly. No program in sight. Ways to one more, plainly. No program in sight. -/
import Derived.Test.YtlgdffofhnfedaaGreatO
set_option linter.unusedVariables false
set_option linter.unusedSimpArgs false
namespace Go.Sl
def withinV (g : List (List Int)) (sm l : List Int) : Nat := (sm.filter fun i => (g.getD i.toNat []).all fun k => decide (k ∈ l)).length
def tooMany (g : List (List Int)) (sm l : List Int) : Prop := l.length < withinV g sm l
instance (g : List (List Int)) (sm l : List Int) : Decidable (tooMany g sm l) := inferInstanceAs (Decidable (_ < _))
def lexLt : List Int → List Int → Prop
  | a :: a1s, b :: bs => a < b ∨ (a = b ∧ lexLt a1s bs)
  | _, _ => False
theorem lexLt_irrefl : ∀ a, ¬ lexLt a a
  | [], h => h
  | a :: a1s, h => by
    rcases h with h | ⟨_, h⟩
    · omega
    · exact lexLt_irrefl a1s h
theorem lexLt_trans : ∀ {a b c : List Int}, lexLt a b → lexLt b c → lexLt a c
  | [], _, _, h, _ => h.elim
  | _ :: _, [], _, h, _ => h.elim
  | _ :: _, _ :: _, [], _, h => h.elim
  | a :: a1s, b :: bs, c :: cs, h, h' => by
    rcases h with h | ⟨rfl, h⟩ <;> rcases h' with h' | ⟨rfl, h'⟩
    · exact .inl (by omega)
    · exact .inl h
    · exact .inl h'
    · exact .inr ⟨rfl, lexLt_trans h h'⟩
theorem lexLt_total : ∀ {a b : List Int}, a.length = b.length → a = b ∨ lexLt a b ∨ lexLt b a
  | [], [], _ => .inl rfl
  | [], _ :: _, h => by simp at h
  | _ :: _, [], h => by simp at h
  | a :: a1s, b :: bs, h => by
    by_cases e : a = b
    · subst e
      rcases lexLt_total (a := a1s) (b := bs) (by simpa using h) with rfl | h | h
      · exact .inl rfl
      · exact .inr (.inl (.inr ⟨rfl, h⟩))
      · exact .inr (.inr (.inr ⟨rfl, h⟩))
    · by_cases h' : a < b
      · exact .inr (.inl (.inl h'))
      · exact .inr (.inr (.inl (by omega)))
theorem lexLt_app : ∀ (p : List Int) {a b : List Int}, lexLt a b → lexLt (p ++ a) (p ++ b)
  | [], _, _, h => h
  | _ :: p, _, _, h => .inr ⟨rfl, lexLt_app p h⟩
def before (a b : List Int) : Prop := a.length < b.length ∨ (a.length = b.length ∧ lexLt a b)
theorem before_irrefl (a : List Int) : ¬ before a a := by
  rintro (h | ⟨_, h⟩)
  · omega
  · exact lexLt_irrefl a h
theorem before_trans {a b c : List Int} (h : before a b) (h' : before b c) : before a c := by
  rcases h with h | ⟨e, h⟩ <;> rcases h' with h' | ⟨e', h'⟩
  · exact .inl (by omega)
  · exact .inl (by omega)
  · exact .inl (by omega)
  · exact .inr ⟨by omega, lexLt_trans h h'⟩
theorem before_total (a b : List Int) : a = b ∨ before a b ∨ before b a := by
  by_cases e : a.length = b.length
  · rcases lexLt_total e with h | h | h
    · exact .inl h
    · exact .inr (.inl (.inr ⟨e, h⟩))
    · exact .inr (.inr (.inr ⟨e.symm, h⟩))
  · by_cases h : a.length < b.length
    · exact .inr (.inl (.inl h))
    · exact .inr (.inr (.inl (by omega)))
def IsFew (g : List (List Int)) (items : Int) (sm : List Int) : Option (List Int) → Prop
  | none => ∀ l, isR l items → ¬ tooMany g sm l
  | some l => isR l items ∧ tooMany g sm l ∧ ∀ l', isR l' items → tooMany g sm l' → l' = l ∨ before l l'
theorem IsFew.uniq {g : List (List Int)} {items : Int} {sm : List Int} : ∀ {r r' : Option (List Int)}, IsFew g items sm r → IsFew g items sm r' → r = r'
  | none, none, _, _ => rfl
  | none, some l, h, h' => absurd h'.2.1 (h l h'.1)
  | some l, none, h, h' => absurd h.2.1 (h' l h.1)
  | some l, some l', h, h' => by
    rcases h.2.2 l' h'.1 h'.2.1 with e | e
    · rw [e]
    · rcases h'.2.2 l h.1 h.2.1 with e' | e'
      · rw [e']
      · exact absurd (before_trans e e') (before_irrefl l)
open Classical in
noncomputable def fewV (g : List (List Int)) (items : Int) (sm : List Int) : Option (List Int) := if h : ∃ r, IsFew g items sm r then Classical.choose h else none
theorem IsFew.eq {g : List (List Int)} {items : Int} {sm : List Int} {r : Option (List Int)} (h : IsFew g items sm r) : fewV g items sm = r := by
  have hex : ∃ r, IsFew g items sm r := ⟨r, h⟩
  unfold fewV
  rw [dif_pos hex]
  exact (Classical.choose_spec hex).uniq h
def combos (items : Nat) : Nat → Nat → List Int → List (List Int)
  | 0, _, ah => [ah]
  | many + 1, fr, ah => (List.range (items - many - fr)).flatMap fun d => combos items many (fr + d + 1) (ah ++ [((fr + d : Nat) : Int)])
theorem combos_mem {items : Nat} : ∀ {many fr : Nat} {ah l : List Int}, l ∈ combos items many fr ah ↔ ∃ t, l = ah ++ t ∧ t.length = many ∧ t.Pairwise (· < ·) ∧ ∀ x ∈ t, (fr : Int) ≤ x ∧ x < items
  | 0, fr, ah, l => by
    simp only [combos, List.mem_singleton]
    constructor
    · rintro rfl; exact ⟨[], by simp, rfl, List.Pairwise.nil, fun x hx => by cases hx⟩
    · rintro ⟨t, rfl, ht, _⟩
      rw [List.eq_nil_of_length_eq_zero ht, List.append_nil]
  | many + 1, fr, ah, l => by
    simp only [combos, List.mem_flatMap, List.mem_range]
    constructor
    · rintro ⟨d, hd, hl⟩
      obtain ⟨t, rfl, ht, hp, hb⟩ := combos_mem.1 hl
      refine ⟨((fr + d : Nat) : Int) :: t, by simp, by simp [ht], List.pairwise_cons.2 ⟨fun x hx => by have := (hb x hx).1; omega, hp⟩, fun x hx => ?_⟩
      rcases List.mem_cons.1 hx with rfl | hx
      · omega
      · have := hb x hx; omega
    · rintro ⟨t, rfl, ht, hp, hb⟩
      cases t with
      | nil => simp at ht
      | cons x t =>
        have hx := hb x List.mem_cons_self
        rw [List.pairwise_cons] at hp
        have key : x + t.length < (items : Int) ∧ ∀ y ∈ t, x + 1 ≤ y := by
          refine ⟨?_, fun y hy => by have := hp.1 y hy; omega⟩
          have gen : ∀ (t : List Int) (x : Int), x < items → (∀ y ∈ t, x < y) → t.Pairwise (· < ·) → (∀ y ∈ t, y < (items : Int)) → x + t.length < items := by
            intro t
            induction t with
            | nil => intro x h _ _ _; simpa using h
            | cons y t ih =>
              intro x _ h1 h2 h3
              rw [List.pairwise_cons] at h2
              have := ih y (h3 y List.mem_cons_self) h2.1 h2.2 (fun z hz => h3 z (List.mem_cons_of_mem _ hz))
              have := h1 y List.mem_cons_self
              simp only [List.length_cons]
              omega
          exact gen t x hx.2 hp.1 hp.2 (fun y hy => (hb y (List.mem_cons_of_mem _ hy)).2)
        have htl : t.length = many := by simpa using ht
        refine ⟨(x - fr).toNat, by omega, combos_mem.2 ⟨t, ?_, htl, hp.2, fun y hy => ⟨?_, (hb y (List.mem_cons_of_mem _ hy)).2⟩⟩⟩
        · have : ((fr + (x - fr).toNat : Nat) : Int) = x := by omega
          rw [this]; simp
        · have := key.2 y hy; omega
theorem combos_lex {items : Nat} : ∀ {many fr : Nat} {ah : List Int}, (combos items many fr ah).Pairwise lexLt
  | 0, _, _ => List.pairwise_singleton _ _
  | many + 1, fr, ah => by
    simp only [combos]
    rw [List.pairwise_flatMap]
    refine ⟨fun d _ => combos_lex, ?_⟩
    refine List.Pairwise.imp ?_ List.pairwise_lt_range
    intro d d' hlt x hx y hy
    obtain ⟨t, rfl, _⟩ := combos_mem.1 hx
    obtain ⟨s, rfl, _⟩ := combos_mem.1 hy
    rw [List.append_assoc, List.append_assoc]
    exact lexLt_app ah (.inl (by omega))
theorem isR_len {l : List Int} {n : Nat} (h : isR l n) : l.length ≤ n := by
  have gen : ∀ (t : List Int) (x : Int), (∀ y ∈ t, x ≤ y) → t.Pairwise (· < ·) → (∀ y ∈ t, y < (n : Int)) → x ≤ n → x + t.length ≤ n := by
    intro t
    induction t with
    | nil => intro x _ _ _ h; simpa using h
    | cons y t ih =>
      intro x h1 h2 h3 h4
      rw [List.pairwise_cons] at h2
      have := ih (y + 1) (fun z hz => by have := h2.1 z hz; omega) h2.2 (fun z hz => h3 z (List.mem_cons_of_mem _ hz)) (by have := h3 y List.mem_cons_self; omega)
      have := h1 y List.mem_cons_self
      simp only [List.length_cons]
      omega
  have := gen l 0 (fun y hy => (h.1 y hy).1) h.2 (fun y hy => (h.1 y hy).2) (by omega)
  omega
theorem isR_combos {l : List Int} {items many : Nat} : l ∈ combos items many 0 [] ↔ isR l items ∧ l.length = many := by
  rw [combos_mem]
  constructor
  · rintro ⟨t, e, ht, hp, hb⟩
    rw [List.nil_append] at e
    subst e
    exact ⟨⟨fun x hx => by have := hb x hx; omega, hp⟩, ht⟩
  · rintro ⟨h, hl⟩
    exact ⟨l, by simp, hl, h.2, fun x hx => by have := h.1 x hx; omega⟩
theorem few_at {g : List (List Int)} {items m j : Nat} {sm l : List Int} (h1 : ∀ l', isR l' items → l'.length < m → ¬ tooMany g sm l') (hl : (combos items m 0 [])[j]? = some l)
    (h2 : ∀ j' l', j' < j → (combos items m 0 [])[j']? = some l' → ¬ tooMany g sm l') (ht : tooMany g sm l) : IsFew g items sm (some l) := by
  have hm := isR_combos.1 (List.mem_of_getElem? hl)
  refine ⟨hm.1, ht, fun l' hr ht' => ?_⟩
  by_cases e1 : l'.length < m
  · exact absurd ht' (h1 l' hr e1)
  by_cases e2 : l'.length = m
  · have hmem := isR_combos.2 ⟨hr, e2⟩
    obtain ⟨j', hj', rfl⟩ := List.getElem_of_mem hmem
    have hj := (List.getElem?_eq_some_iff.1 hl).1
    by_cases e3 : j' < j
    · exact absurd ht' (h2 j' _ e3 (List.getElem?_eq_getElem hj'))
    · by_cases e4 : j' = j
      · subst e4
        rw [List.getElem?_eq_getElem hj'] at hl
        exact .inl (Option.some.inj hl)
      · have := List.pairwise_iff_getElem.1 (combos_lex (items := items) (many := m) (fr := 0) (ah := [])) j j' hj hj' (by omega)
        rw [List.getElem?_eq_getElem hj] at hl
        rw [Option.some.inj hl] at this
        exact .inr (.inr ⟨by rw [hm.2, e2], this⟩)
  · exact .inr (.inl (by omega))
def maskL (items n : Nat) : List Int := ((List.range items).filter (fun k => n.testBit k)).map (fun k : Nat => (k : Int))
theorem maskL_isR (items n : Nat) : isR (maskL items n) items := by
  constructor
  · intro x hx
    simp only [maskL, List.mem_map, List.mem_filter, List.mem_range] at hx
    obtain ⟨k, ⟨hk, _⟩, rfl⟩ := hx
    omega
  · unfold maskL
    rw [List.pairwise_map]
    refine List.Pairwise.imp ?_ (List.pairwise_lt_range.filter _)
    intro a b h; omega
theorem mask_exists : ∀ (items : Nat) (p : Nat → Bool), ∃ n, n < 2 ^ items ∧ ∀ k, k < items → n.testBit k = p k
  | 0, p => ⟨0, by omega, fun k hk => by omega⟩
  | items + 1, p => by
    obtain ⟨n, hn, hk⟩ := mask_exists items p
    by_cases hp : p items = true
    · refine ⟨2 ^ items + n, by rw [Nat.pow_succ]; omega, fun k hk' => ?_⟩
      by_cases e : k = items
      · subst e
        rw [Nat.testBit_two_pow_add_eq, Nat.testBit_lt_two_pow hn, hp]; rfl
      · rw [Nat.testBit_two_pow_add_gt (by omega)]
        exact hk k (by omega)
    · refine ⟨n, by rw [Nat.pow_succ]; omega, fun k hk' => ?_⟩
      by_cases e : k = items
      · subst e
        rw [Nat.testBit_lt_two_pow hn]
        simpa using hp
      · exact hk k (by omega)
theorem isR_ext {n : Nat} : ∀ {l l' : List Int}, l.Pairwise (· < ·) → l'.Pairwise (· < ·) → (∀ x, x ∈ l ↔ x ∈ l') → l = l'
  | [], [], _, _, _ => rfl
  | [], y :: ys, _, _, h => by have := (h y).2 List.mem_cons_self; cases this
  | x :: xs, [], _, _, h => by have := (h x).1 List.mem_cons_self; cases this
  | x :: xs, y :: ys, h1, h2, h => by
    rw [List.pairwise_cons] at h1 h2
    have e : x = y := by
      have a := (h x).1 List.mem_cons_self
      have b := (h y).2 List.mem_cons_self
      rcases List.mem_cons.1 a with e | a
      · exact e
      · rcases List.mem_cons.1 b with e | b
        · exact e.symm
        · have := h2.1 x a; have := h1.1 y b; omega
    subst e
    congr 1
    refine isR_ext (n := n) h1.2 h2.2 fun z => ?_
    constructor
    · intro hz
      rcases List.mem_cons.1 ((h z).1 (List.mem_cons_of_mem _ hz)) with e | hz'
      · have := h1.1 z hz; omega
      · exact hz'
    · intro hz
      rcases List.mem_cons.1 ((h z).2 (List.mem_cons_of_mem _ hz)) with e | hz'
      · have := h2.1 z hz; omega
      · exact hz'
theorem isR_mask {l : List Int} {items : Nat} (h : isR l items) : ∃ n, n < 2 ^ items ∧ maskL items n = l := by
  obtain ⟨n, hn, hk⟩ := mask_exists items (fun k => decide ((k : Int) ∈ l))
  refine ⟨n, hn, isR_ext (n := items) (maskL_isR items n).2 h.2 fun x => ?_⟩
  simp only [maskL, List.mem_map, List.mem_filter, List.mem_range]
  constructor
  · rintro ⟨k, ⟨hk1, hk2⟩, rfl⟩
    rw [hk k hk1] at hk2
    exact of_decide_eq_true hk2
  · intro hx
    have := h.1 x hx
    exact ⟨x.toNat, ⟨by omega, by rw [hk _ (by omega)]; exact decide_eq_true (by rw [show ((x.toNat : Nat) : Int) = x by omega]; exact hx)⟩, by omega⟩
def BestTo (g : List (List Int)) (items : Nat) (sm : List Int) (n : Nat) (best : List Int) (found : Bool) : Prop :=
  (found = false → best = [] ∧ ∀ m, m < n → ¬ tooMany g sm (maskL items m)) ∧
  (found = true → isR best items ∧ tooMany g sm best ∧ ∀ m, m < n → tooMany g sm (maskL items m) → maskL items m = best ∨ before best (maskL items m))
theorem BestTo.zero (g : List (List Int)) (items : Nat) (sm : List Int) : BestTo g items sm 0 [] false := ⟨fun _ => ⟨rfl, fun m hm => by omega⟩, fun h => by cases h⟩
theorem BestTo.take {g : List (List Int)} {items n : Nat} {sm best : List Int} {found : Bool} (h : BestTo g items sm n best found) (ht : tooMany g sm (maskL items n)) (hc : found = true → before (maskL items n) best) : BestTo g items sm (n + 1) (maskL items n) true :=
  ⟨fun h => (by cases h), fun _ => ⟨maskL_isR items n, ht, fun m hm htm => by
    by_cases e : m = n
    · exact .inl (by rw [e])
    · cases found with
      | false => exact absurd htm ((h.1 rfl).2 m (by omega))
      | true =>
        rcases (h.2 rfl).2.2 m (by omega) htm with e' | e'
        · rw [e']; exact .inr (hc rfl)
        · exact .inr (before_trans (hc rfl) e')⟩⟩
theorem BestTo.leave {g : List (List Int)} {items n : Nat} {sm best : List Int} {found : Bool} (h : BestTo g items sm n best found) (hc : tooMany g sm (maskL items n) → found = true ∧ ¬ before (maskL items n) best) : BestTo g items sm (n + 1) best found :=
  ⟨fun hf => ⟨(h.1 hf).1, fun m hm htm => by
    by_cases e : m = n
    · subst e; have := (hc htm).1; rw [hf] at this; cases this
    · exact (h.1 hf).2 m (by omega) htm⟩, fun hf => ⟨(h.2 hf).1, (h.2 hf).2.1, fun m hm htm => by
    by_cases e : m = n
    · subst e
      rcases before_total (maskL items m) best with e' | e' | e'
      · exact .inl e'
      · exact absurd e' (hc htm).2
      · exact .inr e'
    · exact (h.2 hf).2.2 m (by omega) htm⟩⟩
theorem BestTo.few {g : List (List Int)} {items : Nat} {sm best : List Int} {found : Bool} (h : BestTo g items sm (2 ^ items) best found) : IsFew g items sm (if found = true then some best else none) := by
  cases found with
  | false =>
    rw [if_neg (by simp)]
    intro l hr
    obtain ⟨n, hn, rfl⟩ := isR_mask hr
    exact (h.1 rfl).2 n hn
  | true =>
    rw [if_pos rfl]
    refine ⟨(h.2 rfl).1, (h.2 rfl).2.1, fun l hr ht => ?_⟩
    obtain ⟨n, hn, rfl⟩ := isR_mask hr
    exact (h.2 rfl).2.2 n hn ht
theorem nodup_len : ∀ {l l' : List Int}, l.Nodup → (∀ x ∈ l, x ∈ l') → l.length ≤ l'.length
  | [], _, _, _ => by simp
  | x :: xs, l', hn, hs => by
    rw [List.nodup_cons] at hn
    have hx := hs x List.mem_cons_self
    have ih := nodup_len (l := xs) (l' := l'.erase x) hn.2 fun y hy => by
      have : y ≠ x := fun e => hn.1 (e ▸ hy)
      exact (List.mem_erase_of_ne this).2 (hs y (List.mem_cons_of_mem _ hy))
    rw [List.length_erase_of_mem hx] at ih
    have : 0 < l'.length := List.length_pos_of_mem hx
    simp only [List.length_cons]
    omega
theorem none_tooMany {g : List (List Int)} {sm : List Int} {has : Int → Int} (hsm : sm.Nodup) (h1 : ∀ i ∈ sm, has i ∈ g.getD i.toNat []) (h2 : ∀ i ∈ sm, ∀ j ∈ sm, has i = has j → i = j) (l : List Int) : ¬ tooMany g sm l := by
  unfold tooMany withinV
  intro h
  have hf := List.Nodup.sublist (List.filter_sublist (l := sm) (p := fun i => (g.getD i.toNat []).all fun k => decide (k ∈ l))) hsm
  have hle := nodup_len (l := (sm.filter fun i => (g.getD i.toNat []).all fun k => decide (k ∈ l)).map has) (l' := l) ?_ ?_
  · rw [List.length_map] at hle
    omega
  · unfold List.Nodup
    rw [List.pairwise_map]
    refine List.Pairwise.imp_of_mem ?_ hf
    intro a b ha hb hne e
    exact hne (h2 a (List.mem_filter.1 ha).1 b (List.mem_filter.1 hb).1 e)
  · intro x hx
    obtain ⟨i, hi, rfl⟩ := List.mem_map.1 hx
    rw [List.mem_filter, List.all_eq_true] at hi
    exact of_decide_eq_true (hi.2 _ (h1 i hi.1))
def comF (items many fr : Nat) (ah : List Int) (d : Nat) : List (List Int) := combos items many (fr + d + 1) (ah ++ [((fr + d : Nat) : Int)])
def comN (items many fr : Nat) (ah : List Int) (d : Nat) : Nat := ((List.range d).flatMap (comF items many fr ah)).length
theorem comN_succ (items many fr : Nat) (ah : List Int) (d : Nat) : comN items many fr ah (d + 1) = comN items many fr ah d + (comF items many fr ah d).length := by
  unfold comN
  rw [List.range_succ, List.flatMap_append, List.length_append]
  simp
theorem comN_full (items many fr : Nat) (ah : List Int) : comN items many fr ah (items - many - fr) = (combos items (many + 1) fr ah).length := rfl
theorem flat_get {α : Type} {f : Nat → List α} {d j : Nat} {x : α} : ∀ {D : Nat}, d < D → (f d)[j]? = some x → ((List.range D).flatMap f)[((List.range d).flatMap f).length + j]? = some x
  | 0, h, _ => by omega
  | D + 1, h, hx => by
    have hlt : j < (f d).length := (List.getElem?_eq_some_iff.1 hx).1
    rw [List.range_succ, List.flatMap_append]
    by_cases e : d = D
    · subst e
      rw [List.getElem?_append_right (by omega)]
      simpa using hx
    · have ih := flat_get (D := D) (by omega) hx
      rw [List.getElem?_append_left (List.getElem?_eq_some_iff.1 ih).1]
      exact ih
theorem com_get {items many fr d j : Nat} {ah l : List Int} (hd : d < items - many - fr) (hx : (comF items many fr ah d)[j]? = some l) : (combos items (many + 1) fr ah)[comN items many fr ah d + j]? = some l := flat_get hd hx
end Go.Sl
set_option linter.unusedVariables false
set_option linter.unusedSimpArgs false
namespace Go.Sl
def HoldF (has : List Int) (n : Nat) (f : Nat → Int) : Prop := ∀ k, k < 8 → (f k = 0 ∧ ∀ i : Nat, i < n → has[i]? ≠ some (k : Int)) ∨ (∃ i : Nat, i < n ∧ f k = (i : Int) + 1 ∧ has[i]? = some (k : Int))
theorem HoldF.zero (has : List Int) : HoldF has 0 (fun _ => 0) := fun k hk => .inl ⟨rfl, fun i hi => by omega⟩
theorem HoldF.skip {has : List Int} {n : Nat} {f : Nat → Int} (h : HoldF has n f) (hn : has[n]? = some (-1)) : HoldF has (n + 1) f := fun k hk => by
  rcases h k hk with ⟨h1, h2⟩ | ⟨i, h1, h2, h3⟩
  · refine .inl ⟨h1, fun i hi => ?_⟩
    by_cases e : i = n
    · subst e; rw [hn]; intro e; cases e
    · exact h2 i (by omega)
  · exact .inr ⟨i, by omega, h2, h3⟩
theorem HoldF.put {has : List Int} {n : Nat} {f : Nat → Int} {x : Nat} (h : HoldF has n f) (hn : has[n]? = some (x : Int)) : HoldF has (n + 1) (upd f x ((n : Int) + 1)) := fun k hk => by
  by_cases e : k = x
  · subst e
    exact .inr ⟨n, by omega, by simp [upd], hn⟩
  · have e1 : upd f x ((n : Int) + 1) k = f k := by simp [upd, e]
    rw [e1]
    rcases h k hk with ⟨h1, h2⟩ | ⟨i, h1, h2, h3⟩
    · refine .inl ⟨h1, fun i hi => ?_⟩
      by_cases e2 : i = n
      · subst e2; rw [hn]; intro e3; have := Option.some.inj e3; omega
      · exact h2 i (by omega)
    · exact .inr ⟨i, by omega, h2, h3⟩
def HadF (has : List Int) (n : Nat) (f : Nat → Int) : Prop := ∀ k, k < 8 → (f k = 0 ∧ ∀ i : Nat, i < n → has[i]? ≠ some (k : Int)) ∨ (f k = 1 ∧ ∃ i : Nat, i < n ∧ has[i]? = some (k : Int))
theorem HadF.skip {has : List Int} {n : Nat} {f : Nat → Int} (h : HadF has n f) (hn : has[n]? = some (-1)) : HadF has (n + 1) f := fun k hk => by
  rcases h k hk with ⟨h1, h2⟩ | ⟨h1, i, h2, h3⟩
  · refine .inl ⟨h1, fun i hi => ?_⟩
    by_cases e : i = n
    · subst e; rw [hn]; intro e; cases e
    · exact h2 i (by omega)
  · exact .inr ⟨h1, i, by omega, h3⟩
theorem HadF.fresh {g : List (List Int)} {has : List Int} {n : Nat} {f : Nat → Int} {x : Nat} (h : HadF has n f) (hf : fits g has) (hx : x < 8) (hn : has[n]? = some (x : Int)) : f x = 0 := by
  rcases h x hx with ⟨h1, _⟩ | ⟨h1, i, h2, h3⟩
  · exact h1
  · have := hf.2.2 i n _ h3 hn (by omega)
    omega
theorem HadF.put {has : List Int} {n : Nat} {f : Nat → Int} {x : Nat} (h : HadF has n f) (hn : has[n]? = some (x : Int)) : HadF has (n + 1) (upd f x 1) := fun k hk => by
  by_cases e : k = x
  · subst e
    exact .inr ⟨by simp [upd], n, by omega, hn⟩
  · have e1 : upd f x 1 k = f k := by simp [upd, e]
    rw [e1]
    rcases h k hk with ⟨h1, h2⟩ | ⟨h1, i, h2, h3⟩
    · refine .inl ⟨h1, fun i hi => ?_⟩
      by_cases e2 : i = n
      · subst e2; rw [hn]; intro e3; have := Option.some.inj e3; omega
      · exact h2 i (by omega)
    · exact .inr ⟨h1, i, by omega, h3⟩
structure Srch (g : List (List Int)) (has : List Int) (fr : Nat) (W : List Int) (by_ : Nat → Int) : Prop where
  none : has[fr]? = some (-1)
  first : W[0]? = some (fr : Int)
  nodup : W.Nodup
  rng : ∀ x ∈ W, 0 ≤ x ∧ x < (g.length : Int)
  chain : ∀ (n : Nat) (x : Int), W[n + 1]? = some x → ∃ (k m : Nat) (y : Int), k < 8 ∧ has[x.toNat]? = some (k : Int) ∧ m ≤ n ∧ W[m]? = some y ∧ by_ k = y + 1 ∧ (k : Int) ∈ g.getD y.toNat []
theorem Srch.zero {g : List (List Int)} {has : List Int} {fr : Nat} (h : has[fr]? = some (-1)) (hf : fr < g.length) : Srch g has fr [(fr : Int)] (fun _ => 0) :=
  ⟨h, rfl, (by simp), fun x hx => by rw [List.mem_singleton] at hx; omega, fun n x hx => by simp at hx⟩
theorem Srch.len {g : List (List Int)} {has : List Int} {fr : Nat} {W : List Int} {by_ : Nat → Int} (h : Srch g has fr W by_) (hg : g.length ≤ 8) : W.length ≤ 8 := by
  have := nodup_len (l := W) (l' := (List.range 8).map fun i : Nat => (i : Int)) h.nodup fun x hx => by
    have := h.rng x hx
    rw [List.mem_map]
    exact ⟨x.toNat, List.mem_range.2 (by omega), by omega⟩
  simpa using this
theorem Srch.visit {g : List (List Int)} {has : List Int} {fr : Nat} {W : List Int} {by_ : Nat → Int} (h : Srch g has fr W by_) {k : Nat} {v : Int} (hk : ¬ 0 < by_ k) : Srch g has fr W (upd by_ k v) :=
  ⟨h.none, h.first, h.nodup, h.rng, fun n x hx => by
    obtain ⟨k', m, y, h1, h2, h3, h4, h5, h6⟩ := h.chain n x hx
    have hy := h.rng y (mem_of_get h4)
    have hne : k' ≠ k := by rintro rfl; omega
    exact ⟨k', m, y, h1, h2, h3, h4, by simp only [upd, if_neg hne]; exact h5, h6⟩⟩
theorem Srch.more {g : List (List Int)} {has : List Int} {fr n i : Nat} {W : List Int} {by_ : Nat → Int} {y : Int} (h : Srch g has fr W by_) {k : Nat} (hk8 : k < 8) (hk : ¬ 0 < by_ k) (hy : W[n]? = some y) (hm : (k : Int) ∈ g.getD y.toNat []) (hi : has[i]? = some (k : Int)) (hig : i < g.length) :
    Srch g has fr (W ++ [(i : Int)]) (upd by_ k (y + 1)) := by
  have hv := h.visit (v := y + 1) hk
  have hnot : ¬ (i : Int) ∈ W := by
    intro hin
    obtain ⟨j, hj, e⟩ := List.getElem_of_mem hin
    have hj' := List.getElem?_eq_getElem hj
    rw [e] at hj'
    cases j with
    | zero =>
      rw [h.first] at hj'
      have : fr = i := by have := Option.some.inj hj'; omega
      subst this
      rw [h.none] at hi
      have := Option.some.inj hi
      omega
    | succ j =>
      obtain ⟨k', m, y', h1, h2, h3, h4, h5, h6⟩ := h.chain j _ hj'
      rw [Int.toNat_natCast, hi] at h2
      have hkk : k' = k := by have := Option.some.inj h2; omega
      subst hkk
      have := h.rng y' (mem_of_get h4)
      omega
  refine ⟨h.none, ?_, ?_, fun x hx => ?_, fun j x hx => ?_⟩
  · rw [List.getElem?_append_left (by have := lt_of_get h.first; omega)]
    exact h.first
  · rw [List.nodup_append]
    refine ⟨h.nodup, (by simp), fun a ha b hb => ?_⟩
    rw [List.mem_singleton] at hb
    subst hb
    rintro rfl
    exact hnot ha
  · rcases List.mem_append.1 hx with hx | hx
    · exact h.rng x hx
    · rw [List.mem_singleton] at hx; omega
  · by_cases hj : j + 1 < W.length
    · rw [List.getElem?_append_left hj] at hx
      obtain ⟨k', m, y', h1, h2, h3, h4, h5, h6⟩ := hv.chain j x hx
      exact ⟨k', m, y', h1, h2, h3, by rw [List.getElem?_append_left (lt_of_get h4)]; exact h4, h5, h6⟩
    · rw [List.getElem?_append_right (by omega)] at hx
      have hj0 : j + 1 - W.length = 0 := by
        have := lt_of_get hx
        simp at this
        omega
      rw [hj0] at hx
      have : (i : Int) = x := by simpa using hx
      subst this
      have hnl := lt_of_get hy
      exact ⟨k, n, y, hk8, by rw [Int.toNat_natCast]; exact hi, by omega, by rw [List.getElem?_append_left hnl]; exact hy, by simp [upd], hm⟩
structure Flip (g : List (List Int)) (has : List Int) (fr : Nat) (W : List Int) (by_ : Nat → Int) (has' : List Int) (k m : Nat) (y : Int) : Prop where
  fits : fits g has'
  k8 : k < 8
  free : ∀ i : Nat, has'[i]? ≠ some (k : Int)
  at_ : W[m]? = some y
  by_ : by_ k = y + 1
  mem : (k : Int) ∈ g.getD y.toNat []
  same : ∀ (j : Nat) (x : Int), j ≤ m → W[j]? = some x → has'[x.toNat]? = has[x.toNat]?
theorem Flip.step {g : List (List Int)} {has : List Int} {fr : Nat} {W : List Int} {by_ : Nat → Int} {has' : List Int} {k m : Nat} {y k' : Int} (S : Srch g has fr W by_) (h : Flip g has fr W by_ has' k m y) (hk' : has'[y.toNat]? = some k') :
    Go.Sl.fits g (has'.set y.toNat (k : Int)) ∧ (k' = -1 ∨ ∃ (q m' : Nat) (y' : Int), k' = (q : Int) ∧ m' < m ∧ Flip g has fr W by_ (has'.set y.toNat (k : Int)) q m' y') := by
  have hlt := lt_of_get hk'
  have hy := S.rng y (mem_of_get h.at_)
  have hf : Go.Sl.fits g (has'.set y.toNat (k : Int)) := by
    refine ⟨by rw [List.length_set]; exact h.fits.1, fun i x hx hne => ?_, fun i j x hi hj hne => ?_⟩
    · rw [List.getElem?_set] at hx
      split at hx
      · rename_i e
        have := Option.some.inj hx
        subst this
        rw [← e]
        exact h.mem
      · exact h.fits.2.1 i x hx hne
    · rw [List.getElem?_set] at hi hj
      split at hi <;> split at hj
      · omega
      · have := Option.some.inj hi
        subst this
        exact absurd hj (h.free j)
      · have := Option.some.inj hj
        subst this
        exact absurd hi (h.free i)
      · exact h.fits.2.2 i j x hi hj hne
  refine ⟨hf, ?_⟩
  by_cases e : k' = -1
  · exact .inl e
  right
  have hsame := h.same m y (Nat.le_refl _) h.at_
  rw [hk'] at hsame
  cases m with
  | zero =>
    have h0 := S.first
    rw [h.at_] at h0
    have : y = fr := Option.some.inj h0
    subst this
    rw [Int.toNat_natCast, S.none] at hsame
    exact absurd (Option.some.inj hsame) e
  | succ n =>
    obtain ⟨q, m', y', h1, h2, h3, h4, h5, h6⟩ := S.chain n y h.at_
    rw [← hsame] at h2
    have hq := Option.some.inj h2
    refine ⟨q, m', y', hq, by omega, ⟨hf, h1, fun i hi => ?_, h4, h5, h6, fun j x hj hx => ?_⟩⟩
    · rw [List.getElem?_set] at hi
      split at hi
      · have := Option.some.inj hi
        have hkq : k' = (k : Int) := by omega
        rw [hkq] at hk'
        exact h.free _ hk'
      · rename_i hne
        have := h.fits.2.2 i y.toNat _ hi (by rw [hk', hq]) (by omega)
        omega
    · rw [List.getElem?_set]
      have hxne : x ≠ y := by
        rintro rfl
        have := List.nodup_iff_pairwise_ne.1 S.nodup
        have hp := List.pairwise_iff_getElem.1 this j (n + 1) (lt_of_get hx) (lt_of_get h.at_) (by omega)
        have e1 : W[j]'(lt_of_get hx) = x := by have := List.getElem?_eq_getElem (lt_of_get hx); rw [hx] at this; exact (Option.some.inj this).symm
        have e2 : W[n + 1]'(lt_of_get h.at_) = x := by have := List.getElem?_eq_getElem (lt_of_get h.at_); rw [h.at_] at this; exact (Option.some.inj this).symm
        exact hp (e1.trans e2.symm)
      have hxr := S.rng x (mem_of_get hx)
      rw [if_neg (by omega)]
      exact h.same j x (by omega) hx
def manyV (has : List Int) : Nat := (has.filter fun k => decide (¬ k = -1)).length
theorem many_step {has : List Int} {n : Nat} {k : Int} (h : has[n]? = some k) : manyV (has.take (n + 1)) = if k = -1 then manyV (has.take n) else manyV (has.take n) + 1 := by
  unfold manyV
  rw [take_step h, List.filter_append]
  by_cases e : k = -1
  · subst e; simp
  · simp [e]
theorem many_le (has : List Int) : manyV has ≤ has.length := List.length_filter_le _ _
def aloneV (g : List (List Int)) (sm : List Int) : List (List Int) := tab g.length fun i => if (i : Int) ∈ sm then g.getD i [] else []
theorem alone_get {g : List (List Int)} {sm : List Int} {i : Nat} (h : i < g.length) : (aloneV g sm).getD i [] = if (i : Int) ∈ sm then g.getD i [] else [] := by
  unfold aloneV
  rw [List.getD_eq_getElem?_getD, tab_get h]; rfl
theorem alone_ok {g : List (List Int)} {sm : List Int} {n : Int} (h : okGr g n) : okGr (aloneV g sm) n := by
  refine ⟨h.1, by simp [aloneV]; exact h.2.1, fun l hl => ?_⟩
  unfold aloneV tab at hl
  obtain ⟨i, hi, rfl⟩ := List.mem_map.1 hl
  split
  · obtain ⟨l', hl'⟩ := get_of (List.mem_range.1 hi)
    rw [List.getD_eq_getElem?_getD, hl']
    exact h.2.2 _ (mem_of_get hl')
  · exact ⟨fun x hx => (by cases hx), List.Pairwise.nil⟩
theorem all_have {g : List (List Int)} {sm has : List Int} (hsm : isR sm g.length) (hf : fits (aloneV g sm) has) (hm : manyV has = sm.length) :
    (∀ i ∈ sm, has.getD i.toNat (-1) ∈ g.getD i.toNat []) ∧ ∀ i ∈ sm, ∀ j ∈ sm, has.getD i.toNat (-1) = has.getD j.toNat (-1) → i = j := by
  have hl : has.length = g.length := by rw [hf.1]; simp [aloneV]
  -- who has one
  have key : ∀ i : Nat, i < has.length → has.getD i (-1) ≠ -1 → (i : Int) ∈ sm := by
    intro i hi hne
    obtain ⟨k, hk⟩ := get_of hi
    rw [List.getD_eq_getElem?_getD, hk] at hne
    have := hf.2.1 i k hk hne
    rw [alone_get (by omega)] at this
    split at this
    · assumption
    · cases this
  have cnt : manyV has = ((List.range has.length).filter fun i => decide (¬ has.getD i (-1) = -1)).length := by
    have gen : ∀ n, n ≤ has.length → manyV (has.take n) = ((List.range n).filter fun i => decide (¬ has.getD i (-1) = -1)).length := by
      intro n
      induction n with
      | zero => intro _; rfl
      | succ n ih =>
        intro hn
        obtain ⟨k, hk⟩ := get_of (xs := has) (k := n) (by omega)
        rw [many_step hk, ih (by omega), List.range_succ, List.filter_append, List.length_append]
        have e : has.getD n (-1) = k := by rw [List.getD_eq_getElem?_getD, hk]; rfl
        by_cases e1 : k = -1
        · simp [hk, e1]
        · simp [List.filter_cons, hk, e1]
    have := gen has.length (Nat.le_refl _)
    rwa [List.take_length] at this
  have hall : ∀ i ∈ sm, has.getD i.toNat (-1) ≠ -1 := by
    intro i hi hne
    have hle := nodup_len (l := i :: ((List.range has.length).filter fun i => decide (¬ has.getD i (-1) = -1)).map (fun i : Nat => (i : Int))) (l' := sm) ?_ ?_
    · rw [List.length_cons, List.length_map, ← cnt] at hle
      omega
    · rw [List.nodup_cons]
      constructor
      · intro hm
        obtain ⟨j, hj, e⟩ := List.mem_map.1 hm
        rw [List.mem_filter, decide_eq_true_iff] at hj
        rw [← e, Int.toNat_natCast] at hne
        exact hj.2 hne
      · unfold List.Nodup
        rw [List.pairwise_map]
        refine List.Pairwise.imp ?_ (List.Pairwise.filter _ (List.pairwise_lt_range (n := has.length)))
        intro a b h; omega
    · intro x hx
      rcases List.mem_cons.1 hx with rfl | hx
      · exact hi
      · obtain ⟨j, hj, rfl⟩ := List.mem_map.1 hx
        rw [List.mem_filter, decide_eq_true_iff, List.mem_range] at hj
        exact key j hj.1 hj.2
  have hget : ∀ i ∈ sm, has[i.toNat]? = some (has.getD i.toNat (-1)) := by
    intro i hi
    have := hsm.1 i hi
    obtain ⟨k, hk⟩ := get_of (xs := has) (k := i.toNat) (by omega)
    rw [List.getD_eq_getElem?_getD, hk]; rfl
  refine ⟨fun i hi => ?_, fun i hi j hj e => ?_⟩
  · have hr := hsm.1 i hi
    have := hf.2.1 _ _ (hget i hi) (hall i hi)
    rw [alone_get (by omega)] at this
    split at this
    · exact this
    · cases this
  · have h1 := hget i hi
    have h2 := hget j hj
    rw [← e] at h2
    have := hf.2.2 _ _ _ h1 h2 (hall i hi)
    have := hsm.1 i hi
    have := hsm.1 j hj
    omega
end Go.Sl
