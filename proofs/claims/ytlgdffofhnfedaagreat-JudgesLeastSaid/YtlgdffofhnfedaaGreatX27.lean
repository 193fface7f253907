/- Outcomes, plainly. No program in sight. outcomes, and the answer of chapter 15. -/
import Derived.Test.YtlgdffofhnfedaaGreatU
import Derived.Test.YtlgdffofhnfedaaGreatV
import Derived.Test.YtlgdffofhnfedaaGreatW
import Derived.Test.YtlgdffofhnfedaaGreatX26
set_option linter.unusedVariables false
set_option linter.unusedSimpArgs false
namespace Go.Sl
def nowV (b p : List Int) (x : Int) : Int := if x < 0 then 0 else b.getD x.toNat 0 - p.getD x.toNat 0
def rowOk (b p : List Int) (x : Int) : Prop := 0 ≤ nowV b p x ∧ ∀ j, j < p.length → b.getD j 0 - p.getD j 0 ≤ nowV b p x
def priOk (m : Mk) (o : Oc) (j : Nat) : Prop := m.res.getD j 0 ≤ o.pri.getD j 0 ∧ o.pri.getD j 0 ≤ 2000000
def bidOk (m : Mk) (o : Oc) (i : Nat) : Prop := if m.bids.getD i [] = [] then o.has.getD i 0 = -1 else rowOk (m.bids.getD i []) o.pri (o.has.getD i 0)
def evenV (m : Mk) (o : Oc) : Prop :=
  okMk m ∧ o.has.length = m.bids.length ∧ o.pri.length = m.res.length ∧ (∀ i, i < o.has.length → -1 ≤ o.has.getD i 0 ∧ o.has.getD i 0 < (o.pri.length : Int)) ∧
    (∀ j, j < o.pri.length → o.has.count (j : Int) ≤ 1 ∧ priOk m o j ∧ (o.has.count (j : Int) = 0 → o.pri.getD j 0 = m.res.getD j 0)) ∧ ∀ i, i < m.bids.length → bidOk m o i
def W64 (x : Int) : Int := IntKind.i64.wrap x
theorem W64_of {x : Int} (h : -9223372036854775808 ≤ x ∧ x ≤ 9223372036854775807) : W64 x = x := wrap64_of h.1 h.2
def nowW (b p : List Int) (x : Int) : Int := if x = -1 then 0 else W64 (b.getD x.toNat 0 - p.getD x.toNat 0)
def rowW (b p : List Int) (x : Int) : Prop := 0 ≤ nowW b p x ∧ ∀ j, j < p.length → W64 (b.getD j 0 - p.getD j 0) ≤ nowW b p x
def bidW (m : Mk) (o : Oc) (i : Nat) : Prop := (-1 ≤ o.has.getD i 0 ∧ o.has.getD i 0 < (o.pri.length : Int)) ∧ if m.bids.getD i [] = [] then o.has.getD i 0 = -1 else rowW (m.bids.getD i []) o.pri (o.has.getD i 0)
theorem bid_bound {m : Mk} (hok : okMk m) {i : Nat} (hi : i < m.bids.length) (hne : m.bids.getD i [] ≠ []) : (m.bids.getD i []).length = m.res.length ∧ ∀ j, 0 ≤ (m.bids.getD i []).getD j 0 ∧ (m.bids.getD i []).getD j 0 ≤ 1000000 := by
  obtain ⟨b, hb⟩ := get_of hi
  rw [getD_of hb] at hne ⊢
  have := hok.2.2.2 b (mem_of_get hb)
  have hv : okVec b m.res.length := Decidable.of_not_not fun hn => this ⟨List.length_pos_iff.2 hne, hn⟩
  refine ⟨by have := hv.2.2.1; omega, fun j => ?_⟩
  by_cases hj : j < b.length
  · rw [List.getD_eq_getElem?_getD, List.getElem?_eq_getElem hj]
    exact hv.2.2.2 _ (List.getElem_mem hj)
  · rw [List.getD_eq_getElem?_getD, List.getElem?_eq_none (by omega)]
    exact ⟨by decide, by decide⟩
theorem res_bound {m : Mk} (hok : okMk m) (j : Nat) : 0 ≤ m.res.getD j 0 ∧ m.res.getD j 0 ≤ 1000000 := by
  by_cases hj : j < m.res.length
  · rw [List.getD_eq_getElem?_getD, List.getElem?_eq_getElem hj]
    exact hok.1.2.2.2 _ (List.getElem_mem hj)
  · rw [List.getD_eq_getElem?_getD, List.getElem?_eq_none (by omega)]
    exact ⟨by decide, by decide⟩
theorem rowW_iff {m : Mk} {o : Oc} (hok : okMk m) (hp : ∀ j, j < o.pri.length → priOk m o j) {i : Nat} (hi : i < m.bids.length) (hne : m.bids.getD i [] ≠ []) (hx : -1 ≤ o.has.getD i 0 ∧ o.has.getD i 0 < (o.pri.length : Int)) :
    rowW (m.bids.getD i []) o.pri (o.has.getD i 0) ↔ rowOk (m.bids.getD i []) o.pri (o.has.getD i 0) := by
  have hb := (bid_bound hok hi hne).2
  have key : ∀ j, j < o.pri.length → W64 ((m.bids.getD i []).getD j 0 - o.pri.getD j 0) = (m.bids.getD i []).getD j 0 - o.pri.getD j 0 := fun j hj => by
    have := hb j
    have := hp j hj
    have := res_bound hok j
    unfold priOk at *
    exact W64_of (by omega)
  have hn : nowW (m.bids.getD i []) o.pri (o.has.getD i 0) = nowV (m.bids.getD i []) o.pri (o.has.getD i 0) := by
    unfold nowW nowV
    by_cases e : o.has.getD i 0 = -1
    · rw [if_pos e, if_pos (by omega)]
    · rw [if_neg e, if_neg (by omega), key _ (by omega)]
  unfold rowW rowOk
  rw [hn]
  constructor
  · rintro ⟨h1, h2⟩; exact ⟨h1, fun j hj => by rw [← key j hj]; exact h2 j hj⟩
  · rintro ⟨h1, h2⟩; exact ⟨h1, fun j hj => by rw [key j hj]; exact h2 j hj⟩
theorem evenV.bidW {m : Mk} {o : Oc} (h : evenV m o) {i : Nat} (hi : i < m.bids.length) : bidW m o i := by
  obtain ⟨h1, h2, h3, h4, h5, h6⟩ := h
  have hx := h4 i (by omega)
  refine ⟨hx, ?_⟩
  have hb := h6 i hi
  unfold bidOk at hb
  by_cases e : m.bids.getD i [] = []
  · rw [if_pos e] at hb ⊢; exact hb
  · rw [if_neg e] at hb ⊢
    exact (rowW_iff h1 (fun j hj => (h5 j hj).2.1) hi e hx).2 hb
def CntF (has : List Int) (k n : Nat) (f : Nat → Int) : Prop := ∀ x, x < n → f x = ((has.take k).count (x : Int) : Nat)
theorem CntF.zero (has : List Int) (n : Nat) : CntF has 0 n (fun _ => 0) := fun x hx => by simp
theorem CntF.skip {has : List Int} {k n : Nat} {f : Nat → Int} {y : Int} (h : CntF has k n f) (hy : has[k]? = some y) (hn : y < 0 ∨ (n : Int) ≤ y) : CntF has (k + 1) n f := fun x hx => by
  rw [take_step hy, List.count_append, h x hx, List.count_singleton]
  rw [if_neg (by simp; omega)]
  simp
theorem CntF.put {has : List Int} {k n : Nat} {f : Nat → Int} {y : Nat} (h : CntF has k n f) (hy : has[k]? = some (y : Int)) : CntF has (k + 1) n (upd f y (f y + 1)) := fun x hx => by
  rw [take_step hy, List.count_append, List.count_singleton]
  unfold upd
  by_cases e : x = y
  · subst e
    rw [if_pos rfl, if_pos (by simp), h x hx]; omega
  · rw [if_neg e, if_neg (by simp; omega), h x hx]; simp
theorem CntF.bound {has : List Int} {k n : Nat} {f : Nat → Int} (h : CntF has k n f) {x : Nat} (hx : x < n) : 0 ≤ f x ∧ f x ≤ k := by
  rw [h x hx]
  have := List.count_le_length (a := (x : Int)) (l := has.take k)
  rw [List.length_take] at this
  omega
def priP (m : Mk) (o : Oc) (f : Nat → Int) (j : Nat) : Prop := priOk m o j ∧ (0 < f j ∨ o.pri.getD j 0 = m.res.getD j 0)
theorem even_of {m : Mk} {o : Oc} {f g : Nat → Int} {e0 : Bool} (hok : okMk m) (h1 : o.has.length = m.bids.length) (h2 : o.pri.length = m.res.length) (hl8 : o.pri.length ≤ 8)
    (ht : e0 = true → (∀ i, i < m.bids.length → bidW m o i) ∧ CntF o.has o.has.length o.pri.length f) (hf : e0 = false → ¬ evenV m o) (hg : ∀ j, j < 8 → g j = if j < o.pri.length then max 0 (f j - 1) else 0) :
    ((e0 = true ∧ ∀ j, j < o.pri.length → priP m o f j) ∧ ∀ j, j < 8 → g j = 0) ↔ evenV m o := by
  constructor
  · rintro ⟨⟨he, hp⟩, hz⟩
    obtain ⟨ha, hc⟩ := ht he
    refine ⟨hok, h1, h2, fun i hi => (ha i (by omega)).1, fun j hj => ?_, fun i hi => ?_⟩
    · have hcj := hc j hj
      rw [List.take_length] at hcj
      have hzj := hz j (by omega)
      rw [hg j (by omega), if_pos hj] at hzj
      have hpj := hp j hj
      exact ⟨by omega, hpj.1, fun h0 => hpj.2.resolve_left (by omega)⟩
    · have hb := ha i hi
      unfold bidOk
      by_cases e : m.bids.getD i [] = []
      · rw [if_pos e]; have := hb.2; rw [if_pos e] at this; exact this
      · rw [if_neg e]; have := hb.2; rw [if_neg e] at this
        exact (rowW_iff hok (fun j hj => (hp j hj).1) hi e hb.1).1 this
  · intro h
    have he : e0 = true := by
      cases e0 with
      | true => rfl
      | false => exact absurd h (hf rfl)
    obtain ⟨ha, hc⟩ := ht he
    refine ⟨⟨he, fun j hj => ?_⟩, fun j hj => ?_⟩
    · have h5 := h.2.2.2.2.1 j hj
      have hcj := hc j hj
      rw [List.take_length] at hcj
      refine ⟨h5.2.1, ?_⟩
      by_cases e : o.has.count (j : Int) = 0
      · exact .inr (h5.2.2 e)
      · exact .inl (by omega)
    · rw [hg j hj]
      split
      · rename_i hj2
        have h5 := h.2.2.2.2.1 j hj2
        have hcj := hc j hj2
        rw [List.take_length] at hcj
        omega
      · rfl
theorem gains_okG {m : Mk} (hok : okMk m) : okG (gains m) m.res.length := by
  refine ⟨⟨hok.1.1, hok.1.2.1⟩, by unfold gains; rw [List.length_map]; exact hok.2.1.2, fun l hl => ?_⟩
  obtain ⟨b, hb, rfl⟩ := List.mem_map.1 hl
  have key : (gain1 m.res b).length = m.res.length ∧ ∀ x ∈ gain1 m.res b, -1000000 ≤ x ∧ x ≤ 1000000 := by
    unfold gain1
    split
    · refine ⟨by simp, fun x hx => ?_⟩
      rw [List.mem_replicate] at hx
      omega
    · rename_i hne
      have := hok.2.2.2 b hb
      have hv : okVec b m.res.length := Decidable.of_not_not fun hn => this ⟨List.length_pos_iff.2 hne, hn⟩
      refine ⟨by rw [List.length_zipWith]; have := hv.2.2.1; omega, fun x hx => ?_⟩
      obtain ⟨i, hi, rfl⟩ := List.getElem_of_mem hx
      rw [List.getElem_zipWith]
      have h1 := hv.2.2.2 _ (List.getElem_mem (l := b) (n := i) (by rw [List.length_zipWith] at hi; omega))
      have h2 := hok.1.2.2.2 _ (List.getElem_mem (l := m.res) (n := i) (by rw [List.length_zipWith] at hi; omega))
      omega
  rintro (h | ⟨x, hx, h⟩)
  · exact h (by rw [key.1])
  · exact h (key.2 x hx)
end Go.Sl
set_option linter.unusedVariables false
set_option linter.unusedSimpArgs false
set_option maxRecDepth 10000
set_option maxHeartbeats 2000000
namespace Go.Sl
open Go.RowKit
open Go.Proofs
theorem Gains2_ {w0 : World} {v : Value} {m : Mk} (hm : RdM w0 v m) : Ret Tryz.prog 31 [v] w0 (fun r w => ∃ g e, r = .tuple #[g, .int .i64 e] ∧ ((okMk m ∧ e = 0 ∧ Loc w0 w [rdv g (fun w => RdII w g (gains m))]) ∨ (¬ okMk m ∧ e = 1 ∧ Below w0.heap.size w0 w))) :=
 (Gains_ hm).mono fun r w h => by
   rcases h with ⟨h1, v, rfl, h2⟩ | ⟨h1, rfl, h2⟩
   · exact ⟨_, _, rfl, .inl ⟨h1, rfl, h2⟩⟩
   · exact ⟨_, _, rfl, .inr ⟨h1, rfl, h2.below⟩⟩
theorem R5Gains2_ {w0 : World} {v : Value} {m : Mk} (hm : RdM w0 v m) : Ret Tryz.prog 38 [v] w0 (fun r w => ∃ g e, r = .tuple #[g, .int .i64 e] ∧ ((okMk m ∧ e = 0 ∧ Loc w0 w [rdv g (fun w => RdII w g (gains m))]) ∨ (¬ okMk m ∧ e = 1 ∧ Below w0.heap.size w0 w))) :=
 (R5Gains_ hm).mono fun r w h => by
   rcases h with ⟨h1, v, rfl, h2⟩ | ⟨h1, rfl, h2⟩
   · exact ⟨_, _, rfl, .inl ⟨h1, rfl, h2⟩⟩
   · exact ⟨_, _, rfl, .inr ⟨h1, rfl, h2.below⟩⟩
noncomputable def ofV (m : Mk) : Oc := ⟨firstV (gains m) m.res.length (ordN m.ord), leastV m⟩
def OfPo (m : Mk) (w0 : World) (r : Value) (w : World) : Prop :=
 (okMk m ∧ ∃ x y, r = .tuple #[.agg #[x, y], .int .i64 0] ∧ Loc w0 w [rdv x (fun w => RdI w x (ofV m).has), rdv y (fun w => RdI w y (ofV m).pri)]) ∨ (¬ okMk m ∧ r = .tuple #[.agg #[.slice none 0 0, .slice none 0 0], .int .i64 1] ∧ Below w0.heap.size w0 w)
theorem gains_len (m : Mk) : (gains m).length = m.bids.length := by simp [gains]
theorem Of15_ {w0 : World} {v : Value} {m : Mk} (hm : RdM w0 v m) : Ret Tryz.prog 20 [v] w0 (OfPo m w0) := by
 refine ret_of_C Tryz.func20 rfl rfl rfl ?_
 have H := Loc.refl w0
 have hm0 := hm
 obtain ⟨a, b, c, rfl, ra, rb, rc⟩ := hm
 obtain ⟨A1, c1, rfl, hA1, hA2⟩ := ra.len
 refine C_seq (C_region rfl (R_o rfl (E_box (cs := [.slice A1 m.res.length c1, b, c]) rfl H ?_)))
 clear H; intro w b1 H
 refine R_o rfl (E_alloc H ?_)
 clear H; intro w b2 H
 refine R_o rfl (E_assign (R_nil (C_seq (C_region rfl (R_o rfl (E_loadw H rfl (by rfl) ?_))))))
 refine R_o rfl (E_call rfl (Gains2_ (Abides.below H.below hm0)) ?_)
 rintro _ w1 ⟨g1, e1, rfl, hor⟩
 refine R_o rfl (E_move (R_o rfl (E_extract rfl rfl ?_)))
 refine R_o rfl (E_extract rfl rfl ?_)
 refine R_o rfl (E_assign (R_o rfl (E_assign (R_nil (C_seq (C_seq (C_region rfl (R_o rfl (E_move (R_o rfl (E_neq rfl rfl ?_)))))))))))
 refine R_nil (C_cond (t := 11) rfl (fun h11 => ?_) (fun h11 => ?_))
 ·
  obtain ⟨hno, rfl, hb⟩ := hor.resolve_left (fun h => h11 h.2.1)
  replace H := H.call0 hb
  refine C_seq (C_region rfl (R_o rfl (E_loadw H rfl (by rfl) ?_)))
  refine R_o rfl (E_move (R_n rfl (E_storea H rfl rfl rfl rfl (by decide) ?_)))
  clear H; intro w H
  replace H := H.cle (cs' := [.slice none 0 0, .slice none 0 0]) rfl
  refine R_o rfl (E_assign (R_nil (C_ret ?_)))
  with_reducible repeat (first | refine thn_ret ?_ | refine inB_ret ?_ | refine noG_ret ?_ | refine jmp_ret ?_)
  first
    | exact ret_list (rs := [.cell 2 27, .tmp 3]) (vs := [.agg #[.slice none 0 0, .slice none 0 0], .int .i64 1]) rfl rfl ⟨res_cellw (b := b2) H rfl rfl, rfl, trivial⟩ (.inr ⟨hno, rfl, H.below⟩)
    | exact ret_list (rs := [.cell 2 27, .tmp 3]) (vs := [.agg #[x, y], .int .i64 0]) rfl rfl ⟨res_cellw (b := b2) H rfl rfl, rfl, trivial⟩ (.inl ⟨hok, x, y, rfl, (show Loc w0 w [rdv x (fun w => RdI w x (firstV (gains m) m.res.length (ordN m.ord))), rdv y (fun w => RdI w y (leastV m))] from H.al)⟩)
 ·
  obtain ⟨hok, he, hc⟩ := hor.resolve_right (fun h => h11 (by rw [h.2.1]; decide))
  replace H := H.call1 hc; clear hc
  refine C_skip (C_seq (C_region rfl (R_o rfl (E_move (R_o rfl (E_fieldAddr rfl ?_))))))
  refine R_o rfl (E_load H rfl rfl ?_)
  refine R_o rfl (E_len rfl ?_)
  refine R_o rfl (E_fieldAddr rfl ?_)
  refine R_o rfl (E_load H rfl rfl ?_)
  refine R_o rfl (E_call rfl (First_ (g := gains m) (items := m.res.length) (xs := m.ord) (H.fr (rdv g1 (fun w => RdII w g1 (gains m)))).read (Abides.below H.below rc) (gains_okG hok) (by rw [gains_len]; exact hok.2.2.1) (by rw [gains_len]; have := hok.2.1.1; omega)) ?_)
  rintro _ w1 ⟨x, rfl, hc⟩
  have hx1 : x.oneCell' = true := (by obtain ⟨_, _, e, _⟩ := hc.read.len; rw [e]; rfl)
  replace H := H.call1 hc; clear hc
  refine R_o rfl (E_move (R_o rfl (E_extract rfl rfl ?_)))
  refine R_o rfl (E_extract rfl rfl ?_)
  refine R_o rfl (E_fieldAddr rfl ?_)
  refine R_n rfl (E_store (v := x) H rfl rfl hx1 (by simp) ?_)
  clear H; intro w H
  replace H := H.cle (cs' := [x, .slice none 0 0]) rfl
  refine R_nil (C_seq (C_region rfl (R_o rfl (E_loadw H rfl (by rfl) ?_))))
  refine R_o rfl (E_call rfl (Least13_ (Abides.below H.below hm0) hok) ?_)
  rintro _ w1 ⟨y, rfl, hc⟩
  have hy1 : y.oneCell' = true := (by obtain ⟨_, _, e, _⟩ := hc.read.len; rw [e]; rfl)
  replace H := H.call1 hc; clear hc
  refine R_o rfl (E_move (R_o rfl (E_extract rfl rfl ?_)))
  refine R_o rfl (E_extract rfl rfl ?_)
  refine R_o rfl (E_fieldAddr rfl ?_)
  refine R_n rfl (E_store (v := y) H rfl rfl hy1 (by simp) ?_)
  clear H; intro w H
  replace H := H.cle (cs' := [x, y]) rfl
  refine R_nil (C_seq (C_region rfl (R_o rfl (E_loadw H rfl (by rfl) ?_))))
  refine R_n rfl (E_storea (vs := [x, y]) H rfl rfl (by simp [hx1, hy1]) rfl (by simp) ?_)
  clear H; intro w H
  replace H := H.cle (cs' := [x, y]) rfl
  refine R_o rfl (E_assign (R_nil (C_ret ?_)))
  with_reducible repeat (first | refine thn_ret ?_ | refine inB_ret ?_ | refine noG_ret ?_ | refine jmp_ret ?_)
  first
    | exact ret_list (rs := [.cell 2 27, .tmp 3]) (vs := [.agg #[.slice none 0 0, .slice none 0 0], .int .i64 1]) rfl rfl ⟨res_cellw (b := b2) H rfl rfl, rfl, trivial⟩ (.inr ⟨hno, rfl, H.below⟩)
    | exact ret_list (rs := [.cell 2 27, .tmp 3]) (vs := [.agg #[x, y], .int .i64 0]) rfl rfl ⟨res_cellw (b := b2) H rfl rfl, rfl, trivial⟩ (.inl ⟨hok, x, y, rfl, (show Loc w0 w [rdv x (fun w => RdI w x (firstV (gains m) m.res.length (ordN m.ord))), rdv y (fun w => RdI w y (leastV m))] from H.al)⟩)
theorem R15Of_ {w0 : World} {v : Value} {m : Mk} (hm : RdM w0 v m) : Ret Tryz.prog 51 [v] w0 (OfPo m w0) := by
 refine ret_of_C Tryz.func51 rfl rfl rfl ?_
 have H := Loc.refl w0
 have hm0 := hm
 obtain ⟨a, b, c, rfl, ra, rb, rc⟩ := hm
 obtain ⟨A1, c1, rfl, hA1, hA2⟩ := ra.len
 refine C_seq (C_region rfl (R_o rfl (E_box (cs := [.slice A1 m.res.length c1, b, c]) rfl H ?_)))
 clear H; intro w b1 H
 refine R_o rfl (E_alloc H ?_)
 clear H; intro w b2 H
 refine R_o rfl (E_assign (R_nil (C_seq (C_seq (C_region rfl (R_o rfl (E_loadw H rfl (by rfl) ?_)))))))
 refine R_o rfl (E_call rfl (R5Check_ (Abides.below H.below hm0)) ?_)
 rintro _ w1 ⟨rfl, hb⟩
 replace H := H.call0 hb; clear hb
 refine R_o rfl (E_not rfl ?_)
 refine R_nil (C_cond (t := 12) rfl (fun h12 => ?_) (fun h12 => ?_))
 ·
  refine C_seq (C_region rfl (R_o rfl (E_build (cs := [.slice none 0 0, .slice none 0 0]) rfl ?_)))
  refine R_n rfl (E_storea (vs := [.slice none 0 0, .slice none 0 0]) H rfl rfl rfl rfl (by decide) ?_)
  clear H; intro w H
  replace H := H.cle (cs' := [.slice none 0 0, .slice none 0 0]) rfl
  refine R_o rfl (E_assign (R_nil (C_ret ?_)))
  with_reducible repeat (first | refine thn_ret ?_ | refine inB_ret ?_ | refine noG_ret ?_ | refine jmp_ret ?_)
  first
    | exact ret_list (rs := [.cell 2 27, .tmp 3]) (vs := [.agg #[.slice none 0 0, .slice none 0 0], .int .i64 1]) rfl rfl ⟨res_cellw (b := b2) H rfl rfl, rfl, trivial⟩ (.inr ⟨h12, rfl, H.below⟩)
    | exact ret_list (rs := [.cell 2 27, .tmp 3]) (vs := [.agg #[.slice Ax (firstV (gains m) m.res.length (ordN m.ord)).length cx, .slice Ay (leastV m).length cy], .int .i64 0]) rfl rfl ⟨res_cellw (b := b2) H rfl rfl, rfl, trivial⟩ (.inl ⟨hok, _, _, rfl, (show Loc w0 w [rdv (.slice Ax (firstV (gains m) m.res.length (ordN m.ord)).length cx) (fun w => RdI w (.slice Ax (firstV (gains m) m.res.length (ordN m.ord)).length cx) (firstV (gains m) m.res.length (ordN m.ord))), rdv (.slice Ay (leastV m).length cy) (fun w => RdI w (.slice Ay (leastV m).length cy) (leastV m))] from H.al)⟩)
 ·
  have hok := Decidable.of_not_not h12
  refine C_skip (C_seq (C_region rfl (R_o rfl (E_loadw H rfl (by rfl) ?_))))
  refine R_o rfl (E_call rfl (R5Gains2_ (Abides.below H.below hm0)) ?_)
  rintro _ w1 ⟨g1, e1, rfl, hor⟩
  obtain ⟨_, rfl, hc⟩ := hor.resolve_right (fun h => h.1 hok)
  replace H := H.call1 hc; clear hc
  refine R_o rfl (E_move (R_o rfl (E_extract rfl rfl ?_)))
  refine R_o rfl (E_extract rfl rfl ?_)
  refine R_o rfl (E_assign (R_o rfl (E_assign (R_nil (C_seq (C_region rfl (R_o rfl (E_move (R_o rfl (E_fieldAddr rfl ?_))))))))))
  refine R_o rfl (E_load H rfl rfl ?_)
  refine R_o rfl (E_len rfl ?_)
  refine R_o rfl (E_fieldAddr rfl ?_)
  refine R_o rfl (E_load H rfl rfl ?_)
  refine R_o rfl (E_call rfl (R11First_ (g := gains m) (items := m.res.length) (xs := m.ord) (H.fr (rdv g1 (fun w => RdII w g1 (gains m)))).read (Abides.below H.below rc) (gains_okG hok) (by rw [gains_len]; exact hok.2.2.1) (by rw [gains_len]; have := hok.2.1.1; omega)) ?_)
  rintro _ w1 ⟨x, rfl, hc⟩
  replace H := H.call1 hc; clear hc
  refine R_o rfl (E_move (R_o rfl (E_extract rfl rfl ?_)))
  refine R_o rfl (E_extract rfl rfl ?_)
  refine R_o rfl (E_assign (R_o rfl (E_assign (R_nil (C_seq (C_region rfl (R_o rfl (E_loadw H rfl (by rfl) ?_))))))))
  refine R_o rfl (E_call rfl (R13Least_ (Abides.below H.below hm0) hok) ?_)
  rintro _ w1 ⟨y, rfl, hc⟩
  replace H := H.call1 hc; clear hc
  refine R_o rfl (E_move (R_o rfl (E_extract rfl rfl ?_)))
  refine R_o rfl (E_extract rfl rfl ?_)
  refine R_o rfl (E_assign (R_o rfl (E_assign (R_nil (C_seq (C_region rfl (R_o rfl (E_move ?_))))))))
  obtain ⟨Ax, cx, rfl, _⟩ := (H.fr (rdv x (fun w => RdI w x (firstV (gains m) m.res.length (ordN m.ord))))).read.len
  obtain ⟨Ay, cy, rfl, _⟩ := (H.fr (rdv y (fun w => RdI w y (leastV m)))).read.len
  refine R_o rfl (E_move (R_o rfl (E_build (cs := [.slice Ax (firstV (gains m) m.res.length (ordN m.ord)).length cx, .slice Ay (leastV m).length cy]) rfl ?_)))
  refine R_n rfl (E_storea (vs := [.slice Ax (firstV (gains m) m.res.length (ordN m.ord)).length cx, .slice Ay (leastV m).length cy]) H rfl rfl rfl rfl (by simp) ?_)
  clear H; intro w H
  replace H := H.cle (cs' := [.slice Ax (firstV (gains m) m.res.length (ordN m.ord)).length cx, .slice Ay (leastV m).length cy]) rfl
  refine R_o rfl (E_assign (R_nil (C_ret ?_)))
  with_reducible repeat (first | refine thn_ret ?_ | refine inB_ret ?_ | refine noG_ret ?_ | refine jmp_ret ?_)
  first
    | exact ret_list (rs := [.cell 2 27, .tmp 3]) (vs := [.agg #[.slice none 0 0, .slice none 0 0], .int .i64 1]) rfl rfl ⟨res_cellw (b := b2) H rfl rfl, rfl, trivial⟩ (.inr ⟨h12, rfl, H.below⟩)
    | exact ret_list (rs := [.cell 2 27, .tmp 3]) (vs := [.agg #[.slice Ax (firstV (gains m) m.res.length (ordN m.ord)).length cx, .slice Ay (leastV m).length cy], .int .i64 0]) rfl rfl ⟨res_cellw (b := b2) H rfl rfl, rfl, trivial⟩ (.inl ⟨hok, _, _, rfl, (show Loc w0 w [rdv (.slice Ax (firstV (gains m) m.res.length (ordN m.ord)).length cx) (fun w => RdI w (.slice Ax (firstV (gains m) m.res.length (ordN m.ord)).length cx) (firstV (gains m) m.res.length (ordN m.ord))), rdv (.slice Ay (leastV m).length cy) (fun w => RdI w (.slice Ay (leastV m).length cy) (leastV m))] from H.al)⟩)
end Go.Sl
