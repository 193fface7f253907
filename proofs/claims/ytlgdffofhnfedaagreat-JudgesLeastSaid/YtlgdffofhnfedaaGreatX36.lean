/- Three small markets, plainly. No program in sight. judges: no world is not fine; the lives. -/
import Derived.Test.YtlgdffofhnfedaaGreatX31
import Derived.Test.YtlgdffofhnfedaaGreatX27
import Derived.Test.YtlgdffofhnfedaaGreatX34
set_option linter.unusedVariables false
namespace Go.Sl
theorem leastV_of {m : Mk} (hok : okMk m) {n : Nat} {p : List Int} (hi : itV m n = some p) (hs : stepV m p = none) : leastV m = p := by
  have he := end_spec hok
  by_cases h : n ≤ endN m
  · have e := (it_step hok h hi).1 hs
    rw [e, he.1] at hi
    exact Option.some.inj hi
  · obtain ⟨q, hq⟩ := it_before (q := []) (n - (endN m + 1)) (endN m + 1) (by rw [show endN m + 1 + (n - (endN m + 1)) = n by omega]; exact hi)
    simp only [itV, he.1, Option.bind_some, he.2] at hq
    cases hq
theorem isR_one {l : List Int} (h : isR l 1) : l = [] ∨ l = [0] := by
  match l, h with
  | [], _ => exact .inl rfl
  | [x], h => have := h.1 x (by simp); exact .inr (by rw [show x = 0 by omega])
  | x :: y :: l, h =>
    have h1 := h.1 x (by simp)
    have h2 := h.1 y (by simp)
    have h3 := (List.pairwise_cons.1 h.2).1 y (by simp)
    omega
theorem few1_none {g : List (List Int)} {sm : List Int} (h0 : ¬ tooMany g sm []) (h1 : ¬ tooMany g sm [0]) : fewV g 1 sm = none :=
  IsFew.eq (r := none) fun l hl => by
    rcases isR_one hl with rfl | rfl
    · exact h0
    · exact h1
theorem few1_some {g : List (List Int)} {sm : List Int} (h0 : ¬ tooMany g sm []) (h1 : tooMany g sm [0]) : fewV g 1 sm = some [0] :=
  IsFew.eq (r := some [0]) ⟨by decide, h1, fun l hl h => by
    rcases isR_one hl with rfl | rfl
    · exact absurd h h0
    · exact .inl rfl⟩
def mk0 : Mk := ⟨[2], [[9], [5]], [0, 1]⟩
def mk1 : Mk := ⟨[2], [[1], [5]], [0, 1]⟩
def mk2 : Mk := ⟨[2], [[9], [20]], [0, 1]⟩
theorem mk0_ok : okMk mk0 := by decide
theorem mk1_ok : okMk mk1 := by decide
theorem mk2_ok : okMk mk2 := by decide
theorem mk0_least : leastV mk0 = [5] := by
  have h1 : stepV mk0 [2] = some [5] := by
    unfold stepV
    rw [show (([2] : List Int).length : Int) = 1 from rfl, few1_some (by decide) (by decide)]
    have e : farL mk0 [2] [0] (mustV mk0 [2]) = [7, 3] := by rfl
    have hm : minV [7, 3] = 3 := IsMin.eq ⟨by simp, by decide⟩
    rw [Option.map_some, e, hm]; rfl
  have h2 : stepV mk0 [5] = none := by
    unfold stepV
    rw [show (([5] : List Int).length : Int) = 1 from rfl, few1_none (by decide) (by decide)]; rfl
  exact leastV_of mk0_ok (n := 1) (by simp only [itV, Option.bind_some]; exact h1) h2
theorem mk1_least : leastV mk1 = [2] := by
  have h2 : stepV mk1 [2] = none := by
    unfold stepV
    rw [show (([2] : List Int).length : Int) = 1 from rfl, few1_none (by decide) (by decide)]; rfl
  exact leastV_of mk1_ok (n := 0) rfl h2
theorem mk2_least : leastV mk2 = [9] := by
  have h1 : stepV mk2 [2] = some [9] := by
    unfold stepV
    rw [show (([2] : List Int).length : Int) = 1 from rfl, few1_some (by decide) (by decide)]
    have e : farL mk2 [2] [0] (mustV mk2 [2]) = [7, 18] := by rfl
    have hm : minV [7, 18] = 7 := IsMin.eq ⟨by simp, by decide⟩
    rw [Option.map_some, e, hm]; rfl
  have h2 : stepV mk2 [9] = none := by
    unfold stepV
    rw [show (([9] : List Int).length : Int) = 1 from rfl, few1_none (by decide) (by decide)]; rfl
  exact leastV_of mk2_ok (n := 1) (by simp only [itV, Option.bind_some]; exact h1) h2
theorem mk0_of : firstV (gains mk0) mk0.res.length (ordN mk0.ord) = [0, -1] := by rfl
theorem mk1_of : firstV (gains mk1) mk1.res.length (ordN mk1.ord) = [-1, 0] := by rfl
theorem mk2_of : firstV (gains mk2) mk2.res.length (ordN mk2.ord) = [-1, 0] := by rfl
theorem even_dec (m : Mk) (o : Oc) : evenV m o ↔ (okMk m ∧ o.has.length = m.bids.length ∧ o.pri.length = m.res.length ∧ (∀ i, i < o.has.length → -1 ≤ o.has.getD i 0 ∧ o.has.getD i 0 < (o.pri.length : Int)) ∧
    (∀ j, j < o.pri.length → o.has.count (j : Int) ≤ 1 ∧ priOk m o j ∧ (o.has.count (j : Int) = 0 → o.pri.getD j 0 = m.res.getD j 0)) ∧ ∀ i, i < m.bids.length → bidOk m o i) := Iff.rfl
theorem mk0_even : evenV mk0 ⟨[0, -1], [5]⟩ := by
  refine ⟨mk0_ok, rfl, rfl, by decide, fun j hj => ?_, fun i hi => ?_⟩
  · obtain rfl : j = 0 := by have : j < 1 := hj; omega
    exact ⟨by decide, by unfold priOk; decide, by decide⟩
  · have : i < 2 := hi
    rcases (by omega : i = 0 ∨ i = 1) with rfl | rfl
    · unfold bidOk rowOk; decide
    · unfold bidOk rowOk; decide
theorem mk0_yes : leastOk mk0 (ofV mk0) := by
  have e : ofV mk0 = ⟨[0, -1], [5]⟩ := by unfold ofV; rw [mk0_least, mk0_of]
  rw [e]
  exact ⟨mk0_even, by rfl, by rfl⟩
theorem mk0_no : ¬ leastOk mk0 ⟨[0, -1], [9]⟩ := fun h => by
  have h1 : wantTo mk0 ⟨[0, -1], [9]⟩ 2 = [5] := by rfl
  have h2 : wantTo mk0 ⟨[0, -1], [9]⟩ 2 = [9] := h.2.2
  rw [h1] at h2
  exact absurd h2 (by decide)
theorem mk0_true0 : trueV mk0 0 [1] := by
  have e : otherM mk0 0 [1] = mk1 := rfl
  unfold trueV hasV
  rw [e, mk0_least, mk1_least, mk0_of, mk1_of]
  decide
theorem mk0_true1 : trueV mk0 1 [20] := by
  have e : otherM mk0 1 [20] = mk2 := rfl
  unfold trueV hasV
  rw [e, mk0_least, mk2_least, mk0_of, mk2_of]
  decide
theorem mk0_ask0 : TrueOk mk0 0 [1] := by unfold TrueOk; decide
theorem mk0_ask1 : TrueOk mk0 1 [20] := by unfold TrueOk; decide
theorem mk0_ask2 : ¬ TrueOk mk0 2 [] := by unfold TrueOk; decide
end Go.Sl
set_option linter.unusedVariables false
set_option linter.unusedSimpArgs false
set_option maxRecDepth 10000
set_option maxHeartbeats 2000000
namespace Go.Sl
open Go.RowKit
open Go.Proofs
theorem bb_trans {w0 wB w : World} (h : Below w0.heap.size w0 wB) (k : Below wB.heap.size wB w) : Below w0.heap.size w0 w := h.trans (k.mono h.size)
section
variable {P : Program} {yl : Bool} {ρ : Rg} {w : World} {x y : Operand} {ty : TypeId} {K : Value → World → Prop} {Z : List PanicEntry → World → Prop} {t t' : TypeId}
theorem E_eqptr0 (hx : ρ.ev x = .pointer none) (hy : ρ.ev y = .pointer none) (h : P.underlying t = some (.pointer (P.pointee t))) (k : K (.bool true) w) : E P yl ρ w (.binOp .eql t x y t') ty K Z :=
 E_of_run (by simp [execOp, eqGuard, hx, hy, binOp, run_equal_pointer_nil w t none h]) k
theorem E_eqbool {a b : Bool} (hx : ρ.ev x = .bool a) (hy : ρ.ev y = .bool b) (h : P.underlying t = some .bool) (k : K (.bool (a == b)) w) : E P yl ρ w (.binOp .eql t x y t') ty K Z :=
 E_of_run (by simp [execOp, eqGuard, hx, hy, binOp, run_equal_bool w t a b h]) k
theorem E_eqboolT {a b : Bool} (hx : ρ.ev x = .bool a) (hy : ρ.ev y = .bool b) (h : a = b) (ht : P.underlying t = some .bool) (k : K (.bool true) w) : E P yl ρ w (.binOp .eql t x y t') ty K Z :=
 E_eqbool hx hy ht (by rw [h]; simpa using k)
end
theorem Fine0_ {w0 : World} :
   Ret Tryz.prog 24 [.pointer none] w0 (fun r w => r = .bool false ∧ Below w0.heap.size w0 w) := by
 refine ret_of_C Tryz.func24 rfl rfl rfl ?_
 have H := Loc.refl w0
 refine C_seq (C_region rfl (R_o rfl (E_assign (R_nil (C_seq (C_seq (C_region rfl (R_o rfl (E_move (R_o rfl (E_eqptr0 rfl rfl (by kernel_rfl) ?_)))))))))))
 refine R_o rfl (E_move (R_p rfl rfl rfl ?_))
 refine R_p rfl rfl rfl ?_
 refine R_o rfl (E_pick rfl ?_)
 refine R_nil (C_true (t := 13) rfl ?_)
 refine C_seq (C_region rfl (R_o rfl (E_assign (R_nil (C_ret ?_)))))
 with_reducible repeat (first | refine thn_ret ?_ | refine inB_ret ?_ | refine noG_ret ?_ | refine jmp_ret ?_)
 exact ret_one rfl rfl ⟨rfl, H.below⟩
theorem lives_ {w0 : World} :
   Ret Tryz.prog 8 [] w0 (fun r w => r = .bool true ∧ Below w0.heap.size w0 w) := by
 refine ret_of_C Tryz.func8 rfl rfl rfl ?_
 have H := Loc.refl w0
 refine C_seq (C_region rfl (R_o rfl (E_assign (R_nil (C_seq (C_region rfl (R_o rfl (E_lit (vs := [.int .i64 (2)]) [.const (.int .i64 (2))] rfl rfl rfl rfl rfl H ?_))))))))
 clear H; intro w b10 H
 refine R_o rfl (E_lit (vs := [.int .i64 (9)]) [.const (.int .i64 (9))] rfl rfl rfl rfl rfl H ?_)
 clear H; intro w b11 H
 refine R_o rfl (E_lit (vs := [.int .i64 (5)]) [.const (.int .i64 (5))] rfl rfl rfl rfl rfl H ?_)
 clear H; intro w b12 H
 refine R_o rfl (E_lit (vs := [.slice (some ⟨b11, 0, none⟩) 1 1, .slice (some ⟨b12, 0, none⟩) 1 1]) [.tmp 11, .tmp 12] rfl rfl rfl rfl rfl H ?_)
 clear H; intro w b13 H
 refine R_o rfl (E_lit (vs := [.int .i64 (0), .int .i64 (1)]) [.const (.int .i64 (0)), .const (.int .i64 (1))] rfl rfl rfl rfl rfl H ?_)
 clear H; intro w b14 H
 refine R_o rfl (E_build (cs := [.slice (some ⟨b10, 0, none⟩) 1 1, .slice (some ⟨b13, 0, none⟩) 2 2, .slice (some ⟨b14, 0, none⟩) 2 2]) rfl ?_)
 refine R_o rfl (E_alloc H ?_)
 clear H; intro w b1 H
 refine R_n rfl (E_storea (vs := [.slice (some ⟨b10, 0, none⟩) 1 1, .slice (some ⟨b13, 0, none⟩) 2 2, .slice (some ⟨b14, 0, none⟩) 2 2]) H rfl rfl rfl rfl (by simp) ?_)
 clear H; intro w H
 replace H := H.cle (cs' := [.slice (some ⟨b10, 0, none⟩) 1 1, .slice (some ⟨b13, 0, none⟩) 2 2, .slice (some ⟨b14, 0, none⟩) 2 2]) rfl
 refine R_nil (C_seq (C_region rfl ?_))
 have hm : RdM w (.agg #[.slice (some ⟨b10, 0, none⟩) 1 1, .slice (some ⟨b13, 0, none⟩) 2 2, .slice (some ⟨b14, 0, none⟩) 2 2]) mk0 := ⟨_, _, _, rfl, RdI.of_cl (b := b10) (xs := [2]) H (by simp), RdS.of_cl (r := RdI) (b := b13) (cap := 2) (xs := [[9], [5]]) H (by simp) (by omega) (fun i x hx => by
     match i, hx with
     | 0, hx => cases hx; exact ⟨_, rfl, RdI.of_cl (b := b11) (xs := [9]) H (by simp)⟩
     | 1, hx => cases hx; exact ⟨_, rfl, RdI.of_cl (b := b12) (xs := [5]) H (by simp)⟩
     | i + 2, hx => cases hx), RdI.of_cl (b := b14) (xs := [0, 1]) H (by simp)⟩
 have hBw := H.below
 have hb1 := (H.fr (cl b1 25 [.slice (some ⟨b10, 0, none⟩) 1 1, .slice (some ⟨b13, 0, none⟩) 2 2, .slice (some ⟨b14, 0, none⟩) 2 2])).get
 have q1 : ∀ j v, [.slice (some ⟨b10, 0, none⟩) 1 1, .slice (some ⟨b13, 0, none⟩) 2 2, .slice (some ⟨b14, 0, none⟩) 2 2][j]? = some v → w.cell? ⟨b1, 0 + j, none⟩ = some v := fun j v hj => by rw [cell_of_blk hb1, Nat.zero_add]; simpa using hj
 clear H
 rename World => wB
 have H := Loc.refl wB
 refine R_o rfl (E_loada_cell (vs := [.slice (some ⟨b10, 0, none⟩) 1 1, .slice (some ⟨b13, 0, none⟩) 2 2, .slice (some ⟨b14, 0, none⟩) 2 2]) rfl rfl (fun j v hj => Below.cell_some H.below (q1 j v hj)) ?_)
 refine R_o rfl (E_call rfl (Of15_ (Abides.below H.below hm)) ?_)
 rintro _ w1 hor
 obtain ⟨_, x, y, rfl, hc⟩ := hor.resolve_right (fun h => h.1 mk0_ok)
 have hx1 := rd_one (hc.fr (rdv x (fun w => RdI w x (ofV mk0).has))).read
 have hy1 := rd_one (hc.fr (rdv y (fun w => RdI w y (ofV mk0).pri))).read
 replace H := H.call2 hc; clear hc
 refine R_o rfl (E_move (R_o rfl (E_extract rfl rfl ?_)))
 refine R_o rfl (E_extract rfl rfl ?_)
 refine R_o rfl (E_alloc H ?_)
 clear H; intro w b2 H
 refine R_n rfl (E_storea (vs := [x, y]) H rfl rfl (all2 hx1 hy1) rfl (by simp) ?_)
 clear H; intro w H
 replace H := H.cle (cs' := [x, y]) rfl
 refine R_o rfl (E_assign (R_nil (C_seq (C_region rfl (R_o rfl (E_loada_cell (vs := [.slice (some ⟨b10, 0, none⟩) 1 1, .slice (some ⟨b13, 0, none⟩) 2 2, .slice (some ⟨b14, 0, none⟩) 2 2]) rfl rfl (fun j v hj => Below.cell_some H.below (q1 j v hj)) ?_))))))
 refine R_o rfl (E_lit (vs := [.int .i64 (1)]) [.const (.int .i64 (1))] rfl rfl rfl rfl rfl H ?_)
 clear H; intro w b23 H
 refine R_o rfl (E_call rfl (jTrue_ (bi := 0) (bid := [1]) (Abides.below H.below hm) (RdI.of_cl (b := b23) (xs := [1]) H (by simp)) (by decide)) ?_)
 rintro _ w1 hT
 obtain ⟨_, bb, rfl, hbb, hb⟩ := hT.resolve_right (fun h => h.1 mk0_ask0)
 obtain rfl : bb = true := hbb.2 mk0_true0
 replace H := H.call0 hb; clear hb hT
 refine R_o rfl (E_move (R_o rfl (E_extract rfl rfl ?_)))
 refine R_o rfl (E_extract rfl rfl ?_)
 refine R_o rfl (E_assign (R_o rfl (E_assign (R_nil (C_seq (C_region rfl (R_o rfl (E_loada_cell (vs := [.slice (some ⟨b10, 0, none⟩) 1 1, .slice (some ⟨b13, 0, none⟩) 2 2, .slice (some ⟨b14, 0, none⟩) 2 2]) rfl rfl (fun j v hj => Below.cell_some H.below (q1 j v hj)) ?_))))))))
 refine R_o rfl (E_lit (vs := [.int .i64 (20)]) [.const (.int .i64 (20))] rfl rfl rfl rfl rfl H ?_)
 clear H; intro w b29 H
 refine R_o rfl (E_call rfl (jTrue_ (bi := 1) (bid := [20]) (Abides.below H.below hm) (RdI.of_cl (b := b29) (xs := [20]) H (by simp)) (by decide)) ?_)
 rintro _ w1 hT
 obtain ⟨_, bb, rfl, hbb, hb⟩ := hT.resolve_right (fun h => h.1 mk0_ask1)
 obtain rfl : bb = true := hbb.2 mk0_true1
 replace H := H.call0 hb; clear hb hT
 refine R_o rfl (E_move (R_o rfl (E_extract rfl rfl ?_)))
 refine R_o rfl (E_extract rfl rfl ?_)
 refine R_o rfl (E_assign (R_o rfl (E_assign (R_nil (C_seq (C_region rfl (R_o rfl (E_loada_cell (vs := [.slice (some ⟨b10, 0, none⟩) 1 1, .slice (some ⟨b13, 0, none⟩) 2 2, .slice (some ⟨b14, 0, none⟩) 2 2]) rfl rfl (fun j v hj => Below.cell_some H.below (q1 j v hj)) ?_))))))))
 refine R_o rfl (E_call rfl (jTrue_ (bi := 2) (bid := []) (Abides.below H.below hm) (RdS.nil _ _) (by decide)) ?_)
 rintro _ w1 hT
 obtain ⟨_, rfl, hb⟩ := hT.resolve_left (fun h => mk0_ask2 h.1)
 replace H := H.call0 hb; clear hb hT
 refine R_o rfl (E_move (R_o rfl (E_extract rfl rfl ?_)))
 refine R_o rfl (E_extract rfl rfl ?_)
 refine R_o rfl (E_assign (R_o rfl (E_assign (R_nil (C_seq (C_region rfl (R_o rfl (E_move (R_o rfl (E_eql rfl rfl ?_))))))))))
 refine R_o rfl (E_move (R_w rfl rfl rfl (E_call rfl (Fine0_) ?_)))
 rintro _ w1 ⟨rfl, hb⟩
 replace H := H.call0 hb; clear hb
 refine R_w rfl rfl rfl (E_notb rfl ?_)
 refine R_o rfl (E_pick rfl ?_)
 refine R_o rfl (E_move (R_w rfl rfl rfl (E_loada_cell (vs := [.slice (some ⟨b10, 0, none⟩) 1 1, .slice (some ⟨b13, 0, none⟩) 2 2, .slice (some ⟨b14, 0, none⟩) 2 2]) rfl rfl (fun j v hj => Below.cell_some H.below (q1 j v hj)) ?_)))
 refine R_w rfl rfl rfl (E_loadw H rfl (by rfl) ?_)
 refine R_w rfl rfl rfl (E_call rfl (jLeast_ (o := ofV mk0) (Abides.below H.below hm) ⟨_, _, rfl, (H.fr (rdv x (fun w => RdI w x (ofV mk0).has))).read, (H.fr (rdv y (fun w => RdI w y (ofV mk0).pri))).read⟩) ?_)
 rintro _ w1 ⟨bb, rfl, hbb, hb⟩
 obtain rfl : bb = true := hbb.2 mk0_yes
 replace H := H.call0 hb; clear hb
 refine R_o rfl (E_pick rfl ?_)
 refine R_o rfl (E_move (R_w rfl rfl rfl (E_loada_cell (vs := [.slice (some ⟨b10, 0, none⟩) 1 1, .slice (some ⟨b13, 0, none⟩) 2 2, .slice (some ⟨b14, 0, none⟩) 2 2]) rfl rfl (fun j v hj => Below.cell_some H.below (q1 j v hj)) ?_)))
 refine R_w rfl rfl rfl (E_lit (vs := [.int .i64 (0), .int .i64 (-1)]) [.const (.int .i64 (0)), .const (.int .i64 (-1))] rfl rfl rfl rfl rfl H ?_)
 clear H; intro w b51 H
 refine R_w rfl rfl rfl (E_lit (vs := [.int .i64 (9)]) [.const (.int .i64 (9))] rfl rfl rfl rfl rfl H ?_)
 clear H; intro w b52 H
 refine R_w rfl rfl rfl (E_build (cs := [.slice (some ⟨b51, 0, none⟩) 2 2, .slice (some ⟨b52, 0, none⟩) 1 1]) rfl ?_)
 refine R_w rfl rfl rfl (E_call rfl (jLeast_ (o := ⟨[0, -1], [9]⟩) (Abides.below H.below hm) ⟨_, _, rfl, RdI.of_cl (b := b51) (xs := [0, -1]) H (by simp), RdI.of_cl (b := b52) (xs := [9]) H (by simp)⟩) ?_)
 rintro _ w1 ⟨bb, rfl, hbb, hb⟩
 obtain rfl : bb = false := Bool.eq_false_iff.2 (fun e => mk0_no (hbb.1 e))
 replace H := H.call0 hb; clear hb
 refine R_w rfl rfl rfl (E_notb rfl ?_)
 refine R_o rfl (E_pick rfl ?_)
 refine R_o rfl (E_move (R_w rfl rfl rfl (E_move ?_)))
 refine R_o rfl (E_pick rfl ?_)
 refine R_o rfl (E_move (R_w rfl rfl rfl (E_move ?_)))
 refine R_w rfl rfl rfl (E_eql rfl rfl ?_)
 refine R_o rfl (E_pick rfl ?_)
 refine R_o rfl (E_move (R_w rfl rfl rfl (E_move ?_)))
 refine R_o rfl (E_pick rfl ?_)
 refine R_o rfl (E_move (R_w rfl rfl rfl (E_move ?_)))
 refine R_w rfl rfl rfl (E_eql rfl rfl ?_)
 refine R_o rfl (E_pick rfl ?_)
 refine R_o rfl (E_move (R_w rfl rfl rfl (E_move ?_)))
 refine R_w rfl rfl rfl (E_eql rfl rfl ?_)
 refine R_o rfl (E_pick rfl ?_)
 refine R_o rfl (E_assign (R_nil (C_ret ?_)))
 with_reducible repeat (first | refine thn_ret ?_ | refine inB_ret ?_ | refine noG_ret ?_ | refine jmp_ret ?_)
 exact ret_one rfl rfl ⟨rfl, bb_trans hBw H.below⟩
end Go.Sl
