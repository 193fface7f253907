/- both judges say the same. -/
import Derived.Test.YtlgdffofhnfedaaGreatX36
set_option linter.unusedVariables false
set_option linter.unusedSimpArgs false
set_option maxRecDepth 10000
set_option maxHeartbeats 2000000
namespace Go.Sl
open Go.RowKit
open Go.Proofs
section
variable {P : Program} {yl : Bool} {ρ : Rg} {w : World} {x y : Operand} {ty : TypeId} {K : Value → World → Prop} {Z : List PanicEntry → World → Prop} {t t' : TypeId}
theorem E_eqlT {kk : IntKind} {a b : Int} (hx : ρ.ev x = .int kk a) (hy : ρ.ev y = .int kk b) (h : a = b) (k : K (.bool true) w) : E P yl ρ w (.binOp .eql t x y t') ty K Z :=
 E_eql hx hy (by rw [decide_eq_true h]; exact k)
end
theorem at03 {α : Type} {a b c v : α} {l : List α} : ∀ (j : Nat), [a, b, c][j]? = some v → (a :: b :: c :: l)[0 + j]? = some v
 | 0, h => h
 | 1, h => h
 | 2, h => h
 | j + 3, h => by cases h
theorem at32 {α : Type} {a b c x y v : α} {l : List α} : ∀ (j : Nat), [x, y][j]? = some v → (a :: b :: c :: x :: y :: l)[0 + 3 + j]? = some v
 | 0, h => h
 | 1, h => h
 | j + 2, h => by cases h
def TrueIs (m : Mk) (i : Int) (bid : List Int) (b : Bool) (e : Int) : Prop := (TrueOk m i bid ∧ e = 0 ∧ (b = true ↔ trueV m i.toNat bid)) ∨ (¬ TrueOk m i bid ∧ e = 1 ∧ b = false)
theorem TruePo.form {m : Mk} {i : Int} {bid : List Int} {w0 w : World} {r : Value} (h : TruePo m i bid w0 r w) : ∃ b e, r = .tuple #[.bool b, .int .i64 e] ∧ TrueIs m i bid b e ∧ Below w0.heap.size w0 w := by
 rcases h with ⟨h1, b, rfl, h2, h3⟩ | ⟨h1, rfl, h3⟩
 · exact ⟨_, _, rfl, .inl ⟨h1, rfl, h2⟩, h3⟩
 · exact ⟨_, _, rfl, .inr ⟨h1, rfl, rfl⟩, h3⟩
theorem TrueIs.same {m : Mk} {i : Int} {bid : List Int} {b b' : Bool} {e e' : Int} (h : TrueIs m i bid b e) (h' : TrueIs m i bid b' e') : b = b' ∧ e = e' := by
 rcases h with ⟨h1, h2, h3⟩ | ⟨h1, h2, h3⟩ <;> rcases h' with ⟨k1, k2, k3⟩ | ⟨k1, k2, k3⟩
 · exact ⟨by rw [Bool.eq_iff_iff, h3, k3], by rw [h2, k2]⟩
 · exact absurd h1 k1
 · exact absurd k1 h1
 · exact ⟨by rw [h3, k3], by rw [h2, k2]⟩
theorem JudgesOf_ {w0 : World} {a b c ha pa u : Value} {m : Mk} {o : Oc} {bi : Int} {bid : List Int} (hm : RdM w0 (.agg #[a, b, c]) m) (ho : RdO w0 (.agg #[ha, pa]) o) (hu : RdI w0 u bid) (hle : m.le 1048576) (hol : o.le 1048576) (hbl : bid.length ≤ 1048576) (hbi : bi ≤ 9223372036854775807) :
   Ret Tryz.prog 3 [.agg #[a, b, c, ha, pa, .int .i64 bi, u]] w0 (fun r w => r = .bool true ∧ Below w0.heap.size w0 w) := by
 refine ret_of_C Tryz.func3 rfl rfl rfl ?_
 have H := Loc.refl w0
 obtain ⟨_, _, _, e, ra, rb, rc⟩ := id hm
 cases e
 obtain ⟨_, _, e, rh, rp⟩ := id ho
 cases e
 obtain ⟨A1, c1, rfl, hA1, hA2⟩ := ra.len
 obtain ⟨A2, c2, rfl, hB1, hB2⟩ := rb.len
 obtain ⟨A5, c5, rfl, hE1, hE2⟩ := rc.len
 obtain ⟨A3, c3, rfl, hC1, hC2⟩ := rh.len
 obtain ⟨A4, c4, rfl, hD1, hD2⟩ := rp.len
 obtain ⟨A6, c6, rfl, hF1, hF2⟩ := hu.len
 have hol1 := hol.1
 have hol2 := hol.2
 refine C_seq (C_region rfl (R_o rfl (E_box (cs := [.slice A1 m.res.length c1, .slice A2 m.bids.length c2, .slice A5 m.ord.length c5, .slice A3 o.has.length c3, .slice A4 o.pri.length c4, .int .i64 bi, .slice A6 bid.length c6]) rfl H ?_)))
 clear H; intro w b1 H
 refine R_o rfl (E_assign (R_nil (C_seq (C_seq (C_region rfl ?_)))))
 have hb1 := (H.fr (cl b1 29 [.slice A1 m.res.length c1, .slice A2 m.bids.length c2, .slice A5 m.ord.length c5, .slice A3 o.has.length c3, .slice A4 o.pri.length c4, .int .i64 bi, .slice A6 bid.length c6])).get
 have hBw := H.below
 have hmB := Abides.below hBw hm
 have hoB := Abides.below hBw ho
 have huB := Abides.below hBw hu
 have q1 : ∀ j v, [.slice A1 m.res.length c1, .slice A2 m.bids.length c2, .slice A5 m.ord.length c5, .slice A3 o.has.length c3, .slice A4 o.pri.length c4, .int .i64 bi, .slice A6 bid.length c6][j]? = some v → w.cell? ⟨b1, j, none⟩ = some v := fun j v hj => by rw [cell_of_blk hb1]; simpa using hj
 clear H
 have H := Loc.refl w
 refine R_o rfl (E_fieldAddr rfl ?_)
 refine R_o rfl (E_loada_cell (vs := [.slice A1 m.res.length c1, .slice A2 m.bids.length c2, .slice A5 m.ord.length c5]) rfl rfl (fun j v hj => Below.cell_some H.below (q1 (0 + j) v (at03 j hj))) ?_)
 refine R_o rfl (E_call rfl (MarketSize_ (Abides.below H.below hmB) hle) ?_)
 rintro _ w1 ⟨sz, rfl, hsz, hb⟩
 replace H := H.call0 hb; clear hb
 refine R_o rfl (E_gtr rfl rfl ?_)
 refine R_o rfl (E_move (R_part (t := 14) rfl (fun h14 => ?_) (fun h14 => ?_)))
 ·
  refine R_p rfl rfl rfl ?_
  refine R_p rfl rfl rfl ?_
  refine R_p rfl rfl rfl ?_
  refine R_p rfl rfl rfl ?_
  refine R_p rfl rfl rfl ?_
  refine R_p rfl rfl rfl ?_
  refine R_p rfl rfl rfl ?_
  refine R_p rfl rfl rfl ?_
  refine R_p rfl rfl rfl ?_
  refine R_p rfl rfl rfl ?_
  refine R_p rfl rfl rfl ?_
  refine R_p rfl rfl rfl ?_
  refine R_p rfl rfl rfl ?_
  refine R_p rfl rfl rfl ?_
  refine R_o rfl (E_pick rfl ?_)
  refine R_nil (C_true (t := 29) rfl ?_)
  refine C_seq (C_region rfl (R_o rfl (E_call rfl (lives_) ?_)))
  rintro _ w1 ⟨rfl, hb⟩
  replace H := H.call0 hb; clear hb
  refine R_o rfl (E_assign (R_nil (C_ret ?_)))
  with_reducible repeat (first | refine thn_ret ?_ | refine inB_ret ?_ | refine noG_ret ?_ | refine jmp_ret ?_)
  exact ret_one rfl rfl ⟨rfl, bb_trans hBw H.below⟩
 ·
  refine R_w rfl rfl rfl (E_fieldAddr rfl ?_)
  refine R_w rfl rfl rfl (E_fieldAddr rfl ?_)
  refine R_w rfl rfl rfl (E_load_cell rfl (Below.cell_some H.below (q1 3 _ rfl)) ?_)
  refine R_w rfl rfl rfl (E_len rfl ?_)
  refine R_w rfl rfl rfl (E_fieldAddr rfl ?_)
  refine R_w rfl rfl rfl (E_fieldAddr rfl ?_)
  refine R_w rfl rfl rfl (E_load_cell rfl (Below.cell_some H.below (q1 4 _ rfl)) ?_)
  refine R_w rfl rfl rfl (E_len rfl ?_)
  refine R_w rfl rfl rfl (E_add rfl rfl (by omega) ?_)
  refine R_w rfl rfl rfl (E_fieldAddr rfl ?_)
  refine R_w rfl rfl rfl (E_load_cell rfl (Below.cell_some H.below (q1 6 _ rfl)) ?_)
  refine R_w rfl rfl rfl (E_len rfl ?_)
  refine R_w rfl rfl rfl (E_add rfl rfl (by omega) ?_)
  refine R_w rfl rfl rfl (E_gtr rfl rfl ?_)
  refine R_o rfl (E_pick rfl ?_)
  refine R_nil (C_cond (t := 29) rfl (fun h29 => ?_) (fun h29 => ?_))
  ·
   refine C_seq (C_region rfl (R_o rfl (E_call rfl (lives_) ?_)))
   rintro _ w1 ⟨rfl, hb⟩
   replace H := H.call0 hb; clear hb
   refine R_o rfl (E_assign (R_nil (C_ret ?_)))
   with_reducible repeat (first | refine thn_ret ?_ | refine inB_ret ?_ | refine noG_ret ?_ | refine jmp_ret ?_)
   exact ret_one rfl rfl ⟨rfl, bb_trans hBw H.below⟩
  ·
   have hm1 : m.le 1000 := hsz (by omega)
   have ho1 : o.le 1000 := ⟨by omega, by omega⟩
   have hb1' : bid.length ≤ 1000 := by omega
   refine C_skip (C_seq (C_region rfl (R_o rfl (E_fieldAddr rfl ?_))))
   refine R_o rfl (E_loada_cell (vs := [.slice A1 m.res.length c1, .slice A2 m.bids.length c2, .slice A5 m.ord.length c5]) rfl rfl (fun j v hj => Below.cell_some H.below (q1 (0 + j) v (at03 j hj))) ?_)
   refine R_o rfl (E_call rfl (TwinMarket_ (Abides.below H.below hmB) hm1) ?_)
   rintro v33 w1 hc
   obtain ⟨x1, x2, x3, rfl, r1, r2, r3⟩ := hc.read.rd
   have hx1 := rd_one r1
   have hx2 := rd_one r2
   have hx3 := rd_one r3
   replace H := H.call1 hc; clear hc
   refine R_o rfl (E_alloc H ?_)
   clear H; intro w b3 H
   refine R_n rfl (E_storea (vs := [x1, x2, x3]) H rfl rfl (all3 hx1 hx2 hx3) rfl (by simp) ?_)
   clear H; intro w H
   replace H := H.cle (cs' := [x1, x2, x3]) rfl
   refine R_nil (C_seq (C_region rfl (R_o rfl (E_fieldAddr rfl ?_))))
   refine R_o rfl (E_loada_cell (vs := [.slice A3 o.has.length c3, .slice A4 o.pri.length c4]) rfl rfl (fun j v hj => Below.cell_some H.below (q1 (0 + 3 + j) v (at32 j hj))) ?_)
   refine R_o rfl (E_call rfl (TwinOutcome_ (Abides.below H.below hoB) ho1) ?_)
   rintro v36 w1 hc
   obtain ⟨y1, y2, rfl, r1, r2⟩ := hc.read.rd
   have hy1 := rd_one r1
   have hy2 := rd_one r2
   replace H := H.call1 hc; clear hc
   refine R_o rfl (E_alloc H ?_)
   clear H; intro w b4 H
   refine R_n rfl (E_storea (vs := [y1, y2]) H rfl rfl (all2 hy1 hy2) rfl (by simp) ?_)
   clear H; intro w H
   replace H := H.cle (cs' := [y1, y2]) rfl
   refine R_nil (C_seq (C_region rfl (R_o rfl (E_fieldAddr rfl ?_))))
   refine R_o rfl (E_load_cell rfl (Below.cell_some H.below (q1 6 _ rfl)) ?_)
   refine R_o rfl (E_call rfl (TwinInts_ (Abides.below H.below huB) (by omega)) ?_)
   rintro v39 w1 hc
   replace H := H.call1 hc; clear hc
   refine R_o rfl (E_assign (R_nil (C_seq (C_region rfl (R_o rfl (E_loadw H rfl (by rfl) ?_))))))
   refine R_o rfl (E_fieldAddr rfl ?_)
   refine R_o rfl (E_load_cell rfl (Below.cell_some H.below (q1 5 _ rfl)) ?_)
   refine R_o rfl (E_move (R_o rfl (E_call rfl (jTrue_ ((H.fr (rdv (.agg #[x1, x2, x3]) (fun w => TwM w (.agg #[x1, x2, x3]) m))).read).rd ((H.fr (rdv v39 (fun w => TwI w v39 bid))).read).rd hbi) ?_)))
   rintro _ w1 hT
   obtain ⟨p6, e6, rfl, hT6, hb⟩ := hT.form
   replace H := H.call0 hb; clear hb hT
   refine R_o rfl (E_move (R_o rfl (E_extract rfl rfl ?_)))
   refine R_o rfl (E_extract rfl rfl ?_)
   refine R_o rfl (E_assign (R_o rfl (E_assign (R_nil (C_seq (C_region rfl (R_o rfl (E_fieldAddr rfl ?_))))))))
   refine R_o rfl (E_loada_cell (vs := [.slice A1 m.res.length c1, .slice A2 m.bids.length c2, .slice A5 m.ord.length c5]) rfl rfl (fun j v hj => Below.cell_some H.below (q1 (0 + j) v (at03 j hj))) ?_)
   refine R_o rfl (E_fieldAddr rfl ?_)
   refine R_o rfl (E_load_cell rfl (Below.cell_some H.below (q1 5 _ rfl)) ?_)
   refine R_o rfl (E_fieldAddr rfl ?_)
   refine R_o rfl (E_load_cell rfl (Below.cell_some H.below (q1 6 _ rfl)) ?_)
   refine R_o rfl (E_call rfl (R28True_ (Abides.below H.below hmB) (Abides.below H.below huB) hbi) ?_)
   rintro _ w1 hT
   obtain ⟨p7, e7, rfl, hT7, hb⟩ := hT.form
   replace H := H.call0 hb; clear hb hT
   have hsame := hT6.same hT7
   refine R_o rfl (E_move (R_o rfl (E_extract rfl rfl ?_)))
   refine R_o rfl (E_extract rfl rfl ?_)
   refine R_o rfl (E_assign (R_o rfl (E_assign (R_nil (C_seq (C_drawL [] H (by kernel_rfl) (fun w H => ?_)))))))
   refine D_takeT 0 rfl rfl rfl (by kernel_rfl) (fun w K Z kk => E_move kk) ?_
   refine D_takeT 1 rfl rfl rfl (by kernel_rfl) (fun w K Z kk => E_move kk) ?_
   refine D_takeT 2 rfl rfl rfl (by kernel_rfl) (fun w K Z kk => E_eqboolT rfl rfl hsame.1 (by kernel_rfl) kk) ?_
   refine D_takeT 3 rfl rfl rfl (by kernel_rfl) (fun w K Z kk => E_move kk) ?_
   refine D_takeTw 4 rfl rfl rfl rfl rfl (by kernel_rfl) (fun w K Z kk => E_move kk) ?_
   refine D_takeTw 5 rfl rfl rfl rfl rfl (by kernel_rfl) (fun w K Z kk => E_move kk) ?_
   refine D_takeTw 6 rfl rfl rfl rfl rfl (by kernel_rfl) (fun w K Z kk => E_eqlT rfl rfl hsame.2 kk) ?_
   refine D_takeT 7 rfl rfl rfl (by kernel_rfl) (fun w K Z kk => E_pick rfl kk) ?_
   refine D_takeT 8 rfl rfl rfl (by kernel_rfl) (fun w K Z kk => E_move kk) ?_
   refine D_takew 9 rfl rfl rfl rfl rfl (by kernel_rfl) (by first | exact H | exact H.drop | exact H.drop.drop | exact H.drop.drop.drop | exact H.drop.drop.drop.drop) (fun w HS K Z kk => E_loadw HS rfl (by rfl) kk) ?_
   refine D_takew 10 rfl rfl rfl rfl rfl (by kernel_rfl) (by first | exact H | exact H.drop | exact H.drop.drop | exact H.drop.drop.drop | exact H.drop.drop.drop.drop) (fun w HS K Z kk => E_loadw HS rfl (by rfl) kk) ?_
   refine D_takeTw 12 rfl rfl rfl rfl rfl (by kernel_rfl) (fun w K Z kk => E_fieldAddr rfl kk) ?_
   refine D_takew 13 rfl rfl rfl rfl rfl (by kernel_rfl) (by first | exact H | exact H.drop | exact H.drop.drop | exact H.drop.drop.drop | exact H.drop.drop.drop.drop) (fun w HS K Z kk => E_loada_cell (vs := [.slice A1 m.res.length c1, .slice A2 m.bids.length c2, .slice A5 m.ord.length c5]) rfl rfl (fun j v hj => Below.cell_some HS.below (q1 (0 + j) v (at03 j hj))) kk) ?_
   refine D_takeTw 14 rfl rfl rfl rfl rfl (by kernel_rfl) (fun w K Z kk => E_fieldAddr rfl kk) ?_
   refine D_takew 15 rfl rfl rfl rfl rfl (by kernel_rfl) (by first | exact H | exact H.drop | exact H.drop.drop | exact H.drop.drop.drop | exact H.drop.drop.drop.drop) (fun w HS K Z kk => E_loada_cell (vs := [.slice A3 o.has.length c3, .slice A4 o.pri.length c4]) rfl rfl (fun j v hj => Below.cell_some HS.below (q1 (0 + 3 + j) v (at32 j hj))) kk) ?_
   refine D_actw 11 rfl rfl rfl rfl (by kernel_rfl) (E_call rfl (jLeast_ ((H.fr (rdv (.agg #[x1, x2, x3]) (fun w => TwM w (.agg #[x1, x2, x3]) m))).read).rd ((H.fr (rdv (.agg #[y1, y2]) (fun w => TwO w (.agg #[y1, y2]) o))).read).rd) ?_)
   rintro _ w1 ⟨p69, rfl, h69, hb⟩
   replace H := H.call0 hb; clear hb
   refine ⟨fun _ _ => (by first | exact H | exact H.drop | exact H.drop.drop | exact H.drop.drop.drop | exact H.drop.drop.drop.drop), ?_⟩
   refine D_actw 16 rfl rfl rfl rfl (by kernel_rfl) (E_call rfl (R28Least_ (Abides.below H.below hmB) (Abides.below H.below hoB)) ?_)
   rintro _ w1 ⟨p74, rfl, h74, hb⟩
   replace H := H.call0 hb; clear hb
   have hsame2 : p69 = p74 := by rw [Bool.eq_iff_iff, h69, h74]
   refine ⟨fun _ _ => (by first | exact H | exact H.drop | exact H.drop.drop | exact H.drop.drop.drop | exact H.drop.drop.drop.drop), ?_⟩
   refine D_takeTw 17 rfl rfl rfl rfl rfl (by kernel_rfl) (fun w K Z kk => E_eqboolT rfl rfl hsame2 (by kernel_rfl) kk) ?_
   refine D_takeT 18 rfl rfl rfl (by kernel_rfl) (fun w K Z kk => E_pick rfl kk) ?_
   refine D_takeT 19 rfl rfl rfl (by kernel_rfl) (fun w K Z kk => E_move kk) ?_
   refine D_takew 20 rfl rfl rfl rfl rfl (by kernel_rfl) (by first | exact H | exact H.drop | exact H.drop.drop | exact H.drop.drop.drop | exact H.drop.drop.drop.drop) (fun w HS K Z kk => E_loadw HS rfl (by rfl) kk) ?_
   refine D_takeTw 21 rfl rfl rfl rfl rfl (by kernel_rfl) (fun w K Z kk => E_fieldAddr rfl kk) ?_
   refine D_takew 22 rfl rfl rfl rfl rfl (by kernel_rfl) (by first | exact H | exact H.drop | exact H.drop.drop | exact H.drop.drop.drop | exact H.drop.drop.drop.drop) (fun w HS K Z kk => E_loada_cell (vs := [.slice A1 m.res.length c1, .slice A2 m.bids.length c2, .slice A5 m.ord.length c5]) rfl rfl (fun j v hj => Below.cell_some HS.below (q1 (0 + j) v (at03 j hj))) kk) ?_
   refine D_actw 23 rfl rfl rfl rfl (by kernel_rfl) (E_call rfl (LeftMarket_ ((H.fr (rdv (.agg #[x1, x2, x3]) (fun w => TwM w (.agg #[x1, x2, x3]) m))).read) (Abides.below H.below hmB) hm1) ?_)
   rintro _ w1 ⟨rfl, hb⟩
   replace H := H.call0 hb; clear hb
   refine ⟨fun _ _ => (by first | exact H | exact H.drop | exact H.drop.drop | exact H.drop.drop.drop | exact H.drop.drop.drop.drop), ?_⟩
   refine D_takeT 24 rfl rfl rfl (by kernel_rfl) (fun w K Z kk => E_pick rfl kk) ?_
   refine D_takeT 25 rfl rfl rfl (by kernel_rfl) (fun w K Z kk => E_move kk) ?_
   refine D_takew 26 rfl rfl rfl rfl rfl (by kernel_rfl) (by first | exact H | exact H.drop | exact H.drop.drop | exact H.drop.drop.drop | exact H.drop.drop.drop.drop) (fun w HS K Z kk => E_loadw HS rfl (by rfl) kk) ?_
   refine D_takeTw 27 rfl rfl rfl rfl rfl (by kernel_rfl) (fun w K Z kk => E_fieldAddr rfl kk) ?_
   refine D_takew 28 rfl rfl rfl rfl rfl (by kernel_rfl) (by first | exact H | exact H.drop | exact H.drop.drop | exact H.drop.drop.drop | exact H.drop.drop.drop.drop) (fun w HS K Z kk => E_loada_cell (vs := [.slice A3 o.has.length c3, .slice A4 o.pri.length c4]) rfl rfl (fun j v hj => Below.cell_some HS.below (q1 (0 + 3 + j) v (at32 j hj))) kk) ?_
   refine D_actw 29 rfl rfl rfl rfl (by kernel_rfl) (E_call rfl (LeftOutcome_ ((H.fr (rdv (.agg #[y1, y2]) (fun w => TwO w (.agg #[y1, y2]) o))).read) (Abides.below H.below hoB) ho1) ?_)
   rintro _ w1 ⟨rfl, hb⟩
   replace H := H.call0 hb; clear hb
   refine ⟨fun _ _ => (by first | exact H | exact H.drop | exact H.drop.drop | exact H.drop.drop.drop | exact H.drop.drop.drop.drop), ?_⟩
   refine D_takeT 30 rfl rfl rfl (by kernel_rfl) (fun w K Z kk => E_pick rfl kk) ?_
   refine D_takeT 31 rfl rfl rfl (by kernel_rfl) (fun w K Z kk => E_move kk) ?_
   refine D_takeTw 32 rfl rfl rfl rfl rfl (by kernel_rfl) (fun w K Z kk => E_move kk) ?_
   refine D_takeTw 33 rfl rfl rfl rfl rfl (by kernel_rfl) (fun w K Z kk => E_fieldAddr rfl kk) ?_
   refine D_takew 34 rfl rfl rfl rfl rfl (by kernel_rfl) (by first | exact H | exact H.drop | exact H.drop.drop | exact H.drop.drop.drop | exact H.drop.drop.drop.drop) (fun w HS K Z kk => E_load_cell rfl (Below.cell_some HS.below (q1 6 _ rfl)) kk) ?_
   refine D_actw 35 rfl rfl rfl rfl (by kernel_rfl) (E_call rfl (LeftInts_ ((H.fr (rdv v39 (fun w => TwI w v39 bid))).read) (Abides.below H.below huB) (by omega)) ?_)
   rintro _ w1 ⟨rfl, hb⟩
   replace H := H.call0 hb; clear hb
   refine ⟨fun _ _ => (by first | exact H | exact H.drop | exact H.drop.drop | exact H.drop.drop.drop | exact H.drop.drop.drop.drop), ?_⟩
   refine D_takeT 36 rfl rfl rfl (by kernel_rfl) (fun w K Z kk => E_pick rfl kk) ?_
   refine D_takeT 37 rfl rfl rfl (by kernel_rfl) (fun w K Z kk => E_move kk) ?_
   refine D_actw 38 rfl rfl rfl rfl (by kernel_rfl) (E_call rfl (lives_) ?_)
   rintro _ w1 ⟨rfl, hb⟩
   replace H := H.call0 hb; clear hb
   refine ⟨fun _ _ => (by first | exact H | exact H.drop | exact H.drop.drop | exact H.drop.drop.drop | exact H.drop.drop.drop.drop), ?_⟩
   refine D_takeT 39 rfl rfl rfl (by kernel_rfl) (fun w K Z kk => E_pick rfl kk) ?_
   refine D_takeT 40 rfl rfl rfl (by kernel_rfl) (fun w K Z kk => E_assign kk) ?_
   refine D_done (by kernel_rfl) ?_
   refine C_ret ?_
   with_reducible repeat (first | refine thn_ret ?_ | refine inB_ret ?_ | refine noG_ret ?_ | refine jmp_ret ?_)
   exact ret_one rfl rfl ⟨rfl, bb_trans hBw H.below⟩
end Go.Sl
