/- the least outcome, by the second judge. -/
import Derived.Test.YtlgdffofhnfedaaGreatX34
set_option linter.unusedVariables false
set_option linter.unusedSimpArgs false
set_option maxRecDepth 10000
set_option maxHeartbeats 2000000
namespace Go.Sl
open Go.RowKit
open Go.Proofs
theorem bb_trans {w0 wB w : World} (h : Below w0.heap.size w0 wB) (k : Below wB.heap.size wB w) : Below w0.heap.size w0 w := h.trans (k.mono h.size)
theorem R10Best2_ {w0 : World} {v : Value} {g : List (List Int)} {n : Nat} (hg : RdII w0 v g) (hn : n ≤ 9223372036854775807) (ho : okG g n) : Ret Tryz.prog 39 [v, .int .i64 n] w0 (fun v w => v = .tuple #[.int .i64 (bestV g n), .int .i64 0] ∧ Below w0.heap.size w0 w) :=
 (R10Best_ hg hn).mono fun v w h => by rw [BestV, if_pos ho] at h; exact h
theorem R28Least_ {w0 : World} {u v : Value} {m : Mk} {o : Oc} (hm : RdM w0 u m) (ho : RdO w0 v o) :
   Ret Tryz.prog 15 [u, v] w0 (fun r w => ∃ b, r = .bool b ∧ (b = true ↔ leastOk m o) ∧ Below w0.heap.size w0 w) := by
 refine ret_of_C Tryz.func15 rfl rfl rfl ?_
 have H := Loc.refl w0
 have hm0 := hm
 have ho0 := ho
 obtain ⟨a, b, c, rfl, ra, rb, rc⟩ := hm
 obtain ⟨ha, pa, rfl, rh, rp⟩ := ho
 obtain ⟨A1, c1, rfl, hA1, hA2⟩ := ra.len
 obtain ⟨A2, c2, rfl, hB1, hB2⟩ := rb.len
 obtain ⟨A5, c5, rfl, hE1, hE2⟩ := rc.len
 obtain ⟨A3, c3, rfl, hC1, hC2⟩ := rh.len
 obtain ⟨A4, c4, rfl, hD1, hD2⟩ := rp.len
 refine C_seq (C_region rfl (R_o rfl (E_box (cs := [.slice A1 m.res.length c1, .slice A2 m.bids.length c2, .slice A5 m.ord.length c5]) rfl H ?_)))
 clear H; intro w b2 H
 refine R_o rfl (E_box (cs := [.slice A3 o.has.length c3, .slice A4 o.pri.length c4]) rfl H ?_)
 clear H; intro w b3 H
 refine R_o rfl (E_assign (R_nil (C_seq (C_seq (C_region rfl (R_o rfl (E_loadw H rfl (by rfl) ?_)))))))
 refine R_o rfl (E_loadw H rfl (by rfl) ?_)
 refine R_o rfl (E_call rfl (R15Even_ (Abides.below H.below hm0) (Abides.below H.below ho0)) ?_)
 rintro _ w1 ⟨bb, rfl, hbb, hb⟩
 replace H := H.call0 hb; clear hb
 refine R_o rfl (E_notb rfl ?_)
 refine R_nil (C_condb (t := 23) rfl (fun h23 => ?_) (fun h23 => ?_))
 ·
  have hE' : ¬ evenV m o := fun h => by rw [hbb.2 h] at h23; cases h23
  refine C_seq (C_region rfl (R_o rfl (E_assign (R_nil (C_ret ?_)))))
  with_reducible repeat (first | refine thn_ret ?_ | refine inB_ret ?_ | refine noG_ret ?_ | refine jmp_ret ?_)
  first
    | (have h' := hE'
       exact ret_one rfl rfl ⟨_, rfl, ⟨(fun h => by cases h), fun h => absurd h.1 hE'⟩, H.below⟩)
    | (have h' : ¬ z = x := h144
       exact ret_one rfl hd ⟨_, rfl, ⟨(fun h => by cases h), fun h => absurd h.2.2 (fun e => h' (by rw [e, hx] at hz; exact (Option.some.inj hz).symm))⟩, bb_trans hBw H.below⟩)
    | (have hw : wantTo m o o.has.length = o.pri := by
         apply List.ext_getElem?
         intro j
         by_cases hj : j < m.res.length
         · obtain ⟨y, hy⟩ := get_of (xs := wantTo m o o.has.length) (k := j) (by simp; omega)
           obtain ⟨y', hy'⟩ := get_of (xs := o.pri) (k := j) (by omega)
           have := hst j hj
           rw [getD_of hy, getD_of hy'] at this
           rw [hy, hy', this]
         · rw [List.getElem?_eq_none (by simp; omega), List.getElem?_eq_none (by omega)]
       exact ret_one rfl hd ⟨_, rfl, by rw [decide_eq_true_iff]; exact ⟨fun h => ⟨hE, h, hw⟩, fun h => h.2.1⟩, bb_trans hBw H.below⟩)
 ·
  have hE : evenV m o := hbb.1 (by simpa using h23)
  have hok := hE.1
  refine C_skip (C_seq (C_region rfl (R_o rfl (E_loadw H rfl (by rfl) ?_))))
  refine R_o rfl (E_call rfl (R5Gains2_ (Abides.below H.below hm0)) ?_)
  rintro _ w1 ⟨g1, e1, rfl, hor⟩
  obtain ⟨_, rfl, hc⟩ := hor.resolve_right (fun h => h.1 hok)
  obtain ⟨Ag_, cg, rfl, hg1, hg2⟩ := hc.read.len
  replace H := H.call1 hc; clear hc
  refine R_o rfl (E_move (R_o rfl (E_extract rfl rfl ?_)))
  refine R_o rfl (E_extract rfl rfl ?_)
  refine R_o rfl (E_assign (R_o rfl (E_assign (R_nil (C_seq (C_region rfl (R_o rfl (E_move (R_o rfl (E_fieldAddr rfl ?_))))))))))
  refine R_o rfl (E_load H rfl rfl ?_)
  refine R_o rfl (E_len rfl ?_)
  refine R_o rfl (E_call rfl (R10Best2_ (g := gains m) (H.fr (rdv (.slice Ag_ (gains m).length cg) (fun w => RdII w (.slice Ag_ (gains m).length cg) (gains m)))).read (by have := hok.1.2.1; omega) (gains_okG hok)) ?_)
  rintro _ wB ⟨rfl, hb⟩
  replace H := H.call0 hb; clear hb
  refine R_o rfl (E_move (R_o rfl (E_extract rfl rfl ?_)))
  refine R_o rfl (E_extract rfl rfl ?_)
  refine R_o rfl (E_assign (R_o rfl (E_assign (R_nil (C_seq (C_region rfl (R_o rfl (E_assign (R_nil (C_seq (C_region rfl ?_)))))))))))
  have hBw := H.below
  have hb2 := (H.fr (cl b2 25 [.slice A1 m.res.length c1, .slice A2 m.bids.length c2, .slice A5 m.ord.length c5])).get
  have hb3 := (H.fr (cl b3 27 [.slice A3 o.has.length c3, .slice A4 o.pri.length c4])).get
  have hgB := (H.fr (rdv (.slice Ag_ (gains m).length cg) (fun w => RdII w (.slice Ag_ (gains m).length cg) (gains m)))).read
  have q2 : ∀ j v, [.slice A1 m.res.length c1, .slice A2 m.bids.length c2, .slice A5 m.ord.length c5][j]? = some v → wB.cell? ⟨b2, 0 + j, none⟩ = some v := fun j v hj => by rw [cell_of_blk hb2, Nat.zero_add]; simpa using hj
  have q3 : ∀ j v, [.slice A3 o.has.length c3, .slice A4 o.pri.length c4][j]? = some v → wB.cell? ⟨b3, 0 + j, none⟩ = some v := fun j v hj => by rw [cell_of_blk hb3, Nat.zero_add]; simpa using hj
  have hmB := Abides.below hBw hm0
  have raB := Abides.below hBw ra
  have rhB := Abides.below hBw rh
  have rpB := Abides.below hBw rp
  clear H
  have H := Loc.refl wB
  have hl1 := hE.2.1
  have hl2 := hE.2.2.1
  have hn1 := hok.1.2.1
  have hn2 := hok.2.1.2
  refine R_o rfl (E_fieldAddr rfl ?_)
  refine R_o rfl (E_load_cell rfl (Below.cell_some H.below (q2 0 _ rfl)) ?_)
  refine R_o rfl (E_append0 H raB rfl rfl (by omega) (by omega) ?_)
  clear H; intro w v39 H
  obtain ⟨A39, c39, rfl, hc39, _⟩ := H.len (v := v39)
  refine R_o rfl (E_assign (R_nil (C_seq (C_seq (C_region rfl (R_o rfl (E_assign (R_nil (C_block (C_loop (ds := []) [2, 3, 5, 7, 10, 9, 11] (fun m_ vs w => ∃ k : Nat, vs = [.pointer (some ⟨b2, 0, none⟩), .pointer (some ⟨b3, 0, none⟩), .slice Ag_ (gains m).length cg, .int .i64 (bestV (gains m) m.res.length), .slice A39 m.res.length c39, .int .i64 (sumTo m o k), .int .i64 k] ∧ m_ = o.has.length - k ∧ k ≤ o.has.length ∧ (True) ∧ Loc wB w [row 3 1 (.slice A39 m.res.length c39) m.res.length (ints .i64 m.res)]) (m := o.has.length) (by first | rfl | exact hd) ?_ ?_))))))))))
  · exact ⟨0, rfl, by omega, by omega, trivial, H⟩
  intro m vs ρ₀ w hd hI
  clear H
  obtain ⟨k, rfl, rfl, hk, hst, H⟩ := hI
  refine C_seq (C_seq (C_region rfl (R_o rfl (E_move (R_o rfl (E_fieldAddr rfl ?_))))))
  refine R_o rfl (E_load_cell rfl (Below.cell_some H.below (q3 0 _ rfl)) ?_)
  refine R_o rfl (E_len rfl ?_)
  refine R_o rfl (E_lss rfl rfl ?_)
  refine R_nil (C_cond (t := 44) rfl (fun hlt => ?_) (fun hlt => ?_))
  ·
   obtain ⟨x, hx⟩ := get_of (xs := o.has) (k := k) (by omega)
   have hxi := hE.item hx
   have hgx : o.has.getD k 0 = x := getD_of hx
   obtain ⟨bd, hbd⟩ := get_of (xs := m.bids) (k := k) (by omega)
   have hgr := gains_row hbd
   have hgl := gain1_len hok hbd
   obtain ⟨ug, hcg, hug⟩ := hgB.at hgr
   obtain ⟨Au, cu, rfl, _, _⟩ := hug.len
   have hsb := sumTo_bound hok o k
   refine C_skip (C_seq (C_block (C_seq (C_seq (C_region rfl (R_o rfl (E_fieldAddr rfl ?_)))))))
   refine R_o rfl (E_load_cell rfl (Below.cell_some H.below (q3 0 _ rfl)) ?_)
   refine R_o rfl (E_move (R_o rfl (E_idxr rhB rfl rfl (by omega) (by omega) ?_)))
   refine R_o rfl (E_loadi rhB H rfl hx ?_)
   refine R_o rfl (E_lss rfl rfl ?_)
   refine R_nil (C_cond (t := 52) rfl (fun h52 => ?_) (fun h52 => ?_))
   ·
    refine C_exit ?_
    refine C_region rfl (R_o rfl (E_move (R_o rfl (E_add rfl rfl (by omega) ?_))))
    refine R_o rfl (E_assign (R_nil ?_))
    first
      | (have e : sumTo m o (k + 1) = sumTo m o k + g := by simp only [sumTo, hgx]; rw [if_neg (by omega), hgv]
         exact ⟨hd, o.has.length - (k + 1), by omega, k + 1, by rw [e]; rfl, rfl, by omega, trivial, H⟩)
      | (have e : sumTo m o (k + 1) = sumTo m o k := by simp only [sumTo, hgx]; rw [if_pos (by omega)]
         exact ⟨hd, o.has.length - (k + 1), by omega, k + 1, by rw [e]; rfl, rfl, by omega, trivial, H⟩)
   ·
    obtain ⟨g, hg⟩ := get_of (xs := gain1 m.res bd) (k := x.toNat) (by omega)
    have hgv : gv (gains m) k x.toNat = g := gv_of hgr hg
    have hgb := (gains_okG hok).gv_le k x.toNat
    rw [hgv] at hgb
    refine C_skip (C_drawL [] H (by kernel_rfl) (fun w H => ?_))
    refine D_takeT 0 rfl rfl rfl (by kernel_rfl) (fun w K Z kk => E_move kk) ?_
    refine D_takeT 1 rfl rfl rfl (by kernel_rfl) (fun w K Z kk => E_move kk) ?_
    refine D_takeT 2 rfl rfl rfl (by kernel_rfl) (fun w K Z kk => E_move kk) ?_
    refine D_takeT 3 rfl rfl rfl (by kernel_rfl) (fun w K Z kk => E_idxr hgB rfl rfl (by omega) (by simp; omega) kk) ?_
    refine D_take 4 rfl rfl rfl (by kernel_rfl) (by first | exact H | exact H.drop | exact H.drop.drop | exact H.drop.drop.drop | exact H.drop.drop.drop.drop) (fun w HS K Z kk => E_loadc hcg HS rfl kk) ?_
    refine D_takeT 5 rfl rfl rfl (by kernel_rfl) (fun w K Z kk => E_fieldAddr rfl kk) ?_
    refine D_take 6 rfl rfl rfl (by kernel_rfl) (by first | exact H | exact H.drop | exact H.drop.drop | exact H.drop.drop.drop | exact H.drop.drop.drop.drop) (fun w HS K Z kk => E_load_cell rfl (Below.cell_some HS.below (q3 0 _ rfl)) kk) ?_
    refine D_takeT 7 rfl rfl rfl (by kernel_rfl) (fun w K Z kk => E_move kk) ?_
    refine D_takeT 8 rfl rfl rfl (by kernel_rfl) (fun w K Z kk => E_idxr rhB rfl rfl (by omega) (by omega) kk) ?_
    refine D_take 9 rfl rfl rfl (by kernel_rfl) (by first | exact H | exact H.drop | exact H.drop.drop | exact H.drop.drop.drop | exact H.drop.drop.drop.drop) (fun w HS K Z kk => E_loadi rhB HS rfl hx kk) ?_
    refine D_takeT 10 rfl rfl rfl (by kernel_rfl) (fun w K Z kk => E_idxr hug rfl rfl (by omega) (by omega) kk) ?_
    refine D_take 11 rfl rfl rfl (by kernel_rfl) (by first | exact H | exact H.drop | exact H.drop.drop | exact H.drop.drop.drop | exact H.drop.drop.drop.drop) (fun w HS K Z kk => E_loadi hug HS rfl hg kk) ?_
    refine D_takeT 12 rfl rfl rfl (by kernel_rfl) (fun w K Z kk => E_add rfl rfl (by omega) kk) ?_
    refine D_takeT 13 rfl rfl rfl (by kernel_rfl) (fun w K Z kk => E_assign kk) ?_
    refine D_done (by kernel_rfl) ?_
    refine C_region rfl (R_o rfl (E_move (R_o rfl (E_add rfl rfl (by omega) ?_))))
    refine R_o rfl (E_assign (R_nil ?_))
    first
      | (have e : sumTo m o (k + 1) = sumTo m o k + g := by simp only [sumTo, hgx]; rw [if_neg (by omega), hgv]
         exact ⟨hd, o.has.length - (k + 1), by omega, k + 1, by rw [e]; rfl, rfl, by omega, trivial, H⟩)
      | (have e : sumTo m o (k + 1) = sumTo m o k := by simp only [sumTo, hgx]; rw [if_pos (by omega)]
         exact ⟨hd, o.has.length - (k + 1), by omega, k + 1, by rw [e]; rfl, rfl, by omega, trivial, H⟩)
  ·
   obtain rfl : k = o.has.length := by omega
   refine C_exit ?_
   refine C_seq (C_seq (C_region rfl (R_o rfl (E_assign (R_nil (C_block (C_loop (ds := []) [2, 3, 5, 7, 10, 9, 12] (fun m_ vs w => ∃ k : Nat, vs = [.pointer (some ⟨b2, 0, none⟩), .pointer (some ⟨b3, 0, none⟩), .slice Ag_ (gains m).length cg, .int .i64 (bestV (gains m) m.res.length), .slice A39 m.res.length c39, .int .i64 (sumV m o), .int .i64 k] ∧ m_ = o.has.length - k ∧ k ≤ o.has.length ∧ (True) ∧ Loc wB w [row 3 1 (.slice A39 m.res.length c39) m.res.length (ints .i64 (wantTo m o k))]) (m := o.has.length) (by first | rfl | exact hd) ?_ ?_)))))))
   · exact ⟨0, rfl, by omega, by omega, trivial, H⟩
   intro m vs ρ₀ w hd hI
   clear H
   obtain ⟨k, rfl, rfl, hk, hst, H⟩ := hI
   refine C_seq (C_seq (C_region rfl (R_o rfl (E_move (R_o rfl (E_fieldAddr rfl ?_))))))
   refine R_o rfl (E_load_cell rfl (Below.cell_some H.below (q3 0 _ rfl)) ?_)
   refine R_o rfl (E_len rfl ?_)
   refine R_o rfl (E_lss rfl rfl ?_)
   refine R_nil (C_cond (t := 70) rfl (fun hlt2 => ?_) (fun hlt2 => ?_))
   ·
    obtain ⟨x, hx⟩ := get_of (xs := o.has) (k := k) (by omega)
    have hxi := hE.item hx
    have hgx : o.has.getD k 0 = x := getD_of hx
    obtain ⟨bd, hbd⟩ := get_of (xs := m.bids) (k := k) (by omega)
    have hgr := gains_row hbd
    have hgl := gain1_len hok hbd
    obtain ⟨ug, hcg, hug⟩ := hgB.at hgr
    obtain ⟨Au, cu, rfl, _, _⟩ := hug.len
    refine C_skip (C_seq (C_block (C_seq (C_seq (C_region rfl (R_o rfl (E_fieldAddr rfl ?_)))))))
    refine R_o rfl (E_load_cell rfl (Below.cell_some H.below (q3 0 _ rfl)) ?_)
    refine R_o rfl (E_move (R_o rfl (E_idxr rhB rfl rfl (by omega) (by omega) ?_)))
    refine R_o rfl (E_loadi rhB H rfl hx ?_)
    refine R_o rfl (E_lss rfl rfl ?_)
    refine R_nil (C_cond (t := 78) rfl (fun h78 => ?_) (fun h78 => ?_))
    ·
     refine C_exit ?_
     refine C_region rfl (R_o rfl (E_move (R_o rfl (E_add rfl rfl (by omega) ?_))))
     refine R_o rfl (E_assign (R_nil ?_))
     first
       | (have e : wantTo m o (k + 1) = (wantTo m o k).set x.toNat (z + bestV (gains (without m k)) m.res.length - (sumV m o - g)) := by simp only [wantTo, hgx]; rw [if_neg (by omega), getD_of hz]; unfold lostV; rw [hgv, Int.add_sub_assoc]
          exact ⟨hd, o.has.length - (k + 1), by omega, k + 1, rfl, rfl, by omega, trivial, by rw [e]; exact H.al⟩)
       | (have e : wantTo m o (k + 1) = wantTo m o k := by simp only [wantTo, hgx]; rw [if_pos (by omega)]
          exact ⟨hd, o.has.length - (k + 1), by omega, k + 1, rfl, rfl, by omega, trivial, by rw [e]; exact H⟩)
    ·
     obtain ⟨g, hg⟩ := get_of (xs := gain1 m.res bd) (k := x.toNat) (by omega)
     have hgv : gv (gains m) k x.toNat = g := gv_of hgr hg
     have hgb := (gains_okG hok).gv_le k x.toNat
     rw [hgv] at hgb
     obtain ⟨z, hz⟩ := get_of (xs := wantTo m o k) (k := x.toNat) (by simp; omega)
     have hzb := wantTo_bound hok hxi.2.2.2 k x.toNat
     rw [getD_of hz] at hzb
     have hwok := without_ok hok k
     have hbb2 := bestV_bound hwok
     have hwr : (without m k).res = m.res := rfl
     rw [hwr] at hbb2
     have hsb := sumTo_bound hok o o.has.length
     have hsv : sumV m o = sumTo m o o.has.length := rfl
     have hgo : okG (gains (without m k)) m.res.length := gains_okG hwok
     refine C_skip (C_seq (C_region rfl (R_o rfl (E_loada_cell (vs := [.slice A1 m.res.length c1, .slice A2 m.bids.length c2, .slice A5 m.ord.length c5]) rfl rfl (fun j v hj => Below.cell_some H.below (q2 j v hj)) ?_))))
     refine R_o rfl (E_move (R_o rfl (E_call rfl (R5Without_ (Abides.below H.below hmB) hok (by omega)) ?_)))
     rintro _ w1 ⟨x1, x2, x3, rfl, hc⟩
     replace H := H.call1 hc; clear hc
     refine R_o rfl (E_move (R_o rfl (E_extract rfl rfl ?_)))
     refine R_o rfl (E_extract rfl rfl ?_)
     refine R_o rfl (E_alloc H ?_)
     clear H; intro w b13 H
     obtain ⟨y1, y2, y3, e, r1, r2, r3⟩ := (H.fr (rdv (.agg #[x1, x2, x3]) (fun w => RdM w (.agg #[x1, x2, x3]) (without m k)))).read
     cases e
     have hx1 : x1.oneCell' = true := by obtain ⟨_, _, e, _⟩ := r1.len; rw [e]; rfl
     have hx2 : x2.oneCell' = true := by obtain ⟨_, _, e, _⟩ := r2.len; rw [e]; rfl
     have hx3 : x3.oneCell' = true := by obtain ⟨_, _, e, _⟩ := r3.len; rw [e]; rfl
     refine R_n rfl (E_storea (vs := [x1, x2, x3]) H rfl rfl (all3 hx1 hx2 hx3) rfl (by simp) ?_)
     clear H; intro w H
     replace H := H.cle (cs' := [x1, x2, x3]) rfl
     refine R_o rfl (E_assign (R_nil (C_seq (C_region rfl (R_o rfl (E_loadw H rfl (by rfl) ?_))))))
     refine R_o rfl (E_call rfl (R5Gains2_ (H.fr (rdv (.agg #[x1, x2, x3]) (fun w => RdM w (.agg #[x1, x2, x3]) (without m k)))).read) ?_)
     rintro _ w1 ⟨g2, e2, rfl, hor⟩
     obtain ⟨_, rfl, hc⟩ := hor.resolve_right (fun h => h.1 hwok)
     replace H := H.call1 hc; clear hc
     refine R_o rfl (E_move (R_o rfl (E_extract rfl rfl ?_)))
     refine R_o rfl (E_extract rfl rfl ?_)
     refine R_o rfl (E_assign (R_o rfl (E_assign (R_nil (C_seq (C_region rfl (R_o rfl (E_move (R_o rfl (E_fieldAddr rfl ?_))))))))))
     refine R_o rfl (E_load_cell rfl (Below.cell_some H.below (q2 0 _ rfl)) ?_)
     refine R_o rfl (E_len rfl ?_)
     refine R_o rfl (E_call rfl (R10Best2_ (g := gains (without m k)) (H.fr (rdv g2 (fun w => RdII w g2 (gains (without m k))))).read (by omega) hgo) ?_)
     rintro _ w1 ⟨rfl, hb⟩
     replace H := H.call0 hb; clear hb
     refine R_o rfl (E_move (R_o rfl (E_extract rfl rfl ?_)))
     refine R_o rfl (E_extract rfl rfl ?_)
     refine R_o rfl (E_assign (R_o rfl (E_assign (R_nil (C_drawL [31] H (by kernel_rfl) (fun w H => ?_))))))
     refine D_takeT 0 rfl rfl rfl (by kernel_rfl) (fun w K Z kk => E_move kk) ?_
     refine D_takeT 1 rfl rfl rfl (by kernel_rfl) (fun w K Z kk => E_fieldAddr rfl kk) ?_
     refine D_take 2 rfl rfl rfl (by kernel_rfl) H.al (fun w HS K Z kk => E_load_cell rfl (Below.cell_some HS.below (q3 0 _ rfl)) kk) ?_
     refine D_takeT 3 rfl rfl rfl (by kernel_rfl) (fun w K Z kk => E_move kk) ?_
     refine D_takeT 4 rfl rfl rfl (by kernel_rfl) (fun w K Z kk => E_idxr rhB rfl rfl (by omega) (by omega) kk) ?_
     refine D_take 5 rfl rfl rfl (by kernel_rfl) H.al (fun w HS K Z kk => E_loadi rhB HS rfl hx kk) ?_
     refine D_takeT 6 rfl rfl rfl (by kernel_rfl) (fun w K Z kk => E_move kk) ?_
     refine D_takeT 7 rfl rfl rfl (by kernel_rfl) (fun w K Z kk => E_fieldAddr rfl kk) ?_
     refine D_take 8 rfl rfl rfl (by kernel_rfl) H.al (fun w HS K Z kk => E_load_cell rfl (Below.cell_some HS.below (q3 0 _ rfl)) kk) ?_
     refine D_takeT 9 rfl rfl rfl (by kernel_rfl) (fun w K Z kk => E_move kk) ?_
     refine D_takeT 10 rfl rfl rfl (by kernel_rfl) (fun w K Z kk => E_idxr rhB rfl rfl (by omega) (by omega) kk) ?_
     refine D_take 11 rfl rfl rfl (by kernel_rfl) H.al (fun w HS K Z kk => E_loadi rhB HS rfl hx kk) ?_
     refine D_take 12 rfl rfl rfl (by kernel_rfl) H.al (fun w HS K Z kk => E_idxw (v := .slice A39 m.res.length c39) HS rfl rfl (by omega) (by omega) kk) ?_
     refine D_take 13 rfl rfl rfl (by kernel_rfl) H.al (fun w HS K Z kk => E_loadw' (v := .slice A39 m.res.length c39) HS rfl (ints_get .i64 _ _ _ hz) kk) ?_
     refine D_takeT 14 rfl rfl rfl (by kernel_rfl) (fun w K Z kk => E_move kk) ?_
     refine D_takeT 15 rfl rfl rfl (by kernel_rfl) (fun w K Z kk => E_add rfl rfl (by omega) kk) ?_
     refine D_takeT 16 rfl rfl rfl (by kernel_rfl) (fun w K Z kk => E_move kk) ?_
     refine D_takeT 17 rfl rfl rfl (by kernel_rfl) (fun w K Z kk => E_move kk) ?_
     refine D_takeT 18 rfl rfl rfl (by kernel_rfl) (fun w K Z kk => E_move kk) ?_
     refine D_takeT 19 rfl rfl rfl (by kernel_rfl) (fun w K Z kk => E_idxr hgB rfl rfl (by omega) (by simp; omega) kk) ?_
     refine D_take 20 rfl rfl rfl (by kernel_rfl) H.al (fun w HS K Z kk => E_loadc hcg HS rfl kk) ?_
     refine D_takeT 21 rfl rfl rfl (by kernel_rfl) (fun w K Z kk => E_fieldAddr rfl kk) ?_
     refine D_take 22 rfl rfl rfl (by kernel_rfl) H.al (fun w HS K Z kk => E_load_cell rfl (Below.cell_some HS.below (q3 0 _ rfl)) kk) ?_
     refine D_takeT 23 rfl rfl rfl (by kernel_rfl) (fun w K Z kk => E_move kk) ?_
     refine D_takeT 24 rfl rfl rfl (by kernel_rfl) (fun w K Z kk => E_idxr rhB rfl rfl (by omega) (by omega) kk) ?_
     refine D_take 25 rfl rfl rfl (by kernel_rfl) H.al (fun w HS K Z kk => E_loadi rhB HS rfl hx kk) ?_
     refine D_takeT 26 rfl rfl rfl (by kernel_rfl) (fun w K Z kk => E_idxr hug rfl rfl (by omega) (by omega) kk) ?_
     refine D_take 27 rfl rfl rfl (by kernel_rfl) H.al (fun w HS K Z kk => E_loadi hug HS rfl hg kk) ?_
     refine D_takeT 28 rfl rfl rfl (by kernel_rfl) (fun w K Z kk => E_sub rfl rfl (by omega) kk) ?_
     refine D_takeT 29 rfl rfl rfl (by kernel_rfl) (fun w K Z kk => E_sub rfl rfl (by omega) kk) ?_
     refine D_take 30 rfl rfl rfl (by kernel_rfl) H.al (fun w HS K Z kk => E_idxw (v := .slice A39 m.res.length c39) HS rfl rfl (by omega) (by omega) kk) ?_
     refine D_actn 31 rfl (by kernel_rfl) (E_storew (v := .slice A39 m.res.length c39) (j := x.toNat) (u := .int .i64 (z + bestV (gains (without m k)) m.res.length - (sumV m o - g))) H rfl rfl rfl (by omega) ?_)
     clear H; intro w H
     rw [ints_set] at H
     refine ⟨fun h => Bool.noConfusion (h : true = false), ?_⟩
     refine D_done (by kernel_rfl) ?_
     refine C_region rfl (R_o rfl (E_move (R_o rfl (E_add rfl rfl (by omega) ?_))))
     refine R_o rfl (E_assign (R_nil ?_))
     first
       | (have e : wantTo m o (k + 1) = (wantTo m o k).set x.toNat (z + bestV (gains (without m k)) m.res.length - (sumV m o - g)) := by simp only [wantTo, hgx]; rw [if_neg (by omega), getD_of hz]; unfold lostV; rw [hgv, Int.add_sub_assoc]
          exact ⟨hd, o.has.length - (k + 1), by omega, k + 1, rfl, rfl, by omega, trivial, by rw [e]; exact H.al⟩)
       | (have e : wantTo m o (k + 1) = wantTo m o k := by simp only [wantTo, hgx]; rw [if_pos (by omega)]
          exact ⟨hd, o.has.length - (k + 1), by omega, k + 1, rfl, rfl, by omega, trivial, by rw [e]; exact H⟩)
   ·
    obtain rfl : k = o.has.length := by omega
    refine C_exit ?_
    refine C_seq (C_seq (C_region rfl (R_o rfl (E_assign (R_nil (C_block (C_loop (ds := []) [3, 7, 10, 9, 19] (fun m_ vs w => ∃ k : Nat, vs = [.pointer (some ⟨b3, 0, none⟩), .int .i64 (bestV (gains m) m.res.length), .slice A39 m.res.length c39, .int .i64 (sumV m o), .int .i64 k] ∧ m_ = m.res.length - k ∧ k ≤ m.res.length ∧ (∀ j, j < k → (wantTo m o o.has.length).getD j 0 = o.pri.getD j 0) ∧ Loc wB w [row 3 1 (.slice A39 m.res.length c39) m.res.length (ints .i64 (wantTo m o o.has.length))]) (m := m.res.length) (by first | rfl | exact hd) ?_ ?_)))))))
    · exact ⟨0, rfl, by omega, by omega, fun j h => by omega, H⟩
    intro m vs ρ₀ w hd hI
    clear H
    obtain ⟨k, rfl, rfl, hk, hst, H⟩ := hI
    refine C_seq (C_seq (C_region rfl (R_o rfl (E_move (R_o rfl (E_move (R_o rfl (E_len rfl ?_))))))))
    refine R_o rfl (E_lss rfl rfl ?_)
    refine R_nil (C_cond (t := 132) rfl (fun hlt3 => ?_) (fun hlt3 => ?_))
    ·
     obtain ⟨z, hz⟩ := get_of (xs := wantTo m o o.has.length) (k := k) (by simp; omega)
     obtain ⟨x, hx⟩ := get_of (xs := o.pri) (k := k) (by omega)
     refine C_skip (C_seq (C_block (C_seq (C_drawL [] H (by kernel_rfl) (fun w H => ?_)))))
     refine D_takeT 0 rfl rfl rfl (by kernel_rfl) (fun w K Z kk => E_move kk) ?_
     refine D_takeT 1 rfl rfl rfl (by kernel_rfl) (fun w K Z kk => E_move kk) ?_
     refine D_take 2 rfl rfl rfl (by kernel_rfl) (by first | exact H | exact H.drop | exact H.drop.drop | exact H.drop.drop.drop | exact H.drop.drop.drop.drop) (fun w HS K Z kk => E_idxw (v := .slice A39 m.res.length c39) HS rfl rfl (by omega) (by omega) kk) ?_
     refine D_take 3 rfl rfl rfl (by kernel_rfl) (by first | exact H | exact H.drop | exact H.drop.drop | exact H.drop.drop.drop | exact H.drop.drop.drop.drop) (fun w HS K Z kk => E_loadw' (v := .slice A39 m.res.length c39) HS rfl (ints_get .i64 _ _ _ hz) kk) ?_
     refine D_takeT 4 rfl rfl rfl (by kernel_rfl) (fun w K Z kk => E_fieldAddr rfl kk) ?_
     refine D_take 5 rfl rfl rfl (by kernel_rfl) (by first | exact H | exact H.drop | exact H.drop.drop | exact H.drop.drop.drop | exact H.drop.drop.drop.drop) (fun w HS K Z kk => E_load_cell rfl (Below.cell_some HS.below (q3 1 _ rfl)) kk) ?_
     refine D_takeT 6 rfl rfl rfl (by kernel_rfl) (fun w K Z kk => E_move kk) ?_
     refine D_takeT 7 rfl rfl rfl (by kernel_rfl) (fun w K Z kk => E_idxr rpB rfl rfl (by omega) (by omega) kk) ?_
     refine D_take 8 rfl rfl rfl (by kernel_rfl) (by first | exact H | exact H.drop | exact H.drop.drop | exact H.drop.drop.drop | exact H.drop.drop.drop.drop) (fun w HS K Z kk => E_loadi rpB HS rfl hx kk) ?_
     refine D_takeT 9 rfl rfl rfl (by kernel_rfl) (fun w K Z kk => E_neq rfl rfl kk) ?_
     refine D_done (by kernel_rfl) ?_
     refine C_cond (t := 144) rfl (fun h144 => ?_) (fun h144 => ?_)
     ·
      refine C_seq (C_region rfl (R_o rfl (E_assign (R_nil (C_ret ?_)))))
      with_reducible repeat (first | refine thn_ret ?_ | refine inB_ret ?_ | refine noG_ret ?_ | refine jmp_ret ?_)
      first
        | (have h' := hE'
           exact ret_one rfl rfl ⟨_, rfl, ⟨(fun h => by cases h), fun h => absurd h.1 hE'⟩, H.below⟩)
        | (have h' : ¬ z = x := h144
           exact ret_one rfl hd ⟨_, rfl, ⟨(fun h => by cases h), fun h => absurd h.2.2 (fun e => h' (by rw [e, hx] at hz; exact (Option.some.inj hz).symm))⟩, bb_trans hBw H.below⟩)
        | (have hw : wantTo m o o.has.length = o.pri := by
             apply List.ext_getElem?
             intro j
             by_cases hj : j < m.res.length
             · obtain ⟨y, hy⟩ := get_of (xs := wantTo m o o.has.length) (k := j) (by simp; omega)
               obtain ⟨y', hy'⟩ := get_of (xs := o.pri) (k := j) (by omega)
               have := hst j hj
               rw [getD_of hy, getD_of hy'] at this
               rw [hy, hy', this]
             · rw [List.getElem?_eq_none (by simp; omega), List.getElem?_eq_none (by omega)]
           exact ret_one rfl hd ⟨_, rfl, by rw [decide_eq_true_iff]; exact ⟨fun h => ⟨hE, h, hw⟩, fun h => h.2.1⟩, bb_trans hBw H.below⟩)
     ·
      refine C_skip (C_region rfl (R_o rfl (E_move (R_o rfl (E_add rfl rfl (by omega) ?_)))))
      refine R_o rfl (E_assign (R_nil ?_))
      exact ⟨hd, m.res.length - (k + 1), by omega, k + 1, rfl, rfl, by omega, all_succ.2 ⟨hst, by rw [getD_of hz, getD_of hx]; exact Decidable.of_not_not h144⟩, H⟩
    ·
     obtain rfl : k = m.res.length := by omega
     refine C_exit ?_
     refine C_seq (C_region rfl (R_o rfl (E_move (R_o rfl (E_move (R_o rfl (E_eql rfl rfl ?_)))))))
     refine R_o rfl (E_assign (R_nil (C_ret ?_)))
     with_reducible repeat (first | refine thn_ret ?_ | refine inB_ret ?_ | refine noG_ret ?_ | refine jmp_ret ?_)
     first
       | (have h' := hE'
          exact ret_one rfl rfl ⟨_, rfl, ⟨(fun h => by cases h), fun h => absurd h.1 hE'⟩, H.below⟩)
       | (have h' : ¬ z = x := h144
          exact ret_one rfl hd ⟨_, rfl, ⟨(fun h => by cases h), fun h => absurd h.2.2 (fun e => h' (by rw [e, hx] at hz; exact (Option.some.inj hz).symm))⟩, bb_trans hBw H.below⟩)
       | (have hw : wantTo m o o.has.length = o.pri := by
            apply List.ext_getElem?
            intro j
            by_cases hj : j < m.res.length
            · obtain ⟨y, hy⟩ := get_of (xs := wantTo m o o.has.length) (k := j) (by simp; omega)
              obtain ⟨y', hy'⟩ := get_of (xs := o.pri) (k := j) (by omega)
              have := hst j hj
              rw [getD_of hy, getD_of hy'] at this
              rw [hy, hy', this]
            · rw [List.getElem?_eq_none (by simp; omega), List.getElem?_eq_none (by omega)]
          exact ret_one rfl hd ⟨_, rfl, by rw [decide_eq_true_iff]; exact ⟨fun h => ⟨hE, h, hw⟩, fun h => h.2.1⟩, bb_trans hBw H.below⟩)
end Go.Sl
