/- prices that rise, step by step. -/
import Derived.Test.YtlgdffofhnfedaaGreatX23
set_option linter.unusedVariables false
set_option linter.unusedSimpArgs false
set_option maxRecDepth 10000
set_option maxHeartbeats 2000000
namespace Go.Sl
open Go.RowKit
open Go.Proofs
theorem at_ {w0 : World} {mv v : Value} {m : Mk} {p : List Int} (hm : RdM w0 mv m) (hp : RdI w0 v p) (hok : okMk m) (hop : OkP m p) :
   Ret Tryz.prog 83 [mv, v] w0 (fun r w => ∃ bS a b c pv wv muv, r = .pointer (some ⟨bS, 0, none⟩) ∧ mv = .agg #[a, b, c] ∧ Loc w0 w [cl bS 131 [a, b, c, pv, wv, muv], rdv pv (fun w => RdI w pv p), rdv wv (fun w => RdII w wv (grV m p)), rdv muv (fun w => RdI w muv (mustV m p))]) := by
 refine ret_of_C Tryz.func83 rfl rfl rfl ?_
 have H := Loc.refl w0
 have hm0 := hm
 obtain ⟨a, b, c, rfl, ra, rb, rc⟩ := hm
 obtain ⟨A1, c1, rfl, hA1, hA2⟩ := ra.len
 obtain ⟨A2, c2, rfl, hB1, hB2⟩ := rb.len
 obtain ⟨B, d1, rfl, hd1, hd2⟩ := hp.len
 have hn1 := hok.1.2.1
 have hn2 := hok.2.1.2
 have hpr := hop.pr hok
 have hp8 := hpr.2.1
 refine C_seq (C_region rfl (R_o rfl (E_box (cs := [.slice A1 m.res.length c1, .slice A2 m.bids.length c2, c]) rfl H ?_)))
 clear H; intro w b2 H
 refine R_o rfl (E_assign (R_nil (C_seq (C_drawL [] H (by kernel_rfl) (fun w H => ?_)))))
 refine D_take 0 rfl rfl rfl (by kernel_rfl) H.al (fun w HS K Z kk => E_loadw HS rfl (by rfl) kk) ?_
 refine D_takeT 1 rfl rfl rfl (by kernel_rfl) (fun w K Z kk => E_move kk) ?_
 refine D_act 2 rfl rfl (by kernel_rfl) (E_call rfl (Clone_ints (Abides.below H.below hp) (by omega)) ?_)
 rintro v12 w1 hc
 replace H := H.call1 hc; clear hc
 obtain ⟨A12, c12, rfl, _⟩ := H.len (v := v12)
 refine ⟨fun _ _ => H.al, ?_⟩
 refine D_takeT 3 rfl rfl rfl (by kernel_rfl) (fun w K Z kk => E_build (cs := [.slice A1 m.res.length c1, .slice A2 m.bids.length c2, c, .slice A12 p.length c12, .slice none 0 0, .slice none 0 0]) rfl kk) ?_
 refine D_act 4 rfl rfl (by kernel_rfl) (E_box (cs := [.slice A1 m.res.length c1, .slice A2 m.bids.length c2, c, .slice A12 p.length c12, .slice none 0 0, .slice none 0 0]) rfl H ?_)
 clear H; intro w bS H
 refine ⟨fun _ _ => H.al, ?_⟩
 refine D_takeT 5 rfl rfl rfl (by kernel_rfl) (fun w K Z kk => E_assign kk) ?_
 refine D_done (by kernel_rfl) ?_
 refine C_seq (C_region rfl (R_o rfl (E_loadw H rfl (by rfl) ?_)))
 refine R_o rfl (E_move (R_o rfl (E_call rfl (dAll_ (Abides.below H.below hm0) (Abides.below H.below hp) hok hpr hop.1) ?_)))
 rintro _ w1 ⟨x, y, us, rfl, hc⟩
 replace H := H.call3 hc; clear hc
 refine R_o rfl (E_move (R_o rfl (E_extract rfl rfl ?_)))
 refine R_o rfl (E_extract rfl rfl ?_)
 refine R_o rfl (E_extract rfl rfl ?_)
 refine R_o rfl (E_assign (R_o rfl (E_assign (R_o rfl (E_assign (R_nil (C_seq (C_seq (C_region rfl (R_o rfl (E_move (R_o rfl (E_lenw (v := x) H rfl ?_)))))))))))))
 refine R_o rfl (E_move (R_nil (C_block (C_loop (ds := []) [5, 6, 7, 22, 23, 24] (fun m_ vs w => ∃ k : Nat, ∃ (us : List Value) (muv : Value), vs = [.pointer (some ⟨bS, 0, none⟩), x, y, x, .int .i64 m.bids.length, .int .i64 k] ∧ m_ = m.bids.length - k ∧ k ≤ m.bids.length ∧ (True) ∧ Loc w0 w [rdv undef (fun w => Els RdI w us (grTo m p k)), row 22 1 x m.bids.length us, row 4 1 y m.bids.length (bools (nonV m p)), cl bS 131 [.slice A1 m.res.length c1, .slice A2 m.bids.length c2, c, .slice A12 p.length c12, .slice none 0 0, muv], row 3 1 muv (mustTo m p k).length (ints .i64 (mustTo m p k)), row 3 1 (.slice A12 p.length c12) p.length (ints .i64 p)]) (m := m.bids.length) (by first | rfl | exact hd) ?_ ?_))))
 · replace H : Loc _ _ (row 3 1 (.slice none 0 0) (mustTo m p 0).length (ints .i64 (mustTo m p 0)) :: _) := nilRow 3 1 (H.rdImp (g := fun w => Els RdI w us (grTo m p 0)) (fun w h => by rw [grTo_zero]; exact h))
   exact ⟨0, us, .slice none 0 0, rfl, by omega, by omega, trivial, H.al⟩
 intro m vs ρ₀ w hd hI
 clear H
 obtain ⟨k, us, muv, rfl, rfl, hk, hst, H⟩ := hI
 refine C_seq (C_region rfl (R_o rfl (E_lss rfl rfl ?_)))
 refine R_nil (C_seq (C_cond (t := 25) rfl (fun hlt => ?_) (fun hlt => ?_)))
 ·
  obtain ⟨bd, hbd⟩ := get_of (xs := m.bids) (k := k) (by omega)
  have hny : (bools (nonV m p))[k]? = some (.bool (decide (topV bd p = 0))) := by unfold bools; rw [List.getElem?_map, nonV_get hbd]; rfl
  have hml := mustTo_len m p k
  refine C_skip (C_seq (C_block (C_seq (C_region rfl (R_o rfl (E_move (R_o rfl (E_assign (R_nil (C_seq (C_seq (C_region rfl (R_o rfl (E_move (R_o rfl (E_move (R_o rfl (E_idxw (v := y) H rfl rfl (by omega) (by omega) ?_))))))))))))))))))
  refine R_o rfl (E_loadw' (v := y) H rfl hny ?_)
  refine R_nil (C_condb (t := 30) rfl (fun h30 => ?_) (fun h30 => ?_))
  ·
   refine C_seq (C_region rfl (R_o rfl (E_move (R_o rfl (E_move (R_o rfl (E_idxw (v := x) H rfl rfl (by omega) (by omega) ?_)))))))
   refine R_n rfl (E_storew (v := x) (u := .slice none 0 0) H rfl rfl rfl (by omega) ?_)
   clear H; intro w H
   rw [Int.toNat_natCast] at H
   refine R_nil (C_exit ?_)
   refine C_region rfl (R_o rfl (E_add rfl rfl (by omega) ?_))
   refine R_o rfl (E_move (R_nil ?_))
   first
     | (have ht0 : topV bd p = 0 := of_decide_eq_true h30
        have e1 := (grTo_step hbd).trans (if_pos ht0)
        have e2 := (mustTo_succ m p k).trans (if_pos (by rw [getD_of hbd]; exact ht0))
        have H2 := ((H.fr (rdv undef (fun w => Els RdI w us (grTo m p k)))).rdImp (g := fun w => Els RdI w (us.set k (.slice none 0 0)) (grTo m p (k + 1))) (fun w h => by rw [e1]; exact h.set k (RdS.nil _ _)))
        exact ⟨hd, m.bids.length - (k + 1), by omega, k + 1, us.set k (.slice none 0 0), muv, rfl, rfl, by omega, trivial, by rw [e2]; exact H2.al⟩)
     | (have ht0 : ¬ topV bd p = 0 := of_decide_eq_false h30
        have e1 := (grTo_step hbd).trans (if_neg ht0)
        have e2 := (mustTo_succ m p k).trans (if_neg (by rw [getD_of hbd]; exact ht0))
        have e3 : (mustTo m p k ++ [(k : Int)]).length = (mustTo m p k).length + 1 := by simp
        exact ⟨hd, m.bids.length - (k + 1), by omega, k + 1, us, v41, rfl, rfl, by omega, trivial, by rw [e1, e2, e3, ints_snoc]; exact H.al⟩)
  ·
   refine C_skip (C_region rfl (R_o rfl (E_move (R_o rfl (E_move (R_o rfl (E_nilCheck rfl ?_)))))))
   refine R_o rfl (E_fieldAddr rfl ?_)
   refine R_o rfl (E_load H rfl rfl ?_)
   refine R_o rfl (E_move (R_o rfl (E_lit (vs := [.int .i64 (k : Int)]) [.tmp 39] rfl rfl rfl rfl rfl H ?_)))
   clear H; intro w b40 H
   refine R_o rfl (E_append1 (v := muv) (b := b40) (u := .int .i64 (k : Int)) H rfl rfl rfl (by omega) (by omega) ?_)
   clear H; intro w v41 H
   have h41 : v41.oneCell' = true := (by obtain ⟨_, _, e, _⟩ := H.len (v := v41); rw [e]; rfl)
   refine R_o rfl (E_nilCheck rfl ?_)
   refine R_o rfl (E_fieldAddr rfl ?_)
   refine R_n rfl (E_storep 5 v41 [.slice A1 m.res.length c1, .slice A2 m.bids.length c2, c, .slice A12 p.length c12, .slice none 0 0, v41] H rfl rfl rfl h41 (by simp) rfl ?_)
   clear H; intro w H
   refine R_nil (C_region rfl (R_o rfl (E_add rfl rfl (by omega) ?_)))
   refine R_o rfl (E_move (R_nil ?_))
   first
     | (have ht0 : topV bd p = 0 := of_decide_eq_true h30
        have e1 := (grTo_step hbd).trans (if_pos ht0)
        have e2 := (mustTo_succ m p k).trans (if_pos (by rw [getD_of hbd]; exact ht0))
        have H2 := ((H.fr (rdv undef (fun w => Els RdI w us (grTo m p k)))).rdImp (g := fun w => Els RdI w (us.set k (.slice none 0 0)) (grTo m p (k + 1))) (fun w h => by rw [e1]; exact h.set k (RdS.nil _ _)))
        exact ⟨hd, m.bids.length - (k + 1), by omega, k + 1, us.set k (.slice none 0 0), muv, rfl, rfl, by omega, trivial, by rw [e2]; exact H2.al⟩)
     | (have ht0 : ¬ topV bd p = 0 := of_decide_eq_false h30
        have e1 := (grTo_step hbd).trans (if_neg ht0)
        have e2 := (mustTo_succ m p k).trans (if_neg (by rw [getD_of hbd]; exact ht0))
        have e3 : (mustTo m p k ++ [(k : Int)]).length = (mustTo m p k).length + 1 := by simp
        exact ⟨hd, m.bids.length - (k + 1), by omega, k + 1, us, v41, rfl, rfl, by omega, trivial, by rw [e1, e2, e3, ints_snoc]; exact H.al⟩)
 ·
  obtain rfl : k = m.bids.length := by omega
  have hx1 : x.oneCell' = true := (by obtain ⟨_, _, e, _⟩ := H.len (v := x); rw [e]; rfl)
  refine C_exit ?_
  refine C_seq (C_region rfl (R_o rfl (E_move (R_o rfl (E_move (R_o rfl (E_nilCheck rfl ?_)))))))
  refine R_o rfl (E_fieldAddr rfl ?_)
  refine R_n rfl (E_storep 4 x [.slice A1 m.res.length c1, .slice A2 m.bids.length c2, c, .slice A12 p.length c12, x, muv] H rfl rfl rfl hx1 (by simp) rfl ?_)
  clear H; intro w H
  refine R_nil (C_seq (C_region rfl (R_o rfl (E_move (R_o rfl (E_assign (R_nil (C_ret ?_))))))))
  with_reducible repeat (first | refine thn_ret ?_ | refine inB_ret ?_ | refine noG_ret ?_ | refine jmp_ret ?_)
  refine ret_one rfl hd ⟨bS, _, _, _, .slice A12 p.length c12, x, muv, rfl, rfl, ?_⟩
  have hmv : mustTo m p m.bids.length = mustV m p := rfl
  rw [grTo_full, hmv] at H
  have H1 : Loc w0 w (row 22 1 x m.bids.length us :: rdv undef (fun w => Els RdI w us (grV m p)) :: cl bS 131 [.slice A1 m.res.length c1, .slice A2 m.bids.length c2, c, .slice A12 p.length c12, x, muv] :: row 3 1 muv (mustV m p).length (ints .i64 (mustV m p)) :: row 3 1 (.slice A12 p.length c12) p.length (ints .i64 p) :: []) := H.al
  have H2 := H1.join x (fun w => RdII w x (grV m p)) fun S1 S2 w' h1 h2 => row_rdE h1 (rdv_now h2)
  have H3 := (H2.fr (row 3 1 muv (mustV m p).length (ints .i64 (mustV m p)))).rowInts
  have H4 := (H3.fr (row 3 1 (.slice A12 p.length c12) p.length (ints .i64 p))).rowInts
  exact H4.al
theorem step_ {w0 : World} {bS : Nat} {a b c pv wv muv : Value} {m : Mk} {p : List Int} (hst0 : StR w0 bS a b c pv wv muv m p) (hok : okMk m) (hop : OkP m p) :
   Ret Tryz.prog 84 [.pointer (some ⟨bS, 0, none⟩)] w0 (fun r w => ∃ x bb, r = .tuple #[x, .bool bb] ∧ ((bb = false ∧ stepV m p = none ∧ Below w0.heap.size w0 w) ∨ (bb = true ∧ ∃ q, stepV m p = some q ∧ Loc w0 w [rdv x (fun w => RdI w x q)]))) := by
 refine ret_of_C Tryz.func84 rfl rfl rfl ?_
 have H := Loc.refl w0
 obtain ⟨Ap, cp, rfl, hp1, hp2⟩ := hst0.pri.len
 have hp8 := (hop.pr hok).2.1
 have hgr := okGr_grV hok hop
 have hmr : isR (mustV m p) (grV m p).length := by rw [grV_len]; exact must_isR m p
 refine C_seq (C_region rfl (R_o rfl (E_assign (R_o rfl (E_assign (R_nil (C_seq (C_region rfl (R_o rfl (E_move (R_o rfl (E_nilCheck rfl ?_))))))))))))
 refine R_o rfl (E_fieldAddr rfl ?_)
 refine R_o rfl (E_load_cell rfl (Below.cell_some H.below hst0.c3) ?_)
 refine R_o rfl (E_call rfl (Clone_ints (Abides.below H.below hst0.pri) (by omega)) ?_)
 rintro v15 w1 hc
 replace H := H.call1 hc; clear hc
 obtain ⟨A15, c15, rfl, hc15, _⟩ := H.len (v := v15)
 refine R_o rfl (E_call rfl (Clip_ints hc15) ?_)
 rintro _ w1 ⟨rfl, hb⟩
 replace H := H.call0 hb; clear hb
 replace H : Loc w0 w1 [wsl 3 (.slice A15 p.length p.length) p.length (ints .i64 p)] := H.rowOwn.ownClip
 refine R_o rfl (E_assign (R_nil (C_seq (C_drawL [] H (by kernel_rfl) (fun w H => ?_)))))
 refine D_takeT 0 rfl rfl rfl (by kernel_rfl) (fun w K Z kk => E_move kk) ?_
 refine D_nil 1 rfl rfl rfl (by kernel_rfl) ?_
 refine D_takeT 2 rfl rfl rfl (by kernel_rfl) (fun w K Z kk => E_fieldAddr rfl kk) ?_
 refine D_take 3 rfl rfl rfl (by kernel_rfl) H.al (fun w HS K Z kk => E_load_cell rfl (Below.cell_some HS.below hst0.c4) kk) ?_
 refine D_takeT 4 rfl rfl rfl (by kernel_rfl) (fun w K Z kk => E_move kk) ?_
 refine D_nil 5 rfl rfl rfl (by kernel_rfl) ?_
 refine D_takeT 6 rfl rfl rfl (by kernel_rfl) (fun w K Z kk => E_fieldAddr rfl kk) ?_
 refine D_take 7 rfl rfl rfl (by kernel_rfl) H.al (fun w HS K Z kk => E_load_cell rfl (Below.cell_some HS.below hst0.c3) kk) ?_
 refine D_takeT 8 rfl rfl rfl (by kernel_rfl) (fun w K Z kk => E_len rfl kk) ?_
 refine D_takeT 9 rfl rfl rfl (by kernel_rfl) (fun w K Z kk => E_move kk) ?_
 refine D_nil 10 rfl rfl rfl (by kernel_rfl) ?_
 refine D_takeT 11 rfl rfl rfl (by kernel_rfl) (fun w K Z kk => E_fieldAddr rfl kk) ?_
 refine D_take 12 rfl rfl rfl (by kernel_rfl) H.al (fun w HS K Z kk => E_load_cell rfl (Below.cell_some HS.below hst0.c5) kk) ?_
 refine D_act 13 rfl rfl (by kernel_rfl) (E_call rfl (Few_ (items := p.length) (Abides.below H.below hst0.wants) (Abides.below H.below hst0.must) hgr hmr) ?_)
 rintro _ w1 ⟨sx, sb, rfl, hor⟩
 have hb31 : Below w.heap.size w w1 := hor.elim (fun h => h.2.2) (fun h => h.2.elim fun l h => h.2.below)
 have H31 := H
 replace H := H.call0 hb31
 refine ⟨fun _ _ => H.al, ?_⟩
 refine D_takeT 14 rfl rfl rfl (by kernel_rfl) (fun w K Z kk => E_move kk) ?_
 refine D_takeT 15 rfl rfl rfl (by kernel_rfl) (fun w K Z kk => E_extract rfl rfl kk) ?_
 refine D_takeT 16 rfl rfl rfl (by kernel_rfl) (fun w K Z kk => E_extract rfl rfl kk) ?_
 refine D_takeT 17 rfl rfl rfl (by kernel_rfl) (fun w K Z kk => E_extract rfl rfl kk) ?_
 refine D_takeT 18 rfl rfl rfl (by kernel_rfl) (fun w K Z kk => E_assign kk) ?_
 refine D_takeT 19 rfl rfl rfl (by kernel_rfl) (fun w K Z kk => E_assign kk) ?_
 refine D_takeT 20 rfl rfl rfl (by kernel_rfl) (fun w K Z kk => E_assign kk) ?_
 refine D_done (by kernel_rfl) ?_
 refine C_seq (C_seq (C_region rfl (R_o rfl (E_move (R_o rfl (E_notb rfl ?_))))))
 refine R_nil (C_condb (t := 36) rfl (fun h36 => ?_) (fun h36 => ?_))
 ·
  have hor1 := hor.resolve_right (fun h => by rw [h.1] at h36; cases h36)
  refine C_seq (C_region rfl (R_o rfl (E_move (R_o rfl (E_assign (R_o rfl (E_assign (R_nil (C_ret ?_)))))))))
  with_reducible repeat (first | refine thn_ret ?_ | refine inB_ret ?_ | refine noG_ret ?_ | refine jmp_ret ?_)
  first
    | exact ret_two rfl rfl ⟨_, _, rfl, .inl ⟨rfl, by unfold stepV; rw [hor1.2.1.eq]; rfl, H.below⟩⟩
    | (rw [List.take_length] at H
       exact ret_two rfl hd ⟨_, _, rfl, .inr ⟨rfl, raise p set X, by unfold stepV; rw [hF.eq, ← hX]; rfl, ((H.fr (wsl 3 (.slice A15 p.length p.length) p.length (ints .i64 (raise p set X)))).fst).ownInts⟩⟩)
 ·
  obtain ⟨rfl, set, hF, hc⟩ := hor.resolve_left (fun h => by rw [h.1] at h36; cases h36)
  replace H := H31.call1 hc
  obtain ⟨As, cs, rfl, hs1, hs2⟩ := hc.read.len
  have hset := hc.read
  have S := step_facts hok hop hF
  obtain ⟨X, hX⟩ : ∃ X, minV (farL m p set (mustV m p)) = X := ⟨_, rfl⟩
  have hXb := S.all _ S.min.1
  rw [hX] at hXb
  have hsr := hF.1
  refine C_skip (C_seq (C_region rfl (R_o rfl (E_move (R_o rfl (E_move (R_o rfl (E_call rfl (far_ (set := set) (hst0.below H.below) hset hok hop S) ?_))))))))
  rintro _ w1 ⟨rfl, hb⟩
  replace H := H.call0 hb; clear hb
  refine R_o rfl (E_assign (R_nil (C_seq (C_seq (C_region rfl (R_o rfl (E_move (R_o rfl (E_len rfl ?_)))))))))
  refine R_o rfl (E_move (R_nil (C_block (C_loop (ds := []) [4, 8, 41, 42, 43] (fun m_ vs w => ∃ k : Nat, vs = [.slice A15 p.length p.length, .int .i64 X, .slice As set.length cs, .int .i64 set.length, .int .i64 k] ∧ m_ = set.length - k ∧ k ≤ set.length ∧ (True) ∧ Loc w0 w [wsl 3 (.slice A15 p.length p.length) p.length (ints .i64 (raise p (set.take k) X)), rdv (.slice As set.length cs) (fun w => RdI w (.slice As set.length cs) set)]) (m := set.length) (by first | rfl | exact hd) ?_ ?_))))
  · rw [hX]
    have H0 : Loc w0 w1 [wsl 3 (.slice A15 p.length p.length) p.length (ints .i64 (raise p (set.take 0) X)), rdv (.slice As set.length cs) (fun w => RdI w (.slice As set.length cs) set)] := by rw [List.take_zero, raise_zero]; exact H.al
    exact ⟨0, rfl, by omega, by omega, trivial, H0⟩
  intro m vs ρ₀ w hd hI
  clear H
  obtain ⟨k, rfl, rfl, hk, hst, H⟩ := hI
  refine C_seq (C_region rfl (R_o rfl (E_lss rfl rfl ?_)))
  refine R_nil (C_seq (C_cond (t := 44) rfl (fun hlt => ?_) (fun hlt => ?_)))
  ·
   obtain ⟨x, hx⟩ := get_of (xs := set) (k := k) (by omega)
   have hxb := hsr.1 x (mem_of_get hx)
   obtain ⟨z, hz⟩ := get_of (xs := p) (k := x.toNat) (by omega)
   have hzb := (hop.2 _ z hz).2
   obtain ⟨hr1, hr2⟩ := raise_step (x := X) (isR_nodup hsr) hx (by omega) hz
   have hset2 := (H.fr (rdv (.slice As set.length cs) (fun w => RdI w (.slice As set.length cs) set))).read
   refine C_skip (C_seq (C_block (C_seq (C_region rfl (R_o rfl (E_idxr hset rfl rfl (by omega) (by omega) ?_))))))
   refine R_o rfl (E_loadi hset2 (Loc.refl w) rfl hx ?_)
   refine R_o rfl (E_assign (R_nil (C_region rfl (R_o rfl (E_move (R_o rfl (E_move (R_o rfl (E_idxo (v := .slice A15 p.length p.length) H rfl rfl (by omega) (by omega) ?_)))))))))
   refine R_o rfl (E_loado (v := .slice A15 p.length p.length) H rfl (ints_get .i64 _ _ _ hr1) ?_)
   refine R_o rfl (E_move (R_o rfl (E_add rfl rfl (by omega) ?_)))
   refine R_o rfl (E_idxo (v := .slice A15 p.length p.length) H rfl rfl (by omega) (by omega) ?_)
   refine R_n rfl (E_storeo (v := .slice A15 p.length p.length) (u := .int .i64 (z + X)) H rfl rfl rfl (by omega) ?_)
   clear H; intro w H
   rw [ints_set, ← hr2] at H
   refine R_nil (C_region rfl (R_o rfl (E_add rfl rfl (by omega) ?_)))
   refine R_o rfl (E_move (R_nil (⟨hd, set.length - (k + 1), by omega, k + 1, rfl, rfl, by omega, trivial, H⟩)))
  ·
   obtain rfl : k = set.length := by omega
   refine C_exit ?_
   refine C_seq (C_region rfl (R_o rfl (E_move (R_o rfl (E_assign (R_o rfl (E_assign (R_nil (C_ret ?_)))))))))
   with_reducible repeat (first | refine thn_ret ?_ | refine inB_ret ?_ | refine noG_ret ?_ | refine jmp_ret ?_)
   first
     | exact ret_two rfl rfl ⟨_, _, rfl, .inl ⟨rfl, by unfold stepV; rw [hor1.2.1.eq]; rfl, H.below⟩⟩
     | (rw [List.take_length] at H
        exact ret_two rfl hd ⟨_, _, rfl, .inr ⟨rfl, raise p set X, by unfold stepV; rw [hF.eq, ← hX]; rfl, ((H.fr (wsl 3 (.slice A15 p.length p.length) p.length (ints .i64 (raise p set X)))).fst).ownInts⟩⟩)
end Go.Sl
