/- the market without a bidder. -/
import Derived.Test.YtlgdffofhnfedaaGreatX29
set_option linter.unusedVariables false
set_option linter.unusedSimpArgs false
set_option maxRecDepth 10000
set_option maxHeartbeats 2000000
namespace Go.Sl
open Go.RowKit
open Go.Proofs
theorem clipV_one {v : Value} (h : v.oneCell' = true) : (clipV v).oneCell' = true := by cases v <;> first | rfl | exact h
theorem bld25 {x y z : Value} (hx : x.oneCell' = true) (hy : y.oneCell' = true) (hz : z.oneCell' = true) : cellsL x = [x] ∧ cellsL y = [y] ∧ cellsL z = [z] := by
 have one : ∀ v : Value, v.oneCell' = true → cellsL v = [v] := fun v h => by cases v <;> first | rfl | (cases h)
 exact ⟨one x hx, one y hy, one z hz⟩
theorem all3 {x y z : Value} (hx : x.oneCell' = true) (hy : y.oneCell' = true) (hz : z.oneCell' = true) : [x, y, z].all (·.oneCell') = true := by
 simp only [List.all_cons, List.all_nil, hx, hy, hz, Bool.and_self]
theorem without_bids (m : Mk) (i : Nat) : (without m i).bids = m.bids.set i [] := rfl
theorem without_get {m : Mk} {i k : Nat} {b : List Int} (hb : m.bids[k]? = some b) : (without m i).bids[k]? = some (if k = i then [] else b) := by
 rw [without_bids, List.getElem?_set]
 have := lt_of_get hb
 by_cases e : i = k
 · subst e; simp [this]
 · rw [if_neg e, if_neg (fun h => e h.symm)]; exact hb
def WithoutPo (m : Mk) (i : Nat) (w0 : World) (r : Value) (w : World) : Prop := ∃ x y z, r = .tuple #[.agg #[x, y, z], .int .i64 0] ∧ Loc w0 w [rdv (.agg #[x, y, z]) (fun w => RdM w (.agg #[x, y, z]) (without m i))]
theorem wo_join {w0 w : World} {m : Mk} {i b31 : Nat} {v26 v34 : Value} {us : List Value} (hbl : (without m i).bids.length = m.bids.length) (h8 : m.bids.length ≤ 8) (hst : us.length = m.bids.length) (h1 : m.res.length ≤ 8) (h2 : m.ord.length ≤ 8)
   (H : Loc w0 w [rdv undef (fun w => Els RdI w us (without m i).bids), cl b31 22 us, row 3 1 v26 m.res.length (ints .i64 m.res), row 3 1 v34 m.ord.length (ints .i64 m.ord)]) :
   Loc w0 w [rdv (.agg #[clipV v26, .slice (some ⟨b31, 0, none⟩) m.bids.length m.bids.length, clipV v34]) (fun w => RdM w (.agg #[clipV v26, .slice (some ⟨b31, 0, none⟩) m.bids.length m.bids.length, clipV v34]) (without m i))] := by
 have A := (H.fr (cl b31 22 us)).fr (rdv undef (fun w => Els RdI w us (without m i).bids))
 have B := A.join undef (fun w => RdII w (.slice (some ⟨b31, 0, none⟩) m.bids.length m.bids.length) (without m i).bids) (fun S1 S2 w' p1 p2 => by
   have hE := rdv_now p1
   have hg := p2.2
   refine ⟨some ⟨b31, 0, none⟩, m.bids.length, by rw [hbl], by omega, by omega, fun j x hx => ?_⟩
   obtain ⟨u, hu, hr⟩ := hE.get hx
   refine ⟨_, u, rfl, ?_, hr⟩
   rw [add_plain, cell_of_blk hg, Nat.zero_add]
   simpa using hu)
 have C := (((B.fr (row 3 1 v26 m.res.length (ints .i64 m.res))).rowOwn.ownClip.ownInts).fr (row 3 1 v34 m.ord.length (ints .i64 m.ord))).rowOwn.ownClip.ownInts
 have D := C.join undef (fun w => RdI w (clipV v34) m.ord ∧ RdI w (clipV v26) m.res) (fun S1 S2 w' p1 p2 => ⟨rdv_now p1, rdv_now p2⟩)
 exact D.join _ _ (fun S1 S2 w' p1 p2 => ⟨_, _, _, rfl, (rdv_now p1).2, rdv_now p2, (rdv_now p1).1⟩)
theorem Without_ {w0 : World} {v : Value} {m : Mk} {i : Nat} (hm : RdM w0 v m) (hok : okMk m) (hi : i < m.bids.length) :
   Ret Tryz.prog 79 [v, .int .i64 (i : Int)] w0 (WithoutPo m i w0) := by
 refine ret_of_C Tryz.func79 rfl rfl rfl ?_
 have H := Loc.refl w0
 have hm0 := hm
 obtain ⟨a, b, c, rfl, ra, rb, rc⟩ := hm
 obtain ⟨A1, c1, rfl, hA1, hA2⟩ := ra.len
 obtain ⟨A2, c2, rfl, hB1, hB2⟩ := rb.len
 obtain ⟨A3, c3, rfl, hC1, hC2⟩ := rc.len
 have hn1 := hok.1.2.1
 have hn2 := hok.2.1.2
 have hol := okOrd_length hok.2.2.1
 refine C_seq (C_region rfl (R_o rfl (E_box (cs := [.slice A1 m.res.length c1, .slice A2 m.bids.length c2, .slice A3 m.ord.length c3]) rfl H ?_)))
 clear H; intro w b2 H
 refine R_o rfl (E_alloc H ?_)
 clear H; intro w b4 H
 refine R_o rfl (E_assign (R_nil (C_seq (C_seq (C_region rfl (R_o rfl (E_loadw H rfl (by rfl) ?_)))))))
 refine R_o rfl (E_call rfl (Check_ (Abides.below H.below hm0)) ?_)
 rintro _ w1 ⟨rfl, hb⟩
 replace H := H.call0 hb; clear hb
 refine R_o rfl (E_not rfl ?_)
 refine R_o rfl (E_move (R_part (t := 12) rfl (fun h12 => ?_) (fun h12 => ?_)))
 ·
  exact absurd hok h12
 ·
  refine R_w rfl rfl rfl (E_move ?_)
  refine R_w rfl rfl rfl (E_lss rfl rfl ?_)
  refine R_o rfl (E_pick rfl ?_)
  refine R_o rfl (E_move (R_part (t := 16) rfl (fun h16 => ?_) (fun h16 => ?_)))
  ·
   exact absurd h16 (by omega)
  ·
   refine R_w rfl rfl rfl (E_move ?_)
   refine R_w rfl rfl rfl (E_fieldAddr rfl ?_)
   refine R_w rfl rfl rfl (E_load H rfl rfl ?_)
   refine R_w rfl rfl rfl (E_len rfl ?_)
   refine R_w rfl rfl rfl (E_geq rfl rfl ?_)
   refine R_o rfl (E_pick rfl ?_)
   refine R_nil (C_cond (t := 22) rfl (fun h22 => ?_) (fun h22 => ?_))
   ·
    exact absurd h22 (by omega)
   ·
    refine C_skip (C_seq (C_drawL [14] H (by kernel_rfl) (fun w H => ?_)))
    refine D_takeT 0 rfl rfl rfl (by kernel_rfl) (fun w K Z kk => E_fieldAddr rfl kk) ?_
    refine D_take 1 rfl rfl rfl (by kernel_rfl) H.al (fun w HS K Z kk => E_load HS rfl rfl kk) ?_
    refine D_takeT 4 rfl rfl rfl (by kernel_rfl) (fun w K Z kk => E_fieldAddr rfl kk) ?_
    refine D_take 5 rfl rfl rfl (by kernel_rfl) H.al (fun w HS K Z kk => E_load HS rfl rfl kk) ?_
    refine D_takeT 6 rfl rfl rfl (by kernel_rfl) (fun w K Z kk => E_len rfl kk) ?_
    refine D_takeT 8 rfl rfl rfl (by kernel_rfl) (fun w K Z kk => E_fieldAddr rfl kk) ?_
    refine D_take 9 rfl rfl rfl (by kernel_rfl) H.al (fun w HS K Z kk => E_load HS rfl rfl kk) ?_
    refine D_abs fun G ρ' hG hρ => ?_
    have St0 : ∀ (v26 : Value) (b31 : Nat) (v34 : Value) (b6 : Nat) (w : World), Loc w0 w (row 3 1 v26 m.res.length (ints .i64 m.res) :: cl b31 22 (List.replicate m.bids.length (.slice none 0 0)) :: row 3 1 v34 m.ord.length (ints .i64 m.ord) :: cl b6 25 [.slice none 0 0, .slice none 0 0, .slice none 0 0] :: cl b2 25 [.slice A1 m.res.length c1, .slice A2 m.bids.length c2, .slice A3 m.ord.length c3] :: cl b4 25 [.slice none 0 0, .slice none 0 0, .slice none 0 0] :: []) → G 1 #[true, true, true, true, true, true, true, true, true, true, true, true, true, true, false] (upl ρ' [(6, .pointer (some ⟨b6, 0, none⟩)), (36, .agg #[clipV v26, .slice (some ⟨b31, 0, none⟩) m.bids.length m.bids.length, clipV v34]), (35, clipV v34), (34, v34), (31, .slice (some ⟨b31, 0, none⟩) m.bids.length m.bids.length), (27, clipV v26), (26, v26)]) w := by
      intro v26 b31 v34 b6 w H
      subst hG hρ
      have h26 : v26.oneCell' = true := (by obtain ⟨_, _, e, _⟩ := H.len (v := v26); rw [e]; rfl)
      have h34 : v34.oneCell' = true := (by obtain ⟨_, _, e, _⟩ := H.len (v := v34); rw [e]; rfl)
      refine D_actn 14 rfl (by kernel_rfl) (E_storea (vs := [clipV v26, .slice (some ⟨b31, 0, none⟩) m.bids.length m.bids.length, clipV v34]) H rfl rfl (all3 (clipV_one h26) rfl (clipV_one h34)) rfl (by simp) ?_)
      clear H; intro w H
      replace H := H.cle (cs' := [clipV v26, .slice (some ⟨b31, 0, none⟩) m.bids.length m.bids.length, clipV v34]) rfl
      refine ⟨fun h => Bool.noConfusion (h : true = false), ?_⟩
      refine D_done (by kernel_rfl) ?_
      refine C_seq (C_seq (C_region rfl (R_o rfl (E_fieldAddr rfl ?_))))
      refine R_o rfl (E_load H rfl rfl ?_)
      refine R_o rfl (E_len rfl ?_)
      refine R_o rfl (E_move (R_nil (C_block (C_loop (ds := []) [1, 4, 6, 38, 39, 40] (fun m_ vs w => ∃ k : Nat, ∃ us : List Value, vs = [.int .i64 (i : Int), .pointer (some ⟨b4, 0, none⟩), .pointer (some ⟨b6, 0, none⟩), .slice A2 m.bids.length c2, .int .i64 m.bids.length, .int .i64 k] ∧ m_ = m.bids.length - k ∧ k ≤ m.bids.length ∧ (us.length = k) ∧ Loc w0 w (rdv undef (fun w => Els RdI w us ((without m i).bids.take k)) :: cl b31 22 (us ++ List.replicate (m.bids.length - k) (.slice none 0 0)) :: cl b6 25 [clipV v26, .slice (some ⟨b31, 0, none⟩) m.bids.length m.bids.length, clipV v34] :: row 3 1 v26 m.res.length (ints .i64 m.res) :: row 3 1 v34 m.ord.length (ints .i64 m.ord) :: cl b2 25 [.slice A1 m.res.length c1, .slice A2 m.bids.length c2, .slice A3 m.ord.length c3] :: cl b4 25 [.slice none 0 0, .slice none 0 0, .slice none 0 0] :: [])) (m := m.bids.length) (by first | rfl | exact hd) ?_ ?_))))
      · replace H := H.mkEmp.toRd undef (fun w => Els RdI w [] ((without m i).bids.take 0)) (fun _ _ _ => Els.nil _ _)
        replace H := (H.fr (cl b31 22 (List.replicate m.bids.length (.slice none 0 0)))).cle (cs' := [] ++ List.replicate (m.bids.length - 0) (.slice none 0 0)) (by simp)
        exact ⟨0, [], rfl, by omega, by omega, rfl, H.al⟩
      intro m vs ρ₀ w hd hI
      clear H
      obtain ⟨k, us, rfl, rfl, hk, hst, H⟩ := hI
      refine C_seq (C_region rfl (R_o rfl (E_lss rfl rfl ?_)))
      refine R_nil (C_seq (C_cond (t := 41) rfl (fun hlt => ?_) (fun hlt => ?_)))
      ·
        obtain ⟨x, hx⟩ := get_of (xs := m.bids) (k := k) (by omega)
        have hxl : x.length ≤ 8 := by rcases hok.bid hx with e | e; rw [e]; simp; have := e.2.2.1; omega
        refine C_skip (C_seq (C_block (C_seq (C_region rfl (R_o rfl (E_move (R_o rfl (E_idxr rb rfl rfl (by omega) (by omega) ?_))))))))
        refine R_o rfl (E_loadr rb H rfl hx ?_)
        intro u hu
        refine R_o rfl (E_assign (R_o rfl (E_assign (R_nil (C_seq (C_region rfl (R_o rfl (E_move (R_o rfl (E_move (R_o rfl (E_neq rfl rfl ?_))))))))))))
        refine R_nil (C_cond (t := 47) rfl (fun h47 => ?_) (fun h47 => ?_))
        ·
          refine C_drawL [7] H (by kernel_rfl) (fun w H => ?_)
          refine D_takeT 0 rfl rfl rfl (by kernel_rfl) (fun w K Z kk => E_fieldAddr rfl kk) ?_
          refine D_take 1 rfl rfl rfl (by kernel_rfl) H.al (fun w HS K Z kk => E_load HS rfl rfl kk) ?_
          refine D_takeT 2 rfl rfl rfl (by kernel_rfl) (fun w K Z kk => E_move kk) ?_
          refine D_takeT 3 rfl rfl rfl (by kernel_rfl) (fun w K Z kk => E_move kk) ?_
          refine D_act 4 rfl rfl (by kernel_rfl) (E_call rfl (Clone_ints (Abides.below H.below hu) (by omega)) ?_)
          rintro v52 w1 hc
          replace H := H.call1 hc; clear hc
          obtain ⟨A52, c52, rfl, hc52, _⟩ := H.len (v := v52)
          refine ⟨fun _ _ => H.al, ?_⟩
          refine D_act 5 rfl rfl (by kernel_rfl) (E_call rfl (Clip_ints hc52) ?_)
          rintro _ w1 ⟨rfl, hb⟩
          replace H := H.call0 hb; clear hb
          replace H : Loc w0 w1 (rdv (.slice A52 x.length x.length) (fun w => RdI w (.slice A52 x.length x.length) x) :: _) := H.rowOwn.ownClip.ownInts
          refine ⟨fun _ _ => H.al, ?_⟩
          refine D_takeT 6 rfl rfl rfl (by kernel_rfl) (fun w K Z kk => E_idxb rfl rfl (by omega) (by omega) kk) ?_
          refine D_actn 7 rfl (by kernel_rfl) (E_storep k (.slice A52 x.length x.length) _ H rfl (by omega) rfl rfl (by simp; omega) (set_mid hst (by omega)) ?_)
          clear H; intro w H
          refine ⟨fun h => Bool.noConfusion (h : true = false), ?_⟩
          refine D_done (by kernel_rfl) ?_
          refine C_region rfl (R_o rfl (E_add rfl rfl (by omega) ?_))
          refine R_o rfl (E_move (R_nil ?_))
          first
            | (have e := (without_get (i := i) hx).trans (congrArg some (if_neg (fun h => h47 (by rw [h]))))
               have H1 := (H.fr (rdv (.slice A52 x.length x.length) (fun w => RdI w (.slice A52 x.length x.length) x))).fr (rdv undef (fun w => Els RdI w us ((without m i).bids.take k)))
               have H2 := H1.join3 undef (fun w => Els RdI w (us ++ [.slice A52 x.length x.length]) ((without m i).bids.take (k + 1))) (fun S1 S2 w h1 h2 => by rw [take_step e]; exact (rdv_now h1).snoc (rdv_now h2))
               exact ⟨hd, m.bids.length - (k + 1), by omega, k + 1, us ++ [.slice A52 x.length x.length], rfl, rfl, by omega, by simp; omega, H2.al⟩)
            | (have hki : k = i := by omega
               have e := (without_get (i := i) hx).trans (congrArg some (if_pos hki))
               have H1 := (H.fr (rdv undef (fun w => Els RdI w us ((without m i).bids.take k)))).rdImp (g := fun w => Els RdI w (us ++ [.slice none 0 0]) ((without m i).bids.take (k + 1))) (fun w h => by rw [take_step e]; exact h.snoc (RdS.nil _ _))
               have H2 := (H1.fr (cl b31 22 (us ++ List.replicate (m.bids.length - k) (.slice none 0 0)))).cle (cs' := (us ++ [.slice none 0 0]) ++ List.replicate (m.bids.length - (k + 1)) (.slice none 0 0)) (by rw [show m.bids.length - k = m.bids.length - (k + 1) + 1 by omega, List.replicate_succ]; simp)
               exact ⟨hd, m.bids.length - (k + 1), by omega, k + 1, us ++ [.slice none 0 0], rfl, rfl, by omega, by simp; omega, H2.al⟩)
        ·
          refine C_skip (C_region rfl (R_o rfl (E_add rfl rfl (by omega) ?_)))
          refine R_o rfl (E_move (R_nil ?_))
          first
            | (have e := (without_get (i := i) hx).trans (congrArg some (if_neg (fun h => h47 (by rw [h]))))
               have H1 := (H.fr (rdv (.slice A52 x.length x.length) (fun w => RdI w (.slice A52 x.length x.length) x))).fr (rdv undef (fun w => Els RdI w us ((without m i).bids.take k)))
               have H2 := H1.join3 undef (fun w => Els RdI w (us ++ [.slice A52 x.length x.length]) ((without m i).bids.take (k + 1))) (fun S1 S2 w h1 h2 => by rw [take_step e]; exact (rdv_now h1).snoc (rdv_now h2))
               exact ⟨hd, m.bids.length - (k + 1), by omega, k + 1, us ++ [.slice A52 x.length x.length], rfl, rfl, by omega, by simp; omega, H2.al⟩)
            | (have hki : k = i := by omega
               have e := (without_get (i := i) hx).trans (congrArg some (if_pos hki))
               have H1 := (H.fr (rdv undef (fun w => Els RdI w us ((without m i).bids.take k)))).rdImp (g := fun w => Els RdI w (us ++ [.slice none 0 0]) ((without m i).bids.take (k + 1))) (fun w h => by rw [take_step e]; exact h.snoc (RdS.nil _ _))
               have H2 := (H1.fr (cl b31 22 (us ++ List.replicate (m.bids.length - k) (.slice none 0 0)))).cle (cs' := (us ++ [.slice none 0 0]) ++ List.replicate (m.bids.length - (k + 1)) (.slice none 0 0)) (by rw [show m.bids.length - k = m.bids.length - (k + 1) + 1 by omega, List.replicate_succ]; simp)
               exact ⟨hd, m.bids.length - (k + 1), by omega, k + 1, us ++ [.slice none 0 0], rfl, rfl, by omega, by simp; omega, H2.al⟩)
      ·
        obtain rfl : k = m.bids.length := by omega
        refine C_exit ?_
        refine C_seq (C_region rfl (R_o rfl (E_loadw H rfl (by rfl) ?_)))
        refine R_n rfl (E_storea (vs := [clipV v26, .slice (some ⟨b31, 0, none⟩) m.bids.length m.bids.length, clipV v34]) H rfl rfl (all3 (clipV_one h26) rfl (clipV_one h34)) rfl (by simp) ?_)
        clear H; intro w H
        replace H := H.cle (cs' := [clipV v26, .slice (some ⟨b31, 0, none⟩) m.bids.length m.bids.length, clipV v34]) rfl
        refine R_o rfl (E_assign (R_nil (C_ret ?_)))
        with_reducible repeat (first | refine thn_ret ?_ | refine inB_ret ?_ | refine noG_ret ?_ | refine jmp_ret ?_)
        refine ret_list (rs := [.cell 4 25, .tmp 5]) (vs := [.agg #[clipV v26, .slice (some ⟨b31, 0, none⟩) m.bids.length m.bids.length, clipV v34], .int .i64 0]) rfl hd ⟨res_cellw (b := b4) H rfl rfl, rfl, trivial⟩ ⟨_, _, _, rfl, ?_⟩
        have hbl : (without m i).bids.length = m.bids.length := by simp [without_bids]
        rw [Nat.sub_self, List.replicate_zero, List.append_nil, List.take_of_length_le (by omega)] at H
        exact wo_join hbl (by omega) hst (by omega) (by omega) H.al
    have St1 : ∀ (v26 : Value) (b31 : Nat) (v34 : Value) (w : World), Loc w0 w (row 3 1 v26 m.res.length (ints .i64 m.res) :: cl b31 22 (List.replicate m.bids.length (.slice none 0 0)) :: row 3 1 v34 m.ord.length (ints .i64 m.ord) :: cl b2 25 [.slice A1 m.res.length c1, .slice A2 m.bids.length c2, .slice A3 m.ord.length c3] :: cl b4 25 [.slice none 0 0, .slice none 0 0, .slice none 0 0] :: []) → G 2 #[true, true, true, true, true, true, true, true, true, true, true, true, true, false, false] (upl ρ' [(36, .agg #[clipV v26, .slice (some ⟨b31, 0, none⟩) m.bids.length m.bids.length, clipV v34]), (35, clipV v34), (34, v34), (31, .slice (some ⟨b31, 0, none⟩) m.bids.length m.bids.length), (27, clipV v26), (26, v26)]) w := by
      intro v26 b31 v34 w H
      subst hG hρ
      refine D_one (i := 13) (by kernel_rfl) ?_
      ·
        refine act_o 13 rfl rfl (E_alloc H ?_)
        clear H; intro w b6 H
        refine ⟨fun _ _ => H.al, ?_⟩
        refine D_at (l' := #[true, true, true, true, true, true, true, true, true, true, true, true, true, true, false]) (L := [(6, _), (36, _), (35, _), (34, _), (31, _), (27, _), (26, _)]) (by kernel_rfl) (List.Perm.refl _) rfl ?_
        exact St0 _ _ _ _ _ (by exact H.al)
    have St2 : ∀ (v26 : Value) (v34 : Value) (b6 : Nat) (w : World), Loc w0 w (row 3 1 v26 m.res.length (ints .i64 m.res) :: row 3 1 v34 m.ord.length (ints .i64 m.ord) :: cl b6 25 [.slice none 0 0, .slice none 0 0, .slice none 0 0] :: cl b2 25 [.slice A1 m.res.length c1, .slice A2 m.bids.length c2, .slice A3 m.ord.length c3] :: cl b4 25 [.slice none 0 0, .slice none 0 0, .slice none 0 0] :: []) → G 3 #[true, true, true, true, true, true, true, false, true, true, true, true, false, true, false] (upl ρ' [(6, .pointer (some ⟨b6, 0, none⟩)), (35, clipV v34), (34, v34), (27, clipV v26), (26, v26)]) w := by
      intro v26 v34 b6 w H
      subst hG hρ
      refine D_one (i := 7) (by kernel_rfl) ?_
      ·
        refine act_o 7 rfl rfl (E_makec m.bids.length m.bids.length H rfl rfl (by omega) (by omega) (by omega) ?_)
        clear H; intro w b31 H
        refine ⟨fun _ _ => H.al, ?_⟩
        have h36 := bld25 (y := .slice (some ⟨b31, 0, none⟩) m.bids.length m.bids.length) (clipV_one (v := v26) (by obtain ⟨_, _, e, _⟩ := H.len (v := v26); rw [e]; rfl)) rfl (clipV_one (v := v34) (by obtain ⟨_, _, e, _⟩ := H.len (v := v34); rw [e]; rfl))
        refine D_takeT 12 rfl rfl rfl (by kernel_rfl) (fun w K Z kk => E_build (cs := [clipV v26, .slice (some ⟨b31, 0, none⟩) m.bids.length m.bids.length, clipV v34]) (by show fillL _ _ [(0, cellsL (clipV v26)), (1, cellsL (.slice (some ⟨b31, 0, none⟩) m.bids.length m.bids.length)), (2, cellsL (clipV v34))] = _; rw [h36.1, h36.2.1, h36.2.2]; rfl) kk) ?_
        refine D_at (l' := #[true, true, true, true, true, true, true, true, true, true, true, true, true, true, false]) (L := [(36, _), (31, _), (6, _), (35, _), (34, _), (27, _), (26, _)]) (by kernel_rfl) ((.cons _ ((.cons _ (List.Perm.refl _) : List.Perm _ _).trans (List.perm_middle (l₁ := [_, _, _])).symm) : List.Perm _ _).trans (List.perm_middle (l₁ := [_])).symm) rfl ?_
        exact St0 _ _ _ _ _ (by exact H.al)
    have St3 : ∀ (v26 : Value) (b31 : Nat) (v34 : Value) (b6 : Nat) (w : World), Loc w0 w (row 3 1 v26 m.res.length (ints .i64 m.res) :: cl b31 22 (List.replicate m.bids.length (.slice none 0 0)) :: row 3 1 v34 m.ord.length (ints .i64 m.ord) :: cl b6 25 [.slice none 0 0, .slice none 0 0, .slice none 0 0] :: cl b2 25 [.slice A1 m.res.length c1, .slice A2 m.bids.length c2, .slice A3 m.ord.length c3] :: cl b4 25 [.slice none 0 0, .slice none 0 0, .slice none 0 0] :: []) → G 3 #[true, true, true, true, true, true, true, true, true, true, true, false, false, true, false] (upl ρ' [(6, .pointer (some ⟨b6, 0, none⟩)), (34, v34), (31, .slice (some ⟨b31, 0, none⟩) m.bids.length m.bids.length), (27, clipV v26), (26, v26)]) w := by
      intro v26 b31 v34 b6 w H
      subst hG hρ
      refine D_one (i := 11) (by kernel_rfl) ?_
      ·
        obtain ⟨A34, c34, e34, hc34, _⟩ := H.len (v := v34)
        refine act_o 11 rfl rfl (E_call (congrArg (fun v => [v]) e34) (Clip_ints hc34) ?_)
        rintro v35 w1 ⟨h35, hb⟩
        obtain rfl : v35 = clipV v34 := (by rw [h35, e34]; rfl)
        replace H := H.call0 hb; clear hb
        refine ⟨fun _ _ => H.al, ?_⟩
        have h36 := bld25 (y := .slice (some ⟨b31, 0, none⟩) m.bids.length m.bids.length) (clipV_one (v := v26) (by obtain ⟨_, _, e, _⟩ := H.len (v := v26); rw [e]; rfl)) rfl (clipV_one (v := v34) (by obtain ⟨_, _, e, _⟩ := H.len (v := v34); rw [e]; rfl))
        refine D_takeT 12 rfl rfl rfl (by kernel_rfl) (fun w K Z kk => E_build (cs := [clipV v26, .slice (some ⟨b31, 0, none⟩) m.bids.length m.bids.length, clipV v34]) (by show fillL _ _ [(0, cellsL (clipV v26)), (1, cellsL (.slice (some ⟨b31, 0, none⟩) m.bids.length m.bids.length)), (2, cellsL (clipV v34))] = _; rw [h36.1, h36.2.1, h36.2.2]; rfl) kk) ?_
        refine D_at (l' := #[true, true, true, true, true, true, true, true, true, true, true, true, true, true, false]) (L := [(36, _), (35, _), (6, _), (34, _), (31, _), (27, _), (26, _)]) (by kernel_rfl) ((.cons _ ((.cons _ (List.Perm.refl _) : List.Perm _ _).trans (List.perm_middle (l₁ := [_])).symm) : List.Perm _ _).trans (List.perm_middle (l₁ := [_])).symm) rfl ?_
        exact St0 _ _ _ _ _ (by exact H.al)
    have St4 : ∀ (v26 : Value) (b31 : Nat) (b6 : Nat) (w : World), Loc w0 w (row 3 1 v26 m.res.length (ints .i64 m.res) :: cl b31 22 (List.replicate m.bids.length (.slice none 0 0)) :: cl b6 25 [.slice none 0 0, .slice none 0 0, .slice none 0 0] :: cl b2 25 [.slice A1 m.res.length c1, .slice A2 m.bids.length c2, .slice A3 m.ord.length c3] :: cl b4 25 [.slice none 0 0, .slice none 0 0, .slice none 0 0] :: []) → G 4 #[true, true, true, true, true, true, true, true, true, true, false, false, false, true, false] (upl ρ' [(6, .pointer (some ⟨b6, 0, none⟩)), (31, .slice (some ⟨b31, 0, none⟩) m.bids.length m.bids.length), (27, clipV v26), (26, v26)]) w := by
      intro v26 b31 b6 w H
      subst hG hρ
      refine D_one (i := 10) (by kernel_rfl) ?_
      ·
        refine act_o 10 rfl rfl (E_call rfl (Clone_ints (Abides.below H.below rc) (by omega)) ?_)
        rintro v34 w1 hc
        replace H := H.call1 hc; clear hc
        refine ⟨fun _ _ => H.al, ?_⟩
        refine D_at (l' := #[true, true, true, true, true, true, true, true, true, true, true, false, false, true, false]) (L := [(34, _), (6, _), (31, _), (27, _), (26, _)]) (by kernel_rfl) ((.cons _ (List.Perm.refl _) : List.Perm _ _).trans (List.perm_middle (l₁ := [_])).symm) rfl ?_
        exact St3 _ _ _ _ _ (by exact H.al)
    have St5 : ∀ (v26 : Value) (v34 : Value) (b6 : Nat) (w : World), Loc w0 w (row 3 1 v26 m.res.length (ints .i64 m.res) :: row 3 1 v34 m.ord.length (ints .i64 m.ord) :: cl b6 25 [.slice none 0 0, .slice none 0 0, .slice none 0 0] :: cl b2 25 [.slice A1 m.res.length c1, .slice A2 m.bids.length c2, .slice A3 m.ord.length c3] :: cl b4 25 [.slice none 0 0, .slice none 0 0, .slice none 0 0] :: []) → G 4 #[true, true, true, true, true, true, true, false, true, true, true, false, false, true, false] (upl ρ' [(6, .pointer (some ⟨b6, 0, none⟩)), (34, v34), (27, clipV v26), (26, v26)]) w := by
      intro v26 v34 b6 w H
      subst hG hρ
      refine D_two (i := 7) (j := 11) (by kernel_rfl) ?_ ?_
      ·
        refine act_o 7 rfl rfl (E_makec m.bids.length m.bids.length H rfl rfl (by omega) (by omega) (by omega) ?_)
        clear H; intro w b31 H
        refine ⟨fun _ _ => H.al, ?_⟩
        refine D_at (l' := #[true, true, true, true, true, true, true, true, true, true, true, false, false, true, false]) (L := [(31, _), (6, _), (34, _), (27, _), (26, _)]) (by kernel_rfl) ((.cons _ (List.Perm.refl _) : List.Perm _ _).trans (List.perm_middle (l₁ := [_, _])).symm) rfl ?_
        exact St3 _ _ _ _ _ (by exact H.al)
      ·
        obtain ⟨A34, c34, e34, hc34, _⟩ := H.len (v := v34)
        refine act_o 11 rfl rfl (E_call (congrArg (fun v => [v]) e34) (Clip_ints hc34) ?_)
        rintro v35 w1 ⟨h35, hb⟩
        obtain rfl : v35 = clipV v34 := (by rw [h35, e34]; rfl)
        replace H := H.call0 hb; clear hb
        refine ⟨fun _ _ => H.al, ?_⟩
        refine D_at (l' := #[true, true, true, true, true, true, true, false, true, true, true, true, false, true, false]) (L := [(35, _), (6, _), (34, _), (27, _), (26, _)]) (by kernel_rfl) ((.cons _ (List.Perm.refl _) : List.Perm _ _).trans (List.perm_middle (l₁ := [_])).symm) rfl ?_
        exact St2 _ _ _ _ (by exact H.al)
    have St6 : ∀ (v26 : Value) (v34 : Value) (w : World), Loc w0 w (row 3 1 v26 m.res.length (ints .i64 m.res) :: row 3 1 v34 m.ord.length (ints .i64 m.ord) :: cl b2 25 [.slice A1 m.res.length c1, .slice A2 m.bids.length c2, .slice A3 m.ord.length c3] :: cl b4 25 [.slice none 0 0, .slice none 0 0, .slice none 0 0] :: []) → G 4 #[true, true, true, true, true, true, true, false, true, true, true, true, false, false, false] (upl ρ' [(35, clipV v34), (34, v34), (27, clipV v26), (26, v26)]) w := by
      intro v26 v34 w H
      subst hG hρ
      refine D_two (i := 7) (j := 13) (by kernel_rfl) ?_ ?_
      ·
        refine act_o 7 rfl rfl (E_makec m.bids.length m.bids.length H rfl rfl (by omega) (by omega) (by omega) ?_)
        clear H; intro w b31 H
        refine ⟨fun _ _ => H.al, ?_⟩
        have h36 := bld25 (y := .slice (some ⟨b31, 0, none⟩) m.bids.length m.bids.length) (clipV_one (v := v26) (by obtain ⟨_, _, e, _⟩ := H.len (v := v26); rw [e]; rfl)) rfl (clipV_one (v := v34) (by obtain ⟨_, _, e, _⟩ := H.len (v := v34); rw [e]; rfl))
        refine D_takeT 12 rfl rfl rfl (by kernel_rfl) (fun w K Z kk => E_build (cs := [clipV v26, .slice (some ⟨b31, 0, none⟩) m.bids.length m.bids.length, clipV v34]) (by show fillL _ _ [(0, cellsL (clipV v26)), (1, cellsL (.slice (some ⟨b31, 0, none⟩) m.bids.length m.bids.length)), (2, cellsL (clipV v34))] = _; rw [h36.1, h36.2.1, h36.2.2]; rfl) kk) ?_
        refine D_at (l' := #[true, true, true, true, true, true, true, true, true, true, true, true, true, false, false]) (L := [(36, _), (31, _), (35, _), (34, _), (27, _), (26, _)]) (by kernel_rfl) (.cons _ ((.cons _ (List.Perm.refl _) : List.Perm _ _).trans (List.perm_middle (l₁ := [_, _])).symm)) rfl ?_
        exact St1 _ _ _ _ (by exact H.al)
      ·
        refine act_o 13 rfl rfl (E_alloc H ?_)
        clear H; intro w b6 H
        refine ⟨fun _ _ => H.al, ?_⟩
        refine D_at (l' := #[true, true, true, true, true, true, true, false, true, true, true, true, false, true, false]) (L := [(6, _), (35, _), (34, _), (27, _), (26, _)]) (by kernel_rfl) (List.Perm.refl _) rfl ?_
        exact St2 _ _ _ _ (by exact H.al)
    have St7 : ∀ (v26 : Value) (b31 : Nat) (v34 : Value) (w : World), Loc w0 w (row 3 1 v26 m.res.length (ints .i64 m.res) :: cl b31 22 (List.replicate m.bids.length (.slice none 0 0)) :: row 3 1 v34 m.ord.length (ints .i64 m.ord) :: cl b2 25 [.slice A1 m.res.length c1, .slice A2 m.bids.length c2, .slice A3 m.ord.length c3] :: cl b4 25 [.slice none 0 0, .slice none 0 0, .slice none 0 0] :: []) → G 4 #[true, true, true, true, true, true, true, true, true, true, true, false, false, false, false] (upl ρ' [(34, v34), (31, .slice (some ⟨b31, 0, none⟩) m.bids.length m.bids.length), (27, clipV v26), (26, v26)]) w := by
      intro v26 b31 v34 w H
      subst hG hρ
      refine D_two (i := 11) (j := 13) (by kernel_rfl) ?_ ?_
      ·
        obtain ⟨A34, c34, e34, hc34, _⟩ := H.len (v := v34)
        refine act_o 11 rfl rfl (E_call (congrArg (fun v => [v]) e34) (Clip_ints hc34) ?_)
        rintro v35 w1 ⟨h35, hb⟩
        obtain rfl : v35 = clipV v34 := (by rw [h35, e34]; rfl)
        replace H := H.call0 hb; clear hb
        refine ⟨fun _ _ => H.al, ?_⟩
        have h36 := bld25 (y := .slice (some ⟨b31, 0, none⟩) m.bids.length m.bids.length) (clipV_one (v := v26) (by obtain ⟨_, _, e, _⟩ := H.len (v := v26); rw [e]; rfl)) rfl (clipV_one (v := v34) (by obtain ⟨_, _, e, _⟩ := H.len (v := v34); rw [e]; rfl))
        refine D_takeT 12 rfl rfl rfl (by kernel_rfl) (fun w K Z kk => E_build (cs := [clipV v26, .slice (some ⟨b31, 0, none⟩) m.bids.length m.bids.length, clipV v34]) (by show fillL _ _ [(0, cellsL (clipV v26)), (1, cellsL (.slice (some ⟨b31, 0, none⟩) m.bids.length m.bids.length)), (2, cellsL (clipV v34))] = _; rw [h36.1, h36.2.1, h36.2.2]; rfl) kk) ?_
        refine D_at (l' := #[true, true, true, true, true, true, true, true, true, true, true, true, true, false, false]) (L := [(36, _), (35, _), (34, _), (31, _), (27, _), (26, _)]) (by kernel_rfl) (List.Perm.refl _) rfl ?_
        exact St1 _ _ _ _ (by exact H.al)
      ·
        refine act_o 13 rfl rfl (E_alloc H ?_)
        clear H; intro w b6 H
        refine ⟨fun _ _ => H.al, ?_⟩
        refine D_at (l' := #[true, true, true, true, true, true, true, true, true, true, true, false, false, true, false]) (L := [(6, _), (34, _), (31, _), (27, _), (26, _)]) (by kernel_rfl) (List.Perm.refl _) rfl ?_
        exact St3 _ _ _ _ _ (by exact H.al)
    have St8 : ∀ (v26 : Value) (v34 : Value) (w : World), Loc w0 w (row 3 1 v26 m.res.length (ints .i64 m.res) :: row 3 1 v34 m.ord.length (ints .i64 m.ord) :: cl b2 25 [.slice A1 m.res.length c1, .slice A2 m.bids.length c2, .slice A3 m.ord.length c3] :: cl b4 25 [.slice none 0 0, .slice none 0 0, .slice none 0 0] :: []) → G 5 #[true, true, true, true, true, true, true, false, true, true, true, false, false, false, false] (upl ρ' [(34, v34), (27, clipV v26), (26, v26)]) w := by
      intro v26 v34 w H
      subst hG hρ
      refine D_three (i := 7) (j := 11) (k := 13) (by kernel_rfl) ?_ ?_ ?_
      ·
        refine act_o 7 rfl rfl (E_makec m.bids.length m.bids.length H rfl rfl (by omega) (by omega) (by omega) ?_)
        clear H; intro w b31 H
        refine ⟨fun _ _ => H.al, ?_⟩
        refine D_at (l' := #[true, true, true, true, true, true, true, true, true, true, true, false, false, false, false]) (L := [(31, _), (34, _), (27, _), (26, _)]) (by kernel_rfl) ((.cons _ (List.Perm.refl _) : List.Perm _ _).trans (List.perm_middle (l₁ := [_])).symm) rfl ?_
        exact St7 _ _ _ _ (by exact H.al)
      ·
        obtain ⟨A34, c34, e34, hc34, _⟩ := H.len (v := v34)
        refine act_o 11 rfl rfl (E_call (congrArg (fun v => [v]) e34) (Clip_ints hc34) ?_)
        rintro v35 w1 ⟨h35, hb⟩
        obtain rfl : v35 = clipV v34 := (by rw [h35, e34]; rfl)
        replace H := H.call0 hb; clear hb
        refine ⟨fun _ _ => H.al, ?_⟩
        refine D_at (l' := #[true, true, true, true, true, true, true, false, true, true, true, true, false, false, false]) (L := [(35, _), (34, _), (27, _), (26, _)]) (by kernel_rfl) (List.Perm.refl _) rfl ?_
        exact St6 _ _ _ (by exact H.al)
      ·
        refine act_o 13 rfl rfl (E_alloc H ?_)
        clear H; intro w b6 H
        refine ⟨fun _ _ => H.al, ?_⟩
        refine D_at (l' := #[true, true, true, true, true, true, true, false, true, true, true, false, false, true, false]) (L := [(6, _), (34, _), (27, _), (26, _)]) (by kernel_rfl) (List.Perm.refl _) rfl ?_
        exact St5 _ _ _ _ (by exact H.al)
    have St9 : ∀ (v26 : Value) (b6 : Nat) (w : World), Loc w0 w (row 3 1 v26 m.res.length (ints .i64 m.res) :: cl b6 25 [.slice none 0 0, .slice none 0 0, .slice none 0 0] :: cl b2 25 [.slice A1 m.res.length c1, .slice A2 m.bids.length c2, .slice A3 m.ord.length c3] :: cl b4 25 [.slice none 0 0, .slice none 0 0, .slice none 0 0] :: []) → G 5 #[true, true, true, true, true, true, true, false, true, true, false, false, false, true, false] (upl ρ' [(6, .pointer (some ⟨b6, 0, none⟩)), (27, clipV v26), (26, v26)]) w := by
      intro v26 b6 w H
      subst hG hρ
      refine D_two (i := 7) (j := 10) (by kernel_rfl) ?_ ?_
      ·
        refine act_o 7 rfl rfl (E_makec m.bids.length m.bids.length H rfl rfl (by omega) (by omega) (by omega) ?_)
        clear H; intro w b31 H
        refine ⟨fun _ _ => H.al, ?_⟩
        refine D_at (l' := #[true, true, true, true, true, true, true, true, true, true, false, false, false, true, false]) (L := [(31, _), (6, _), (27, _), (26, _)]) (by kernel_rfl) ((.cons _ (List.Perm.refl _) : List.Perm _ _).trans (List.perm_middle (l₁ := [_])).symm) rfl ?_
        exact St4 _ _ _ _ (by exact H.al)
      ·
        refine act_o 10 rfl rfl (E_call rfl (Clone_ints (Abides.below H.below rc) (by omega)) ?_)
        rintro v34 w1 hc
        replace H := H.call1 hc; clear hc
        refine ⟨fun _ _ => H.al, ?_⟩
        refine D_at (l' := #[true, true, true, true, true, true, true, false, true, true, true, false, false, true, false]) (L := [(34, _), (6, _), (27, _), (26, _)]) (by kernel_rfl) ((.cons _ (List.Perm.refl _) : List.Perm _ _).trans (List.perm_middle (l₁ := [_])).symm) rfl ?_
        exact St5 _ _ _ _ (by exact H.al)
    have St10 : ∀ (v26 : Value) (b31 : Nat) (w : World), Loc w0 w (row 3 1 v26 m.res.length (ints .i64 m.res) :: cl b31 22 (List.replicate m.bids.length (.slice none 0 0)) :: cl b2 25 [.slice A1 m.res.length c1, .slice A2 m.bids.length c2, .slice A3 m.ord.length c3] :: cl b4 25 [.slice none 0 0, .slice none 0 0, .slice none 0 0] :: []) → G 5 #[true, true, true, true, true, true, true, true, true, true, false, false, false, false, false] (upl ρ' [(31, .slice (some ⟨b31, 0, none⟩) m.bids.length m.bids.length), (27, clipV v26), (26, v26)]) w := by
      intro v26 b31 w H
      subst hG hρ
      refine D_two (i := 10) (j := 13) (by kernel_rfl) ?_ ?_
      ·
        refine act_o 10 rfl rfl (E_call rfl (Clone_ints (Abides.below H.below rc) (by omega)) ?_)
        rintro v34 w1 hc
        replace H := H.call1 hc; clear hc
        refine ⟨fun _ _ => H.al, ?_⟩
        refine D_at (l' := #[true, true, true, true, true, true, true, true, true, true, true, false, false, false, false]) (L := [(34, _), (31, _), (27, _), (26, _)]) (by kernel_rfl) (List.Perm.refl _) rfl ?_
        exact St7 _ _ _ _ (by exact H.al)
      ·
        refine act_o 13 rfl rfl (E_alloc H ?_)
        clear H; intro w b6 H
        refine ⟨fun _ _ => H.al, ?_⟩
        refine D_at (l' := #[true, true, true, true, true, true, true, true, true, true, false, false, false, true, false]) (L := [(6, _), (31, _), (27, _), (26, _)]) (by kernel_rfl) (List.Perm.refl _) rfl ?_
        exact St4 _ _ _ _ (by exact H.al)
    have St11 : ∀ (v26 : Value) (b31 : Nat) (b6 : Nat) (w : World), Loc w0 w (row 3 1 v26 m.res.length (ints .i64 m.res) :: cl b31 22 (List.replicate m.bids.length (.slice none 0 0)) :: cl b6 25 [.slice none 0 0, .slice none 0 0, .slice none 0 0] :: cl b2 25 [.slice A1 m.res.length c1, .slice A2 m.bids.length c2, .slice A3 m.ord.length c3] :: cl b4 25 [.slice none 0 0, .slice none 0 0, .slice none 0 0] :: []) → G 5 #[true, true, true, false, true, true, true, true, true, true, false, false, false, true, false] (upl ρ' [(6, .pointer (some ⟨b6, 0, none⟩)), (31, .slice (some ⟨b31, 0, none⟩) m.bids.length m.bids.length), (26, v26)]) w := by
      intro v26 b31 b6 w H
      subst hG hρ
      refine D_one (i := 3) (by kernel_rfl) ?_
      ·
        obtain ⟨A26, c26, e26, hc26, _⟩ := H.len (v := v26)
        refine act_o 3 rfl rfl (E_call (congrArg (fun v => [v]) e26) (Clip_ints hc26) ?_)
        rintro v27 w1 ⟨h27, hb⟩
        obtain rfl : v27 = clipV v26 := (by rw [h27, e26]; rfl)
        replace H := H.call0 hb; clear hb
        refine ⟨fun _ _ => H.al, ?_⟩
        refine D_at (l' := #[true, true, true, true, true, true, true, true, true, true, false, false, false, true, false]) (L := [(27, _), (6, _), (31, _), (26, _)]) (by kernel_rfl) ((.cons _ (List.Perm.refl _) : List.Perm _ _).trans (List.perm_middle (l₁ := [_, _])).symm) rfl ?_
        exact St4 _ _ _ _ (by exact H.al)
    have St12 : ∀ (b31 : Nat) (b6 : Nat) (w : World), Loc w0 w (cl b31 22 (List.replicate m.bids.length (.slice none 0 0)) :: cl b6 25 [.slice none 0 0, .slice none 0 0, .slice none 0 0] :: cl b2 25 [.slice A1 m.res.length c1, .slice A2 m.bids.length c2, .slice A3 m.ord.length c3] :: cl b4 25 [.slice none 0 0, .slice none 0 0, .slice none 0 0] :: []) → G 6 #[true, true, false, false, true, true, true, true, true, true, false, false, false, true, false] (upl ρ' [(6, .pointer (some ⟨b6, 0, none⟩)), (31, .slice (some ⟨b31, 0, none⟩) m.bids.length m.bids.length)]) w := by
      intro b31 b6 w H
      subst hG hρ
      refine D_one (i := 2) (by kernel_rfl) ?_
      ·
        refine act_o 2 rfl rfl (E_call rfl (Clone_ints (Abides.below H.below ra) (by omega)) ?_)
        rintro v26 w1 hc
        replace H := H.call1 hc; clear hc
        refine ⟨fun _ _ => H.al, ?_⟩
        refine D_at (l' := #[true, true, true, false, true, true, true, true, true, true, false, false, false, true, false]) (L := [(26, _), (6, _), (31, _)]) (by kernel_rfl) ((.cons _ (List.Perm.refl _) : List.Perm _ _).trans (List.perm_middle (l₁ := [_, _])).symm) rfl ?_
        exact St11 _ _ _ _ (by exact H.al)
    have St13 : ∀ (v26 : Value) (w : World), Loc w0 w (row 3 1 v26 m.res.length (ints .i64 m.res) :: cl b2 25 [.slice A1 m.res.length c1, .slice A2 m.bids.length c2, .slice A3 m.ord.length c3] :: cl b4 25 [.slice none 0 0, .slice none 0 0, .slice none 0 0] :: []) → G 6 #[true, true, true, true, true, true, true, false, true, true, false, false, false, false, false] (upl ρ' [(27, clipV v26), (26, v26)]) w := by
      intro v26 w H
      subst hG hρ
      refine D_three (i := 7) (j := 10) (k := 13) (by kernel_rfl) ?_ ?_ ?_
      ·
        refine act_o 7 rfl rfl (E_makec m.bids.length m.bids.length H rfl rfl (by omega) (by omega) (by omega) ?_)
        clear H; intro w b31 H
        refine ⟨fun _ _ => H.al, ?_⟩
        refine D_at (l' := #[true, true, true, true, true, true, true, true, true, true, false, false, false, false, false]) (L := [(31, _), (27, _), (26, _)]) (by kernel_rfl) (List.Perm.refl _) rfl ?_
        exact St10 _ _ _ (by exact H.al)
      ·
        refine act_o 10 rfl rfl (E_call rfl (Clone_ints (Abides.below H.below rc) (by omega)) ?_)
        rintro v34 w1 hc
        replace H := H.call1 hc; clear hc
        refine ⟨fun _ _ => H.al, ?_⟩
        refine D_at (l' := #[true, true, true, true, true, true, true, false, true, true, true, false, false, false, false]) (L := [(34, _), (27, _), (26, _)]) (by kernel_rfl) (List.Perm.refl _) rfl ?_
        exact St8 _ _ _ (by exact H.al)
      ·
        refine act_o 13 rfl rfl (E_alloc H ?_)
        clear H; intro w b6 H
        refine ⟨fun _ _ => H.al, ?_⟩
        refine D_at (l' := #[true, true, true, true, true, true, true, false, true, true, false, false, false, true, false]) (L := [(6, _), (27, _), (26, _)]) (by kernel_rfl) (List.Perm.refl _) rfl ?_
        exact St9 _ _ _ (by exact H.al)
    have St14 : ∀ (v26 : Value) (b31 : Nat) (w : World), Loc w0 w (row 3 1 v26 m.res.length (ints .i64 m.res) :: cl b31 22 (List.replicate m.bids.length (.slice none 0 0)) :: cl b2 25 [.slice A1 m.res.length c1, .slice A2 m.bids.length c2, .slice A3 m.ord.length c3] :: cl b4 25 [.slice none 0 0, .slice none 0 0, .slice none 0 0] :: []) → G 6 #[true, true, true, false, true, true, true, true, true, true, false, false, false, false, false] (upl ρ' [(31, .slice (some ⟨b31, 0, none⟩) m.bids.length m.bids.length), (26, v26)]) w := by
      intro v26 b31 w H
      subst hG hρ
      refine D_two (i := 3) (j := 13) (by kernel_rfl) ?_ ?_
      ·
        obtain ⟨A26, c26, e26, hc26, _⟩ := H.len (v := v26)
        refine act_o 3 rfl rfl (E_call (congrArg (fun v => [v]) e26) (Clip_ints hc26) ?_)
        rintro v27 w1 ⟨h27, hb⟩
        obtain rfl : v27 = clipV v26 := (by rw [h27, e26]; rfl)
        replace H := H.call0 hb; clear hb
        refine ⟨fun _ _ => H.al, ?_⟩
        refine D_at (l' := #[true, true, true, true, true, true, true, true, true, true, false, false, false, false, false]) (L := [(27, _), (31, _), (26, _)]) (by kernel_rfl) ((.cons _ (List.Perm.refl _) : List.Perm _ _).trans (List.perm_middle (l₁ := [_])).symm) rfl ?_
        exact St10 _ _ _ (by exact H.al)
      ·
        refine act_o 13 rfl rfl (E_alloc H ?_)
        clear H; intro w b6 H
        refine ⟨fun _ _ => H.al, ?_⟩
        refine D_at (l' := #[true, true, true, false, true, true, true, true, true, true, false, false, false, true, false]) (L := [(6, _), (31, _), (26, _)]) (by kernel_rfl) (List.Perm.refl _) rfl ?_
        exact St11 _ _ _ _ (by exact H.al)
    have St15 : ∀ (v26 : Value) (b6 : Nat) (w : World), Loc w0 w (row 3 1 v26 m.res.length (ints .i64 m.res) :: cl b6 25 [.slice none 0 0, .slice none 0 0, .slice none 0 0] :: cl b2 25 [.slice A1 m.res.length c1, .slice A2 m.bids.length c2, .slice A3 m.ord.length c3] :: cl b4 25 [.slice none 0 0, .slice none 0 0, .slice none 0 0] :: []) → G 6 #[true, true, true, false, true, true, true, false, true, true, false, false, false, true, false] (upl ρ' [(6, .pointer (some ⟨b6, 0, none⟩)), (26, v26)]) w := by
      intro v26 b6 w H
      subst hG hρ
      refine D_two (i := 3) (j := 7) (by kernel_rfl) ?_ ?_
      ·
        obtain ⟨A26, c26, e26, hc26, _⟩ := H.len (v := v26)
        refine act_o 3 rfl rfl (E_call (congrArg (fun v => [v]) e26) (Clip_ints hc26) ?_)
        rintro v27 w1 ⟨h27, hb⟩
        obtain rfl : v27 = clipV v26 := (by rw [h27, e26]; rfl)
        replace H := H.call0 hb; clear hb
        refine ⟨fun _ _ => H.al, ?_⟩
        refine D_at (l' := #[true, true, true, true, true, true, true, false, true, true, false, false, false, true, false]) (L := [(27, _), (6, _), (26, _)]) (by kernel_rfl) ((.cons _ (List.Perm.refl _) : List.Perm _ _).trans (List.perm_middle (l₁ := [_])).symm) rfl ?_
        exact St9 _ _ _ (by exact H.al)
      ·
        refine act_o 7 rfl rfl (E_makec m.bids.length m.bids.length H rfl rfl (by omega) (by omega) (by omega) ?_)
        clear H; intro w b31 H
        refine ⟨fun _ _ => H.al, ?_⟩
        refine D_at (l' := #[true, true, true, false, true, true, true, true, true, true, false, false, false, true, false]) (L := [(31, _), (6, _), (26, _)]) (by kernel_rfl) ((.cons _ (List.Perm.refl _) : List.Perm _ _).trans (List.perm_middle (l₁ := [_])).symm) rfl ?_
        exact St11 _ _ _ _ (by exact H.al)
    have St16 : ∀ (v26 : Value) (w : World), Loc w0 w (row 3 1 v26 m.res.length (ints .i64 m.res) :: cl b2 25 [.slice A1 m.res.length c1, .slice A2 m.bids.length c2, .slice A3 m.ord.length c3] :: cl b4 25 [.slice none 0 0, .slice none 0 0, .slice none 0 0] :: []) → G 7 #[true, true, true, false, true, true, true, false, true, true, false, false, false, false, false] (upl ρ' [(26, v26)]) w := by
      intro v26 w H
      subst hG hρ
      refine D_three (i := 3) (j := 7) (k := 13) (by kernel_rfl) ?_ ?_ ?_
      ·
        obtain ⟨A26, c26, e26, hc26, _⟩ := H.len (v := v26)
        refine act_o 3 rfl rfl (E_call (congrArg (fun v => [v]) e26) (Clip_ints hc26) ?_)
        rintro v27 w1 ⟨h27, hb⟩
        obtain rfl : v27 = clipV v26 := (by rw [h27, e26]; rfl)
        replace H := H.call0 hb; clear hb
        refine ⟨fun _ _ => H.al, ?_⟩
        refine D_at (l' := #[true, true, true, true, true, true, true, false, true, true, false, false, false, false, false]) (L := [(27, _), (26, _)]) (by kernel_rfl) (List.Perm.refl _) rfl ?_
        exact St13 _ _ (by exact H.al)
      ·
        refine act_o 7 rfl rfl (E_makec m.bids.length m.bids.length H rfl rfl (by omega) (by omega) (by omega) ?_)
        clear H; intro w b31 H
        refine ⟨fun _ _ => H.al, ?_⟩
        refine D_at (l' := #[true, true, true, false, true, true, true, true, true, true, false, false, false, false, false]) (L := [(31, _), (26, _)]) (by kernel_rfl) (List.Perm.refl _) rfl ?_
        exact St14 _ _ _ (by exact H.al)
      ·
        refine act_o 13 rfl rfl (E_alloc H ?_)
        clear H; intro w b6 H
        refine ⟨fun _ _ => H.al, ?_⟩
        refine D_at (l' := #[true, true, true, false, true, true, true, false, true, true, false, false, false, true, false]) (L := [(6, _), (26, _)]) (by kernel_rfl) (List.Perm.refl _) rfl ?_
        exact St15 _ _ _ (by exact H.al)
    have St17 : ∀ (b31 : Nat) (w : World), Loc w0 w (cl b31 22 (List.replicate m.bids.length (.slice none 0 0)) :: cl b2 25 [.slice A1 m.res.length c1, .slice A2 m.bids.length c2, .slice A3 m.ord.length c3] :: cl b4 25 [.slice none 0 0, .slice none 0 0, .slice none 0 0] :: []) → G 7 #[true, true, false, false, true, true, true, true, true, true, false, false, false, false, false] (upl ρ' [(31, .slice (some ⟨b31, 0, none⟩) m.bids.length m.bids.length)]) w := by
      intro b31 w H
      subst hG hρ
      refine D_two (i := 2) (j := 13) (by kernel_rfl) ?_ ?_
      ·
        refine act_o 2 rfl rfl (E_call rfl (Clone_ints (Abides.below H.below ra) (by omega)) ?_)
        rintro v26 w1 hc
        replace H := H.call1 hc; clear hc
        refine ⟨fun _ _ => H.al, ?_⟩
        refine D_at (l' := #[true, true, true, false, true, true, true, true, true, true, false, false, false, false, false]) (L := [(26, _), (31, _)]) (by kernel_rfl) ((.cons _ (List.Perm.refl _) : List.Perm _ _).trans (List.perm_middle (l₁ := [_])).symm) rfl ?_
        exact St14 _ _ _ (by exact H.al)
      ·
        refine act_o 13 rfl rfl (E_alloc H ?_)
        clear H; intro w b6 H
        refine ⟨fun _ _ => H.al, ?_⟩
        refine D_at (l' := #[true, true, false, false, true, true, true, true, true, true, false, false, false, true, false]) (L := [(6, _), (31, _)]) (by kernel_rfl) (List.Perm.refl _) rfl ?_
        exact St12 _ _ _ (by exact H.al)
    have St18 : ∀ (b6 : Nat) (w : World), Loc w0 w (cl b6 25 [.slice none 0 0, .slice none 0 0, .slice none 0 0] :: cl b2 25 [.slice A1 m.res.length c1, .slice A2 m.bids.length c2, .slice A3 m.ord.length c3] :: cl b4 25 [.slice none 0 0, .slice none 0 0, .slice none 0 0] :: []) → G 7 #[true, true, false, false, true, true, true, false, true, true, false, false, false, true, false] (upl ρ' [(6, .pointer (some ⟨b6, 0, none⟩))]) w := by
      intro b6 w H
      subst hG hρ
      refine D_two (i := 2) (j := 7) (by kernel_rfl) ?_ ?_
      ·
        refine act_o 2 rfl rfl (E_call rfl (Clone_ints (Abides.below H.below ra) (by omega)) ?_)
        rintro v26 w1 hc
        replace H := H.call1 hc; clear hc
        refine ⟨fun _ _ => H.al, ?_⟩
        refine D_at (l' := #[true, true, true, false, true, true, true, false, true, true, false, false, false, true, false]) (L := [(26, _), (6, _)]) (by kernel_rfl) ((.cons _ (List.Perm.refl _) : List.Perm _ _).trans (List.perm_middle (l₁ := [_])).symm) rfl ?_
        exact St15 _ _ _ (by exact H.al)
      ·
        refine act_o 7 rfl rfl (E_makec m.bids.length m.bids.length H rfl rfl (by omega) (by omega) (by omega) ?_)
        clear H; intro w b31 H
        refine ⟨fun _ _ => H.al, ?_⟩
        refine D_at (l' := #[true, true, false, false, true, true, true, true, true, true, false, false, false, true, false]) (L := [(31, _), (6, _)]) (by kernel_rfl) ((.cons _ (List.Perm.refl _) : List.Perm _ _).trans (List.perm_middle (l₁ := [_])).symm) rfl ?_
        exact St12 _ _ _ (by exact H.al)
    subst hG hρ
    refine D_three (i := 2) (j := 7) (k := 13) (by kernel_rfl) ?_ ?_ ?_
    ·
     refine act_o 2 rfl rfl (E_call rfl (Clone_ints (Abides.below H.below ra) (by omega)) ?_)
     rintro v26 w1 hc
     replace H := H.call1 hc; clear hc
     refine ⟨fun _ _ => H.al, ?_⟩
     refine D_at (l' := #[true, true, true, false, true, true, true, false, true, true, false, false, false, false, false]) (L := [(26, _)]) (by kernel_rfl) (List.Perm.refl _) rfl ?_
     exact St16 _ _ (by exact H.al)
    ·
     refine act_o 7 rfl rfl (E_makec m.bids.length m.bids.length H rfl rfl (by omega) (by omega) (by omega) ?_)
     clear H; intro w b31 H
     refine ⟨fun _ _ => H.al, ?_⟩
     refine D_at (l' := #[true, true, false, false, true, true, true, true, true, true, false, false, false, false, false]) (L := [(31, _)]) (by kernel_rfl) (List.Perm.refl _) rfl ?_
     exact St17 _ _ (by exact H.al)
    ·
     refine act_o 13 rfl rfl (E_alloc H ?_)
     clear H; intro w b6 H
     refine ⟨fun _ _ => H.al, ?_⟩
     refine D_at (l' := #[true, true, false, false, true, true, true, false, true, true, false, false, false, true, false]) (L := [(6, _)]) (by kernel_rfl) (List.Perm.refl _) rfl ?_
     exact St18 _ _ (by exact H.al)
theorem R5Without_ {w0 : World} {v : Value} {m : Mk} {i : Nat} (hm : RdM w0 v m) (hok : okMk m) (hi : i < m.bids.length) :
   Ret Tryz.prog 40 [v, .int .i64 (i : Int)] w0 (WithoutPo m i w0) := by
 refine ret_of_C Tryz.func40 rfl rfl rfl ?_
 have H := Loc.refl w0
 have hm0 := hm
 obtain ⟨a, b, c, rfl, ra, rb, rc⟩ := hm
 obtain ⟨A1, c1, rfl, hA1, hA2⟩ := ra.len
 obtain ⟨A2, c2, rfl, hB1, hB2⟩ := rb.len
 obtain ⟨A3, c3, rfl, hC1, hC2⟩ := rc.len
 have hn1 := hok.1.2.1
 have hn2 := hok.2.1.2
 have hol := okOrd_length hok.2.2.1
 refine C_seq (C_region rfl (R_o rfl (E_box (cs := [.slice A1 m.res.length c1, .slice A2 m.bids.length c2, .slice A3 m.ord.length c3]) rfl H ?_)))
 clear H; intro w b2 H
 refine R_o rfl (E_alloc H ?_)
 clear H; intro w b4 H
 refine R_o rfl (E_assign (R_nil (C_seq (C_seq (C_region rfl (R_o rfl (E_loadw H rfl (by rfl) ?_)))))))
 refine R_o rfl (E_call rfl (R5Check_ (Abides.below H.below hm0)) ?_)
 rintro _ w1 ⟨rfl, hb⟩
 replace H := H.call0 hb; clear hb
 refine R_o rfl (E_not rfl ?_)
 refine R_o rfl (E_move (R_part (t := 11) rfl (fun h11 => ?_) (fun h11 => ?_)))
 ·
  exact absurd hok h11
 ·
  refine R_w rfl rfl rfl (E_move ?_)
  refine R_w rfl rfl rfl (E_lss rfl rfl ?_)
  refine R_o rfl (E_pick rfl ?_)
  refine R_o rfl (E_move (R_part (t := 15) rfl (fun h15 => ?_) (fun h15 => ?_)))
  ·
   exact absurd h15 (by omega)
  ·
   refine R_w rfl rfl rfl (E_move ?_)
   refine R_w rfl rfl rfl (E_fieldAddr rfl ?_)
   refine R_w rfl rfl rfl (E_load H rfl rfl ?_)
   refine R_w rfl rfl rfl (E_len rfl ?_)
   refine R_w rfl rfl rfl (E_geq rfl rfl ?_)
   refine R_o rfl (E_pick rfl ?_)
   refine R_nil (C_cond (t := 21) rfl (fun h21 => ?_) (fun h21 => ?_))
   ·
    exact absurd h21 (by omega)
   ·
    refine C_skip (C_seq (C_drawL [8] H (by kernel_rfl) (fun w H => ?_)))
    refine D_takeT 0 rfl rfl rfl (by kernel_rfl) (fun w K Z kk => E_fieldAddr rfl kk) ?_
    refine D_take 1 rfl rfl rfl (by kernel_rfl) H.al (fun w HS K Z kk => E_load HS rfl rfl kk) ?_
    refine D_takeT 3 rfl rfl rfl (by kernel_rfl) (fun w K Z kk => E_fieldAddr rfl kk) ?_
    refine D_take 4 rfl rfl rfl (by kernel_rfl) H.al (fun w HS K Z kk => E_load HS rfl rfl kk) ?_
    refine D_abs fun G ρ' hG hρ => ?_
    have St0 : ∀ (v25 : Value) (v28 : Value) (b6 : Nat) (w : World), Loc w0 w (row 3 1 v25 m.res.length (ints .i64 m.res) :: row 3 1 v28 m.ord.length (ints .i64 m.ord) :: cl b6 25 [.slice none 0 0, .slice none 0 0, .slice none 0 0] :: cl b2 25 [.slice A1 m.res.length c1, .slice A2 m.bids.length c2, .slice A3 m.ord.length c3] :: cl b4 25 [.slice none 0 0, .slice none 0 0, .slice none 0 0] :: []) → G 1 #[true, true, true, true, true, true, true, true, false] (upl ρ' [(6, .pointer (some ⟨b6, 0, none⟩)), (29, .agg #[v25, .slice none 0 0, v28]), (28, v28), (25, v25)]) w := by
      intro v25 v28 b6 w H
      subst hG hρ
      have h25 : v25.oneCell' = true := (by obtain ⟨_, _, e, _⟩ := H.len (v := v25); rw [e]; rfl)
      have h28 : v28.oneCell' = true := (by obtain ⟨_, _, e, _⟩ := H.len (v := v28); rw [e]; rfl)
      refine D_actn 8 rfl (by kernel_rfl) (E_storea (vs := [v25, .slice none 0 0, v28]) H rfl rfl (all3 h25 rfl h28) rfl (by simp) ?_)
      clear H; intro w H
      replace H := H.cle (cs' := [v25, .slice none 0 0, v28]) rfl
      refine ⟨fun h => Bool.noConfusion (h : true = false), ?_⟩
      refine D_done (by kernel_rfl) ?_
      refine C_seq (C_seq (C_region rfl (R_o rfl (E_assign (R_nil (C_block (C_loop (ds := []) [1, 2, 4, 6, 7] (fun m_ vs w => ∃ k : Nat, ∃ (us : List Value) (vb : Value), vs = [.int .i64 (i : Int), .pointer (some ⟨b2, 0, none⟩), .pointer (some ⟨b4, 0, none⟩), .pointer (some ⟨b6, 0, none⟩), .int .i64 k] ∧ m_ = m.bids.length - k ∧ k ≤ m.bids.length ∧ (us.length = k) ∧ Loc w0 w (rdv undef (fun w => Els RdI w us ((without m i).bids.take k)) :: row 22 1 vb k us :: cl b6 25 [v25, vb, v28] :: row 3 1 v25 m.res.length (ints .i64 m.res) :: row 3 1 v28 m.ord.length (ints .i64 m.ord) :: cl b2 25 [.slice A1 m.res.length c1, .slice A2 m.bids.length c2, .slice A3 m.ord.length c3] :: cl b4 25 [.slice none 0 0, .slice none 0 0, .slice none 0 0] :: [])) (m := m.bids.length) (by first | rfl | exact hd) ?_ ?_)))))))
      · replace H := nilRow 22 1 (H.mkEmp.toRd undef (fun w => Els RdI w [] ((without m i).bids.take 0)) (fun _ _ _ => Els.nil _ _))
        exact ⟨0, [], .slice none 0 0, rfl, by omega, by omega, rfl, H.al⟩
      intro m vs ρ₀ w hd hI
      clear H
      obtain ⟨k, us, vb, rfl, rfl, hk, hst, H⟩ := hI
      refine C_seq (C_seq (C_region rfl (R_o rfl (E_move (R_o rfl (E_fieldAddr rfl ?_))))))
      refine R_o rfl (E_load H rfl rfl ?_)
      refine R_o rfl (E_len rfl ?_)
      refine R_o rfl (E_lss rfl rfl ?_)
      refine R_nil (C_cond (t := 34) rfl (fun hlt => ?_) (fun hlt => ?_))
      ·
        obtain ⟨x, hx⟩ := get_of (xs := m.bids) (k := k) (by omega)
        have hxl : x.length ≤ 8 := by rcases hok.bid hx with e | e; rw [e]; simp; have := e.2.2.1; omega
        obtain ⟨ux, hca, hu⟩ := rb.at hx
        obtain ⟨Au, cu, rfl, _, _⟩ := hu.len
        have hvb : vb.oneCell' = true := (by obtain ⟨_, _, e, _⟩ := H.len (v := vb); rw [e]; rfl)
        refine C_skip (C_seq (C_block (C_seq (C_region rfl (R_o rfl (E_move (R_o rfl (E_move (R_o rfl (E_eql rfl rfl ?_))))))))))
        refine R_nil (C_cond (t := 39) rfl (fun h39 => ?_) (fun h39 => ?_))
        ·
          refine C_region rfl (R_o rfl (E_fieldAddr rfl ?_))
          refine R_o rfl (E_load H rfl rfl ?_)
          refine R_o rfl (E_lit (vs := [.slice none 0 0]) [.const (.slice none 0 0)] rfl rfl rfl rfl rfl H ?_)
          clear H; intro w b42 H
          refine R_o rfl (E_append1 (v := vb) (b := b42) (u := .slice none 0 0) H rfl rfl rfl (by omega) (by omega) ?_)
          clear H; intro w v43 H
          have h43 : v43.oneCell' = true := (by obtain ⟨_, _, e, _⟩ := H.len (v := v43); rw [e]; rfl)
          refine R_o rfl (E_fieldAddr rfl ?_)
          refine R_n rfl (E_store (v := v43) H rfl rfl h43 (by simp) ?_)
          clear H; intro w H
          replace H := H.cle (cs' := [v25, v43, v28]) rfl
          refine R_nil (C_region rfl (R_o rfl (E_move (R_o rfl (E_add rfl rfl (by omega) ?_)))))
          refine R_o rfl (E_assign (R_nil ?_))
          first
            | (have e := (without_get (i := i) hx).trans (congrArg some (if_neg (fun h => h39 (by rw [h]))))
               have H1 := ((H.fr (row 3 1 (.slice A52 x.length c52) x.length (ints .i64 x))).rowInts).fr (rdv undef (fun w => Els RdI w us ((without m i).bids.take k)))
               have H2 := H1.join3 undef (fun w => Els RdI w (us ++ [.slice A52 x.length c52]) ((without m i).bids.take (k + 1))) (fun S1 S2 w h1 h2 => by rw [take_step e]; exact (rdv_now h1).snoc (rdv_now h2))
               exact ⟨hd, m.bids.length - (k + 1), by omega, k + 1, us ++ [.slice A52 x.length c52], v54, rfl, rfl, by omega, by simp; omega, H2.al⟩)
            | (have hki : k = i := by omega
               have e := (without_get (i := i) hx).trans (congrArg some (if_pos hki))
               have H1 := (H.fr (rdv undef (fun w => Els RdI w us ((without m i).bids.take k)))).rdImp (g := fun w => Els RdI w (us ++ [.slice none 0 0]) ((without m i).bids.take (k + 1))) (fun w h => by rw [take_step e]; exact h.snoc (RdS.nil _ _))
               exact ⟨hd, m.bids.length - (k + 1), by omega, k + 1, us ++ [.slice none 0 0], v43, rfl, rfl, by omega, by simp; omega, H1.al⟩)
        ·
          refine C_drawS [11] [cl b2 25 [.slice A1 m.res.length c1, .slice A2 m.bids.length c2, .slice A3 m.ord.length c3], cl b6 25 [v25, vb, v28]] H (by kernel_rfl) (fun w H => ?_)
          refine D_takeT 0 rfl rfl rfl (by kernel_rfl) (fun w K Z kk => E_fieldAddr rfl kk) ?_
          refine D_take 1 rfl rfl rfl (by kernel_rfl) H.al (fun w HS K Z kk => E_load HS rfl rfl kk) ?_
          refine D_takeT 2 rfl rfl rfl (by kernel_rfl) (fun w K Z kk => E_fieldAddr rfl kk) ?_
          refine D_take 3 rfl rfl rfl (by kernel_rfl) H.al (fun w HS K Z kk => E_load HS rfl rfl kk) ?_
          refine D_takeT 4 rfl rfl rfl (by kernel_rfl) (fun w K Z kk => E_move kk) ?_
          refine D_takeT 5 rfl rfl rfl (by kernel_rfl) (fun w K Z kk => E_idxr rb rfl rfl (by omega) (by omega) kk) ?_
          refine D_take 6 rfl rfl rfl (by kernel_rfl) H.al (fun w HS K Z kk => E_loadc hca HS rfl kk) ?_
          refine D_act 7 rfl rfl (by kernel_rfl) (E_append0 H (Abides.below H.below hu) rfl rfl (by omega) (by omega) ?_)
          clear H; intro w v52 H
          obtain ⟨A52, c52, rfl, _, _⟩ := H.len (v := v52)
          refine ⟨fun _ _ => H.al, ?_⟩
          refine D_act 8 rfl rfl (by kernel_rfl) (E_lit (vs := [.slice A52 x.length c52]) [.tmp 52] rfl rfl rfl rfl rfl H ?_)
          clear H; intro w b53 H
          refine ⟨fun _ _ => H.al, ?_⟩
          refine D_act 9 rfl rfl (by kernel_rfl) (E_append1 (v := vb) (b := b53) (u := .slice A52 x.length c52) H rfl rfl rfl (by omega) (by omega) ?_)
          clear H; intro w v54 H
          have h54 : v54.oneCell' = true := (by obtain ⟨_, _, e, _⟩ := H.len (v := v54); rw [e]; rfl)
          refine ⟨fun _ _ => H.al, ?_⟩
          refine D_takeT 10 rfl rfl rfl (by kernel_rfl) (fun w K Z kk => E_fieldAddr rfl kk) ?_
          refine D_actn 11 rfl (by kernel_rfl) (E_store (v := v54) H rfl rfl h54 (by simp) ?_)
          clear H; intro w H
          replace H := H.cle (cs' := [v25, v54, v28]) rfl
          refine ⟨fun h => Bool.noConfusion (h : true = false), ?_⟩
          refine D_done (by kernel_rfl) ?_
          refine C_region rfl (R_o rfl (E_move (R_o rfl (E_add rfl rfl (by omega) ?_))))
          refine R_o rfl (E_assign (R_nil ?_))
          first
            | (have e := (without_get (i := i) hx).trans (congrArg some (if_neg (fun h => h39 (by rw [h]))))
               have H1 := ((H.fr (row 3 1 (.slice A52 x.length c52) x.length (ints .i64 x))).rowInts).fr (rdv undef (fun w => Els RdI w us ((without m i).bids.take k)))
               have H2 := H1.join3 undef (fun w => Els RdI w (us ++ [.slice A52 x.length c52]) ((without m i).bids.take (k + 1))) (fun S1 S2 w h1 h2 => by rw [take_step e]; exact (rdv_now h1).snoc (rdv_now h2))
               exact ⟨hd, m.bids.length - (k + 1), by omega, k + 1, us ++ [.slice A52 x.length c52], v54, rfl, rfl, by omega, by simp; omega, H2.al⟩)
            | (have hki : k = i := by omega
               have e := (without_get (i := i) hx).trans (congrArg some (if_pos hki))
               have H1 := (H.fr (rdv undef (fun w => Els RdI w us ((without m i).bids.take k)))).rdImp (g := fun w => Els RdI w (us ++ [.slice none 0 0]) ((without m i).bids.take (k + 1))) (fun w h => by rw [take_step e]; exact h.snoc (RdS.nil _ _))
               exact ⟨hd, m.bids.length - (k + 1), by omega, k + 1, us ++ [.slice none 0 0], v43, rfl, rfl, by omega, by simp; omega, H1.al⟩)
      ·
        obtain rfl : k = m.bids.length := by omega
        have hvb : vb.oneCell' = true := (by obtain ⟨_, _, e, _⟩ := H.len (v := vb); rw [e]; rfl)
        refine C_exit ?_
        refine C_seq (C_region rfl (R_o rfl (E_loadw H rfl (by rfl) ?_)))
        refine R_n rfl (E_storea (vs := [v25, vb, v28]) H rfl rfl (all3 h25 hvb h28) rfl (by simp) ?_)
        clear H; intro w H
        replace H := H.cle (cs' := [v25, vb, v28]) rfl
        refine R_o rfl (E_assign (R_nil (C_ret ?_)))
        with_reducible repeat (first | refine thn_ret ?_ | refine inB_ret ?_ | refine noG_ret ?_ | refine jmp_ret ?_)
        refine ret_list (rs := [.cell 4 25, .tmp 5]) (vs := [.agg #[v25, vb, v28], .int .i64 0]) rfl hd ⟨res_cellw (b := b4) H rfl rfl, rfl, trivial⟩ ⟨_, _, _, rfl, ?_⟩
        have hbl : (without m i).bids.length = m.bids.length := by simp [without_bids]
        rw [List.take_of_length_le (by omega)] at H
        have A := (H.fr (row 22 1 vb m.bids.length us)).fr (rdv undef (fun w => Els RdI w us (without m i).bids))
        have B := A.join undef (fun w => RdII w vb (without m i).bids) (fun S1 S2 w' p1 p2 => row_rdE p2 (rdv_now p1))
        have C := (((B.fr (row 3 1 v25 m.res.length (ints .i64 m.res))).rowInts).fr (row 3 1 v28 m.ord.length (ints .i64 m.ord))).rowInts
        have D : Loc w0 w [rdv v28 (fun w => RdI w v28 m.ord), rdv v25 (fun w => RdI w v25 m.res), rdv undef (fun w => RdII w vb (without m i).bids)] := C.al
        have E := D.join undef (fun w => RdI w v28 m.ord ∧ RdI w v25 m.res) (fun S1 S2 w' p1 p2 => ⟨rdv_now p1, rdv_now p2⟩)
        exact E.join _ _ (fun S1 S2 w' p1 p2 => ⟨_, _, _, rfl, (rdv_now p1).2, rdv_now p2, (rdv_now p1).1⟩)
    have St1 : ∀ (v25 : Value) (v28 : Value) (w : World), Loc w0 w (row 3 1 v25 m.res.length (ints .i64 m.res) :: row 3 1 v28 m.ord.length (ints .i64 m.ord) :: cl b2 25 [.slice A1 m.res.length c1, .slice A2 m.bids.length c2, .slice A3 m.ord.length c3] :: cl b4 25 [.slice none 0 0, .slice none 0 0, .slice none 0 0] :: []) → G 2 #[true, true, true, true, true, true, true, false, false] (upl ρ' [(29, .agg #[v25, .slice none 0 0, v28]), (28, v28), (25, v25)]) w := by
      intro v25 v28 w H
      subst hG hρ
      refine D_one (i := 7) (by kernel_rfl) ?_
      ·
        refine act_o 7 rfl rfl (E_alloc H ?_)
        clear H; intro w b6 H
        refine ⟨fun _ _ => H.al, ?_⟩
        refine D_at (l' := #[true, true, true, true, true, true, true, true, false]) (L := [(6, _), (29, _), (28, _), (25, _)]) (by kernel_rfl) (List.Perm.refl _) rfl ?_
        exact St0 _ _ _ _ (by exact H.al)
    have St2 : ∀ (v25 : Value) (b6 : Nat) (w : World), Loc w0 w (row 3 1 v25 m.res.length (ints .i64 m.res) :: cl b6 25 [.slice none 0 0, .slice none 0 0, .slice none 0 0] :: cl b2 25 [.slice A1 m.res.length c1, .slice A2 m.bids.length c2, .slice A3 m.ord.length c3] :: cl b4 25 [.slice none 0 0, .slice none 0 0, .slice none 0 0] :: []) → G 3 #[true, true, true, true, true, false, false, true, false] (upl ρ' [(6, .pointer (some ⟨b6, 0, none⟩)), (25, v25)]) w := by
      intro v25 b6 w H
      subst hG hρ
      refine D_one (i := 5) (by kernel_rfl) ?_
      ·
        refine act_o 5 rfl rfl (E_append0 H (Abides.below H.below rc) rfl rfl (by omega) (by omega) ?_)
        clear H; intro w v28 H
        refine ⟨fun _ _ => H.al, ?_⟩
        have h29 := bld25 (x := v25) (y := .slice none 0 0) (z := v28) (by obtain ⟨_, _, e, _⟩ := H.len (v := v25); rw [e]; rfl) rfl (by obtain ⟨_, _, e, _⟩ := H.len (v := v28); rw [e]; rfl)
        refine D_takeT 6 rfl rfl rfl (by kernel_rfl) (fun w K Z kk => E_build (cs := [v25, .slice none 0 0, v28]) (by show fillL _ _ [(0, cellsL v25), (2, cellsL v28)] = _; rw [h29.1, h29.2.2]; rfl) kk) ?_
        refine D_at (l' := #[true, true, true, true, true, true, true, true, false]) (L := [(29, _), (28, _), (6, _), (25, _)]) (by kernel_rfl) ((.cons _ ((.cons _ (List.Perm.refl _) : List.Perm _ _).trans (List.perm_middle (l₁ := [_])).symm) : List.Perm _ _).trans (List.perm_middle (l₁ := [_])).symm) rfl ?_
        exact St0 _ _ _ _ (by exact H.al)
    have St3 : ∀ (b6 : Nat) (w : World), Loc w0 w (cl b6 25 [.slice none 0 0, .slice none 0 0, .slice none 0 0] :: cl b2 25 [.slice A1 m.res.length c1, .slice A2 m.bids.length c2, .slice A3 m.ord.length c3] :: cl b4 25 [.slice none 0 0, .slice none 0 0, .slice none 0 0] :: []) → G 4 #[true, true, false, true, true, false, false, true, false] (upl ρ' [(6, .pointer (some ⟨b6, 0, none⟩))]) w := by
      intro b6 w H
      subst hG hρ
      refine D_one (i := 2) (by kernel_rfl) ?_
      ·
        refine act_o 2 rfl rfl (E_append0 H (Abides.below H.below ra) rfl rfl (by omega) (by omega) ?_)
        clear H; intro w v25 H
        refine ⟨fun _ _ => H.al, ?_⟩
        refine D_at (l' := #[true, true, true, true, true, false, false, true, false]) (L := [(25, _), (6, _)]) (by kernel_rfl) ((.cons _ (List.Perm.refl _) : List.Perm _ _).trans (List.perm_middle (l₁ := [_])).symm) rfl ?_
        exact St2 _ _ _ (by exact H.al)
    have St4 : ∀ (v25 : Value) (w : World), Loc w0 w (row 3 1 v25 m.res.length (ints .i64 m.res) :: cl b2 25 [.slice A1 m.res.length c1, .slice A2 m.bids.length c2, .slice A3 m.ord.length c3] :: cl b4 25 [.slice none 0 0, .slice none 0 0, .slice none 0 0] :: []) → G 4 #[true, true, true, true, true, false, false, false, false] (upl ρ' [(25, v25)]) w := by
      intro v25 w H
      subst hG hρ
      refine D_two (i := 5) (j := 7) (by kernel_rfl) ?_ ?_
      ·
        refine act_o 5 rfl rfl (E_append0 H (Abides.below H.below rc) rfl rfl (by omega) (by omega) ?_)
        clear H; intro w v28 H
        refine ⟨fun _ _ => H.al, ?_⟩
        have h29 := bld25 (x := v25) (y := .slice none 0 0) (z := v28) (by obtain ⟨_, _, e, _⟩ := H.len (v := v25); rw [e]; rfl) rfl (by obtain ⟨_, _, e, _⟩ := H.len (v := v28); rw [e]; rfl)
        refine D_takeT 6 rfl rfl rfl (by kernel_rfl) (fun w K Z kk => E_build (cs := [v25, .slice none 0 0, v28]) (by show fillL _ _ [(0, cellsL v25), (2, cellsL v28)] = _; rw [h29.1, h29.2.2]; rfl) kk) ?_
        refine D_at (l' := #[true, true, true, true, true, true, true, false, false]) (L := [(29, _), (28, _), (25, _)]) (by kernel_rfl) (List.Perm.refl _) rfl ?_
        exact St1 _ _ _ (by exact H.al)
      ·
        refine act_o 7 rfl rfl (E_alloc H ?_)
        clear H; intro w b6 H
        refine ⟨fun _ _ => H.al, ?_⟩
        refine D_at (l' := #[true, true, true, true, true, false, false, true, false]) (L := [(6, _), (25, _)]) (by kernel_rfl) (List.Perm.refl _) rfl ?_
        exact St2 _ _ _ (by exact H.al)
    subst hG hρ
    refine D_two (i := 2) (j := 7) (by kernel_rfl) ?_ ?_
    ·
     refine act_o 2 rfl rfl (E_append0 H (Abides.below H.below ra) rfl rfl (by omega) (by omega) ?_)
     clear H; intro w v25 H
     refine ⟨fun _ _ => H.al, ?_⟩
     refine D_at (l' := #[true, true, true, true, true, false, false, false, false]) (L := [(25, _)]) (by kernel_rfl) (List.Perm.refl _) rfl ?_
     exact St4 _ _ (by exact H.al)
    ·
     refine act_o 7 rfl rfl (E_alloc H ?_)
     clear H; intro w b6 H
     refine ⟨fun _ _ => H.al, ?_⟩
     refine D_at (l' := #[true, true, false, true, true, false, false, true, false]) (L := [(6, _)]) (by kernel_rfl) (List.Perm.refl _) rfl ?_
     exact St3 _ _ (by exact H.al)
end Go.Sl
