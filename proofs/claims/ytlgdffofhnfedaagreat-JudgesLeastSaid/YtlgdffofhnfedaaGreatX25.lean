/- the prices at which it ends. -/
import Derived.Test.YtlgdffofhnfedaaGreatX24
set_option linter.unusedVariables false
set_option linter.unusedSimpArgs false
set_option maxRecDepth 10000
set_option maxHeartbeats 2000000
namespace Go.Sl
open Go.RowKit
open Go.Proofs
def Xst (m : Mk) (k : Nat) (vs : List Value) : Prop := ∃ p v, itV m k = some p ∧ vs = [v]
def FXst (m : Mk) (k : Nat) (vs : List Value) : List HP := [rdv (vs.getD 0 undef) (fun w => RdI w (vs.getD 0 undef) ((itV m k).getD []))]
theorem FXst_eq {m : Mk} {k : Nat} {p : List Int} (h : itV m k = some p) (v : Value) : FXst m k [v] = [rdv v (fun w => RdI w v p)] := by
 show [rdv v (fun w => RdI w v ((itV m k).getD []))] = _
 rw [h]; rfl
def lastV (m : Mk) (hs : List (List Value)) : List HP :=
 match hs.getLast? with
 | some [v] => [rdv v (fun w => RdI w v ((itV m (hs.length - 1)).getD []))]
 | _ => []
theorem lastV_snoc {m : Mk} {hs : List (List Value)} {v : Value} {p : List Int} (h : itV m hs.length = some p) : lastV m (hs ++ [[v]]) = [rdv v (fun w => RdI w v p)] := by
 unfold lastV
 simp [h]
theorem stR_of {w w1 : World} {bS : Nat} {a b c pv wv muv : Value} {m : Mk} {p : List Int} (h : Loc w w1 [cl bS 131 [a, b, c, pv, wv, muv], rdv pv (fun w => RdI w pv p), rdv wv (fun w => RdII w wv (grV m p)), rdv muv (fun w => RdI w muv (mustV m p))]) (hm : RdM w1 (.agg #[a, b, c]) m) : StR w1 bS a b c pv wv muv m p := by
 obtain ⟨a', b', c', e, ra, rb, rc⟩ := hm
 cases e
 exact ⟨h.get, ra, rb, (h.fr (rdv pv (fun w => RdI w pv p))).read, (h.fr (rdv wv (fun w => RdII w wv (grV m p)))).read, (h.fr (rdv muv (fun w => RdI w muv (mustV m p)))).read⟩
theorem steps1_ {w0 : World} {mv a b c : Value} {m : Mk} {b1 : Nat} (hm : RdM w0 (.agg #[a, b, c]) m) (hok : okMk m) :
   IterOk Tryz.prog 82 [.pointer (some ⟨b1, 0, none⟩)] w0 (endN m + 1) (Xst m) (FXst m) (fun hs => cl b1 25 [a, b, c] :: lastV m hs) := by
 have hm0 := hm
 obtain ⟨a', b', c', e, ra, rb, rc⟩ := hm
 cases e
 obtain ⟨A1, c1, rfl, hA1, hA2⟩ := ra.len
 obtain ⟨A2, c2, rfl, hB1, hB2⟩ := rb.len
 have hn1 := hok.1.2.1
 intro lo J JX W T hy hJ H
 replace H : Loc w0 W (cl b1 25 [.slice A1 m.res.length c1, .slice A2 m.bids.length c2, c] :: T) := H
 refine ret_of_C Tryz.func82 rfl rfl rfl ?_
 refine C_seq (C_region rfl (R_o rfl (E_fieldAddr rfl ?_)))
 refine R_o rfl (E_load H rfl rfl ?_)
 refine R_o rfl (E_call rfl (Clone_ints (Abides.below H.below ra) (by omega)) ?_)
 rintro v7 w1 hc
 replace H := (H.call1 hc).rowInts; clear hc
 refine R_o rfl (E_assign (R_o rfl (E_assign (R_nil (C_block (C_loop (ds := []) [0, 1, 3, 4] (fun m_ vs w => ∃ (hs : List (List Value)) (T : List HP) (v : Value) (is : Bool), vs = [.func (.yield lo) #[] #[], .pointer (some ⟨b1, 0, none⟩), v, .bool is] ∧ J hs T ∧ m_ = endN m + 2 - hs.length ∧ ((is = true ∧ ∃ p, itV m hs.length = some p ∧ hs.length ≤ endN m ∧ Loc w0 w (cl b1 25 [.slice A1 m.res.length c1, .slice A2 m.bids.length c2, c] :: rdv v (fun w => RdI w v p) :: T)) ∨ (is = false ∧ hs.length = endN m + 1 ∧ Loc w0 w (cl b1 25 [.slice A1 m.res.length c1, .slice A2 m.bids.length c2, c] :: lastV m hs ++ T)))) (m := endN m + 2) (by first | rfl | exact hd) ?_ ?_))))))
 · exact ⟨[], T, v7, true, rfl, hJ, by simp, .inl ⟨rfl, m.res, rfl, by simp, H.al⟩⟩
 intro m vs ρ₀ w hd hI
 clear H hJ T
 obtain ⟨hs, T, v, is, rfl, hJ, rfl, hst0⟩ := hI
 refine C_seq (C_seq (C_region rfl (R_o rfl (E_move (R_o rfl (E_move (R_partb (t := 9) rfl (fun h9 => ?_) (fun h9 => ?_))))))))
 ·
  refine R_w rfl rfl rfl (E_move ?_)
  refine R_w rfl rfl rfl (E_move ?_)
  obtain ⟨p, hp, hle, H⟩ := hst0.resolve_right (fun h => by rw [h.1] at h9; cases h9) |>.2
  have hop := (it_ok hok _ _ hp).1
  have H1 : Loc w0 w (rdv v (fun w => RdI w v p) :: cl b1 25 [.slice A1 m.res.length c1, .slice A2 m.bids.length c2, c] :: T) := H.al
  refine R_w rfl rfl rfl (E_yield rfl rfl (hy hs [v] [cl b1 25 [.slice A1 m.res.length c1, .slice A2 m.bids.length c2, c]] w T (by omega) ⟨p, v, hp, rfl⟩ hJ (by rw [FXst_eq hp]; exact H1)) ?_)
  intro bb w1 hor12
  rw [FXst_eq hp] at hor12
  refine R_o rfl (E_pick rfl ?_)
  refine R_nil (C_condb (t := 13) rfl (fun h13 => ?_) (fun h13 => ?_))
  ·
   obtain ⟨rfl, T2, hJ2, H2⟩ := hor12.resolve_right (fun h => by rw [h.1] at h13; cases h13)
   replace H : Loc w0 w1 (rdv v (fun w => RdI w v p) :: cl b1 25 [.slice A1 m.res.length c1, .slice A2 m.bids.length c2, c] :: T2) := H2
   refine C_skip (C_block (C_region rfl (R_o rfl (E_loadw H rfl (by rfl) ?_))))
   refine R_o rfl (E_move (R_o rfl (E_call rfl (at_ (Abides.below H.below hm0) (H.fr (rdv v (fun w => RdI w v p))).read hok hop) ?_)))
   rintro _ w1 ⟨bS, a2, b2, c2', pv, wv, muv, rfl, e17, hc⟩
   cases e17
   have hst := stR_of hc (Abides.below (H.below.trans (hc.below.mono H.below.size)) hm0)
   replace H := H.call4 hc; clear hc
   refine R_o rfl (E_call rfl (step_ hst hok hop) ?_)
   rintro _ w1 ⟨x18, b18, rfl, hor18⟩
   refine R_o rfl (E_move (R_o rfl (E_extract rfl rfl ?_)))
   refine R_o rfl (E_extract rfl rfl ?_)
   refine R_o rfl (E_assign (R_o rfl (E_assign (R_nil ?_))))
   have hl1 : (hs ++ [[v]]).length = hs.length + 1 := by simp
   cases b18 with
   | true =>
     obtain ⟨q, hq, hc⟩ := (hor18.resolve_left (fun h => by cases h.1)).2
     have hq2 : itV m (hs ++ [[v]]).length = some q := by rw [hl1]; simp only [itV, hp]; exact hq
     have hlt : hs.length ≠ endN m := fun e => by have := (it_step hok hle hp).2 e; rw [hq] at this; cases this
     exact ⟨hd, endN m + 2 - (hs.length + 1), by omega, hs ++ [[v]], T2, x18, true, rfl, hJ2, by rw [hl1], .inl ⟨rfl, q, hq2, by rw [hl1]; omega, (H.call1 hc).al⟩⟩
   | false =>
     obtain ⟨_, hn, hb⟩ := hor18.resolve_right (fun h => by cases h.1)
     have heq : hs.length = endN m := (it_step hok hle hp).1 hn
     have H3 : Loc w0 w1 (cl b1 25 [.slice A1 m.res.length c1, .slice A2 m.bids.length c2, c] :: rdv v (fun w => RdI w v p) :: T2) := (H.call0 hb).al
     exact ⟨hd, endN m + 2 - (hs.length + 1), by omega, hs ++ [[v]], T2, x18, false, rfl, hJ2, by rw [hl1], .inr ⟨rfl, by rw [hl1, heq], by rw [lastV_snoc hp]; exact H3⟩⟩
  ·
   refine C_exit ?_
   with_reducible repeat (first | refine inB_normal ?_ | refine noG_normal ?_ | refine jmp_normal ?_ | refine thn_exit ?_ | refine inB_exit ?_ | refine inB_pass rfl ?_)
   first
     | (obtain ⟨_, T2, hJ2, H2⟩ := hor12.resolve_left (fun h => by rw [h.1] at h13; cases h13)
        have H3 : Loc w0 w1 (cl b1 25 [.slice A1 m.res.length c1, .slice A2 m.bids.length c2, c] :: rdv v (fun w => RdI w v p) :: T2) := Loc.al (L := rdv v (fun w => RdI w v p) :: cl b1 25 [.slice A1 m.res.length c1, .slice A2 m.bids.length c2, c] :: T2) H2
        exact end_none rfl hd ⟨hs ++ [[v]], T2, .inr hJ2, by dsimp only; rw [lastV_snoc hp]; exact H3⟩)
     | (obtain ⟨_, hl, H2⟩ := hst0.resolve_left (fun h => by rw [h.1] at h9; cases h9)
        exact end_none rfl hd ⟨hs, T, .inl ⟨hl, hJ⟩, H2⟩)
 ·
  refine R_p rfl rfl rfl ?_
  refine R_p rfl rfl rfl ?_
  refine R_p rfl rfl rfl ?_
  refine R_o rfl (E_pick rfl ?_)
  refine R_nil (C_false (t := 13) rfl ?_)
  refine C_exit ?_
  with_reducible repeat (first | refine inB_normal ?_ | refine noG_normal ?_ | refine jmp_normal ?_ | refine thn_exit ?_ | refine inB_exit ?_ | refine inB_pass rfl ?_)
  first
    | (obtain ⟨_, T2, hJ2, H2⟩ := hor12.resolve_left (fun h => by rw [h.1] at h13; cases h13)
       have H3 : Loc w0 w1 (cl b1 25 [.slice A1 m.res.length c1, .slice A2 m.bids.length c2, c] :: rdv v (fun w => RdI w v p) :: T2) := Loc.al (L := rdv v (fun w => RdI w v p) :: cl b1 25 [.slice A1 m.res.length c1, .slice A2 m.bids.length c2, c] :: T2) H2
       exact end_none rfl hd ⟨hs ++ [[v]], T2, .inr hJ2, by dsimp only; rw [lastV_snoc hp]; exact H3⟩)
    | (obtain ⟨_, hl, H2⟩ := hst0.resolve_left (fun h => by rw [h.1] at h9; cases h9)
       exact end_none rfl hd ⟨hs, T, .inl ⟨hl, hJ⟩, H2⟩)
theorem steps_ {w0 : World} {a b c : Value} :
   Ret Tryz.prog 68 [.agg #[a, b, c]] w0 (fun r w => ∃ b1, r = .func (.func 82) #[] #[.pointer (some ⟨b1, 0, none⟩)] ∧ Loc w0 w [cl b1 25 [a, b, c]]) := by
 refine ret_of_C Tryz.func68 rfl rfl rfl ?_
 have H := Loc.refl w0
 refine C_seq (C_region rfl (R_o rfl (E_box (cs := [a, b, c]) rfl H ?_)))
 clear H; intro w b1 H
 refine R_o rfl (E_assign (R_nil (C_seq (C_region rfl (R_o rfl (E_makeFunc rfl rfl ?_))))))
 refine R_o rfl (E_assign (R_nil (C_ret ?_)))
 with_reducible repeat (first | refine thn_ret ?_ | refine inB_ret ?_ | refine noG_ret ?_ | refine jmp_ret ?_)
 exact ret_one rfl rfl ⟨b1, rfl, H⟩
theorem Least13_ {w0 : World} {mv : Value} {m : Mk} (hm : RdM w0 mv m) (hok : okMk m) :
   Ret Tryz.prog 47 [mv] w0 (fun r w => ∃ x, r = .tuple #[x, .int .i64 0] ∧ Loc w0 w [rdv x (fun w => RdI w x (leastV m))]) := by
 refine ret_of_CM Tryz.func47 rfl rfl rfl ?_
 have H := Loc.refl w0
 have hm0 := hm
 obtain ⟨a, b, c, rfl, ra, rb, rc⟩ := hm
 have hend := end_spec hok
 have hop := (it_ok hok _ _ hend.1).1
 have hn1 := hok.1.2.1
 refine C_seq (C_region rfl (R_o rfl (E_box (cs := [a, b, c]) rfl H ?_)))
 clear H; intro w b1 H
 refine R_o rfl (E_alloc H ?_)
 clear H; intro w b2 H
 refine R_o rfl (E_assign (R_nil (C_seq (C_seq (C_region rfl (R_o rfl (E_loadw H rfl (by rfl) ?_)))))))
 refine R_o rfl (E_call rfl (Check_ (Abides.below H.below hm0)) ?_)
 rintro _ w1 ⟨rfl, hb⟩
 replace H := H.call0 hb; clear hb
 refine R_o rfl (E_not rfl ?_)
 refine R_nil (C_cond (t := 7) rfl (fun h7 => ?_) (fun h7 => ?_))
 ·
  exact absurd hok h7
 ·
  refine C_skip (C_seq (C_seq (C_region rfl (R_o rfl (E_loadw H rfl (by rfl) ?_)))))
  refine R_o rfl (E_call rfl (steps_ (a := a) (b := b) (c := c)) ?_)
  rintro _ w1 ⟨b9, rfl, hc⟩
  replace H := H.call1 hc; clear hc
  replace H : Loc w0 w1 (cl b9 25 [a, b, c] :: cl b2 22 [.slice none 0 0] :: []) := H.al
  refine R_nil (C_block (C_rangeFunc (ps := [10]) rfl rfl (by rintro k vs ⟨_, v, _, rfl⟩; rfl) (steps1_ (mv := undef) hm0 hok) (fun hs T => (hs = [] ∧ T = [cl b2 22 [.slice none 0 0]]) ∨ ∃ v, hs.getLast? = some [v] ∧ T = [cl b2 22 [v]]) (fun _ _ _ => False) H (.inl ⟨rfl, rfl⟩) ?_ ?_ ?_))
  ·
   intro l hs vs F W T hlt hX hJ H
   obtain ⟨p, v, hp, rfl⟩ := hX
   rw [FXst_eq hp] at H ⊢
   obtain ⟨o, hT⟩ : ∃ o, T = [cl b2 22 [o]] := hJ.elim (fun h => ⟨_, h.2⟩) (fun ⟨v, h⟩ => ⟨v, h.2⟩)
   subst hT
   replace H : Loc w0 W (rdv v (fun w => RdI w v p) :: cl b2 22 [o] :: F) := H
   have hv1 : v.oneCell' = true := (by obtain ⟨_, _, e, _⟩ := (H.fr (rdv v (fun w => RdI w v p))).read.len; rw [e]; rfl)
   refine C_region rfl (R_o rfl (E_assign (R_nil (⟨rfl, [cl b2 22 [o]], H, fun F w H => ?_⟩))))
   replace H : Loc w0 w (rdv v (fun w => RdI w v p) :: cl b2 22 [o] :: F) := H
   refine C_block (C_region rfl (R_o rfl (E_move (R_n rfl (E_store (v := v) H rfl rfl hv1 (by simp) ?_)))))
   clear H; intro w H
   replace H := H.cle (cs' := [v]) rfl
   refine R_nil ?_
   with_reducible repeat (first | refine inB_normal ?_ | refine thn_exit ?_ | refine inB_exit ?_ | refine inB_pass rfl ?_)
   have H4 : Loc w0 w (rdv v (fun w => RdI w v p) :: cl b2 22 [v] :: F) := H.al
   exact ⟨[cl b2 22 [v]], .inr ⟨v, by simp, rfl⟩, H4⟩
  ·
   intro D hs T w hN hJ H
   have hne : hs ≠ [] := by rintro rfl; simp at hN
   obtain ⟨v, hv, rfl⟩ := hJ.resolve_left (fun h => hne h.1)
   have hlv : lastV m hs = [rdv v (fun w => RdI w v (leastV m))] := by
     unfold lastV
     rw [hv, hN]
     show [rdv v (fun w => RdI w v ((itV m (endN m + 1 - 1)).getD []))] = _
     rw [Nat.add_sub_cancel, hend.1]; rfl
   replace H : Loc w0 w (dfr D :: cl b9 25 [a, b, c] :: (lastV m hs ++ [cl b2 22 [v]])) := H
   rw [hlv] at H
   replace H : Loc w0 w (dfr D :: rdv v (fun w => RdI w v (leastV m)) :: cl b2 22 [v] :: []) := Loc.al (L := dfr D :: cl b9 25 [a, b, c] :: rdv v (fun w => RdI w v (leastV m)) :: cl b2 22 [v] :: []) H
   replace H := H.mks1
   refine C_seq (C_region rfl (R_o rfl (E_load H rfl rfl ?_)))
   refine R_o rfl (E_call rfl (Clone_ints (s := v) (xs := leastV m) (H.fr (rdv v (fun w => RdI w v (leastV m)))).read (by have := hop.1; omega)) ?_)
   rintro v13 w1 hc
   replace H := H.call1 hc; clear hc
   obtain ⟨A13, c13, rfl, hc13, _⟩ := H.len (v := v13)
   refine R_o rfl (E_call rfl (Clip_ints hc13) ?_)
   rintro _ w1 ⟨rfl, hb⟩
   replace H := H.call0 hb; clear hb
   replace H : Loc w0 w1 (rdv (.slice A13 (leastV m).length (leastV m).length) (fun w => RdI w (.slice A13 (leastV m).length (leastV m).length) (leastV m)) :: _) := H.rowOwn.ownClip.ownInts
   refine R_n rfl (E_store (v := .slice A13 (leastV m).length (leastV m).length) H rfl rfl rfl (by simp) ?_)
   clear H; intro w H
   replace H := H.cle (cs' := [.slice A13 (leastV m).length (leastV m).length]) rfl
   refine R_o rfl (E_assign (R_nil (C_ret ?_)))
   with_reducible repeat (first | refine thn_ret ?_ | refine inB_ret ?_ | refine noG_ret ?_ | refine jmp_ret ?_)
   have H5 : Loc w0 w (mks [mark D] :: cl b2 22 [.slice A13 (leastV m).length (leastV m).length] :: rdv (.slice A13 (leastV m).length (leastV m).length) (fun w => RdI w (.slice A13 (leastV m).length (leastV m).length) (leastV m)) :: []) := H.al
   exact retM_list (rs := [.cell 2 22, .tmp 3]) (vs := [.slice A13 (leastV m).length (leastV m).length, .int .i64 0]) rfl H5 (fun w' H' => ⟨res_cell1 (b := b2) (o := 0) H' rfl rfl, rfl, trivial⟩) fun w' H' => ⟨_, rfl, H'.al⟩
  ·
   intro D c hs T w hJR H
   exact hJR.elim
end Go.Sl
