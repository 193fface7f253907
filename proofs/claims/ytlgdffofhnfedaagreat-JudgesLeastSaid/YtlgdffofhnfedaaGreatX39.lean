/- what comes of a market is the least that is even. -/
import Derived.Test.YtlgdffofhnfedaaGreatX36
import Derived.Test.YtlgdffofhnfedaaGreatEh
set_option linter.unusedVariables false
set_option linter.unusedSimpArgs false
set_option maxRecDepth 10000
set_option maxHeartbeats 2000000
namespace Go.Sl
open Go.RowKit
open Go.Proofs
theorem SameInts_ {w0 : World} {u v : Value} {xs : List Int} (hu : RdI w0 u xs) (hv : RdI w0 v xs) :
   Ret Tryz.prog 21 [u, v] w0 (fun r w => r = .bool true ∧ Below w0.heap.size w0 w) := by
 refine ret_of_C Tryz.func21 rfl rfl rfl ?_
 have H := Loc.refl w0
 obtain ⟨A, c, rfl, h1, h2⟩ := hu.len
 obtain ⟨B, d, rfl, h3, h4⟩ := hv.len
 refine C_seq (C_region rfl (R_o rfl (E_assign (R_nil (C_seq (C_seq (C_region rfl (R_o rfl (E_move (R_o rfl (E_len rfl ?_)))))))))))
 refine R_o rfl (E_move (R_o rfl (E_len rfl ?_)))
 refine R_o rfl (E_neq rfl rfl ?_)
 refine R_nil (C_cond (t := 10) rfl (fun h10 => ?_) (fun h10 => ?_))
 ·
  exact absurd rfl h10
 ·
  refine C_skip (C_seq (C_seq (C_region rfl (R_o rfl (E_assign (R_nil (C_block (C_loop (ds := []) [0, 1, 5] (fun m_ vs w => ∃ k : Nat, vs = [.slice A xs.length c, .slice B xs.length d, .int .i64 k] ∧ m_ = xs.length - k ∧ k ≤ xs.length ∧ (True) ∧ Loc w0 w []) (m := xs.length) (by first | rfl | exact hd) ?_ ?_))))))))
  · exact ⟨0, rfl, by omega, by omega, trivial, H⟩
  intro m vs ρ₀ w hd hI
  clear H
  obtain ⟨k, rfl, rfl, hk, hst, H⟩ := hI
  refine C_seq (C_seq (C_region rfl (R_o rfl (E_move (R_o rfl (E_move (R_o rfl (E_len rfl ?_))))))))
  refine R_o rfl (E_lss rfl rfl ?_)
  refine R_nil (C_cond (t := 14) rfl (fun hlt => ?_) (fun hlt => ?_))
  ·
   obtain ⟨x, hx⟩ := get_of (xs := xs) (k := k) (by omega)
   refine C_skip (C_seq (C_block (C_seq (C_drawL [] H (by kernel_rfl) (fun w H => ?_)))))
   refine D_takeT 0 rfl rfl rfl (by kernel_rfl) (fun w K Z kk => E_move kk) ?_
   refine D_takeT 1 rfl rfl rfl (by kernel_rfl) (fun w K Z kk => E_move kk) ?_
   refine D_takeT 2 rfl rfl rfl (by kernel_rfl) (fun w K Z kk => E_idxr hu rfl rfl (by omega) (by omega) kk) ?_
   refine D_take 3 rfl rfl rfl (by kernel_rfl) (by first | exact H | exact H.drop | exact H.drop.drop | exact H.drop.drop.drop | exact H.drop.drop.drop.drop) (fun w HS K Z kk => E_loadi hu HS rfl hx kk) ?_
   refine D_takeT 4 rfl rfl rfl (by kernel_rfl) (fun w K Z kk => E_move kk) ?_
   refine D_takeT 5 rfl rfl rfl (by kernel_rfl) (fun w K Z kk => E_move kk) ?_
   refine D_takeT 6 rfl rfl rfl (by kernel_rfl) (fun w K Z kk => E_idxr hv rfl rfl (by omega) (by omega) kk) ?_
   refine D_take 7 rfl rfl rfl (by kernel_rfl) (by first | exact H | exact H.drop | exact H.drop.drop | exact H.drop.drop.drop | exact H.drop.drop.drop.drop) (fun w HS K Z kk => E_loadi hv HS rfl hx kk) ?_
   refine D_takeT 8 rfl rfl rfl (by kernel_rfl) (fun w K Z kk => E_neq rfl rfl kk) ?_
   refine D_done (by kernel_rfl) ?_
   refine C_cond (t := 25) rfl (fun h25 => ?_) (fun h25 => ?_)
   ·
    exact absurd rfl h25
   ·
    refine C_skip (C_region rfl (R_o rfl (E_move (R_o rfl (E_add rfl rfl (by omega) ?_)))))
    refine R_o rfl (E_assign (R_nil (⟨hd, xs.length - (k + 1), by omega, k + 1, rfl, rfl, by omega, trivial, H⟩)))
  ·
   refine C_exit ?_
   refine C_seq (C_region rfl (R_o rfl (E_assign (R_nil (C_ret ?_)))))
   with_reducible repeat (first | refine thn_ret ?_ | refine inB_ret ?_ | refine noG_ret ?_ | refine jmp_ret ?_)
   exact ret_one rfl hd ⟨rfl, H.below⟩
theorem Of3_ {w0 : World} {v : Value} {m : Mk} (hm : RdM w0 v m) : Ret Tryz.prog 20 [v] w0 (fun r w => ∃ (e : Int) (x y : Value), r = .tuple #[.agg #[x, y], .int .i64 e] ∧ x.oneCell' = true ∧ y.oneCell' = true ∧ (okMk m → e = 0) ∧ (¬ okMk m → e = 1) ∧ Loc w0 w [rdv x (fun w => okMk m → RdI w x (ofV m).has), rdv y (fun w => okMk m → RdI w y (ofV m).pri)]) :=
 (Of15_ hm).mono fun r w h => by
   rcases h with ⟨h1, x, y, rfl, h2⟩ | ⟨h1, rfl, h2⟩
   · have a := (h2.fr (rdv x (fun w => RdI w x (ofV m).has))).rdImp (g := fun w => okMk m → RdI w x (ofV m).has) fun w h _ => h
     have b := (a.fr (rdv y (fun w => RdI w y (ofV m).pri))).rdImp (g := fun w => okMk m → RdI w y (ofV m).pri) fun w h _ => h
     exact ⟨_, x, y, rfl, rd_one (h2.fr (rdv x (fun w => RdI w x (ofV m).has))).read, rd_one (h2.fr (rdv y (fun w => RdI w y (ofV m).pri))).read, fun _ => rfl, fun h => absurd h1 h, b.al⟩
   · have a := ((Loc.refl w0).call0 h2).mkEmp.toRd (.slice none 0 0) (fun w => okMk m → RdI w (.slice none 0 0) (ofV m).pri) fun _ _ _ h => absurd h h1
     have b := a.mkEmp.toRd (.slice none 0 0) (fun w => okMk m → RdI w (.slice none 0 0) (ofV m).has) fun _ _ _ h => absurd h h1
     exact ⟨_, _, _, rfl, rfl, rfl, fun h => absurd h h1, fun _ => rfl, b.al⟩
theorem JudgesLeast_ {w0 : World} {u v : Value} {m : Mk} {o : Oc} (hm : RdM w0 u m) (ho : RdO w0 v o) :
   Ret Tryz.prog 5 [u, v] w0 (fun r w => r = .bool true ∧ Below w0.heap.size w0 w) := by
 refine ret_of_C Tryz.func5 rfl rfl rfl ?_
 have H := Loc.refl w0
 have hm0 := hm
 have ho0 := ho
 obtain ⟨a, b, c, rfl, ra, rb, rc⟩ := hm
 obtain ⟨ha, pa, rfl, rh, rp⟩ := ho
 obtain ⟨A1, c1, rfl, hA1, hA2⟩ := ra.len
 obtain ⟨A2, c2, rfl, hB1, hB2⟩ := rb.len
 obtain ⟨A5, c5, rfl, hE1, hE2⟩ := rc.len
 obtain ⟨A3, c3, rfl, hC1, hC2⟩ := rh.len
 obtain ⟨A4, c4, rfl, hD1, hD2⟩ := rp.len
 refine C_seq (C_region rfl (R_o rfl (E_box (cs := [.slice A1 m.res.length c1, .slice A2 m.bids.length c2, .slice A5 m.ord.length c5]) rfl H ?_)))
 clear H; intro w b2 H
 refine R_o rfl (E_box (cs := [.slice A3 o.has.length c3, .slice A4 o.pri.length c4]) rfl H ?_)
 clear H; intro w b3 H
 refine R_o rfl (E_assign (R_nil (C_seq (C_region rfl (R_o rfl (E_loadw H rfl (by rfl) ?_))))))
 refine R_o rfl (E_call rfl (Of3_ (Abides.below H.below hm0)) ?_)
 rintro _ w1 ⟨e9, x, y, rfl, hx1, hy1, he0, he1, hc⟩
 replace H := H.call2 hc; clear hc
 refine R_o rfl (E_move (R_o rfl (E_extract rfl rfl ?_)))
 refine R_o rfl (E_extract rfl rfl ?_)
 refine R_o rfl (E_alloc H ?_)
 clear H; intro w b5 H
 refine R_n rfl (E_storea (vs := [x, y]) H rfl rfl (all2 hx1 hy1) rfl (by simp) ?_)
 clear H; intro w H
 replace H := H.cle (cs' := [x, y]) rfl
 refine R_o rfl (E_assign (R_nil (C_seq (C_seq (C_region rfl (R_o rfl (E_move (R_o rfl (E_neq rfl rfl ?_)))))))))
 refine R_nil (C_cond (t := 13) rfl (fun h13 => ?_) (fun h13 => ?_))
 ·
  have hno : ¬ okMk m := fun h => h13 (he0 h)
  refine C_seq (C_region rfl (R_o rfl (E_loadw H rfl (by rfl) ?_)))
  refine R_o rfl (E_loadw H rfl (by rfl) ?_)
  refine R_o rfl (E_call rfl (jLeast_ (Abides.below H.below hm0) (Abides.below H.below ho0)) ?_)
  rintro _ w1 ⟨p16, rfl, h16, hb⟩
  replace H := H.call0 hb; clear hb
  obtain rfl : p16 = false := Bool.eq_false_iff.2 (fun e => hno (h16.1 e).1.1)
  refine R_o rfl (E_notb rfl ?_)
  refine R_o rfl (E_move (R_w rfl rfl rfl (E_call rfl (lives_) ?_)))
  rintro _ w1 ⟨rfl, hb⟩
  replace H := H.call0 hb; clear hb
  refine R_o rfl (E_pick rfl ?_)
  refine R_o rfl (E_assign (R_nil (C_ret ?_)))
  with_reducible repeat (first | refine thn_ret ?_ | refine inB_ret ?_ | refine noG_ret ?_ | refine jmp_ret ?_)
  exact ret_one rfl rfl ⟨rfl, H.below⟩
 ·
  have hok : okMk m := Decidable.of_not_not fun h => h13 (by rw [he1 h]; decide)
  refine C_skip (C_seq (C_region rfl (R_o rfl (E_loadw H rfl (by rfl) ?_))))
  refine R_o rfl (E_loadw H rfl (by rfl) ?_)
  refine R_o rfl (E_call rfl (jLeast_ (o := ofV m) (Abides.below H.below hm0) ⟨_, _, rfl, ((H.fr (rdv x (fun w => okMk m → RdI w x (ofV m).has))).read hok), ((H.fr (rdv y (fun w => okMk m → RdI w y (ofV m).pri))).read hok)⟩) ?_)
  rintro _ w1 ⟨p23, rfl, h23, hb⟩
  replace H := H.call0 hb; clear hb
  obtain rfl : p23 = true := h23.2 (of_least hok)
  refine R_o rfl (E_move (R_w rfl rfl rfl (E_loadw H rfl (by rfl) ?_)))
  refine R_w rfl rfl rfl (E_loadw H rfl (by rfl) ?_)
  refine R_w rfl rfl rfl (E_call rfl (jLeast_ (Abides.below H.below hm0) (Abides.below H.below ho0)) ?_)
  rintro _ w1 ⟨p27, rfl, h27, hb⟩
  replace H := H.call0 hb; clear hb
  refine R_w rfl rfl rfl (E_notb rfl ?_)
  refine R_w rfl rfl rfl (E_move ?_)
  refine R_partb (t := 29) rfl (fun h29 => ?_) (fun h29 => ?_)
  ·
   refine R_p rfl rfl rfl ?_
   refine R_p rfl rfl rfl ?_
   refine R_p rfl rfl rfl ?_
   refine R_p rfl rfl rfl ?_
   refine R_p rfl rfl rfl ?_
   refine R_w rfl rfl rfl (E_pick rfl ?_)
   refine R_o rfl (E_pick rfl ?_)
   refine R_o rfl (E_move (R_w rfl rfl rfl (E_call rfl (lives_) ?_)))
   rintro _ w1 ⟨rfl, hb⟩
   replace H := H.call0 hb; clear hb
   refine R_o rfl (E_pick rfl ?_)
   refine R_o rfl (E_assign (R_nil (C_ret ?_)))
   with_reducible repeat (first | refine thn_ret ?_ | refine inB_ret ?_ | refine noG_ret ?_ | refine jmp_ret ?_)
   exact ret_one rfl rfl ⟨rfl, H.below⟩
  ·
   have hp27 : p27 = true := by simpa using h29
   have hpe : o.pri = (ofV m).pri := least_pri (h27.1 hp27)
   have hrp2 : ∀ l, l = o.pri → RdI w0 (.slice A4 o.pri.length c4) l := fun l e => by subst e; exact rp
   refine R_w rfl rfl rfl (E_fieldAddr rfl ?_)
   refine R_w rfl rfl rfl (E_load H rfl rfl ?_)
   refine R_w rfl rfl rfl (E_fieldAddr rfl ?_)
   refine R_w rfl rfl rfl (E_load H rfl rfl ?_)
   refine R_w rfl rfl rfl (E_call rfl (SameInts_ (xs := (ofV m).pri) ((H.fr (rdv y (fun w => okMk m → RdI w y (ofV m).pri))).read hok) (Abides.below H.below (hrp2 _ hpe.symm))) ?_)
   rintro _ w1 ⟨rfl, hb⟩
   replace H := H.call0 hb; clear hb
   refine R_w rfl rfl rfl (E_pick rfl ?_)
   refine R_o rfl (E_pick rfl ?_)
   refine R_o rfl (E_move (R_w rfl rfl rfl (E_call rfl (lives_) ?_)))
   rintro _ w1 ⟨rfl, hb⟩
   replace H := H.call0 hb; clear hb
   refine R_o rfl (E_pick rfl ?_)
   refine R_o rfl (E_assign (R_nil (C_ret ?_)))
   with_reducible repeat (first | refine thn_ret ?_ | refine inB_ret ?_ | refine noG_ret ?_ | refine jmp_ret ?_)
   exact ret_one rfl rfl ⟨rfl, H.below⟩
end Go.Sl
