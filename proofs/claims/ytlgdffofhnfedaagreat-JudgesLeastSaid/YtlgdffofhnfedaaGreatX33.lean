/- judges: what one has; is one true?. -/
import Derived.Test.YtlgdffofhnfedaaGreatX32
set_option linter.unusedVariables false
set_option linter.unusedSimpArgs false
set_option maxRecDepth 10000
set_option maxHeartbeats 2000000
namespace Go.Sl
open Go.RowKit
open Go.Proofs
theorem all2 {x y : Value} (hx : x.oneCell' = true) (hy : y.oneCell' = true) : [x, y].all (·.oneCell') = true := by
 simp only [List.all_cons, List.all_nil, hx, hy, Bool.and_self]
theorem rd_one {w : World} {v : Value} {α : Type} {r : World → Value → α → Prop} {xs : List α} (h : RdS r w v xs) : v.oneCell' = true := by obtain ⟨_, _, e, _⟩ := h.len; rw [e]; rfl
theorem firstV_len (g : List (List Int)) (n : Nat) (o : List Nat) : (firstV g n o).length = g.length := by simp [firstV]
theorem jHas_ {w0 : World} {v u : Value} {m : Mk} {i : Nat} {b : List Int} (hm : RdM w0 v m) (hok : okMk m) (hi : i < m.bids.length) (hb : RdI w0 u b) (hbl : b.length = m.res.length) (hbb : ∀ j, 0 ≤ b.getD j 0 ∧ b.getD j 0 ≤ 1000000) :
   Ret Tryz.prog 27 [v, .int .i64 (i : Int), u] w0 (fun r w => r = .int .i64 (hasV m i b) ∧ Below w0.heap.size w0 w) := by
 refine ret_of_C Tryz.func27 rfl rfl rfl ?_
 have H := Loc.refl w0
 have hn1 := hok.1.2.1
 have hn2 := hok.2.1.2
 obtain ⟨a, b', c, e, ra, rb, rc⟩ := id hm
 subst e
 obtain ⟨it, hit⟩ := get_of (xs := (firstV (gains m) m.res.length (ordN m.ord))) (k := i) (by rw [firstV_len, gains_len]; exact hi)
 have hitb := ofV_item hok hit
 have hitd : (firstV (gains m) m.res.length (ordN m.ord)).getD i 0 = it := getD_of hit
 have hlo := leastV_ok hok
 have hll := hlo.1
 obtain ⟨Ab, cb, rfl, hb1, hb2⟩ := hb.len
 have hofh : (ofV m).has = (firstV (gains m) m.res.length (ordN m.ord)) := rfl
 have hofp : (ofV m).pri = leastV m := rfl
 refine C_seq (C_region rfl (R_o rfl (E_box (cs := [a, b', c]) rfl H ?_)))
 clear H; intro w b3 H
 refine R_o rfl (E_assign (R_nil (C_seq (C_region rfl (R_o rfl (E_loadw H rfl (by rfl) ?_))))))
 refine R_o rfl (E_call rfl (Of15_ (Abides.below H.below hm)) ?_)
 rintro _ w1 hor
 obtain ⟨_, x, y, rfl, hc⟩ := hor.resolve_right (fun h => h.1 hok)
 have hx1 := rd_one (hc.fr (rdv x (fun w => RdI w x (ofV m).has))).read
 have hy1 := rd_one (hc.fr (rdv y (fun w => RdI w y (ofV m).pri))).read
 replace H := H.call2 hc; clear hc
 refine R_o rfl (E_move (R_o rfl (E_extract rfl rfl ?_)))
 refine R_o rfl (E_extract rfl rfl ?_)
 refine R_o rfl (E_alloc H ?_)
 clear H; intro w b7 H
 refine R_n rfl (E_storea (vs := [x, y]) H rfl rfl (all2 hx1 hy1) rfl (by simp) ?_)
 clear H; intro w H
 replace H := H.cle (cs' := [x, y]) rfl
 have hxr := (H.fr (rdv x (fun w => RdI w x (ofV m).has))).read
 have hyr := (H.fr (rdv y (fun w => RdI w y (ofV m).pri))).read
 rw [hofh] at hxr
 rw [hofp] at hyr
 refine R_o rfl (E_assign (R_nil (C_seq (C_seq (C_region rfl (R_o rfl (E_fieldAddr rfl ?_)))))))
 refine R_o rfl (E_load H rfl rfl ?_)
 refine R_o rfl (E_move (R_o rfl (E_idxr hxr rfl rfl (by omega) (by rw [firstV_len, gains_len]; omega) ?_)))
 refine R_o rfl (E_loadi hxr (Loc.refl w) rfl hit ?_)
 refine R_o rfl (E_assign (R_nil (C_seq (C_region rfl (R_o rfl (E_move (R_o rfl (E_neq rfl rfl ?_))))))))
 refine R_nil (C_cond (t := 21) rfl (fun h21 => ?_) (fun h21 => ?_))
 ·
  obtain ⟨z, hz⟩ := get_of (xs := b) (k := it.toNat) (by omega)
  obtain ⟨q, hq⟩ := get_of (xs := leastV m) (k := it.toNat) (by omega)
  have hzb := hbb it.toNat
  rw [getD_of hz] at hzb
  have hqb := (hlo.2 _ q hq).2
  replace H : Loc w0 w [rdv y (fun w => RdI w y (leastV m)), cl b7 27 [x, y]] := Loc.al (L' := [rdv y (fun w => RdI w y (ofV m).pri), cl b7 27 [x, y]]) H
  refine C_seq (C_drawL [] H (by kernel_rfl) (fun w H => ?_))
  refine D_takeT 0 rfl rfl rfl (by kernel_rfl) (fun w K Z kk => E_move kk) ?_
  refine D_takeT 1 rfl rfl rfl (by kernel_rfl) (fun w K Z kk => E_move kk) ?_
  refine D_takeT 2 rfl rfl rfl (by kernel_rfl) (fun w K Z kk => E_idxr hb rfl rfl (by omega) (by omega) kk) ?_
  refine D_take 3 rfl rfl rfl (by kernel_rfl) (by first | exact H | exact H.drop | exact H.drop.drop | exact H.drop.drop.drop | exact H.drop.drop.drop.drop) (fun w HS K Z kk => E_loadi hb HS rfl hz kk) ?_
  refine D_takeT 4 rfl rfl rfl (by kernel_rfl) (fun w K Z kk => E_fieldAddr rfl kk) ?_
  refine D_take 5 rfl rfl rfl (by kernel_rfl) (by first | exact H | exact H.drop | exact H.drop.drop | exact H.drop.drop.drop | exact H.drop.drop.drop.drop) (fun w HS K Z kk => E_load HS rfl rfl kk) ?_
  refine D_takeT 6 rfl rfl rfl (by kernel_rfl) (fun w K Z kk => E_move kk) ?_
  refine D_takeT 7 rfl rfl rfl (by kernel_rfl) (fun w K Z kk => E_idxr hyr rfl rfl (by omega) (by omega) kk) ?_
  refine D_take 8 rfl rfl rfl (by kernel_rfl) (by first | exact H | exact H.drop | exact H.drop.drop | exact H.drop.drop.drop | exact H.drop.drop.drop.drop) (fun w HS K Z kk => E_loadi (HS.fr (rdv y (fun w => RdI w y (leastV m)))).read (Loc.refl w) rfl hq kk) ?_
  refine D_takeT 9 rfl rfl rfl (by kernel_rfl) (fun w K Z kk => E_sub rfl rfl (by omega) kk) ?_
  refine D_takeT 10 rfl rfl rfl (by kernel_rfl) (fun w K Z kk => E_assign kk) ?_
  refine D_done (by kernel_rfl) ?_
  refine C_ret ?_
  with_reducible repeat (first | refine thn_ret ?_ | refine inB_ret ?_ | refine noG_ret ?_ | refine jmp_ret ?_)
  first
    | exact ret_one rfl rfl ⟨by unfold hasV nowV; rw [hitd, if_neg (by omega), getD_of hz, getD_of hq]; rfl, H.below⟩
    | exact ret_one rfl rfl ⟨by unfold hasV nowV; rw [hitd, if_pos (by omega)]; rfl, H.below⟩
 ·
  refine C_skip (C_seq (C_region rfl (R_o rfl (E_assign (R_nil (C_ret ?_))))))
  with_reducible repeat (first | refine thn_ret ?_ | refine inB_ret ?_ | refine noG_ret ?_ | refine jmp_ret ?_)
  first
    | exact ret_one rfl rfl ⟨by unfold hasV nowV; rw [hitd, if_neg (by omega), getD_of hz, getD_of hq]; rfl, H.below⟩
    | exact ret_one rfl rfl ⟨by unfold hasV nowV; rw [hitd, if_pos (by omega)]; rfl, H.below⟩
theorem R28Has_ {w0 : World} {v u : Value} {m : Mk} {i : Nat} {b : List Int} (hm : RdM w0 v m) (hok : okMk m) (hi : i < m.bids.length) (hb : RdI w0 u b) (hbl : b.length = m.res.length) (hbb : ∀ j, 0 ≤ b.getD j 0 ∧ b.getD j 0 ≤ 1000000) :
   Ret Tryz.prog 30 [v, .int .i64 (i : Int), u] w0 (fun r w => r = .int .i64 (hasV m i b) ∧ Below w0.heap.size w0 w) := by
 refine ret_of_C Tryz.func30 rfl rfl rfl ?_
 have H := Loc.refl w0
 have hn1 := hok.1.2.1
 have hn2 := hok.2.1.2
 obtain ⟨a, b', c, e, ra, rb, rc⟩ := id hm
 subst e
 obtain ⟨it, hit⟩ := get_of (xs := (firstV (gains m) m.res.length (ordN m.ord))) (k := i) (by rw [firstV_len, gains_len]; exact hi)
 have hitb := ofV_item hok hit
 have hitd : (firstV (gains m) m.res.length (ordN m.ord)).getD i 0 = it := getD_of hit
 have hlo := leastV_ok hok
 have hll := hlo.1
 obtain ⟨Ab, cb, rfl, hb1, hb2⟩ := hb.len
 have hofh : (ofV m).has = (firstV (gains m) m.res.length (ordN m.ord)) := rfl
 have hofp : (ofV m).pri = leastV m := rfl
 refine C_seq (C_region rfl (R_o rfl (E_box (cs := [a, b', c]) rfl H ?_)))
 clear H; intro w b3 H
 refine R_o rfl (E_assign (R_nil (C_seq (C_region rfl (R_o rfl (E_loadw H rfl (by rfl) ?_))))))
 refine R_o rfl (E_call rfl (R15Of_ (Abides.below H.below hm)) ?_)
 rintro _ w1 hor
 obtain ⟨_, x, y, rfl, hc⟩ := hor.resolve_right (fun h => h.1 hok)
 have hx1 := rd_one (hc.fr (rdv x (fun w => RdI w x (ofV m).has))).read
 have hy1 := rd_one (hc.fr (rdv y (fun w => RdI w y (ofV m).pri))).read
 replace H := H.call2 hc; clear hc
 refine R_o rfl (E_move (R_o rfl (E_extract rfl rfl ?_)))
 refine R_o rfl (E_extract rfl rfl ?_)
 refine R_o rfl (E_alloc H ?_)
 clear H; intro w b7 H
 refine R_n rfl (E_storea (vs := [x, y]) H rfl rfl (all2 hx1 hy1) rfl (by simp) ?_)
 clear H; intro w H
 replace H := H.cle (cs' := [x, y]) rfl
 have hxr := (H.fr (rdv x (fun w => RdI w x (ofV m).has))).read
 have hyr := (H.fr (rdv y (fun w => RdI w y (ofV m).pri))).read
 rw [hofh] at hxr
 rw [hofp] at hyr
 refine R_o rfl (E_assign (R_nil (C_seq (C_seq (C_region rfl (R_o rfl (E_fieldAddr rfl ?_)))))))
 refine R_o rfl (E_load H rfl rfl ?_)
 refine R_o rfl (E_move (R_o rfl (E_idxr hxr rfl rfl (by omega) (by rw [firstV_len, gains_len]; omega) ?_)))
 refine R_o rfl (E_loadi hxr (Loc.refl w) rfl hit ?_)
 refine R_o rfl (E_lss rfl rfl ?_)
 refine R_nil (C_cond (t := 19) rfl (fun h19 => ?_) (fun h19 => ?_))
 ·
  refine C_seq (C_region rfl (R_o rfl (E_assign (R_nil (C_ret ?_)))))
  with_reducible repeat (first | refine thn_ret ?_ | refine inB_ret ?_ | refine noG_ret ?_ | refine jmp_ret ?_)
  first
    | exact ret_one rfl rfl ⟨by unfold hasV nowV; rw [hitd, if_neg (by omega), getD_of hz, getD_of hq]; rfl, H.below⟩
    | exact ret_one rfl rfl ⟨by unfold hasV nowV; rw [hitd, if_pos (by omega)]; rfl, H.below⟩
 ·
  obtain ⟨z, hz⟩ := get_of (xs := b) (k := it.toNat) (by omega)
  obtain ⟨q, hq⟩ := get_of (xs := leastV m) (k := it.toNat) (by omega)
  have hzb := hbb it.toNat
  rw [getD_of hz] at hzb
  have hqb := (hlo.2 _ q hq).2
  replace H : Loc w0 w [rdv x (fun w => RdI w x (firstV (gains m) m.res.length (ordN m.ord))), rdv y (fun w => RdI w y (leastV m)), cl b7 27 [x, y]] := Loc.al (L' := [rdv x (fun w => RdI w x (ofV m).has), rdv y (fun w => RdI w y (ofV m).pri), cl b7 27 [x, y]]) H
  refine C_skip (C_seq (C_drawL [] H (by kernel_rfl) (fun w H => ?_)))
  refine D_takeT 0 rfl rfl rfl (by kernel_rfl) (fun w K Z kk => E_move kk) ?_
  refine D_takeT 1 rfl rfl rfl (by kernel_rfl) (fun w K Z kk => E_fieldAddr rfl kk) ?_
  refine D_take 2 rfl rfl rfl (by kernel_rfl) (by first | exact H | exact H.drop | exact H.drop.drop | exact H.drop.drop.drop | exact H.drop.drop.drop.drop) (fun w HS K Z kk => E_load HS rfl rfl kk) ?_
  refine D_takeT 3 rfl rfl rfl (by kernel_rfl) (fun w K Z kk => E_move kk) ?_
  refine D_takeT 4 rfl rfl rfl (by kernel_rfl) (fun w K Z kk => E_idxr hxr rfl rfl (by omega) (by rw [firstV_len, gains_len]; omega) kk) ?_
  refine D_take 5 rfl rfl rfl (by kernel_rfl) (by first | exact H | exact H.drop | exact H.drop.drop | exact H.drop.drop.drop | exact H.drop.drop.drop.drop) (fun w HS K Z kk => E_loadi (HS.fr (rdv x (fun w => RdI w x (firstV (gains m) m.res.length (ordN m.ord))))).read (Loc.refl w) rfl hit kk) ?_
  refine D_takeT 6 rfl rfl rfl (by kernel_rfl) (fun w K Z kk => E_idxr hb rfl rfl (by omega) (by omega) kk) ?_
  refine D_take 7 rfl rfl rfl (by kernel_rfl) (by first | exact H | exact H.drop | exact H.drop.drop | exact H.drop.drop.drop | exact H.drop.drop.drop.drop) (fun w HS K Z kk => E_loadi hb HS rfl hz kk) ?_
  refine D_takeT 8 rfl rfl rfl (by kernel_rfl) (fun w K Z kk => E_fieldAddr rfl kk) ?_
  refine D_take 9 rfl rfl rfl (by kernel_rfl) (by first | exact H | exact H.drop | exact H.drop.drop | exact H.drop.drop.drop | exact H.drop.drop.drop.drop) (fun w HS K Z kk => E_load HS rfl rfl kk) ?_
  refine D_takeT 10 rfl rfl rfl (by kernel_rfl) (fun w K Z kk => E_fieldAddr rfl kk) ?_
  refine D_take 11 rfl rfl rfl (by kernel_rfl) (by first | exact H | exact H.drop | exact H.drop.drop | exact H.drop.drop.drop | exact H.drop.drop.drop.drop) (fun w HS K Z kk => E_load HS rfl rfl kk) ?_
  refine D_takeT 12 rfl rfl rfl (by kernel_rfl) (fun w K Z kk => E_move kk) ?_
  refine D_takeT 13 rfl rfl rfl (by kernel_rfl) (fun w K Z kk => E_idxr hxr rfl rfl (by omega) (by rw [firstV_len, gains_len]; omega) kk) ?_
  refine D_take 14 rfl rfl rfl (by kernel_rfl) (by first | exact H | exact H.drop | exact H.drop.drop | exact H.drop.drop.drop | exact H.drop.drop.drop.drop) (fun w HS K Z kk => E_loadi (HS.fr (rdv x (fun w => RdI w x (firstV (gains m) m.res.length (ordN m.ord))))).read (Loc.refl w) rfl hit kk) ?_
  refine D_takeT 15 rfl rfl rfl (by kernel_rfl) (fun w K Z kk => E_idxr hyr rfl rfl (by omega) (by omega) kk) ?_
  refine D_take 16 rfl rfl rfl (by kernel_rfl) (by first | exact H | exact H.drop | exact H.drop.drop | exact H.drop.drop.drop | exact H.drop.drop.drop.drop) (fun w HS K Z kk => E_loadi (HS.fr (rdv y (fun w => RdI w y (leastV m)))).read (Loc.refl w) rfl hq kk) ?_
  refine D_takeT 17 rfl rfl rfl (by kernel_rfl) (fun w K Z kk => E_sub rfl rfl (by omega) kk) ?_
  refine D_takeT 18 rfl rfl rfl (by kernel_rfl) (fun w K Z kk => E_assign kk) ?_
  refine D_done (by kernel_rfl) ?_
  refine C_ret ?_
  with_reducible repeat (first | refine thn_ret ?_ | refine inB_ret ?_ | refine noG_ret ?_ | refine jmp_ret ?_)
  first
    | exact ret_one rfl rfl ⟨by unfold hasV nowV; rw [hitd, if_neg (by omega), getD_of hz, getD_of hq]; rfl, H.below⟩
    | exact ret_one rfl rfl ⟨by unfold hasV nowV; rw [hitd, if_pos (by omega)]; rfl, H.below⟩
end Go.Sl
