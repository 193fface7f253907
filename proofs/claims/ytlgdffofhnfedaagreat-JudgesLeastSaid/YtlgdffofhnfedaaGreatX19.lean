/- what all would have; sets that too many want. -/
import Derived.Test.YtlgdffofhnfedaaGreatX18
import Derived.Test.YtlgdffofhnfedaaGreatU
set_option linter.unusedVariables false
set_option linter.unusedSimpArgs false
set_option maxRecDepth 10000
set_option maxHeartbeats 2000000
namespace Go.Sl
open Go.RowKit
open Go.Proofs
theorem dAll_ {w0 : World} {mv v : Value} {m : Mk} {p : List Int} (hm : RdM w0 mv m) (hp : RdI w0 v p) (hok : okMk m) (hpr : okPr p) (hpl : p.length = m.res.length) :
   Ret Tryz.prog 98 [mv, v] w0 (fun r w => ∃ x y us, r = .tuple #[x, y, .int .i64 0] ∧ Loc w0 w [rdv undef (fun w => Els RdI w us (demV m p)), row 22 1 x m.bids.length us, row 4 1 y m.bids.length (bools (nonV m p))]) := by
 refine ret_of_C Tryz.func98 rfl rfl rfl ?_
 have H := Loc.refl w0
 have hm0 := hm
 obtain ⟨a, b, c, rfl, ra, rb, rc⟩ := hm
 obtain ⟨A1, c1, rfl, hA1, hA2⟩ := ra.len
 obtain ⟨A2, c2, rfl, hB1, hB2⟩ := rb.len
 obtain ⟨B, d1, rfl, hd1, hd2⟩ := hp.len
 have hn1 := hok.1.2.1
 have hn2 := hok.2.1.2
 refine C_seq (C_region rfl (R_o rfl (E_box (cs := [.slice A1 m.res.length c1, .slice A2 m.bids.length c2, c]) rfl H ?_)))
 clear H; intro w b2 H
 refine R_o rfl (E_assign (R_o rfl (E_assign (R_o rfl (E_assign (R_nil (C_seq (C_seq (C_region rfl (R_o rfl (E_loadw H rfl (by rfl) ?_)))))))))))
 refine R_o rfl (E_call rfl (Check_ (Abides.below H.below hm0)) ?_)
 rintro _ w1 ⟨rfl, hb⟩
 replace H := H.call0 hb; clear hb
 refine R_o rfl (E_not rfl ?_)
 refine R_o rfl (E_move (R_part (t := 12) rfl (fun h12 => ?_) (fun h12 => ?_)))
 ·
  exact absurd hok h12
 ·
  refine R_w rfl rfl rfl (E_move ?_)
  refine R_w rfl rfl rfl (E_fieldAddr rfl ?_)
  refine R_w rfl rfl rfl (E_load H rfl rfl ?_)
  refine R_w rfl rfl rfl (E_len rfl ?_)
  refine R_w rfl rfl rfl (E_call (vs := [.slice B p.length d1, .int .i64 p.length]) (by rw [hpl]; rfl) (dMay_ (Abides.below H.below hp)) ?_)
  rintro _ w1 ⟨rfl, hb⟩
  replace H := H.call0 hb; clear hb
  refine R_w rfl rfl rfl (E_not rfl ?_)
  refine R_o rfl (E_pick rfl ?_)
  refine R_nil (C_cond (t := 19) rfl (fun h19 => ?_) (fun h19 => ?_))
  ·
   exact absurd hpr h19
  ·
   refine C_skip (C_seq (C_drawL [] H (by kernel_rfl) (fun w H => ?_)))
   refine D_takeT 0 rfl rfl rfl (by kernel_rfl) (fun w K Z kk => E_fieldAddr rfl kk) ?_
   refine D_take 1 rfl rfl rfl (by kernel_rfl) (by first | exact H | exact H.drop | exact H.drop.drop | exact H.drop.drop.drop | exact H.drop.drop.drop.drop) (fun w HS K Z kk => E_load HS rfl rfl kk) ?_
   refine D_takeT 2 rfl rfl rfl (by kernel_rfl) (fun w K Z kk => E_len rfl kk) ?_
   refine D_takeT 4 rfl rfl rfl (by kernel_rfl) (fun w K Z kk => E_fieldAddr rfl kk) ?_
   refine D_take 5 rfl rfl rfl (by kernel_rfl) (by first | exact H | exact H.drop | exact H.drop.drop | exact H.drop.drop.drop | exact H.drop.drop.drop.drop) (fun w HS K Z kk => E_load HS rfl rfl kk) ?_
   refine D_takeT 6 rfl rfl rfl (by kernel_rfl) (fun w K Z kk => E_len rfl kk) ?_
   refine D_abs fun G ρ' hG hρ => ?_
   have St0 : ∀ (b23 : Nat) (b27 : Nat) (w : World), Loc w0 w (cl b23 22 (List.replicate m.bids.length (.slice none 0 0)) :: cl b27 4 (List.replicate m.bids.length (.bool false)) :: cl b2 25 [.slice A1 m.res.length c1, .slice A2 m.bids.length c2, c] :: []) → G 0 #[true, true, true, true, true, true, true, true, true, true] (upl ρ' [(5, .slice (some ⟨b27, 0, none⟩) m.bids.length m.bids.length), (4, .slice (some ⟨b23, 0, none⟩) m.bids.length m.bids.length), (27, .slice (some ⟨b27, 0, none⟩) m.bids.length m.bids.length), (23, .slice (some ⟨b23, 0, none⟩) m.bids.length m.bids.length)]) w := by
     intro b23 b27 w H
     subst hG hρ
     refine D_done (by kernel_rfl) ?_
     refine C_seq (C_seq (C_region rfl (R_o rfl (E_fieldAddr rfl ?_))))
     refine R_o rfl (E_load H rfl rfl ?_)
     refine R_o rfl (E_len rfl ?_)
     refine R_o rfl (E_move (R_nil (C_block (C_loop (ds := []) [1, 4, 5, 6, 29, 30, 31] (fun m_ vs w => ∃ k : Nat, ∃ us : List Value, vs = [.slice B p.length d1, .slice (some ⟨b23, 0, none⟩) m.bids.length m.bids.length, .slice (some ⟨b27, 0, none⟩) m.bids.length m.bids.length, .int .i64 0, .slice A2 m.bids.length c2, .int .i64 m.bids.length, .int .i64 k] ∧ m_ = m.bids.length - k ∧ k ≤ m.bids.length ∧ (us.length = k) ∧ Loc w0 w [rdv undef (fun w => Els RdI w us ((demV m p).take k)), cl b23 22 (us ++ List.replicate (m.bids.length - k) (.slice none 0 0)), cl b27 4 (bools ((nonV m p).take k) ++ List.replicate (m.bids.length - k) (.bool false)), cl b2 25 [.slice A1 m.res.length c1, .slice A2 m.bids.length c2, c]]) (m := m.bids.length) (by first | rfl | exact hd) ?_ ?_))))
     · replace H := H.mkEmp.toRd undef (fun w => Els RdI w [] ((demV m p).take 0)) (fun _ _ _ => Els.nil _ _)
       replace H := (H.fr (cl b23 22 (List.replicate m.bids.length (.slice none 0 0)))).cle (cs' := [] ++ List.replicate (m.bids.length - 0) (.slice none 0 0)) (by simp)
       replace H := (H.fr (cl b27 4 (List.replicate m.bids.length (.bool false)))).cle (cs' := bools ((nonV m p).take 0) ++ List.replicate (m.bids.length - 0) (.bool false)) (by simp [bools])
       exact ⟨0, [], rfl, by omega, by omega, rfl, H.o4⟩
     intro m vs ρ₀ w hd hI
     clear H
     obtain ⟨k, us, rfl, rfl, hk, hst, H⟩ := hI
     refine C_seq (C_region rfl (R_o rfl (E_lss rfl rfl ?_)))
     refine R_nil (C_seq (C_cond (t := 32) rfl (fun hlt => ?_) (fun hlt => ?_)))
     ·
       obtain ⟨x, hx⟩ := get_of (xs := m.bids) (k := k) (by omega)
       refine C_skip (C_seq (C_block (C_seq (C_region rfl (R_o rfl (E_move (R_o rfl (E_idxr rb rfl rfl (by omega) (by omega) ?_))))))))
       refine R_o rfl (E_loadr rb H rfl hx ?_)
       intro u hu
       refine R_o rfl (E_assign (R_o rfl (E_assign (R_nil (C_region rfl (R_o rfl (E_move (R_o rfl (E_move (R_o rfl (E_move (R_o rfl (E_move (R_o rfl (E_move (R_o rfl (E_move (R_o rfl (E_call rfl (dOf_ (Abides.below H.below hu) (Abides.below H.below hp) hpr (by rw [hpl]; exact hok.bid hx)) ?_)))))))))))))))))))
       rintro _ w1 ⟨x44, rfl, hc⟩
       replace H := H.call1 hc; clear hc
       obtain ⟨A44, c44, rfl, _⟩ := H.read.len
       replace H := H.join3 undef (fun w => Els RdI w (us ++ [.slice A44 (topsV x p).length c44]) ((demV m p).take (k + 1))) (fun S1 S2 w h1 h2 => by rw [take_step (demV_get hx)]; exact (rdv_now h2).snoc (rdv_now h1))
       refine R_o rfl (E_move (R_o rfl (E_extract rfl rfl ?_)))
       refine R_o rfl (E_extract rfl rfl ?_)
       refine R_o rfl (E_extract rfl rfl ?_)
       refine R_o rfl (E_extract rfl rfl ?_)
       refine R_o rfl (E_idxb rfl rfl (by omega) (by omega) ?_)
       refine R_n rfl (E_storep k (.slice A44 (topsV x p).length c44) _ H rfl (by omega) rfl rfl (by simp; omega) (set_mid hst (by omega)) ?_)
       clear H; intro w H
       refine R_o rfl (E_idxb rfl rfl (by omega) (by omega) ?_)
       refine R_n rfl (E_storep k (.bool (decide (topV x p = 0))) _ H rfl (by omega) rfl rfl (by simp [bools]; omega) (set_mid (by simp [bools]; omega) (by omega)) ?_)
       clear H; intro w H
       refine R_o rfl (E_assign (R_nil (C_region rfl (R_o rfl (E_add rfl rfl (by omega) ?_)))))
       refine R_o rfl (E_move (R_nil ?_))
       replace H := H.cle (cs' := bools ((nonV m p).take (k + 1)) ++ List.replicate (m.bids.length - (k + 1)) (.bool false)) (by rw [take_step (nonV_get hx)]; simp [bools])
       refine ⟨hd, m.bids.length - (k + 1), by omega, k + 1, us ++ [.slice A44 (topsV x p).length c44], rfl, rfl, by omega, by simp; omega, H.o4⟩
     ·
       have hk : k = m.bids.length := by omega
       refine C_exit ?_
       refine C_seq (C_region rfl (R_o rfl (E_move (R_o rfl (E_move (R_o rfl (E_move (R_o rfl (E_assign (R_o rfl (E_assign (R_o rfl (E_assign (R_nil (C_ret ?_)))))))))))))))
       with_reducible repeat (first | refine thn_ret ?_ | refine inB_ret ?_ | refine noG_ret ?_ | refine jmp_ret ?_)
       refine ret_three rfl hd ⟨.slice (some ⟨b23, 0, none⟩) m.bids.length m.bids.length, .slice (some ⟨b27, 0, none⟩) m.bids.length m.bids.length, us, rfl, ?_⟩
       subst hk
       rw [Nat.sub_self, List.take_of_length_le (by simp), List.take_of_length_le (by simp), List.replicate_zero, List.append_nil, List.replicate_zero, List.append_nil] at H
       replace H := (H.fr (cl b23 22 us)).clRow (ys := us) 1 m.bids.length (Nat.le_refl _) (by omega) (by omega) (by rw [List.take_of_length_le (by omega)])
       replace H := (H.fr (cl b27 4 (bools (nonV m p)))).clRow (ys := bools (nonV m p)) 1 m.bids.length (Nat.le_refl _) (by omega) (by simp [bools]) (by rw [List.take_of_length_le (by simp [bools])])
       exact H.o3
   have St1 : ∀ (b23 : Nat) (w : World), Loc w0 w (cl b23 22 (List.replicate m.bids.length (.slice none 0 0)) :: cl b2 25 [.slice A1 m.res.length c1, .slice A2 m.bids.length c2, c] :: []) → G 2 #[true, true, true, true, true, true, true, false, true, false] (upl ρ' [(4, .slice (some ⟨b23, 0, none⟩) m.bids.length m.bids.length), (23, .slice (some ⟨b23, 0, none⟩) m.bids.length m.bids.length)]) w := by
     intro b23 w H
     subst hG hρ
     refine D_one (i := 7) (by kernel_rfl) ?_
     ·
       refine act_o 7 rfl rfl (E_makec m.bids.length m.bids.length H rfl rfl (by omega) (by omega) (by omega) ?_)
       clear H; intro w b27 H
       refine ⟨fun _ _ => (by exact H.o1), ?_⟩
       refine D_takeT 9 rfl rfl rfl (by kernel_rfl) (fun w K Z kk => E_assign kk) ?_
       refine D_at (l' := #[true, true, true, true, true, true, true, true, true, true]) (L := [(5, _), (27, _), (4, _), (23, _)]) (by kernel_rfl) (.cons _ ((.cons _ (List.Perm.refl _) : List.Perm _ _).trans (List.perm_middle (l₁ := [_])).symm)) rfl ?_
       exact St0 _ _ _ (by exact H.o3)
   have St2 : ∀ (b27 : Nat) (w : World), Loc w0 w (cl b27 4 (List.replicate m.bids.length (.bool false)) :: cl b2 25 [.slice A1 m.res.length c1, .slice A2 m.bids.length c2, c] :: []) → G 3 #[true, true, true, false, true, true, true, true, false, false] (upl ρ' [(27, .slice (some ⟨b27, 0, none⟩) m.bids.length m.bids.length)]) w := by
     intro b27 w H
     subst hG hρ
     refine D_one (i := 3) (by kernel_rfl) ?_
     ·
       refine act_o 3 rfl rfl (E_makec m.bids.length m.bids.length H rfl rfl (by omega) (by omega) (by omega) ?_)
       clear H; intro w b23 H
       refine ⟨fun _ _ => (by exact H.o1), ?_⟩
       refine D_takeT 8 rfl rfl rfl (by kernel_rfl) (fun w K Z kk => E_assign kk) ?_
       refine D_takeT 9 rfl rfl rfl (by kernel_rfl) (fun w K Z kk => E_assign kk) ?_
       refine D_at (l' := #[true, true, true, true, true, true, true, true, true, true]) (L := [(5, _), (4, _), (23, _), (27, _)]) (by kernel_rfl) (.cons _ (.cons _ ((.cons _ (List.Perm.refl _) : List.Perm _ _).trans (List.perm_middle (l₁ := [_])).symm))) rfl ?_
       exact St0 _ _ _ (by exact H.o3)
   subst hG hρ
   refine D_two (i := 3) (j := 7) (by kernel_rfl) ?_ ?_
   ·
    refine act_o 3 rfl rfl (E_makec m.bids.length m.bids.length H rfl rfl (by omega) (by omega) (by omega) ?_)
    clear H; intro w b23 H
    refine ⟨fun _ _ => (by exact H.o1), ?_⟩
    refine D_takeT 8 rfl rfl rfl (by kernel_rfl) (fun w K Z kk => E_assign kk) ?_
    refine D_at (l' := #[true, true, true, true, true, true, true, false, true, false]) (L := [(4, _), (23, _)]) (by kernel_rfl) (List.Perm.refl _) rfl ?_
    exact St1 _ _ (by exact H.o2)
   ·
    refine act_o 7 rfl rfl (E_makec m.bids.length m.bids.length H rfl rfl (by omega) (by omega) (by omega) ?_)
    clear H; intro w b27 H
    refine ⟨fun _ _ => (by exact H.o1), ?_⟩
    refine D_at (l' := #[true, true, true, false, true, true, true, true, false, false]) (L := [(27, _)]) (by kernel_rfl) (List.Perm.refl _) rfl ?_
    exact St2 _ _ (by exact H.o2)
end Go.Sl
