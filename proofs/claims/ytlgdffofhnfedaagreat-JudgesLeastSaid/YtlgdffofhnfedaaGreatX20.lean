/- sets of items, in order. -/
import Derived.Test.YtlgdffofhnfedaaGreatX19
set_option linter.unusedVariables false
set_option linter.unusedSimpArgs false
set_option maxRecDepth 10000
set_option maxHeartbeats 2000000
namespace Go.Sl
open Go.RowKit
open Go.Proofs
def Xset (C : List (List Int)) (k : Nat) (vs : List Value) : Prop := ∃ l v, C[k]? = some l ∧ vs = [v]
def FXset (C : List (List Int)) (k : Nat) (vs : List Value) : List HP := [rdv (vs.getD 0 undef) (fun w => RdI w (vs.getD 0 undef) (C.getD k []))]
theorem FXset_eq {C : List (List Int)} {k : Nat} {l : List Int} (h : C[k]? = some l) (v : Value) : FXset C k [v] = [rdv v (fun w => RdI w v l)] := by
 show [rdv v (fun w => RdI w v (C.getD k []))] = _
 rw [show C.getD k [] = l by rw [List.getD_eq_getElem?_getD, h]; rfl]
theorem sets_ {w0 : World} {ahv : Value} {fr items many : Nat} (h1 : ahv.oneCell' = true) :
   Ret Tryz.prog 118 [ahv, .int .i64 fr, .int .i64 items, .int .i64 many] w0 (fun r w => ∃ b7 b4 b5 b6, r = .func (.func 159) #[] #[.pointer (some ⟨b7, 0, none⟩), .pointer (some ⟨b4, 0, none⟩), .pointer (some ⟨b5, 0, none⟩), .pointer (some ⟨b6, 0, none⟩)] ∧
     Loc w0 w [cl b7 3 [.int .i64 many], cl b4 22 [ahv], cl b5 3 [.int .i64 fr], cl b6 3 [.int .i64 items]]) := by
 refine ret_of_C Tryz.func118 rfl rfl rfl ?_
 have H := Loc.refl w0
 refine C_seq (C_region rfl (R_o rfl (E_box (cs := [ahv]) (cells_one h1) H ?_)))
 clear H; intro w b4 H
 refine R_o rfl (E_box (cs := [.int .i64 fr]) rfl H ?_)
 clear H; intro w b5 H
 refine R_o rfl (E_box (cs := [.int .i64 items]) rfl H ?_)
 clear H; intro w b6 H
 refine R_o rfl (E_box (cs := [.int .i64 many]) rfl H ?_)
 clear H; intro w b7 H
 refine R_o rfl (E_assign (R_nil (C_seq (C_region rfl (R_o rfl (E_makeFunc rfl rfl ?_))))))
 refine R_o rfl (E_assign (R_nil (C_ret ?_)))
 with_reducible repeat (first | refine thn_ret ?_ | refine inB_ret ?_ | refine noG_ret ?_ | refine jmp_ret ?_)
 exact ret_one rfl rfl ⟨b7, b4, b5, b6, rfl, H.al⟩
theorem sets1_zero {w0 : World} {items many fr : Nat} {ah : List Int} {ahv : Value} {b7 b4 b5 b6 : Nat} (hit : items ≤ 8) (hah : ah.length ≤ 100) (hmn : many ≤ 8) (hfr : fr ≤ 9) :
   IterOk Tryz.prog 159 [.pointer (some ⟨b7, 0, none⟩), .pointer (some ⟨b4, 0, none⟩), .pointer (some ⟨b5, 0, none⟩), .pointer (some ⟨b6, 0, none⟩)] w0 (combos items (0) fr ah).length (Xset (combos items (0) fr ah)) (FXset (combos items (0) fr ah)) (fun _ => cl b7 3 [.int .i64 ((0 : Nat) : Int)] :: cl b4 22 [ahv] :: cl b5 3 [.int .i64 (fr : Int)] :: cl b6 3 [.int .i64 (items : Int)] :: rdv ahv (fun w => RdI w ahv ah) :: []) := by
 intro l J JX W T hy hJ H
 replace H : Loc w0 W (cl b7 3 [.int .i64 ((0 : Nat) : Int)] :: cl b4 22 [ahv] :: cl b5 3 [.int .i64 (fr : Int)] :: cl b6 3 [.int .i64 (items : Int)] :: rdv ahv (fun w => RdI w ahv ah) :: T) := H
 refine ret_of_C Tryz.func159 rfl rfl rfl ?_
 refine C_seq (C_region rfl (R_o rfl (E_box (cs := [.func (.yield l) #[] #[]]) rfl H ?_)))
 clear H; intro w bY H
 refine R_nil (C_seq (C_seq (C_region rfl (R_o rfl (E_load H rfl rfl ?_)))))
 refine R_o rfl (E_eql rfl rfl ?_)
 refine R_nil (C_cond (t := 9) rfl (fun h9 => ?_) (fun h9 => ?_))
 ·
  refine C_seq (C_region rfl (R_o rfl (E_load H rfl rfl ?_)))
  refine R_o rfl (E_load H rfl rfl ?_)
  have H2 : Loc w0 w (rdv ahv (fun w => RdI w ahv ah) :: cl bY 66 [.func (.yield l) #[] #[]] :: cl b7 3 [.int .i64 ((0 : Nat) : Int)] :: cl b4 22 [ahv] :: cl b5 3 [.int .i64 (fr : Int)] :: cl b6 3 [.int .i64 (items : Int)] :: T) := H.al
  refine R_o rfl (E_yield rfl (by rfl) (hy [] [ahv] [cl bY 66 [.func (.yield l) #[] #[]], cl b7 3 [.int .i64 ((0 : Nat) : Int)], cl b4 22 [ahv], cl b5 3 [.int .i64 (fr : Int)], cl b6 3 [.int .i64 (items : Int)]] w T (by simp [combos]) ⟨ah, ahv, rfl, rfl⟩ hJ H2) ?_)
  intro bb w1 hor
  refine R_nil (C_ret ?_)
  with_reducible repeat (first | refine thn_ret ?_ | refine inB_ret ?_ | refine noG_ret ?_ | refine jmp_ret ?_)
  rcases hor with ⟨_, T', hJ', H'⟩ | ⟨_, T', hJ', H'⟩
  · replace H' : Loc w0 w1 (rdv ahv (fun w => RdI w ahv ah) :: cl bY 66 [.func (.yield l) #[] #[]] :: cl b7 3 [.int .i64 ((0 : Nat) : Int)] :: cl b4 22 [ahv] :: cl b5 3 [.int .i64 (fr : Int)] :: cl b6 3 [.int .i64 (items : Int)] :: T') := H'
    have H3 : Loc w0 w1 (cl b7 3 [.int .i64 ((0 : Nat) : Int)] :: cl b4 22 [ahv] :: cl b5 3 [.int .i64 (fr : Int)] :: cl b6 3 [.int .i64 (items : Int)] :: rdv ahv (fun w => RdI w ahv ah) :: T') := H'.al
    exact ret_none rfl rfl ⟨[[ahv]], T', .inl ⟨rfl, hJ'⟩, H3⟩
  · replace H' : Loc w0 w1 (rdv ahv (fun w => RdI w ahv ah) :: cl bY 66 [.func (.yield l) #[] #[]] :: cl b7 3 [.int .i64 ((0 : Nat) : Int)] :: cl b4 22 [ahv] :: cl b5 3 [.int .i64 (fr : Int)] :: cl b6 3 [.int .i64 (items : Int)] :: T') := H'
    have H3 : Loc w0 w1 (cl b7 3 [.int .i64 ((0 : Nat) : Int)] :: cl b4 22 [ahv] :: cl b5 3 [.int .i64 (fr : Int)] :: cl b6 3 [.int .i64 (items : Int)] :: rdv ahv (fun w => RdI w ahv ah) :: T') := H'.al
    exact ret_none rfl rfl ⟨[[ahv]], T', .inr hJ', H3⟩
 ·
  exact absurd rfl h9
theorem sets1_succ {w0 : World} {items many fr : Nat} {ah : List Int} {ahv : Value} {b7 b4 b5 b6 : Nat} (hit : items ≤ 8) (hah : ah.length ≤ 99) (hmn : many + 1 ≤ 8) (hfr : fr ≤ 9) (ih : ∀ (fr2 : Nat) (ah2 : List Int) (ahv2 : Value) (b7 b4 b5 b6 : Nat), ah2.length = ah.length + 1 → fr2 ≤ 9 → IterOk Tryz.prog 159 [.pointer (some ⟨b7, 0, none⟩), .pointer (some ⟨b4, 0, none⟩), .pointer (some ⟨b5, 0, none⟩), .pointer (some ⟨b6, 0, none⟩)] w0 (combos items many fr2 ah2).length (Xset (combos items many fr2 ah2)) (FXset (combos items many fr2 ah2)) (fun _ => cl b7 3 [.int .i64 ((many : Nat) : Int)] :: cl b4 22 [ahv2] :: cl b5 3 [.int .i64 (fr2 : Int)] :: cl b6 3 [.int .i64 (items : Int)] :: rdv ahv2 (fun w => RdI w ahv2 ah2) :: [])) :
   IterOk Tryz.prog 159 [.pointer (some ⟨b7, 0, none⟩), .pointer (some ⟨b4, 0, none⟩), .pointer (some ⟨b5, 0, none⟩), .pointer (some ⟨b6, 0, none⟩)] w0 (combos items (many + 1) fr ah).length (Xset (combos items (many + 1) fr ah)) (FXset (combos items (many + 1) fr ah)) (fun _ => cl b7 3 [.int .i64 ((many + 1 : Nat) : Int)] :: cl b4 22 [ahv] :: cl b5 3 [.int .i64 (fr : Int)] :: cl b6 3 [.int .i64 (items : Int)] :: rdv ahv (fun w => RdI w ahv ah) :: []) := by
 intro lo J JX W T hy hJ H
 replace H : Loc w0 W (cl b7 3 [.int .i64 ((many + 1 : Nat) : Int)] :: cl b4 22 [ahv] :: cl b5 3 [.int .i64 (fr : Int)] :: cl b6 3 [.int .i64 (items : Int)] :: rdv ahv (fun w => RdI w ahv ah) :: T) := H
 refine ret_of_CM Tryz.func159 rfl rfl rfl ?_
 refine C_seq (C_region rfl (R_o rfl (E_box (cs := [.func (.yield lo) #[] #[]]) rfl H ?_)))
 clear H; intro w bY H
 refine R_nil (C_seq (C_seq (C_region rfl (R_o rfl (E_load H rfl rfl ?_)))))
 refine R_o rfl (E_eql rfl rfl ?_)
 refine R_nil (C_cond (t := 9) rfl (fun h9 => ?_) (fun h9 => ?_))
 ·
  exact absurd h9 (by omega)
 ·
  refine C_skip (C_seq (C_region rfl (R_o rfl (E_load H rfl rfl ?_))))
  refine R_o rfl (E_assign (R_nil (C_block (C_loopD [1, 2, 3, 4, 5, 6] (fun m_ vs ds w => ∃ (d : Nat) (hs : List (List Value)) (T : List HP), vs = [.pointer (some ⟨b7, 0, none⟩), .pointer (some ⟨b4, 0, none⟩), .pointer (some ⟨b5, 0, none⟩), .pointer (some ⟨b6, 0, none⟩), .pointer (some ⟨bY, 0, none⟩), .int .i64 ((fr + d : Nat) : Int)] ∧ m_ = items - many - fr - d ∧ d ≤ items - many - fr ∧ hs.length = comN items many fr ah d ∧ J hs T ∧ Loc w0 w (cl bY 66 [.func (.yield lo) #[] #[]] :: cl b7 3 [.int .i64 ((many + 1 : Nat) : Int)] :: cl b4 22 [ahv] :: cl b5 3 [.int .i64 (fr : Int)] :: cl b6 3 [.int .i64 (items : Int)] :: rdv ahv (fun w => RdI w ahv ah) :: mks ds :: T)) (m := items - many - fr) ?_ ?_))))
  · replace H : Loc w0 w (cl bY 66 [.func (.yield lo) #[] #[]] :: cl b7 3 [.int .i64 ((many + 1 : Nat) : Int)] :: cl b4 22 [ahv] :: cl b5 3 [.int .i64 (fr : Int)] :: cl b6 3 [.int .i64 (items : Int)] :: rdv ahv (fun w => RdI w ahv ah) :: mks [] :: T) := H.mks0.al
    exact ⟨0, [], T, rfl, by omega, by omega, rfl, hJ, H⟩
  intro m vs ρ₀ w hI
  clear H hJ T
  obtain ⟨d, hs, T, rfl, rfl, hd, hl0, hJ, H⟩ := hI
  refine C_seq (C_seq (C_region rfl (R_o rfl (E_move (R_o rfl (E_load H rfl rfl ?_))))))
  refine R_o rfl (E_load H rfl rfl ?_)
  refine R_o rfl (E_sub rfl rfl (by omega) ?_)
  refine R_o rfl (E_leq rfl rfl ?_)
  refine R_nil (C_cond (t := 18) rfl (fun hlt => ?_) (fun hlt => ?_))
  ·
   have hd2 : d < items - many - fr := by omega
   refine C_skip (C_seq (C_block (C_seq (C_drawL [] H (by kernel_rfl) (fun w H => ?_)))))
   refine D_take 0 rfl rfl rfl (by kernel_rfl) H.al (fun w HS K Z kk => E_load HS rfl rfl kk) ?_
   refine D_takeT 2 rfl rfl rfl (by kernel_rfl) (fun w K Z kk => E_move kk) ?_
   refine D_takeT 5 rfl rfl rfl (by kernel_rfl) (fun w K Z kk => E_move kk) ?_
   refine D_takeT 6 rfl rfl rfl (by kernel_rfl) (fun w K Z kk => E_addc ((fr + d + 1 : Nat) : Int) rfl rfl (by omega) (by omega) kk) ?_
   refine D_take 7 rfl rfl rfl (by kernel_rfl) H.al (fun w HS K Z kk => E_load HS rfl rfl kk) ?_
   refine D_take 8 rfl rfl rfl (by kernel_rfl) H.al (fun w HS K Z kk => E_load HS rfl rfl kk) ?_
   refine D_takeT 9 rfl rfl rfl (by kernel_rfl) (fun w K Z kk => E_subc ((many : Nat) : Int) rfl rfl (by omega) (by omega) kk) ?_
   refine D_abs fun G ρ' hG hρ => ?_
   have St0 : ∀ (v22 : Value) (b24 : Nat) (w : World), Loc w0 w (row 3 1 v22 ah.length (ints .i64 ah) :: cl b24 3 [.int .i64 ((fr + d : Nat) : Int)] :: cl bY 66 [.func (.yield lo) #[] #[]] :: cl b7 3 [.int .i64 ((many + 1 : Nat) : Int)] :: cl b4 22 [ahv] :: cl b5 3 [.int .i64 (fr : Int)] :: cl b6 3 [.int .i64 (items : Int)] :: rdv ahv (fun w => RdI w ahv ah) :: mks ρ₀.d :: T) → G 2 #[true, true, true, true, false, true, true, true, true, true, false] (upl ρ' [(24, .slice (some ⟨b24, 0, none⟩) 1 1), (22, v22)]) w := by
     intro v22 b24 w H
     subst hG hρ
     refine D_act 4 rfl rfl (by kernel_rfl) (E_append1 (v := v22) (b := b24) (u := .int .i64 ((fr + d : Nat) : Int)) H rfl rfl rfl (by omega) (by omega) ?_)
     clear H; intro w v25 H
     obtain ⟨A25, c25, rfl, _⟩ := H.len (v := v25)
     refine ⟨fun _ _ => H.al, ?_⟩
     refine D_act 10 rfl rfl (by kernel_rfl) (E_call rfl (sets_ (ahv := (.slice A25 (ah.length + 1) c25)) (fr := fr + d + 1) (items := items) (many := many) rfl) ?_)
     rintro _ w1 ⟨c7, c4, c5, c6, rfl, hc⟩
     replace H := H.call4 hc; clear hc
     replace H := ((H.fr (row 3 1 (.slice A25 (ah.length + 1) c25) (ah.length + 1) (ints .i64 ah ++ [.int .i64 ((fr + d : Nat) : Int)]))).rowe (cs' := ints .i64 (ah ++ [((fr + d : Nat) : Int)])) (ints_snoc _ _ _).symm).rowInts
     replace H : Loc w0 w1 (cl c7 3 [.int .i64 ((many : Nat) : Int)] :: cl c4 22 [.slice A25 (ah.length + 1) c25] :: cl c5 3 [.int .i64 ((fr + d + 1 : Nat) : Int)] :: cl c6 3 [.int .i64 (items : Int)] :: rdv (.slice A25 (ah.length + 1) c25) (fun w => RdI w (.slice A25 (ah.length + 1) c25) (ah ++ [((fr + d : Nat) : Int)])) :: cl bY 66 [.func (.yield lo) #[] #[]] :: cl b7 3 [.int .i64 ((many + 1 : Nat) : Int)] :: cl b4 22 [ahv] :: cl b5 3 [.int .i64 (fr : Int)] :: cl b6 3 [.int .i64 (items : Int)] :: rdv ahv (fun w => RdI w ahv ah) :: mks ρ₀.d :: T) := H.al
     refine ⟨fun _ _ => H.al, ?_⟩
     refine D_done (by kernel_rfl) ?_
     refine C_block (C_rangeFunc (ps := [32]) rfl rfl (by rintro k vs ⟨_, v, _, rfl⟩; rfl) (ih (fr + d + 1) (ah ++ [((fr + d : Nat) : Int)]) (.slice A25 (ah.length + 1) c25) c7 c4 c5 c6 (by simp) (by omega)) (fun hs2 T' => ∃ hs0 T0, hs0.length = comN items many fr ah d + hs2.length ∧ hs2.length ≤ (comF items many fr ah d).length ∧ J hs0 T0 ∧ T' = cl bY 66 [.func (.yield lo) #[] #[]] :: cl b7 3 [.int .i64 ((many + 1 : Nat) : Int)] :: cl b4 22 [ahv] :: cl b5 3 [.int .i64 (fr : Int)] :: cl b6 3 [.int .i64 (items : Int)] :: rdv ahv (fun w => RdI w ahv ah) :: mks ρ₀.d :: T0) (fun c hs2 T' => c = .ret ∧ ∃ hs0 T0, JX hs0 T0 ∧ T' = cl bY 66 [.func (.yield lo) #[] #[]] :: cl b7 3 [.int .i64 ((many + 1 : Nat) : Int)] :: cl b4 22 [ahv] :: cl b5 3 [.int .i64 (fr : Int)] :: cl b6 3 [.int .i64 (items : Int)] :: rdv ahv (fun w => RdI w ahv ah) :: mks ρ₀.d :: T0) H ⟨hs, T, by simp [hl0], by simp, hJ, rfl⟩ ?_ ?_ ?_)
     ·
       intro l hs vs F W T hlt hX hJ H
       obtain ⟨lst, v, hlst, rfl⟩ := hX
       obtain ⟨hs0, T0, hlen, hle, hJ0, rfl⟩ := hJ
       rw [FXset_eq hlst] at H ⊢
       replace H : Loc w0 W (rdv v (fun w => RdI w v lst) :: (cl bY 66 [.func (.yield lo) #[] #[]] :: cl b7 3 [.int .i64 ((many + 1 : Nat) : Int)] :: cl b4 22 [ahv] :: cl b5 3 [.int .i64 (fr : Int)] :: cl b6 3 [.int .i64 (items : Int)] :: rdv ahv (fun w => RdI w ahv ah) :: mks ρ₀.d :: (T0 ++ F))) := H
       refine C_region rfl (R_o rfl (E_assign (R_nil (⟨rfl, cl bY 66 [.func (.yield lo) #[] #[]] :: cl b7 3 [.int .i64 ((many + 1 : Nat) : Int)] :: cl b4 22 [ahv] :: cl b5 3 [.int .i64 (fr : Int)] :: cl b6 3 [.int .i64 (items : Int)] :: rdv ahv (fun w => RdI w ahv ah) :: mks ρ₀.d :: T0, H, fun F w H => ?_⟩))))
       replace H : Loc w0 w (rdv v (fun w => RdI w v lst) :: (cl bY 66 [.func (.yield lo) #[] #[]] :: cl b7 3 [.int .i64 ((many + 1 : Nat) : Int)] :: cl b4 22 [ahv] :: cl b5 3 [.int .i64 (fr : Int)] :: cl b6 3 [.int .i64 (items : Int)] :: rdv ahv (fun w => RdI w ahv ah) :: mks ρ₀.d :: (T0 ++ F))) := H
       refine C_block (C_seq (C_region rfl (R_o rfl (E_load H rfl rfl ?_))))
       refine R_o rfl (E_move ?_)
       have H2 : Loc w0 w (rdv v (fun w => RdI w v lst) :: (cl bY 66 [.func (.yield lo) #[] #[]] :: cl b7 3 [.int .i64 ((many + 1 : Nat) : Int)] :: cl b4 22 [ahv] :: cl b5 3 [.int .i64 (fr : Int)] :: cl b6 3 [.int .i64 (items : Int)] :: rdv ahv (fun w => RdI w ahv ah) :: mks ρ₀.d :: (F ++ T0))) := Loc.sw (T := T0) (F := F) (rdv v (fun w => RdI w v lst) :: cl bY 66 [.func (.yield lo) #[] #[]] :: cl b7 3 [.int .i64 ((many + 1 : Nat) : Int)] :: cl b4 22 [ahv] :: cl b5 3 [.int .i64 (fr : Int)] :: cl b6 3 [.int .i64 (items : Int)] :: rdv ahv (fun w => RdI w ahv ah) :: mks ρ₀.d :: []) H
       refine R_o rfl (E_yield rfl rfl (hy hs0 [v] (cl bY 66 [.func (.yield lo) #[] #[]] :: cl b7 3 [.int .i64 ((many + 1 : Nat) : Int)] :: cl b4 22 [ahv] :: cl b5 3 [.int .i64 (fr : Int)] :: cl b6 3 [.int .i64 (items : Int)] :: rdv ahv (fun w => RdI w ahv ah) :: mks ρ₀.d :: F) w T0 (by rw [hlen]; exact lt_of_get (com_get hd2 hlst)) (by rw [hlen]; exact ⟨lst, v, com_get hd2 hlst, rfl⟩) hJ0 (by rw [hlen, FXset_eq (com_get hd2 hlst)]; exact H2)) ?_)
       intro bb w1 hor
       rw [hlen, FXset_eq (com_get hd2 hlst)] at hor
       refine R_o rfl (E_notb rfl ?_)
       refine R_nil (C_condb (t := 36) rfl (fun hnb => ?_) (fun hnb => ?_))
       ·
         obtain ⟨rfl, T2, hJ2, H2'⟩ := hor.resolve_left (fun h => by rw [h.1] at hnb; cases hnb)
         refine C_ret ?_
         with_reducible repeat (first | refine thn_ret ?_ | refine inB_ret ?_ | refine noG_ret ?_ | refine jmp_ret ?_)
         refine ⟨cl bY 66 [.func (.yield lo) #[] #[]] :: cl b7 3 [.int .i64 ((many + 1 : Nat) : Int)] :: cl b4 22 [ahv] :: cl b5 3 [.int .i64 (fr : Int)] :: cl b6 3 [.int .i64 (items : Int)] :: rdv ahv (fun w => RdI w ahv ah) :: mks ρ₀.d :: T2, ⟨rfl, _, T2, hJ2, rfl⟩, ?_⟩
         exact Loc.sw (T := F) (F := T2) (rdv v (fun w => RdI w v lst) :: cl bY 66 [.func (.yield lo) #[] #[]] :: cl b7 3 [.int .i64 ((many + 1 : Nat) : Int)] :: cl b4 22 [ahv] :: cl b5 3 [.int .i64 (fr : Int)] :: cl b6 3 [.int .i64 (items : Int)] :: rdv ahv (fun w => RdI w ahv ah) :: mks ρ₀.d :: []) H2'
       ·
         obtain ⟨rfl, T2, hJ2, H2'⟩ := hor.resolve_right (fun h => by rw [h.1] at hnb; cases hnb)
         refine C_skip ?_
         with_reducible repeat (first | refine inB_normal ?_ | refine thn_exit ?_ | refine inB_exit ?_ | refine inB_pass rfl ?_)
         refine ⟨cl bY 66 [.func (.yield lo) #[] #[]] :: cl b7 3 [.int .i64 ((many + 1 : Nat) : Int)] :: cl b4 22 [ahv] :: cl b5 3 [.int .i64 (fr : Int)] :: cl b6 3 [.int .i64 (items : Int)] :: rdv ahv (fun w => RdI w ahv ah) :: mks ρ₀.d :: T2, ⟨_, T2, by simp [hlen]; omega, by have := lt_of_get hlst; simp; exact this, hJ2, rfl⟩, ?_⟩
         exact Loc.sw (T := F) (F := T2) (rdv v (fun w => RdI w v lst) :: cl bY 66 [.func (.yield lo) #[] #[]] :: cl b7 3 [.int .i64 ((many + 1 : Nat) : Int)] :: cl b4 22 [ahv] :: cl b5 3 [.int .i64 (fr : Int)] :: cl b6 3 [.int .i64 (items : Int)] :: rdv ahv (fun w => RdI w ahv ah) :: mks ρ₀.d :: []) H2'
     ·
       intro D hs T w hN hJ H
       obtain ⟨hs0, T0, hlen, hle, hJ0, rfl⟩ := hJ
       replace H : Loc w0 w (dfr D :: (cl c7 3 [.int .i64 ((many : Nat) : Int)] :: cl c4 22 [.slice A25 (ah.length + 1) c25] :: cl c5 3 [.int .i64 ((fr + d + 1 : Nat) : Int)] :: cl c6 3 [.int .i64 (items : Int)] :: rdv (.slice A25 (ah.length + 1) c25) (fun w => RdI w (.slice A25 (ah.length + 1) c25) (ah ++ [((fr + d : Nat) : Int)])) :: cl bY 66 [.func (.yield lo) #[] #[]] :: cl b7 3 [.int .i64 ((many + 1 : Nat) : Int)] :: cl b4 22 [ahv] :: cl b5 3 [.int .i64 (fr : Int)] :: cl b6 3 [.int .i64 (items : Int)] :: rdv ahv (fun w => RdI w ahv ah) :: mks ρ₀.d :: T0)) := H
       have H1 : Loc w0 w (dfr D :: mks ρ₀.d :: (cl bY 66 [.func (.yield lo) #[] #[]] :: cl b7 3 [.int .i64 ((many + 1 : Nat) : Int)] :: cl b4 22 [ahv] :: cl b5 3 [.int .i64 (fr : Int)] :: cl b6 3 [.int .i64 (items : Int)] :: rdv ahv (fun w => RdI w ahv ah) :: T0)) := H.al
       replace H : Loc w0 w (cl bY 66 [.func (.yield lo) #[] #[]] :: cl b7 3 [.int .i64 ((many + 1 : Nat) : Int)] :: cl b4 22 [ahv] :: cl b5 3 [.int .i64 (fr : Int)] :: cl b6 3 [.int .i64 (items : Int)] :: rdv ahv (fun w => RdI w ahv ah) :: mks (mark D :: ρ₀.d) :: T0) := (H1.mksS).al
       have hN2 : hs.length = (comF items many fr ah d).length := hN
       refine C_region rfl (R_o rfl (E_move (R_o rfl (E_addc ((fr + (d + 1) : Nat) : Int) rfl rfl (by omega) (by omega) ?_))))
       refine R_o rfl (E_assign (R_nil ?_))
       exact ⟨items - many - fr - (d + 1), by omega, d + 1, hs0, T0, rfl, rfl, by omega, by rw [comN_succ]; omega, hJ0, H⟩
     ·
       intro D c hs T w hJR H
       obtain ⟨rfl, hs0, T0, hJX, rfl⟩ := hJR
       replace H : Loc w0 w (dfr D :: (cl c7 3 [.int .i64 ((many : Nat) : Int)] :: cl c4 22 [.slice A25 (ah.length + 1) c25] :: cl c5 3 [.int .i64 ((fr + d + 1 : Nat) : Int)] :: cl c6 3 [.int .i64 (items : Int)] :: rdv (.slice A25 (ah.length + 1) c25) (fun w => RdI w (.slice A25 (ah.length + 1) c25) (ah ++ [((fr + d : Nat) : Int)])) :: cl bY 66 [.func (.yield lo) #[] #[]] :: cl b7 3 [.int .i64 ((many + 1 : Nat) : Int)] :: cl b4 22 [ahv] :: cl b5 3 [.int .i64 (fr : Int)] :: cl b6 3 [.int .i64 (items : Int)] :: rdv ahv (fun w => RdI w ahv ah) :: mks ρ₀.d :: T0)) := H
       have H1 : Loc w0 w (dfr D :: mks ρ₀.d :: (cl b7 3 [.int .i64 ((many + 1 : Nat) : Int)] :: cl b4 22 [ahv] :: cl b5 3 [.int .i64 (fr : Int)] :: cl b6 3 [.int .i64 (items : Int)] :: rdv ahv (fun w => RdI w ahv ah) :: T0)) := H.al
       refine C_ret ?_
       with_reducible repeat (first | refine thn_ret ?_ | refine inB_ret ?_)
       exact retM_list (rs := []) (vs := []) (L := cl b7 3 [.int .i64 ((many + 1 : Nat) : Int)] :: cl b4 22 [ahv] :: cl b5 3 [.int .i64 (fr : Int)] :: cl b6 3 [.int .i64 (items : Int)] :: rdv ahv (fun w => RdI w ahv ah) :: T0) rfl (H1.mksS) (fun w' _ => trivial) fun w' H' => ⟨hs0, T0, .inr hJX, H'⟩
   have St1 : ∀ (b24 : Nat) (w : World), Loc w0 w (cl b24 3 [.int .i64 ((fr + d : Nat) : Int)] :: cl bY 66 [.func (.yield lo) #[] #[]] :: cl b7 3 [.int .i64 ((many + 1 : Nat) : Int)] :: cl b4 22 [ahv] :: cl b5 3 [.int .i64 (fr : Int)] :: cl b6 3 [.int .i64 (items : Int)] :: rdv ahv (fun w => RdI w ahv ah) :: mks ρ₀.d :: T) → G 3 #[true, false, true, true, false, true, true, true, true, true, false] (upl ρ' [(24, .slice (some ⟨b24, 0, none⟩) 1 1)]) w := by
     intro b24 w H
     subst hG hρ
     refine D_one (i := 1) (by kernel_rfl) ?_
     ·
       refine act_o 1 rfl rfl (E_call rfl (Clone_ints (s := ahv) (xs := ah) (H.fr (rdv ahv (fun w => RdI w ahv ah))).read (by omega)) ?_)
       rintro v22 w1 hc
       replace H := H.call1 hc; clear hc
       refine ⟨fun _ _ => H.al, ?_⟩
       refine D_at (l' := #[true, true, true, true, false, true, true, true, true, true, false]) (L := [(22, _), (24, _)]) (by kernel_rfl) ((.cons _ (List.Perm.refl _) : List.Perm _ _).trans (List.perm_middle (l₁ := [_])).symm) rfl ?_
       exact St0 _ _ _ (by exact H.al)
   have St2 : ∀ (v22 : Value) (w : World), Loc w0 w (row 3 1 v22 ah.length (ints .i64 ah) :: cl bY 66 [.func (.yield lo) #[] #[]] :: cl b7 3 [.int .i64 ((many + 1 : Nat) : Int)] :: cl b4 22 [ahv] :: cl b5 3 [.int .i64 (fr : Int)] :: cl b6 3 [.int .i64 (items : Int)] :: rdv ahv (fun w => RdI w ahv ah) :: mks ρ₀.d :: T) → G 3 #[true, true, true, false, false, true, true, true, true, true, false] (upl ρ' [(22, v22)]) w := by
     intro v22 w H
     subst hG hρ
     refine D_one (i := 3) (by kernel_rfl) ?_
     ·
       refine act_o 3 rfl rfl (E_lit (vs := [.int .i64 ((fr + d : Nat) : Int)]) [.tmp 23] rfl rfl rfl rfl rfl H ?_)
       clear H; intro w b24 H
       refine ⟨fun _ _ => H.al, ?_⟩
       refine D_at (l' := #[true, true, true, true, false, true, true, true, true, true, false]) (L := [(24, _), (22, _)]) (by kernel_rfl) (List.Perm.refl _) rfl ?_
       exact St0 _ _ _ (by exact H.al)
   subst hG hρ
   refine D_two (i := 1) (j := 3) (by kernel_rfl) ?_ ?_
   ·
    refine act_o 1 rfl rfl (E_call rfl (Clone_ints (s := ahv) (xs := ah) (H.fr (rdv ahv (fun w => RdI w ahv ah))).read (by omega)) ?_)
    rintro v22 w1 hc
    replace H := H.call1 hc; clear hc
    refine ⟨fun _ _ => H.al, ?_⟩
    refine D_at (l' := #[true, true, true, false, false, true, true, true, true, true, false]) (L := [(22, _)]) (by kernel_rfl) (List.Perm.refl _) rfl ?_
    exact St2 _ _ (by exact H.al)
   ·
    refine act_o 3 rfl rfl (E_lit (vs := [.int .i64 ((fr + d : Nat) : Int)]) [.tmp 23] rfl rfl rfl rfl rfl H ?_)
    clear H; intro w b24 H
    refine ⟨fun _ _ => H.al, ?_⟩
    refine D_at (l' := #[true, false, true, true, false, true, true, true, true, true, false]) (L := [(24, _)]) (by kernel_rfl) (List.Perm.refl _) rfl ?_
    exact St1 _ _ (by exact H.al)
  ·
   have hd2 : d = items - many - fr := by omega
   refine C_exit ?_
   with_reducible repeat (first | refine inB_normal ?_ | refine noG_normal ?_ | refine jmp_normal ?_ | refine thn_exit ?_ | refine inB_exit ?_ | refine inB_pass rfl ?_)
   have H1 : Loc w0 w (mks ρ₀.d :: (cl b7 3 [.int .i64 ((many + 1 : Nat) : Int)] :: cl b4 22 [ahv] :: cl b5 3 [.int .i64 (fr : Int)] :: cl b6 3 [.int .i64 (items : Int)] :: rdv ahv (fun w => RdI w ahv ah) :: T)) := H.al
   refine endM_list (rs := []) (vs := []) (L := cl b7 3 [.int .i64 ((many + 1 : Nat) : Int)] :: cl b4 22 [ahv] :: cl b5 3 [.int .i64 (fr : Int)] :: cl b6 3 [.int .i64 (items : Int)] :: rdv ahv (fun w => RdI w ahv ah) :: T) rfl H1 (fun w' _ => trivial) fun w' H' => ⟨hs, T, .inl ⟨?_, hJ⟩, H'⟩
   rw [hl0, hd2]; exact comN_full items many fr ah
theorem sets1_ {w0 : World} {items : Nat} (hit : items ≤ 8) : ∀ (many : Nat) (fr : Nat) (ah : List Int) (ahv : Value) (b7 b4 b5 b6 : Nat), many ≤ 8 → ah.length + many ≤ 99 → fr ≤ 9 →
   IterOk Tryz.prog 159 [.pointer (some ⟨b7, 0, none⟩), .pointer (some ⟨b4, 0, none⟩), .pointer (some ⟨b5, 0, none⟩), .pointer (some ⟨b6, 0, none⟩)] w0 (combos items many fr ah).length (Xset (combos items many fr ah)) (FXset (combos items many fr ah)) (fun _ => cl b7 3 [.int .i64 ((many : Nat) : Int)] :: cl b4 22 [ahv] :: cl b5 3 [.int .i64 (fr : Int)] :: cl b6 3 [.int .i64 (items : Int)] :: rdv ahv (fun w => RdI w ahv ah) :: [])
 | 0, fr, ah, ahv, b7, b4, b5, b6, _, h2, h3 => sets1_zero (many := 0) hit (by omega) (by omega) h3
 | many + 1, fr, ah, ahv, b7, b4, b5, b6, h1, h2, h3 => sets1_succ hit (by omega) h1 h3 fun fr2 ah2 ahv2 b7 b4 b5 b6 h4 h5 => sets1_ hit many fr2 ah2 ahv2 b7 b4 b5 b6 (by omega) (by omega) h5
end Go.Sl
