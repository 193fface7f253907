/- iterators; sorting of short lists. -/
import Derived.Test.YtlgdffofhnfedaaGreatX6
import Derived.Test.YtlgdffofhnfedaaGreatR
set_option linter.unusedVariables false
set_option linter.unusedSimpArgs false
set_option maxRecDepth 10000
namespace Go.Sl
open Go.RowKit
open Go.Proofs
theorem perm_mid2 {X A L : List HP} : (X ++ (A ++ L)).Perm (A ++ (X ++ L)) := by
 rw [← List.append_assoc, ← List.append_assoc]
 exact List.Perm.append_right L List.perm_append_comm
def Xint (xs : List Int) (k : Nat) (vs : List Value) : Prop := ∃ x, xs[k]? = some x ∧ vs = [.int .i64 x]
def Xint2 (xs : List Int) (k : Nat) (vs : List Value) : Prop := ∃ x, xs[k]? = some x ∧ vs = [.int .i64 k, .int .i64 x]
theorem Values1_ {w0 : World} {s : Value} {xs : List Int} {b : Nat} (hrd : RdI w0 s xs) :
   IterOk Tryz.prog 97 [.pointer (some ⟨b, 0, none⟩)] w0 xs.length (Xint xs) (fun _ _ => []) (fun _ => [cl b 22 [s]]) := by
 obtain ⟨A, c, rfl, hc1, hc2⟩ := hrd.len
 intro l J JX W T hy hJ H
 replace H : Loc w0 W (cl b 22 [.slice A xs.length c] :: T) := H
 refine ret_of_C Tryz.func97 rfl rfl rfl ?_
 refine C_seq (C_region rfl (R_o rfl (E_load H rfl rfl ?_)))
 refine R_o rfl (E_len rfl ?_)
 refine R_o rfl (E_move (R_nil (C_block (C_loop (ds := []) [0, 5, 6, 7] (fun m_ ws w => ∃ (k : Nat) (hs : List (List Value)) (T : List HP), ws = [.func (.yield l) #[] #[], .slice A xs.length c, .int .i64 xs.length, .int .i64 k] ∧ m_ = xs.length - k ∧ k ≤ xs.length ∧ hs.length = k ∧ J hs T ∧ Loc w0 w (cl b 22 [.slice A xs.length c] :: T)) (m := xs.length) (by first | rfl | exact hd) ?_ ?_))))
 · exact ⟨0, [], T, rfl, by omega, by omega, rfl, hJ, H⟩
 intro m vs ρ₀ w hd hI
 clear H hJ T
 obtain ⟨k, hs, T, rfl, rfl, hk, hl, hJ, H⟩ := hI
 refine C_seq (C_region rfl (R_o rfl (E_lss rfl rfl ?_)))
 refine R_nil (C_seq (C_cond (t := 8) rfl (fun hlt => ?_) (fun hlt => ?_)))
 ·
  obtain ⟨x, hx⟩ := get_of (xs := xs) (k := k) (by omega)
  obtain ⟨vs, hvs⟩ : ∃ vs, vs = [Value.int .i64 x] := ⟨_, rfl⟩
  refine C_skip (C_seq (C_block (C_seq (C_region rfl (R_o rfl (E_idxr hrd rfl rfl (by omega) (by omega) ?_))))))
  refine R_o rfl (E_loadi hrd H rfl hx ?_)
  refine R_o rfl (E_assign (R_nil (C_seq (C_region rfl (R_o rfl (E_move (R_o rfl (E_move (R_o rfl (E_yield rfl (by rw [hvs]; rfl) (hy hs vs [cl b 22 [.slice A xs.length c]] w T (by omega) (by rw [hl]; exact ⟨x, hx, hvs⟩) hJ H) ?_))))))))))
  intro bb w1 hor
  refine R_o rfl (E_notb rfl ?_)
  refine R_nil (C_condb (t := 14) rfl (fun hnb => ?_) (fun hnb => ?_))
  ·
   obtain ⟨rfl, T2, hJ2, H2⟩ := hor.resolve_left (fun h => by rw [h.1] at hnb; cases hnb)
   refine C_ret ?_
   with_reducible repeat (first | refine thn_ret ?_ | refine inB_ret ?_ | refine noG_ret ?_)
   first
     | exact ret_none rfl hd ⟨hs ++ [vs], T2, .inr hJ2, H2⟩
     | exact end_none rfl hd ⟨hs, T, .inl ⟨hl.trans hk, hJ⟩, H⟩
  ·
   obtain ⟨rfl, T2, hJ2, H2⟩ := hor.resolve_right (fun h => by rw [h.1] at hnb; cases hnb)
   refine C_skip (C_region rfl (R_o rfl (E_add rfl rfl (by omega) ?_)))
   refine R_o rfl (E_move (R_nil ?_))
   exact ⟨hd, xs.length - (k + 1), by omega, k + 1, hs ++ [vs], T2, rfl, rfl, by omega, by simp [hl], hJ2, H2⟩
 ·
  have hk : k = xs.length := by omega
  refine C_exit ?_
  with_reducible repeat (first | refine inB_normal ?_ | refine noG_normal ?_ | refine thn_exit ?_ | refine inB_exit ?_ | refine inB_pass rfl ?_)
  first
    | exact ret_none rfl hd ⟨hs ++ [vs], T2, .inr hJ2, H2⟩
    | exact end_none rfl hd ⟨hs, T, .inl ⟨hl.trans hk, hJ⟩, H⟩
theorem Values_ {w0 : World} {s : Value} :
   Ret Tryz.prog 81 [s] w0 (fun v w => ∃ b, v = .func (.func 97) #[] #[.pointer (some ⟨b, 0, none⟩)] ∧ Loc w0 w [cl b 22 s.cells.toList]) := by
 refine ret_of_C Tryz.func81 rfl rfl rfl ?_
 have H := Loc.refl w0
 refine C_seq (C_region rfl (R_o rfl (E_box (cs := s.cells.toList) rfl H ?_)))
 clear H; intro w b1 H
 refine R_o rfl (E_assign (R_nil (C_seq (C_region rfl (R_o rfl (E_makeFunc rfl rfl ?_))))))
 refine R_o rfl (E_assign (R_nil (C_ret ?_)))
 with_reducible repeat (first | refine thn_ret ?_ | refine inB_ret ?_ | refine noG_ret ?_)
 exact ret_one rfl rfl ⟨b1, rfl, H⟩
theorem AppendSeq_ {w0 w : World} {L A : List HP} {gf : FuncId} {lb : List Value} {xs : List Int} (hgb : hasBody Tryz.prog gf = true) (hit : IterOk Tryz.prog gf lb w0 xs.length (Xint xs) (fun _ _ => []) (fun _ => A)) (hb : xs.length ≤ 1000000) (H : Loc w0 w (A ++ L)) :
   Ret Tryz.prog 108 [.slice none 0 0, .func (.func gf) #[] lb.toArray] w (fun v w' => Loc w0 w' (row 3 1 v xs.length (ints .i64 xs) :: (A ++ L))) := by
 haveI : Hb Tryz.prog gf := ⟨hgb⟩
 refine ret_of_CM Tryz.func108 rfl rfl rfl ?_
 refine C_seq (C_region rfl (R_o rfl (E_box (cs := [.slice none 0 0]) rfl H ?_)))
 clear H; intro w b2 H
 replace H := (nilRow 3 1 H).perm (perm_mid2 (X := [_, _]))
 refine R_o rfl (E_assign (R_nil (C_seq (C_seq (C_region rfl (R_o rfl (E_move (R_nil (C_block (C_rangeFunc (ps := [7]) rfl rfl (by rintro k vs ⟨x, _, rfl⟩; rfl) hit (fun hs T => ∃ v, hs.length ≤ xs.length ∧ T = row 3 1 v hs.length (ints .i64 (xs.take hs.length)) :: cl b2 22 [v] :: L) (fun _ _ _ => False) H ⟨.slice none 0 0, by simp, rfl⟩ ?_ ?_ ?_))))))))))
 ·
  intro l hs vs F W T hlt hX hJ H
  obtain ⟨x, hx, rfl⟩ := hX
  obtain ⟨v, hle, rfl⟩ := hJ
  replace H : Loc w0 W (row 3 1 v hs.length (ints .i64 (xs.take hs.length)) :: cl b2 22 [v] :: (L ++ F)) := H
  refine C_region rfl (R_o rfl (E_assign (R_nil (⟨rfl, row 3 1 v hs.length (ints .i64 (xs.take hs.length)) :: cl b2 22 [v] :: L, H, fun F w H => ?_⟩))))
  replace H : Loc w0 w (row 3 1 v hs.length (ints .i64 (xs.take hs.length)) :: cl b2 22 [v] :: (L ++ F)) := H
  refine C_block (C_region rfl (R_o rfl (E_load H rfl rfl ?_)))
  refine R_o rfl (E_move (R_o rfl (E_lit (vs := [.int .i64 x]) [.tmp 9] rfl rfl rfl rfl rfl H ?_)))
  clear H; intro w b10 H
  refine R_o rfl (E_append1 (v := v) (b := b10) (u := .int .i64 x) H rfl rfl rfl (by omega) (by omega) ?_)
  clear H; intro w v11 H
  obtain ⟨A11, c11, rfl, _⟩ := H.len (v := v11)
  refine R_n rfl (E_store (v := .slice A11 (hs.length + 1) c11) H rfl rfl rfl (by simp) ?_)
  clear H; intro w H
  refine R_nil (⟨_, ⟨.slice A11 (hs.length + 1) c11, by simp; omega, rfl⟩, ?_⟩)
  rw [show (hs ++ [[Value.int .i64 x]]).length = hs.length + 1 by simp, take_step hx, ints_snoc]
  exact H.swap
 ·
  intro D hs T w hN hJ H
  obtain ⟨v, hle, rfl⟩ := hJ
  replace H := H.perm (show (dfr D :: (A ++ (row 3 1 v hs.length (ints .i64 (xs.take hs.length)) :: cl b2 22 [v] :: L))).Perm (dfr D :: row 3 1 v hs.length (ints .i64 (xs.take hs.length)) :: cl b2 22 [v] :: (A ++ L)) from List.Perm.cons _ (perm_mid2 (X := [_, _])).symm)
  refine C_seq (C_region rfl (R_o rfl (E_load H rfl rfl ?_)))
  refine R_o rfl (E_assign (R_nil (C_ret ?_)))
  with_reducible repeat (first | refine thn_ret ?_ | refine inB_ret ?_ | refine noG_ret ?_)
  refine retM_list (rs := [.tmp 4]) (vs := [v]) rfl (H.mks1.perm (List.perm_middle (l₁ := [_, _]))).drop (fun w' _ => ⟨rfl, trivial⟩) fun w' H => ?_
  rw [hN, List.take_length] at H; exact H
 ·
  intro D c hs T w hJR H
  exact hJR.elim
end Go.Sl
