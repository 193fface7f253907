/- graphs, and the answer of chapter 6. -/
import Derived.Test.YtlgdffofhnfedaaGreatO
set_option linter.unusedVariables false
set_option linter.unusedSimpArgs false
set_option maxRecDepth 10000
set_option maxHeartbeats 2000000
namespace Go.Sl
open Go.RowKit
open Go.Proofs
theorem rises_ {w0 : World} {v : Value} {l : List Int} {n : Int} (hl : RdI w0 v l) :
   Ret Tryz.prog 156 [v, .int .i64 n] w0 (fun v w => v = .bool (decide (isR l n)) ∧ Below w0.heap.size w0 w) := by
 refine ret_of_C Tryz.func156 rfl rfl rfl ?_
 have H := Loc.refl w0
 obtain ⟨A, c, rfl, hc1, hc2⟩ := hl.len
 refine C_seq (C_region rfl (R_o rfl (E_assign (R_nil (C_seq (C_region rfl (R_o rfl (E_assign (R_nil (C_seq (C_seq (C_region rfl (R_o rfl (E_move (R_o rfl (E_len rfl ?_))))))))))))))))
 refine R_o rfl (E_move (R_nil (C_block (C_loop (ds := []) [1, 5, 8, 9, 10] (fun m_ vs w => ∃ k : Nat, ∃ la : Int, vs = [.int .i64 n, .int .i64 la, .slice A l.length c, .int .i64 l.length, .int .i64 k] ∧ m_ = l.length - k ∧ k ≤ l.length ∧ (isR (l.take k) n ∧ (∀ y ∈ l.take k, y ≤ la) ∧ (la = -1 ∨ la ∈ l.take k) ∧ -1 ≤ la) ∧ Loc w0 w []) (m := l.length) (by first | rfl | exact hd) ?_ ?_))))
 · exact ⟨0, -1, rfl, by omega, by omega, ⟨⟨fun x hx => by simp at hx, by simp⟩, fun y hy => by simp at hy, .inl rfl, by omega⟩, H⟩
 intro m vs ρ₀ w hd hI
 clear H
 obtain ⟨k, la, rfl, rfl, hk, hst, H⟩ := hI
 refine C_seq (C_region rfl (R_o rfl (E_lss rfl rfl ?_)))
 refine R_nil (C_seq (C_cond (t := 11) rfl (fun hlt => ?_) (fun hlt => ?_)))
 ·
  obtain ⟨x, hx⟩ := get_of (xs := l) (k := k) (by omega)
  refine C_skip (C_seq (C_block (C_seq (C_region rfl (R_o rfl (E_idxr hl rfl rfl (by omega) (by omega) ?_))))))
  refine R_o rfl (E_loadi hl H rfl hx ?_)
  refine R_o rfl (E_assign (R_nil (C_seq (C_seq (C_region rfl (R_o rfl (E_move (R_o rfl (E_move (R_o rfl (E_leq rfl rfl ?_)))))))))))
  refine R_o rfl (E_move (R_part (t := 17) rfl (fun h17 => ?_) (fun h17 => ?_)))
  ·
   refine R_p rfl rfl rfl ?_
   refine R_p rfl rfl rfl ?_
   refine R_p rfl rfl rfl ?_
   refine R_o rfl (E_pick rfl ?_)
   refine R_nil (C_true (t := 21) rfl ?_)
   refine C_seq (C_region rfl (R_o rfl (E_assign (R_nil (C_ret ?_)))))
   with_reducible repeat (first | refine thn_ret ?_ | refine inB_ret ?_ | refine noG_ret ?_)
   first
     | exact ret_one rfl hd ⟨congrArg Value.bool (decide_eq_false (fun h => by
         have h1 := isR_step h hx
         rcases hst.2.2.1 with e | e
         · omega
         · have := h1.2.2 _ e; omega)).symm, H.below⟩
     | exact ret_one rfl hd ⟨congrArg Value.bool (decide_eq_true (by rw [hk, List.take_length] at hst; exact hst.1)).symm, H.below⟩
  ·
   refine R_w rfl rfl rfl (E_move ?_)
   refine R_w rfl rfl rfl (E_move ?_)
   refine R_w rfl rfl rfl (E_geq rfl rfl ?_)
   refine R_o rfl (E_pick rfl ?_)
   refine R_nil (C_cond (t := 21) rfl (fun h21 => ?_) (fun h21 => ?_))
   ·
    refine C_seq (C_region rfl (R_o rfl (E_assign (R_nil (C_ret ?_)))))
    with_reducible repeat (first | refine thn_ret ?_ | refine inB_ret ?_ | refine noG_ret ?_)
    first
      | exact ret_one rfl hd ⟨congrArg Value.bool (decide_eq_false (fun h => by
          have h1 := isR_step h hx
          rcases hst.2.2.1 with e | e
          · omega
          · have := h1.2.2 _ e; omega)).symm, H.below⟩
      | exact ret_one rfl hd ⟨congrArg Value.bool (decide_eq_true (by rw [hk, List.take_length] at hst; exact hst.1)).symm, H.below⟩
   ·
    refine C_skip (C_region rfl (R_o rfl (E_move (R_o rfl (E_assign (R_nil (C_region rfl (R_o rfl (E_add rfl rfl (by omega) ?_)))))))))
    refine R_o rfl (E_move (R_nil (⟨hd, l.length - (k + 1), by omega, k + 1, x, rfl, rfl, by omega, ⟨by rw [take_step hx, isR_snoc]; exact ⟨hst.1, by omega, by omega, fun y hy => by have := hst.2.1 y hy; omega⟩, fun y hy => by rw [take_step hx] at hy; rcases List.mem_append.1 hy with hy | hy; exact Int.le_trans (hst.2.1 y hy) (by omega); (simp at hy; omega), .inr (by rw [take_step hx]; simp), by omega⟩, H⟩)))
 ·
  have hk : k = l.length := by omega
  refine C_exit ?_
  refine C_seq (C_region rfl (R_o rfl (E_assign (R_nil (C_ret ?_)))))
  with_reducible repeat (first | refine thn_ret ?_ | refine inB_ret ?_ | refine noG_ret ?_)
  first
    | exact ret_one rfl hd ⟨congrArg Value.bool (decide_eq_false (fun h => by
        have h1 := isR_step h hx
        rcases hst.2.2.1 with e | e
        · omega
        · have := h1.2.2 _ e; omega)).symm, H.below⟩
    | exact ret_one rfl hd ⟨congrArg Value.bool (decide_eq_true (by rw [hk, List.take_length] at hst; exact hst.1)).symm, H.below⟩
theorem gCheck1_ {w0 : World} {u : Value} {x : List Int} {a : Addr} {n : Int} (hc : w0.cell? a = some (.int .i64 n)) (hu : RdI w0 u x) :
   Ret Tryz.prog 184 [u, .pointer (some a)] w0 (fun v w => v = .bool (decide (¬ isR x n)) ∧ Below w0.heap.size w0 w) := by
 refine ret_of_C Tryz.func184 rfl rfl rfl ?_
 have H := Loc.refl w0
 refine C_seq (C_region rfl (R_o rfl (E_assign (R_nil (C_seq (C_region rfl (R_o rfl (E_move (R_o rfl (E_load_cell rfl (Below.cell_some H.below hc) ?_))))))))))
 refine R_o rfl (E_call rfl (rises_ (Abides.below H.below hu)) ?_)
 rintro _ w1 ⟨rfl, hb⟩
 replace H := H.call0 hb; clear hb
 refine R_o rfl (E_not rfl ?_)
 refine R_o rfl (E_assign (R_nil (C_ret ?_)))
 with_reducible repeat (first | refine thn_ret ?_ | refine inB_ret ?_ | refine noG_ret ?_)
 exact ret_one rfl rfl ⟨rfl, H.below⟩
theorem gCheck_ {w0 : World} {v : Value} {g : List (List Int)} {n : Int} (hg : RdII w0 v g) :
   Ret Tryz.prog 155 [v, .int .i64 n] w0 (fun v w => v = .bool (decide (okGr g n)) ∧ Below w0.heap.size w0 w) := by
 refine ret_of_C Tryz.func155 rfl rfl rfl ?_
 have H := Loc.refl w0
 obtain ⟨A, c, rfl, hc1, hc2⟩ := hg.len
 refine C_seq (C_region rfl (R_o rfl (E_box (cs := [.int .i64 n]) rfl H ?_)))
 clear H; intro w b3 H
 refine R_o rfl (E_assign (R_nil (C_seq (C_region rfl (R_o rfl (E_load H rfl rfl ?_))))))
 refine R_o rfl (E_geq rfl rfl ?_)
 refine R_o rfl (E_move (R_part (t := 7) rfl (fun h1 => ?_) (fun h1 => ?_)))
 ·
  refine R_w rfl rfl rfl (E_load H rfl rfl ?_)
  refine R_w rfl rfl rfl (E_leq rfl rfl ?_)
  refine R_o rfl (E_pick rfl ?_)
  refine R_o rfl (E_move (R_part (t := 11) rfl (fun h2 => ?_) (fun h2 => ?_)))
  ·
   refine R_w rfl rfl rfl (E_move ?_)
   refine R_w rfl rfl rfl (E_len rfl ?_)
   refine R_w rfl rfl rfl (E_leq rfl rfl ?_)
   refine R_o rfl (E_pick rfl ?_)
   refine R_o rfl (E_move (R_part (t := 16) rfl (fun h3 => ?_) (fun h3 => ?_)))
   ·
    refine R_w rfl rfl rfl (E_move ?_)
    refine R_w rfl rfl rfl (E_makeFunc rfl rfl ?_)
    refine R_w rfl rfl rfl (E_call rfl (ContainsFunc_rows (p := fun x : List Int => decide (¬ isR x n)) (Abides.below H.below hg) ⟨184, #[], #[.pointer (some ⟨b3, 0, none⟩)], rfl, by kernel_rfl, fun w' x u hb _ hu => gCheck1_ (Below.cell_some hb ((H.cell (b := b3) (o := 0)).trans rfl)) (Abides.below hb hu)⟩) ?_)
    rintro _ w1 ⟨rfl, hb⟩
    replace H := H.call0 hb; clear hb
    refine R_w rfl rfl rfl (E_notb rfl ?_)
    refine R_o rfl (E_pick rfl ?_)
    refine R_o rfl (E_assign (R_nil (C_ret ?_)))
    with_reducible repeat (first | refine thn_ret ?_ | refine inB_ret ?_ | refine noG_ret ?_)
    exact ret_one rfl rfl ⟨congrArg Value.bool (by
      first
        | (show (!(g.any fun x : List Int => decide (¬ isR x n))) = decide _
           rw [List.not_any_eq_all_not, Bool.eq_iff_iff, List.all_eq_true, decide_eq_true_iff]
           exact ⟨fun h => ⟨⟨by omega, by omega⟩, by omega, fun b hb => by have := h b hb; rw [Bool.not_eq_true'] at this; exact Decidable.of_not_not (of_decide_eq_false this)⟩, fun h b hb => by rw [Bool.not_eq_true']; exact decide_eq_false (fun hn => hn (h.2.2 b hb))⟩)
        | (symm; rw [show (_ : Bool) = false from rfl, decide_eq_false_iff_not]; intro h; have h4 := h.1; have h5 := h.2.1; omega)), H.below⟩
   ·
    refine R_p rfl rfl rfl ?_
    refine R_p rfl rfl rfl ?_
    refine R_p rfl rfl rfl ?_
    refine R_p rfl rfl rfl ?_
    refine R_o rfl (E_pick rfl ?_)
    refine R_o rfl (E_assign (R_nil (C_ret ?_)))
    with_reducible repeat (first | refine thn_ret ?_ | refine inB_ret ?_ | refine noG_ret ?_)
    exact ret_one rfl rfl ⟨congrArg Value.bool (by
      first
        | (show (!(g.any fun x : List Int => decide (¬ isR x n))) = decide _
           rw [List.not_any_eq_all_not, Bool.eq_iff_iff, List.all_eq_true, decide_eq_true_iff]
           exact ⟨fun h => ⟨⟨by omega, by omega⟩, by omega, fun b hb => by have := h b hb; rw [Bool.not_eq_true'] at this; exact Decidable.of_not_not (of_decide_eq_false this)⟩, fun h b hb => by rw [Bool.not_eq_true']; exact decide_eq_false (fun hn => hn (h.2.2 b hb))⟩)
        | (symm; rw [show (_ : Bool) = false from rfl, decide_eq_false_iff_not]; intro h; have h4 := h.1; have h5 := h.2.1; omega)), H.below⟩
  ·
   refine R_p rfl rfl rfl ?_
   refine R_p rfl rfl rfl ?_
   refine R_p rfl rfl rfl ?_
   refine R_o rfl (E_pick rfl ?_)
   refine R_o rfl (E_move (R_p rfl rfl rfl ?_))
   refine R_p rfl rfl rfl ?_
   refine R_p rfl rfl rfl ?_
   refine R_p rfl rfl rfl ?_
   refine R_o rfl (E_pick rfl ?_)
   refine R_o rfl (E_assign (R_nil (C_ret ?_)))
   with_reducible repeat (first | refine thn_ret ?_ | refine inB_ret ?_ | refine noG_ret ?_)
   exact ret_one rfl rfl ⟨congrArg Value.bool (by
     first
       | (show (!(g.any fun x : List Int => decide (¬ isR x n))) = decide _
          rw [List.not_any_eq_all_not, Bool.eq_iff_iff, List.all_eq_true, decide_eq_true_iff]
          exact ⟨fun h => ⟨⟨by omega, by omega⟩, by omega, fun b hb => by have := h b hb; rw [Bool.not_eq_true'] at this; exact Decidable.of_not_not (of_decide_eq_false this)⟩, fun h b hb => by rw [Bool.not_eq_true']; exact decide_eq_false (fun hn => hn (h.2.2 b hb))⟩)
       | (symm; rw [show (_ : Bool) = false from rfl, decide_eq_false_iff_not]; intro h; have h4 := h.1; have h5 := h.2.1; omega)), H.below⟩
 ·
  refine R_p rfl rfl rfl ?_
  refine R_p rfl rfl rfl ?_
  refine R_o rfl (E_pick rfl ?_)
  refine R_o rfl (E_move (R_p rfl rfl rfl ?_))
  refine R_p rfl rfl rfl ?_
  refine R_p rfl rfl rfl ?_
  refine R_o rfl (E_pick rfl ?_)
  refine R_o rfl (E_move (R_p rfl rfl rfl ?_))
  refine R_p rfl rfl rfl ?_
  refine R_p rfl rfl rfl ?_
  refine R_p rfl rfl rfl ?_
  refine R_o rfl (E_pick rfl ?_)
  refine R_o rfl (E_assign (R_nil (C_ret ?_)))
  with_reducible repeat (first | refine thn_ret ?_ | refine inB_ret ?_ | refine noG_ret ?_)
  exact ret_one rfl rfl ⟨congrArg Value.bool (by
    first
      | (show (!(g.any fun x : List Int => decide (¬ isR x n))) = decide _
         rw [List.not_any_eq_all_not, Bool.eq_iff_iff, List.all_eq_true, decide_eq_true_iff]
         exact ⟨fun h => ⟨⟨by omega, by omega⟩, by omega, fun b hb => by have := h b hb; rw [Bool.not_eq_true'] at this; exact Decidable.of_not_not (of_decide_eq_false this)⟩, fun h b hb => by rw [Bool.not_eq_true']; exact decide_eq_false (fun hn => hn (h.2.2 b hb))⟩)
      | (symm; rw [show (_ : Bool) = false from rfl, decide_eq_false_iff_not]; intro h; have h4 := h.1; have h5 := h.2.1; omega)), H.below⟩
def Xpr (E : List (Nat × Int)) (k : Nat) (vs : List Value) : Prop := ∃ p, E[k]? = some p ∧ vs = [.int .i64 p.1, .int .i64 p.2]
theorem edges1_ {w0 : World} {u : Value} {g : List (List Int)} {b1 : Nat} (hg : RdII w0 u g) :
   IterOk Tryz.prog 185 [.pointer (some ⟨b1, 0, none⟩)] w0 (edgesTo g g.length).length (Xpr (edgesTo g g.length)) (fun _ _ => []) (fun _ => [cl b1 23 [u]]) := by
 obtain ⟨A, c, rfl, hc1, hc2⟩ := hg.len
 intro l J JX W T hy hJ H
 replace H : Loc w0 W (cl b1 23 [.slice A g.length c] :: T) := H
 refine ret_of_C Tryz.func185 rfl rfl rfl ?_
 refine C_seq (C_region rfl (R_o rfl (E_load H rfl rfl ?_)))
 refine R_o rfl (E_len rfl ?_)
 refine R_o rfl (E_move (R_nil (C_block (C_loop (ds := []) [0, 7, 8, 9] (fun m_ ws w => ∃ (k : Nat) (hs : List (List Value)) (T : List HP), ws = [.func (.yield l) #[] #[], .slice A g.length c, .int .i64 g.length, .int .i64 k] ∧ m_ = g.length - k ∧ k ≤ g.length ∧ hs.length = (edgesTo g k).length ∧ J hs T ∧ Loc w0 w (cl b1 23 [.slice A g.length c] :: T)) (m := g.length) (by first | rfl | exact hd) ?_ ?_))))
 · exact ⟨0, [], T, rfl, by omega, by omega, rfl, hJ, H⟩
 intro m vs ρ₀ w hd hI
 clear H hJ T
 obtain ⟨k, hs0, T0, rfl, rfl, hk, hl0, hJ0, H⟩ := hI
 refine C_seq (C_region rfl (R_o rfl (E_lss rfl rfl ?_)))
 refine R_nil (C_seq (C_cond (t := 10) rfl (fun hlt => ?_) (fun hlt => ?_)))
 ·
  obtain ⟨x, hx⟩ := get_of (xs := g) (k := k) (by omega)
  refine C_skip (C_seq (C_block (C_seq (C_region rfl (R_o rfl (E_move (R_o rfl (E_idxr hg rfl rfl (by omega) (by omega) ?_))))))))
  refine R_o rfl (E_loadr hg H rfl hx ?_)
  intro u hu
  obtain ⟨Au, cu, rfl, hu1, hu2⟩ := hu.len
  refine R_o rfl (E_assign (R_o rfl (E_assign (R_nil (C_seq (C_region rfl (R_o rfl (E_move (R_o rfl (E_len rfl ?_))))))))))
  refine R_o rfl (E_move (R_nil (C_block (C_loop (ds := []) [0, 3, 7, 8, 9, 14, 15, 16] (fun m_ ws w => ∃ (j : Nat) (hs : List (List Value)) (T : List HP), ws = [.func (.yield l) #[] #[], .int .i64 k, .slice A g.length c, .int .i64 g.length, .int .i64 k, .slice Au x.length cu, .int .i64 x.length, .int .i64 j] ∧ m_ = x.length - j ∧ j ≤ x.length ∧ hs.length = (edgesTo g k).length + j ∧ J hs T ∧ Loc w0 w (cl b1 23 [.slice A g.length c] :: T)) (m := x.length) (by first | rfl | exact hd) ?_ ?_))))
  · exact ⟨0, hs0, T0, rfl, by omega, by omega, hl0, hJ0, H⟩
  intro m vs ρ₀ w hd hI
  clear H hJ0 T0
  obtain ⟨j, hs, T, rfl, rfl, hj, hl2, hJ, H⟩ := hI
  refine C_seq (C_region rfl (R_o rfl (E_lss rfl rfl ?_)))
  refine R_nil (C_seq (C_cond (t := 17) rfl (fun hlt2 => ?_) (fun hlt2 => ?_)))
  ·
   obtain ⟨z, hz⟩ := get_of (xs := x) (k := j) (by omega)
   obtain ⟨vs, hvs⟩ : ∃ vs, vs = [Value.int .i64 k, Value.int .i64 z] := ⟨_, rfl⟩
   refine C_skip (C_seq (C_block (C_seq (C_region rfl (R_o rfl (E_idxr hu rfl rfl (by omega) (by omega) ?_))))))
   refine R_o rfl (E_loadi hu H rfl hz ?_)
   refine R_o rfl (E_assign (R_nil (C_seq (C_region rfl (R_o rfl (E_move (R_o rfl (E_move (R_o rfl (E_move (R_o rfl (E_yield rfl (by rw [hvs]; rfl) (hy hs vs [cl b1 23 [.slice A g.length c]] w T (by rw [hl2]; exact lt_of_get (edges_get hx hz)) (by rw [hl2]; exact ⟨_, edges_get hx hz, hvs⟩) hJ H) ?_))))))))))))
   intro bb w1 hor
   refine R_o rfl (E_notb rfl ?_)
   refine R_nil (C_condb (t := 24) rfl (fun hnb => ?_) (fun hnb => ?_))
   ·
    obtain ⟨rfl, T2, hJ2, H2⟩ := hor.resolve_left (fun h => by rw [h.1] at hnb; cases hnb)
    refine C_ret ?_
    with_reducible repeat (first | refine thn_ret ?_ | refine inB_ret ?_ | refine noG_ret ?_)
    first
      | exact ret_none rfl hd ⟨hs ++ [vs], T2, .inr hJ2, H2⟩
      | exact end_none rfl hd ⟨hs0, T0, .inl ⟨by rw [hl0, hk], hJ0⟩, H⟩
   ·
    obtain ⟨rfl, T2, hJ2, H2⟩ := hor.resolve_right (fun h => by rw [h.1] at hnb; cases hnb)
    refine C_skip (C_region rfl (R_o rfl (E_add rfl rfl (by omega) ?_)))
    refine R_o rfl (E_move (R_nil ?_))
    exact ⟨hd, x.length - (j + 1), by omega, j + 1, hs ++ [vs], T2, rfl, rfl, by omega, by rw [List.length_append, hl2]; rfl, hJ2, H2⟩
  ·
   have hj : j = x.length := by omega
   refine C_exit ?_
   refine C_region rfl (R_o rfl (E_add rfl rfl (by omega) ?_))
   refine R_o rfl (E_move (R_nil ?_))
   exact ⟨hd, g.length - (k + 1), by omega, k + 1, hs, T, rfl, rfl, by omega, by rw [hl2, edgesTo_succ hx, List.length_append, List.length_map]; omega, hJ, H⟩
 ·
  have hk : k = g.length := by omega
  refine C_exit ?_
  with_reducible repeat (first | refine inB_normal ?_ | refine noG_normal ?_ | refine thn_exit ?_ | refine inB_exit ?_ | refine inB_pass rfl ?_)
  first
    | exact ret_none rfl hd ⟨hs ++ [vs], T2, .inr hJ2, H2⟩
    | exact end_none rfl hd ⟨hs0, T0, .inl ⟨by rw [hl0, hk], hJ0⟩, H⟩
theorem edges_ {w0 : World} {u : Value} (hu : u.oneCell' = true) :
   Ret Tryz.prog 157 [u] w0 (fun r w => ∃ b1, r = .func (.func 185) #[] #[.pointer (some ⟨b1, 0, none⟩)] ∧ Loc w0 w [cl b1 23 [u]]) := by
 refine ret_of_C Tryz.func157 rfl rfl rfl ?_
 have H := Loc.refl w0
 refine C_seq (C_region rfl (R_o rfl (E_box (cs := [u]) (cells_one hu) H ?_)))
 clear H; intro w b1 H
 refine R_o rfl (E_assign (R_nil (C_seq (C_region rfl (R_o rfl (E_makeFunc rfl rfl ?_))))))
 refine R_o rfl (E_assign (R_nil (C_ret ?_)))
 with_reducible repeat (first | refine thn_ret ?_ | refine inB_ret ?_ | refine noG_ret ?_)
 exact ret_one rfl rfl ⟨b1, rfl, H⟩
theorem E_indexa {P : Program} {yl : Bool} {ρ : Rg} {w : World} {ty : TypeId} {K : Value → World → Prop} {Z : List PanicEntry → World → Prop} {x y : Operand} {t len e : Nat} [ha : At P t len e 1] [Sc P e] {f : Nat → Int} {kk : IntKind} (i : Nat) (hx : ρ.ev x = .agg (tint len f).toArray) (hy : ρ.ev y = .int kk i) (hi : i < len)
   (k : K (.int .i64 (f i)) w) : E P yl ρ w (.index t x y) ty K Z := by
 obtain ⟨hu, inf, hinf, hsz⟩ := ha.inf
 have hp : (tint len f).toArray[i]? = some (.int .i64 (f i)) := by simpa using tint_get (n := len) hi
 exact E_of_run (by simp [execOp, Instr.index, hx, hy, asIntOf, run_underlying hu, run_sizeOf' hinf, hsz, hi, run_part_sc hp]) k
def nearB (E : List (Nat × Int)) (some : List Int) (k : Nat) : Bool := E.any fun p => decide (p.2 = (k : Int)) && decide ((p.1 : Int) ∈ some)
def nearV (g : List (List Int)) (some : List Int) : List Int := ((List.range 8).filter (nearB (edgesTo g g.length) some)).map (fun k : Nat => (k : Int))
def nearTo (g : List (List Int)) (some : List Int) (n : Nat) : List Int := ((List.range n).filter (nearB (edgesTo g g.length) some)).map (fun k : Nat => (k : Int))
theorem nearTo_step {g : List (List Int)} {some : List Int} {n : Nat} : nearTo g some (n + 1) = if nearB (edgesTo g g.length) some n = true then nearTo g some n ++ [(n : Int)] else nearTo g some n := by
 unfold nearTo
 rw [List.range_succ, List.filter_append]
 by_cases h : nearB (edgesTo g g.length) some n = true
 · rw [if_pos h, List.filter_cons_of_pos h, List.filter_nil, List.map_append]; rfl
 · rw [if_neg h, List.filter_cons_of_neg h, List.filter_nil, List.append_nil]
theorem nearTo_len (g : List (List Int)) (some : List Int) (n : Nat) : (nearTo g some n).length ≤ n := by
 unfold nearTo
 rw [List.length_map]
 exact Nat.le_trans (List.length_filter_le _ _) (by simp)
theorem near_step {E : List (Nat × Int)} {some : List Int} {n k : Nat} {p : Nat × Int} (hp : E[n]? = Option.some p) : nearB (E.take (n + 1)) some k = (nearB (E.take n) some k || (decide (p.2 = (k : Int)) && decide ((p.1 : Int) ∈ some))) := by
 unfold nearB
 rw [take_step hp, List.any_append]
 simp
def NearF (E : List (Nat × Int)) (some : List Int) (n : Nat) (f : Nat → Int) : Prop := ∀ k, k < 8 → f k = if nearB (E.take n) some k = true then 1 else 0
theorem NearF.in_ {E : List (Nat × Int)} {some : List Int} {n : Nat} {f : Nat → Int} {p : Nat × Int} (h : NearF E some n f) (hp : E[n]? = Option.some p) (hb : 0 ≤ p.2) (hm : (p.1 : Int) ∈ some) : NearF E some (n + 1) (upd f p.2.toNat 1) := fun k hk => by
 rw [near_step hp]
 unfold upd
 by_cases e : k = p.2.toNat
 · subst e
   rw [if_pos rfl, if_pos]
   simp only [Bool.or_eq_true, Bool.and_eq_true, decide_eq_true_eq]
   exact .inr ⟨by omega, hm⟩
 · rw [if_neg e, h k hk]
   have : ¬ p.2 = (k : Int) := by omega
   simp [this]
theorem NearF.out {E : List (Nat × Int)} {some : List Int} {n : Nat} {f : Nat → Int} {p : Nat × Int} (h : NearF E some n f) (hp : E[n]? = Option.some p) (hm : ¬ (p.1 : Int) ∈ some) : NearF E some (n + 1) f := fun k hk => by
 rw [near_step hp, h k hk]
 simp [hm]
theorem Near_ {w0 : World} {u v : Value} {g : List (List Int)} {n : Int} {sm : List Int} (hg : RdII w0 u g) (hsr : RdI w0 v sm) (hok : okGr g n) (hsm : isR sm g.length) :
   Ret Tryz.prog 115 [u, .int .i64 n, v] w0 (fun r w => ∃ x, r = .tuple #[x, .int .i64 0] ∧ Loc w0 w [rdv x (fun w => RdI w x (nearV g sm))]) := by
 refine ret_of_CM Tryz.func115 rfl rfl rfl ?_
 have H := Loc.refl w0
 obtain ⟨A, c, rfl, hc1, hc2⟩ := hg.len
 obtain ⟨B, d1, rfl, hd1, hd2⟩ := hsr.len
 refine C_seq (C_region rfl (R_o rfl (E_box (cs := [.slice B sm.length d1]) rfl H ?_)))
 clear H; intro w b5 H
 refine R_o rfl (E_assign (R_o rfl (E_assign (R_nil (C_seq (C_seq (C_region rfl (R_o rfl (E_move (R_o rfl (E_move (R_o rfl (E_call rfl (gCheck_ (Abides.below H.below hg)) ?_)))))))))))))
 rintro _ w1 ⟨rfl, hb⟩
 replace H := H.call0 hb; clear hb
 refine R_o rfl (E_not rfl ?_)
 refine R_o rfl (E_move (R_part (t := 17) rfl (fun h17 => ?_) (fun h17 => ?_)))
 ·
  exact absurd hok h17
 ·
  refine R_w rfl rfl rfl (E_load H rfl rfl ?_)
  refine R_w rfl rfl rfl (E_move ?_)
  refine R_w rfl rfl rfl (E_len rfl ?_)
  refine R_w rfl rfl rfl (E_call rfl (rises_ (Abides.below H.below hsr)) ?_)
  rintro _ w1 ⟨rfl, hb⟩
  replace H := H.call0 hb; clear hb
  refine R_w rfl rfl rfl (E_not rfl ?_)
  refine R_o rfl (E_pick rfl ?_)
  refine R_nil (C_cond (t := 23) rfl (fun h23 => ?_) (fun h23 => ?_))
  ·
   exact absurd hsm h23
  ·
   refine C_skip (C_seq (C_region rfl (R_o rfl (E_alloc H ?_))))
   clear H; intro w b8 H
   replace H := H.cle (cs' := tint 8 fun _ => 0) rfl
   refine R_nil (C_seq (C_seq (C_region rfl (R_o rfl (E_move (R_o rfl (E_call rfl (edges_ (u := .slice A g.length c) rfl) ?_)))))))
   rintro _ w1 ⟨b1, rfl, hc⟩
   replace H := H.call1 hc; clear hc
   refine R_nil (C_block (C_rangeFunc (ps := [26, 27]) rfl rfl (by rintro k vs ⟨x, _, rfl⟩; rfl) (edges1_ hg) (fun hs T => ∃ f, hs.length ≤ (edgesTo g g.length).length ∧ NearF (edgesTo g g.length) sm hs.length f ∧ T = cl b8 80 (tint 8 f) :: cl b5 22 [.slice B sm.length d1] :: []) (fun _ _ _ => False) H ⟨fun _ => 0, by simp, fun k hk => by simp [nearB], rfl⟩ ?_ ?_ ?_))
   ·
    intro l hs vs F W T hlt hX hJ H
    obtain ⟨p, hp, rfl⟩ := hX
    obtain ⟨f, hle, hf, rfl⟩ := hJ
    have hpm := edges_mem.1 (mem_of_get hp)
    obtain ⟨l0, hl0⟩ := get_of hpm.1
    rw [List.getD_eq_getElem?_getD, hl0] at hpm
    have hpb := (hok.2.2 l0 (mem_of_get hl0)).1 p.2 hpm.2
    have hn8 := hok.1
    have hltE := lt_of_get hp
    replace H : Loc w0 W (cl b8 80 (tint 8 f) :: cl b5 22 [.slice B sm.length d1] :: F) := H
    refine C_seq (C_region rfl (R_o rfl (E_assign (R_nil (C_region rfl (R_o rfl (E_assign (R_nil (⟨rfl, cl b8 80 (tint 8 f) :: cl b5 22 [.slice B sm.length d1] :: [], H, fun F w H => ?_⟩)))))))))
    replace H : Loc w0 w (cl b8 80 (tint 8 f) :: cl b5 22 [.slice B sm.length d1] :: F) := H
    refine C_block (C_seq (C_region rfl (R_o rfl (E_load H rfl rfl ?_))))
    refine R_o rfl (E_move (R_o rfl (E_call rfl (Contains_ints (Abides.below H.below hsr)) ?_)))
    rintro _ w1 ⟨rfl, hb⟩
    replace H := H.call0 hb; clear hb
    refine R_nil (C_cond (t := 30) rfl (fun hin => ?_) (fun hin => ?_))
    ·
     refine C_region rfl (R_o rfl (E_move (R_o rfl (E_idxa rfl rfl (by omega) (by omega) ?_))))
     refine R_n rfl (E_storet p.2.toNat H rfl rfl (by simp) (by omega) ?_)
     clear H; intro w H
     refine R_nil ?_
     with_reducible repeat (first | refine inB_normal ?_ | refine thn_exit ?_ | refine inB_exit ?_ | refine inB_pass rfl ?_)
     have hsl : (hs ++ [[Value.int .i64 p.1, Value.int .i64 p.2]]).length = hs.length + 1 := by simp
     rw [roundQ_normal, hsl]
     first
       | exact ⟨_, ⟨_, by omega, hf.in_ hp hpb.1 hin, rfl⟩, H⟩
       | exact ⟨_, ⟨_, by omega, hf.out hp hin, rfl⟩, H⟩
    ·
     refine C_skip ?_
     with_reducible repeat (first | refine inB_normal ?_ | refine thn_exit ?_ | refine inB_exit ?_ | refine inB_pass rfl ?_)
     have hsl : (hs ++ [[Value.int .i64 p.1, Value.int .i64 p.2]]).length = hs.length + 1 := by simp
     rw [roundQ_normal, hsl]
     first
       | exact ⟨_, ⟨_, by omega, hf.in_ hp hpb.1 hin, rfl⟩, H⟩
       | exact ⟨_, ⟨_, by omega, hf.out hp hin, rfl⟩, H⟩
   ·
    intro D hs T w hN hJ H
    obtain ⟨f, hle, hf, rfl⟩ := hJ
    rw [hN, NearF, List.take_length] at hf
    replace H : Loc w0 w (dfr D :: cl b1 23 [.slice A g.length c] :: cl b8 80 (tint 8 f) :: cl b5 22 [.slice B sm.length d1] :: []) := H
    refine C_seq (C_seq (C_region rfl (R_o rfl (E_loadw H rfl (by rfl) ?_))))
    refine R_o rfl (E_move (R_nil (C_block (C_loop (ds := [mark D]) [6, 33, 34] (fun m_ vs w => ∃ k : Nat, ∃ vo : Value, vs = [vo, .agg (tint 8 f).toArray, .int .i64 k] ∧ m_ = 8 - k ∧ k ≤ 8 ∧ (True) ∧ Loc w0 w [row 3 1 vo (nearTo g sm k).length (ints .i64 (nearTo g sm k)), mks [mark D]]) (m := 8) (by first | rfl | exact hd) ?_ ?_))))
    · replace H := nilRow 3 1 ((H.mks1.fr (mks [mark D])).fst)
      exact ⟨0, .slice none 0 0, rfl, by omega, by omega, trivial, H⟩
    intro m vs ρ₀ w hd hI
    clear H
    obtain ⟨k, vo, rfl, rfl, hk, hst, H⟩ := hI
    refine C_seq (C_region rfl (R_o rfl (E_lss rfl rfl ?_)))
    refine R_nil (C_seq (C_cond (t := 35) rfl (fun hlt => ?_) (fun hlt => ?_)))
    ·
     have hnl := nearTo_len g sm k
     have hf1 : k < 8 → (f k = 1 ↔ nearB (edgesTo g g.length) sm k = true) := fun h => by
       rw [hf k h]
       split
       · exact ⟨fun _ => by assumption, fun _ => rfl⟩
       · rename_i hx; exact ⟨fun h0 => by omega, fun h1 => absurd h1 hx⟩
     refine C_skip (C_seq (C_block (C_seq (C_region rfl (R_o rfl (E_move (R_o rfl (E_indexa (f := f) k rfl rfl (by omega) ?_))))))))
     refine R_o rfl (E_assign (R_o rfl (E_assign (R_nil (C_seq (C_region rfl (R_o rfl (E_move (R_o rfl (E_eql rfl rfl ?_))))))))))
     refine R_nil (C_cond (t := 39) rfl (fun h39 => ?_) (fun h39 => ?_))
     ·
      refine C_region rfl (R_o rfl (E_move (R_o rfl (E_move (R_o rfl (E_lit (vs := [.int .i64 k]) [.tmp 41] rfl rfl rfl rfl rfl H ?_))))))
      clear H; intro w b42 H
      refine R_o rfl (E_append1 (v := vo) (b := b42) (u := .int .i64 k) H rfl rfl rfl (by omega) (by omega) ?_)
      clear H; intro w v43 H
      refine R_o rfl (E_assign (R_nil (C_region rfl (R_o rfl (E_add rfl rfl (by omega) ?_)))))
      refine R_o rfl (E_move (R_nil ?_))
      first
        | (have e := nearTo_step.trans (if_pos ((hf1 (by omega)).1 h39))
           exact ⟨hd, 8 - (k + 1), by omega, k + 1, v43, rfl, rfl, by omega, trivial, by rw [e, List.length_append, ints_append]; exact H⟩)
        | (have e := nearTo_step.trans (if_neg fun h => h39 ((hf1 (by omega)).2 h))
           exact ⟨hd, 8 - (k + 1), by omega, k + 1, vo, rfl, rfl, by omega, trivial, by rw [e]; exact H⟩)
     ·
      refine C_skip (C_region rfl (R_o rfl (E_add rfl rfl (by omega) ?_)))
      refine R_o rfl (E_move (R_nil ?_))
      first
        | (have e := nearTo_step.trans (if_pos ((hf1 (by omega)).1 h39))
           exact ⟨hd, 8 - (k + 1), by omega, k + 1, v43, rfl, rfl, by omega, trivial, by rw [e, List.length_append, ints_append]; exact H⟩)
        | (have e := nearTo_step.trans (if_neg fun h => h39 ((hf1 (by omega)).2 h))
           exact ⟨hd, 8 - (k + 1), by omega, k + 1, vo, rfl, rfl, by omega, trivial, by rw [e]; exact H⟩)
    ·
     have hk : k = 8 := by omega
     obtain ⟨Ao, co, rfl, hco, hco2, _⟩ := H.len (v := vo)
     refine C_exit ?_
     refine C_seq (C_region rfl (R_o rfl (E_move (R_o rfl (E_call rfl (Clip_ints hco) ?_)))))
     rintro _ w1 ⟨rfl, hb⟩
     replace H := H.call0 hb; clear hb
     refine R_o rfl (E_assign (R_o rfl (E_assign (R_nil (C_ret ?_)))))
     with_reducible repeat (first | refine thn_ret ?_ | refine inB_ret ?_ | refine noG_ret ?_)
     refine retM_list (rs := [.tmp 6, .tmp 7]) (vs := [.slice Ao (nearTo g sm k).length (nearTo g sm k).length, .int .i64 0]) (w0 := w0) (L := [row 3 1 (.slice Ao (nearTo g sm k).length co) (nearTo g sm k).length (ints .i64 (nearTo g sm k))]) rfl (by show Loc w0 _ (mks ρ₀.d :: _); rw [hd]; exact H.o2) (fun w' _ => ⟨rfl, rfl, trivial⟩) fun w' H => ⟨_, rfl, ?_⟩
     rw [hk] at H ⊢
     exact H.rowOwn.ownClip.ownInts
   ·
    intro D c hs T w hJR H
    exact hJR.elim
end Go.Sl
