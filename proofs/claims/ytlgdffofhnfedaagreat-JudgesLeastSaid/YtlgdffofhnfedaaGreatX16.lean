/- ways to one more. -/
import Derived.Test.YtlgdffofhnfedaaGreatX15
set_option linter.unusedVariables false
set_option linter.unusedSimpArgs false
set_option maxRecDepth 10000
set_option maxHeartbeats 2000000
namespace Go.Sl
open Go.RowKit
open Go.Proofs
theorem begin_ {w0 : World} {u v : Value} {g : List (List Int)} {n : Int} {has : List Int} {fr : Nat} {x0 : Int} (hg : RdII w0 u g) (hh : RdI w0 v has) (hok : okGr g n) (hf : fits g has) (hfr : has[fr]? = some x0) :
   Ret Tryz.prog 192 [u, .int .i64 n, v, .int .i64 fr] w0 (fun r w => (x0 ≠ -1 ∧ r = .tuple #[.pointer none, .int .i64 1] ∧ Below w0.heap.size w0 w) ∨
     (x0 = -1 ∧ ∃ bS vh vw hold, r = .tuple #[.pointer (some ⟨bS, 0, none⟩), .int .i64 0] ∧ HoldF has has.length hold ∧ Loc w0 w [cl bS 220 (srC u vh vw (fun _ => 0) hold), wsl 3 vh has.length (ints .i64 has), row 3 1 vw 1 (ints .i64 [(fr : Int)])])) := by
 refine ret_of_C Tryz.func192 rfl rfl rfl ?_
 have H := Loc.refl w0
 obtain ⟨A, c, rfl, hc1, hc2⟩ := hg.len
 obtain ⟨B, d1, rfl, hd1, hd2⟩ := hh.len
 have hfl := hf.1
 have hg8 := hok.2.1
 have hfrl := lt_of_get hfr
 refine C_seq (C_region rfl (R_o rfl (E_assign (R_o rfl (E_assign (R_nil (C_seq (C_seq (C_region rfl (R_o rfl (E_move (R_o rfl (E_move (R_o rfl (E_move (R_o rfl (E_call rfl (Fits_ (Abides.below H.below hg) (Abides.below H.below hh) hok hf) ?_)))))))))))))))))
 rintro _ w1 ⟨rfl, hb⟩
 replace H := H.call0 hb; clear hb
 refine R_o rfl (E_notb rfl ?_)
 refine R_o rfl (E_move (R_partb (t := 18) rfl (fun h18 => ?_) (fun h18 => ?_)))
 ·
  cases h18
 ·
  refine R_w rfl rfl rfl (E_move ?_)
  refine R_w rfl rfl rfl (E_lss rfl rfl ?_)
  refine R_o rfl (E_pick rfl ?_)
  refine R_o rfl (E_move (R_part (t := 22) rfl (fun h22 => ?_) (fun h22 => ?_)))
  ·
   exact absurd h22 (by omega)
  ·
   refine R_w rfl rfl rfl (E_move ?_)
   refine R_w rfl rfl rfl (E_move ?_)
   refine R_w rfl rfl rfl (E_len rfl ?_)
   refine R_w rfl rfl rfl (E_geq rfl rfl ?_)
   refine R_o rfl (E_pick rfl ?_)
   refine R_o rfl (E_move (R_part (t := 28) rfl (fun h28 => ?_) (fun h28 => ?_)))
   ·
    exact absurd h28 (by omega)
   ·
    refine R_w rfl rfl rfl (E_move ?_)
    refine R_w rfl rfl rfl (E_move ?_)
    refine R_w rfl rfl rfl (E_idxr hh rfl rfl (by omega) (by omega) ?_)
    refine R_w rfl rfl rfl (E_loadi hh H rfl hfr ?_)
    refine R_w rfl rfl rfl (E_neq rfl rfl ?_)
    refine R_o rfl (E_pick rfl ?_)
    refine R_nil (C_cond (t := 34) rfl (fun h34 => ?_) (fun h34 => ?_))
    ·
     refine C_seq (C_region rfl (R_o rfl (E_assign (R_o rfl (E_assign (R_nil (C_ret ?_)))))))
     with_reducible repeat (first | refine thn_ret ?_ | refine inB_ret ?_ | refine noG_ret ?_ | refine jmp_ret ?_)
     first
       | exact ret_two rfl rfl (.inl ⟨h34, rfl, H.below⟩)
       | exact ret_two rfl hd (.inr ⟨Decidable.of_not_not h34, bS, _, _, _, rfl, by rw [hk] at hst; exact hst, H⟩)
    ·
     refine C_skip (C_seq (C_region rfl (R_o rfl (E_move (R_o rfl (E_move (R_o rfl (E_call rfl (Clone_ints (Abides.below H.below hh) (by omega)) ?_))))))))
     rintro v37 w1 hc
     replace H := H.call1 hc; clear hc
     obtain ⟨Ah, ch, rfl, hch, hch2, _⟩ := H.len (v := v37)
     refine R_o rfl (E_call rfl (Clip_ints hch) ?_)
     rintro _ w1 ⟨rfl, hb⟩
     replace H := H.call0 hb; clear hb
     replace H : Loc w0 w1 [wsl 3 (.slice Ah has.length has.length) has.length (ints .i64 has)] := H.rowOwn.ownClip
     refine R_o rfl (E_move (R_o rfl (E_lit (vs := [.int .i64 fr]) [.tmp 39] rfl rfl rfl rfl rfl H ?_)))
     clear H; intro w b40 H
     replace H := H.clRow (cap := 1) (ys := ints .i64 [(fr : Int)]) 1 1 (by omega) (by omega) rfl rfl
     refine R_o rfl (E_build (cs := srC (.slice A g.length c) (.slice Ah has.length has.length) (.slice (some ⟨b40, 0, none⟩) 1 1) (fun _ => 0) (fun _ => 0)) rfl ?_)
     refine R_o rfl (E_box (cs := srC (.slice A g.length c) (.slice Ah has.length has.length) (.slice (some ⟨b40, 0, none⟩) 1 1) (fun _ => 0) (fun _ => 0)) rfl H ?_)
     clear H; intro w bS H
     refine R_o rfl (E_assign (R_nil (C_seq (C_seq (C_region rfl (R_o rfl (E_move (R_o rfl (E_len rfl ?_)))))))))
     refine R_o rfl (E_move (R_nil (C_block (C_loop (ds := []) [10, 43, 44, 45] (fun m_ vs w => ∃ k : Nat, ∃ f : Nat → Int, vs = [.pointer (some ⟨bS, 0, none⟩), .slice B has.length d1, .int .i64 has.length, .int .i64 k] ∧ m_ = has.length - k ∧ k ≤ has.length ∧ (HoldF has k f) ∧ Loc w0 w [cl bS 220 (srC (.slice A g.length c) (.slice Ah has.length has.length) (.slice (some ⟨b40, 0, none⟩) 1 1) (fun _ => 0) f), wsl 3 (.slice Ah has.length has.length) has.length (ints .i64 has), row 3 1 (.slice (some ⟨b40, 0, none⟩) 1 1) 1 (ints .i64 [(fr : Int)])]) (m := has.length) (by first | rfl | exact hd) ?_ ?_))))
     · exact ⟨0, _, rfl, by omega, by omega, HoldF.zero has, H.o3⟩
     intro m vs ρ₀ w hd hI
     clear H
     obtain ⟨k, f, rfl, rfl, hk, hst, H⟩ := hI
     refine C_seq (C_region rfl (R_o rfl (E_lss rfl rfl ?_)))
     refine R_nil (C_seq (C_cond (t := 46) rfl (fun hlt => ?_) (fun hlt => ?_)))
     ·
      obtain ⟨x, hx⟩ := get_of (xs := has) (k := k) (by omega)
      have hxb : x ≠ -1 → 0 ≤ x ∧ x < 8 := fun h => by
        have := hf.2.1 k x hx h
        obtain ⟨l0, hl0⟩ := get_of (xs := g) (k := k) (by omega)
        rw [List.getD_eq_getElem?_getD, hl0] at this
        have := (hok.2.2 l0 (mem_of_get hl0)).1 x this; have := hok.1; omega
      refine C_skip (C_seq (C_block (C_seq (C_region rfl (R_o rfl (E_move (R_o rfl (E_idxr hh rfl rfl (by omega) (by omega) ?_))))))))
      refine R_o rfl (E_loadi hh H rfl hx ?_)
      refine R_o rfl (E_assign (R_o rfl (E_assign (R_nil (C_seq (C_region rfl (R_o rfl (E_move (R_o rfl (E_neq rfl rfl ?_))))))))))
      refine R_nil (C_cond (t := 51) rfl (fun h51 => ?_) (fun h51 => ?_))
      ·
       have hxb2 := hxb h51
       have hx' : has[k]? = some ((x.toNat : Nat) : Int) := by rw [hx]; congr 1; omega
       refine C_region rfl (R_o rfl (E_move (R_o rfl (E_move (R_o rfl (E_move (R_o rfl (E_add rfl rfl (by omega) ?_))))))))
       refine R_o rfl (E_nilCheck rfl ?_)
       refine R_o rfl (E_fieldAddr rfl ?_)
       refine R_o rfl (E_idxa rfl rfl (by omega) (by omega) ?_)
       refine R_n rfl (E_storep (11 + x.toNat) (.int .i64 ((k : Int) + 1)) _ H rfl (by omega) rfl rfl (by simp; omega) (srC_set_hold (by omega) _) ?_)
       clear H; intro w H
       refine R_nil (C_region rfl (R_o rfl (E_add rfl rfl (by omega) ?_)))
       refine R_o rfl (E_move (R_nil ?_))
       first
         | exact ⟨hd, has.length - (k + 1), by omega, k + 1, f, rfl, rfl, by omega, hst.skip (by rw [← Decidable.of_not_not h51]; exact hx), H⟩
         | exact ⟨hd, has.length - (k + 1), by omega, k + 1, _, rfl, rfl, by omega, hst.put hx', H⟩
      ·
       refine C_skip (C_region rfl (R_o rfl (E_add rfl rfl (by omega) ?_)))
       refine R_o rfl (E_move (R_nil ?_))
       first
         | exact ⟨hd, has.length - (k + 1), by omega, k + 1, f, rfl, rfl, by omega, hst.skip (by rw [← Decidable.of_not_not h51]; exact hx), H⟩
         | exact ⟨hd, has.length - (k + 1), by omega, k + 1, _, rfl, rfl, by omega, hst.put hx', H⟩
     ·
      have hk : k = has.length := by omega
      refine C_exit ?_
      refine C_seq (C_region rfl (R_o rfl (E_move (R_o rfl (E_assign (R_o rfl (E_assign (R_nil (C_ret ?_)))))))))
      with_reducible repeat (first | refine thn_ret ?_ | refine inB_ret ?_ | refine noG_ret ?_ | refine jmp_ret ?_)
      first
        | exact ret_two rfl rfl (.inl ⟨h34, rfl, H.below⟩)
        | exact ret_two rfl hd (.inr ⟨Decidable.of_not_not h34, bS, _, _, _, rfl, by rw [hk] at hst; exact hst, H⟩)
theorem Loc.o2L {w0 w : World} {L L1 L2 : List HP} {A B : HP} (h : Loc w0 w L) [h1 : Pq L A L1] [h2 : Pq L1 B L2] : Loc w0 w (A :: B :: L2) := h.perm (h1.perm.trans (.cons _ h2.perm))
theorem goes_ {w0 w : World} {L : List HP} {bS : Nat} {gv vh vw : Value} {g : List (List Int)} {n : Int} {has : List Int} {fr : Nat} {hold : Nat → Int} (hg : RdII w0 gv g) (hok : okGr g n) (hf : fits g has) (hh : HoldF has has.length hold) (hz : has[fr]? = some (-1))
   (H : Loc w0 w (cl bS 220 (srC gv vh vw (fun _ => 0) hold) :: row 3 1 vw 1 (ints .i64 [(fr : Int)]) :: L)) :
   Ret Tryz.prog 193 [.pointer (some ⟨bS, 0, none⟩), .bool false] w (fun r w' => ∃ W by_ vw', Srch g has fr W by_ ∧ Loc w0 w' (cl bS 220 (srC gv vh vw' by_ hold) :: row 3 1 vw' W.length (ints .i64 W) :: L) ∧
     (r = .tuple #[.int .i64 0, .bool false] ∨ ∃ (k m : Nat) (y : Int), r = .tuple #[.int .i64 k, .bool true] ∧ k < 8 ∧ W[m]? = some y ∧ by_ k = y + 1 ∧ (k : Int) ∈ g.getD y.toNat [] ∧ hold k = 0)) := by
 refine ret_of_C Tryz.func193 rfl rfl rfl ?_
 obtain ⟨A, c, rfl, hc1, hc2⟩ := hg.len
 have hfl := hf.1
 have hg8 := hok.2.1
 have hfrl := lt_of_get hz
 have hS0 := Srch.zero (g := g) hz (by omega)
 refine C_seq (C_region rfl (R_o rfl (E_assign (R_o rfl (E_assign (R_nil (C_jumpr (ds := []) 0 [4] (fun vs w => ∃ (W : List Int) (by_ : Nat → Int) (vv : Value) (k m : Nat) (y : Int), vs = [.int .i64 k] ∧ Srch g has fr W by_ ∧ Loc w0 w (cl bS 220 (srC (.slice A g.length c) vh vv by_ hold) :: row 3 1 vv W.length (ints .i64 W) :: L) ∧ k < 8 ∧ W[m]? = some y ∧ by_ k = y + 1 ∧ (k : Int) ∈ g.getD y.toNat [] ∧ hold k = 0) rfl ?_ ?_)))))))
 ·
  refine C_seq (C_seq (C_region rfl (R_o rfl (E_assign (R_nil (C_block (C_loop (ds := []) [0, 1, 6] (fun m_ vs w => ∃ (n1 : Nat) (W : List Int) (by_ : Nat → Int) (vv : Value), vs = [.pointer (some ⟨bS, 0, none⟩), .bool false, .int .i64 n1] ∧ m_ = 9 - n1 ∧ n1 ≤ W.length ∧ Srch g has fr W by_ ∧ Loc w0 w (cl bS 220 (srC (.slice A g.length c) vh vv by_ hold) :: row 3 1 vv W.length (ints .i64 W) :: L)) (m := 9) (by first | rfl | exact hd) ?_ ?_)))))))
  · exact ⟨0, [(fr : Int)], fun _ => 0, vw, rfl, rfl, by omega, hS0, H⟩
  intro m vs ρ₀ w hd hI
  clear H
  obtain ⟨n1, W, by_, vv, rfl, rfl, hn1, hS, H⟩ := hI
  have hW8 := hS.len hg8
  refine C_seq (C_seq (C_region rfl (R_o rfl (E_move (R_o rfl (E_move (R_o rfl (E_nilCheck rfl ?_))))))))
  refine R_o rfl (E_fieldAddr rfl ?_)
  refine R_o rfl (E_loadp 2 vv H rfl rfl rfl ?_)
  refine R_o rfl (E_lenw (v := vv) H rfl ?_)
  refine R_o rfl (E_lss rfl rfl ?_)
  refine R_nil (C_cond (t := 15) rfl (fun hlt => ?_) (fun hlt => ?_))
  ·
   obtain ⟨y, hy⟩ := get_of (xs := W) (k := n1) (by omega)
   have hyr := hS.rng y (mem_of_get hy)
   obtain ⟨l0, hl0⟩ := get_of (xs := g) (k := y.toNat) (by omega)
   have hl8 := hok.2.2 l0 (mem_of_get hl0)
   refine C_skip (C_seq (C_block (C_seq (C_drawL [] H (by kernel_rfl) (fun w H => ?_)))))
   refine D_takeT 0 rfl rfl rfl (by kernel_rfl) (fun w K Z kk => E_move kk) ?_
   refine D_nil 1 rfl rfl rfl (by kernel_rfl) ?_
   refine D_takeT 2 rfl rfl rfl (by kernel_rfl) (fun w K Z kk => E_fieldAddr rfl kk) ?_
   obtain ⟨u, hca, hu⟩ := hg.at hl0
   obtain ⟨Au, cu, rfl, hu1, hu2⟩ := hu.len
   refine D_take 3 rfl rfl rfl (by kernel_rfl) (by first | exact H | exact H.drop | exact H.drop.drop | exact H.drop.drop.drop | exact H.drop.drop.drop.drop) (fun w HS K Z kk => E_loadp 0 (.slice A g.length c) HS rfl rfl rfl kk) ?_
   refine D_takeT 4 rfl rfl rfl (by kernel_rfl) (fun w K Z kk => E_move kk) ?_
   refine D_nil 5 rfl rfl rfl (by kernel_rfl) ?_
   refine D_takeT 6 rfl rfl rfl (by kernel_rfl) (fun w K Z kk => E_fieldAddr rfl kk) ?_
   refine D_take 7 rfl rfl rfl (by kernel_rfl) (by first | exact H | exact H.drop | exact H.drop.drop | exact H.drop.drop.drop | exact H.drop.drop.drop.drop) (fun w HS K Z kk => E_loadp 2 vv HS rfl rfl rfl kk) ?_
   refine D_takeT 8 rfl rfl rfl (by kernel_rfl) (fun w K Z kk => E_move kk) ?_
   refine D_take 9 rfl rfl rfl (by kernel_rfl) (by first | exact H | exact H.drop | exact H.drop.drop | exact H.drop.drop.drop | exact H.drop.drop.drop.drop) (fun w HS K Z kk => E_idxw (v := vv) HS rfl rfl (by omega) (by omega) kk) ?_
   refine D_take 10 rfl rfl rfl (by kernel_rfl) (by first | exact H | exact H.drop | exact H.drop.drop | exact H.drop.drop.drop | exact H.drop.drop.drop.drop) (fun w HS K Z kk => E_loadw' (v := vv) HS rfl (ints_get .i64 W n1 y hy) kk) ?_
   refine D_takeT 11 rfl rfl rfl (by kernel_rfl) (fun w K Z kk => E_idxr hg rfl rfl (by omega) (by omega) kk) ?_
   refine D_take 12 rfl rfl rfl (by kernel_rfl) (by first | exact H | exact H.drop | exact H.drop.drop | exact H.drop.drop.drop | exact H.drop.drop.drop.drop) (fun w HS K Z kk => E_loadc hca HS rfl kk) ?_
   refine D_takeT 13 rfl rfl rfl (by kernel_rfl) (fun w K Z kk => E_len rfl kk) ?_
   refine D_takeT 14 rfl rfl rfl (by kernel_rfl) (fun w K Z kk => E_move kk) ?_
   refine D_done (by kernel_rfl) ?_
   refine C_block (C_loop (ds := []) [0, 1, 6, 30, 31, 32] (fun m_ vs w => ∃ (j : Nat) (W : List Int) (by_ : Nat → Int) (vv : Value), vs = [.pointer (some ⟨bS, 0, none⟩), .bool false, .int .i64 n1, .slice Au l0.length cu, .int .i64 l0.length, .int .i64 j] ∧ m_ = l0.length - j ∧ j ≤ l0.length ∧ W[n1]? = some y ∧ Srch g has fr W by_ ∧ Loc w0 w (cl bS 220 (srC (.slice A g.length c) vh vv by_ hold) :: row 3 1 vv W.length (ints .i64 W) :: L)) (m := l0.length) (by first | rfl | exact hd) ?_ ?_)
   · exact ⟨0, W, by_, vv, rfl, rfl, by omega, hy, hS, H⟩
   intro m vs ρ₀ w hd hI
   clear H hS hW8 hlt hy hn1
   obtain ⟨j, W, by_, vv, rfl, rfl, hj, hy, hS, H⟩ := hI
   have hW8 := hS.len hg8
   have hn1 := lt_of_get hy
   refine C_seq (C_region rfl (R_o rfl (E_lss rfl rfl ?_)))
   refine R_nil (C_seq (C_cond (t := 33) rfl (fun hlt2 => ?_) (fun hlt2 => ?_)))
   ·
    obtain ⟨x, hx⟩ := get_of (xs := l0) (k := j) (by omega)
    have hxb := hl8.1 x (mem_of_get hx)
    have hn8 := hok.1
    have hxn : ((x.toNat : Nat) : Int) = x := by omega
    refine C_skip (C_seq (C_block (C_seq (C_region rfl (R_o rfl (E_idxr hu rfl rfl (by omega) (by omega) ?_))))))
    refine R_o rfl (E_loadi hu H rfl hx ?_)
    refine R_o rfl (E_assign (R_nil (C_seq (C_seq (C_region rfl (R_o rfl (E_move (R_o rfl (E_move (R_o rfl (E_nilCheck rfl ?_)))))))))))
    refine R_o rfl (E_fieldAddr rfl ?_)
    refine R_o rfl (E_idxa rfl rfl (by omega) (by omega) ?_)
    refine R_o rfl (E_loadp (3 + x.toNat) (.int .i64 (by_ x.toNat)) H rfl (by omega) (srC_by (by omega)) ?_)
    refine R_o rfl (E_gtr rfl rfl ?_)
    refine R_nil (C_cond (t := 42) rfl (fun h42 => ?_) (fun h42 => ?_))
    ·
     refine C_exit ?_
     refine C_region rfl (R_o rfl (E_add rfl rfl (by omega) ?_))
     refine R_o rfl (E_move (R_nil ?_))
     first
       | exact ⟨hd, l0.length - (j + 1), by omega, j + 1, W, by_, vv, rfl, rfl, by omega, hy, hS, H⟩
       | exact ⟨hd, l0.length - (j + 1), by omega, j + 1, W ++ [hold x.toNat - 1], _, v76, rfl, rfl, by omega, by rw [List.getElem?_append_left hn1]; exact hy, hmo, by rw [show (W ++ [hold x.toNat - 1]).length = W.length + 1 by simp, ints_snoc]; exact H.o2L⟩
    ·
     have hh0 : ¬ 0 < hold x.toNat → hold x.toNat = 0 := fun h => by
       rcases hh x.toNat (by omega) with ⟨e, _⟩ | ⟨i, _, e, _⟩ <;> omega
     have hmo0 : 0 < hold x.toNat → Srch g has fr (W ++ [hold x.toNat - 1]) (upd by_ x.toNat (y + 1)) := fun h => by
       rcases hh x.toNat (by omega) with ⟨e, _⟩ | ⟨i, hi, e, he⟩
       · omega
       · rw [e, Int.add_sub_cancel]
         exact hS.more (by omega) h42 hy (by rw [hxn, List.getD_eq_getElem?_getD, hl0]; exact mem_of_get hx) he (by omega)
     refine C_skip (C_seq (C_drawL [13] H (by kernel_rfl) (fun w H => ?_)))
     refine D_takeT 0 rfl rfl rfl (by kernel_rfl) (fun w K Z kk => E_move kk) ?_
     refine D_takeT 1 rfl rfl rfl (by kernel_rfl) (fun w K Z kk => E_move kk) ?_
     refine D_takeT 2 rfl rfl rfl (by kernel_rfl) (fun w K Z kk => E_move kk) ?_
     refine D_nil 3 rfl rfl rfl (by kernel_rfl) ?_
     refine D_takeT 4 rfl rfl rfl (by kernel_rfl) (fun w K Z kk => E_fieldAddr rfl kk) ?_
     refine D_take 5 rfl rfl rfl (by kernel_rfl) (by first | exact H | exact H.drop | exact H.drop.drop | exact H.drop.drop.drop | exact H.drop.drop.drop.drop) (fun w HS K Z kk => E_loadp 2 vv HS rfl rfl rfl kk) ?_
     refine D_takeT 6 rfl rfl rfl (by kernel_rfl) (fun w K Z kk => E_move kk) ?_
     refine D_take 7 rfl rfl rfl (by kernel_rfl) (by first | exact H | exact H.drop | exact H.drop.drop | exact H.drop.drop.drop | exact H.drop.drop.drop.drop) (fun w HS K Z kk => E_idxw (v := vv) HS rfl rfl (by omega) (by omega) kk) ?_
     refine D_take 8 rfl rfl rfl (by kernel_rfl) (by first | exact H | exact H.drop | exact H.drop.drop | exact H.drop.drop.drop | exact H.drop.drop.drop.drop) (fun w HS K Z kk => E_loadw' (v := vv) HS rfl (ints_get .i64 W n1 y hy) kk) ?_
     refine D_takeT 9 rfl rfl rfl (by kernel_rfl) (fun w K Z kk => E_add rfl rfl (by omega) kk) ?_
     refine D_nil 10 rfl rfl rfl (by kernel_rfl) ?_
     refine D_takeT 11 rfl rfl rfl (by kernel_rfl) (fun w K Z kk => E_fieldAddr rfl kk) ?_
     refine D_takeT 12 rfl rfl rfl (by kernel_rfl) (fun w K Z kk => E_idxa rfl rfl (by omega) (by omega) kk) ?_
     refine D_actn 13 rfl (by kernel_rfl) (E_storep (3 + x.toNat) (.int .i64 (y + 1)) _ H rfl (by omega) rfl rfl (by simp; omega) (srC_set_by (by omega) _) ?_)
     clear H; intro w H
     refine ⟨fun h => Bool.noConfusion (h : true = false), ?_⟩
     refine D_done (by kernel_rfl) ?_
     refine C_seq (C_seq (C_region rfl (R_o rfl (E_move (R_o rfl (E_move (R_o rfl (E_nilCheck rfl ?_))))))))
     refine R_o rfl (E_fieldAddr rfl ?_)
     refine R_o rfl (E_idxa rfl rfl (by omega) (by omega) ?_)
     refine R_o rfl (E_loadp (11 + x.toNat) (.int .i64 (hold x.toNat)) H rfl (by omega) (srC_hold (by omega)) ?_)
     refine R_o rfl (E_gtr rfl rfl ?_)
     refine R_nil (C_cond (t := 62) rfl (fun h62 => ?_) (fun h62 => ?_))
     ·
      have hmo := hmo0 h62
      have hhb : hold x.toNat ≤ 9 := by rcases hh x.toNat (by omega) with ⟨e, _⟩ | ⟨i, hi, e, he⟩ <;> omega
      refine C_seq (C_drawS [16] [cl bS 220 (srC (.slice A g.length c) vh vv (upd by_ x.toNat (y + 1)) hold)] H (by kernel_rfl) (fun w H => ?_))
      refine D_takeT 0 rfl rfl rfl (by kernel_rfl) (fun w K Z kk => E_move kk) ?_
      refine D_takeT 1 rfl rfl rfl (by kernel_rfl) (fun w K Z kk => E_move kk) ?_
      refine D_nil 2 rfl rfl rfl (by kernel_rfl) ?_
      refine D_takeT 3 rfl rfl rfl (by kernel_rfl) (fun w K Z kk => E_fieldAddr rfl kk) ?_
      refine D_take 4 rfl rfl rfl (by kernel_rfl) H.o1 (fun w HS K Z kk => E_loadp 2 vv HS rfl rfl rfl kk) ?_
      refine D_takeT 5 rfl rfl rfl (by kernel_rfl) (fun w K Z kk => E_move kk) ?_
      refine D_takeT 6 rfl rfl rfl (by kernel_rfl) (fun w K Z kk => E_move kk) ?_
      refine D_nil 7 rfl rfl rfl (by kernel_rfl) ?_
      refine D_takeT 8 rfl rfl rfl (by kernel_rfl) (fun w K Z kk => E_fieldAddr rfl kk) ?_
      refine D_takeT 9 rfl rfl rfl (by kernel_rfl) (fun w K Z kk => E_idxa rfl rfl (by omega) (by omega) kk) ?_
      refine D_take 10 rfl rfl rfl (by kernel_rfl) H.o1 (fun w HS K Z kk => E_loadp (11 + x.toNat) (.int .i64 (hold x.toNat)) HS rfl (by omega) (srC_hold (by omega)) kk) ?_
      refine D_takeT 11 rfl rfl rfl (by kernel_rfl) (fun w K Z kk => E_sub rfl rfl (by omega) kk) ?_
      refine D_act 12 rfl rfl (by kernel_rfl) (E_lit (vs := [.int .i64 (hold x.toNat - 1)]) [.tmp 74] rfl rfl rfl rfl rfl H ?_)
      clear H; intro w b75 H
      refine ⟨fun _ _ => H.o1, ?_⟩
      refine D_act 13 rfl rfl (by kernel_rfl) (E_append1 (v := vv) (b := b75) (u := .int .i64 (hold x.toNat - 1)) H rfl rfl rfl (by omega) (by omega) ?_)
      clear H; intro w v76 H
      refine ⟨fun _ _ => H.o1, ?_⟩
      refine D_nil 14 rfl rfl rfl (by kernel_rfl) ?_
      refine D_takeT 15 rfl rfl rfl (by kernel_rfl) (fun w K Z kk => E_fieldAddr rfl kk) ?_
      have hv76 : v76.oneCell' = true := by obtain ⟨_, _, e, _⟩ := H.len (v := v76); rw [e]; rfl
      refine D_actn 16 rfl (by kernel_rfl) (E_storep 2 v76 _ H rfl rfl rfl hv76 (by simp) (srC_set_w _) ?_)
      clear H; intro w H
      refine ⟨fun h => Bool.noConfusion (h : true = false), ?_⟩
      refine D_done (by kernel_rfl) ?_
      refine C_exit ?_
      refine C_region rfl (R_o rfl (E_add rfl rfl (by omega) ?_))
      refine R_o rfl (E_move (R_nil ?_))
      first
        | exact ⟨hd, l0.length - (j + 1), by omega, j + 1, W, by_, vv, rfl, rfl, by omega, hy, hS, H⟩
        | exact ⟨hd, l0.length - (j + 1), by omega, j + 1, W ++ [hold x.toNat - 1], _, v76, rfl, rfl, by omega, by rw [List.getElem?_append_left hn1]; exact hy, hmo, by rw [show (W ++ [hold x.toNat - 1]).length = W.length + 1 by simp, ints_snoc]; exact H.o2L⟩
     ·
      refine C_skip (C_seq (C_region rfl (R_o rfl (E_move (R_o rfl (E_notb rfl ?_))))))
      refine R_nil (C_true (t := 80) rfl ?_)
      refine C_seq (C_region rfl (R_o rfl (E_move (R_o rfl (E_assign (R_nil (C_goto ?_)))))))
      with_reducible repeat (first | refine thn_goto ?_ | refine inB_goto ?_)
      refine jmp_goto ?_
      exact ⟨hd, W, upd by_ x.toNat (y + 1), vv, x.toNat, n1, y, by rw [hxn]; rfl, hS.visit h42, H.o2L, by omega, hy, if_pos rfl, by rw [hxn, List.getD_eq_getElem?_getD, hl0]; exact mem_of_get hx, hh0 h62⟩
   ·
    have hj2 : j = l0.length := by omega
    refine C_exit ?_
    refine C_region rfl (R_o rfl (E_move (R_o rfl (E_add rfl rfl (by omega) ?_))))
    refine R_o rfl (E_assign (R_nil ?_))
    exact ⟨hd, 9 - (n1 + 1), by omega, n1 + 1, W, by_, vv, rfl, rfl, by omega, hS, H⟩
  ·
   skip
   refine C_exit ?_
   refine C_seq (C_seq (C_region rfl (R_o rfl (E_assign (R_o rfl (E_assign (R_nil (C_ret ?_))))))))
   with_reducible repeat (first | refine thn_ret ?_ | refine inB_ret ?_ | refine noG_ret ?_ | refine jmp_ret ?_)
   first
     | exact ret_two rfl hd ⟨W, by_, vv, hS, H, .inl rfl⟩
     | exact ret_two rfl hd ⟨W, by_, vv, hS, H, .inr ⟨q, m, y, rfl, f1, f2, f3, f4, f5⟩⟩
 ·
  intro vs ρ₀ w hd hI
  clear H
  obtain ⟨W, by_, vv, q, m, y, rfl, hS, H, f1, f2, f3, f4, f5⟩ := hI
  refine C_seq (C_skip (C_seq (C_region rfl (R_o rfl (E_move (R_o rfl (E_assign (R_o rfl (E_assign (R_nil (C_ret ?_)))))))))))
  with_reducible repeat (first | refine thn_ret ?_ | refine inB_ret ?_ | refine noG_ret ?_ | refine jmp_ret ?_)
  first
    | exact ret_two rfl hd ⟨W, by_, vv, hS, H, .inl rfl⟩
    | exact ret_two rfl hd ⟨W, by_, vv, hS, H, .inr ⟨q, m, y, rfl, f1, f2, f3, f4, f5⟩⟩
end Go.Sl
