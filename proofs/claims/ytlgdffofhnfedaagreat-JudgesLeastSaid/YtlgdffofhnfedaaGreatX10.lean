/- firsts.First. -/
import Derived.Test.YtlgdffofhnfedaaGreatX9
set_option linter.unusedVariables false
set_option linter.unusedSimpArgs false
set_option maxRecDepth 10000
set_option maxHeartbeats 2000000
namespace Go.Sl
open Go.RowKit
open Go.Proofs
theorem behind_ {w0 : World} {b d q : Nat} {v : Int} (hc : w0.cell? ⟨b, d * 256 + q, none⟩ = some (.int .i64 v)) (hd : d < 9) (hq : q < 256) :
   Ret Tryz.prog 67 [.pointer (some ⟨b, 0, none⟩), .int .i64 d, .int .i64 q] w0 (fun u w => u = .int .i64 v ∧ Below w0.heap.size w0 w) := by
 refine ret_of_C Tryz.func67 rfl rfl rfl ?_
 have H := Loc.refl w0
 refine C_seq (C_region rfl (R_o rfl (E_assign (R_nil (C_seq (C_region rfl (R_o rfl (E_move (R_o rfl (E_move (R_o rfl (E_move (R_o rfl (E_nilCheck rfl ?_))))))))))))))
 refine R_o rfl (E_idxa rfl rfl (by omega) (by omega) ?_)
 refine R_o rfl (E_idxa rfl rfl (by omega) (by omega) ?_)
 refine R_o rfl (E_load_cell (v := .int .i64 v) (a := ⟨b, 0 + (d : Int).toNat * 256 + (q : Int).toNat * 1, none⟩) rfl (by rw [show 0 + (d : Int).toNat * 256 + (q : Int).toNat * 1 = d * 256 + q by omega]; exact Below.cell_some H.below hc) ?_)
 refine R_o rfl (E_assign (R_nil (C_ret ?_)))
 with_reducible repeat (first | refine thn_ret ?_ | refine inB_ret ?_ | refine noG_ret ?_)
 exact ret_one rfl rfl ⟨rfl, H.below⟩
def HasTo (n : Nat) (o : List Nat) (s h : Nat → Int) (d : Nat) : Prop := ∀ i, i < n → h i = if i ∈ o.take d then s i else 0
theorem HasTo.step {n d who : Nat} {o : List Nat} {s h h2 : Nat → Int} {v : Int} (hh : HasTo n o s h d) (hw : o[d]? = some who) (h2w : h2 who = v) (h2n : ∀ i, i ≠ who → h2 i = h i) : HasTo n o (upd s who v) h2 (d + 1) := by
 intro i hi
 rw [take_step hw]
 simp only [List.mem_append, List.mem_singleton]
 by_cases e : i = who
 · subst e; rw [h2w, if_pos (.inr rfl)]; simp [upd]
 · rw [h2n i e, hh i hi]
   by_cases e2 : i ∈ o.take d
   · rw [if_pos e2, if_pos (.inl e2)]; simp [upd, e]
   · rw [if_neg e2, if_neg (fun hc => hc.elim e2 e)]
theorem firstAt_some {g : List (List Int)} {items d k : Nat} {o : List Nat} (hk : k < items) (hp : isFirst (gv g) items (o.drop (d + 1)) (o.getD d 0) (firstAt g items o d).F (firstAt g items o d).want k)
   (hn : ∀ j, j < k → ¬ isFirst (gv g) items (o.drop (d + 1)) (o.getD d 0) (firstAt g items o d).F (firstAt g items o d).want j) :
   firstAt g items o (d + 1) = ⟨no (firstAt g items o d).F k, (firstAt g items o d).want - gv g (o.getD d 0) k, upd (firstAt g items o d).has (o.getD d 0) k⟩ := by
 rw [firstAt, firstStep, findK_some hk (decide_eq_true hp) fun j hj => decide_eq_false (hn j hj)]
theorem firstAt_none {g : List (List Int)} {items d : Nat} {o : List Nat} (hn : ∀ j, j < items → ¬ isFirst (gv g) items (o.drop (d + 1)) (o.getD d 0) (firstAt g items o d).F (firstAt g items o d).want j) :
   firstAt g items o (d + 1) = ⟨(firstAt g items o d).F, (firstAt g items o d).want, upd (firstAt g items o d).has (o.getD d 0) (-1)⟩ := by
 rw [firstAt, firstStep, findK_none fun j hj => decide_eq_false (hn j hj)]
structure FOk (g : List (List Int)) (items : Nat) (xs : List Int) (d q : Nat) : Prop where
 lt : q < 2 ^ items
 F : ∀ k, k < items → (firstAt g items (ordN xs) d).F k = !q.testBit k
 lo : 0 ≤ (firstAt g items (ordN xs) d).want
 hi : (firstAt g items (ordN xs) d).want ≤ 8000000
theorem FOk.isF {g : List (List Int)} {items : Nat} {xs : List Int} {d q k : Nat} {x : Int} {f : Nat → Int} (h : FOk g items xs d q) (hx : xs[d]? = some x) (hT : TabTo g items xs f 0) (hk : k < items) {W : Int} (hW : W = (firstAt g items (ordN xs) d).want) :
   isFirst (gv g) items ((ordN xs).drop (d + 1)) ((ordN xs).getD d 0) (firstAt g items (ordN xs) d).F (firstAt g items (ordN xs) d).want k ↔ (0 ≤ gv g x.toNat k ∧ (!q.testBit k) = true ∧ gv g x.toNat k + f ((d + 1) * 256 + (q ||| 2 ^ k)) = W) := by
 rw [hW]
 have hw : (ordN xs).getD d 0 = x.toNat := by rw [List.getD_eq_getElem?_getD, ordN_get hx]; rfl
 have hl := lt_of_get hx
 have e : f ((d + 1) * 256 + (q ||| 2 ^ k)) = optL (gv g) items ((ordN xs).drop (d + 1)) (no (firstAt g items (ordN xs) d).F k) := by
   rw [hT (d + 1) _ (by omega) (by omega) (or_lt h.lt hk)]
   unfold tv
   rw [tb_or]
   exact optL_congr fun j hj => by unfold no; rw [h.F j hj]
 unfold isFirst
 rw [hw, e, h.F k hk]
theorem FOk.zero {g : List (List Int)} {items : Nat} {n : Int} {xs : List Int} (hok : okG g n) (ho : okOrd xs g.length) : FOk g items xs 0 0 := by
 refine ⟨Nat.pow_pos (by omega), fun k hk => by simp [firstAt, first0], ?_, ?_⟩
 · show 0 ≤ bestV g items
   rw [best_ordN ho]; exact optL_nonneg _ _ _ _
 · show bestV g items ≤ 8000000
   rw [best_ordN ho]
   have h := optL_bound (m := items) (fun i k => (hok.gv_le i k).2) (ordN xs) (fun _ => true)
   have h2 : (ordN xs).length ≤ 8 := by unfold ordN; rw [List.length_map, okOrd_length ho]; exact hok.2.1
   omega
theorem FOk.none {g : List (List Int)} {items : Nat} {xs : List Int} {d q : Nat} (h : FOk g items xs d q)
   (hn : ∀ j, j < items → ¬ isFirst (gv g) items ((ordN xs).drop (d + 1)) ((ordN xs).getD d 0) (firstAt g items (ordN xs) d).F (firstAt g items (ordN xs) d).want j) : FOk g items xs (d + 1) q := by
 have e := firstAt_none hn
 exact ⟨h.lt, fun k hk => by rw [e]; exact h.F k hk, by rw [e]; exact h.lo, by rw [e]; exact h.hi⟩
theorem FOk.some {g : List (List Int)} {items : Nat} {n : Int} {xs : List Int} {d q k : Nat} (h : FOk g items xs d q) (hok : okG g n) (hl : xs.length ≤ 8) (hk : k < items) (hp : isFirst (gv g) items ((ordN xs).drop (d + 1)) ((ordN xs).getD d 0) (firstAt g items (ordN xs) d).F (firstAt g items (ordN xs) d).want k)
   (hn : ∀ j, j < k → ¬ isFirst (gv g) items ((ordN xs).drop (d + 1)) ((ordN xs).getD d 0) (firstAt g items (ordN xs) d).F (firstAt g items (ordN xs) d).want j) : FOk g items xs (d + 1) (q ||| 2 ^ k) := by
 have e := firstAt_some hk hp hn
 obtain ⟨h1, h2, h3⟩ := hp
 have h4 := optL_nonneg (gv g) items ((ordN xs).drop (d + 1)) (no (firstAt g items (ordN xs) d).F k)
 have h5 := h.hi
 refine ⟨or_lt h.lt hk, fun j hj => ?_, by rw [e]; show 0 ≤ _ - _; omega, by rw [e]; show _ - _ ≤ (8000000 : Int); omega⟩
 rw [e]
 have := congrFun (tb_or q k) j
 show no (firstAt g items (ordN xs) d).F k j = _
 rw [this]; unfold no; rw [h.F j hj]
theorem First_ {w0 : World} {gs os : Value} {g : List (List Int)} {xs : List Int} {items : Nat} (hg : RdII w0 gs g) (hos : RdI w0 os xs) (hok : okG g items) (ho : okOrd xs g.length) (hg1 : 0 < g.length) :
   Ret Tryz.prog 46 [gs, .int .i64 items, os] w0 (fun v w => ∃ u, v = .tuple #[u, .int .i64 0] ∧ Loc w0 w [rdv u (fun w => RdI w u (firstV g items (ordN xs)))]) := by
 refine ret_of_C Tryz.func46 rfl rfl rfl ?_
 have H := Loc.refl w0
 obtain ⟨A, c, rfl, hc1, hc2⟩ := hg.len
 obtain ⟨B, d1, rfl, hd1, hd2⟩ := hos.len
 have hxn := okOrd_length ho
 have hn8 := hok.2.1
 have hi8 := hok.1
 have hp := two_pow_le (n := items) (by omega)
 have hB : BestV g items = .tuple #[.int .i64 (bestV g items), .int .i64 0] := by unfold BestV; rw [if_pos hok]
 have hol : (ordN xs).length = g.length := by unfold ordN; rw [List.length_map]; exact hxn
 refine C_seq (C_region rfl (R_o rfl (E_assign (R_o rfl (E_assign (R_nil (C_seq (C_region rfl (R_o rfl (E_move (R_o rfl (E_move (R_o rfl (E_call rfl ((WBest_ hg (by omega)).mono (fun v w h => by rw [hB] at h; exact h)) ?_))))))))))))))
 rintro _ w1 ⟨rfl, hb⟩
 replace H := H.call0 hb; clear hb
 refine R_o rfl (E_move (R_o rfl (E_extract rfl rfl ?_)))
 refine R_o rfl (E_extract rfl rfl ?_)
 refine R_o rfl (E_assign (R_o rfl (E_assign (R_nil (C_seq (C_seq (C_region rfl (R_o rfl (E_move (R_o rfl (E_neq rfl rfl ?_)))))))))))
 refine R_o rfl (E_move (R_w rfl rfl rfl (E_move ?_)))
 refine R_w rfl rfl rfl (E_move ?_)
 refine R_w rfl rfl rfl (E_len rfl ?_)
 refine R_w rfl rfl rfl (E_call rfl (fiEach_ (Abides.below H.below hos) ho (by omega) hg1) ?_)
 rintro _ w1 ⟨rfl, hb⟩
 replace H := H.call0 hb; clear hb
 refine R_w rfl rfl rfl (E_notb rfl ?_)
 refine R_o rfl (E_pick rfl ?_)
 refine R_nil (C_false (t := 32) rfl ?_)
 refine C_skip (C_seq (C_region rfl (R_o rfl (E_alloc H ?_))))
 clear H; intro w b33 H
 rw [tint_const] at H
 refine R_o rfl (E_assign (R_nil (C_seq (C_region rfl (R_o rfl (E_move (R_o rfl (E_move (R_o rfl (E_move (R_o rfl (E_call rfl (fill_ hg hos hok ho H) ?_))))))))))))
 clear H; rintro v37 w ⟨f, hT, H⟩
 refine R_nil (C_seq (C_drawL [] H (by kernel_rfl) (fun w H => ?_)))
 refine D_takeT 0 rfl rfl rfl (by kernel_rfl) (fun w K Z kk => E_move kk) ?_
 refine D_takeT 1 rfl rfl rfl (by kernel_rfl) (fun w K Z kk => E_makeFunc (f := [.pointer (some ⟨b33, 0, none⟩)]) (c := []) rfl rfl kk) ?_
 refine D_takeT 2 rfl rfl rfl (by kernel_rfl) (fun w K Z kk => E_move kk) ?_
 refine D_takeT 3 rfl rfl rfl (by kernel_rfl) (fun w K Z kk => E_len rfl kk) ?_
 refine D_takeT 5 rfl rfl rfl (by kernel_rfl) (fun w K Z kk => E_assign kk) ?_
 refine D_takeT 6 rfl rfl rfl (by kernel_rfl) (fun w K Z kk => E_assign kk) ?_
 refine D_act 4 rfl rfl (by kernel_rfl) (E_maken g.length g.length H rfl rfl (by omega) (by omega) (by omega) ?_)
 clear H; intro w b42 H
 rw [tint_const] at H
 refine ⟨fun _ _ => (by first | exact H | exact H.drop | exact H.drop.drop | exact H.drop.drop.drop | exact H.drop.drop.drop.drop), ?_⟩
 refine D_takeT 7 rfl rfl rfl (by kernel_rfl) (fun w K Z kk => E_assign kk) ?_
 refine D_done (by kernel_rfl) ?_
 refine C_seq (C_seq (C_region rfl (R_o rfl (E_move (R_o rfl (E_len rfl ?_))))))
 refine R_o rfl (E_move (R_nil (C_block (C_loop (ds := []) [0, 8, 11, 12, 13, 43, 44, 45] (fun m_ vs w => ∃ d : Nat, ∃ (q : Nat) (h : Nat → Int) (W : Int), vs = [.slice A g.length c, .int .i64 W, .func (.func 67) #[.pointer (some ⟨b33, 0, none⟩)] #[], .int .i64 q, .slice (some ⟨b42, 0, none⟩) g.length g.length, .slice B xs.length d1, .int .i64 xs.length, .int .i64 d] ∧ m_ = xs.length - d ∧ d ≤ xs.length ∧ (W = (firstAt g items (ordN xs) d).want ∧ FOk g items xs d q ∧ HasTo g.length (ordN xs) (firstAt g items (ordN xs) d).has h d) ∧ Loc w0 w [row 3 1 (.slice (some ⟨b42, 0, none⟩) g.length g.length) g.length (tint g.length h), cl b33 91 (tint 2304 f)]) (m := xs.length) (by first | rfl | exact hd) ?_ ?_))))
 · exact ⟨0, 0, fun _ => 0, bestV g items, rfl, by omega, by omega, ⟨rfl, FOk.zero hok ho, fun i hi => by simp⟩, H⟩
 intro m vs ρ₀ w hd hI
 clear H
 obtain ⟨d, q, h, W, rfl, rfl, hdl, ⟨hW, hF, hh⟩, H⟩ := hI
 refine C_seq (C_region rfl (R_o rfl (E_lss rfl rfl ?_)))
 refine R_nil (C_seq (C_cond (t := 46) rfl (fun hlt => ?_) (fun hlt => ?_)))
 ·
  obtain ⟨x, hx⟩ := get_of (xs := xs) (k := d) (by omega)
  have hxb := ho.1 x (mem_of_get hx)
  obtain ⟨y, hy⟩ := get_of (xs := g) (k := x.toNat) (by omega)
  have hyl := (hok.row hy).1
  have hq := hF.lt
  have hw0 := hF.lo
  have hw1 := hF.hi
  rw [← hW] at hw0 hw1
  refine C_skip (C_seq (C_block (C_seq (C_region rfl (R_o rfl (E_move (R_o rfl (E_idxr hos rfl rfl (by omega) (by omega) ?_))))))))
  refine R_o rfl (E_loadi hos H rfl hx ?_)
  refine R_o rfl (E_assign (R_o rfl (E_assign (R_nil (C_seq (C_region rfl (R_o rfl (E_move (R_o rfl (E_move (R_o rfl (E_idxw (v := .slice (some ⟨b42, 0, none⟩) g.length g.length) H rfl rfl (by omega) (by omega) ?_))))))))))))
  refine R_n rfl (E_storew (v := .slice (some ⟨b42, 0, none⟩) g.length g.length) (j := x.toNat) (u := .int .i64 (-1)) H rfl rfl rfl (by omega) ?_)
  clear H; intro w H
  rw [tint_set] at H
  refine R_nil (C_seq (C_region rfl (R_o rfl (E_move (R_o rfl (E_move (R_o rfl (E_idxr hg rfl rfl (by omega) (by omega) ?_))))))))
  refine R_o rfl (E_loadr hg H rfl hy ?_)
  intro u hu
  obtain ⟨Au, cu, rfl, hu1, hu2⟩ := hu.len
  refine R_o rfl (E_len rfl ?_)
  refine R_o rfl (E_move (R_nil (C_block (C_loop (ds := []) [0, 8, 11, 12, 13, 14, 15, 43, 44, 45, 56, 57, 58] (fun m_ vs w => ∃ k : Nat, vs = [.slice A g.length c, .int .i64 W, .func (.func 67) #[.pointer (some ⟨b33, 0, none⟩)] #[], .int .i64 q, .slice (some ⟨b42, 0, none⟩) g.length g.length, .int .i64 d, .int .i64 x, .slice B xs.length d1, .int .i64 xs.length, .int .i64 d, .slice Au y.length cu, .int .i64 y.length, .int .i64 k] ∧ m_ = y.length - k ∧ k ≤ y.length ∧ (∀ j, j < k → ¬ isFirst (gv g) items ((ordN xs).drop (d + 1)) ((ordN xs).getD d 0) (firstAt g items (ordN xs) d).F (firstAt g items (ordN xs) d).want j) ∧ Loc w0 w [row 3 1 (.slice (some ⟨b42, 0, none⟩) g.length g.length) g.length (tint g.length (upd h x.toNat (-1))), cl b33 91 (tint 2304 f)]) (m := y.length) (by first | rfl | exact hd) ?_ ?_))))
  · exact ⟨0, rfl, by omega, by omega, fun j hj => by omega, H⟩
  intro m vs ρ₀ w hd hI
  clear H
  obtain ⟨k, rfl, rfl, hk0, hno, H⟩ := hI
  refine C_seq (C_region rfl (R_o rfl (E_lss rfl rfl ?_)))
  refine R_nil (C_seq (C_cond (t := 59) rfl (fun hlt2 => ?_) (fun hlt2 => ?_)))
  ·
   have hk : k < items := by omega
   obtain ⟨z, hz⟩ := get_of (xs := y) (k := k) (by omega)
   have hgv : gv g x.toNat k = z := gv_of hy hz
   have hzb := hok.gv_le x.toNat k
   rw [hgv] at hzb
   have hkp := Nat.pow_lt_pow_right (a := 2) (by omega) (show k < 8 by omega)
   have hor := or_lt hq hk
   have hiF := hF.isF hx hT hk hW
   rw [hgv] at hiF
   have htv := tv_le (g := g) (items := items) (xs := xs) (d := d + 1) (q := q ||| 2 ^ k) hok (by omega)
   rw [← hT (d + 1) _ (by omega) (by omega) hor] at htv
   refine C_skip (C_seq (C_block (C_seq (C_region rfl (R_o rfl (E_move (R_o rfl (E_idxr hu rfl rfl (by omega) (by omega) ?_))))))))
   refine R_o rfl (E_loadi hu H rfl hz ?_)
   refine R_o rfl (E_assign (R_o rfl (E_assign (R_nil (C_seq (C_region rfl (R_o rfl (E_move (R_o rfl (E_geq rfl rfl ?_))))))))))
   refine R_o rfl (E_move (R_part (t := 65) rfl (fun hpos => ?_) (fun hpos => ?_)))
   ·
    refine R_w rfl rfl rfl (E_move ?_)
    refine R_w rfl rfl rfl (E_move ?_)
    refine R_w rfl rfl rfl (E_shrn (a := q) (b := k) rfl rfl (by omega) ?_)
    refine R_w rfl rfl rfl (E_and (a := q / 2 ^ k) (b := 1) rfl rfl (by have := Nat.div_le_self q (2 ^ k); omega) (by omega) ?_)
    refine R_w rfl rfl rfl (E_eql rfl rfl ?_)
    refine R_o rfl (E_pick rfl ?_)
    refine R_o rfl (E_move (R_part (t := 72) rfl (fun hbit => ?_) (fun hbit => ?_)))
    ·
     have hbit2 := (bit0_iff q k).1 hbit
     refine R_w rfl rfl rfl (E_move ?_)
     refine R_w rfl rfl rfl (E_move ?_)
     refine R_w rfl rfl rfl (E_move ?_)
     refine R_w rfl rfl rfl (E_add rfl rfl (by omega) ?_)
     refine R_w rfl rfl rfl (E_move ?_)
     refine R_w rfl rfl rfl (E_move ?_)
     refine R_w rfl rfl rfl (E_shl1 (i := k) rfl rfl (by omega) ?_)
     refine R_w rfl rfl rfl (E_or (a := q) (b := 2 ^ k) rfl rfl (by omega) (by omega) ?_)
     refine R_w rfl rfl rfl (E_callv rfl rfl (behind_ (d := d + 1) (q := q ||| 2 ^ k) (H.cell.trans (tint_get (by omega))) (by omega) (by omega)) ?_)
     rintro _ w1 ⟨rfl, hb⟩
     replace H := H.call0 hb; clear hb
     refine R_w rfl rfl rfl (E_add rfl rfl (by omega) ?_)
     refine R_w rfl rfl rfl (E_move ?_)
     refine R_w rfl rfl rfl (E_eql rfl rfl ?_)
     refine R_o rfl (E_pick rfl ?_)
     refine R_nil (C_cond (t := 85) rfl (fun heq => ?_) (fun heq => ?_))
     ·
      have hfound : isFirst (gv g) items ((ordN xs).drop (d + 1)) ((ordN xs).getD d 0) (firstAt g items (ordN xs) d).F (firstAt g items (ordN xs) d).want k := hiF.2 ⟨hpos, hbit2, heq⟩
      refine C_seq (C_drawL [11] H (by kernel_rfl) (fun w H => ?_))
      refine D_takeT 0 rfl rfl rfl (by kernel_rfl) (fun w K Z kk => E_move kk) ?_
      refine D_takeT 1 rfl rfl rfl (by kernel_rfl) (fun w K Z kk => E_move kk) ?_
      refine D_takeT 2 rfl rfl rfl (by kernel_rfl) (fun w K Z kk => E_move kk) ?_
      refine D_takeT 3 rfl rfl rfl (by kernel_rfl) (fun w K Z kk => E_move kk) ?_
      refine D_takeT 4 rfl rfl rfl (by kernel_rfl) (fun w K Z kk => E_move kk) ?_
      refine D_takeT 5 rfl rfl rfl (by kernel_rfl) (fun w K Z kk => E_shl1 (i := k) rfl rfl (by omega) kk) ?_
      refine D_takeT 6 rfl rfl rfl (by kernel_rfl) (fun w K Z kk => E_or (a := q) (b := 2 ^ k) rfl rfl (by omega) (by omega) kk) ?_
      refine D_takeT 7 rfl rfl rfl (by kernel_rfl) (fun w K Z kk => E_move kk) ?_
      refine D_takeT 8 rfl rfl rfl (by kernel_rfl) (fun w K Z kk => E_move kk) ?_
      refine D_takeT 9 rfl rfl rfl (by kernel_rfl) (fun w K Z kk => E_sub rfl rfl (by omega) kk) ?_
      refine D_take 10 rfl rfl rfl (by kernel_rfl) (by first | exact H | exact H.drop | exact H.drop.drop | exact H.drop.drop.drop | exact H.drop.drop.drop.drop) (fun w HS K Z kk => E_idxw (v := .slice (some ⟨b42, 0, none⟩) g.length g.length) HS rfl rfl (by omega) (by omega) kk) ?_
      refine D_actn 11 rfl (by kernel_rfl) (E_storew (v := .slice (some ⟨b42, 0, none⟩) g.length g.length) (j := x.toNat) (u := .int .i64 k) H rfl rfl rfl (by omega) ?_)
      clear H; intro w H
      rw [tint_set, upd_upd] at H
      refine ⟨fun h => Bool.noConfusion (h : true = false), ?_⟩
      refine D_takeT 12 rfl rfl rfl (by kernel_rfl) (fun w K Z kk => E_assign kk) ?_
      refine D_takeT 13 rfl rfl rfl (by kernel_rfl) (fun w K Z kk => E_assign kk) ?_
      refine D_done (by kernel_rfl) ?_
      refine C_exit ?_
      refine C_region rfl (R_o rfl (E_add rfl rfl (by omega) ?_))
      refine R_o rfl (E_move (R_nil ?_))
      have hwho : (ordN xs).getD d 0 = x.toNat := by rw [List.getD_eq_getElem?_getD, ordN_get hx]; rfl
      first
        | (have e := firstAt_some hk hfound hno
           exact ⟨hd, xs.length - (d + 1), by omega, d + 1, q ||| 2 ^ k, _, W - z, rfl, rfl, by omega, ⟨by rw [e, hwho, hgv, hW], hF.some hok (by omega) hk hfound hno, by rw [e, hwho]; exact hh.step (ordN_get hx) (upd_at _ _ _) (fun i hi => by simp [upd, hi])⟩, H⟩)
        | (have e := firstAt_none hnone
           exact ⟨hd, xs.length - (d + 1), by omega, d + 1, q, _, W, rfl, rfl, by omega, ⟨by rw [e]; exact hW, hF.none hnone, by rw [e, hwho]; exact hh.step (ordN_get hx) (upd_at _ _ _) (fun i hi => by simp [upd, hi])⟩, H⟩)
     ·
      have hnk : ¬ isFirst (gv g) items ((ordN xs).drop (d + 1)) ((ordN xs).getD d 0) (firstAt g items (ordN xs) d).F (firstAt g items (ordN xs) d).want k := fun hc => heq (hiF.1 hc).2.2
      refine C_skip (C_region rfl (R_o rfl (E_add rfl rfl (by omega) ?_)))
      refine R_o rfl (E_move (R_nil (⟨hd, y.length - (k + 1), by omega, k + 1, rfl, rfl, by omega, fun j hj => ?_, H⟩)))
      by_cases e : j = k
      · rw [e]; exact hnk
      · exact hno j (by omega)--
    ·
     have hnk : ¬ isFirst (gv g) items ((ordN xs).drop (d + 1)) ((ordN xs).getD d 0) (firstAt g items (ordN xs) d).F (firstAt g items (ordN xs) d).want k := fun hc => hbit ((bit0_iff q k).2 (hiF.1 hc).2.1)
     refine R_p rfl rfl rfl ?_
     refine R_p rfl rfl rfl ?_
     refine R_p rfl rfl rfl ?_
     refine R_p rfl rfl rfl ?_
     refine R_p rfl rfl rfl ?_
     refine R_p rfl rfl rfl ?_
     refine R_p rfl rfl rfl ?_
     refine R_p rfl rfl rfl ?_
     refine R_p rfl rfl rfl ?_
     refine R_p rfl rfl rfl ?_
     refine R_p rfl rfl rfl ?_
     refine R_p rfl rfl rfl ?_
     refine R_o rfl (E_pick rfl ?_)
     refine R_nil (C_false (t := 85) rfl ?_)
     refine C_skip (C_region rfl (R_o rfl (E_add rfl rfl (by omega) ?_)))
     refine R_o rfl (E_move (R_nil (⟨hd, y.length - (k + 1), by omega, k + 1, rfl, rfl, by omega, fun j hj => ?_, H⟩)))
     by_cases e : j = k
     · rw [e]; exact hnk
     · exact hno j (by omega)--
   ·
    have hnk : ¬ isFirst (gv g) items ((ordN xs).drop (d + 1)) ((ordN xs).getD d 0) (firstAt g items (ordN xs) d).F (firstAt g items (ordN xs) d).want k := fun hc => hpos (hiF.1 hc).1
    refine R_p rfl rfl rfl ?_
    refine R_p rfl rfl rfl ?_
    refine R_p rfl rfl rfl ?_
    refine R_p rfl rfl rfl ?_
    refine R_p rfl rfl rfl ?_
    refine R_o rfl (E_pick rfl ?_)
    refine R_o rfl (E_move (R_p rfl rfl rfl ?_))
    refine R_p rfl rfl rfl ?_
    refine R_p rfl rfl rfl ?_
    refine R_p rfl rfl rfl ?_
    refine R_p rfl rfl rfl ?_
    refine R_p rfl rfl rfl ?_
    refine R_p rfl rfl rfl ?_
    refine R_p rfl rfl rfl ?_
    refine R_p rfl rfl rfl ?_
    refine R_p rfl rfl rfl ?_
    refine R_p rfl rfl rfl ?_
    refine R_p rfl rfl rfl ?_
    refine R_o rfl (E_pick rfl ?_)
    refine R_nil (C_false (t := 85) rfl ?_)
    refine C_skip (C_region rfl (R_o rfl (E_add rfl rfl (by omega) ?_)))
    refine R_o rfl (E_move (R_nil (⟨hd, y.length - (k + 1), by omega, k + 1, rfl, rfl, by omega, fun j hj => ?_, H⟩)))
    by_cases e : j = k
    · rw [e]; exact hnk
    · exact hno j (by omega)--
  ·
   have hk : k = items := by omega
   have hnone : ∀ j, j < items → ¬ isFirst (gv g) items ((ordN xs).drop (d + 1)) ((ordN xs).getD d 0) (firstAt g items (ordN xs) d).F (firstAt g items (ordN xs) d).want j := fun j hj => hno j (by omega)
   refine C_exit ?_
   refine C_region rfl (R_o rfl (E_add rfl rfl (by omega) ?_))
   refine R_o rfl (E_move (R_nil ?_))
   have hwho : (ordN xs).getD d 0 = x.toNat := by rw [List.getD_eq_getElem?_getD, ordN_get hx]; rfl
   first
     | (have e := firstAt_some hk hfound hno
        exact ⟨hd, xs.length - (d + 1), by omega, d + 1, q ||| 2 ^ k, _, W - z, rfl, rfl, by omega, ⟨by rw [e, hwho, hgv, hW], hF.some hok (by omega) hk hfound hno, by rw [e, hwho]; exact hh.step (ordN_get hx) (upd_at _ _ _) (fun i hi => by simp [upd, hi])⟩, H⟩)
     | (have e := firstAt_none hnone
        exact ⟨hd, xs.length - (d + 1), by omega, d + 1, q, _, W, rfl, rfl, by omega, ⟨by rw [e]; exact hW, hF.none hnone, by rw [e, hwho]; exact hh.step (ordN_get hx) (upd_at _ _ _) (fun i hi => by simp [upd, hi])⟩, H⟩)
 ·
  have hdn : d = xs.length := by omega
  refine C_exit ?_
  refine C_seq (C_region rfl (R_o rfl (E_move (R_o rfl (E_assign (R_o rfl (E_assign (R_nil (C_ret ?_)))))))))
  with_reducible repeat (first | refine thn_ret ?_ | refine inB_ret ?_ | refine noG_ret ?_)
  refine ret_two rfl hd ⟨_, rfl, ?_⟩
  have e : tint g.length h = ints .i64 (firstV g items (ordN xs)) := by
    unfold firstV tint
    congr 1
    refine tab_congr fun i hi => ?_
    rw [hh i hi, hol, hdn, hxn, List.take_of_length_le (by omega), if_pos ((ordN_perm ho).mem_iff.2 (by simpa using hi))]
  rw [e] at H
  exact (H.fst.rowInts)
end Go.Sl
