/- prices that rise: a state, and how far. -/
import Derived.Test.YtlgdffofhnfedaaGreatX22
set_option linter.unusedVariables false
set_option linter.unusedSimpArgs false
set_option maxRecDepth 10000
set_option maxHeartbeats 2000000
namespace Go.Sl
open Go.RowKit
open Go.Proofs
theorem Min_ {w0 : World} {v : Value} {l : List Int} (hl : RdI w0 v l) (hne : l ≠ []) :
   Ret Tryz.prog 160 [v] w0 (fun v w => v = .int .i64 (minV l) ∧ Below w0.heap.size w0 w) := by
 refine ret_of_C Tryz.func160 rfl rfl rfl ?_
 have H := Loc.refl w0
 obtain ⟨A, c, rfl, hc1, hc2⟩ := hl.len
 have hpos := List.length_pos_iff.2 hne
 obtain ⟨x0, hx0⟩ := get_of (xs := l) (k := 0) hpos
 have hm0 : IsMin (l.take 1) x0 := by rw [take_step hx0]; exact ⟨by simp, fun y hy => by simp at hy; omega⟩
 refine C_seq (C_region rfl (R_o rfl (E_assign (R_nil (C_seq (C_seq (C_region rfl (R_o rfl (E_move (R_o rfl (E_len rfl ?_)))))))))))
 refine R_o rfl (E_lss rfl rfl ?_)
 refine R_nil (C_cond (t := 7) rfl (fun h7 => ?_) (fun h7 => ?_))
 ·
  exact absurd h7 (by omega)
 ·
  refine C_skip (C_seq (C_region rfl (R_o rfl (E_move (R_o rfl (E_idxr hl rfl rfl (by omega) (by omega) ?_))))))
  refine R_o rfl (E_loadi hl H rfl hx0 ?_)
  refine R_o rfl (E_assign (R_nil (C_seq (C_seq (C_region rfl (R_o rfl (E_assign (R_nil (C_block (C_loop (ds := []) [0, 3, 4] (fun m_ vs w => ∃ (k : Nat) (mn : Int), vs = [.slice A l.length c, .int .i64 mn, .int .i64 (k : Int)] ∧ m_ = l.length - k ∧ k ≤ l.length ∧ IsMin (l.take k) mn ∧ Loc w0 w []) (m := l.length - 1) (by first | rfl | exact hd) ?_ ?_))))))))))
  · exact ⟨1, x0, rfl, by omega, by omega, hm0, H⟩
  intro m vs ρ₀ w hd hI
  clear H
  obtain ⟨k, mn, rfl, rfl, hk, hst, H⟩ := hI
  refine C_seq (C_seq (C_region rfl (R_o rfl (E_move (R_o rfl (E_move (R_o rfl (E_len rfl ?_))))))))
  refine R_o rfl (E_lss rfl rfl ?_)
  refine R_nil (C_cond (t := 15) rfl (fun hlt => ?_) (fun hlt => ?_))
  ·
   obtain ⟨x, hx⟩ := get_of (xs := l) (k := k) (by omega)
   refine C_skip (C_seq (C_block (C_region rfl (R_o rfl (E_move (R_o rfl (E_move (R_o rfl (E_move (R_o rfl (E_idxr hl rfl rfl (by omega) (by omega) ?_)))))))))))
   refine R_o rfl (E_loadi hl H rfl hx ?_)
   refine R_o rfl (E_min2 rfl rfl ?_)
   refine R_o rfl (E_assign (R_nil (C_region rfl (R_o rfl (E_move (R_o rfl (E_add rfl rfl (by omega) ?_)))))))
   refine R_o rfl (E_assign (R_nil ?_))
   exact ⟨hd, l.length - (k + 1), by omega, k + 1, min mn x, rfl, rfl, by omega, by rw [take_step hx]; exact isMin_snoc hst, H⟩
  ·
   obtain rfl : k = l.length := by omega
   refine C_exit ?_
   refine C_seq (C_region rfl (R_o rfl (E_move (R_o rfl (E_assign (R_nil (C_ret ?_)))))))
   with_reducible repeat (first | refine thn_ret ?_ | refine inB_ret ?_ | refine noG_ret ?_ | refine jmp_ret ?_)
   refine ret_one rfl hd ⟨?_, H.below⟩
   rw [List.take_length] at hst
   rw [hst.eq]; rfl
theorem least_ {w0 : World} {v : Value} {l : List Int} (hl : RdI w0 v l) (hne : l ≠ []) :
   Ret Tryz.prog 122 [v] w0 (fun v w => v = .int .i64 (minV l) ∧ Below w0.heap.size w0 w) := by
 refine ret_of_C Tryz.func122 rfl rfl rfl ?_
 have H := Loc.refl w0
 refine C_seq (C_region rfl (R_o rfl (E_assign (R_nil (C_seq (C_region rfl (R_o rfl (E_move (R_o rfl (E_call rfl (Min_ hl hne) ?_))))))))))
 rintro _ w1 ⟨rfl, hb⟩
 replace H := H.call0 hb; clear hb
 refine R_o rfl (E_assign (R_nil (C_ret ?_)))
 with_reducible repeat (first | refine thn_ret ?_ | refine inB_ret ?_ | refine noG_ret ?_ | refine jmp_ret ?_)
 exact ret_one rfl rfl ⟨rfl, H.below⟩
structure StR (w : World) (bS : Nat) (a b c pv wv muv : Value) (m : Mk) (p : List Int) : Prop where
 blk : w.heap[bS]? = some (.cells #[a, b, c, pv, wv, muv] 131 (0, 0))
 res : RdI w a m.res
 bids : RdII w b m.bids
 pri : RdI w pv p
 wants : RdII w wv (grV m p)
 must : RdI w muv (mustV m p)
section
variable {w w' : World} {bS : Nat} {a b c pv wv muv : Value} {m : Mk} {p : List Int}
theorem StR.below (h : StR w bS a b c pv wv muv m p) (hb : Below w.heap.size w w') : StR w' bS a b c pv wv muv m p :=
 ⟨by rw [hb.block bS (Array.getElem?_eq_some_iff.1 h.blk).1]; exact h.blk, Abides.below hb h.res, Abides.below hb h.bids, Abides.below hb h.pri, Abides.below hb h.wants, Abides.below hb h.must⟩
theorem StR.c1 (h : StR w bS a b c pv wv muv m p) : w.cell? ⟨bS, 1, none⟩ = some b := by rw [cell_of_blk h.blk]; rfl
theorem StR.c3 (h : StR w bS a b c pv wv muv m p) : w.cell? ⟨bS, 3, none⟩ = some pv := by rw [cell_of_blk h.blk]; rfl
theorem StR.c4 (h : StR w bS a b c pv wv muv m p) : w.cell? ⟨bS, 4, none⟩ = some wv := by rw [cell_of_blk h.blk]; rfl
theorem StR.c5 (h : StR w bS a b c pv wv muv m p) : w.cell? ⟨bS, 5, none⟩ = some muv := by rw [cell_of_blk h.blk]; rfl
end
theorem has_ {w0 : World} {bS : Nat} {a b c pv wv muv : Value} {m : Mk} {p bd : List Int} {i j : Nat} {x z : Int} (hst0 : StR w0 bS a b c pv wv muv m p) (hbd : m.bids[i]? = some bd) (hx : bd[j]? = some x) (hz : p[j]? = some z) (hb1 : -10000000 ≤ x ∧ x ≤ 10000000) (hb2 : -10000000 ≤ z ∧ z ≤ 10000000) :
   Ret Tryz.prog 121 [.pointer (some ⟨bS, 0, none⟩), .int .i64 i, .int .i64 j] w0 (fun v w => v = .int .i64 (x - z) ∧ Below w0.heap.size w0 w) := by
 refine ret_of_C Tryz.func121 rfl rfl rfl ?_
 have H := Loc.refl w0
 have h1 := lt_of_get hbd
 have h2 := lt_of_get hx
 have h3 := lt_of_get hz
 obtain ⟨u, hca, hu⟩ := hst0.bids.at hbd
 obtain ⟨Au, cu, rfl, hu1, hu2⟩ := hu.len
 refine C_seq (C_region rfl (R_o rfl (E_assign (R_nil (C_seq (C_drawL [] H (by kernel_rfl) (fun w H => ?_)))))))
 refine D_takeT 0 rfl rfl rfl (by kernel_rfl) (fun w K Z kk => E_move kk) ?_
 refine D_nil 1 rfl rfl rfl (by kernel_rfl) ?_
 refine D_takeT 2 rfl rfl rfl (by kernel_rfl) (fun w K Z kk => E_fieldAddr rfl kk) ?_
 refine D_takeT 3 rfl rfl rfl (by kernel_rfl) (fun w K Z kk => E_fieldAddr rfl kk) ?_
 refine D_take 4 rfl rfl rfl (by kernel_rfl) (by first | exact H | exact H.drop | exact H.drop.drop | exact H.drop.drop.drop | exact H.drop.drop.drop.drop) (fun w HS K Z kk => E_load_cell rfl (Below.cell_some HS.below hst0.c1) kk) ?_
 refine D_takeT 5 rfl rfl rfl (by kernel_rfl) (fun w K Z kk => E_move kk) ?_
 refine D_takeT 6 rfl rfl rfl (by kernel_rfl) (fun w K Z kk => E_idxr hst0.bids rfl rfl (by omega) (by omega) kk) ?_
 refine D_take 7 rfl rfl rfl (by kernel_rfl) (by first | exact H | exact H.drop | exact H.drop.drop | exact H.drop.drop.drop | exact H.drop.drop.drop.drop) (fun w HS K Z kk => E_loadc hca HS rfl kk) ?_
 refine D_takeT 8 rfl rfl rfl (by kernel_rfl) (fun w K Z kk => E_move kk) ?_
 refine D_takeT 9 rfl rfl rfl (by kernel_rfl) (fun w K Z kk => E_idxr hu rfl rfl (by omega) (by omega) kk) ?_
 refine D_take 10 rfl rfl rfl (by kernel_rfl) (by first | exact H | exact H.drop | exact H.drop.drop | exact H.drop.drop.drop | exact H.drop.drop.drop.drop) (fun w HS K Z kk => E_loadi hu HS rfl hx kk) ?_
 refine D_takeT 11 rfl rfl rfl (by kernel_rfl) (fun w K Z kk => E_move kk) ?_
 refine D_nil 12 rfl rfl rfl (by kernel_rfl) ?_
 refine D_takeT 13 rfl rfl rfl (by kernel_rfl) (fun w K Z kk => E_fieldAddr rfl kk) ?_
 refine D_take 14 rfl rfl rfl (by kernel_rfl) (by first | exact H | exact H.drop | exact H.drop.drop | exact H.drop.drop.drop | exact H.drop.drop.drop.drop) (fun w HS K Z kk => E_load_cell rfl (Below.cell_some HS.below hst0.c3) kk) ?_
 refine D_takeT 15 rfl rfl rfl (by kernel_rfl) (fun w K Z kk => E_move kk) ?_
 refine D_takeT 16 rfl rfl rfl (by kernel_rfl) (fun w K Z kk => E_idxr hst0.pri rfl rfl (by omega) (by omega) kk) ?_
 refine D_take 17 rfl rfl rfl (by kernel_rfl) (by first | exact H | exact H.drop | exact H.drop.drop | exact H.drop.drop.drop | exact H.drop.drop.drop.drop) (fun w HS K Z kk => E_loadi hst0.pri HS rfl hz kk) ?_
 refine D_takeT 18 rfl rfl rfl (by kernel_rfl) (fun w K Z kk => E_sub rfl rfl (by omega) kk) ?_
 refine D_takeT 19 rfl rfl rfl (by kernel_rfl) (fun w K Z kk => E_assign kk) ?_
 refine D_done (by kernel_rfl) ?_
 refine C_ret ?_
 with_reducible repeat (first | refine thn_ret ?_ | refine inB_ret ?_ | refine noG_ret ?_ | refine jmp_ret ?_)
 exact ret_one rfl rfl ⟨rfl, H.below⟩
theorem far1_ {w0 : World} {a : Addr} {lv : Value} {l : List Int} {x : Int} (hc : w0.cell? a = some lv) (hl : RdI w0 lv l) :
   Ret Tryz.prog 119 [.int .i64 x, .pointer (some a)] w0 (fun v w => v = .bool (decide (x ∈ l)) ∧ Below w0.heap.size w0 w) := by
 refine ret_of_C Tryz.func119 rfl rfl rfl ?_
 have H := Loc.refl w0
 refine C_seq (C_region rfl (R_o rfl (E_assign (R_nil (C_seq (C_region rfl (R_o rfl (E_load_cell rfl (Below.cell_some H.below hc) ?_))))))))
 refine R_o rfl (E_move (R_o rfl (E_call rfl (Contains_ints (x0 := x) (Abides.below H.below hl)) ?_)))
 rintro _ w1 ⟨rfl, hb⟩
 replace H := H.call0 hb; clear hb
 refine R_o rfl (E_assign (R_nil (C_ret ?_)))
 with_reducible repeat (first | refine thn_ret ?_ | refine inB_ret ?_ | refine noG_ret ?_ | refine jmp_ret ?_)
 exact ret_one rfl rfl ⟨rfl, H.below⟩
theorem far2_ {w0 : World} {a a5 : Addr} {lv : Value} {l : List Int} {x : Int} (hc5 : w0.cell? a5 = some (.func (.func 119) #[] #[.pointer (some a)])) (hc : w0.cell? a = some lv) (hl : RdI w0 lv l) :
   Ret Tryz.prog 120 [.int .i64 x, .pointer (some a5)] w0 (fun v w => v = .bool (decide (¬ x ∈ l)) ∧ Below w0.heap.size w0 w) := by
 refine ret_of_C Tryz.func120 rfl rfl rfl ?_
 have H := Loc.refl w0
 refine C_seq (C_region rfl (R_o rfl (E_assign (R_nil (C_seq (C_region rfl (R_o rfl (E_load_cell rfl (Below.cell_some H.below hc5) ?_))))))))
 refine R_o rfl (E_move (R_o rfl (E_callv rfl rfl (far1_ (a := a) (x := x) (lv := lv) (Below.cell_some H.below hc) (Abides.below H.below hl)) ?_)))
 rintro _ w1 ⟨rfl, hb⟩
 replace H := H.call0 hb; clear hb
 refine R_o rfl (E_not rfl ?_)
 refine R_o rfl (E_assign (R_nil (C_ret ?_)))
 with_reducible repeat (first | refine thn_ret ?_ | refine inB_ret ?_ | refine noG_ret ?_ | refine jmp_ret ?_)
 exact ret_one rfl rfl ⟨rfl, H.below⟩
theorem far_ {w0 : World} {bS : Nat} {a b c pv wv muv sv : Value} {m : Mk} {p set : List Int} (hst0 : StR w0 bS a b c pv wv muv m p) (hset : RdI w0 sv set) (hok : okMk m) (hp : OkP m p) (S : Sp m p set) :
   Ret Tryz.prog 100 [.pointer (some ⟨bS, 0, none⟩), sv] w0 (fun v w => v = .int .i64 (minV (farL m p set (mustV m p))) ∧ Below w0.heap.size w0 w) := by
 refine ret_of_C Tryz.func100 rfl rfl rfl ?_
 have H := Loc.refl w0
 obtain ⟨As, cs, rfl, hs1, hs2⟩ := hset.len
 obtain ⟨Am, cm, rfl, hm1, hm2⟩ := hst0.must.len
 obtain ⟨Ap, cp, rfl, hp1, hp2⟩ := hst0.pri.len
 have hp8 := (hp.pr hok).2.1
 have hm8 := hok.2.1.2
 have hml := mustTo_len m p m.bids.length
 have hml2 : (mustV m p).length ≤ m.bids.length := hml
 refine C_seq (C_region rfl (R_o rfl (E_box (cs := [.slice As set.length cs]) rfl H ?_)))
 clear H; intro w b3 H
 refine R_o rfl (E_assign (R_nil (C_seq (C_region rfl (R_o rfl (E_makeFunc rfl rfl ?_))))))
 refine R_o rfl (E_alloc H ?_)
 clear H; intro w b5 H
 refine R_n rfl (E_store (v := .func (.func 119) #[] #[.pointer (some ⟨b3, 0, none⟩)]) H rfl rfl rfl (by simp) ?_)
 clear H; intro w H
 replace H := H.cle (cs' := [.func (.func 119) #[] #[.pointer (some ⟨b3, 0, none⟩)]]) rfl
 refine R_nil (C_seq (C_region rfl (R_o rfl (E_assign (R_nil (C_seq (C_seq (C_region rfl (R_o rfl (E_move (R_o rfl (E_nilCheck rfl ?_))))))))))))
 refine R_o rfl (E_fieldAddr rfl ?_)
 refine R_o rfl (E_load_cell rfl (Below.cell_some H.below hst0.c5) ?_)
 refine R_o rfl (E_len rfl ?_)
 refine R_o rfl (E_move (R_nil (C_block (C_loop (ds := []) [0, 5, 6, 15, 16, 17] (fun m_ vs w => ∃ k : Nat, ∃ lv : Value, vs = [.pointer (some ⟨bS, 0, none⟩), .pointer (some ⟨b5, 0, none⟩), lv, .slice Am (mustV m p).length cm, .int .i64 (mustV m p).length, .int .i64 k] ∧ m_ = (mustV m p).length - k ∧ k ≤ (mustV m p).length ∧ (True) ∧ Loc w0 w [row 3 1 lv (farL m p set ((mustV m p).take k)).length (ints .i64 (farL m p set ((mustV m p).take k))), cl b5 127 [.func (.func 119) #[] #[.pointer (some ⟨b3, 0, none⟩)]], cl b3 22 [.slice As set.length cs]]) (m := (mustV m p).length) (by first | rfl | exact hd) ?_ ?_))))
 · replace H := nilRow 3 1 H
   exact ⟨0, .slice none 0 0, rfl, by omega, by omega, trivial, H⟩
 intro m vs ρ₀ w hd hI
 clear H
 obtain ⟨k, lv, rfl, rfl, hk, hst, H⟩ := hI
 refine C_seq (C_region rfl (R_o rfl (E_lss rfl rfl ?_)))
 refine R_nil (C_seq (C_cond (t := 18) rfl (fun hlt => ?_) (fun hlt => ?_)))
 ·
  obtain ⟨x, hx⟩ := get_of (xs := mustV m p) (k := k) (by omega)
  obtain ⟨n, hn, rfl, htop⟩ := must_mem.1 (mem_of_get hx)
  obtain ⟨bd, hbd⟩ := get_of hn
  rw [getD_of hbd] at htop
  have hbdx : m.bids.getD ((n : Int)).toNat [] = bd := getD_of hbd
  obtain ⟨hbl, hbb⟩ := bid_of hok hbd htop
  have hgn : (grV m p)[n]? = some (topsV bd p) := by rw [grV_get hbd, if_neg htop]
  obtain ⟨ut, hca, hu⟩ := hst0.wants.at hgn
  obtain ⟨Au, cu, rfl, hu1, hu2⟩ := hu.len
  obtain ⟨t0, ht0m⟩ := tops_some htop
  have htl := List.length_pos_of_mem ht0m
  obtain ⟨t0, ht0⟩ := get_of htl
  obtain ⟨j0, x0, z0, rfl, hx0, hz0, he0⟩ := tops_mem.1 (mem_of_get ht0)
  have hb0 := hbb x0 (mem_of_get hx0)
  have hz0b := (hp.2 j0 z0 hz0).2
  have hgd : (grV m p).getD ((n : Int)).toNat [] = topsV bd p := getD_of hgn
  have hin : ((topsV bd p).any fun k => decide (¬ k ∈ set)) = false → inB' (grV m p) set (n : Int) = true := fun h => by
    unfold inB'
    rw [hgd, List.all_eq_true]
    intro y hy
    rw [List.any_eq_false] at h
    exact decide_eq_true (Decidable.of_not_not fun hn => h y hy (decide_eq_true hn))
  have hnin : ((topsV bd p).any fun k => decide (¬ k ∈ set)) = true → ¬ inB' (grV m p) set (n : Int) = true := fun h h2 => by
    unfold inB' at h2
    rw [hgd, List.all_eq_true] at h2
    obtain ⟨y, hy, hn⟩ := List.any_eq_true.1 h
    exact of_decide_eq_true hn (of_decide_eq_true (h2 y hy))
  have hfl := farL_len m p set ((mustV m p).take k)
  have htk : ((mustV m p).take k).length = k := by rw [List.length_take]; omega
  have hfb : (farL m p set ((mustV m p).take k)).length ≤ 100 := Nat.le_trans hfl (by rw [htk]; exact Nat.le_trans (Nat.mul_le_mul (show k ≤ 8 by omega) (show p.length + 1 ≤ 9 by omega)) (by omega))
  refine C_skip (C_seq (C_block (C_seq (C_region rfl (R_o rfl (E_idxr hst0.must rfl rfl (by omega) (by omega) ?_))))))
  refine R_o rfl (E_loadi hst0.must H rfl hx ?_)
  refine R_o rfl (E_assign (R_nil (C_seq (C_seq (C_region rfl (R_o rfl (E_move (R_o rfl (E_nilCheck rfl ?_)))))))))
  refine R_o rfl (E_fieldAddr rfl ?_)
  refine R_o rfl (E_load_cell rfl (Below.cell_some H.below hst0.c4) ?_)
  refine R_o rfl (E_move (R_o rfl (E_idxr hst0.wants rfl rfl (by omega) (by simp; omega) ?_)))
  refine R_o rfl (E_loadc hca H rfl ?_)
  refine R_o rfl (E_makeFunc rfl rfl ?_)
  refine R_o rfl (E_call rfl (ContainsFunc_ints (p := fun k : Int => decide (¬ k ∈ set)) (Abides.below H.below hu) ⟨120, #[], #[.pointer (some ⟨b5, 0, none⟩)], rfl, by kernel_rfl, fun w' k u hb _ hu => by rw [show u = .int .i64 k from hu]; exact far2_ (Below.cell_some hb ((H.cell (b := b5) (o := 0)).trans rfl)) (Below.cell_some hb ((H.cell (b := b3) (o := 0)).trans rfl)) (Abides.below hb (Abides.below H.below hset))⟩) ?_)
  rintro _ w1 ⟨rfl, hb⟩
  replace H := H.call0 hb; clear hb
  refine R_nil (C_condb (t := 29) rfl (fun h29 => ?_) (fun h29 => ?_))
  ·
   refine C_exit ?_
   refine C_region rfl (R_o rfl (E_add rfl rfl (by omega) ?_))
   refine R_o rfl (E_move (R_nil ?_))
   first
     | (have e := (farL_step (m := m) (p := p) (set := set) hx).trans (congrArg _ (if_neg (hnin h29)))
        rw [List.append_nil] at e
        exact ⟨hd, (mustV m p).length - (k + 1), by omega, k + 1, lv, rfl, rfl, by omega, trivial, by rw [e]; exact H⟩)
     | (have e := (farL_step (m := m) (p := p) (set := set) hx).trans (congrArg _ (if_pos (hin h29)))
        rw [hbdx, ← farTo_full] at e
        exact ⟨hd, (mustV m p).length - (k + 1), by omega, k + 1, lv, rfl, rfl, by omega, trivial, by rw [e]; exact H⟩)
  ·
   refine C_skip (C_seq (C_region rfl (R_o rfl (E_move (R_o rfl (E_move (R_o rfl (E_move (R_o rfl (E_nilCheck rfl ?_))))))))))
   refine R_o rfl (E_fieldAddr rfl ?_)
   refine R_o rfl (E_load_cell rfl (Below.cell_some H.below hst0.c4) ?_)
   refine R_o rfl (E_move (R_o rfl (E_idxr hst0.wants rfl rfl (by omega) (by simp; omega) ?_)))
   refine R_o rfl (E_loadc hca H rfl ?_)
   refine R_o rfl (E_idxr hu rfl rfl (by omega) (by omega) ?_)
   refine R_o rfl (E_loadi hu H rfl ht0 ?_)
   refine R_o rfl (E_call rfl (has_ (i := n) (j := j0) (x := x0) (z := z0) (hst0.below H.below) hbd hx0 hz0 (by omega) (by omega)) ?_)
   rintro _ w1 ⟨rfl, hb⟩
   replace H := H.call0 hb; clear hb
   refine R_o rfl (E_assign (R_nil (C_seq (C_region rfl (R_o rfl (E_move (R_o rfl (E_move (R_o rfl (E_lit (vs := [.int .i64 (x0 - z0)]) [.tmp 43] rfl rfl rfl rfl rfl H ?_))))))))))
   clear H; intro w b44 H
   refine R_o rfl (E_append1 (v := lv) (b := b44) (u := .int .i64 (x0 - z0)) H rfl rfl rfl (by omega) (by omega) ?_)
   clear H; intro w v45 H
   refine R_o rfl (E_assign (R_nil (C_seq (C_region rfl (R_o rfl (E_move (R_o rfl (E_nilCheck rfl ?_))))))))
   refine R_o rfl (E_fieldAddr rfl ?_)
   refine R_o rfl (E_load_cell rfl (Below.cell_some H.below hst0.c3) ?_)
   refine R_o rfl (E_len rfl ?_)
   refine R_o rfl (E_move (R_nil (C_block (C_loop (ds := []) [0, 5, 8, 9, 6, 15, 16, 17, 49, 50, 51] (fun m_ vs w => ∃ (j : Nat) (lv : Value), vs = [.pointer (some ⟨bS, 0, none⟩), .pointer (some ⟨b5, 0, none⟩), .int .i64 (n : Int), .int .i64 (topV bd p), lv, .slice Am (mustV m p).length cm, .int .i64 (mustV m p).length, .int .i64 (k : Int), .slice Ap p.length cp, .int .i64 p.length, .int .i64 (j : Int)] ∧ m_ = p.length - j ∧ j ≤ p.length ∧ Loc w0 w [row 3 1 lv (farL m p set ((mustV m p).take k) ++ farTo bd p set j).length (ints .i64 (farL m p set ((mustV m p).take k) ++ farTo bd p set j)), cl b5 127 [.func (.func 119) #[] #[.pointer (some ⟨b3, 0, none⟩)]], cl b3 22 [.slice As set.length cs]]) (m := p.length) (by first | rfl | exact hd) ?_ ?_))))
   · rw [he0] at H
     exact ⟨0, v45, by rw [← he0]; rfl, by omega, by omega, by simp only [farTo, List.range_zero, List.filter_nil, List.map_nil, ints_append, List.length_append, List.length_singleton]; exact H⟩
   intro m vs ρ₀ w hd hI
   clear H
   obtain ⟨j, lv, rfl, rfl, hj, H⟩ := hI
   have hfj := farTo_len bd p set j
   have hfl2 : (farL m p set ((mustV m p).take k) ++ farTo bd p set j).length ≤ 1000 := by rw [List.length_append]; omega
   refine C_seq (C_region rfl (R_o rfl (E_lss rfl rfl ?_)))
   refine R_nil (C_seq (C_cond (t := 52) rfl (fun hlt2 => ?_) (fun hlt2 => ?_)))
   ·
    obtain ⟨zj, hzj⟩ := get_of (xs := p) (k := j) (by omega)
    obtain ⟨xj, hxj⟩ := get_of (xs := bd) (k := j) (by have := hp.1; omega)
    have hbj := hbb xj (mem_of_get hxj)
    have hzjb := (hp.2 j zj hzj).2
    have htopb := topV_ge hxj hzj
    have htop1 : topV bd p ≤ 1000000 := by omega
    refine C_skip (C_seq (C_block (C_seq (C_region rfl (R_o rfl (E_move (R_o rfl (E_assign (R_nil (C_seq (C_region rfl (R_o rfl (E_load H rfl rfl ?_)))))))))))))
    refine R_o rfl (E_move (R_o rfl (E_callv rfl rfl (far1_ (a := ⟨b3, 0, none⟩) (x := (j : Int)) (lv := .slice As set.length cs) ((H.cell (b := b3) (o := 0)).trans rfl) (Abides.below H.below hset)) ?_)))
    rintro _ w1 ⟨rfl, hb⟩
    replace H := H.call0 hb; clear hb
    refine R_o rfl (E_not rfl ?_)
    refine R_nil (C_cond (t := 57) rfl (fun hjs => ?_) (fun hjs => ?_))
    ·
     refine C_region rfl (R_o rfl (E_move (R_o rfl (E_move (R_o rfl (E_move (R_o rfl (E_move (R_o rfl (E_move (R_o rfl (E_call rfl (has_ (i := n) (j := j) (x := xj) (z := zj) (hst0.below H.below) hbd hxj hzj (by omega) (by omega)) ?_))))))))))))
     rintro _ w1 ⟨rfl, hb⟩
     replace H := H.call0 hb; clear hb
     refine R_o rfl (E_subc (topV bd p - (xj - zj)) rfl rfl (by omega) (by omega) ?_)
     refine R_o rfl (E_lit (vs := [.int .i64 (topV bd p - (xj - zj))]) [.tmp 64] rfl rfl rfl rfl rfl H ?_)
     clear H; intro w b65 H
     refine R_o rfl (E_append1 (v := lv) (b := b65) (u := .int .i64 (topV bd p - (xj - zj))) H rfl rfl rfl (by omega) (by omega) ?_)
     clear H; intro w v66 H
     refine R_o rfl (E_assign (R_nil (C_region rfl (R_o rfl (E_add rfl rfl (by omega) ?_)))))
     refine R_o rfl (E_move (R_nil ?_))
     first
       | (have e := (farTo_step (set := set) hxj hzj).trans (if_pos (Decidable.of_not_not hjs))
          exact ⟨hd, p.length - (j + 1), by omega, j + 1, lv, rfl, rfl, by omega, by rw [e]; exact H⟩)
       | (have e := (farTo_step (set := set) hxj hzj).trans (if_neg hjs)
          exact ⟨hd, p.length - (j + 1), by omega, j + 1, v66, rfl, rfl, by omega, by rw [e, ← List.append_assoc, List.length_append, ints_append]; exact H⟩)
    ·
     refine C_skip (C_region rfl (R_o rfl (E_add rfl rfl (by omega) ?_)))
     refine R_o rfl (E_move (R_nil ?_))
     first
       | (have e := (farTo_step (set := set) hxj hzj).trans (if_pos (Decidable.of_not_not hjs))
          exact ⟨hd, p.length - (j + 1), by omega, j + 1, lv, rfl, rfl, by omega, by rw [e]; exact H⟩)
       | (have e := (farTo_step (set := set) hxj hzj).trans (if_neg hjs)
          exact ⟨hd, p.length - (j + 1), by omega, j + 1, v66, rfl, rfl, by omega, by rw [e, ← List.append_assoc, List.length_append, ints_append]; exact H⟩)
   ·
    obtain rfl : j = p.length := by omega
    refine C_exit ?_
    refine C_region rfl (R_o rfl (E_add rfl rfl (by omega) ?_))
    refine R_o rfl (E_move (R_nil ?_))
    first
      | (have e := (farL_step (m := m) (p := p) (set := set) hx).trans (congrArg _ (if_neg (hnin h29)))
         rw [List.append_nil] at e
         exact ⟨hd, (mustV m p).length - (k + 1), by omega, k + 1, lv, rfl, rfl, by omega, trivial, by rw [e]; exact H⟩)
      | (have e := (farL_step (m := m) (p := p) (set := set) hx).trans (congrArg _ (if_pos (hin h29)))
         rw [hbdx, ← farTo_full] at e
         exact ⟨hd, (mustV m p).length - (k + 1), by omega, k + 1, lv, rfl, rfl, by omega, trivial, by rw [e]; exact H⟩)
 ·
  obtain rfl : k = (mustV m p).length := by omega
  rw [List.take_length] at H
  have hrd : RdI w lv (farL m p set (mustV m p)) := RdI.of_own H.own rfl
  refine C_exit ?_
  refine C_seq (C_region rfl (R_o rfl (E_move (R_o rfl (E_call rfl (least_ (v := lv) (l := farL m p set (mustV m p)) hrd (List.ne_nil_of_mem S.min.1)) ?_)))))
  rintro _ w1 ⟨rfl, hb⟩
  replace H := H.call0 hb; clear hb
  refine R_o rfl (E_assign (R_nil (C_ret ?_)))
  with_reducible repeat (first | refine thn_ret ?_ | refine inB_ret ?_ | refine noG_ret ?_ | refine jmp_ret ?_)
  exact ret_one rfl hd ⟨rfl, H.below⟩
end Go.Sl
