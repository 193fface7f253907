/- Demands, plainly: what a bidder would have at prices. No program in sight. demands, and the answer of chapter 12. -/
import Derived.Test.YtlgdffofhnfedaaGreatW
import Derived.Test.YtlgdffofhnfedaaGreatX11
set_option linter.unusedVariables false
set_option linter.unusedSimpArgs false
namespace Go.Sl
def okPr (p : List Int) : Prop := 1 ≤ p.length ∧ p.length ≤ 8 ∧ ∀ x ∈ p, 0 ≤ x ∧ x ≤ 2000000
instance (p : List Int) : Decidable (okPr p) := by unfold okPr; infer_instance
def diffs (b p : List Int) : List Int := List.zipWith (· - ·) b p
def topP (ds : List Int) (k : Nat) : Int := maxL 0 (ds.take k)
def topsP (ds : List Int) (k : Nat) : List Int := ((List.range k).filter (fun j => ds.getD j 0 == topP ds k)).map (fun j : Nat => (j : Int))
def topV (b p : List Int) : Int := maxL 0 (diffs b p)
def topsV (b p : List Int) : List Int := topsP (diffs b p) (diffs b p).length
theorem topP_full (ds : List Int) : topP ds ds.length = maxL 0 ds := by unfold topP; rw [List.take_length]
theorem topP_succ {ds : List Int} {k : Nat} {x : Int} (hx : ds[k]? = some x) : topP ds (k + 1) = max (topP ds k) x := by
  unfold topP
  rw [take_step hx]
  simp [maxL]
theorem topP_ge {ds : List Int} {k j : Nat} {y : Int} (hj : j < k) (hy : ds[j]? = some y) : y ≤ topP ds k := by
  refine (maxL_ge (ds.take k) 0).2 y ?_
  have : (ds.take k)[j]? = some y := by rw [List.getElem?_take, if_pos hj]; exact hy
  exact List.mem_of_getElem? this
theorem tops_gt {ds : List Int} {k : Nat} {x : Int} (hx : ds[k]? = some x) (h : topP ds k < x) : topsP ds (k + 1) = [(k : Int)] := by
  have hk := lt_of_get hx
  have e : topP ds (k + 1) = x := by rw [topP_succ hx]; omega
  unfold topsP
  rw [List.range_succ, List.filter_append, e]
  have h1 : (List.range k).filter (fun j => ds.getD j 0 == x) = [] := by
    rw [List.filter_eq_nil_iff]
    intro j hj
    have hj : j < k := by simpa using hj
    have := topP_ge hj (List.getElem?_eq_getElem (show j < ds.length by omega))
    have e2 : ds.getD j 0 = ds[j] := by simp [show j < ds.length by omega]
    rw [e2]
    simp; omega
  have h2 : ds.getD k 0 = x := by rw [List.getD_eq_getElem?_getD, hx]; rfl
  rw [h1]
  simp only [List.filter_cons, h2, beq_self_eq_true, if_true, List.filter_nil, List.nil_append, List.map_cons, List.map_nil]
theorem tops_eq {ds : List Int} {k : Nat} {x : Int} (hx : ds[k]? = some x) (h : x = topP ds k) : topsP ds (k + 1) = topsP ds k ++ [(k : Int)] := by
  have e : topP ds (k + 1) = topP ds k := by rw [topP_succ hx]; omega
  have h2 : ds.getD k 0 = topP ds k := by rw [List.getD_eq_getElem?_getD, hx, ← h]; rfl
  unfold topsP
  rw [List.range_succ, List.filter_append, e]
  simp only [List.filter_cons, h2, beq_self_eq_true, if_true, List.filter_nil, List.map_append, List.map_cons, List.map_nil]
theorem tops_lt {ds : List Int} {k : Nat} {x : Int} (hx : ds[k]? = some x) (h : x < topP ds k) : topsP ds (k + 1) = topsP ds k := by
  have e : topP ds (k + 1) = topP ds k := by rw [topP_succ hx]; omega
  have h2 : ds.getD k 0 = x := by rw [List.getD_eq_getElem?_getD, hx]; rfl
  unfold topsP
  rw [List.range_succ, List.filter_append, e]
  have h3 : (x == topP ds k) = false := by rw [beq_eq_false_iff_ne]; omega
  simp only [List.filter_cons, h2, h3, Bool.false_eq_true, if_false, List.filter_nil, List.append_nil]
theorem tops_len (ds : List Int) (k : Nat) : (topsP ds k).length ≤ k := by
  unfold topsP
  rw [List.length_map]
  exact Nat.le_trans (List.length_filter_le _ _) (by simp)
end Go.Sl
set_option linter.unusedVariables false
set_option linter.unusedSimpArgs false
set_option maxRecDepth 10000
set_option maxHeartbeats 2000000
namespace Go.Sl
open Go.RowKit
open Go.Proofs
theorem dMay1_ {w0 : World} {n : Int} : Ret Tryz.prog 150 [.int .i64 n] w0 (fun v w => v = .bool (decide (¬ (0 ≤ n ∧ n ≤ 2000000))) ∧ Below w0.heap.size w0 w) := by
 refine ret_of_C Tryz.func150 rfl rfl rfl ?_
 have H := Loc.refl w0
 refine C_seq (C_region rfl (R_o rfl (E_assign (R_nil (C_seq (C_region rfl (R_o rfl (E_move (R_o rfl (E_lss rfl rfl ?_))))))))))
 refine R_o rfl (E_move (R_part (t := 5) rfl (fun h5 => ?_) (fun h5 => ?_)))
 ·
  refine R_p rfl rfl rfl ?_
  refine R_p rfl rfl rfl ?_
  refine R_o rfl (E_pick rfl ?_)
  refine R_o rfl (E_assign (R_nil (C_ret ?_)))
  with_reducible repeat (first | refine thn_ret ?_ | refine inB_ret ?_ | refine noG_ret ?_)
  first
    | exact ret_one rfl rfl ⟨congrArg Value.bool (decide_eq_true (by omega)).symm, H.below⟩
    | exact ret_one rfl rfl ⟨congrArg Value.bool (decide_eq_decide.2 (by omega)), H.below⟩
 ·
  refine R_w rfl rfl rfl (E_move ?_)
  refine R_w rfl rfl rfl (E_gtr rfl rfl ?_)
  refine R_o rfl (E_pick rfl ?_)
  refine R_o rfl (E_assign (R_nil (C_ret ?_)))
  with_reducible repeat (first | refine thn_ret ?_ | refine inB_ret ?_ | refine noG_ret ?_)
  first
    | exact ret_one rfl rfl ⟨congrArg Value.bool (decide_eq_true (by omega)).symm, H.below⟩
    | exact ret_one rfl rfl ⟨congrArg Value.bool (decide_eq_decide.2 (by omega)), H.below⟩
theorem dMay_ {w0 : World} {v : Value} {p : List Int} (hp : RdI w0 v p) :
   Ret Tryz.prog 111 [v, .int .i64 p.length] w0 (fun v w => v = .bool (decide (okPr p)) ∧ Below w0.heap.size w0 w) := by
 refine ret_of_C Tryz.func111 rfl rfl rfl ?_
 have H := Loc.refl w0
 obtain ⟨A, c, rfl, hc1, hc2⟩ := hp.len
 refine C_seq (C_region rfl (R_o rfl (E_assign (R_nil (C_seq (C_region rfl (R_o rfl (E_move (R_o rfl (E_geq rfl rfl ?_))))))))))
 refine R_o rfl (E_move (R_part (t := 7) rfl (fun h1 => ?_) (fun h1 => ?_)))
 ·
  refine R_w rfl rfl rfl (E_move ?_)
  refine R_w rfl rfl rfl (E_leq rfl rfl ?_)
  refine R_o rfl (E_pick rfl ?_)
  refine R_o rfl (E_move (R_part (t := 11) rfl (fun h2 => ?_) (fun h2 => ?_)))
  ·
   refine R_w rfl rfl rfl (E_move ?_)
   refine R_w rfl rfl rfl (E_len rfl ?_)
   refine R_w rfl rfl rfl (E_move ?_)
   refine R_w rfl rfl rfl (E_eql rfl rfl ?_)
   refine R_o rfl (E_pick rfl ?_)
   refine R_o rfl (E_move (R_part (t := 17) rfl (fun h3 => ?_) (fun h3 => ?_)))
   ·
    refine R_w rfl rfl rfl (E_move ?_)
    refine R_w rfl rfl rfl (E_call rfl (ContainsFunc_ints (p := fun x : Int => decide (¬ (0 ≤ x ∧ x ≤ 2000000))) (Abides.below H.below hp) ⟨150, #[], #[], rfl, by kernel_rfl, fun w' x u hb _ hu => by rw [show u = .int .i64 x from hu]; exact dMay1_⟩) ?_)
    rintro _ w1 ⟨rfl, hb⟩
    replace H := H.call0 hb; clear hb
    refine R_w rfl rfl rfl (E_notb rfl ?_)
    refine R_o rfl (E_pick rfl ?_)
    refine R_o rfl (E_assign (R_nil (C_ret ?_)))
    with_reducible repeat (first | refine thn_ret ?_ | refine inB_ret ?_ | refine noG_ret ?_)
    exact ret_one rfl rfl ⟨congrArg Value.bool (by
      first
        | (show (!(p.any fun x : Int => decide (¬ (0 ≤ x ∧ x ≤ 2000000)))) = decide _
           rw [List.not_any_eq_all_not, Bool.eq_iff_iff, List.all_eq_true, decide_eq_true_iff]
           exact ⟨fun h => ⟨by omega, by omega, fun x hx => by have := h x hx; rw [Bool.not_eq_true'] at this; exact Decidable.of_not_not (of_decide_eq_false this)⟩, fun h x hx => by rw [Bool.not_eq_true']; exact decide_eq_false (fun hn => hn (h.2.2 x hx))⟩)
        | (symm; rw [show (_ : Bool) = false from rfl, decide_eq_false_iff_not]; intro h; have h4 := h.1; have h5 := h.2.1; first | omega | exact h3 rfl)), H.below⟩
   ·
    refine R_p rfl rfl rfl ?_
    refine R_p rfl rfl rfl ?_
    refine R_p rfl rfl rfl ?_
    refine R_o rfl (E_pick rfl ?_)
    refine R_o rfl (E_assign (R_nil (C_ret ?_)))
    with_reducible repeat (first | refine thn_ret ?_ | refine inB_ret ?_ | refine noG_ret ?_)
    exact ret_one rfl rfl ⟨congrArg Value.bool (by
      first
        | (show (!(p.any fun x : Int => decide (¬ (0 ≤ x ∧ x ≤ 2000000)))) = decide _
           rw [List.not_any_eq_all_not, Bool.eq_iff_iff, List.all_eq_true, decide_eq_true_iff]
           exact ⟨fun h => ⟨by omega, by omega, fun x hx => by have := h x hx; rw [Bool.not_eq_true'] at this; exact Decidable.of_not_not (of_decide_eq_false this)⟩, fun h x hx => by rw [Bool.not_eq_true']; exact decide_eq_false (fun hn => hn (h.2.2 x hx))⟩)
        | (symm; rw [show (_ : Bool) = false from rfl, decide_eq_false_iff_not]; intro h; have h4 := h.1; have h5 := h.2.1; first | omega | exact h3 rfl)), H.below⟩
  ·
   refine R_p rfl rfl rfl ?_
   refine R_p rfl rfl rfl ?_
   refine R_p rfl rfl rfl ?_
   refine R_p rfl rfl rfl ?_
   refine R_o rfl (E_pick rfl ?_)
   refine R_o rfl (E_move (R_p rfl rfl rfl ?_))
   refine R_p rfl rfl rfl ?_
   refine R_p rfl rfl rfl ?_
   refine R_o rfl (E_pick rfl ?_)
   refine R_o rfl (E_assign (R_nil (C_ret ?_)))
   with_reducible repeat (first | refine thn_ret ?_ | refine inB_ret ?_ | refine noG_ret ?_)
   exact ret_one rfl rfl ⟨congrArg Value.bool (by
     first
       | (show (!(p.any fun x : Int => decide (¬ (0 ≤ x ∧ x ≤ 2000000)))) = decide _
          rw [List.not_any_eq_all_not, Bool.eq_iff_iff, List.all_eq_true, decide_eq_true_iff]
          exact ⟨fun h => ⟨by omega, by omega, fun x hx => by have := h x hx; rw [Bool.not_eq_true'] at this; exact Decidable.of_not_not (of_decide_eq_false this)⟩, fun h x hx => by rw [Bool.not_eq_true']; exact decide_eq_false (fun hn => hn (h.2.2 x hx))⟩)
       | (symm; rw [show (_ : Bool) = false from rfl, decide_eq_false_iff_not]; intro h; have h4 := h.1; have h5 := h.2.1; first | omega | exact h3 rfl)), H.below⟩
 ·
  refine R_p rfl rfl rfl ?_
  refine R_p rfl rfl rfl ?_
  refine R_o rfl (E_pick rfl ?_)
  refine R_o rfl (E_move (R_p rfl rfl rfl ?_))
  refine R_p rfl rfl rfl ?_
  refine R_p rfl rfl rfl ?_
  refine R_p rfl rfl rfl ?_
  refine R_o rfl (E_pick rfl ?_)
  refine R_o rfl (E_move (R_p rfl rfl rfl ?_))
  refine R_p rfl rfl rfl ?_
  refine R_p rfl rfl rfl ?_
  refine R_o rfl (E_pick rfl ?_)
  refine R_o rfl (E_assign (R_nil (C_ret ?_)))
  with_reducible repeat (first | refine thn_ret ?_ | refine inB_ret ?_ | refine noG_ret ?_)
  exact ret_one rfl rfl ⟨congrArg Value.bool (by
    first
      | (show (!(p.any fun x : Int => decide (¬ (0 ≤ x ∧ x ≤ 2000000)))) = decide _
         rw [List.not_any_eq_all_not, Bool.eq_iff_iff, List.all_eq_true, decide_eq_true_iff]
         exact ⟨fun h => ⟨by omega, by omega, fun x hx => by have := h x hx; rw [Bool.not_eq_true'] at this; exact Decidable.of_not_not (of_decide_eq_false this)⟩, fun h x hx => by rw [Bool.not_eq_true']; exact decide_eq_false (fun hn => hn (h.2.2 x hx))⟩)
      | (symm; rw [show (_ : Bool) = false from rfl, decide_eq_false_iff_not]; intro h; have h4 := h.1; have h5 := h.2.1; first | omega | exact h3 rfl)), H.below⟩
theorem diffs_get {b p : List Int} {k : Nat} {x y : Int} (hx : b[k]? = some x) (hy : p[k]? = some y) : (diffs b p)[k]? = some (x - y) := by
 unfold diffs
 rw [List.getElem?_zipWith, hx, hy]
theorem diffs_len {b p : List Int} (h : b = [] ∨ b.length = p.length) : (diffs b p).length = b.length := by
 unfold diffs
 rcases h with rfl | h
 · simp
 · simp [h]
theorem dGains1_ {w0 : World} {u v : Value} {b p : List Int} {b2 b3 : Nat} (hb : RdI w0 u b) (hp : RdI w0 v p) (hl : b = [] ∨ b.length = p.length) (hbb : ∀ x ∈ b, 0 ≤ x ∧ x ≤ 1000000) (hpb : ∀ x ∈ p, 0 ≤ x ∧ x ≤ 2000000) :
   IterOk Tryz.prog 180 [.pointer (some ⟨b2, 0, none⟩), .pointer (some ⟨b3, 0, none⟩)] w0 (diffs b p).length (Xint2 (diffs b p)) (fun _ _ => []) (fun _ => [cl b2 22 [u], cl b3 22 [v]]) := by
 obtain ⟨A, c, rfl, hc1, hc2⟩ := hb.len
 obtain ⟨B, d, rfl, hd1, hd2⟩ := hp.len
 have hdl := diffs_len hl
 intro l J JX W T hy hJ H
 replace H : Loc w0 W (cl b2 22 [.slice A b.length c] :: cl b3 22 [.slice B p.length d] :: T) := H
 refine ret_of_C Tryz.func180 rfl rfl rfl ?_
 refine C_seq (C_region rfl (R_o rfl (E_load H rfl rfl ?_)))
 refine R_o rfl (E_len rfl ?_)
 refine R_o rfl (E_move (R_nil (C_block (C_loop (ds := []) [0, 2, 6, 7, 8] (fun m_ ws w => ∃ (k : Nat) (hs : List (List Value)) (T : List HP), ws = [.func (.yield l) #[] #[], .pointer (some ⟨b3, 0, none⟩), .slice A b.length c, .int .i64 b.length, .int .i64 k] ∧ m_ = b.length - k ∧ k ≤ b.length ∧ hs.length = k ∧ J hs T ∧ Loc w0 w (cl b2 22 [.slice A b.length c] :: cl b3 22 [.slice B p.length d] :: T)) (m := b.length) (by first | rfl | exact hd) ?_ ?_))))
 · exact ⟨0, [], T, rfl, by omega, by omega, rfl, hJ, H⟩
 intro m vs ρ₀ w hd hI
 clear H hJ T
 obtain ⟨k, hs, T, rfl, rfl, hk, hl2, hJ, H⟩ := hI
 refine C_seq (C_region rfl (R_o rfl (E_lss rfl rfl ?_)))
 refine R_nil (C_seq (C_cond (t := 9) rfl (fun hlt => ?_) (fun hlt => ?_)))
 ·
  obtain ⟨x, hx⟩ := get_of (xs := b) (k := k) (by omega)
  obtain ⟨z, hz⟩ := get_of (xs := p) (k := k) (hl.elim (fun e => by subst e; simp at hx) (fun e => by omega))
  have hxb := hbb x (mem_of_get hx)
  have hzb := hpb z (mem_of_get hz)
  have hkp := lt_of_get hz
  obtain ⟨vs, hvs⟩ : ∃ vs, vs = [Value.int .i64 k, Value.int .i64 (x - z)] := ⟨_, rfl⟩
  refine C_skip (C_seq (C_block (C_seq (C_region rfl (R_o rfl (E_move (R_o rfl (E_idxr hb rfl rfl (by omega) (by omega) ?_))))))))
  refine R_o rfl (E_loadi hb H rfl hx ?_)
  refine R_o rfl (E_assign (R_o rfl (E_assign (R_nil (C_seq (C_region rfl (R_o rfl (E_move (R_o rfl (E_move (R_o rfl (E_move (R_o rfl (E_load H rfl rfl ?_))))))))))))))
  refine R_o rfl (E_move (R_o rfl (E_idxr hp rfl rfl (by omega) (by omega) ?_)))
  refine R_o rfl (E_loadi hp H rfl hz ?_)
  refine R_o rfl (E_sub rfl rfl (by omega) ?_)
  refine R_o rfl (E_yield rfl (by rw [hvs]; rfl) (hy hs vs [cl b2 22 [.slice A b.length c], cl b3 22 [.slice B p.length d]] w T (by omega) (by rw [hl2]; exact ⟨x - z, diffs_get hx hz, hvs⟩) hJ H) ?_)
  intro bb w1 hor
  refine R_o rfl (E_notb rfl ?_)
  refine R_nil (C_condb (t := 22) rfl (fun hnb => ?_) (fun hnb => ?_))
  ·
   obtain ⟨rfl, T2, hJ2, H2⟩ := hor.resolve_left (fun h => by rw [h.1] at hnb; cases hnb)
   refine C_ret ?_
   with_reducible repeat (first | refine thn_ret ?_ | refine inB_ret ?_ | refine noG_ret ?_)
   first
     | exact ret_none rfl hd ⟨hs ++ [vs], T2, .inr hJ2, H2⟩
     | exact end_none rfl hd ⟨hs, T, .inl ⟨by rw [hl2, hk, hdl], hJ⟩, H⟩
  ·
   obtain ⟨rfl, T2, hJ2, H2⟩ := hor.resolve_right (fun h => by rw [h.1] at hnb; cases hnb)
   refine C_skip (C_region rfl (R_o rfl (E_add rfl rfl (by omega) ?_)))
   refine R_o rfl (E_move (R_nil ?_))
   exact ⟨hd, b.length - (k + 1), by omega, k + 1, hs ++ [vs], T2, rfl, rfl, by omega, by simp [hl2], hJ2, H2⟩
 ·
  have hk : k = b.length := by omega
  refine C_exit ?_
  with_reducible repeat (first | refine inB_normal ?_ | refine noG_normal ?_ | refine thn_exit ?_ | refine inB_exit ?_ | refine inB_pass rfl ?_)
  first
    | exact ret_none rfl hd ⟨hs ++ [vs], T2, .inr hJ2, H2⟩
    | exact end_none rfl hd ⟨hs, T, .inl ⟨by rw [hl2, hk, hdl], hJ⟩, H⟩
theorem cells_one {v : Value} (h : v.oneCell' = true) : v.cells.toList = [v] := by cases v <;> first | rfl | (cases h)
theorem dGains_ {w0 : World} {u v : Value} (hu : u.oneCell' = true) (hv : v.oneCell' = true) :
   Ret Tryz.prog 152 [u, v] w0 (fun r w => ∃ b2 b3, r = .func (.func 180) #[] #[.pointer (some ⟨b2, 0, none⟩), .pointer (some ⟨b3, 0, none⟩)] ∧ Loc w0 w [cl b2 22 [u], cl b3 22 [v]]) := by
 refine ret_of_C Tryz.func152 rfl rfl rfl ?_
 have H := Loc.refl w0
 refine C_seq (C_region rfl (R_o rfl (E_box (cs := [u]) (cells_one hu) H ?_)))
 clear H; intro w b2 H
 refine R_o rfl (E_box (cs := [v]) (cells_one hv) H ?_)
 clear H; intro w b3 H
 refine R_o rfl (E_assign (R_nil (C_seq (C_region rfl (R_o rfl (E_makeFunc rfl rfl ?_))))))
 refine R_o rfl (E_assign (R_nil (C_ret ?_)))
 with_reducible repeat (first | refine thn_ret ?_ | refine inB_ret ?_ | refine noG_ret ?_)
 exact ret_one rfl rfl ⟨b2, b3, rfl, H.swap⟩
theorem dOf1_ {w0 w : World} {L : List HP} {b4 b5 b6 n c : Nat} {A : Option Addr} {gn : Int} {x : Value} (hc : n ≤ c) (H : Loc w0 w (cl b4 22 [.slice A n c] :: cl b6 3 [.int .i64 gn] :: cl b5 4 [x] :: L)) :
   RetD Tryz.prog 151 [.pointer (some ⟨b4, 0, none⟩), .pointer (some ⟨b6, 0, none⟩), .pointer (some ⟨b5, 0, none⟩)] w (fun _ w' => Loc w0 w' (cl b5 4 [.bool (decide (gn = 0))] :: cl b4 22 [.slice A n n] :: cl b6 3 [.int .i64 gn] :: L)) := by
 refine retD_of_C Tryz.func151 rfl rfl rfl ?_
 refine C_drawL [4, 5] H (by kernel_rfl) (fun w H => ?_)
 refine D_take 0 rfl rfl rfl (by kernel_rfl) (by first | exact H | exact H.drop | exact H.drop.drop | exact H.drop.drop.drop | exact H.drop.drop.drop.drop) (fun w HS K Z kk => E_load HS rfl rfl kk) ?_
 refine D_take 2 rfl rfl rfl (by kernel_rfl) (by first | exact H | exact H.drop | exact H.drop.drop | exact H.drop.drop.drop | exact H.drop.drop.drop.drop) (fun w HS K Z kk => E_load HS rfl rfl kk) ?_
 refine D_takeT 3 rfl rfl rfl (by kernel_rfl) (fun w K Z kk => E_eql rfl rfl kk) ?_
 refine D_act 1 rfl rfl (by kernel_rfl) (E_call rfl (Clip_ints hc) ?_)
 rintro _ w1 ⟨rfl, hb⟩
 replace H := H.call0 hb; clear hb
 refine ⟨fun _ _ => (by first | exact H | exact H.drop | exact H.drop.drop | exact H.drop.drop.drop | exact H.drop.drop.drop.drop), ?_⟩
 refine D_actn 4 rfl (by kernel_rfl) (E_store (v := .slice A n n) H rfl rfl rfl (by simp) ?_)
 clear H; intro w H
 refine ⟨fun h => Bool.noConfusion (h : true = false), ?_⟩
 refine D_actn 5 rfl (by kernel_rfl) (E_store (v := .bool (decide (gn = 0))) H rfl rfl rfl (by simp) ?_)
 clear H; intro w H
 refine ⟨fun h => Bool.noConfusion (h : true = false), ?_⟩
 refine D_done (by kernel_rfl) ?_
 with_reducible repeat (first | refine inB_normal ?_ | refine noG_normal ?_ | refine thn_exit ?_ | refine inB_exit ?_ | refine inB_pass rfl ?_)
 exact end_none rfl rfl H
theorem roundQ_normal {w0 : World} {J : List (List Value) → List HP → Prop} {JR : Code → List (List Value) → List HP → Prop} {hs : List (List Value)} {X F : List HP} {ρ : Rg} {w : World} : roundQ w0 J JR hs X F .normal ρ w = ∃ T, J hs T ∧ Loc w0 w (X ++ (T ++ F)) := rfl
theorem dOf_ {w0 : World} {u v : Value} {b p : List Int} (hb : RdI w0 u b) (hp : RdI w0 v p) (hpr : okPr p) (hbk : b = [] ∨ okVec b p.length) :
   Ret Tryz.prog 112 [u, v] w0 (fun r w => ∃ x, r = .tuple #[x, .bool (decide (topV b p = 0)), .int .i64 (topV b p), .int .i64 0] ∧ Loc w0 w [rdv x (fun w => RdI w x (topsV b p))]) := by
 refine ret_of_CM Tryz.func112 rfl rfl rfl ?_
 have H := Loc.refl w0
 have hl : b = [] ∨ b.length = p.length := hbk.imp id fun h => by have := h.2.2.1; omega
 have hbb : ∀ x ∈ b, 0 ≤ x ∧ x ≤ 1000000 := fun x hx => hbk.elim (fun e => by subst e; cases hx) (fun h => h.2.2.2 x hx)
 obtain ⟨A, c, rfl, hc1, hc2⟩ := hb.len
 obtain ⟨B, d1, rfl, hd1, hd2⟩ := hp.len
 have hp8 := hpr.2.1
 refine C_seq (C_region rfl (R_o rfl (E_alloc H ?_)))
 clear H; intro w b4 H
 refine R_o rfl (E_alloc H ?_)
 clear H; intro w b5 H
 refine R_o rfl (E_alloc H ?_)
 clear H; intro w b6 H
 refine R_o rfl (E_assign (R_nil (C_seq (C_seq (C_region rfl (R_o rfl (E_move (R_o rfl (E_move (R_o rfl (E_len rfl ?_)))))))))))
 refine R_o rfl (E_call rfl (dMay_ (Abides.below H.below hp)) ?_)
 rintro _ w1 ⟨rfl, hb⟩
 replace H := H.call0 hb; clear hb
 refine R_o rfl (E_not rfl ?_)
 refine R_o rfl (E_move (R_part (t := 15) rfl (fun h15 => ?_) (fun h15 => ?_)))
 ·
  exact absurd hpr h15
 ·
  refine R_w rfl rfl rfl (E_move ?_)
  refine R_w rfl rfl rfl (E_len rfl ?_)
  refine R_w rfl rfl rfl (E_gtr rfl rfl ?_)
  refine R_w rfl rfl rfl (E_move ?_)
  refine R_part (t := 19) rfl (fun h19 => ?_) (fun h19 => ?_)
  ·
   refine R_w rfl rfl rfl (E_move ?_)
   refine R_w rfl rfl rfl (E_move ?_)
   refine R_w rfl rfl rfl (E_len rfl ?_)
   refine R_w rfl rfl rfl (E_call rfl (VCheck_ (Abides.below H.below hb) ⟨by omega, by omega⟩) ?_)
   rintro _ w1 ⟨rfl, hb⟩
   replace H := H.call0 hb; clear hb
   refine R_w rfl rfl rfl (E_not rfl ?_)
   refine R_w rfl rfl rfl (E_pick rfl ?_)
   refine R_o rfl (E_pick rfl ?_)
   refine R_nil (C_cond (t := 26) rfl (fun h26 => ?_) (fun h26 => ?_))
   ·
    exact absurd (hbk.resolve_left (fun e => by subst e; simp at h19)) h26
   ·
    refine C_skip (C_seq (C_region rfl (R_o rfl (E_makeFunc (f := []) (c := [.pointer (some ⟨b4, 0, none⟩), .pointer (some ⟨b6, 0, none⟩), .pointer (some ⟨b5, 0, none⟩)]) rfl rfl ?_))))
    refine R_defer rfl ?_
    refine R_nil (C_seq (C_seq (C_region rfl (R_o rfl (E_move (R_o rfl (E_move (R_o rfl (E_call rfl (dGains_ (u := .slice A b.length c) (v := .slice B p.length d1) rfl rfl) ?_)))))))))
    rintro _ w1 ⟨b2, b3, rfl, hc⟩
    replace H := H.call2 hc; clear hc
    replace H : Loc w0 _ [cl b2 22 [.slice A b.length c], cl b3 22 [.slice B p.length d1], row 3 1 (.slice none 0 0) 0 [], cl b4 22 [.slice none 0 0], cl b6 3 [.int .i64 0], cl b5 4 [.bool false]] := (nilRow 3 1 H).o6
    refine R_nil (C_block (C_rangeFunc (ps := [31, 32]) rfl rfl (by rintro k vs ⟨x, _, rfl⟩; rfl) (dGains1_ hb hp hl hbb hpr.2.2) (fun hs T => ∃ vi, hs.length ≤ (diffs b p).length ∧ T = row 3 1 (vi) (topsP (diffs b p) hs.length).length (ints .i64 (topsP (diffs b p) hs.length)) :: cl b4 22 [vi] :: cl b6 3 [.int .i64 (topP (diffs b p) hs.length)] :: cl b5 4 [.bool false] :: []) (fun _ _ _ => False) H ⟨.slice none 0 0, by simp, rfl⟩ ?_ ?_ ?_))
    ·
     intro l hs vs F W T hlt hX hJ H
     obtain ⟨x, hx, rfl⟩ := hX
     obtain ⟨vi, hle, rfl⟩ := hJ
     have hlt8 := lt_of_get hx
     have hdl := diffs_len hl
     have htl := tops_len (diffs b p) hs.length
     have hbl : b.length ≤ 8 := hl.elim (fun e => by subst e; simp) (fun e => by omega)
     replace H : Loc w0 W (row 3 1 (vi) (topsP (diffs b p) hs.length).length (ints .i64 (topsP (diffs b p) hs.length)) :: cl b4 22 [vi] :: cl b6 3 [.int .i64 (topP (diffs b p) hs.length)] :: cl b5 4 [.bool false] :: F) := H
     refine C_seq (C_region rfl (R_o rfl (E_assign (R_nil (C_region rfl (R_o rfl (E_assign (R_nil (⟨rfl, row 3 1 (vi) (topsP (diffs b p) hs.length).length (ints .i64 (topsP (diffs b p) hs.length)) :: cl b4 22 [vi] :: cl b6 3 [.int .i64 (topP (diffs b p) hs.length)] :: cl b5 4 [.bool false] :: [], H, fun F w H => ?_⟩)))))))))
     replace H : Loc w0 w (row 3 1 (vi) (topsP (diffs b p) hs.length).length (ints .i64 (topsP (diffs b p) hs.length)) :: cl b4 22 [vi] :: cl b6 3 [.int .i64 (topP (diffs b p) hs.length)] :: cl b5 4 [.bool false] :: F) := H
     refine C_block (C_block (C_seq (C_region rfl (R_o rfl (E_move (R_o rfl (E_load H rfl rfl ?_)))))))
     refine R_o rfl (E_gtr rfl rfl ?_)
     refine R_o rfl (E_assign (R_nil (C_cond (t := 33) rfl (fun hgt => ?_) (fun hgt => ?_))))
     ·
      refine C_region rfl (R_o rfl (E_move (R_o rfl (E_lit (vs := [.int .i64 hs.length]) [.tmp 37] rfl rfl rfl rfl rfl H ?_))))
      clear H; intro w b38 H
      replace H := row_of_lit (n := 1) H (by omega) rfl
      refine R_o rfl (E_move (R_n rfl (E_store (v := .slice (some ⟨b38, 0, none⟩) 1 1) H rfl rfl rfl (by simp) ?_)))
      clear H; intro w H
      simp only [List.set_cons_zero] at H
      refine R_n rfl (E_store (v := .int .i64 x) H rfl rfl rfl (by simp) ?_)
      clear H; intro w H
      simp only [List.set_cons_zero] at H
      refine R_nil ?_
      with_reducible repeat (first | refine inB_normal ?_ | refine thn_exit ?_ | refine inB_exit ?_ | refine inB_pass rfl ?_)
      have hsl : (hs ++ [[Value.int .i64 hs.length, Value.int .i64 x]]).length = hs.length + 1 := by simp
      rw [roundQ_normal]
      rw [hsl]
      first
        | (rw [tops_gt hx hgt, topP_succ hx, show max (topP (diffs b p) hs.length) x = x by omega]
           refine ⟨_, ⟨.slice (some ⟨b38, 0, none⟩) 1 1, by omega, rfl⟩, ?_⟩
           replace H := (H.fr (row 3 1 vi (topsP (diffs b p) hs.length).length (ints .i64 (topsP (diffs b p) hs.length)))).drop
           exact (((H.fr (cl b6 3 [.int .i64 x])).fr (cl b4 22 [.slice (some ⟨b38, 0, none⟩) 1 1])).fr (row 3 1 (.slice (some ⟨b38, 0, none⟩) 1 1) 1 [.int .i64 hs.length])))
        | (rw [tops_eq hx heq, topP_succ hx, show max (topP (diffs b p) hs.length) x = topP (diffs b p) hs.length by omega, List.length_append, ints_append]
           exact ⟨_, ⟨.slice A47 ((topsP (diffs b p) hs.length).length + 1) c47, by omega, rfl⟩, H.swap⟩)
        | (rw [tops_lt hx (by omega), topP_succ hx, show max (topP (diffs b p) hs.length) x = topP (diffs b p) hs.length by omega]
           exact ⟨_, ⟨vi, by omega, rfl⟩, H⟩)
     ·
      refine C_seq (C_region rfl (R_o rfl (E_move (R_o rfl (E_load H rfl rfl ?_)))))
      refine R_o rfl (E_eql rfl rfl ?_)
      refine R_o rfl (E_assign (R_nil (C_cond (t := 40) rfl (fun heq => ?_) (fun heq => ?_))))
      ·
       refine C_region rfl (R_o rfl (E_load H rfl rfl ?_))
       refine R_o rfl (E_move (R_o rfl (E_lit (vs := [.int .i64 hs.length]) [.tmp 45] rfl rfl rfl rfl rfl H ?_)))
       clear H; intro w b46 H
       refine R_o rfl (E_append1 (v := vi) (b := b46) (u := .int .i64 hs.length) H rfl rfl rfl (by omega) (by omega) ?_)
       clear H; intro w v47 H
       obtain ⟨A47, c47, rfl, _⟩ := H.len (v := v47)
       refine R_n rfl (E_store (v := .slice A47 ((topsP (diffs b p) hs.length).length + 1) c47) H rfl rfl rfl (by simp) ?_)
       clear H; intro w H
       simp only [List.set_cons_zero] at H
       refine R_nil ?_
       with_reducible repeat (first | refine inB_normal ?_ | refine thn_exit ?_ | refine inB_exit ?_ | refine inB_pass rfl ?_)
       have hsl : (hs ++ [[Value.int .i64 hs.length, Value.int .i64 x]]).length = hs.length + 1 := by simp
       rw [roundQ_normal]
       rw [hsl]
       first
         | (rw [tops_gt hx hgt, topP_succ hx, show max (topP (diffs b p) hs.length) x = x by omega]
            refine ⟨_, ⟨.slice (some ⟨b38, 0, none⟩) 1 1, by omega, rfl⟩, ?_⟩
            replace H := (H.fr (row 3 1 vi (topsP (diffs b p) hs.length).length (ints .i64 (topsP (diffs b p) hs.length)))).drop
            exact (((H.fr (cl b6 3 [.int .i64 x])).fr (cl b4 22 [.slice (some ⟨b38, 0, none⟩) 1 1])).fr (row 3 1 (.slice (some ⟨b38, 0, none⟩) 1 1) 1 [.int .i64 hs.length])))
         | (rw [tops_eq hx heq, topP_succ hx, show max (topP (diffs b p) hs.length) x = topP (diffs b p) hs.length by omega, List.length_append, ints_append]
            exact ⟨_, ⟨.slice A47 ((topsP (diffs b p) hs.length).length + 1) c47, by omega, rfl⟩, H.swap⟩)
         | (rw [tops_lt hx (by omega), topP_succ hx, show max (topP (diffs b p) hs.length) x = topP (diffs b p) hs.length by omega]
            exact ⟨_, ⟨vi, by omega, rfl⟩, H⟩)
      ·
       refine C_skip ?_
       with_reducible repeat (first | refine inB_normal ?_ | refine thn_exit ?_ | refine inB_exit ?_ | refine inB_pass rfl ?_)
       have hsl : (hs ++ [[Value.int .i64 hs.length, Value.int .i64 x]]).length = hs.length + 1 := by simp
       rw [roundQ_normal]
       rw [hsl]
       first
         | (rw [tops_gt hx hgt, topP_succ hx, show max (topP (diffs b p) hs.length) x = x by omega]
            refine ⟨_, ⟨.slice (some ⟨b38, 0, none⟩) 1 1, by omega, rfl⟩, ?_⟩
            replace H := (H.fr (row 3 1 vi (topsP (diffs b p) hs.length).length (ints .i64 (topsP (diffs b p) hs.length)))).drop
            exact (((H.fr (cl b6 3 [.int .i64 x])).fr (cl b4 22 [.slice (some ⟨b38, 0, none⟩) 1 1])).fr (row 3 1 (.slice (some ⟨b38, 0, none⟩) 1 1) 1 [.int .i64 hs.length])))
         | (rw [tops_eq hx heq, topP_succ hx, show max (topP (diffs b p) hs.length) x = topP (diffs b p) hs.length by omega, List.length_append, ints_append]
            exact ⟨_, ⟨.slice A47 ((topsP (diffs b p) hs.length).length + 1) c47, by omega, rfl⟩, H.swap⟩)
         | (rw [tops_lt hx (by omega), topP_succ hx, show max (topP (diffs b p) hs.length) x = topP (diffs b p) hs.length by omega]
            exact ⟨_, ⟨vi, by omega, rfl⟩, H⟩)
    ·
     intro D hs T w hN hJ H
     obtain ⟨vi, hle, rfl⟩ := hJ
     replace H := H.perm (show (dfr D :: ([cl b2 22 [.slice A b.length c], cl b3 22 [.slice B p.length d1]] ++ (row 3 1 (vi) (topsP (diffs b p) hs.length).length (ints .i64 (topsP (diffs b p) hs.length)) :: cl b4 22 [vi] :: cl b6 3 [.int .i64 (topP (diffs b p) hs.length)] :: cl b5 4 [.bool false] :: []))).Perm (row 3 1 vi (topsP (diffs b p) hs.length).length (ints .i64 (topsP (diffs b p) hs.length)) :: dfr D :: cl b2 22 [.slice A b.length c] :: cl b3 22 [.slice B p.length d1] :: cl b4 22 [vi] :: cl b6 3 [.int .i64 (topP (diffs b p) hs.length)] :: cl b5 4 [.bool false] :: []) from List.perm_middle (l₁ := [_, _, _]))
     obtain ⟨ni, hni⟩ : ∃ ni, ni = (topsP (diffs b p) hs.length).length := ⟨_, rfl⟩
     rw [← hni] at H
     obtain ⟨Ai, ci, rfl, hci, _⟩ := H.len (v := vi)
     refine C_seq (C_drawS [] [cl b4 22 [.slice Ai ni ci], cl b6 3 [.int .i64 (topP (diffs b p) hs.length)], cl b5 4 [.bool false]] H (by kernel_rfl) (fun w H => ?_))
     refine D_take 0 rfl rfl rfl (by kernel_rfl) (by exact H.o3) (fun w HS K Z kk => E_load HS rfl rfl kk) ?_
     refine D_take 1 rfl rfl rfl (by kernel_rfl) (by exact H.o3) (fun w HS K Z kk => E_load HS rfl rfl kk) ?_
     refine D_take 2 rfl rfl rfl (by kernel_rfl) (by exact H.o3) (fun w HS K Z kk => E_load HS rfl rfl kk) ?_
     refine D_actn 3 rfl (by kernel_rfl) (E_store (v := .slice Ai ni ci) H rfl rfl rfl (by simp) ?_)
     clear H; intro w H
     simp only [List.set_cons_zero] at H
     refine ⟨fun _ _ => (by exact H.o3), ?_⟩
     refine D_actn 4 rfl (by kernel_rfl) (E_store (v := .bool false) H rfl rfl rfl (by simp) ?_)
     clear H; intro w H
     simp only [List.set_cons_zero] at H
     refine ⟨fun _ _ => (by exact H.o3), ?_⟩
     refine D_actn 5 rfl (by kernel_rfl) (E_store (v := .int .i64 (topP (diffs b p) hs.length)) H rfl rfl rfl (by simp) ?_)
     clear H; intro w H
     simp only [List.set_cons_zero] at H
     refine ⟨fun _ _ => (by exact H.o3), ?_⟩
     refine D_takeT 6 rfl rfl rfl (by kernel_rfl) (fun w K Z kk => E_assign kk) ?_
     refine D_done (by kernel_rfl) ?_
     refine C_ret ?_
     with_reducible repeat (first | refine thn_ret ?_ | refine inB_ret ?_ | refine noG_ret ?_)
     refine Or.inl ⟨D, _, rfl, run_takeDeferred (H.fr (dfr D)).get, ?_⟩
     replace H := ((H.fr (dfr D)).putObj (.deferred none)).drop
     refine Or.inr ⟨151, #[.pointer (some ⟨b4, 0, none⟩), .pointer (some ⟨b6, 0, none⟩), .pointer (some ⟨b5, 0, none⟩)], rfl, rfl, by kernel_rfl, ?_⟩
     refine (dOf1_ (n := ni) (c := ci) (A := Ai) (gn := topP (diffs b p) hs.length) (x := .bool false) (L := [row 3 1 (.slice Ai ni ci) ni (ints .i64 (topsP (diffs b p) hs.length))]) hci H.o4).mono fun _ w H => ?_
     refine resOf_list (rs := [.cell 4 22, .cell 5 4, .cell 6 3, .tmp 7]) (vs := [.slice Ai ni ni, .bool (decide (topP (diffs b p) hs.length = 0)), .int .i64 (topP (diffs b p) hs.length), .int .i64 0]) rfl ⟨res_cell1 H rfl rfl, res_cell1 H rfl rfl, res_cell1 H rfl rfl, res_tmp rfl, trivial⟩ ⟨_, rfl, .slice Ai ni ni, ?_, ?_⟩
     · rw [hN, topP_full]; rfl
     · have H2 := (H.fr (row 3 1 (.slice Ai ni ci) ni (ints .i64 (topsP (diffs b p) hs.length)))).fst.rowOwn.ownClip.ownInts
       rw [hN] at H2
       exact H2
    ·
     intro D c hs T w hJR H
     exact hJR.elim
  ·
   refine R_p rfl rfl rfl ?_
   refine R_p rfl rfl rfl ?_
   refine R_p rfl rfl rfl ?_
   refine R_p rfl rfl rfl ?_
   refine R_p rfl rfl rfl ?_
   refine R_w rfl rfl rfl (E_pick rfl ?_)
   refine R_o rfl (E_pick rfl ?_)
   refine R_nil (C_false (t := 26) rfl ?_)
   refine C_skip (C_seq (C_region rfl (R_o rfl (E_makeFunc (f := []) (c := [.pointer (some ⟨b4, 0, none⟩), .pointer (some ⟨b6, 0, none⟩), .pointer (some ⟨b5, 0, none⟩)]) rfl rfl ?_))))
   refine R_defer rfl ?_
   refine R_nil (C_seq (C_seq (C_region rfl (R_o rfl (E_move (R_o rfl (E_move (R_o rfl (E_call rfl (dGains_ (u := .slice A b.length c) (v := .slice B p.length d1) rfl rfl) ?_)))))))))
   rintro _ w1 ⟨b2, b3, rfl, hc⟩
   replace H := H.call2 hc; clear hc
   replace H : Loc w0 _ [cl b2 22 [.slice A b.length c], cl b3 22 [.slice B p.length d1], row 3 1 (.slice none 0 0) 0 [], cl b4 22 [.slice none 0 0], cl b6 3 [.int .i64 0], cl b5 4 [.bool false]] := (nilRow 3 1 H).o6
   refine R_nil (C_block (C_rangeFunc (ps := [31, 32]) rfl rfl (by rintro k vs ⟨x, _, rfl⟩; rfl) (dGains1_ hb hp hl hbb hpr.2.2) (fun hs T => ∃ vi, hs.length ≤ (diffs b p).length ∧ T = row 3 1 (vi) (topsP (diffs b p) hs.length).length (ints .i64 (topsP (diffs b p) hs.length)) :: cl b4 22 [vi] :: cl b6 3 [.int .i64 (topP (diffs b p) hs.length)] :: cl b5 4 [.bool false] :: []) (fun _ _ _ => False) H ⟨.slice none 0 0, by simp, rfl⟩ ?_ ?_ ?_))
   ·
    intro l hs vs F W T hlt hX hJ H
    obtain ⟨x, hx, rfl⟩ := hX
    obtain ⟨vi, hle, rfl⟩ := hJ
    have hlt8 := lt_of_get hx
    have hdl := diffs_len hl
    have htl := tops_len (diffs b p) hs.length
    have hbl : b.length ≤ 8 := hl.elim (fun e => by subst e; simp) (fun e => by omega)
    replace H : Loc w0 W (row 3 1 (vi) (topsP (diffs b p) hs.length).length (ints .i64 (topsP (diffs b p) hs.length)) :: cl b4 22 [vi] :: cl b6 3 [.int .i64 (topP (diffs b p) hs.length)] :: cl b5 4 [.bool false] :: F) := H
    refine C_seq (C_region rfl (R_o rfl (E_assign (R_nil (C_region rfl (R_o rfl (E_assign (R_nil (⟨rfl, row 3 1 (vi) (topsP (diffs b p) hs.length).length (ints .i64 (topsP (diffs b p) hs.length)) :: cl b4 22 [vi] :: cl b6 3 [.int .i64 (topP (diffs b p) hs.length)] :: cl b5 4 [.bool false] :: [], H, fun F w H => ?_⟩)))))))))
    replace H : Loc w0 w (row 3 1 (vi) (topsP (diffs b p) hs.length).length (ints .i64 (topsP (diffs b p) hs.length)) :: cl b4 22 [vi] :: cl b6 3 [.int .i64 (topP (diffs b p) hs.length)] :: cl b5 4 [.bool false] :: F) := H
    refine C_block (C_block (C_seq (C_region rfl (R_o rfl (E_move (R_o rfl (E_load H rfl rfl ?_)))))))
    refine R_o rfl (E_gtr rfl rfl ?_)
    refine R_o rfl (E_assign (R_nil (C_cond (t := 33) rfl (fun hgt => ?_) (fun hgt => ?_))))
    ·
     refine C_region rfl (R_o rfl (E_move (R_o rfl (E_lit (vs := [.int .i64 hs.length]) [.tmp 37] rfl rfl rfl rfl rfl H ?_))))
     clear H; intro w b38 H
     replace H := row_of_lit (n := 1) H (by omega) rfl
     refine R_o rfl (E_move (R_n rfl (E_store (v := .slice (some ⟨b38, 0, none⟩) 1 1) H rfl rfl rfl (by simp) ?_)))
     clear H; intro w H
     simp only [List.set_cons_zero] at H
     refine R_n rfl (E_store (v := .int .i64 x) H rfl rfl rfl (by simp) ?_)
     clear H; intro w H
     simp only [List.set_cons_zero] at H
     refine R_nil ?_
     with_reducible repeat (first | refine inB_normal ?_ | refine thn_exit ?_ | refine inB_exit ?_ | refine inB_pass rfl ?_)
     have hsl : (hs ++ [[Value.int .i64 hs.length, Value.int .i64 x]]).length = hs.length + 1 := by simp
     rw [roundQ_normal]
     rw [hsl]
     first
       | (rw [tops_gt hx hgt, topP_succ hx, show max (topP (diffs b p) hs.length) x = x by omega]
          refine ⟨_, ⟨.slice (some ⟨b38, 0, none⟩) 1 1, by omega, rfl⟩, ?_⟩
          replace H := (H.fr (row 3 1 vi (topsP (diffs b p) hs.length).length (ints .i64 (topsP (diffs b p) hs.length)))).drop
          exact (((H.fr (cl b6 3 [.int .i64 x])).fr (cl b4 22 [.slice (some ⟨b38, 0, none⟩) 1 1])).fr (row 3 1 (.slice (some ⟨b38, 0, none⟩) 1 1) 1 [.int .i64 hs.length])))
       | (rw [tops_eq hx heq, topP_succ hx, show max (topP (diffs b p) hs.length) x = topP (diffs b p) hs.length by omega, List.length_append, ints_append]
          exact ⟨_, ⟨.slice A47 ((topsP (diffs b p) hs.length).length + 1) c47, by omega, rfl⟩, H.swap⟩)
       | (rw [tops_lt hx (by omega), topP_succ hx, show max (topP (diffs b p) hs.length) x = topP (diffs b p) hs.length by omega]
          exact ⟨_, ⟨vi, by omega, rfl⟩, H⟩)
    ·
     refine C_seq (C_region rfl (R_o rfl (E_move (R_o rfl (E_load H rfl rfl ?_)))))
     refine R_o rfl (E_eql rfl rfl ?_)
     refine R_o rfl (E_assign (R_nil (C_cond (t := 40) rfl (fun heq => ?_) (fun heq => ?_))))
     ·
      refine C_region rfl (R_o rfl (E_load H rfl rfl ?_))
      refine R_o rfl (E_move (R_o rfl (E_lit (vs := [.int .i64 hs.length]) [.tmp 45] rfl rfl rfl rfl rfl H ?_)))
      clear H; intro w b46 H
      refine R_o rfl (E_append1 (v := vi) (b := b46) (u := .int .i64 hs.length) H rfl rfl rfl (by omega) (by omega) ?_)
      clear H; intro w v47 H
      obtain ⟨A47, c47, rfl, _⟩ := H.len (v := v47)
      refine R_n rfl (E_store (v := .slice A47 ((topsP (diffs b p) hs.length).length + 1) c47) H rfl rfl rfl (by simp) ?_)
      clear H; intro w H
      simp only [List.set_cons_zero] at H
      refine R_nil ?_
      with_reducible repeat (first | refine inB_normal ?_ | refine thn_exit ?_ | refine inB_exit ?_ | refine inB_pass rfl ?_)
      have hsl : (hs ++ [[Value.int .i64 hs.length, Value.int .i64 x]]).length = hs.length + 1 := by simp
      rw [roundQ_normal]
      rw [hsl]
      first
        | (rw [tops_gt hx hgt, topP_succ hx, show max (topP (diffs b p) hs.length) x = x by omega]
           refine ⟨_, ⟨.slice (some ⟨b38, 0, none⟩) 1 1, by omega, rfl⟩, ?_⟩
           replace H := (H.fr (row 3 1 vi (topsP (diffs b p) hs.length).length (ints .i64 (topsP (diffs b p) hs.length)))).drop
           exact (((H.fr (cl b6 3 [.int .i64 x])).fr (cl b4 22 [.slice (some ⟨b38, 0, none⟩) 1 1])).fr (row 3 1 (.slice (some ⟨b38, 0, none⟩) 1 1) 1 [.int .i64 hs.length])))
        | (rw [tops_eq hx heq, topP_succ hx, show max (topP (diffs b p) hs.length) x = topP (diffs b p) hs.length by omega, List.length_append, ints_append]
           exact ⟨_, ⟨.slice A47 ((topsP (diffs b p) hs.length).length + 1) c47, by omega, rfl⟩, H.swap⟩)
        | (rw [tops_lt hx (by omega), topP_succ hx, show max (topP (diffs b p) hs.length) x = topP (diffs b p) hs.length by omega]
           exact ⟨_, ⟨vi, by omega, rfl⟩, H⟩)
     ·
      refine C_skip ?_
      with_reducible repeat (first | refine inB_normal ?_ | refine thn_exit ?_ | refine inB_exit ?_ | refine inB_pass rfl ?_)
      have hsl : (hs ++ [[Value.int .i64 hs.length, Value.int .i64 x]]).length = hs.length + 1 := by simp
      rw [roundQ_normal]
      rw [hsl]
      first
        | (rw [tops_gt hx hgt, topP_succ hx, show max (topP (diffs b p) hs.length) x = x by omega]
           refine ⟨_, ⟨.slice (some ⟨b38, 0, none⟩) 1 1, by omega, rfl⟩, ?_⟩
           replace H := (H.fr (row 3 1 vi (topsP (diffs b p) hs.length).length (ints .i64 (topsP (diffs b p) hs.length)))).drop
           exact (((H.fr (cl b6 3 [.int .i64 x])).fr (cl b4 22 [.slice (some ⟨b38, 0, none⟩) 1 1])).fr (row 3 1 (.slice (some ⟨b38, 0, none⟩) 1 1) 1 [.int .i64 hs.length])))
        | (rw [tops_eq hx heq, topP_succ hx, show max (topP (diffs b p) hs.length) x = topP (diffs b p) hs.length by omega, List.length_append, ints_append]
           exact ⟨_, ⟨.slice A47 ((topsP (diffs b p) hs.length).length + 1) c47, by omega, rfl⟩, H.swap⟩)
        | (rw [tops_lt hx (by omega), topP_succ hx, show max (topP (diffs b p) hs.length) x = topP (diffs b p) hs.length by omega]
           exact ⟨_, ⟨vi, by omega, rfl⟩, H⟩)
   ·
    intro D hs T w hN hJ H
    obtain ⟨vi, hle, rfl⟩ := hJ
    replace H := H.perm (show (dfr D :: ([cl b2 22 [.slice A b.length c], cl b3 22 [.slice B p.length d1]] ++ (row 3 1 (vi) (topsP (diffs b p) hs.length).length (ints .i64 (topsP (diffs b p) hs.length)) :: cl b4 22 [vi] :: cl b6 3 [.int .i64 (topP (diffs b p) hs.length)] :: cl b5 4 [.bool false] :: []))).Perm (row 3 1 vi (topsP (diffs b p) hs.length).length (ints .i64 (topsP (diffs b p) hs.length)) :: dfr D :: cl b2 22 [.slice A b.length c] :: cl b3 22 [.slice B p.length d1] :: cl b4 22 [vi] :: cl b6 3 [.int .i64 (topP (diffs b p) hs.length)] :: cl b5 4 [.bool false] :: []) from List.perm_middle (l₁ := [_, _, _]))
    obtain ⟨ni, hni⟩ : ∃ ni, ni = (topsP (diffs b p) hs.length).length := ⟨_, rfl⟩
    rw [← hni] at H
    obtain ⟨Ai, ci, rfl, hci, _⟩ := H.len (v := vi)
    refine C_seq (C_drawS [] [cl b4 22 [.slice Ai ni ci], cl b6 3 [.int .i64 (topP (diffs b p) hs.length)], cl b5 4 [.bool false]] H (by kernel_rfl) (fun w H => ?_))
    refine D_take 0 rfl rfl rfl (by kernel_rfl) (by exact H.o3) (fun w HS K Z kk => E_load HS rfl rfl kk) ?_
    refine D_take 1 rfl rfl rfl (by kernel_rfl) (by exact H.o3) (fun w HS K Z kk => E_load HS rfl rfl kk) ?_
    refine D_take 2 rfl rfl rfl (by kernel_rfl) (by exact H.o3) (fun w HS K Z kk => E_load HS rfl rfl kk) ?_
    refine D_actn 3 rfl (by kernel_rfl) (E_store (v := .slice Ai ni ci) H rfl rfl rfl (by simp) ?_)
    clear H; intro w H
    simp only [List.set_cons_zero] at H
    refine ⟨fun _ _ => (by exact H.o3), ?_⟩
    refine D_actn 4 rfl (by kernel_rfl) (E_store (v := .bool false) H rfl rfl rfl (by simp) ?_)
    clear H; intro w H
    simp only [List.set_cons_zero] at H
    refine ⟨fun _ _ => (by exact H.o3), ?_⟩
    refine D_actn 5 rfl (by kernel_rfl) (E_store (v := .int .i64 (topP (diffs b p) hs.length)) H rfl rfl rfl (by simp) ?_)
    clear H; intro w H
    simp only [List.set_cons_zero] at H
    refine ⟨fun _ _ => (by exact H.o3), ?_⟩
    refine D_takeT 6 rfl rfl rfl (by kernel_rfl) (fun w K Z kk => E_assign kk) ?_
    refine D_done (by kernel_rfl) ?_
    refine C_ret ?_
    with_reducible repeat (first | refine thn_ret ?_ | refine inB_ret ?_ | refine noG_ret ?_)
    refine Or.inl ⟨D, _, rfl, run_takeDeferred (H.fr (dfr D)).get, ?_⟩
    replace H := ((H.fr (dfr D)).putObj (.deferred none)).drop
    refine Or.inr ⟨151, #[.pointer (some ⟨b4, 0, none⟩), .pointer (some ⟨b6, 0, none⟩), .pointer (some ⟨b5, 0, none⟩)], rfl, rfl, by kernel_rfl, ?_⟩
    refine (dOf1_ (n := ni) (c := ci) (A := Ai) (gn := topP (diffs b p) hs.length) (x := .bool false) (L := [row 3 1 (.slice Ai ni ci) ni (ints .i64 (topsP (diffs b p) hs.length))]) hci H.o4).mono fun _ w H => ?_
    refine resOf_list (rs := [.cell 4 22, .cell 5 4, .cell 6 3, .tmp 7]) (vs := [.slice Ai ni ni, .bool (decide (topP (diffs b p) hs.length = 0)), .int .i64 (topP (diffs b p) hs.length), .int .i64 0]) rfl ⟨res_cell1 H rfl rfl, res_cell1 H rfl rfl, res_cell1 H rfl rfl, res_tmp rfl, trivial⟩ ⟨_, rfl, .slice Ai ni ni, ?_, ?_⟩
    · rw [hN, topP_full]; rfl
    · have H2 := (H.fr (row 3 1 (.slice Ai ni ci) ni (ints .i64 (topsP (diffs b p) hs.length)))).fst.rowOwn.ownClip.ownInts
      rw [hN] at H2
      exact H2
   ·
    intro D c hs T w hJR H
    exact hJR.elim
end Go.Sl
