/- Sorting a short row by insertion, plainly. No program in sight. sorting of short lists; firsts.each. -/
import Derived.Test.YtlgdffofhnfedaaGreatI
import Derived.Test.YtlgdffofhnfedaaGreatW
import Derived.Test.YtlgdffofhnfedaaGreatX7
set_option linter.unusedVariables false
set_option linter.unusedSimpArgs false
namespace Go.Sl
def Same (n : Nat) (f g : Nat → Int) : Prop := ∀ a, (tab n g).count a = (tab n f).count a
theorem count_upd {n j : Nat} {f : Nat → Int} {v a : Int} (hj : j < n) : (tab n (upd f j v)).count a = ((tab n f).count a - if f j = a then 1 else 0) + if v = a then 1 else 0 := by
  rw [← tab_set, List.count_set (by simpa using hj)]
  have e : (tab n f)[j]'(by simpa using hj) = f j := by
    have := tab_get (f := f) hj
    rw [List.getElem?_eq_getElem (by simpa using hj)] at this
    exact Option.some.inj this
  rw [e]
  simp
theorem count_pos {n j : Nat} {f : Nat → Int} (hj : j < n) : 1 ≤ (tab n f).count (f j) := List.count_pos_iff.2 (List.mem_of_getElem? (tab_get hj))
theorem same_swap {n j k : Nat} {f : Nat → Int} (hj : j < n) (hk : k < n) (hne : j ≠ k) : Same n f (upd (upd f j (f k)) k (f j)) := by
  intro a
  have hkj : upd f j (f k) k = f k := by simp [upd, Ne.symm hne]
  rw [count_upd hk, count_upd hj, hkj]
  have h1 := count_pos (f := f) hj
  have h2 := count_pos (f := f) hk
  by_cases e1 : f j = a
  · by_cases e2 : f k = a
    · simp [e1, e2]; rw [e1] at h1; omega
    · simp [e1, e2]; rw [e1] at h1; omega
  · by_cases e2 : f k = a
    · simp [e1, e2]
    · simp [e1, e2]
theorem Same.trans {n : Nat} {f g h : Nat → Int} (h1 : Same n f g) (h2 : Same n g h) : Same n f h := fun a => (h2 a).trans (h1 a)
theorem Same.refl (n : Nat) (f : Nat → Int) : Same n f f := fun _ => rfl
def SortedBut (g : Nat → Int) (i j : Nat) : Prop := ∀ p q, p < q → q ≤ i → q ≠ j → g p ≤ g q
def SortedTo (g : Nat → Int) (i : Nat) : Prop := ∀ p q, p < q → q < i → g p ≤ g q
theorem but_of_to {g : Nat → Int} {i : Nat} (h : SortedTo g i) : SortedBut g i i := fun p q hpq hq hne => h p q hpq (by omega)
theorem to_of_but {g : Nat → Int} {i j : Nat} (h : SortedBut g i j) (hj : j = 0 ∨ ¬ g j < g (j - 1)) : SortedTo g (i + 1) := by
  intro p q hpq hq
  by_cases e : q = j
  · subst e
    rcases hj with rfl | hj
    · omega
    · by_cases e2 : p = q - 1
      · subst e2; omega
      · have := h p (q - 1) (by omega) (by omega) (by omega)
        exact Int.le_trans this (by omega)
  · exact h p q hpq (by omega) e
theorem but_step {g : Nat → Int} {i j : Nat} (h : SortedBut g i j) (hji : j ≤ i) (h0 : 0 < j) (hlt : g j < g (j - 1)) : SortedBut (upd (upd g j (g (j - 1))) (j - 1) (g j)) i (j - 1) := by
  intro p q hpq hq hne
  have v : ∀ x, upd (upd g j (g (j - 1))) (j - 1) (g j) x = if x = j - 1 then g j else if x = j then g (j - 1) else g x := fun x => rfl
  rw [v p, v q, if_neg (show ¬ q = j - 1 from hne)]
  by_cases e1 : q = j
  · rw [if_pos e1]
    by_cases e2 : p = j - 1
    · rw [if_pos e2]; omega
    · rw [if_neg e2, if_neg (show ¬ p = j by omega)]
      exact h p (j - 1) (by omega) (by omega) (by omega)
  · rw [if_neg e1]
    by_cases e2 : p = j - 1
    · rw [if_pos e2]
      exact h j q (by omega) hq e1
    · rw [if_neg e2]
      by_cases e3 : p = j
      · rw [if_pos e3]; exact h (j - 1) q (by omega) hq e1
      · rw [if_neg e3]; exact h p q hpq hq e1
theorem sorted_order {n : Nat} {g : Nat → Int} (hs : SortedTo g n) (ho : okOrd (tab n g) n) : ∀ i, i < n → g i = i := by
  have hnd : (tab n g).Nodup := by
    rw [List.nodup_iff_count]
    intro a
    by_cases h : a ∈ tab n g
    · have := ho.1 a h
      have h2 := ho.2 a.toNat (by omega)
      rw [show ((a.toNat : Nat) : Int) = a by omega] at h2
      omega
    · rw [List.count_eq_zero.2 h]; omega
  have hlt : ∀ p q, p < q → q < n → g p < g q := by
    intro p q hpq hq
    have h1 := hs p q hpq hq
    have hne : g p ≠ g q := by
      intro e
      have := List.pairwise_iff_getElem.1 hnd p q (by simp; omega) (by simpa using hq) hpq
      apply this
      simp [tab, e]
    omega
  have hr : ∀ i, i < n → 0 ≤ g i ∧ g i < n := fun i hi => ho.1 _ (List.mem_of_getElem? (tab_get hi))
  have hup : ∀ i : Nat, i < n → (i : Int) ≤ g i := by
    intro i
    induction i with
    | zero => intro hi; exact (hr 0 hi).1
    | succ i ih => intro hi; have := ih (by omega); have := hlt i (i + 1) (by omega) hi; omega
  have hdn : ∀ k : Nat, k < n → g (n - 1 - k) ≤ ((n - 1 - k : Nat) : Int) := by
    intro k
    induction k with
    | zero => intro hk; have := (hr (n - 1) (by omega)).2; rw [Nat.sub_zero]; omega
    | succ k ih =>
      intro hk
      have h1 := ih (by omega)
      have h2 := hlt (n - 1 - (k + 1)) (n - 1 - k) (by omega) (by omega)
      omega
  intro i hi
  have h1 := hup i hi
  have h2 := hdn (n - 1 - i) (by omega)
  rw [show n - 1 - (n - 1 - i) = i by omega] at h2
  omega
end Go.Sl
set_option linter.unusedVariables false
set_option linter.unusedSimpArgs false
set_option maxRecDepth 10000
namespace Go.Sl
open Go.RowKit
open Go.Proofs
theorem isNaN_ {w0 : World} {x : Int} : Ret Tryz.prog 179 [.int .i64 x] w0 (fun v w => v = .bool false ∧ Below w0.heap.size w0 w) := by
 refine ret_of_C Tryz.func179 rfl rfl rfl ?_
 have H := Loc.refl w0
 refine C_seq (C_region rfl (R_o rfl (E_assign (R_nil (C_seq (C_region rfl (R_o rfl (E_move (R_o rfl (E_move (R_o rfl (E_neq rfl rfl ?_))))))))))))
 refine R_o rfl (E_assign (R_nil (C_ret ?_)))
 with_reducible repeat (first | refine thn_ret ?_ | refine inB_ret ?_ | refine noG_ret ?_)
 exact ret_one rfl rfl ⟨congrArg Value.bool (decide_eq_false (fun h => h rfl)), H.below⟩
theorem Less_ {w0 : World} {x y : Int} : Ret Tryz.prog 145 [.int .i64 x, .int .i64 y] w0 (fun v w => v = .bool (decide (x < y)) ∧ Below w0.heap.size w0 w) := by
 refine ret_of_C Tryz.func145 rfl rfl rfl ?_
 have H := Loc.refl w0
 refine C_seq (C_region rfl (R_o rfl (E_assign (R_nil (C_seq (C_region rfl (R_o rfl (E_move (R_o rfl (E_call rfl (isNaN_) ?_))))))))))
 rintro _ w1 ⟨rfl, hb⟩
 replace H := H.call0 hb; clear hb
 refine R_o rfl (E_move (R_p rfl rfl rfl ?_))
 refine R_p rfl rfl rfl ?_
 refine R_p rfl rfl rfl ?_
 refine R_o rfl (E_pick rfl ?_)
 refine R_o rfl (E_move (R_w rfl rfl rfl (E_move ?_)))
 refine R_w rfl rfl rfl (E_move ?_)
 refine R_w rfl rfl rfl (E_lss rfl rfl ?_)
 refine R_o rfl (E_pick rfl ?_)
 refine R_o rfl (E_assign (R_nil (C_ret ?_)))
 with_reducible repeat (first | refine thn_ret ?_ | refine inB_ret ?_ | refine noG_ret ?_)
 exact ret_one rfl rfl ⟨rfl, H.below⟩
theorem insertionSort_ {w0 w : World} {L : List HP} {b n c : Nat} {f : Nat → Int} (hn : n ≤ 1000000) (H : Loc w0 w (row 3 1 (.slice (some ⟨b, 0, none⟩) n c) n (tint n f) :: L)) :
   Ret Tryz.prog 139 [.slice (some ⟨b, 0, none⟩) n c, .int .i64 0, .int .i64 n] w (fun _ w' => ∃ g, SortedTo g n ∧ Same n f g ∧ Loc w0 w' (row 3 1 (.slice (some ⟨b, 0, none⟩) n c) n (tint n g) :: L)) := by
 refine ret_of_C Tryz.func139 rfl rfl rfl ?_
 refine C_seq (C_region rfl (R_o rfl (E_move (R_o rfl (E_add rfl rfl (by omega) ?_)))))
 refine R_o rfl (E_assign (R_nil (C_block (C_loop (ds := []) [0, 1, 2, 6] (fun m_ vs w => ∃ (i : Nat) (g : Nat → Int), vs = [.slice (some ⟨b, 0, none⟩) n c, .int .i64 0, .int .i64 n, .int .i64 i] ∧ m_ = n + 1 - i ∧ i ≤ n + 1 ∧ 1 ≤ i ∧ SortedTo g i ∧ Same n f g ∧ Loc w0 w (row 3 1 (.slice (some ⟨b, 0, none⟩) n c) n (tint n g) :: L)) (m := n) (by first | rfl | exact hd) ?_ ?_))))
 · exact ⟨1, f, rfl, by omega, by omega, by omega, fun p q hpq hq => by omega, Same.refl n f, H⟩
 intro m vs ρ₀ w hd hI
 clear H
 obtain ⟨i, g, rfl, rfl, hi, hi1, hso, hsa, H⟩ := hI
 refine C_seq (C_seq (C_region rfl (R_o rfl (E_move (R_o rfl (E_move (R_o rfl (E_lss rfl rfl ?_))))))))
 refine R_nil (C_cond (t := 12) rfl (fun hlt => ?_) (fun hlt => ?_))
 ·
  refine C_skip (C_seq (C_block (C_seq (C_region rfl (R_o rfl (E_move (R_o rfl (E_assign (R_nil (C_block (C_loop (ds := []) [0, 1, 2, 6, 7] (fun m_ vs w => ∃ (j : Nat) (z : Int) (g : Nat → Int), vs = [.slice (some ⟨b, 0, none⟩) n c, .int .i64 0, .int .i64 n, .int .i64 i, .int .i64 z] ∧ z = j ∧ j = m_ ∧ j ≤ i ∧ SortedBut g i j ∧ Same n f g ∧ Loc w0 w (row 3 1 (.slice (some ⟨b, 0, none⟩) n c) n (tint n g) :: L)) (m := i) (by first | rfl | exact hd) ?_ ?_)))))))))))
  · exact ⟨i, i, g, rfl, rfl, rfl, Nat.le_refl _, but_of_to hso, hsa, H⟩
  intro m vs ρ₀ w hd hI
  clear H hso hsa g
  obtain ⟨j, z, g, rfl, rfl, rfl, hji, hbut, hsa2, H⟩ := hI
  refine C_seq (C_seq (C_drawL [] H (by kernel_rfl) (fun w H => ?_)))
  refine D_takeT 0 rfl rfl rfl (by kernel_rfl) (fun w K Z kk => E_move kk) ?_
  refine D_takeT 1 rfl rfl rfl (by kernel_rfl) (fun w K Z kk => E_move kk) ?_
  refine D_takeT 2 rfl rfl rfl (by kernel_rfl) (fun w K Z kk => E_gtr rfl rfl kk) ?_
  refine D_takeT 3 rfl rfl rfl (by kernel_rfl) (fun w K Z kk => E_move kk) ?_
  refine D_part (t := 19) rfl (fun h19 => ?_) (fun h19 => ?_)
  ·
   have hjm : ((j : Int) - 1).toNat = j - 1 := by omega
   refine D_takeTw 4 rfl rfl rfl rfl rfl (by kernel_rfl) (fun w K Z kk => E_move kk) ?_
   refine D_takeTw 5 rfl rfl rfl rfl rfl (by kernel_rfl) (fun w K Z kk => E_move kk) ?_
   refine D_takeTw 6 rfl rfl rfl rfl rfl (by kernel_rfl) (fun w K Z kk => E_idxs rfl rfl (by omega) (by omega) kk) ?_
   refine D_takew 7 rfl rfl rfl rfl rfl (by kernel_rfl) (by first | exact H | exact H.drop | exact H.drop.drop | exact H.drop.drop.drop | exact H.drop.drop.drop.drop) (fun w HS K Z kk => E_loadw' (v := .slice (some ⟨b, 0, none⟩) n c) HS rfl (tint_get (i := j) (by omega)) kk) ?_
   refine D_takeTw 8 rfl rfl rfl rfl rfl (by kernel_rfl) (fun w K Z kk => E_move kk) ?_
   refine D_takeTw 9 rfl rfl rfl rfl rfl (by kernel_rfl) (fun w K Z kk => E_move kk) ?_
   refine D_takeTw 10 rfl rfl rfl rfl rfl (by kernel_rfl) (fun w K Z kk => E_sub rfl rfl (by omega) kk) ?_
   refine D_takeTw 11 rfl rfl rfl rfl rfl (by kernel_rfl) (fun w K Z kk => E_idxs rfl rfl (by omega) (by omega) kk) ?_
   refine D_takew 12 rfl rfl rfl rfl rfl (by kernel_rfl) (by first | exact H | exact H.drop | exact H.drop.drop | exact H.drop.drop.drop | exact H.drop.drop.drop.drop) (fun w HS K Z kk => E_loadw' (v := .slice (some ⟨b, 0, none⟩) n c) HS rfl (tint_get (by omega)) kk) ?_
   refine D_actw 13 rfl rfl rfl rfl (by kernel_rfl) (E_call rfl (Less_) ?_)
   rintro _ w1 ⟨rfl, hb⟩
   replace H := H.call0 hb; clear hb
   refine ⟨fun _ _ => (by first | exact H | exact H.drop | exact H.drop.drop | exact H.drop.drop.drop | exact H.drop.drop.drop.drop), ?_⟩
   refine D_takeT 14 rfl rfl rfl (by kernel_rfl) (fun w K Z kk => E_pick rfl kk) ?_
   refine D_done (by kernel_rfl) ?_
   refine C_cond (t := 30) rfl (fun h30 => ?_) (fun h30 => ?_)
   ·
    rw [hjm] at h30
    refine C_skip (C_seq (C_block (C_drawL [15, 17] H (by kernel_rfl) (fun w H => ?_))))
    refine D_takeT 0 rfl rfl rfl (by kernel_rfl) (fun w K Z kk => E_move kk) ?_
    refine D_takeT 1 rfl rfl rfl (by kernel_rfl) (fun w K Z kk => E_move kk) ?_
    refine D_takeT 2 rfl rfl rfl (by kernel_rfl) (fun w K Z kk => E_move kk) ?_
    refine D_takeT 3 rfl rfl rfl (by kernel_rfl) (fun w K Z kk => E_move kk) ?_
    refine D_takeT 4 rfl rfl rfl (by kernel_rfl) (fun w K Z kk => E_sub rfl rfl (by omega) kk) ?_
    refine D_takeT 5 rfl rfl rfl (by kernel_rfl) (fun w K Z kk => E_move kk) ?_
    refine D_takeT 6 rfl rfl rfl (by kernel_rfl) (fun w K Z kk => E_move kk) ?_
    refine D_takeT 7 rfl rfl rfl (by kernel_rfl) (fun w K Z kk => E_sub rfl rfl (by omega) kk) ?_
    refine D_takeT 8 rfl rfl rfl (by kernel_rfl) (fun w K Z kk => E_idxs rfl rfl (by omega) (by omega) kk) ?_
    refine D_take 9 rfl rfl rfl (by kernel_rfl) (by first | exact H | exact H.drop | exact H.drop.drop | exact H.drop.drop.drop | exact H.drop.drop.drop.drop) (fun w HS K Z kk => E_loadw' (v := .slice (some ⟨b, 0, none⟩) n c) HS rfl (tint_get (by omega)) kk) ?_
    refine D_takeT 10 rfl rfl rfl (by kernel_rfl) (fun w K Z kk => E_move kk) ?_
    refine D_takeT 11 rfl rfl rfl (by kernel_rfl) (fun w K Z kk => E_move kk) ?_
    refine D_takeT 12 rfl rfl rfl (by kernel_rfl) (fun w K Z kk => E_idxs rfl rfl (by omega) (by omega) kk) ?_
    refine D_take 13 rfl rfl rfl (by kernel_rfl) (by first | exact H | exact H.drop | exact H.drop.drop | exact H.drop.drop.drop | exact H.drop.drop.drop.drop) (fun w HS K Z kk => E_loadw' (v := .slice (some ⟨b, 0, none⟩) n c) HS rfl (tint_get (i := j) (by omega)) kk) ?_
    refine D_takeT 14 rfl rfl rfl (by kernel_rfl) (fun w K Z kk => E_idxs rfl rfl (by omega) (by omega) kk) ?_
    refine D_actn 15 rfl (by kernel_rfl) (E_storew (v := .slice (some ⟨b, 0, none⟩) n c) (j := j) (u := .int .i64 (g ((j : Int) - 1).toNat)) H rfl rfl rfl (by omega) ?_)
    clear H; intro w H
    rw [tint_set] at H
    refine ⟨fun h => Bool.noConfusion (h : true = false), ?_⟩
    refine D_takeT 16 rfl rfl rfl (by kernel_rfl) (fun w K Z kk => E_idxs rfl rfl (by omega) (by omega) kk) ?_
    refine D_actn 17 rfl (by kernel_rfl) (E_storew (v := .slice (some ⟨b, 0, none⟩) n c) (j := ((j : Int) - 1).toNat) (u := .int .i64 (g j)) H rfl rfl rfl (by omega) ?_)
    clear H; intro w H
    rw [tint_set, hjm] at H
    refine ⟨fun h => Bool.noConfusion (h : true = false), ?_⟩
    refine D_done (by kernel_rfl) ?_
    refine C_region rfl (R_o rfl (E_move (R_o rfl (E_sub rfl rfl (by omega) ?_))))
    refine R_o rfl (E_assign (R_nil ?_))
    exact ⟨hd, j - 1, by omega, j - 1, (j : Int) - 1, _, rfl, by omega, rfl, by omega, but_step hbut hji (by omega) h30, hsa2.trans (same_swap (by omega) (by omega) (by omega)), H⟩
   ·
    rw [hjm] at h30
    obtain ⟨g2, hg2⟩ : ∃ g2, g2 = g := ⟨_, rfl⟩
    have hso2 : SortedTo g2 (i + 1) := by rw [hg2]; exact to_of_but hbut (.inr h30)
    rw [← hg2] at hsa2 H
    refine C_exit ?_
    refine C_region rfl (R_o rfl (E_move (R_o rfl (E_add rfl rfl (by omega) ?_))))
    refine R_o rfl (E_assign (R_nil ?_))
    exact ⟨hd, n + 1 - (i + 1), by omega, i + 1, g2, rfl, rfl, by omega, by omega, hso2, hsa2, H⟩
  ·
   refine D_passT 4 rfl rfl rfl rfl rfl (by kernel_rfl) ?_
   refine D_passT 5 rfl rfl rfl rfl rfl (by kernel_rfl) ?_
   refine D_passT 6 rfl rfl rfl rfl rfl (by kernel_rfl) ?_
   refine D_passT 7 rfl rfl rfl rfl rfl (by kernel_rfl) ?_
   refine D_passT 8 rfl rfl rfl rfl rfl (by kernel_rfl) ?_
   refine D_passT 9 rfl rfl rfl rfl rfl (by kernel_rfl) ?_
   refine D_passT 10 rfl rfl rfl rfl rfl (by kernel_rfl) ?_
   refine D_passT 11 rfl rfl rfl rfl rfl (by kernel_rfl) ?_
   refine D_passT 12 rfl rfl rfl rfl rfl (by kernel_rfl) ?_
   refine D_passT 13 rfl rfl rfl rfl rfl (by kernel_rfl) ?_
   refine D_takeT 14 rfl rfl rfl (by kernel_rfl) (fun w K Z kk => E_pick rfl kk) ?_
   refine D_done (by kernel_rfl) ?_
   obtain ⟨g2, hg2⟩ : ∃ g2, g2 = g := ⟨_, rfl⟩
   have hso2 : SortedTo g2 (i + 1) := by rw [hg2]; exact to_of_but hbut (.inl (by omega))
   rw [← hg2] at hsa2 H
   refine C_false (t := 30) rfl ?_
   refine C_exit ?_
   refine C_region rfl (R_o rfl (E_move (R_o rfl (E_add rfl rfl (by omega) ?_))))
   refine R_o rfl (E_assign (R_nil ?_))
   exact ⟨hd, n + 1 - (i + 1), by omega, i + 1, g2, rfl, rfl, by omega, by omega, hso2, hsa2, H⟩
 ·
  refine C_exit ?_
  with_reducible repeat (first | refine inB_normal ?_ | refine noG_normal ?_ | refine thn_exit ?_ | refine inB_exit ?_ | refine inB_pass rfl ?_)
  exact end_none rfl hd ⟨g, fun p q hpq hq => hso p q hpq (by omega), hsa, H⟩
theorem pdqsort_ {w0 w : World} {L : List HP} {b n c : Nat} {f : Nat → Int} {lim : Int} (hn : n ≤ 12) (H : Loc w0 w (row 3 1 (.slice (some ⟨b, 0, none⟩) n c) n (tint n f) :: L)) :
   Ret Tryz.prog 109 [.slice (some ⟨b, 0, none⟩) n c, .int .i64 0, .int .i64 n, .int .i64 lim] w (fun _ w' => ∃ g, SortedTo g n ∧ Same n f g ∧ Loc w0 w' (row 3 1 (.slice (some ⟨b, 0, none⟩) n c) n (tint n g) :: L)) := by
 refine ret_of_C Tryz.func109 rfl rfl rfl ?_
 refine C_seq (C_region rfl (R_o rfl (E_assign (R_nil (C_seq (C_region rfl (R_o rfl (E_assign (R_nil (C_block (C_loop (ds := []) [0, 1, 2, 3] (fun m_ vs w => vs = [.slice (some ⟨b, 0, none⟩) n c, .int .i64 0, .int .i64 n, .int .i64 lim] ∧ Loc w0 w (row 3 1 (.slice (some ⟨b, 0, none⟩) n c) n (tint n f) :: L)) (m := 0) (by first | rfl | exact hd) ?_ ?_)))))))))))
 · exact ⟨rfl, H⟩
 intro m vs ρ₀ w hd hI
 clear H
 obtain ⟨rfl, H⟩ := hI
 refine C_block (C_seq (C_region rfl (R_o rfl (E_move (R_o rfl (E_move (R_o rfl (E_sub rfl rfl (by omega) ?_))))))))
 refine R_o rfl (E_assign (R_nil (C_seq (C_seq (C_region rfl (R_o rfl (E_move (R_o rfl (E_leq rfl rfl ?_)))))))))
 refine R_nil (C_cond (t := 23) rfl (fun hle => ?_) (fun hle => ?_))
 ·
  refine C_seq (C_region rfl (R_o rfl (E_move (R_o rfl (E_move (R_o rfl (E_move (R_o rfl (E_call rfl (insertionSort_ (by omega) H) ?_)))))))))
  clear H; rintro v27 w ⟨g, hso, hsa, H⟩
  refine R_nil (C_ret ?_)
  with_reducible repeat (first | refine thn_ret ?_ | refine inB_ret ?_ | refine noG_ret ?_)
  exact ret_none rfl hd ⟨g, hso, hsa, H⟩
 ·
  exact absurd (by omega) hle
theorem Len64_ {w0 : World} {x : Nat} (hx : x < 256) : Ret Tryz.prog 149 [.int .u64 x] w0 (fun v w => (∃ n : Int, v = .int .i64 n) ∧ Below w0.heap.size w0 w) := by
 refine ret_of_C Tryz.func149 rfl rfl rfl ?_
 have H := Loc.refl w0
 refine C_seq (C_region rfl (R_o rfl (E_assign (R_nil (C_seq (C_seq (C_region rfl (R_o rfl (E_move (R_o rfl (E_geq rfl rfl ?_)))))))))))
 refine R_nil (C_cond (t := 4) rfl (fun h4 => ?_) (fun h4 => ?_))
 ·
  exact absurd h4 (by omega)
 ·
  refine C_skip (C_seq (C_seq (C_region rfl (R_o rfl (E_move (R_o rfl (E_geq rfl rfl ?_)))))))
  refine R_nil (C_cond (t := 8) rfl (fun h8 => ?_) (fun h8 => ?_))
  ·
   exact absurd h8 (by omega)
  ·
   refine C_skip (C_seq (C_seq (C_region rfl (R_o rfl (E_move (R_o rfl (E_geq rfl rfl ?_)))))))
   refine R_nil (C_cond (t := 14) rfl (fun h14 => ?_) (fun h14 => ?_))
   ·
    exact absurd h14 (by omega)
   ·
    refine C_skip (C_seq (C_region rfl (R_o rfl (E_move (R_o rfl (E_move (R_o rfl (E_conv (kd := .u8) rfl ?_))))))))
    rw [IntWalk.u8_in _ (by omega)]
    refine R_o rfl (E_idxstr (i := x) rfl rfl (Nat.lt_of_lt_of_le hx (Nat.le_of_eq (by kernel_rfl))) ?_)
    intro bb
    refine R_o rfl (E_conv (kd := .i64) rfl ?_)
    rw [wrap64_of (by omega) (by have := bb.toNat_lt; omega)]
    refine R_o rfl (E_add rfl rfl (by have := bb.toNat_lt; omega) ?_)
    refine R_o rfl (E_assign (R_nil (C_ret ?_)))
    with_reducible repeat (first | refine thn_ret ?_ | refine inB_ret ?_ | refine noG_ret ?_)
    exact ret_one rfl rfl ⟨⟨_, rfl⟩, H.below⟩
theorem Len_ {w0 : World} {x : Nat} (hx : x < 256) : Ret Tryz.prog 110 [.int .u64 x] w0 (fun v w => (∃ n : Int, v = .int .i64 n) ∧ Below w0.heap.size w0 w) := by
 refine ret_of_C Tryz.func110 rfl rfl rfl ?_
 have H := Loc.refl w0
 refine C_seq (C_region rfl (R_o rfl (E_assign (R_nil (C_seq (C_kf ?_))))))
 refine C_skip (C_seq (C_region rfl (R_o rfl (E_move (R_o rfl (E_call rfl (Len64_ hx) ?_))))))
 rintro _ w1 ⟨⟨n7, rfl⟩, hb⟩
 replace H := H.call0 hb; clear hb
 refine R_o rfl (E_assign (R_nil (C_ret ?_)))
 with_reducible repeat (first | refine thn_ret ?_ | refine inB_ret ?_ | refine noG_ret ?_)
 exact ret_one rfl rfl ⟨⟨_, rfl⟩, H.below⟩
theorem Sort_ {w0 w : World} {L : List HP} {b n c : Nat} {f : Nat → Int} (hn : n ≤ 12) (H : Loc w0 w (row 3 1 (.slice (some ⟨b, 0, none⟩) n c) n (tint n f) :: L)) :
   Ret Tryz.prog 96 [.slice (some ⟨b, 0, none⟩) n c] w (fun _ w' => ∃ g, SortedTo g n ∧ Same n f g ∧ Loc w0 w' (row 3 1 (.slice (some ⟨b, 0, none⟩) n c) n (tint n g) :: L)) := by
 refine ret_of_C Tryz.func96 rfl rfl rfl ?_
 refine C_seq (C_region rfl (R_o rfl (E_move (R_o rfl (E_len rfl ?_)))))
 refine R_o rfl (E_assign (R_nil (C_region rfl (R_o rfl (E_move (R_o rfl (E_move (R_o rfl (E_move (R_o rfl (E_convu rfl (by omega) ?_)))))))))))
 refine R_o rfl (E_call rfl (Len_ (by omega)) ?_)
 rintro _ w1 ⟨⟨n9, rfl⟩, hb⟩
 replace H := H.call0 hb; clear hb
 refine R_o rfl (E_call rfl (pdqsort_ hn H) ?_)
 clear H; rintro v10 w ⟨g, hso, hsa, H⟩
 refine R_nil ?_
 with_reducible repeat (first | refine inB_normal ?_ | refine noG_normal ?_ | refine thn_exit ?_ | refine inB_exit ?_ | refine inB_pass rfl ?_)
 exact end_none rfl rfl ⟨g, hso, hsa, H⟩
theorem Collect_ {w0 w : World} {L A : List HP} {gf : FuncId} {lb : List Value} {xs : List Int} (hgb : hasBody Tryz.prog gf = true) (hit : IterOk Tryz.prog gf lb w0 xs.length (Xint xs) (fun _ _ => []) (fun _ => A)) (hb : xs.length ≤ 1000000) (H : Loc w0 w (A ++ L)) :
   Ret Tryz.prog 95 [.func (.func gf) #[] lb.toArray] w (fun v w' => Loc w0 w' (row 3 1 v xs.length (ints .i64 xs) :: (A ++ L))) := by
 refine ret_of_C Tryz.func95 rfl rfl rfl ?_
 refine C_seq (C_region rfl (R_o rfl (E_assign (R_nil (C_seq (C_region rfl (R_o rfl (E_move (R_o rfl (E_call rfl (AppendSeq_ hgb hit hb H) ?_))))))))))
 clear H; intro v4 w H
 refine R_o rfl (E_assign (R_nil (C_ret ?_)))
 with_reducible repeat (first | refine thn_ret ?_ | refine inB_ret ?_ | refine noG_ret ?_)
 exact ret_one rfl rfl H
theorem Sorted_ {w0 w : World} {L A : List HP} {gf : FuncId} {lb : List Value} {n : Nat} {f : Nat → Int} (hgb : hasBody Tryz.prog gf = true) (hit : IterOk Tryz.prog gf lb w0 (tab n f).length (Xint (tab n f)) (fun _ _ => []) (fun _ => A)) (hn : n ≤ 12) (hn1 : 0 < n) (H : Loc w0 w (A ++ L)) :
   Ret Tryz.prog 80 [.func (.func gf) #[] lb.toArray] w (fun v w' => ∃ g, SortedTo g n ∧ Same n f g ∧ Loc w0 w' (row 3 1 v n (tint n g) :: (A ++ L))) := by
 refine ret_of_C Tryz.func80 rfl rfl rfl ?_
 refine C_seq (C_region rfl (R_o rfl (E_assign (R_nil (C_seq (C_region rfl (R_o rfl (E_move (R_o rfl (E_call rfl (Collect_ hgb hit (by rw [tab_length]; omega) H) ?_))))))))))
 clear H; intro v5 w H
 rw [tab_length] at H
 replace H : Loc w0 w (row 3 1 v5 n (tint n f) :: (A ++ L)) := H
 obtain ⟨b5, c5, rfl, _⟩ := row_shape H.own hn1
 refine R_o rfl (E_assign (R_nil (C_seq (C_region rfl (R_o rfl (E_move (R_o rfl (E_call rfl (Sort_ hn H) ?_))))))))
 clear H; rintro v7 w ⟨g, hso, hsa, H⟩
 refine R_nil (C_seq (C_region rfl (R_o rfl (E_move (R_o rfl (E_assign (R_nil (C_ret ?_))))))))
 with_reducible repeat (first | refine thn_ret ?_ | refine inB_ret ?_ | refine noG_ret ?_)
 exact ret_one rfl rfl ⟨g, hso, hsa, H⟩
theorem fiEach_ {w0 : World} {v : Value} {xs : List Int} {n : Nat} (hv : RdI w0 v xs) (ho : okOrd xs n) (hn : n ≤ 12) (hn1 : 0 < n) :
   Ret Tryz.prog 65 [v, .int .i64 n] w0 (fun v w => v = .bool true ∧ Below w0.heap.size w0 w) := by
 refine ret_of_C Tryz.func65 rfl rfl rfl ?_
 have H := Loc.refl w0
 have hxn := okOrd_length ho
 obtain ⟨f, rfl⟩ : ∃ f, xs = tab n f := ⟨_, by have := tab_of xs; rwa [hxn] at this⟩
 obtain ⟨A, c, rfl, hc1, hc2⟩ := hv.len
 refine C_seq (C_region rfl (R_o rfl (E_assign (R_nil (C_seq (C_region rfl (R_o rfl (E_move (R_o rfl (E_call rfl (Values_) ?_))))))))))
 rintro _ w1 ⟨b9, rfl, hc⟩
 replace H := H.call1 hc; clear hc
 refine R_o rfl (E_call rfl (Sorted_ (L := []) (by kernel_rfl) (Values1_ hv) hn hn1 H) ?_)
 clear H; rintro v10 w ⟨g, hso, hsa, H⟩
 have hg := sorted_order hso ⟨fun x hx => ho.1 x (by have := hsa x; rw [← List.count_pos_iff] at hx ⊢; omega), fun i hi => by rw [hsa]; exact ho.2 i hi⟩
 obtain ⟨b10, c10, rfl, _⟩ := row_shape H.own hn1
 refine R_o rfl (E_assign (R_nil (C_seq (C_seq (C_region rfl (R_o rfl (E_move (R_o rfl (E_len rfl ?_)))))))))
 refine R_o rfl (E_move (R_nil (C_block (C_loop (ds := []) [1, 5, 11, 12, 13] (fun m_ vs w => ∃ k : Nat, vs = [.int .i64 n, .slice (some ⟨b10, 0, none⟩) n c10, .slice (some ⟨b10, 0, none⟩) n c10, .int .i64 n, .int .i64 k] ∧ m_ = n - k ∧ k ≤ n ∧ (True) ∧ Loc w0 w (row 3 1 (.slice (some ⟨b10, 0, none⟩) n c10) n (tint n g) :: ([cl b9 22 [.slice A (tab n f).length c]] ++ []))) (m := n) (by first | rfl | exact hd) ?_ ?_))))
 · exact ⟨0, rfl, by omega, by omega, trivial, H⟩
 intro m vs ρ₀ w hd hI
 clear H
 obtain ⟨k, rfl, rfl, hk, hst, H⟩ := hI
 refine C_seq (C_region rfl (R_o rfl (E_lss rfl rfl ?_)))
 refine R_nil (C_seq (C_cond (t := 14) rfl (fun hlt => ?_) (fun hlt => ?_)))
 ·
  refine C_skip (C_seq (C_block (C_seq (C_region rfl (R_o rfl (E_move (R_o rfl (E_idxw (v := .slice (some ⟨b10, 0, none⟩) n c10) H rfl rfl (by omega) (by omega) ?_))))))))
  refine R_o rfl (E_loadw' (v := .slice (some ⟨b10, 0, none⟩) n c10) H rfl (tint_get (i := k) (by omega)) ?_)
  refine R_o rfl (E_assign (R_o rfl (E_assign (R_nil (C_seq (C_region rfl (R_o rfl (E_move (R_o rfl (E_move (R_o rfl (E_neq rfl rfl ?_))))))))))))
  refine R_nil (C_cond (t := 20) rfl (fun h20 => ?_) (fun h20 => ?_))
  ·
   exact absurd (hg k (by omega)) h20
  ·
   refine C_skip (C_region rfl (R_o rfl (E_add rfl rfl (by omega) ?_)))
   refine R_o rfl (E_move (R_nil (⟨hd, n - (k + 1), by omega, k + 1, rfl, rfl, by omega, trivial, H⟩)))
 ·
  refine C_exit ?_
  refine C_seq (C_region rfl (R_o rfl (E_move (R_o rfl (E_len rfl ?_)))))
  refine R_o rfl (E_move (R_o rfl (E_eql rfl rfl ?_)))
  refine R_o rfl (E_assign (R_nil (C_ret ?_)))
  with_reducible repeat (first | refine thn_ret ?_ | refine inB_ret ?_ | refine noG_ret ?_)
  exact ret_one rfl hd ⟨congrArg Value.bool (decide_eq_true rfl), H.below⟩
end Go.Sl
