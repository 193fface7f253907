/- the answer of chapter 11. -/
import Derived.Test.YtlgdffofhnfedaaGreatX10
set_option linter.unusedVariables false
set_option linter.unusedSimpArgs false
set_option maxRecDepth 10000
set_option maxHeartbeats 2000000
namespace Go.Sl
open Go.RowKit
open Go.Proofs
theorem Loc.rd {w0 w : World} {L L' : List HP} (v : Value) {f : World → Prop} [h : Pr L v f L'] (H : Loc w0 w L) : f w := (H.perm h.perm).read
theorem E_loadn {P : Program} {yl : Bool} {ρ : Rg} {w : World} {ty : TypeId} {K : Value → World → Prop} {Z : List PanicEntry → World → Prop} {x : Operand} {t : TypeId} [Sc P t] {kk : IntKind} {v : Value} {xs : List Int} (h : RdS (rInt kk) w v xs) {j : Nat} {e : Int} (hp : ρ.ev x = sad v j) (he : xs[j]? = some e)
   (k : K (.int kk e) w) : E P yl ρ w (.load t x) ty K Z :=
 E_loadi h (Loc.refl w) hp he k
theorem Loc.rdTag {w0 w : World} {f : World → Prop} {L : List HP} {A : HP} (v : Value) {u : Value} (h : Loc w0 w (A :: rdv u f :: L)) : Loc w0 w (A :: rdv v f :: L) :=
 (((h.perm (List.Perm.swap _ _ _)).imp (R' := rdv v f) fun S hp => hp).perm (List.Perm.swap _ _ _))
theorem Loc.rot3 {w0 w : World} {L : List HP} {A B C : HP} (h : Loc w0 w (A :: B :: C :: L)) : Loc w0 w (B :: C :: A :: L) := h.perm ((List.Perm.swap _ _ _).trans (List.Perm.cons _ (List.Perm.swap _ _ _)))
theorem R11nothing_ {w0 : World} {n : Nat} (hn : n ≤ 1000000) : Ret Tryz.prog 88 [.int .i64 n] w0 (fun v w => Loc w0 w [row 3 1 v n (tint n fun _ => -1)]) := by
 refine ret_of_C Tryz.func88 rfl rfl rfl ?_
 have H := Loc.refl w0
 refine C_seq (C_region rfl (R_o rfl (E_assign (R_nil (C_seq (C_region rfl (R_o rfl (E_assign (R_nil (C_seq (C_seq (C_region rfl (R_o rfl (E_assign (R_nil (C_block (C_loop (ds := []) [0, 3, 4] (fun m_ vs w => ∃ k : Nat, ∃ vl : Value, vs = [.int .i64 n, vl, .int .i64 k] ∧ m_ = n - k ∧ k ≤ n ∧ (True) ∧ Loc w0 w [row 3 1 vl k (tint k fun _ => -1)]) (m := n) (by first | rfl | exact hd) ?_ ?_)))))))))))))))))
 · replace H := (nilRow 3 1 H).rowe (cs' := tint 0 fun _ => -1) rfl
   exact ⟨0, .slice none 0 0, rfl, by omega, by omega, trivial, H.o1⟩
 intro m vs ρ₀ w hd hI
 clear H
 obtain ⟨k, vl, rfl, rfl, hk, hst, H⟩ := hI
 refine C_seq (C_seq (C_region rfl (R_o rfl (E_move (R_o rfl (E_move (R_o rfl (E_lss rfl rfl ?_))))))))
 refine R_nil (C_cond (t := 7) rfl (fun hlt => ?_) (fun hlt => ?_))
 ·
  refine C_skip (C_seq (C_block (C_region rfl (R_o rfl (E_move (R_o rfl (E_lit (vs := [.int .i64 (-1)]) [.const (.int .i64 (-1))] rfl rfl rfl rfl rfl H ?_)))))))
  clear H; intro w b11 H
  refine R_o rfl (E_append1 (v := vl) (b := b11) (u := .int .i64 (-1)) H rfl rfl rfl (by omega) (by omega) ?_)
  clear H; intro w v12 H
  refine R_o rfl (E_assign (R_nil (C_region rfl (R_o rfl (E_move (R_o rfl (E_add rfl rfl (by omega) ?_)))))))
  refine R_o rfl (E_assign (R_nil ?_))
  rw [show tint k (fun _ => (-1 : Int)) ++ [Value.int .i64 (-1)] = tint (k + 1) (fun _ => -1) by unfold tint; rw [tab_succ, ints_snoc]] at H
  refine ⟨hd, n - (k + 1), by omega, k + 1, v12, rfl, rfl, by omega, trivial, H.o1⟩
 ·
  have hk : k = n := by omega
  subst hk
  refine C_exit ?_
  refine C_seq (C_region rfl (R_o rfl (E_move (R_o rfl (E_assign (R_nil (C_ret ?_)))))))
  with_reducible repeat (first | refine thn_ret ?_ | refine inB_ret ?_ | refine noG_ret ?_)
  exact ret_one rfl hd H
theorem R11without_ {w0 : World} {gs : Value} {g : List (List Int)} {items j : Nat} (hg : RdII w0 gs g) (hgl : g.length ≤ 8) (hl : ∀ l ∈ g, l.length = items) (hi : items ≤ 8) (hj : j < items) :
   Ret Tryz.prog 89 [gs, .int .i64 j] w0 (fun v w => ∃ us, Loc w0 w [row 22 1 v g.length us, rdv undef (fun w => Els RdI w us (g.map fun l => l.set j (-1)))]) := by
 refine ret_of_C Tryz.func89 rfl rfl rfl ?_
 have H := Loc.refl w0
 obtain ⟨A, c, rfl, hc1, hc2⟩ := hg.len
 refine C_seq (C_region rfl (R_o rfl (E_assign (R_nil (C_seq (C_region rfl (R_o rfl (E_assign (R_nil (C_seq (C_seq (C_region rfl (R_o rfl (E_assign (R_nil (C_block (C_loop (ds := []) [0, 1, 5, 6] (fun m_ vs w => ∃ k : Nat, ∃ (vo : Value) (us : List Value), vs = [.slice A g.length c, .int .i64 j, vo, .int .i64 k] ∧ m_ = g.length - k ∧ k ≤ g.length ∧ (True) ∧ Loc w0 w [row 22 1 vo k us, rdv undef (fun w => Els RdI w us ((g.take k).map fun l => l.set j (-1)))]) (m := g.length) (by first | rfl | exact hd) ?_ ?_)))))))))))))))))
 · replace H := (nilRow 22 1 (H.mkEmp.toRd undef (fun w => Els RdI w [] ((g.take 0).map fun l => l.set j (-1))) (fun _ _ _ => Els.nil _ _)))
   exact ⟨0, .slice none 0 0, [], rfl, by omega, by omega, trivial, H.o2⟩
 intro m vs ρ₀ w hd hI
 clear H
 obtain ⟨k, vo, us, rfl, rfl, hk, hst, H⟩ := hI
 refine C_seq (C_seq (C_region rfl (R_o rfl (E_move (R_o rfl (E_move (R_o rfl (E_len rfl ?_))))))))
 refine R_o rfl (E_lss rfl rfl ?_)
 refine R_nil (C_cond (t := 11) rfl (fun hlt => ?_) (fun hlt => ?_))
 ·
  obtain ⟨x, hx⟩ := get_of (xs := g) (k := k) (by omega)
  have hxl := hl x (mem_of_get hx)
  refine C_skip (C_seq (C_block (C_seq (C_region rfl (R_o rfl (E_move (R_o rfl (E_move (R_o rfl (E_idxr hg rfl rfl (by omega) (by omega) ?_))))))))))
  refine R_o rfl (E_loadr hg H rfl hx ?_)
  intro u hu
  obtain ⟨ws, he, Au, cu, rfl, hu1, hu2, hcell⟩ := hu.els
  rw [he.ints_eq] at hcell
  refine R_o rfl (E_append_rd (v := .slice none 0 0) (news := ints .i64 x) (nilRow 3 1 H) rfl rfl (by simp) (fun j u hj => by obtain ⟨a, e, hc⟩ := hcell j u hj; exact ⟨a, e, Below.cell_some H.below hc⟩) (ints_one _ _) (by omega) (by omega) ?_)
  clear H; intro w v18 H
  rw [List.nil_append, Nat.zero_add] at H
  obtain ⟨b18, c18, rfl, _⟩ := row_shape H.own (by omega)
  refine R_o rfl (E_assign (R_nil (C_seq (C_region rfl (R_o rfl (E_move (R_o rfl (E_move (R_o rfl (E_idxw (v := .slice (some ⟨b18, 0, none⟩) x.length c18) H rfl rfl (by omega) (by omega) ?_))))))))))
  refine R_n rfl (E_storew (v := .slice (some ⟨b18, 0, none⟩) x.length c18) (j := j) (u := .int .i64 (-1)) H rfl rfl rfl (by omega) ?_)
  clear H; intro w H
  rw [ints_set] at H
  refine R_nil (C_region rfl (R_o rfl (E_move (R_o rfl (E_move (R_o rfl (E_lit (vs := [.slice (some ⟨b18, 0, none⟩) x.length c18]) [.tmp 23] rfl rfl rfl rfl rfl H ?_)))))))
  clear H; intro w b24 H
  refine R_o rfl (E_append1 (v := vo) (b := b24) (u := .slice (some ⟨b18, 0, none⟩) x.length c18) H rfl rfl rfl (by omega) (by omega) ?_)
  clear H; intro w v25 H
  refine R_o rfl (E_assign (R_nil (C_region rfl (R_o rfl (E_move (R_o rfl (E_add rfl rfl (by omega) ?_)))))))
  refine R_o rfl (E_assign (R_nil ?_))
  replace H := H.rot3.join undef (fun w => Els RdI w (us ++ [.slice (some ⟨b18, 0, none⟩) x.length c18]) ((g.take (k + 1)).map fun l => l.set j (-1))) (fun S1 S2 w h1 h2 => by rw [take_step hx, List.map_append]; exact (rdv_now h2).snoc (row_rdI h1 (by simp)))
  refine ⟨hd, g.length - (k + 1), by omega, k + 1, v25, us ++ [.slice (some ⟨b18, 0, none⟩) x.length c18], rfl, rfl, by omega, trivial, H.o2⟩
 ·
  have hk : k = g.length := by omega
  subst hk
  rw [List.take_length] at H
  refine C_exit ?_
  refine C_seq (C_region rfl (R_o rfl (E_move (R_o rfl (E_assign (R_nil (C_ret ?_)))))))
  with_reducible repeat (first | refine thn_ret ?_ | refine inB_ret ?_ | refine noG_ret ?_)
  exact ret_one rfl hd ⟨us, H⟩
theorem Loc.rowRd {α : Type} {r : World → Value → α → Prop} {w0 w : World} {L L' : List HP} {v : Value} {e n : Nat} {us : List Value} {xs : List α} [hp : Pw L v e 1 n us L'] (H : Loc w0 w L) (he : Els r w us xs) : RdS r w v xs :=
 row_rdE (S := fun x => v.ownBlock = some x) ⟨fun _ => Iff.rfl, (H.perm hp.perm).own⟩ he
structure LeftM (g : List (List Int)) (items : Nat) (xs : List Int) (e : Nat) (F : Nat → Bool) (M : List (List Int)) : Prop where
 len : M.length = g.length
 row : ∀ l ∈ M, l.length = items
 val : ∀ i, i < g.length → ∀ k, k < items → gv M i k = if i ∈ (ordN xs).take e then -1 else if F k then gv g i k else -1
theorem LeftM.ok {g M : List (List Int)} {items e : Nat} {xs : List Int} {F : Nat → Bool} (h : LeftM g items xs e F M) (hok : okG g items) : okG M items := by
 refine ⟨hok.1, by rw [h.len]; exact hok.2.1, fun l hl hc => ?_⟩
 rcases hc with hc | ⟨x, hx, hc⟩
 · exact hc (by have := h.row l hl; omega)
 · obtain ⟨i, hi, rfl⟩ := List.getElem_of_mem hl
   obtain ⟨k, hk, rfl⟩ := List.getElem_of_mem hx
   have hr := h.row _ hl
   have e1 := gv_of (g := M) (List.getElem?_eq_getElem hi) (List.getElem?_eq_getElem hk)
   have e2 := h.val i (by rw [← h.len]; exact hi) k (by omega)
   rw [e1] at e2
   have := hok.gv_le i k
   apply hc
   rw [e2]
   split
   · omega
   · split <;> omega
theorem ordN_nodup {xs : List Int} {n : Nat} (h : okOrd xs n) : (ordN xs).Nodup := (ordN_perm h).nodup_iff.2 List.nodup_range
theorem LeftM.best {g M : List (List Int)} {items e : Nat} {xs : List Int} {F : Nat → Bool} (h : LeftM g items xs e F M) (ho : okOrd xs g.length) : bestV M items = optL (gv g) items ((ordN xs).drop e) F := by
 have hp := ordN_perm ho
 unfold bestV
 rw [optB_eq_optL, h.len, optL_perm ((List.reverse_perm _).trans hp.symm)]
 have hsplit : ordN xs = (ordN xs).take e ++ (ordN xs).drop e := (List.take_append_drop e _).symm
 have hmem : ∀ i, i ∈ ordN xs → i < g.length := fun i hi => by simpa using hp.mem_iff.1 hi
 rw [hsplit, optL_idle _ _ fun i hi k hk => by
   rw [h.val i (hmem i (List.mem_of_mem_take hi)) k hk, if_pos hi]; omega, ← hsplit]
 have hnot : ∀ i, i ∈ (ordN xs).drop e → ¬ i ∈ (ordN xs).take e := fun i h1 h2 => by
   have hn := ordN_nodup ho
   rw [hsplit, List.nodup_append] at hn
   exact hn.2.2 i h2 i h1 rfl
 refine optL_mask (fun i hi k hk => ?_) (fun i hi k hk hF => .inl ?_)
 · rw [h.val i (hmem i (List.mem_of_mem_drop hi)) k hk, if_neg (hnot i hi)]
   cases hFk : F k <;> simp
 · rw [h.val i (hmem i (List.mem_of_mem_drop hi)) k hk, if_neg (hnot i hi), if_pos hF]
theorem LeftM.start {g : List (List Int)} {items : Nat} {xs : List Int} (hok : okG g items) : LeftM g items xs 0 (fun _ => true) g :=
 ⟨rfl, fun l hl => by obtain ⟨i, hi, rfl⟩ := List.getElem_of_mem hl; have := (hok.row (List.getElem?_eq_getElem hi)).1; omega, fun i hi k hk => by simp⟩
theorem gv_set {M : List (List Int)} {i j k : Nat} {l : List Int} : gv (M.set i l) j k = if j = i ∧ i < M.length then l.getD k 0 else gv M j k := by
 unfold gv
 simp only [List.getD_eq_getElem?_getD, List.getElem?_set]
 by_cases e : i = j
 · subst e
   by_cases h : i < M.length
   · simp [h]
   · simp [h]
 · rw [if_neg e, if_neg (fun h => e h.1.symm)]
theorem LeftM.gone {g M : List (List Int)} {items d : Nat} {xs : List Int} {x : Int} {F : Nat → Bool} (h : LeftM g items xs d F M) (hx : xs[d]? = some x) (hxb : x.toNat < g.length) : LeftM g items xs (d + 1) F (M.set x.toNat (tab items fun _ => -1)) := by
 refine ⟨by simp [h.len], fun l hl => ?_, fun i hi k hk => ?_⟩
 · rcases List.mem_or_eq_of_mem_set hl with hl | rfl
   · exact h.row l hl
   · simp
 · rw [gv_set, take_step (ordN_get hx)]
   simp only [List.mem_append, List.mem_singleton]
   by_cases e : i = x.toNat
   · rw [if_pos ⟨e, by rw [h.len]; exact hxb⟩, if_pos (.inr e), List.getD_eq_getElem?_getD, tab_get hk]; rfl
   · rw [if_neg (fun hc => e hc.1), h.val i hi k hk]
     by_cases e2 : i ∈ (ordN xs).take d
     · rw [if_pos e2, if_pos (.inl e2)]
     · rw [if_neg e2, if_neg (show ¬ (i ∈ List.take d (ordN xs) ∨ i = x.toNat) from fun hc => hc.elim e2 e)]
theorem gv_map_set {M : List (List Int)} {items i j k : Nat} (hl : ∀ l ∈ M, l.length = items) (hi : i < M.length) (hj : j < items) : gv (M.map fun l => l.set j (-1)) i k = if k = j then -1 else gv M i k := by
 unfold gv
 have hr := hl _ (List.getElem_mem hi)
 simp only [List.getD_eq_getElem?_getD, List.getElem?_map, List.getElem?_eq_getElem hi, Option.map_some, Option.getD_some, List.getElem?_set]
 by_cases e : j = k
 · subst e; simp [hr, hj]
 · rw [if_neg e, if_neg (Ne.symm e)]
theorem LeftM.without {g M : List (List Int)} {items e j : Nat} {xs : List Int} {F : Nat → Bool} (h : LeftM g items xs e F M) (hj : j < items) : LeftM g items xs e (no F j) (M.map fun l => l.set j (-1)) := by
 refine ⟨by simp [h.len], fun l hl => ?_, fun i hi k hk => ?_⟩
 · obtain ⟨l', hl', rfl⟩ := List.mem_map.1 hl
   simpa using h.row l' hl'
 · rw [gv_map_set h.row (by rw [h.len]; exact hi) hj, h.val i hi k hk]
   unfold no
   by_cases e1 : k = j
   · subst e1; simp
   · by_cases e2 : i ∈ (ordN xs).take e
     · simp [e1, e2]
     · simp [e1, e2]
theorem LeftM.free {g M : List (List Int)} {items e : Nat} {xs : List Int} {F F' : Nat → Bool} (h : LeftM g items xs e F M) (hF : ∀ k, k < items → F k = F' k) : LeftM g items xs e F' M :=
 ⟨h.len, h.row, fun i hi k hk => by rw [h.val i hi k hk, hF k hk]⟩
def HasM (n : Nat) (o : List Nat) (s h : Nat → Int) (d : Nat) : Prop := ∀ i, i < n → h i = if i ∈ o.take d then s i else -1
theorem HasM.step {n d who : Nat} {o : List Nat} {s h h2 : Nat → Int} {v : Int} (hh : HasM n o s h d) (hw : o[d]? = some who) (h2w : h2 who = v) (h2n : ∀ i, i ≠ who → h2 i = h i) : HasM n o (upd s who v) h2 (d + 1) := by
 intro i hi
 rw [take_step hw]
 simp only [List.mem_append, List.mem_singleton]
 by_cases e : i = who
 · subst e; rw [h2w, if_pos (.inr rfl)]; simp [upd]
 · rw [h2n i e, hh i hi]
   by_cases e2 : i ∈ o.take d
   · rw [if_pos e2, if_pos (.inl e2)]; simp [upd, e]
   · rw [if_neg e2, if_neg (fun hc => hc.elim e2 e)]
theorem not_yet {o : List Nat} {d who : Nat} (hn : o.Nodup) (hw : o[d]? = some who) : ¬ who ∈ o.take d := by
 intro h
 obtain ⟨i, hi, e⟩ := List.getElem_of_mem h
 have hd := lt_of_get hw
 rw [List.length_take] at hi
 have h1 := List.pairwise_iff_getElem.1 hn i d (by omega) hd (by omega)
 apply h1
 rw [List.getElem?_eq_getElem hd] at hw
 rw [Option.some.inj hw, ← e, List.getElem_take]
theorem R11First_ {w0 : World} {gs os : Value} {g : List (List Int)} {xs : List Int} {items : Nat} (hg : RdII w0 gs g) (hos : RdI w0 os xs) (hok : okG g items) (ho : okOrd xs g.length) (hg1 : 0 < g.length) :
   Ret Tryz.prog 73 [gs, .int .i64 items, os] w0 (fun v w => ∃ u, v = .tuple #[u, .int .i64 0] ∧ Loc w0 w [rdv u (fun w => RdI w u (firstV g items (ordN xs)))]) := by
 refine ret_of_C Tryz.func73 rfl rfl rfl ?_
 have H := Loc.refl w0
 obtain ⟨A, c, rfl, hc1, hc2⟩ := hg.len
 obtain ⟨B, d1, rfl, hd1, hd2⟩ := hos.len
 have hxn := okOrd_length ho
 have hn8 := hok.2.1
 have hi8 := hok.1
 have hB : ∀ M, okG M items → BestV M items = .tuple #[.int .i64 (bestV M items), .int .i64 0] := fun M h => by unfold BestV; rw [if_pos h]
 have hol : (ordN xs).length = g.length := by unfold ordN; rw [List.length_map]; exact hxn
 refine C_seq (C_region rfl (R_o rfl (E_assign (R_o rfl (E_assign (R_nil (C_seq (C_seq (C_region rfl (R_o rfl (E_move (R_o rfl (E_move (R_o rfl (E_call rfl (R10Check_ hg (by omega)) ?_)))))))))))))))
 rintro _ w1 ⟨rfl, hb⟩
 replace H := H.call0 hb; clear hb
 refine R_o rfl (E_not rfl ?_)
 refine R_o rfl (E_move (R_part (t := 28) rfl (fun h28 => ?_) (fun h28 => ?_)))
 ·
  exact absurd hok h28
 ·
  refine R_w rfl rfl rfl (E_move ?_)
  refine R_w rfl rfl rfl (E_len rfl ?_)
  refine R_w rfl rfl rfl (E_move ?_)
  refine R_w rfl rfl rfl (E_len rfl ?_)
  refine R_w rfl rfl rfl (E_neq rfl rfl ?_)
  refine R_o rfl (E_pick rfl ?_)
  refine R_nil (C_cond (t := 34) rfl (fun h34 => ?_) (fun h34 => ?_))
  ·
   exact absurd (by omega) h34
  ·
   refine C_skip (C_seq (C_seq (C_region rfl (R_o rfl (E_assign (R_nil (C_block (C_loop (ds := []) [0, 1, 2, 8] (fun m_ vs w => ∃ k : Nat, vs = [.slice A g.length c, .int .i64 items, .slice B xs.length d1, .int .i64 k] ∧ m_ = g.length - k ∧ k ≤ g.length ∧ (True) ∧ Loc w0 w []) (m := g.length) (by first | rfl | exact hd) ?_ ?_))))))))
   · exact ⟨0, rfl, by omega, by omega, trivial, H⟩
   intro m vs ρ₀ w hd hI
   clear H
   obtain ⟨k, rfl, rfl, hk, hst, H⟩ := hI
   refine C_seq (C_seq (C_region rfl (R_o rfl (E_move (R_o rfl (E_move (R_o rfl (E_len rfl ?_))))))))
   refine R_o rfl (E_lss rfl rfl ?_)
   refine R_nil (C_cond (t := 38) rfl (fun hlt => ?_) (fun hlt => ?_))
   ·
    refine C_skip (C_seq (C_block (C_seq (C_region rfl (R_o rfl (E_assign (R_nil (C_seq (C_seq (C_region rfl (R_o rfl (E_assign (R_nil (C_block (C_loop (ds := []) [0, 1, 2, 8, 9, 10] (fun m_ vs w => ∃ j : Nat, ∃ n : Nat, vs = [.slice A g.length c, .int .i64 items, .slice B xs.length d1, .int .i64 k, .int .i64 (n : Nat), .int .i64 j] ∧ m_ = xs.length - j ∧ j ≤ xs.length ∧ (n = (xs.take j).count (k : Int)) ∧ Loc w0 w []) (m := xs.length) (by first | rfl | exact hd) ?_ ?_)))))))))))))))
    · exact ⟨0, 0, rfl, by omega, by omega, by simp, H⟩
    intro m vs ρ₀ w hd hI
    clear H
    obtain ⟨j, n, rfl, rfl, hj, hn, H⟩ := hI
    refine C_seq (C_seq (C_region rfl (R_o rfl (E_move (R_o rfl (E_move (R_o rfl (E_len rfl ?_))))))))
    refine R_o rfl (E_lss rfl rfl ?_)
    refine R_nil (C_cond (t := 44) rfl (fun hlt1 => ?_) (fun hlt1 => ?_))
    ·
     obtain ⟨y, hy⟩ := get_of (xs := xs) (k := j) (by omega)
     refine C_skip (C_seq (C_block (C_seq (C_region rfl (R_o rfl (E_move (R_o rfl (E_move (R_o rfl (E_idxr hos rfl rfl (by omega) (by omega) ?_))))))))))
     refine R_o rfl (E_loadi hos H rfl hy ?_)
     refine R_o rfl (E_move (R_o rfl (E_eql rfl rfl ?_)))
     refine R_nil (C_cond (t := 52) rfl (fun h52 => ?_) (fun h52 => ?_))
     ·
      refine C_region rfl (R_o rfl (E_move (R_o rfl (E_add rfl rfl (by have := List.count_le_length (a := (k : Int)) (l := xs.take j); rw [List.length_take, ← hn] at this; omega) ?_))))
      refine R_o rfl (E_assign (R_nil (C_region rfl (R_o rfl (E_move (R_o rfl (E_add rfl rfl (by omega) ?_)))))))
      refine R_o rfl (E_assign (R_nil (⟨hd, xs.length - (j + 1), by omega, j + 1, _, rfl, rfl, by omega, by rw [take_step hy, List.count_append, List.count_singleton, ← hn]; split <;> (rename_i he; simp at he; omega), H⟩)))
     ·
      refine C_skip (C_region rfl (R_o rfl (E_move (R_o rfl (E_add rfl rfl (by omega) ?_)))))
      refine R_o rfl (E_assign (R_nil (⟨hd, xs.length - (j + 1), by omega, j + 1, _, rfl, rfl, by omega, by rw [take_step hy, List.count_append, List.count_singleton, ← hn]; split <;> (rename_i he; simp at he; omega), H⟩)))
    ·
     have hj : j = xs.length := by omega
     subst hj
     rw [List.take_length] at hn
     refine C_exit ?_
     refine C_seq (C_region rfl (R_o rfl (E_move (R_o rfl (E_neq rfl rfl ?_)))))
     refine R_nil (C_cond (t := 56) rfl (fun h56 => ?_) (fun h56 => ?_))
     ·
      exact absurd (by rw [hn, ho.2 k (by omega)]; rfl) h56
     ·
      refine C_skip (C_region rfl (R_o rfl (E_move (R_o rfl (E_add rfl rfl (by omega) ?_)))))
      refine R_o rfl (E_assign (R_nil (⟨hd, g.length - (k + 1), by omega, k + 1, rfl, rfl, by omega, trivial, H⟩)))
   ·
    refine C_exit ?_
    refine C_seq (C_region rfl (R_o rfl (E_move (R_o rfl (E_move (R_o rfl (E_call rfl ((R10Best_ (Abides.below H.below hg) (by omega)).mono (fun v w h => by rw [hB g hok] at h; exact h)) ?_)))))))
    rintro _ w1 ⟨rfl, hb⟩
    replace H := H.call0 hb; clear hb
    refine R_o rfl (E_move (R_o rfl (E_extract rfl rfl ?_)))
    refine R_o rfl (E_extract rfl rfl ?_)
    refine R_o rfl (E_assign (R_o rfl (E_assign (R_nil (C_seq (C_region rfl (R_o rfl (E_move (R_o rfl (E_len rfl ?_))))))))))
    refine R_o rfl (E_maken g.length g.length H rfl rfl (by omega) (by omega) (by omega) ?_)
    clear H; intro w b65 H
    rw [tint_const] at H
    refine R_o rfl (E_assign (R_nil (C_seq (C_seq (C_region rfl (R_o rfl (E_assign (R_nil (C_block (C_loop (ds := []) [0, 1, 2, 11, 13, 14] (fun m_ vs w => ∃ k : Nat, vs = [.slice A g.length c, .int .i64 items, .slice B xs.length d1, .int .i64 (bestV g items), .slice (some ⟨b65, 0, none⟩) g.length g.length, .int .i64 k] ∧ m_ = g.length - k ∧ k ≤ g.length ∧ (True) ∧ Loc w0 w [row 3 1 (.slice (some ⟨b65, 0, none⟩) g.length g.length) g.length (tint g.length fun i => if i < k then -1 else 0)]) (m := g.length) (by first | rfl | exact hd) ?_ ?_))))))))))
    · exact ⟨0, rfl, by omega, by omega, trivial, H⟩
    intro m vs ρ₀ w hd hI
    clear H
    obtain ⟨k, rfl, rfl, hk, hst, H⟩ := hI
    refine C_seq (C_seq (C_region rfl (R_o rfl (E_move (R_o rfl (E_move (R_o rfl (E_len rfl ?_))))))))
    refine R_o rfl (E_lss rfl rfl ?_)
    refine R_nil (C_cond (t := 69) rfl (fun hlt2 => ?_) (fun hlt2 => ?_))
    ·
     refine C_skip (C_seq (C_block (C_region rfl (R_o rfl (E_move (R_o rfl (E_move (R_o rfl (E_idxw (v := .slice (some ⟨b65, 0, none⟩) g.length g.length) H rfl rfl (by omega) (by omega) ?_)))))))))
     refine R_n rfl (E_storew (v := .slice (some ⟨b65, 0, none⟩) g.length g.length) (j := k) (u := .int .i64 (-1)) H rfl rfl rfl (by omega) ?_)
     clear H; intro w H
     rw [tint_set] at H
     refine R_nil (C_region rfl (R_o rfl (E_move (R_o rfl (E_add rfl rfl (by omega) ?_)))))
     refine R_o rfl (E_assign (R_nil ?_))
     rw [show tint g.length (upd (fun i => if i < k then -1 else 0) k (-1)) = tint g.length (fun i => if i < k + 1 then -1 else 0) from tint_congr fun i hi => by (show (if i = k then (-1 : Int) else if i < k then -1 else 0) = if i < k + 1 then -1 else 0; (repeat' split) <;> omega)] at H
     refine ⟨hd, g.length - (k + 1), by omega, k + 1, rfl, rfl, by omega, trivial, H⟩
    ·
     have hkn : k = g.length := by omega
     rw [hkn] at H
     rw [show tint g.length (fun i => if i < g.length then (-1 : Int) else 0) = tint g.length (fun i => -1) from tint_congr fun i hi => by rw [if_pos hi]] at H
     refine C_exit ?_
     refine C_seq (C_region rfl (R_o rfl (E_assign (R_nil (C_seq (C_seq (C_region rfl (R_o rfl (E_assign (R_nil (C_block (C_loop (ds := []) [0, 1, 2, 11, 13, 15, 16] (fun m_ vs w => ∃ k : Nat, ∃ (vl : Value) (us : List Value), vs = [.slice A g.length c, .int .i64 items, .slice B xs.length d1, .int .i64 (bestV g items), .slice (some ⟨b65, 0, none⟩) g.length g.length, vl, .int .i64 k] ∧ m_ = g.length - k ∧ k ≤ g.length ∧ (True) ∧ Loc w0 w [row 22 1 vl k us, rdv (.bool true) (fun w => Els RdI w us (g.take k)), row 3 1 (.slice (some ⟨b65, 0, none⟩) g.length g.length) g.length (tint g.length fun i => -1)]) (m := g.length) (by first | rfl | exact hd) ?_ ?_))))))))))))
     · replace H := nilRow 22 1 (H.mkEmp.toRd (.bool true) (fun w => Els RdI w [] (g.take 0)) (fun _ _ _ => Els.nil _ _))
       exact ⟨0, .slice none 0 0, [], rfl, by omega, by omega, trivial, H.o3⟩
     intro m vs ρ₀ w hd hI
     clear H
     obtain ⟨k, vl, us, rfl, rfl, hk, hst, H⟩ := hI
     refine C_seq (C_seq (C_region rfl (R_o rfl (E_move (R_o rfl (E_move (R_o rfl (E_len rfl ?_))))))))
     refine R_o rfl (E_lss rfl rfl ?_)
     refine R_nil (C_cond (t := 78) rfl (fun hlt3 => ?_) (fun hlt3 => ?_))
     ·
      obtain ⟨x, hx⟩ := get_of (xs := g) (k := k) (by omega)
      refine C_skip (C_seq (C_block (C_region rfl (R_o rfl (E_move (R_o rfl (E_move (R_o rfl (E_move (R_o rfl (E_idxr hg rfl rfl (by omega) (by omega) ?_)))))))))))
      refine R_o rfl (E_loadr hg H rfl hx ?_)
      intro u hu
      obtain ⟨ws, he, Au, cu, rfl, hu1, hu2, hcell⟩ := hu.els
      rw [he.ints_eq] at hcell
      refine R_o rfl (E_append_rd (v := .slice none 0 0) (news := ints .i64 x) (nilRow 3 1 H) rfl rfl (by simp) (fun j u hj => by obtain ⟨a, e, hc⟩ := hcell j u hj; exact ⟨a, e, Below.cell_some H.below hc⟩) (ints_one _ _) (by have := (hok.row hx).1; omega) (by have := (hok.row hx).1; omega) ?_)
      clear H; intro w v86 H
      rw [List.nil_append, Nat.zero_add] at H
      obtain ⟨A86, c86, rfl, _⟩ := H.len (v := v86)
      refine R_o rfl (E_lit (vs := [.slice A86 x.length c86]) [.tmp 86] rfl rfl rfl rfl rfl H ?_)
      clear H; intro w b87 H
      refine R_o rfl (E_append1 (v := vl) (b := b87) (u := .slice A86 x.length c86) H rfl rfl rfl (by omega) (by omega) ?_)
      clear H; intro w v88 H
      refine R_o rfl (E_assign (R_nil (C_region rfl (R_o rfl (E_move (R_o rfl (E_add rfl rfl (by omega) ?_)))))))
      refine R_o rfl (E_assign (R_nil ?_))
      replace H := H.rot3.join (.bool true) (fun w => Els RdI w (us ++ [.slice A86 x.length c86]) (g.take (k + 1))) (fun S1 S2 w h1 h2 => by rw [take_step hx]; exact (rdv_now h2).snoc (row_rdI h1 rfl))
      refine ⟨hd, g.length - (k + 1), by omega, k + 1, v88, us ++ [.slice A86 x.length c86], rfl, rfl, by omega, trivial, H.o3⟩
     ·
      have hkn : k = g.length := by omega
      subst hkn
      rw [List.take_length] at H
      obtain ⟨bl, cl, rfl, _⟩ := row_shape H.own hg1
      refine C_exit ?_
      refine C_seq (C_seq (C_region rfl (R_o rfl (E_assign (R_nil (C_block (C_loop (ds := []) [1, 2, 11, 13, 15, 17] (fun m_ vs w => ∃ d : Nat, ∃ (W : Int) (h : Nat → Int) (M : List (List Int)) (us : List Value) (bl cl : Nat), vs = [.int .i64 items, .slice B xs.length d1, .int .i64 W, .slice (some ⟨b65, 0, none⟩) g.length g.length, .slice (some ⟨bl, 0, none⟩) g.length cl, .int .i64 d] ∧ m_ = xs.length - d ∧ d ≤ xs.length ∧ (W = (firstAt g items (ordN xs) d).want ∧ (∃ q, FOk g items xs d q) ∧ LeftM g items xs d (firstAt g items (ordN xs) d).F M ∧ HasM g.length (ordN xs) (firstAt g items (ordN xs) d).has h d) ∧ Loc w0 w [row 22 1 (.slice (some ⟨bl, 0, none⟩) g.length cl) g.length us, rdv (.bool true) (fun w => Els RdI w us M), row 3 1 (.slice (some ⟨b65, 0, none⟩) g.length g.length) g.length (tint g.length h)]) (m := xs.length) (by first | rfl | exact hd) ?_ ?_)))))))
      · exact ⟨0, bestV g items, fun _ => -1, g, us, bl, cl, rfl, by omega, by omega, ⟨rfl, ⟨0, FOk.zero hok ho⟩, LeftM.start hok, fun i hi => by simp⟩, H⟩
      intro m vs ρ₀ w hd hI
      clear H
      obtain ⟨d, W, h, M, us, bl, cl, rfl, rfl, hdl, ⟨hW, ⟨q, hF⟩, hM, hh⟩, H⟩ := hI
      refine C_seq (C_seq (C_region rfl (R_o rfl (E_move (R_o rfl (E_move (R_o rfl (E_len rfl ?_))))))))
      refine R_o rfl (E_lss rfl rfl ?_)
      refine R_nil (C_cond (t := 92) rfl (fun hlt4 => ?_) (fun hlt4 => ?_))
      ·
       obtain ⟨x, hx⟩ := get_of (xs := xs) (k := d) (by omega)
       have hxb := ho.1 x (mem_of_get hx)
       have hwho : (ordN xs).getD d 0 = x.toNat := by rw [List.getD_eq_getElem?_getD, ordN_get hx]; rfl
       obtain ⟨y, hy⟩ := get_of (xs := M) (k := x.toNat) (by rw [hM.len]; omega)
       have hyl := hM.row y (mem_of_get hy)
       have hE := H.rd (.bool true)
       obtain ⟨um, hum, hru⟩ := hE.get hy
       obtain ⟨Am, cm, rfl, _⟩ := hru.len
       clear hE
       replace H := (H.fr (rdv (.bool true) (fun w => Els RdI w us M))).rdImp (g := fun w => Els RdI w us M ∧ RdI w (.slice Am y.length cm) y) (fun w h => ⟨h, h.2 _ _ _ hum hy⟩)
       replace H := H.swap
       have hw0 := hF.lo
       have hw1 := hF.hi
       rw [← hW] at hw0 hw1
       refine C_skip (C_seq (C_block (C_seq (C_region rfl (R_o rfl (E_move (R_o rfl (E_move (R_o rfl (E_idxr hos rfl rfl (by omega) (by omega) ?_))))))))))
       refine R_o rfl (E_loadi hos H rfl hx ?_)
       refine R_o rfl (E_assign (R_nil (C_seq (C_region rfl (R_o rfl (E_move (R_o rfl (E_move (R_o rfl (E_idxw (v := .slice (some ⟨bl, 0, none⟩) g.length cl) H rfl rfl (by omega) (by omega) ?_))))))))))
       refine R_o rfl (E_loadw' (v := .slice (some ⟨bl, 0, none⟩) g.length cl) H rfl hum ?_)
       refine R_o rfl (E_assign (R_nil (C_seq (C_region rfl (R_o rfl (E_move (R_o rfl (E_move (R_o rfl (E_move (R_o rfl (E_call rfl (R11nothing_ (n := items) (by omega)) ?_))))))))))))
       rintro v106 w1 hc
       replace H := H.call1 hc; clear hc
       obtain ⟨b106, c106, rfl, _⟩ := row_shape H.own (by omega)
       replace H := H.rowInts
       refine R_o rfl (E_idxw (v := .slice (some ⟨bl, 0, none⟩) g.length cl) H rfl rfl (by omega) (by omega) ?_)
       refine R_n rfl (E_storew (v := .slice (some ⟨bl, 0, none⟩) g.length cl) (j := x.toNat) (u := .slice (some ⟨b106, 0, none⟩) items c106) H rfl rfl rfl (by omega) ?_)
       clear H; intro w H
       replace H := H.rot3.join (.bool true) (fun w => Els RdI w (us.set x.toNat (.slice (some ⟨b106, 0, none⟩) items c106)) (M.set x.toNat (tab items fun _ => -1)) ∧ RdI w (.slice Am y.length cm) y) (fun S1 S2 w h1 h2 => ⟨(rdv_now h2).1.set _ (rdv_now h1), (rdv_now h2).2⟩)
       obtain ⟨us2, hus2⟩ : ∃ us2, us2 = us.set x.toNat (.slice (some ⟨b106, 0, none⟩) items c106) := ⟨_, rfl⟩
       obtain ⟨M2, hM2⟩ : ∃ M2, M2 = M.set x.toNat (tab items fun _ => -1) := ⟨_, rfl⟩
       rw [← hus2, ← hM2] at H
       have hL2 : LeftM g items xs (d + 1) (firstAt g items (ordN xs) d).F M2 := by (rw [hM2]; exact hM.gone hx (by omega))
       refine R_nil (C_seq (C_region rfl (R_o rfl (E_assign (R_nil (C_block (C_loop (ds := []) [1, 2, 11, 13, 15, 17, 18, 19, 20] (fun m_ vs w => ∃ k : Nat, vs = [.int .i64 items, .slice B xs.length d1, .int .i64 W, .slice (some ⟨b65, 0, none⟩) g.length g.length, .slice (some ⟨bl, 0, none⟩) g.length cl, .int .i64 d, .int .i64 x, .slice Am y.length cm, .int .i64 k] ∧ m_ = items - k ∧ k ≤ items ∧ (∀ j, j < k → ¬ isFirst (gv g) items ((ordN xs).drop (d + 1)) ((ordN xs).getD d 0) (firstAt g items (ordN xs) d).F (firstAt g items (ordN xs) d).want j) ∧ Loc w0 w [rdv (.bool true) (fun w => Els RdI w us2 M2 ∧ RdI w (.slice Am y.length cm) y), row 22 1 (.slice (some ⟨bl, 0, none⟩) g.length cl) g.length us2, row 3 1 (.slice (some ⟨b65, 0, none⟩) g.length g.length) g.length (tint g.length h)]) (m := items) (by first | rfl | exact hd) ?_ ?_)))))))
       · exact ⟨0, rfl, by omega, by omega, fun j hj => by omega, H⟩
       intro m vs ρ₀ w hd hI
       clear H
       obtain ⟨k, rfl, rfl, hk0, hno, H⟩ := hI
       refine C_seq (C_seq (C_region rfl (R_o rfl (E_move (R_o rfl (E_move (R_o rfl (E_lss rfl rfl ?_))))))))
       refine R_nil (C_cond (t := 110) rfl (fun hlt5 => ?_) (fun hlt5 => ?_))
       ·
        have hk : k < items := by omega
        obtain ⟨z, hz⟩ := get_of (xs := y) (k := k) (by omega)
        have hval := hM.val x.toNat (by omega) k hk
        rw [gv_of hy hz, if_neg (not_yet (ordN_nodup ho) (ordN_get hx))] at hval
        have hgb := hok.gv_le x.toNat k
        refine C_skip (C_seq (C_block (C_seq (C_seq (C_region rfl (R_o rfl (E_move (R_o rfl (E_move (R_o rfl (E_idxr hru rfl rfl (by omega) (by omega) ?_)))))))))))
        refine R_o rfl (E_loadn (H.rd (.bool true)).2 rfl hz ?_)
        refine R_o rfl (E_lss rfl rfl ?_)
        refine R_nil (C_cond (t := 117) rfl (fun hneg => ?_) (fun hneg => ?_))
        ·
         have hnk : ¬ isFirst (gv g) items ((ordN xs).drop (d + 1)) ((ordN xs).getD d 0) (firstAt g items (ordN xs) d).F (firstAt g items (ordN xs) d).want k := fun hc => by
           have h1 := hc.1; have h2 := hc.2.1
           rw [hwho] at h1; rw [if_pos h2] at hval; omega
         refine C_exit ?_
         refine C_region rfl (R_o rfl (E_move (R_o rfl (E_add rfl rfl (by omega) ?_))))
         refine R_o rfl (E_assign (R_nil (⟨hd, items - (k + 1), by omega, k + 1, rfl, rfl, by omega, fun j hj => ?_, (by exact H.o3)⟩)))
         by_cases e : j = k
         · rw [e]; exact hnk
         · exact hno j (by omega)--
        ·
         have hFk : (firstAt g items (ordN xs) d).F k = true := by
           cases hf : (firstAt g items (ordN xs) d).F k with
           | true => rfl
           | false => rw [hf] at hval; simp at hval; omega
         rw [if_pos hFk] at hval
         refine C_skip (C_seq (C_region rfl (R_o rfl (E_move (R_o rfl (E_move (R_o rfl (E_call rfl (R11without_ (items := items) (H.rowRd (v := .slice (some ⟨bl, 0, none⟩) g.length cl) (H.rd (.bool true)).1) (by rw [hL2.len]; omega) hL2.row (by omega) hk) ?_))))))))
         rintro v120 w1 ⟨us3, hc⟩
         replace H := H.call2 hc; clear hc
         rw [hL2.len] at H
         obtain ⟨b120, c120, rfl, _⟩ := row_shape H.own hg1
         obtain ⟨M3, hM3⟩ : ∃ M3, M3 = M2.map (fun l => l.set k (-1)) := ⟨_, rfl⟩
         rw [← hM3] at H
         have hL3 : LeftM g items xs (d + 1) (no (firstAt g items (ordN xs) d).F k) M3 := by (rw [hM3]; exact hL2.without hk)
         have hb3 := hL3.best ho
         have hb0 := optL_nonneg (gv g) items ((ordN xs).drop (d + 1)) (no (firstAt g items (ordN xs) d).F k)
         have hb1 := optL_bound (m := items) (fun i k => (hok.gv_le i k).2) ((ordN xs).drop (d + 1)) (no (firstAt g items (ordN xs) d).F k)
         rw [List.length_drop, hol] at hb1
         refine R_o rfl (E_assign (R_nil (C_seq (C_region rfl (R_o rfl (E_move (R_o rfl (E_move (R_o rfl (E_call rfl ((R10Best_ (H.rowRd (v := .slice (some ⟨b120, 0, none⟩) g.length c120) (H.rd undef)) (by omega)).mono (fun v w h => by rw [hB M3 (hL3.ok hok)] at h; exact h)) ?_))))))))))
         rintro _ w1 ⟨rfl, hb⟩
         replace H := H.call0 hb; clear hb
         refine R_o rfl (E_move (R_o rfl (E_extract rfl rfl ?_)))
         refine R_o rfl (E_extract rfl rfl ?_)
         refine R_o rfl (E_assign (R_o rfl (E_assign (R_nil (C_seq (C_region rfl (R_o rfl (E_move (R_o rfl (E_move (R_o rfl (E_idxr hru rfl rfl (by omega) (by omega) ?_))))))))))))
         refine R_o rfl (E_loadn (H.rd (.bool true)).2 rfl hz ?_)
         refine R_o rfl (E_move (R_o rfl (E_add rfl rfl (by rw [hb3]; omega) ?_)))
         refine R_o rfl (E_move (R_o rfl (E_eql rfl rfl ?_)))
         refine R_nil (C_cond (t := 134) rfl (fun heq => ?_) (fun heq => ?_))
         ·
          have hfound : isFirst (gv g) items ((ordN xs).drop (d + 1)) ((ordN xs).getD d 0) (firstAt g items (ordN xs) d).F (firstAt g items (ordN xs) d).want k := ⟨by rw [hwho]; omega, hFk, by rw [hwho, ← hW, ← heq, hb3, hval]⟩
          refine C_seq (C_region rfl (R_o rfl (E_move (R_o rfl (E_move (R_o rfl (E_move (R_o rfl (E_idxw (v := .slice (some ⟨b65, 0, none⟩) g.length g.length) H rfl rfl (by omega) (by omega) ?_)))))))))
          refine R_n rfl (E_storew (v := .slice (some ⟨b65, 0, none⟩) g.length g.length) (j := x.toNat) (u := .int .i64 k) H rfl rfl rfl (by omega) ?_)
          clear H; intro w H
          rw [tint_set] at H
          refine R_nil (C_seq (C_region rfl (R_o rfl (E_move (R_o rfl (E_assign (R_nil (C_seq (C_region rfl (R_o rfl (E_move (R_o rfl (E_assign (R_nil (C_exit ?_)))))))))))))))
          refine C_region rfl (R_o rfl (E_move (R_o rfl (E_add rfl rfl (by omega) ?_))))
          refine R_o rfl (E_assign (R_nil ?_))
          first
            | (have e := firstAt_some hk hfound hno
               exact ⟨hd, xs.length - (d + 1), by omega, d + 1, _, upd h x.toNat k, M3, us3, b120, c120, rfl, rfl, by omega, ⟨by rw [e, hb3]; show _ = (firstAt g items (ordN xs) d).want - gv g ((ordN xs).getD d 0) k; have h3 := hfound.2.2; omega, ⟨_, hF.some hok (by omega) hk hfound hno⟩, by rw [e]; exact hL3, by rw [e, hwho]; exact hh.step (ordN_get hx) (upd_at _ _ _) (fun i hi => by simp [upd, hi])⟩, (H.rot3.rdTag (.bool true)).o3⟩)
            | (have e := firstAt_none hnone
               exact ⟨hd, xs.length - (d + 1), by omega, d + 1, W, h, M2, us2, bl, cl, rfl, rfl, by omega, ⟨by rw [e]; exact hW, ⟨_, hF.none hnone⟩, by rw [e]; exact hL2, by rw [e, hwho]; exact hh.step (ordN_get hx) (by rw [hh _ (by omega), if_neg (not_yet (ordN_nodup ho) (ordN_get hx))]) (fun i hi => rfl)⟩, (H.rdImp fun w h => h.1).o3⟩)
         ·
          have hnk : ¬ isFirst (gv g) items ((ordN xs).drop (d + 1)) ((ordN xs).getD d 0) (firstAt g items (ordN xs) d).F (firstAt g items (ordN xs) d).want k := fun hc => heq (by have := hc.2.2; rw [hwho, ← hW, ← hb3] at this; rw [hval]; exact this)
          refine C_skip (C_region rfl (R_o rfl (E_move (R_o rfl (E_add rfl rfl (by omega) ?_)))))
          refine R_o rfl (E_assign (R_nil (⟨hd, items - (k + 1), by omega, k + 1, rfl, rfl, by omega, fun j hj => ?_, (by exact H.o3)⟩)))
          by_cases e : j = k
          · rw [e]; exact hnk
          · exact hno j (by omega)--
       ·
        have hk : k = items := by omega
        have hnone : ∀ j, j < items → ¬ isFirst (gv g) items ((ordN xs).drop (d + 1)) ((ordN xs).getD d 0) (firstAt g items (ordN xs) d).F (firstAt g items (ordN xs) d).want j := fun j hj => hno j (by omega)
        refine C_exit ?_
        refine C_region rfl (R_o rfl (E_move (R_o rfl (E_add rfl rfl (by omega) ?_))))
        refine R_o rfl (E_assign (R_nil ?_))
        first
          | (have e := firstAt_some hk hfound hno
             exact ⟨hd, xs.length - (d + 1), by omega, d + 1, _, upd h x.toNat k, M3, us3, b120, c120, rfl, rfl, by omega, ⟨by rw [e, hb3]; show _ = (firstAt g items (ordN xs) d).want - gv g ((ordN xs).getD d 0) k; have h3 := hfound.2.2; omega, ⟨_, hF.some hok (by omega) hk hfound hno⟩, by rw [e]; exact hL3, by rw [e, hwho]; exact hh.step (ordN_get hx) (upd_at _ _ _) (fun i hi => by simp [upd, hi])⟩, (H.rot3.rdTag (.bool true)).o3⟩)
          | (have e := firstAt_none hnone
             exact ⟨hd, xs.length - (d + 1), by omega, d + 1, W, h, M2, us2, bl, cl, rfl, rfl, by omega, ⟨by rw [e]; exact hW, ⟨_, hF.none hnone⟩, by rw [e]; exact hL2, by rw [e, hwho]; exact hh.step (ordN_get hx) (by rw [hh _ (by omega), if_neg (not_yet (ordN_nodup ho) (ordN_get hx))]) (fun i hi => rfl)⟩, (H.rdImp fun w h => h.1).o3⟩)
      ·
       have hdn : d = xs.length := by omega
       refine C_exit ?_
       refine C_seq (C_region rfl (R_o rfl (E_move (R_o rfl (E_assign (R_o rfl (E_assign (R_nil (C_ret ?_)))))))))
       with_reducible repeat (first | refine thn_ret ?_ | refine inB_ret ?_ | refine noG_ret ?_)
       refine ret_two rfl hd ⟨_, rfl, ?_⟩
       have e : tint g.length h = ints .i64 (firstV g items (ordN xs)) := by
         unfold firstV tint
         congr 1
         refine tab_congr fun i hi => ?_
         rw [hh i hi, hol, hdn, hxn, List.take_of_length_le (by omega), if_pos ((ordN_perm ho).mem_iff.2 (by simpa using hi))]
       rw [e] at H
       exact ((H.fr (row 3 1 (.slice (some ⟨b65, 0, none⟩) g.length g.length) g.length (ints .i64 (firstV g items (ordN xs))))).fst.rowInts)
end Go.Sl
