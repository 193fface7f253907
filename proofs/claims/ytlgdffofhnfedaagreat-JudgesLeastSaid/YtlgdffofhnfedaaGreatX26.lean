/- the answer of chapter 13. -/
import Derived.Test.YtlgdffofhnfedaaGreatX25
set_option linter.unusedVariables false
set_option linter.unusedSimpArgs false
set_option maxRecDepth 10000
set_option maxHeartbeats 2000000
namespace Go.Sl
open Go.RowKit
open Go.Proofs
def gus (m : Mk) (p : List Int) (us : List Value) (k : Nat) : List Value := (List.range k).map fun i => if topV (m.bids.getD i []) p = 0 then .slice none 0 0 else us.getD i undef
theorem gus_succ (m : Mk) (p : List Int) (us : List Value) (k : Nat) : gus m p us (k + 1) = gus m p us k ++ [if topV (m.bids.getD k []) p = 0 then .slice none 0 0 else us.getD k undef] := by
 unfold gus; rw [List.range_succ, List.map_append]; rfl
@[simp] theorem gus_len (m : Mk) (p : List Int) (us : List Value) (k : Nat) : (gus m p us k).length = k := by simp [gus]
theorem gus_get {m : Mk} {p b : List Int} {us : List Value} {k n : Nat} {u : Value} (hk : n < k) (hb : m.bids[n]? = some b) (hu : us[n]? = some u) (ht : ¬ topV b p = 0) : (gus m p us k)[n]? = some u := by
 unfold gus
 rw [List.getElem?_map, List.getElem?_range hk]
 simp only [Option.map_some, getD_of hb, if_neg ht, getD_of hu]
theorem gus_els {m : Mk} {p : List Int} {us : List Value} {w : World} (h : Els RdI w us (demV m p)) : Els RdI w (gus m p us m.bids.length) (grV m p) := by
 refine ⟨by simp, fun i u x hu hx => ?_⟩
 have hi : i < m.bids.length := by have := lt_of_get hx; simpa using this
 obtain ⟨b, hb⟩ := get_of hi
 rw [grV_get hb] at hx
 obtain ⟨u0, hu0, hr⟩ := h.get (demV_get hb)
 unfold gus at hu
 rw [List.getElem?_map, List.getElem?_range hi] at hu
 simp only [Option.map_some, getD_of hb, getD_of hu0, Option.some.injEq] at hu hx
 subst hu; subst hx
 split
 · exact RdS.nil _ _
 · exact hr
theorem isMin_append {l l' : List Int} {x y : Int} (h : IsMin l x) (h' : IsMin l' y) : IsMin (l ++ l') (min x y) := by
 constructor
 · rw [List.mem_append]
   rcases Int.le_total x y with e | e
   · rw [Int.min_eq_left e]; exact .inl h.1
   · rw [Int.min_eq_right e]; exact .inr h'.1
 · intro z hz
   rcases List.mem_append.1 hz with hz | hz
   · have := h.2 z hz; omega
   · have := h'.2 z hz; omega
theorem farL_take {m : Mk} {p set is : List Int} {k : Nat} {y : Int} (h : y ∈ farL m p set (is.take k)) : y ∈ farL m p set is := by
 unfold farL at h ⊢
 obtain ⟨i, hi, hy⟩ := List.mem_flatMap.1 h
 exact List.mem_flatMap.2 ⟨i, List.mem_of_mem_take hi, hy⟩
theorem R13Step_ {w0 : World} {mv v : Value} {m : Mk} {p : List Int} (hm : RdM w0 mv m) (hp : RdI w0 v p) (hok : okMk m) (hop : OkP m p) :
   Ret Tryz.prog 90 [mv, v] w0 (fun r w => ∃ x bb, r = .tuple #[x, .bool bb, .int .i64 0] ∧ ((bb = false ∧ stepV m p = none ∧ Below w0.heap.size w0 w) ∨ (bb = true ∧ ∃ q, stepV m p = some q ∧ Loc w0 w [rdv x (fun w => RdI w x q)]))) := by
 refine ret_of_C Tryz.func90 rfl rfl rfl ?_
 have H := Loc.refl w0
 have hm0 := hm
 obtain ⟨a, b, c, rfl, ra, rb, rc⟩ := hm
 obtain ⟨A1, c1, rfl, hA1, hA2⟩ := ra.len
 obtain ⟨A2, c2, rfl, hB1, hB2⟩ := rb.len
 obtain ⟨B, d1, rfl, hd1, hd2⟩ := hp.len
 have hn1 := hok.1.2.1
 have hn2 := hok.2.1.2
 have hpr := hop.pr hok
 have hp8 := hpr.2.1
 have hpl := hop.1
 have hgr := okGr_grV hok hop
 have hmr : isR (mustV m p) (grV m p).length := by rw [grV_len]; exact must_isR m p
 have hml : (mustV m p).length ≤ m.bids.length := mustTo_len m p m.bids.length
 refine C_seq (C_region rfl (R_o rfl (E_box (cs := [.slice A1 m.res.length c1, .slice A2 m.bids.length c2, c]) rfl H ?_)))
 clear H; intro w b2 H
 refine R_o rfl (E_assign (R_o rfl (E_assign (R_o rfl (E_assign (R_nil (C_seq (C_seq (C_region rfl (R_o rfl (E_loadw H rfl (by rfl) ?_)))))))))))
 refine R_o rfl (E_call rfl (R5Check_ (Abides.below H.below hm0)) ?_)
 rintro _ w1 ⟨rfl, hb⟩
 replace H := H.call0 hb; clear hb
 refine R_o rfl (E_not rfl ?_)
 refine R_o rfl (E_move (R_part (t := 30) rfl (fun h30 => ?_) (fun h30 => ?_)))
 ·
  exact absurd hok h30
 ·
  refine R_w rfl rfl rfl (E_move ?_)
  refine R_w rfl rfl rfl (E_len rfl ?_)
  refine R_w rfl rfl rfl (E_fieldAddr rfl ?_)
  refine R_w rfl rfl rfl (E_load H rfl rfl ?_)
  refine R_w rfl rfl rfl (E_len rfl ?_)
  refine R_w rfl rfl rfl (E_neq rfl rfl ?_)
  refine R_o rfl (E_pick rfl ?_)
  refine R_nil (C_cond (t := 37) rfl (fun h37 => ?_) (fun h37 => ?_))
  ·
   exact absurd (by omega) h37
  ·
   refine C_skip (C_seq (C_seq (C_region rfl (R_o rfl (E_assign (R_nil (C_block (C_loop (ds := []) [1, 2, 7] (fun m_ vs w => ∃ k : Nat, vs = [.slice B p.length d1, .pointer (some ⟨b2, 0, none⟩), .int .i64 k] ∧ m_ = p.length - k ∧ k ≤ p.length ∧ (True) ∧ Loc w0 w [cl b2 25 [.slice A1 m.res.length c1, .slice A2 m.bids.length c2, c]]) (m := p.length) (by first | rfl | exact hd) ?_ ?_))))))))
   · exact ⟨0, rfl, by omega, by omega, trivial, H⟩
   intro m vs ρ₀ w hd hI
   clear H
   obtain ⟨k, rfl, rfl, hk, hst, H⟩ := hI
   refine C_seq (C_seq (C_region rfl (R_o rfl (E_move (R_o rfl (E_move (R_o rfl (E_len rfl ?_))))))))
   refine R_o rfl (E_lss rfl rfl ?_)
   refine R_nil (C_cond (t := 41) rfl (fun hlt => ?_) (fun hlt => ?_))
   ·
    obtain ⟨x, hx⟩ := get_of (xs := p) (k := k) (by omega)
    obtain ⟨⟨r, hr, hrx⟩, hxb⟩ := hop.2 k x hx
    refine C_skip (C_seq (C_block (C_seq (C_drawL [] H (by kernel_rfl) (fun w H => ?_)))))
    refine D_takeT 0 rfl rfl rfl (by kernel_rfl) (fun w K Z kk => E_move kk) ?_
    refine D_takeT 1 rfl rfl rfl (by kernel_rfl) (fun w K Z kk => E_move kk) ?_
    refine D_takeT 2 rfl rfl rfl (by kernel_rfl) (fun w K Z kk => E_idxr hp rfl rfl (by omega) (by omega) kk) ?_
    refine D_take 3 rfl rfl rfl (by kernel_rfl) (by first | exact H | exact H.drop | exact H.drop.drop | exact H.drop.drop.drop | exact H.drop.drop.drop.drop) (fun w HS K Z kk => E_loadi hp HS rfl hx kk) ?_
    refine D_takeT 4 rfl rfl rfl (by kernel_rfl) (fun w K Z kk => E_fieldAddr rfl kk) ?_
    refine D_take 5 rfl rfl rfl (by kernel_rfl) (by first | exact H | exact H.drop | exact H.drop.drop | exact H.drop.drop.drop | exact H.drop.drop.drop.drop) (fun w HS K Z kk => E_load HS rfl rfl kk) ?_
    refine D_takeT 6 rfl rfl rfl (by kernel_rfl) (fun w K Z kk => E_move kk) ?_
    refine D_takeT 7 rfl rfl rfl (by kernel_rfl) (fun w K Z kk => E_idxr ra rfl rfl (by omega) (by omega) kk) ?_
    refine D_take 8 rfl rfl rfl (by kernel_rfl) (by first | exact H | exact H.drop | exact H.drop.drop | exact H.drop.drop.drop | exact H.drop.drop.drop.drop) (fun w HS K Z kk => E_loadi ra HS rfl hr kk) ?_
    refine D_takeT 9 rfl rfl rfl (by kernel_rfl) (fun w K Z kk => E_lss rfl rfl kk) ?_
    refine D_takeT 10 rfl rfl rfl (by kernel_rfl) (fun w K Z kk => E_move kk) ?_
    refine D_part (t := 54) rfl (fun h54 => ?_) (fun h54 => ?_)
    ·
     exact absurd h54 (by omega)
    ·
     refine D_takeTw 11 rfl rfl rfl rfl rfl (by kernel_rfl) (fun w K Z kk => E_move kk) ?_
     refine D_takeTw 12 rfl rfl rfl rfl rfl (by kernel_rfl) (fun w K Z kk => E_move kk) ?_
     refine D_takeTw 13 rfl rfl rfl rfl rfl (by kernel_rfl) (fun w K Z kk => E_idxr hp rfl rfl (by omega) (by omega) kk) ?_
     refine D_takew 14 rfl rfl rfl rfl rfl (by kernel_rfl) (by first | exact H | exact H.drop | exact H.drop.drop | exact H.drop.drop.drop | exact H.drop.drop.drop.drop) (fun w HS K Z kk => E_loadi hp HS rfl hx kk) ?_
     refine D_takeTw 15 rfl rfl rfl rfl rfl (by kernel_rfl) (fun w K Z kk => E_gtr rfl rfl kk) ?_
     refine D_takeT 16 rfl rfl rfl (by kernel_rfl) (fun w K Z kk => E_pick rfl kk) ?_
     refine D_done (by kernel_rfl) ?_
     refine C_cond (t := 60) rfl (fun h60 => ?_) (fun h60 => ?_)
     ·
      exact absurd h60 (by omega)
     ·
      refine C_skip (C_region rfl (R_o rfl (E_move (R_o rfl (E_add rfl rfl (by omega) ?_)))))
      refine R_o rfl (E_assign (R_nil (⟨hd, p.length - (k + 1), by omega, k + 1, rfl, rfl, by omega, trivial, H⟩)))
   ·
    refine C_exit ?_
    refine C_seq (C_region rfl (R_o rfl (E_loadw H rfl (by rfl) ?_)))
    refine R_o rfl (E_move (R_o rfl (E_call rfl (R12AllW_ (Abides.below H.below hm0) (Abides.below H.below hp) hok hpr hpl) ?_)))
    rintro _ w1 ⟨x, y, us, rfl, hc⟩
    replace H := H.call3 hc; clear hc
    have husl : us.length = m.bids.length := by have := (H.fr (rdv undef (fun w => Els RdI w us (demV m p)))).read.1; rw [this]; simp
    refine R_o rfl (E_move (R_o rfl (E_extract rfl rfl ?_)))
    refine R_o rfl (E_extract rfl rfl ?_)
    refine R_o rfl (E_extract rfl rfl ?_)
    refine R_o rfl (E_assign (R_o rfl (E_assign (R_o rfl (E_assign (R_nil (C_seq (C_region rfl (R_o rfl (E_assign (R_nil (C_seq (C_region rfl (R_o rfl (E_assign (R_nil (C_seq (C_seq (C_region rfl (R_o rfl (E_assign (R_nil (C_block (C_loop (ds := []) [1, 2, 8, 9, 11, 12, 13] (fun m_ vs w => ∃ k : Nat, ∃ (v11 v12 : Value), vs = [.slice B p.length d1, .pointer (some ⟨b2, 0, none⟩), x, y, v11, v12, .int .i64 k] ∧ m_ = m.bids.length - k ∧ k ≤ m.bids.length ∧ (True) ∧ Loc w0 w [row 3 1 v11 (mustTo m p k).length (ints .i64 (mustTo m p k)), row 22 1 v12 k (gus m p us k), rdv undef (fun w => Els RdI w us (demV m p)), row 22 1 x m.bids.length us, rdv y (fun w => RdS rBool w y (nonV m p)), cl b2 25 [.slice A1 m.res.length c1, .slice A2 m.bids.length c2, c]]) (m := m.bids.length) (by first | rfl | exact hd) ?_ ?_))))))))))))))))))))))))
    · replace H : Loc _ _ (row 22 1 (.slice none 0 0) 0 (gus m p us 0) :: _) := nilRow 22 1 H
      replace H : Loc _ _ (row 3 1 (.slice none 0 0) (mustTo m p 0).length (ints .i64 (mustTo m p 0)) :: _) := nilRow 3 1 H
      exact ⟨0, .slice none 0 0, .slice none 0 0, rfl, by omega, by omega, trivial, H.al⟩
    intro m vs ρ₀ w hd hI
    clear H
    obtain ⟨k, v11, v12, rfl, rfl, hk, hst, H⟩ := hI
    refine C_seq (C_seq (C_region rfl (R_o rfl (E_move (R_o rfl (E_move (R_o rfl (E_lenw (v := x) H rfl ?_))))))))
    refine R_o rfl (E_lss rfl rfl ?_)
    refine R_nil (C_cond (t := 71) rfl (fun hlt2 => ?_) (fun hlt2 => ?_))
    ·
     obtain ⟨bd, hbd⟩ := get_of (xs := m.bids) (k := k) (by omega)
     obtain ⟨ut, hut⟩ := get_of (xs := us) (k := k) (by omega)
     have hut1 : ut.oneCell' = true := by obtain ⟨u', e1, e2⟩ := ((H.fr (rdv undef (fun w => Els RdI w us (demV m p)))).read).get (demV_get hbd); rw [hut] at e1; cases e1; obtain ⟨_, _, e, _⟩ := e2.len; rw [e]; rfl
     have hmt := mustTo_len m p k
     have hy1 := (H.fr (rdv y (fun w => RdS rBool w y (nonV m p)))).read
     refine C_skip (C_seq (C_block (C_seq (C_region rfl (R_o rfl (E_move (R_o rfl (E_move (R_o rfl (E_idxr hy1 rfl rfl (by omega) (by simp; omega) ?_))))))))))
     refine R_o rfl (E_loadr hy1 (Loc.refl w) rfl (nonV_get hbd) ?_)
     rintro _ rfl
     refine R_nil (C_condb (t := 77) rfl (fun h77 => ?_) (fun h77 => ?_))
     ·
      refine C_region rfl (R_o rfl (E_move (R_o rfl (E_lit (vs := [.slice none 0 0]) [.const (.slice none 0 0)] rfl rfl rfl rfl rfl H ?_))))
      clear H; intro w b79 H
      refine R_o rfl (E_append1 (v := v12) (b := b79) (u := .slice none 0 0) H rfl rfl rfl (by omega) (by omega) ?_)
      clear H; intro w v80 H
      refine R_o rfl (E_assign (R_nil (C_region rfl (R_o rfl (E_move (R_o rfl (E_add rfl rfl (by omega) ?_)))))))
      refine R_o rfl (E_assign (R_nil ?_))
      first
        | (have ht0 : topV bd p = 0 := of_decide_eq_true h77
           have e1 := gus_succ m p us k
           rw [getD_of hbd, if_pos ht0] at e1
           have e2 := (mustTo_succ m p k).trans (if_pos (by rw [getD_of hbd]; exact ht0))
           exact ⟨hd, m.bids.length - (k + 1), by omega, k + 1, v11, v80, rfl, rfl, by omega, trivial, by rw [e1, e2]; exact H.al⟩)
        | (have ht0 : ¬ topV bd p = 0 := of_decide_eq_false h77
           have e1 := gus_succ m p us k
           rw [getD_of hbd, if_neg ht0, getD_of hut] at e1
           have e2 := (mustTo_succ m p k).trans (if_neg (by rw [getD_of hbd]; exact ht0))
           have e3 : (mustTo m p k ++ [(k : Int)]).length = (mustTo m p k).length + 1 := by simp
           exact ⟨hd, m.bids.length - (k + 1), by omega, k + 1, v91, v87, rfl, rfl, by omega, trivial, by rw [e1, e2, e3, ints_snoc]; exact H.al⟩)
     ·
      refine C_seq (C_region rfl (R_o rfl (E_move (R_o rfl (E_move (R_o rfl (E_move (R_o rfl (E_idxw (v := x) H rfl rfl (by omega) (by omega) ?_)))))))))
      refine R_o rfl (E_loadw' (v := x) H rfl hut ?_)
      refine R_o rfl (E_lit (vs := [ut]) [.tmp 85] rfl rfl rfl rfl (by simp [hut1]) H ?_)
      clear H; intro w b86 H
      refine R_o rfl (E_append1 (v := v12) (b := b86) (u := ut) H rfl rfl hut1 (by omega) (by omega) ?_)
      clear H; intro w v87 H
      refine R_o rfl (E_assign (R_nil (C_region rfl (R_o rfl (E_move (R_o rfl (E_move (R_o rfl (E_lit (vs := [.int .i64 (k : Int)]) [.tmp 89] rfl rfl rfl rfl rfl H ?_)))))))))
      clear H; intro w b90 H
      refine R_o rfl (E_append1 (v := v11) (b := b90) (u := .int .i64 (k : Int)) H rfl rfl rfl (by omega) (by omega) ?_)
      clear H; intro w v91 H
      refine R_o rfl (E_assign (R_nil (C_region rfl (R_o rfl (E_move (R_o rfl (E_add rfl rfl (by omega) ?_)))))))
      refine R_o rfl (E_assign (R_nil ?_))
      first
        | (have ht0 : topV bd p = 0 := of_decide_eq_true h77
           have e1 := gus_succ m p us k
           rw [getD_of hbd, if_pos ht0] at e1
           have e2 := (mustTo_succ m p k).trans (if_pos (by rw [getD_of hbd]; exact ht0))
           exact ⟨hd, m.bids.length - (k + 1), by omega, k + 1, v11, v80, rfl, rfl, by omega, trivial, by rw [e1, e2]; exact H.al⟩)
        | (have ht0 : ¬ topV bd p = 0 := of_decide_eq_false h77
           have e1 := gus_succ m p us k
           rw [getD_of hbd, if_neg ht0, getD_of hut] at e1
           have e2 := (mustTo_succ m p k).trans (if_neg (by rw [getD_of hbd]; exact ht0))
           have e3 : (mustTo m p k ++ [(k : Int)]).length = (mustTo m p k).length + 1 := by simp
           exact ⟨hd, m.bids.length - (k + 1), by omega, k + 1, v91, v87, rfl, rfl, by omega, trivial, by rw [e1, e2, e3, ints_snoc]; exact H.al⟩)
    ·
     obtain rfl : k = m.bids.length := by omega
     have hmv : mustTo m p m.bids.length = mustV m p := rfl
     rw [hmv] at H
     refine C_exit ?_
     refine C_seq (C_region rfl (R_o rfl (E_move (R_o rfl (E_append_rd (v := .slice none 0 0) (n := 0) (xs := []) (news := ints .i64 p) (nilRow 3 1 H) rfl rfl (by simp) (fun j u hj => by obtain ⟨A', c', e, _, _, hel⟩ := Abides.below H.below hp; cases e; have hj2 := lt_of_get hj; rw [ints_length] at hj2; obtain ⟨z, hz⟩ := get_of hj2; obtain ⟨ad, u', e1, e2, e3⟩ := hel j z hz; rw [ints_get _ _ _ _ hz] at hj; cases hj; rw [show u' = .int .i64 z from e3] at e2; exact ⟨ad, e1, e2⟩) (ints_one _ _) (by omega) (by omega) ?_)))))
     clear H; intro w v14 H
     rw [List.nil_append, Nat.zero_add] at H
     refine R_o rfl (E_assign (R_nil (C_seq (C_region rfl (R_o rfl (E_move (R_o rfl (E_move (R_o rfl (E_len rfl ?_))))))))))
     refine R_o rfl (E_move ?_)
     have hg12 : RdII w v12 (grV m p) := RdS.of_own (H.fr (row 22 1 v12 m.bids.length (gus m p us m.bids.length))).own (by simp) fun i x hx => (gus_els (H.fr (rdv undef (fun w => Els RdI w us (demV m p)))).read).get hx
     refine R_o rfl (E_call rfl (R9Few_ (u := v12) (v := v11) (items := p.length) hg12 (RdI.of_own (H.fr (row 3 1 v11 (mustV m p).length (ints .i64 (mustV m p)))).own rfl) hgr hmr) ?_)
     rintro _ w1 ⟨v15, b15, rfl, hor⟩
     have hb31 : Below w.heap.size w w1 := hor.elim (fun h => h.2.2) (fun h => h.2.elim fun l h => h.2.below)
     have H31 := H
     replace H := H.call0 hb31
     refine R_o rfl (E_move (R_o rfl (E_extract rfl rfl ?_)))
     refine R_o rfl (E_extract rfl rfl ?_)
     refine R_o rfl (E_extract rfl rfl ?_)
     refine R_o rfl (E_assign (R_o rfl (E_assign (R_o rfl (E_assign (R_nil (C_seq (C_seq (C_region rfl (R_o rfl (E_move (R_o rfl (E_notb rfl ?_)))))))))))))
     refine R_nil (C_condb (t := 104) rfl (fun h104 => ?_) (fun h104 => ?_))
     ·
      have hor1 := hor.resolve_right (fun h => by rw [h.1] at h104; cases h104)
      refine C_seq (C_region rfl (R_o rfl (E_move (R_o rfl (E_assign (R_o rfl (E_assign (R_o rfl (E_assign (R_nil (C_ret ?_)))))))))))
      with_reducible repeat (first | refine thn_ret ?_ | refine inB_ret ?_ | refine noG_ret ?_ | refine jmp_ret ?_)
      first
        | exact ret_three rfl hd ⟨_, _, rfl, .inl ⟨rfl, by unfold stepV; rw [hor1.2.1.eq]; rfl, H.below⟩⟩
        | (rw [List.take_length] at H
           exact ret_three rfl hd ⟨_, _, rfl, .inr ⟨rfl, raise p set X, by unfold stepV; rw [hF.eq, hX, ← hmin]; rfl, ((H.fr (row 3 1 v14 p.length (ints .i64 (raise p set X)))).fst).rowOwn.ownInts⟩⟩)
     ·
      obtain ⟨rfl, set, hF, hc⟩ := hor.resolve_left (fun h => by rw [h.1] at h104; cases h104)
      replace H : Loc w0 w1 (rdv v15 (fun w => RdI w v15 set) :: _) := H31.call1 hc
      have S := step_facts hok hop hF
      have hsr := hF.1
      refine C_skip (C_seq (C_region rfl (R_o rfl (E_assign (R_nil (C_seq (C_seq (C_region rfl (R_o rfl (E_assign (R_nil (C_block (C_loop (ds := []) [1, 2, 11, 12, 14, 15, 18, 19] (fun m_ vs w => ∃ k : Nat, ∃ by_ : Int, vs = [.slice B p.length d1, .pointer (some ⟨b2, 0, none⟩), v11, v12, v14, v15, .int .i64 by_, .int .i64 k] ∧ m_ = (mustV m p).length - k ∧ k ≤ (mustV m p).length ∧ ((by_ = -1 ∧ (farL m p set ((mustV m p).take k)) = []) ∨ IsMin (farL m p set ((mustV m p).take k)) by_) ∧ Loc w0 w [rdv v15 (fun w => RdI w v15 set), row 3 1 v14 p.length (ints .i64 p), row 3 1 v11 (mustV m p).length (ints .i64 (mustV m p)), row 22 1 v12 m.bids.length (gus m p us m.bids.length), rdv undef (fun w => Els RdI w us (demV m p)), cl b2 25 [.slice A1 m.res.length c1, .slice A2 m.bids.length c2, c]]) (m := (mustV m p).length) (by first | rfl | exact hd) ?_ ?_)))))))))))))
      · exact ⟨0, -1, rfl, by omega, by omega, .inl ⟨rfl, rfl⟩, H.al⟩
      intro m vs ρ₀ w hd hI
      clear H
      obtain ⟨k, by_, rfl, rfl, hk, hst, H⟩ := hI
      refine C_seq (C_seq (C_region rfl (R_o rfl (E_move (R_o rfl (E_move (R_o rfl (E_lenw (v := v11) H rfl ?_))))))))
      refine R_o rfl (E_lss rfl rfl ?_)
      refine R_nil (C_cond (t := 109) rfl (fun hlt3 => ?_) (fun hlt3 => ?_))
      ·
       obtain ⟨i, hi⟩ := get_of (xs := mustV m p) (k := k) (by omega)
       obtain ⟨n, hn, rfl, htop⟩ := must_mem.1 (mem_of_get hi)
       obtain ⟨bd, hbd⟩ := get_of hn
       rw [getD_of hbd] at htop
       have hbdx : m.bids.getD ((n : Int)).toNat [] = bd := getD_of hbd
       obtain ⟨hbl, hbb⟩ := bid_of hok hbd htop
       obtain ⟨ut, hut⟩ := get_of (xs := us) (k := n) (by omega)
       have hgu := gus_get (k := m.bids.length) hn hbd hut htop
       have hEl : ∀ w, Els RdI w us (demV m p) → RdI w ut (topsV bd p) := fun w h => by
         obtain ⟨u', e1, e2⟩ := h.get (demV_get hbd)
         rw [hut] at e1; cases e1; exact e2
       have hut2 := hEl _ (H.fr (rdv undef (fun w => Els RdI w us (demV m p)))).read
       obtain ⟨Au, cu, rfl, hu1, hu2⟩ := hut2.len
       obtain ⟨ub, hcb, hbdr⟩ := rb.at hbd
       obtain ⟨Ab, cb, rfl, hb1, hb2⟩ := hbdr.len
       obtain ⟨t0, ht0m⟩ := tops_some htop
       have htl := List.length_pos_of_mem ht0m
       obtain ⟨t0, ht0⟩ := get_of htl
       obtain ⟨j0, x0, z0, rfl, hx0, hz0, he0⟩ := tops_mem.1 (mem_of_get ht0)
       have hb0 := hbb x0 (mem_of_get hx0)
       have hz0b := (hop.2 j0 z0 hz0).2
       have hj0 := lt_of_get hx0
       have hj02 := lt_of_get hz0
       have hgn : (grV m p)[n]? = some (topsV bd p) := by rw [grV_get hbd, if_neg htop]
       have hgd : (grV m p).getD ((n : Int)).toNat [] = topsV bd p := getD_of hgn
       have hin : (!((topsV bd p).all fun k => decide (k ∈ set))) = false → inB' (grV m p) set (n : Int) = true := fun h => by
         unfold inB'; rw [hgd]; rw [Bool.not_eq_false'] at h; exact h
       have hnin : (!((topsV bd p).all fun k => decide (k ∈ set))) = true → ¬ inB' (grV m p) set (n : Int) = true := fun h h2 => by
         unfold inB' at h2; rw [hgd] at h2; rw [h2] at h; cases h
       refine C_skip (C_seq (C_block (C_seq (C_region rfl (R_o rfl (E_move (R_o rfl (E_move (R_o rfl (E_idxw (v := v11) H rfl rfl (by omega) (by omega) ?_))))))))))
       refine R_o rfl (E_loadw' (v := v11) H rfl (ints_get .i64 _ _ _ hi) ?_)
       refine R_o rfl (E_assign (R_nil (C_seq (C_region rfl (R_o rfl (E_assign (R_nil (C_seq (C_seq (C_region rfl (R_o rfl (E_assign (R_nil (C_block (C_loop (ds := []) [1, 2, 11, 12, 14, 15, 18, 19, 20, 21, 22] (fun m_ vs w => ∃ j : Nat, vs = [.slice B p.length d1, .pointer (some ⟨b2, 0, none⟩), v11, v12, v14, v15, .int .i64 by_, .int .i64 (k : Int), .int .i64 (n : Int), .bool (((topsV bd p).take j).all fun k => decide (k ∈ set)), .int .i64 (j : Int)] ∧ m_ = (topsV bd p).length - j ∧ j ≤ (topsV bd p).length ∧ Loc w0 w [rdv v15 (fun w => RdI w v15 set), row 3 1 v14 p.length (ints .i64 p), row 3 1 v11 (mustV m p).length (ints .i64 (mustV m p)), row 22 1 v12 m.bids.length (gus m p us m.bids.length), rdv undef (fun w => Els RdI w us (demV m p)), cl b2 25 [.slice A1 m.res.length c1, .slice A2 m.bids.length c2, c]]) (m := (topsV bd p).length) (by first | rfl | exact hd) ?_ ?_)))))))))))))))
       · exact ⟨0, rfl, by omega, by omega, H⟩
       intro m vs ρ₀ w hd hI
       clear H
       obtain ⟨j, rfl, rfl, hj, H⟩ := hI
       refine C_seq (C_seq (C_region rfl (R_o rfl (E_move (R_o rfl (E_move (R_o rfl (E_move (R_o rfl (E_idxw (v := v12) H rfl rfl (by omega) (by omega) ?_))))))))))
       refine R_o rfl (E_loadw' (v := v12) H rfl hgu ?_)
       refine R_o rfl (E_len rfl ?_)
       refine R_o rfl (E_lss rfl rfl ?_)
       refine R_nil (C_cond (t := 122) rfl (fun hlt4 => ?_) (fun hlt4 => ?_))
       ·
        obtain ⟨z, hz⟩ := get_of (xs := topsV bd p) (k := j) (by omega)
        have hut2 := hEl _ (H.fr (rdv undef (fun w => Els RdI w us (demV m p)))).read
        refine C_skip (C_seq (C_block (C_region rfl (R_o rfl (E_move (R_o rfl (E_move (R_partb (t := 126) rfl (fun h126 => ?_) (fun h126 => ?_)))))))))
        ·
         refine R_w rfl rfl rfl (E_move ?_)
         refine R_w rfl rfl rfl (E_move ?_)
         refine R_w rfl rfl rfl (E_move ?_)
         refine R_w rfl rfl rfl (E_idxw (v := v12) H rfl rfl (by omega) (by omega) ?_)
         refine R_w rfl rfl rfl (E_loadw' (v := v12) H rfl hgu ?_)
         refine R_w rfl rfl rfl (E_move ?_)
         refine R_w rfl rfl rfl (E_idxr hut2 rfl rfl (by omega) (by omega) ?_)
         refine R_w rfl rfl rfl (E_loadi hut2 (Loc.refl w) rfl hz ?_)
         refine R_w rfl rfl rfl (E_call rfl (R13in_ (v := v15) (l := set) (H.fr (rdv v15 (fun w => RdI w v15 set))).read) ?_)
         rintro _ w1 ⟨rfl, hb⟩
         replace H := H.call0 hb; clear hb
         refine R_o rfl (E_pick rfl ?_)
         refine R_o rfl (E_assign (R_nil (C_region rfl (R_o rfl (E_move (R_o rfl (E_add rfl rfl (by omega) ?_)))))))
         refine R_o rfl (E_assign (R_nil ?_))
         first
           | (have e := all_step (p := fun k => decide (k ∈ set)) hz
              rw [h126, Bool.true_and] at e
              exact ⟨hd, (topsV bd p).length - (j + 1), by omega, j + 1, by rw [e]; rfl, rfl, by omega, H⟩)
           | (have e := all_step (p := fun k => decide (k ∈ set)) hz
              rw [h126, Bool.false_and] at e
              exact ⟨hd, (topsV bd p).length - (j + 1), by omega, j + 1, by rw [e]; rfl, rfl, by omega, H⟩)
        ·
         refine R_p rfl rfl rfl ?_
         refine R_p rfl rfl rfl ?_
         refine R_p rfl rfl rfl ?_
         refine R_p rfl rfl rfl ?_
         refine R_p rfl rfl rfl ?_
         refine R_p rfl rfl rfl ?_
         refine R_p rfl rfl rfl ?_
         refine R_p rfl rfl rfl ?_
         refine R_p rfl rfl rfl ?_
         refine R_o rfl (E_pick rfl ?_)
         refine R_o rfl (E_assign (R_nil (C_region rfl (R_o rfl (E_move (R_o rfl (E_add rfl rfl (by omega) ?_)))))))
         refine R_o rfl (E_assign (R_nil ?_))
         first
           | (have e := all_step (p := fun k => decide (k ∈ set)) hz
              rw [h126, Bool.true_and] at e
              exact ⟨hd, (topsV bd p).length - (j + 1), by omega, j + 1, by rw [e]; rfl, rfl, by omega, H⟩)
           | (have e := all_step (p := fun k => decide (k ∈ set)) hz
              rw [h126, Bool.false_and] at e
              exact ⟨hd, (topsV bd p).length - (j + 1), by omega, j + 1, by rw [e]; rfl, rfl, by omega, H⟩)
       ·
        obtain rfl : j = (topsV bd p).length := by omega
        rw [List.take_length]
        have hut2 := hEl _ (H.fr (rdv undef (fun w => Els RdI w us (demV m p)))).read
        refine C_exit ?_
        refine C_seq (C_seq (C_region rfl (R_o rfl (E_move (R_o rfl (E_notb rfl ?_))))))
        refine R_nil (C_condb (t := 138) rfl (fun h138 => ?_) (fun h138 => ?_))
        ·
         refine C_exit ?_
         refine C_region rfl (R_o rfl (E_move (R_o rfl (E_add rfl rfl (by omega) ?_))))
         refine R_o rfl (E_assign (R_nil ?_))
         have hfi : ∀ far, IsMin (farI bd p set) far → IsMin (farL m p set ((mustV m p).take k) ++ farI bd p set) (if by_ < 0 then far else min by_ far) := fun far h => by
           rcases hst with ⟨e, e2⟩ | h2
           · rw [e, e2, List.nil_append, if_pos (by omega)]; exact h
           · rw [if_neg (by have := (S.all _ (farL_take h2.1)).1; omega)]; exact isMin_append h2 h
         first
           | (have e := (farL_step (m := m) (p := p) (set := set) hi).trans (congrArg _ (if_neg (hnin h138)))
              rw [List.append_nil] at e
              exact ⟨hd, (mustV m p).length - (k + 1), by omega, k + 1, by_, rfl, rfl, by omega, by rw [e]; exact hst, H.al⟩)
           | (have e := (farL_step (m := m) (p := p) (set := set) hi).trans (congrArg _ (if_pos (hin h138)))
              rw [hbdx] at e
              have hf2 := hfi _ hfar
              rw [if_pos h209] at hf2
              exact ⟨hd, (mustV m p).length - (k + 1), by omega, k + 1, far, rfl, rfl, by omega, .inr (by rw [e]; exact hf2), H.al⟩)
           | (have e := (farL_step (m := m) (p := p) (set := set) hi).trans (congrArg _ (if_pos (hin h138)))
              rw [hbdx] at e
              have hf2 := hfi _ hfar
              rw [if_neg h209, Int.min_eq_right (by omega)] at hf2
              exact ⟨hd, (mustV m p).length - (k + 1), by omega, k + 1, far, rfl, rfl, by omega, .inr (by rw [e]; exact hf2), H.al⟩)
           | (have e := (farL_step (m := m) (p := p) (set := set) hi).trans (congrArg _ (if_pos (hin h138)))
              rw [hbdx] at e
              have hf2 := hfi _ hfar
              rw [if_neg h209, Int.min_eq_left (by omega)] at hf2
              exact ⟨hd, (mustV m p).length - (k + 1), by omega, k + 1, by_, rfl, rfl, by omega, .inr (by rw [e]; exact hf2), H.al⟩)
        ·
         refine C_skip (C_seq (C_drawL [] H (by kernel_rfl) (fun w H => ?_)))
         refine D_takeT 0 rfl rfl rfl (by kernel_rfl) (fun w K Z kk => E_fieldAddr rfl kk) ?_
         refine D_take 1 rfl rfl rfl (by kernel_rfl) (by first | exact H | exact H.drop | exact H.drop.drop | exact H.drop.drop.drop | exact H.drop.drop.drop.drop) (fun w HS K Z kk => E_load HS rfl rfl kk) ?_
         refine D_takeT 2 rfl rfl rfl (by kernel_rfl) (fun w K Z kk => E_move kk) ?_
         refine D_takeT 3 rfl rfl rfl (by kernel_rfl) (fun w K Z kk => E_idxr rb rfl rfl (by omega) (by omega) kk) ?_
         refine D_take 4 rfl rfl rfl (by kernel_rfl) (by first | exact H | exact H.drop | exact H.drop.drop | exact H.drop.drop.drop | exact H.drop.drop.drop.drop) (fun w HS K Z kk => E_loadc hcb HS rfl kk) ?_
         refine D_takeT 5 rfl rfl rfl (by kernel_rfl) (fun w K Z kk => E_move kk) ?_
         refine D_takeT 6 rfl rfl rfl (by kernel_rfl) (fun w K Z kk => E_move kk) ?_
         refine D_take 7 rfl rfl rfl (by kernel_rfl) (by first | exact H | exact H.drop | exact H.drop.drop | exact H.drop.drop.drop | exact H.drop.drop.drop.drop) (fun w HS K Z kk => E_idxw (v := v12) HS rfl rfl (by omega) (by omega) kk) ?_
         refine D_take 8 rfl rfl rfl (by kernel_rfl) (by first | exact H | exact H.drop | exact H.drop.drop | exact H.drop.drop.drop | exact H.drop.drop.drop.drop) (fun w HS K Z kk => E_loadw' (v := v12) HS rfl hgu kk) ?_
         refine D_takeT 9 rfl rfl rfl (by kernel_rfl) (fun w K Z kk => E_idxr hut2 rfl rfl (by omega) (by omega) kk) ?_
         refine D_take 10 rfl rfl rfl (by kernel_rfl) (by first | exact H | exact H.drop | exact H.drop.drop | exact H.drop.drop.drop | exact H.drop.drop.drop.drop) (fun w HS K Z kk => E_loadi (hEl _ (HS.fr (rdv undef (fun w => Els RdI w us (demV m p)))).read) (Loc.refl w) rfl ht0 kk) ?_
         refine D_takeT 11 rfl rfl rfl (by kernel_rfl) (fun w K Z kk => E_idxr hbdr rfl rfl (by omega) (by omega) kk) ?_
         refine D_take 12 rfl rfl rfl (by kernel_rfl) (by first | exact H | exact H.drop | exact H.drop.drop | exact H.drop.drop.drop | exact H.drop.drop.drop.drop) (fun w HS K Z kk => E_loadi hbdr HS rfl hx0 kk) ?_
         refine D_takeT 13 rfl rfl rfl (by kernel_rfl) (fun w K Z kk => E_move kk) ?_
         refine D_takeT 14 rfl rfl rfl (by kernel_rfl) (fun w K Z kk => E_move kk) ?_
         refine D_takeT 15 rfl rfl rfl (by kernel_rfl) (fun w K Z kk => E_move kk) ?_
         refine D_take 16 rfl rfl rfl (by kernel_rfl) (by first | exact H | exact H.drop | exact H.drop.drop | exact H.drop.drop.drop | exact H.drop.drop.drop.drop) (fun w HS K Z kk => E_idxw (v := v12) HS rfl rfl (by omega) (by omega) kk) ?_
         refine D_take 17 rfl rfl rfl (by kernel_rfl) (by first | exact H | exact H.drop | exact H.drop.drop | exact H.drop.drop.drop | exact H.drop.drop.drop.drop) (fun w HS K Z kk => E_loadw' (v := v12) HS rfl hgu kk) ?_
         refine D_takeT 18 rfl rfl rfl (by kernel_rfl) (fun w K Z kk => E_idxr hut2 rfl rfl (by omega) (by omega) kk) ?_
         refine D_take 19 rfl rfl rfl (by kernel_rfl) (by first | exact H | exact H.drop | exact H.drop.drop | exact H.drop.drop.drop | exact H.drop.drop.drop.drop) (fun w HS K Z kk => E_loadi (hEl _ (HS.fr (rdv undef (fun w => Els RdI w us (demV m p)))).read) (Loc.refl w) rfl ht0 kk) ?_
         refine D_takeT 20 rfl rfl rfl (by kernel_rfl) (fun w K Z kk => E_idxr hp rfl rfl (by omega) (by omega) kk) ?_
         refine D_take 21 rfl rfl rfl (by kernel_rfl) (by first | exact H | exact H.drop | exact H.drop.drop | exact H.drop.drop.drop | exact H.drop.drop.drop.drop) (fun w HS K Z kk => E_loadi hp HS rfl hz0 kk) ?_
         refine D_takeT 22 rfl rfl rfl (by kernel_rfl) (fun w K Z kk => E_subc (topV bd p) rfl rfl he0 (by omega) kk) ?_
         refine D_takeT 23 rfl rfl rfl (by kernel_rfl) (fun w K Z kk => E_assign kk) ?_
         refine D_done (by kernel_rfl) ?_
         refine C_seq (C_region rfl (R_o rfl (E_move (R_o rfl (E_assign (R_nil (C_seq (C_seq (C_region rfl (R_o rfl (E_assign (R_nil (C_block (C_loop (ds := []) [1, 2, 11, 12, 14, 15, 18, 19, 20, 23, 24, 25] (fun m_ vs w => ∃ (j : Nat) (far : Int), vs = [.slice B p.length d1, .pointer (some ⟨b2, 0, none⟩), v11, v12, v14, v15, .int .i64 by_, .int .i64 (k : Int), .int .i64 (n : Int), .int .i64 (topV bd p), .int .i64 far, .int .i64 (j : Int)] ∧ m_ = p.length - j ∧ j ≤ p.length ∧ IsMin (farTo bd p set j) far ∧ Loc w0 w [rdv v15 (fun w => RdI w v15 set), row 3 1 v14 p.length (ints .i64 p), row 3 1 v11 (mustV m p).length (ints .i64 (mustV m p)), row 22 1 v12 m.bids.length (gus m p us m.bids.length), rdv undef (fun w => Els RdI w us (demV m p)), cl b2 25 [.slice A1 m.res.length c1, .slice A2 m.bids.length c2, c]]) (m := p.length) (by first | rfl | exact hd) ?_ ?_))))))))))))))
         · exact ⟨0, topV bd p, rfl, by omega, by omega, ⟨List.mem_cons_self, fun y hy => by simp [farTo] at hy; omega⟩, H⟩
         intro m vs ρ₀ w hd hI
         clear H
         obtain ⟨j, far, rfl, rfl, hj, hfar, H⟩ := hI
         refine C_seq (C_seq (C_region rfl (R_o rfl (E_move (R_o rfl (E_move (R_o rfl (E_len rfl ?_))))))))
         refine R_o rfl (E_lss rfl rfl ?_)
         refine R_nil (C_cond (t := 166) rfl (fun hlt5 => ?_) (fun hlt5 => ?_))
         ·
          obtain ⟨zj, hzj⟩ := get_of (xs := p) (k := j) (by omega)
          obtain ⟨xj, hxj⟩ := get_of (xs := bd) (k := j) (by omega)
          have hbj := hbb xj (mem_of_get hxj)
          have hzjb := (hop.2 j zj hzj).2
          have htopb := topV_ge hxj hzj
          have htop1 : topV bd p ≤ 1000000 := by omega
          refine C_skip (C_seq (C_block (C_seq (C_drawL [] H (by kernel_rfl) (fun w H => ?_)))))
          refine D_takeT 0 rfl rfl rfl (by kernel_rfl) (fun w K Z kk => E_move kk) ?_
          refine D_takeT 1 rfl rfl rfl (by kernel_rfl) (fun w K Z kk => E_move kk) ?_
          refine D_act 2 rfl rfl (by kernel_rfl) (E_call rfl (R13in_ (v := v15) (l := set) (n := (j : Int)) (H.fr (rdv v15 (fun w => RdI w v15 set))).read) ?_)
          rintro _ w1 ⟨rfl, hb⟩
          replace H := H.call0 hb; clear hb
          refine ⟨fun _ _ => (by first | exact H | exact H.drop | exact H.drop.drop | exact H.drop.drop.drop | exact H.drop.drop.drop.drop), ?_⟩
          refine D_takeT 3 rfl rfl rfl (by kernel_rfl) (fun w K Z kk => E_not rfl kk) ?_
          refine D_takeT 4 rfl rfl rfl (by kernel_rfl) (fun w K Z kk => E_move kk) ?_
          refine D_part (t := 173) rfl (fun h173 => ?_) (fun h173 => ?_)
          ·
           refine D_takeTw 5 rfl rfl rfl rfl rfl (by kernel_rfl) (fun w K Z kk => E_move kk) ?_
           refine D_takeTw 6 rfl rfl rfl rfl rfl (by kernel_rfl) (fun w K Z kk => E_fieldAddr rfl kk) ?_
           refine D_takew 7 rfl rfl rfl rfl rfl (by kernel_rfl) (by first | exact H | exact H.drop | exact H.drop.drop | exact H.drop.drop.drop | exact H.drop.drop.drop.drop) (fun w HS K Z kk => E_load HS rfl rfl kk) ?_
           refine D_takeTw 8 rfl rfl rfl rfl rfl (by kernel_rfl) (fun w K Z kk => E_move kk) ?_
           refine D_takeTw 9 rfl rfl rfl rfl rfl (by kernel_rfl) (fun w K Z kk => E_idxr rb rfl rfl (by omega) (by omega) kk) ?_
           refine D_takew 10 rfl rfl rfl rfl rfl (by kernel_rfl) (by first | exact H | exact H.drop | exact H.drop.drop | exact H.drop.drop.drop | exact H.drop.drop.drop.drop) (fun w HS K Z kk => E_loadc hcb HS rfl kk) ?_
           refine D_takeTw 11 rfl rfl rfl rfl rfl (by kernel_rfl) (fun w K Z kk => E_move kk) ?_
           refine D_takeTw 12 rfl rfl rfl rfl rfl (by kernel_rfl) (fun w K Z kk => E_idxr hbdr rfl rfl (by omega) (by omega) kk) ?_
           refine D_takew 13 rfl rfl rfl rfl rfl (by kernel_rfl) (by first | exact H | exact H.drop | exact H.drop.drop | exact H.drop.drop.drop | exact H.drop.drop.drop.drop) (fun w HS K Z kk => E_loadi hbdr HS rfl hxj kk) ?_
           refine D_takeTw 14 rfl rfl rfl rfl rfl (by kernel_rfl) (fun w K Z kk => E_move kk) ?_
           refine D_takeTw 15 rfl rfl rfl rfl rfl (by kernel_rfl) (fun w K Z kk => E_move kk) ?_
           refine D_takeTw 16 rfl rfl rfl rfl rfl (by kernel_rfl) (fun w K Z kk => E_idxr hp rfl rfl (by omega) (by omega) kk) ?_
           refine D_takew 17 rfl rfl rfl rfl rfl (by kernel_rfl) (by first | exact H | exact H.drop | exact H.drop.drop | exact H.drop.drop.drop | exact H.drop.drop.drop.drop) (fun w HS K Z kk => E_loadi hp HS rfl hzj kk) ?_
           refine D_takeTw 18 rfl rfl rfl rfl rfl (by kernel_rfl) (fun w K Z kk => E_sub rfl rfl (by omega) kk) ?_
           refine D_takeTw 19 rfl rfl rfl rfl rfl (by kernel_rfl) (fun w K Z kk => E_sub rfl rfl (by omega) kk) ?_
           refine D_takeTw 20 rfl rfl rfl rfl rfl (by kernel_rfl) (fun w K Z kk => E_move kk) ?_
           refine D_takeTw 21 rfl rfl rfl rfl rfl (by kernel_rfl) (fun w K Z kk => E_lss rfl rfl kk) ?_
           refine D_takeT 22 rfl rfl rfl (by kernel_rfl) (fun w K Z kk => E_pick rfl kk) ?_
           refine D_done (by kernel_rfl) ?_
           refine C_cond (t := 191) rfl (fun h191 => ?_) (fun h191 => ?_)
           ·
            refine C_drawL [] H (by kernel_rfl) (fun w H => ?_)
            refine D_takeT 0 rfl rfl rfl (by kernel_rfl) (fun w K Z kk => E_move kk) ?_
            refine D_takeT 1 rfl rfl rfl (by kernel_rfl) (fun w K Z kk => E_fieldAddr rfl kk) ?_
            refine D_take 2 rfl rfl rfl (by kernel_rfl) (by first | exact H | exact H.drop | exact H.drop.drop | exact H.drop.drop.drop | exact H.drop.drop.drop.drop) (fun w HS K Z kk => E_load HS rfl rfl kk) ?_
            refine D_takeT 3 rfl rfl rfl (by kernel_rfl) (fun w K Z kk => E_move kk) ?_
            refine D_takeT 4 rfl rfl rfl (by kernel_rfl) (fun w K Z kk => E_idxr rb rfl rfl (by omega) (by omega) kk) ?_
            refine D_take 5 rfl rfl rfl (by kernel_rfl) (by first | exact H | exact H.drop | exact H.drop.drop | exact H.drop.drop.drop | exact H.drop.drop.drop.drop) (fun w HS K Z kk => E_loadc hcb HS rfl kk) ?_
            refine D_takeT 6 rfl rfl rfl (by kernel_rfl) (fun w K Z kk => E_move kk) ?_
            refine D_takeT 7 rfl rfl rfl (by kernel_rfl) (fun w K Z kk => E_idxr hbdr rfl rfl (by omega) (by omega) kk) ?_
            refine D_take 8 rfl rfl rfl (by kernel_rfl) (by first | exact H | exact H.drop | exact H.drop.drop | exact H.drop.drop.drop | exact H.drop.drop.drop.drop) (fun w HS K Z kk => E_loadi hbdr HS rfl hxj kk) ?_
            refine D_takeT 9 rfl rfl rfl (by kernel_rfl) (fun w K Z kk => E_move kk) ?_
            refine D_takeT 10 rfl rfl rfl (by kernel_rfl) (fun w K Z kk => E_move kk) ?_
            refine D_takeT 11 rfl rfl rfl (by kernel_rfl) (fun w K Z kk => E_idxr hp rfl rfl (by omega) (by omega) kk) ?_
            refine D_take 12 rfl rfl rfl (by kernel_rfl) (by first | exact H | exact H.drop | exact H.drop.drop | exact H.drop.drop.drop | exact H.drop.drop.drop.drop) (fun w HS K Z kk => E_loadi hp HS rfl hzj kk) ?_
            refine D_takeT 13 rfl rfl rfl (by kernel_rfl) (fun w K Z kk => E_sub rfl rfl (by omega) kk) ?_
            refine D_takeT 14 rfl rfl rfl (by kernel_rfl) (fun w K Z kk => E_sub rfl rfl (by omega) kk) ?_
            refine D_takeT 15 rfl rfl rfl (by kernel_rfl) (fun w K Z kk => E_assign kk) ?_
            refine D_done (by kernel_rfl) ?_
            refine C_region rfl (R_o rfl (E_move (R_o rfl (E_add rfl rfl (by omega) ?_))))
            refine R_o rfl (E_assign (R_nil ?_))
            first
              | (have e := (farTo_step (set := set) hxj hzj).trans (if_pos (Decidable.of_not_not h173))
                 exact ⟨hd, p.length - (j + 1), by omega, j + 1, far, rfl, rfl, by omega, by rw [e]; exact hfar, H⟩)
              | (have e := (farTo_step (set := set) hxj hzj).trans (if_neg h173)
                 exact ⟨hd, p.length - (j + 1), by omega, j + 1, topV bd p - (xj - zj), rfl, rfl, by omega, by have h5 := isMin_snoc (y := topV bd p - (xj - zj)) hfar; rw [Int.min_eq_right (by omega)] at h5; rw [e]; exact h5, H⟩)
              | (have e := (farTo_step (set := set) hxj hzj).trans (if_neg h173)
                 exact ⟨hd, p.length - (j + 1), by omega, j + 1, far, rfl, rfl, by omega, by have h5 := isMin_snoc (y := topV bd p - (xj - zj)) hfar; rw [Int.min_eq_left (by omega)] at h5; rw [e]; exact h5, H⟩)
           ·
            refine C_skip (C_region rfl (R_o rfl (E_move (R_o rfl (E_add rfl rfl (by omega) ?_)))))
            refine R_o rfl (E_assign (R_nil ?_))
            first
              | (have e := (farTo_step (set := set) hxj hzj).trans (if_pos (Decidable.of_not_not h173))
                 exact ⟨hd, p.length - (j + 1), by omega, j + 1, far, rfl, rfl, by omega, by rw [e]; exact hfar, H⟩)
              | (have e := (farTo_step (set := set) hxj hzj).trans (if_neg h173)
                 exact ⟨hd, p.length - (j + 1), by omega, j + 1, topV bd p - (xj - zj), rfl, rfl, by omega, by have h5 := isMin_snoc (y := topV bd p - (xj - zj)) hfar; rw [Int.min_eq_right (by omega)] at h5; rw [e]; exact h5, H⟩)
              | (have e := (farTo_step (set := set) hxj hzj).trans (if_neg h173)
                 exact ⟨hd, p.length - (j + 1), by omega, j + 1, far, rfl, rfl, by omega, by have h5 := isMin_snoc (y := topV bd p - (xj - zj)) hfar; rw [Int.min_eq_left (by omega)] at h5; rw [e]; exact h5, H⟩)
          ·
           refine D_passT 5 rfl rfl rfl rfl rfl (by kernel_rfl) ?_
           refine D_passT 6 rfl rfl rfl rfl rfl (by kernel_rfl) ?_
           refine D_passT 7 rfl rfl rfl rfl rfl (by kernel_rfl) ?_
           refine D_passT 8 rfl rfl rfl rfl rfl (by kernel_rfl) ?_
           refine D_passT 9 rfl rfl rfl rfl rfl (by kernel_rfl) ?_
           refine D_passT 10 rfl rfl rfl rfl rfl (by kernel_rfl) ?_
           refine D_passT 11 rfl rfl rfl rfl rfl (by kernel_rfl) ?_
           refine D_passT 12 rfl rfl rfl rfl rfl (by kernel_rfl) ?_
           refine D_passT 13 rfl rfl rfl rfl rfl (by kernel_rfl) ?_
           refine D_passT 14 rfl rfl rfl rfl rfl (by kernel_rfl) ?_
           refine D_passT 15 rfl rfl rfl rfl rfl (by kernel_rfl) ?_
           refine D_passT 16 rfl rfl rfl rfl rfl (by kernel_rfl) ?_
           refine D_passT 17 rfl rfl rfl rfl rfl (by kernel_rfl) ?_
           refine D_passT 18 rfl rfl rfl rfl rfl (by kernel_rfl) ?_
           refine D_passT 19 rfl rfl rfl rfl rfl (by kernel_rfl) ?_
           refine D_passT 20 rfl rfl rfl rfl rfl (by kernel_rfl) ?_
           refine D_passT 21 rfl rfl rfl rfl rfl (by kernel_rfl) ?_
           refine D_takeT 22 rfl rfl rfl (by kernel_rfl) (fun w K Z kk => E_pick rfl kk) ?_
           refine D_done (by kernel_rfl) ?_
           refine C_false (t := 191) rfl ?_
           refine C_skip (C_region rfl (R_o rfl (E_move (R_o rfl (E_add rfl rfl (by omega) ?_)))))
           refine R_o rfl (E_assign (R_nil ?_))
           first
             | (have e := (farTo_step (set := set) hxj hzj).trans (if_pos (Decidable.of_not_not h173))
                exact ⟨hd, p.length - (j + 1), by omega, j + 1, far, rfl, rfl, by omega, by rw [e]; exact hfar, H⟩)
             | (have e := (farTo_step (set := set) hxj hzj).trans (if_neg h173)
                exact ⟨hd, p.length - (j + 1), by omega, j + 1, topV bd p - (xj - zj), rfl, rfl, by omega, by have h5 := isMin_snoc (y := topV bd p - (xj - zj)) hfar; rw [Int.min_eq_right (by omega)] at h5; rw [e]; exact h5, H⟩)
             | (have e := (farTo_step (set := set) hxj hzj).trans (if_neg h173)
                exact ⟨hd, p.length - (j + 1), by omega, j + 1, far, rfl, rfl, by omega, by have h5 := isMin_snoc (y := topV bd p - (xj - zj)) hfar; rw [Int.min_eq_left (by omega)] at h5; rw [e]; exact h5, H⟩)
         ·
          obtain rfl : j = p.length := by omega
          rw [farTo_full] at hfar
          refine C_exit ?_
          refine C_seq (C_region rfl (R_o rfl (E_move (R_o rfl (E_lss rfl rfl ?_)))))
          refine R_o rfl (E_move (R_part (t := 209) rfl (fun h209 => ?_) (fun h209 => ?_)))
          ·
           refine R_p rfl rfl rfl ?_
           refine R_p rfl rfl rfl ?_
           refine R_p rfl rfl rfl ?_
           refine R_o rfl (E_pick rfl ?_)
           refine R_nil (C_true (t := 213) rfl ?_)
           refine C_region rfl (R_o rfl (E_move (R_o rfl (E_assign (R_nil (C_region rfl (R_o rfl (E_move (R_o rfl (E_add rfl rfl (by omega) ?_))))))))))
           refine R_o rfl (E_assign (R_nil ?_))
           have hfi : ∀ far, IsMin (farI bd p set) far → IsMin (farL m p set ((mustV m p).take k) ++ farI bd p set) (if by_ < 0 then far else min by_ far) := fun far h => by
             rcases hst with ⟨e, e2⟩ | h2
             · rw [e, e2, List.nil_append, if_pos (by omega)]; exact h
             · rw [if_neg (by have := (S.all _ (farL_take h2.1)).1; omega)]; exact isMin_append h2 h
           first
             | (have e := (farL_step (m := m) (p := p) (set := set) hi).trans (congrArg _ (if_neg (hnin h138)))
                rw [List.append_nil] at e
                exact ⟨hd, (mustV m p).length - (k + 1), by omega, k + 1, by_, rfl, rfl, by omega, by rw [e]; exact hst, H.al⟩)
             | (have e := (farL_step (m := m) (p := p) (set := set) hi).trans (congrArg _ (if_pos (hin h138)))
                rw [hbdx] at e
                have hf2 := hfi _ hfar
                rw [if_pos h209] at hf2
                exact ⟨hd, (mustV m p).length - (k + 1), by omega, k + 1, far, rfl, rfl, by omega, .inr (by rw [e]; exact hf2), H.al⟩)
             | (have e := (farL_step (m := m) (p := p) (set := set) hi).trans (congrArg _ (if_pos (hin h138)))
                rw [hbdx] at e
                have hf2 := hfi _ hfar
                rw [if_neg h209, Int.min_eq_right (by omega)] at hf2
                exact ⟨hd, (mustV m p).length - (k + 1), by omega, k + 1, far, rfl, rfl, by omega, .inr (by rw [e]; exact hf2), H.al⟩)
             | (have e := (farL_step (m := m) (p := p) (set := set) hi).trans (congrArg _ (if_pos (hin h138)))
                rw [hbdx] at e
                have hf2 := hfi _ hfar
                rw [if_neg h209, Int.min_eq_left (by omega)] at hf2
                exact ⟨hd, (mustV m p).length - (k + 1), by omega, k + 1, by_, rfl, rfl, by omega, .inr (by rw [e]; exact hf2), H.al⟩)
          ·
           refine R_w rfl rfl rfl (E_move ?_)
           refine R_w rfl rfl rfl (E_move ?_)
           refine R_w rfl rfl rfl (E_lss rfl rfl ?_)
           refine R_o rfl (E_pick rfl ?_)
           refine R_nil (C_cond (t := 213) rfl (fun h213 => ?_) (fun h213 => ?_))
           ·
            refine C_region rfl (R_o rfl (E_move (R_o rfl (E_assign (R_nil (C_region rfl (R_o rfl (E_move (R_o rfl (E_add rfl rfl (by omega) ?_))))))))))
            refine R_o rfl (E_assign (R_nil ?_))
            have hfi : ∀ far, IsMin (farI bd p set) far → IsMin (farL m p set ((mustV m p).take k) ++ farI bd p set) (if by_ < 0 then far else min by_ far) := fun far h => by
              rcases hst with ⟨e, e2⟩ | h2
              · rw [e, e2, List.nil_append, if_pos (by omega)]; exact h
              · rw [if_neg (by have := (S.all _ (farL_take h2.1)).1; omega)]; exact isMin_append h2 h
            first
              | (have e := (farL_step (m := m) (p := p) (set := set) hi).trans (congrArg _ (if_neg (hnin h138)))
                 rw [List.append_nil] at e
                 exact ⟨hd, (mustV m p).length - (k + 1), by omega, k + 1, by_, rfl, rfl, by omega, by rw [e]; exact hst, H.al⟩)
              | (have e := (farL_step (m := m) (p := p) (set := set) hi).trans (congrArg _ (if_pos (hin h138)))
                 rw [hbdx] at e
                 have hf2 := hfi _ hfar
                 rw [if_pos h209] at hf2
                 exact ⟨hd, (mustV m p).length - (k + 1), by omega, k + 1, far, rfl, rfl, by omega, .inr (by rw [e]; exact hf2), H.al⟩)
              | (have e := (farL_step (m := m) (p := p) (set := set) hi).trans (congrArg _ (if_pos (hin h138)))
                 rw [hbdx] at e
                 have hf2 := hfi _ hfar
                 rw [if_neg h209, Int.min_eq_right (by omega)] at hf2
                 exact ⟨hd, (mustV m p).length - (k + 1), by omega, k + 1, far, rfl, rfl, by omega, .inr (by rw [e]; exact hf2), H.al⟩)
              | (have e := (farL_step (m := m) (p := p) (set := set) hi).trans (congrArg _ (if_pos (hin h138)))
                 rw [hbdx] at e
                 have hf2 := hfi _ hfar
                 rw [if_neg h209, Int.min_eq_left (by omega)] at hf2
                 exact ⟨hd, (mustV m p).length - (k + 1), by omega, k + 1, by_, rfl, rfl, by omega, .inr (by rw [e]; exact hf2), H.al⟩)
           ·
            refine C_skip (C_region rfl (R_o rfl (E_move (R_o rfl (E_add rfl rfl (by omega) ?_)))))
            refine R_o rfl (E_assign (R_nil ?_))
            have hfi : ∀ far, IsMin (farI bd p set) far → IsMin (farL m p set ((mustV m p).take k) ++ farI bd p set) (if by_ < 0 then far else min by_ far) := fun far h => by
              rcases hst with ⟨e, e2⟩ | h2
              · rw [e, e2, List.nil_append, if_pos (by omega)]; exact h
              · rw [if_neg (by have := (S.all _ (farL_take h2.1)).1; omega)]; exact isMin_append h2 h
            first
              | (have e := (farL_step (m := m) (p := p) (set := set) hi).trans (congrArg _ (if_neg (hnin h138)))
                 rw [List.append_nil] at e
                 exact ⟨hd, (mustV m p).length - (k + 1), by omega, k + 1, by_, rfl, rfl, by omega, by rw [e]; exact hst, H.al⟩)
              | (have e := (farL_step (m := m) (p := p) (set := set) hi).trans (congrArg _ (if_pos (hin h138)))
                 rw [hbdx] at e
                 have hf2 := hfi _ hfar
                 rw [if_pos h209] at hf2
                 exact ⟨hd, (mustV m p).length - (k + 1), by omega, k + 1, far, rfl, rfl, by omega, .inr (by rw [e]; exact hf2), H.al⟩)
              | (have e := (farL_step (m := m) (p := p) (set := set) hi).trans (congrArg _ (if_pos (hin h138)))
                 rw [hbdx] at e
                 have hf2 := hfi _ hfar
                 rw [if_neg h209, Int.min_eq_right (by omega)] at hf2
                 exact ⟨hd, (mustV m p).length - (k + 1), by omega, k + 1, far, rfl, rfl, by omega, .inr (by rw [e]; exact hf2), H.al⟩)
              | (have e := (farL_step (m := m) (p := p) (set := set) hi).trans (congrArg _ (if_pos (hin h138)))
                 rw [hbdx] at e
                 have hf2 := hfi _ hfar
                 rw [if_neg h209, Int.min_eq_left (by omega)] at hf2
                 exact ⟨hd, (mustV m p).length - (k + 1), by omega, k + 1, by_, rfl, rfl, by omega, .inr (by rw [e]; exact hf2), H.al⟩)
      ·
       obtain rfl : k = (mustV m p).length := by omega
       rw [List.take_length] at hst
       have hmin : minV (farL m p set (mustV m p)) = by_ := by
         rcases hst with ⟨_, e⟩ | h
         · have := S.min.1; rw [e] at this; cases this
         · exact h.eq
       obtain ⟨As, cs, rfl, hs1, hs2⟩ := (H.fr (rdv v15 (fun w => RdI w v15 set))).read.len
       obtain ⟨X, hX⟩ : ∃ X, X = by_ := ⟨_, rfl⟩
       have hXb := S.all _ S.min.1
       rw [hmin, ← hX] at hXb
       rw [← hX]
       refine C_exit ?_
       refine C_seq (C_seq (C_region rfl (R_o rfl (E_assign (R_nil (C_block (C_loop (ds := []) [14, 15, 18, 26] (fun m_ vs w => ∃ k : Nat, vs = [v14, .slice As set.length cs, .int .i64 X, .int .i64 k] ∧ m_ = set.length - k ∧ k ≤ set.length ∧ (True) ∧ Loc w0 w [row 3 1 v14 p.length (ints .i64 (raise p (set.take k) X)), rdv (.slice As set.length cs) (fun w => RdI w (.slice As set.length cs) set)]) (m := set.length) (by first | rfl | exact hd) ?_ ?_)))))))
       · have H0 : Loc w0 w [row 3 1 v14 p.length (ints .i64 (raise p (set.take 0) X)), rdv (.slice As set.length cs) (fun w => RdI w (.slice As set.length cs) set)] := by rw [List.take_zero, raise_zero]; exact H.al
         exact ⟨0, rfl, by omega, by omega, trivial, H0⟩
       intro m vs ρ₀ w hd hI
       clear H
       obtain ⟨k, rfl, rfl, hk, hst, H⟩ := hI
       refine C_seq (C_seq (C_region rfl (R_o rfl (E_move (R_o rfl (E_move (R_o rfl (E_len rfl ?_))))))))
       refine R_o rfl (E_lss rfl rfl ?_)
       refine R_nil (C_cond (t := 218) rfl (fun hlt6 => ?_) (fun hlt6 => ?_))
       ·
        obtain ⟨x, hx⟩ := get_of (xs := set) (k := k) (by omega)
        have hxb := hsr.1 x (mem_of_get hx)
        obtain ⟨z, hz⟩ := get_of (xs := p) (k := x.toNat) (by omega)
        have hzb := (hop.2 _ z hz).2
        obtain ⟨hr1, hr2⟩ := raise_step (x := X) (isR_nodup hsr) hx (by omega) hz
        have hset2 := (H.fr (rdv (.slice As set.length cs) (fun w => RdI w (.slice As set.length cs) set))).read
        refine C_skip (C_seq (C_block (C_drawL [15] H (by kernel_rfl) (fun w H => ?_))))
        refine D_takeT 0 rfl rfl rfl (by kernel_rfl) (fun w K Z kk => E_move kk) ?_
        refine D_takeT 1 rfl rfl rfl (by kernel_rfl) (fun w K Z kk => E_move kk) ?_
        refine D_takeT 2 rfl rfl rfl (by kernel_rfl) (fun w K Z kk => E_move kk) ?_
        refine D_takeT 3 rfl rfl rfl (by kernel_rfl) (fun w K Z kk => E_idxr hset2 rfl rfl (by omega) (by omega) kk) ?_
        refine D_take 4 rfl rfl rfl (by kernel_rfl) (by first | exact H | exact H.drop | exact H.drop.drop | exact H.drop.drop.drop | exact H.drop.drop.drop.drop) (fun w HS K Z kk => E_loadi (HS.fr (rdv (.slice As set.length cs) (fun w => RdI w (.slice As set.length cs) set))).read (Loc.refl w) rfl hx kk) ?_
        refine D_takeT 5 rfl rfl rfl (by kernel_rfl) (fun w K Z kk => E_move kk) ?_
        refine D_takeT 6 rfl rfl rfl (by kernel_rfl) (fun w K Z kk => E_move kk) ?_
        refine D_takeT 7 rfl rfl rfl (by kernel_rfl) (fun w K Z kk => E_move kk) ?_
        refine D_takeT 8 rfl rfl rfl (by kernel_rfl) (fun w K Z kk => E_idxr hset2 rfl rfl (by omega) (by omega) kk) ?_
        refine D_take 9 rfl rfl rfl (by kernel_rfl) (by first | exact H | exact H.drop | exact H.drop.drop | exact H.drop.drop.drop | exact H.drop.drop.drop.drop) (fun w HS K Z kk => E_loadi (HS.fr (rdv (.slice As set.length cs) (fun w => RdI w (.slice As set.length cs) set))).read (Loc.refl w) rfl hx kk) ?_
        refine D_take 10 rfl rfl rfl (by kernel_rfl) (by first | exact H | exact H.drop | exact H.drop.drop | exact H.drop.drop.drop | exact H.drop.drop.drop.drop) (fun w HS K Z kk => E_idxw (v := v14) HS rfl rfl (by omega) (by omega) kk) ?_
        refine D_take 11 rfl rfl rfl (by kernel_rfl) (by first | exact H | exact H.drop | exact H.drop.drop | exact H.drop.drop.drop | exact H.drop.drop.drop.drop) (fun w HS K Z kk => E_loadw' (v := v14) HS rfl (ints_get .i64 _ _ _ hr1) kk) ?_
        refine D_takeT 12 rfl rfl rfl (by kernel_rfl) (fun w K Z kk => E_move kk) ?_
        refine D_takeT 13 rfl rfl rfl (by kernel_rfl) (fun w K Z kk => E_add rfl rfl (by omega) kk) ?_
        refine D_take 14 rfl rfl rfl (by kernel_rfl) (by first | exact H | exact H.drop | exact H.drop.drop | exact H.drop.drop.drop | exact H.drop.drop.drop.drop) (fun w HS K Z kk => E_idxw (v := v14) HS rfl rfl (by omega) (by omega) kk) ?_
        refine D_actn 15 rfl (by kernel_rfl) (E_storew (v := v14) (u := .int .i64 (z + X)) H rfl rfl rfl (by omega) ?_)
        clear H; intro w H
        rw [ints_set, ← hr2] at H
        refine ⟨fun h => Bool.noConfusion (h : true = false), ?_⟩
        refine D_done (by kernel_rfl) ?_
        refine C_region rfl (R_o rfl (E_move (R_o rfl (E_add rfl rfl (by omega) ?_))))
        refine R_o rfl (E_assign (R_nil (⟨hd, set.length - (k + 1), by omega, k + 1, rfl, rfl, by omega, trivial, H⟩)))
       ·
        obtain rfl : k = set.length := by omega
        refine C_exit ?_
        refine C_seq (C_region rfl (R_o rfl (E_move (R_o rfl (E_assign (R_o rfl (E_assign (R_o rfl (E_assign (R_nil (C_ret ?_)))))))))))
        with_reducible repeat (first | refine thn_ret ?_ | refine inB_ret ?_ | refine noG_ret ?_ | refine jmp_ret ?_)
        first
          | exact ret_three rfl hd ⟨_, _, rfl, .inl ⟨rfl, by unfold stepV; rw [hor1.2.1.eq]; rfl, H.below⟩⟩
          | (rw [List.take_length] at H
             exact ret_three rfl hd ⟨_, _, rfl, .inr ⟨rfl, raise p set X, by unfold stepV; rw [hF.eq, hX, ← hmin]; rfl, ((H.fr (row 3 1 v14 p.length (ints .i64 (raise p set X)))).fst).rowOwn.ownInts⟩⟩)
theorem R13Least_ {w0 : World} {mv : Value} {m : Mk} (hm : RdM w0 mv m) (hok : okMk m) :
   Ret Tryz.prog 74 [mv] w0 (fun r w => ∃ x, r = .tuple #[x, .int .i64 0] ∧ Loc w0 w [rdv x (fun w => RdI w x (leastV m))]) := by
 refine ret_of_C Tryz.func74 rfl rfl rfl ?_
 have H := Loc.refl w0
 have hm0 := hm
 obtain ⟨a, b, c, rfl, ra, rb, rc⟩ := hm
 have hend := end_spec hok
 have hn1 := hok.1.2.1
 obtain ⟨A1, c1, rfl, hA1, hA2⟩ := ra.len
 refine C_seq (C_region rfl (R_o rfl (E_box (cs := [.slice A1 m.res.length c1, b, c]) rfl H ?_)))
 clear H; intro w b1 H
 refine R_o rfl (E_assign (R_o rfl (E_assign (R_nil (C_seq (C_seq (C_region rfl (R_o rfl (E_loadw H rfl (by rfl) ?_)))))))))
 refine R_o rfl (E_call rfl (R5Check_ (Abides.below H.below hm0)) ?_)
 rintro _ w1 ⟨rfl, hb⟩
 replace H := H.call0 hb; clear hb
 refine R_o rfl (E_not rfl ?_)
 refine R_nil (C_cond (t := 10) rfl (fun h10 => ?_) (fun h10 => ?_))
 ·
  exact absurd hok h10
 ·
  refine C_skip (C_seq (C_region rfl (R_o rfl (E_fieldAddr rfl ?_))))
  refine R_o rfl (E_load H rfl rfl ?_)
  refine R_o rfl (E_append_rd (v := .slice none 0 0) (n := 0) (xs := []) (news := ints .i64 m.res) (nilRow 3 1 H) rfl rfl (by simp) (fun j u hj => by obtain ⟨A', c', e, _, _, hel⟩ := Abides.below H.below ra; cases e; have hj2 := lt_of_get hj; rw [ints_length] at hj2; obtain ⟨z, hz⟩ := get_of hj2; obtain ⟨ad, u', e1, e2, e3⟩ := hel j z hz; rw [ints_get _ _ _ _ hz] at hj; cases hj; rw [show u' = .int .i64 z from e3] at e2; exact ⟨ad, e1, e2⟩) (ints_one _ _) (by omega) (by omega) ?_)
  clear H; intro w v13 H
  rw [List.nil_append, Nat.zero_add] at H
  replace H := H.rowInts
  refine R_o rfl (E_assign (R_nil (C_block (C_loop (ds := []) [1, 4] (fun m_ vs w => ∃ (n : Nat) (p : List Int) (v4 : Value), vs = [.pointer (some ⟨b1, 0, none⟩), v4] ∧ itV m n = some p ∧ n ≤ endN m ∧ m_ = endN m - n ∧ Loc w0 w [rdv v4 (fun w => RdI w v4 p), cl b1 25 [.slice A1 m.res.length c1, b, c]]) (m := endN m) (by first | rfl | exact hd) ?_ ?_))))
  · exact ⟨0, m.res, v13, rfl, rfl, by omega, rfl, H⟩
  intro m vs ρ₀ w hd hI
  clear H
  obtain ⟨n, p, v4, rfl, hp, hn, rfl, H⟩ := hI
  have hop := (it_ok hok _ _ hp).1
  refine C_block (C_seq (C_region rfl (R_o rfl (E_loadw H rfl (by rfl) ?_))))
  refine R_o rfl (E_move (R_o rfl (E_call rfl (R13Step_ (Abides.below H.below hm0) (H.fr (rdv v4 (fun w => RdI w v4 p))).read hok hop) ?_)))
  rintro _ w1 ⟨x17, b17, rfl, hor⟩
  refine R_o rfl (E_move (R_o rfl (E_extract rfl rfl ?_)))
  refine R_o rfl (E_extract rfl rfl ?_)
  refine R_o rfl (E_extract rfl rfl ?_)
  refine R_o rfl (E_assign (R_o rfl (E_assign (R_o rfl (E_assign (R_nil (C_seq (C_seq (C_region rfl (R_o rfl (E_move (R_o rfl (E_notb rfl ?_)))))))))))))
  refine R_nil (C_condb (t := 22) rfl (fun h22 => ?_) (fun h22 => ?_))
  ·
   refine C_seq (C_region rfl (R_o rfl (E_move (R_o rfl (E_assign (R_o rfl (E_assign (R_nil (C_ret ?_)))))))))
   with_reducible repeat (first | refine thn_ret ?_ | refine inB_ret ?_ | refine noG_ret ?_ | refine jmp_ret ?_)
   obtain ⟨_, hnn, hb⟩ := hor.resolve_right (fun h => by rw [h.1] at h22; cases h22)
   have heq := (it_step hok hn hp).1 hnn
   rw [heq, hend.1] at hp
   cases hp
   exact ret_two rfl hd ⟨v4, rfl, (H.call0 hb).al⟩
  ·
   refine C_skip (C_region rfl (R_o rfl (E_move (R_o rfl (E_assign (R_nil ?_))))))
   obtain ⟨_, q, hq, hc⟩ := hor.resolve_left (fun h => by rw [h.1] at h22; cases h22)
   have hlt : n ≠ endN m := fun e => by have := (it_step hok hn hp).2 e; rw [hq] at this; cases this
   exact ⟨hd, endN m - (n + 1), by omega, n + 1, q, x17, rfl, by simp only [itV, hp]; exact hq, by omega, rfl, (H.call1 hc).al⟩
end Go.Sl
