/- matchings of as many as can be. -/
import Derived.Test.YtlgdffofhnfedaaGreatX17
set_option linter.unusedVariables false
set_option linter.unusedSimpArgs false
set_option maxRecDepth 10000
set_option maxHeartbeats 2000000
namespace Go.Sl
open Go.RowKit
open Go.Proofs
theorem most1_ {w0 w : World} {L : List HP} {b2 b3 b6 : Nat} {gv vh : Value} {g : List (List Int)} {n : Int} {has : List Int} {fr : Nat} (hg : RdII w0 gv g) (hok : okGr g n) (hf : fits g has) (hfr : fr < g.length)
   (H : Loc w0 w (cl b2 23 [gv] :: cl b3 3 [.int .i64 n] :: cl b6 22 [vh] :: rdv vh (fun w => RdI w vh has) :: L)) :
   Ret Tryz.prog 182 [.int .i64 fr, .pointer (some ⟨b2, 0, none⟩), .pointer (some ⟨b3, 0, none⟩), .pointer (some ⟨b6, 0, none⟩)] w (fun _ w' => ∃ vh' has', fits g has' ∧ Loc w0 w' (cl b2 23 [gv] :: cl b3 3 [.int .i64 n] :: cl b6 22 [vh'] :: rdv vh' (fun w => RdI w vh' has') :: L)) := by
 refine ret_of_C Tryz.func182 rfl rfl rfl ?_
 refine C_seq (C_region rfl (R_o rfl (E_load H rfl rfl ?_)))
 refine R_o rfl (E_load H rfl rfl ?_)
 refine R_o rfl (E_load H rfl rfl ?_)
 refine R_o rfl (E_move (R_o rfl (E_call rfl (More_ (u := gv) (v := vh) (has := has) (Abides.below H.below hg) (H.fr (rdv vh (fun w => RdI w vh has))).read hok hf hfr) ?_)))
 rintro _ w1 ⟨x1, bb1, e1, rfl, hor⟩
 refine R_o rfl (E_move (R_o rfl (E_extract rfl rfl ?_)))
 refine R_o rfl (E_extract rfl rfl ?_)
 refine R_o rfl (E_extract rfl rfl ?_)
 refine R_o rfl (E_assign (R_o rfl (E_assign (R_o rfl (E_assign (R_nil (C_seq (C_region rfl (R_o rfl (E_move (R_o rfl (E_eql rfl rfl ?_))))))))))))
 refine R_o rfl (E_move (R_part (t := 19) rfl (fun h19 => ?_) (fun h19 => ?_)))
 ·
  refine R_w rfl rfl rfl (E_move ?_)
  refine R_o rfl (E_pick rfl ?_)
  refine R_nil (C_condb (t := 21) rfl (fun h21 => ?_) (fun h21 => ?_))
  ·
   obtain ⟨hb1, he1, has', hf', hc⟩ := hor.resolve_left (fun h => by rcases h.1 with h | h; (rw [h21] at h; cases h); exact h h19)
   have hx1 : x1.oneCell' = true := by obtain ⟨_, _, e, _⟩ := hc.read.len; rw [e]; rfl
   replace H := H.call1 hc
   refine C_region rfl (R_o rfl (E_move (R_n rfl (E_store (v := x1) H rfl rfl hx1 (by simp) ?_))))
   clear H; intro w H
   replace H := H.cle (cs' := [x1]) rfl
   refine R_nil ?_
   with_reducible repeat (first | refine inB_normal ?_ | refine noG_normal ?_ | refine jmp_normal ?_ | refine thn_exit ?_ | refine inB_exit ?_ | refine inB_pass rfl ?_)
   first
     | exact end_none rfl rfl ⟨x1, has', hf', ((H.fr (rdv vh (fun w => RdI w vh has))).drop).o4L⟩
     | exact end_none rfl rfl ⟨vh, has, hf, H.o4L⟩
     | exact end_none rfl rfl ⟨vh, has, hf, (H.call0 hor1.2).o4L⟩
  ·
   replace H := H.call0 (hor.elim (fun h => h.2) (fun h => by rw [h21] at h; cases h.1))
   refine C_skip ?_
   with_reducible repeat (first | refine inB_normal ?_ | refine noG_normal ?_ | refine jmp_normal ?_ | refine thn_exit ?_ | refine inB_exit ?_ | refine inB_pass rfl ?_)
   first
     | exact end_none rfl rfl ⟨x1, has', hf', ((H.fr (rdv vh (fun w => RdI w vh has))).drop).o4L⟩
     | exact end_none rfl rfl ⟨vh, has, hf, H.o4L⟩
     | exact end_none rfl rfl ⟨vh, has, hf, (H.call0 hor1.2).o4L⟩
 ·
  have hor1 : (bb1 = false ∨ e1 ≠ 0) ∧ Below w.heap.size w w1 := hor.resolve_right (fun h => h19 h.2.1)
  refine R_p rfl rfl rfl ?_
  refine R_o rfl (E_pick rfl ?_)
  refine R_nil (C_false (t := 21) rfl ?_)
  refine C_skip ?_
  with_reducible repeat (first | refine inB_normal ?_ | refine noG_normal ?_ | refine jmp_normal ?_ | refine thn_exit ?_ | refine inB_exit ?_ | refine inB_pass rfl ?_)
  first
    | exact end_none rfl rfl ⟨x1, has', hf', ((H.fr (rdv vh (fun w => RdI w vh has))).drop).o4L⟩
    | exact end_none rfl rfl ⟨vh, has, hf, H.o4L⟩
    | exact end_none rfl rfl ⟨vh, has, hf, (H.call0 hor1.2).o4L⟩
theorem rep_rd {S : Nat → Prop} {w : World} {b n : Nat} {x : Int} (hn : n ≤ 100) (hp : (cl b 3 (ints .i64 (List.replicate n x))).p S w) : RdI w (.slice (some ⟨b, 0, none⟩) n n) (List.replicate n x) := by
 have hg := hp.2
 refine ⟨some ⟨b, 0, none⟩, n, by simp, by simp, by omega, fun i y hy => ⟨_, .int .i64 y, rfl, ?_, rfl⟩⟩
 rw [add_plain, cell_of_blk hg, Nat.zero_add]
 have := ints_get .i64 _ i y hy
 simpa using this
theorem Most_ {w0 : World} {u : Value} {g : List (List Int)} {n : Int} (hg : RdII w0 u g) (hok : okGr g n) :
   Ret Tryz.prog 153 [u, .int .i64 n] w0 (fun r w => ∃ x has, r = .tuple #[x, .int .i64 0] ∧ fits g has ∧ Loc w0 w [rdv x (fun w => RdI w x has)]) := by
 refine ret_of_C Tryz.func153 rfl rfl rfl ?_
 have H := Loc.refl w0
 obtain ⟨A, c, rfl, hc1, hc2⟩ := hg.len
 have hg8 := hok.2.1
 refine C_seq (C_region rfl (R_o rfl (E_box (cs := [.slice A g.length c]) rfl H ?_)))
 clear H; intro w b2 H
 refine R_o rfl (E_box (cs := [.int .i64 n]) rfl H ?_)
 clear H; intro w b3 H
 refine R_o rfl (E_assign (R_o rfl (E_assign (R_nil (C_seq (C_seq (C_region rfl (R_o rfl (E_load H rfl rfl ?_)))))))))
 refine R_o rfl (E_load H rfl rfl ?_)
 refine R_o rfl (E_call rfl (gCheck_ (Abides.below H.below hg)) ?_)
 rintro _ w1 ⟨rfl, hb⟩
 replace H := H.call0 hb; clear hb
 refine R_o rfl (E_not rfl ?_)
 refine R_nil (C_cond (t := 12) rfl (fun h12 => ?_) (fun h12 => ?_))
 ·
  exact absurd hok h12
 ·
  refine C_skip (C_seq (C_region rfl (R_o rfl (E_lit (vs := [.int .i64 (-1)]) [.const (.int .i64 (-1))] rfl rfl rfl rfl rfl H ?_))))
  clear H; intro w b13 H
  have hr13 : RdI w (.slice (some ⟨b13, 0, none⟩) 1 1) [-1] := RdI.of_cl (xs := [-1]) H (by simp)
  refine R_o rfl (E_load H rfl rfl ?_)
  refine R_o rfl (E_len rfl ?_)
  refine R_o rfl (E_call rfl (Repeat_ (n := g.length) hr13 (by omega)) ?_)
  rintro _ w1 ⟨b16, rfl, hc⟩
  replace H := H.call1 hc; clear hc
  refine R_o rfl (E_alloc H ?_)
  clear H; intro w b6 H
  refine R_n rfl (E_store (v := .slice (some ⟨b16, 0, none⟩) g.length g.length) H rfl rfl rfl (by simp) ?_)
  clear H; intro w H
  replace H := H.cle (cs' := [.slice (some ⟨b16, 0, none⟩) g.length g.length]) rfl
  replace H := (H.fr (cl b16 3 (ints .i64 (List.replicate g.length (-1))))).toRd (.slice (some ⟨b16, 0, none⟩) g.length g.length) (fun w => RdI w (.slice (some ⟨b16, 0, none⟩) g.length g.length) (List.replicate g.length (-1))) (fun S w hp => rep_rd (by omega) hp)
  replace H : Loc w0 w [cl b2 23 [.slice A g.length c], cl b3 3 [.int .i64 n], cl b6 22 [.slice (some ⟨b16, 0, none⟩) g.length g.length], rdv (.slice (some ⟨b16, 0, none⟩) g.length g.length) (fun w => RdI w (.slice (some ⟨b16, 0, none⟩) g.length g.length) (List.replicate g.length (-1)))] := H.o4
  refine R_nil (C_seq (C_region rfl (R_o rfl (E_makeFunc rfl rfl ?_))))
  refine R_o rfl (E_assign (R_nil (C_seq (C_seq (C_region rfl (R_o rfl (E_load H rfl rfl ?_)))))))
  refine R_o rfl (E_len rfl ?_)
  refine R_o rfl (E_move (R_nil (C_block (C_loop (ds := []) [6, 7, 19, 20] (fun m_ vs w => ∃ k : Nat, ∃ (vh : Value) (has : List Int), vs = [.pointer (some ⟨b6, 0, none⟩), .func (.func 182) #[] #[.pointer (some ⟨b2, 0, none⟩), .pointer (some ⟨b3, 0, none⟩), .pointer (some ⟨b6, 0, none⟩)], .int .i64 g.length, .int .i64 k] ∧ m_ = g.length - k ∧ k ≤ g.length ∧ (fits g has) ∧ Loc w0 w [cl b2 23 [.slice A g.length c], cl b3 3 [.int .i64 n], cl b6 22 [vh], rdv vh (fun w => RdI w vh has)]) (m := g.length) (by first | rfl | exact hd) ?_ ?_))))
  · exact ⟨0, .slice (some ⟨b16, 0, none⟩) g.length g.length, _, rfl, by omega, by omega, fits_none g, H.o4⟩
  intro m vs ρ₀ w hd hI
  clear H
  obtain ⟨k, vh, has, rfl, rfl, hk, hst, H⟩ := hI
  refine C_seq (C_region rfl (R_o rfl (E_lss rfl rfl ?_)))
  refine R_nil (C_seq (C_cond (t := 21) rfl (fun hlt => ?_) (fun hlt => ?_)))
  ·
   refine C_skip (C_seq (C_block (C_seq (C_region rfl (R_o rfl (E_move (R_o rfl (E_assign (R_nil (C_region rfl (R_o rfl (E_move (R_o rfl (E_move (R_o rfl (E_callv rfl rfl (most1_ (fr := k) hg hok hst (by omega) H) ?_))))))))))))))))
   rintro _ w1 ⟨vh', has', hf', H'⟩
   refine R_nil (C_region rfl (R_o rfl (E_add rfl rfl (by omega) ?_)))
   refine R_o rfl (E_move (R_nil ?_))
   exact ⟨hd, g.length - (k + 1), by omega, k + 1, vh', has', rfl, rfl, by omega, hf', H'⟩
  ·
   obtain ⟨Av, cv, rfl, hvc, hvc2⟩ := ((H.fr (rdv vh (fun w => RdI w vh has))).read).len
   refine C_exit ?_
   refine C_seq (C_region rfl (R_o rfl (E_load H rfl rfl ?_)))
   refine R_o rfl (E_call rfl (Clip_ints hvc) ?_)
   rintro _ w1 ⟨rfl, hb⟩
   replace H := H.call0 hb; clear hb
   refine R_o rfl (E_assign (R_o rfl (E_assign (R_nil (C_ret ?_)))))
   with_reducible repeat (first | refine thn_ret ?_ | refine inB_ret ?_ | refine noG_ret ?_ | refine jmp_ret ?_)
   refine ret_two rfl hd ⟨_, has, rfl, hst, ?_⟩
   exact ((H.fr (rdv (.slice Av has.length cv) (fun w => RdI w (.slice Av has.length cv) has))).fst).imp (fun S hp w' hw' => RdS.clip (hp w' hw'))
theorem alone_step {g : List (List Int)} {sm : List Int} {k : Nat} {x : Int} {l : List Int} (hx : sm[k]? = some x) (h0 : 0 ≤ x) (hl : g[x.toNat]? = some l) {us : List Value} {w : World} {u : Value} (hlen : us.length = g.length) (hu : RdI w u l)
   (h : ∀ (i : Nat) (l : List Int), (aloneV g (sm.take k))[i]? = some l → ∃ u, us[i]? = some u ∧ RdI w u l) : ∀ (i : Nat) (l : List Int), (aloneV g (sm.take (k + 1)))[i]? = some l → ∃ u', (us.set x.toNat u)[i]? = some u' ∧ RdI w u' l := by
 intro i l' hl'
 have hi : i < g.length := by have := lt_of_get hl'; simpa [aloneV] using this
 have e1 := alone_get (g := g) (sm := sm.take (k + 1)) hi
 rw [List.getD_eq_getElem?_getD, hl'] at e1
 simp only [Option.getD_some] at e1
 by_cases e : i = x.toNat
 · subst e
   refine ⟨u, by rw [List.getElem?_set]; simp; omega, ?_⟩
   have hm : ((x.toNat : Nat) : Int) ∈ sm.take (k + 1) := by rw [take_step hx, show ((x.toNat : Nat) : Int) = x by omega]; simp
   rw [if_pos hm, List.getD_eq_getElem?_getD, hl] at e1
   rw [e1]; exact hu
 · obtain ⟨l2, hl2⟩ := get_of (xs := aloneV g (sm.take k)) (k := i) (by simpa [aloneV] using hi)
   have e2 := alone_get (g := g) (sm := sm.take k) hi
   rw [List.getD_eq_getElem?_getD, hl2] at e2
   simp only [Option.getD_some] at e2
   have hll : l' = l2 := by
     rw [e1, e2, take_step hx]
     have : ((i : Int) ∈ sm.take k ++ [x]) ↔ ((i : Int) ∈ sm.take k) := by
       rw [List.mem_append, List.mem_singleton]
       exact ⟨fun h => h.elim id (fun h => by omega), .inl⟩
     simp only [this]
   obtain ⟨u', h1, h2⟩ := h i l2 hl2
   rw [← hll] at h2
   exact ⟨u', by rw [List.getElem?_set, if_neg (fun h => e h.symm)]; exact h1, h2⟩
theorem alone_zero {g : List (List Int)} {sm : List Int} {w : World} : ∀ (i : Nat) (l : List Int), (aloneV g (sm.take 0))[i]? = some l → ∃ u, (List.replicate g.length (Value.slice none 0 0))[i]? = some u ∧ RdI w u l := by
 intro i l hl
 have hi : i < g.length := by have := lt_of_get hl; simpa [aloneV] using this
 have e1 := alone_get (g := g) (sm := sm.take 0) hi
 rw [List.getD_eq_getElem?_getD, hl] at e1
 simp at e1
 exact ⟨_, by rw [List.getElem?_replicate, if_pos hi], by rw [e1]; exact RdS.nil _ _⟩
theorem mAll_ {w0 : World} {u v : Value} {g : List (List Int)} {n : Int} {sm : List Int} (hg : RdII w0 u g) (hsr : RdI w0 v sm) (hok : okGr g n) (hsm : isR sm g.length) :
   Ret Tryz.prog 113 [u, .int .i64 n, v] w0 (fun r w => ∃ b, r = .tuple #[.bool b, .int .i64 0] ∧ (b = true → ∀ l, ¬ tooMany g sm l) ∧ Below w0.heap.size w0 w) := by
 refine ret_of_C Tryz.func113 rfl rfl rfl ?_
 have H := Loc.refl w0
 obtain ⟨A, c, rfl, hc1, hc2⟩ := hg.len
 obtain ⟨B, d1, rfl, hd1, hd2⟩ := hsr.len
 have hg8 := hok.2.1
 refine C_seq (C_region rfl (R_o rfl (E_assign (R_o rfl (E_assign (R_nil (C_seq (C_seq (C_region rfl (R_o rfl (E_move (R_o rfl (E_move (R_o rfl (E_move (R_o rfl (E_call rfl (Near_ hg hsr hok hsm) ?_)))))))))))))))))
 rintro _ w1 ⟨x19, rfl, hc⟩
 replace H := H.call1 hc; clear hc
 replace H := H.drop
 refine R_o rfl (E_move (R_o rfl (E_extract rfl rfl ?_)))
 refine R_o rfl (E_extract rfl rfl ?_)
 refine R_o rfl (E_assign (R_o rfl (E_assign (R_nil (C_seq (C_region rfl (R_o rfl (E_move (R_o rfl (E_neq rfl rfl ?_))))))))))
 refine R_nil (C_cond (t := 23) rfl (fun h23 => ?_) (fun h23 => ?_))
 ·
  exact absurd rfl h23
 ·
  refine C_skip (C_seq (C_region rfl (R_o rfl (E_move (R_o rfl (E_len rfl ?_))))))
  refine R_o rfl (E_makec g.length g.length H rfl rfl (by omega) (by omega) (by omega) ?_)
  clear H; intro w b27 H
  refine R_o rfl (E_assign (R_nil (C_seq (C_seq (C_region rfl (R_o rfl (E_move (R_o rfl (E_len rfl ?_)))))))))
  refine R_o rfl (E_move (R_nil (C_block (C_loop (ds := []) [2, 10, 0, 1, 28, 29, 30] (fun m_ vs w => ∃ k : Nat, ∃ us : List Value, vs = [.slice B sm.length d1, .slice (some ⟨b27, 0, none⟩) g.length g.length, .slice A g.length c, .int .i64 n, .slice B sm.length d1, .int .i64 sm.length, .int .i64 k] ∧ m_ = sm.length - k ∧ k ≤ sm.length ∧ (us.length = g.length ∧ ∀ (i : Nat) (l : List Int), (aloneV g (sm.take k))[i]? = some l → ∃ u, us[i]? = some u ∧ RdI w0 u l) ∧ Loc w0 w [cl b27 22 us]) (m := sm.length) (by first | rfl | exact hd) ?_ ?_))))
  · exact ⟨0, _, rfl, by omega, by omega, ⟨by simp, alone_zero⟩, H⟩
  intro m vs ρ₀ w hd hI
  clear H
  obtain ⟨k, us, rfl, rfl, hk, hst, H⟩ := hI
  refine C_seq (C_region rfl (R_o rfl (E_lss rfl rfl ?_)))
  refine R_nil (C_seq (C_cond (t := 31) rfl (fun hlt => ?_) (fun hlt => ?_)))
  ·
   obtain ⟨x, hx⟩ := get_of (xs := sm) (k := k) (by omega)
   have hxb := hsm.1 x (mem_of_get hx)
   obtain ⟨l0, hl0⟩ := get_of (xs := g) (k := x.toNat) (by omega)
   refine C_skip (C_seq (C_block (C_seq (C_region rfl (R_o rfl (E_idxr hsr rfl rfl (by omega) (by omega) ?_))))))
   refine R_o rfl (E_loadi hsr H rfl hx ?_)
   refine R_o rfl (E_assign (R_nil (C_region rfl (R_o rfl (E_move (R_o rfl (E_move (R_o rfl (E_move (R_o rfl (E_move (R_o rfl (E_idxr hg rfl rfl (by omega) (by omega) ?_)))))))))))))
   refine R_o rfl (E_loadr hg H rfl hl0 ?_)
   intro ux hux
   have hu1 : ux.oneCell' = true := by obtain ⟨_, _, e, _⟩ := hux.len; rw [e]; rfl
   refine R_o rfl (E_idxb rfl rfl (by omega) (by omega) ?_)
   refine R_n rfl (E_storep x.toNat ux (us.set x.toNat ux) H rfl (by omega) rfl hu1 (by omega) rfl ?_)
   clear H; intro w H
   refine R_nil (C_region rfl (R_o rfl (E_add rfl rfl (by omega) ?_)))
   refine R_o rfl (E_move (R_nil (⟨hd, sm.length - (k + 1), by omega, k + 1, _, rfl, rfl, by omega, ⟨by simp; exact hst.1, alone_step hx hxb.1 hl0 hst.1 hux hst.2⟩, H⟩)))
  ·
   have hk : k = sm.length := by omega
   rw [hk, List.take_length] at hst
   have hrd : RdII w (.slice (some ⟨b27, 0, none⟩) g.length g.length) (aloneV g sm) := by
     have := RdS.of_cl (r := RdI) (b := b27) (cap := g.length) H (xs := aloneV g sm) (by simp [aloneV]) (by omega) (fun i x hx => by
       obtain ⟨u, h1, h2⟩ := hst.2 i x hx
       exact ⟨u, h1, Abides.below H.below h2⟩)
     simpa [aloneV] using this
   refine C_exit ?_
   refine C_seq (C_region rfl (R_o rfl (E_move (R_o rfl (E_move (R_o rfl (E_call rfl (Most_ (u := .slice (some ⟨b27, 0, none⟩) g.length g.length) hrd (alone_ok hok)) ?_)))))))
   rintro _ w1 ⟨x45, has, rfl, hf, hc⟩
   replace H := H.call1 hc; clear hc
   refine R_o rfl (E_move (R_o rfl (E_extract rfl rfl ?_)))
   refine R_o rfl (E_extract rfl rfl ?_)
   refine R_o rfl (E_assign (R_o rfl (E_assign (R_nil (C_seq (C_region rfl (R_o rfl (E_move (R_o rfl (E_eql rfl rfl ?_))))))))))
   refine R_o rfl (E_move (R_part (t := 50) rfl (fun h50 => ?_) (fun h50 => ?_)))
   ·
    refine R_w rfl rfl rfl (E_move ?_)
    refine R_w rfl rfl rfl (E_call rfl (Many_ (v := x45) (has := has) H.read (by rw [hf.1]; simp [aloneV]; omega)) ?_)
    rintro _ w1 ⟨rfl, hb⟩
    replace H := H.call0 hb; clear hb
    refine R_w rfl rfl rfl (E_move ?_)
    refine R_w rfl rfl rfl (E_len rfl ?_)
    refine R_w rfl rfl rfl (E_eql rfl rfl ?_)
    refine R_o rfl (E_pick rfl ?_)
    refine R_o rfl (E_move (R_o rfl (E_assign (R_o rfl (E_assign (R_nil (C_ret ?_)))))))
    with_reducible repeat (first | refine thn_ret ?_ | refine inB_ret ?_ | refine noG_ret ?_ | refine jmp_ret ?_)
    refine ret_two rfl hd ⟨_, rfl, fun hb => ?_, H.below⟩
    have hm : manyV has = sm.length := by have := of_decide_eq_true hb; omega
    obtain ⟨f1, f2⟩ := all_have hsm hf hm
    exact none_tooMany (has := fun i => has.getD i.toNat (-1)) (isR_nodup hsm) f1 f2
   ·
    exact absurd rfl h50
end Go.Sl
