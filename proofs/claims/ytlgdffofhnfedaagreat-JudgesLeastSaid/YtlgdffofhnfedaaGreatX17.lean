/- a way, and matchings of as many as can be. -/
import Derived.Test.YtlgdffofhnfedaaGreatX16
set_option linter.unusedVariables false
set_option linter.unusedSimpArgs false
set_option maxRecDepth 10000
set_option maxHeartbeats 2000000
namespace Go.Sl
open Go.RowKit
open Go.Proofs
theorem Flip.start {g : List (List Int)} {has : List Int} {fr : Nat} {W : List Int} {by_ hold : Nat → Int} {k m : Nat} {y : Int} (hf : Go.Sl.fits g has) (hh : HoldF has has.length hold) (k8 : k < 8) (hy : W[m]? = some y) (hb : by_ k = y + 1) (hm : (k : Int) ∈ g.getD y.toNat []) (h0 : hold k = 0) : Flip g has fr W by_ has k m y :=
 ⟨hf, k8, fun i hi => by
   rcases hh k k8 with ⟨_, h⟩ | ⟨i', _, h, _⟩
   · exact h i (lt_of_get hi) hi
   · omega, hy, hb, hm, fun j x _ _ => rfl⟩
theorem fits_none (g : List (List Int)) : fits g (List.replicate g.length (-1)) := by
 refine ⟨by simp, fun i k hk hne => ?_, fun i j k hi hj hne => ?_⟩
 · rw [List.getElem?_replicate] at hk
   split at hk
   · exact absurd (Option.some.inj hk).symm hne
   · cases hk
 · rw [List.getElem?_replicate] at hi
   split at hi
   · exact absurd (Option.some.inj hi).symm hne
   · cases hi
theorem begin2_ {w0 : World} {u v : Value} {g : List (List Int)} {n : Int} {has : List Int} {fr : Nat} {x0 : Int} (hg : RdII w0 u g) (hh : RdI w0 v has) (hok : okGr g n) (hf : fits g has) (hfr : has[fr]? = some x0) :
   Ret Tryz.prog 192 [u, .int .i64 n, v, .int .i64 fr] w0 (fun r w => ∃ p e, r = .tuple #[p, .int .i64 e] ∧ ((e ≠ 0 ∧ Below w0.heap.size w0 w) ∨
     (e = 0 ∧ has[fr]? = some (-1) ∧ ∃ bS vh vw hold, p = .pointer (some ⟨bS, 0, none⟩) ∧ HoldF has has.length hold ∧ Loc w0 w [cl bS 220 (srC u vh vw (fun _ => 0) hold), wsl 3 vh has.length (ints .i64 has), row 3 1 vw 1 (ints .i64 [(fr : Int)])]))) :=
 (begin_ hg hh hok hf hfr).mono fun r w h => by
   rcases h with ⟨_, rfl, hb⟩ | ⟨rfl, bS, vh, vw, hold, rfl, h1, h2⟩
   · exact ⟨_, _, rfl, .inl ⟨by omega, hb⟩⟩
   · exact ⟨_, _, rfl, .inr ⟨rfl, hfr, bS, vh, vw, hold, rfl, h1, h2⟩⟩
theorem goes2_ {w0 w : World} {L : List HP} {bS : Nat} {gv vh vw : Value} {g : List (List Int)} {n : Int} {has : List Int} {fr : Nat} {hold : Nat → Int} (hg : RdII w0 gv g) (hok : okGr g n) (hf : fits g has) (hh : HoldF has has.length hold) (hz : has[fr]? = some (-1))
   (H : Loc w0 w (cl bS 220 (srC gv vh vw (fun _ => 0) hold) :: row 3 1 vw 1 (ints .i64 [(fr : Int)]) :: L)) :
   Ret Tryz.prog 193 [.pointer (some ⟨bS, 0, none⟩), .bool false] w (fun r w' => ∃ W by_ vw' i b, r = .tuple #[.int .i64 i, .bool b] ∧ Srch g has fr W by_ ∧ Loc w0 w' (cl bS 220 (srC gv vh vw' by_ hold) :: row 3 1 vw' W.length (ints .i64 W) :: L) ∧
     (b = true → ∃ (k m : Nat) (y : Int), i = k ∧ Flip g has fr W by_ has k m y)) :=
 (goes_ hg hok hf hh hz H).mono fun r w h => by
   obtain ⟨W, by_, vw', hS, H', hor⟩ := h
   rcases hor with rfl | ⟨k, m, y, rfl, f1, f2, f3, f4, f5⟩
   · exact ⟨W, by_, vw', _, _, rfl, hS, H', fun h => by cases h⟩
   · exact ⟨W, by_, vw', _, _, rfl, hS, H', fun _ => ⟨k, m, y, rfl, Flip.start hf hh f1 f2 f3 f4 f5⟩⟩
theorem Loc.o3L {w0 w : World} {L L1 L2 L3 : List HP} {A B C : HP} (h : Loc w0 w L) [h1 : Pq L A L1] [h2 : Pq L1 B L2] [h3 : Pq L2 C L3] : Loc w0 w (A :: B :: C :: L3) := h.perm (h1.perm.trans (.cons _ (h2.perm.trans (.cons _ h3.perm))))
theorem Loc.o4L {w0 w : World} {L L1 L2 L3 L4 : List HP} {A B C D : HP} (h : Loc w0 w L) [h1 : Pq L A L1] [h2 : Pq L1 B L2] [h3 : Pq L2 C L3] [h4 : Pq L3 D L4] : Loc w0 w (A :: B :: C :: D :: L4) := h.perm (h1.perm.trans (.cons _ (h2.perm.trans (.cons _ (h3.perm.trans (.cons _ h4.perm))))))
theorem More_ {w0 : World} {u v : Value} {g : List (List Int)} {n : Int} {has : List Int} {fr : Nat} (hg : RdII w0 u g) (hh : RdI w0 v has) (hok : okGr g n) (hf : fits g has) (hfr : fr < g.length) :
   Ret Tryz.prog 183 [u, .int .i64 n, v, .int .i64 fr] w0 (fun r w => ∃ x b e, r = .tuple #[x, .bool b, .int .i64 e] ∧ (((b = false ∨ e ≠ 0) ∧ Below w0.heap.size w0 w) ∨ (b = true ∧ e = 0 ∧ ∃ has', fits g has' ∧ Loc w0 w [rdv x (fun w => RdI w x has')]))) := by
 refine ret_of_C Tryz.func183 rfl rfl rfl ?_
 have H := Loc.refl w0
 have hg0 := hg
 obtain ⟨A, c, rfl, hc1, hc2⟩ := hg.len
 obtain ⟨B, d1, rfl, hd1, hd2⟩ := hh.len
 have hfl := hf.1
 have hg8 := hok.2.1
 obtain ⟨x0, hx0⟩ := get_of (xs := has) (k := fr) (by omega)
 refine C_seq (C_region rfl (R_o rfl (E_assign (R_o rfl (E_assign (R_o rfl (E_assign (R_nil (C_seq (C_region rfl (R_o rfl (E_move (R_o rfl (E_move (R_o rfl (E_move (R_o rfl (E_move (R_o rfl (E_call rfl (begin2_ (u := .slice A g.length c) (v := .slice B has.length d1) hg hh hok hf hx0) ?_))))))))))))))))))))
 rintro _ w1 ⟨p1, e1, rfl, hor⟩
 refine R_o rfl (E_move (R_o rfl (E_extract rfl rfl ?_)))
 refine R_o rfl (E_extract rfl rfl ?_)
 refine R_o rfl (E_assign (R_o rfl (E_assign (R_nil (C_seq (C_seq (C_region rfl (R_o rfl (E_move (R_o rfl (E_neq rfl rfl ?_)))))))))))
 refine R_nil (C_cond (t := 25) rfl (fun h25 => ?_) (fun h25 => ?_))
 ·
  have hor1 := hor.resolve_right (fun h => h25 h.1)
  refine C_seq (C_region rfl (R_o rfl (E_move (R_o rfl (E_assign (R_o rfl (E_assign (R_o rfl (E_assign (R_nil (C_ret ?_)))))))))))
  with_reducible repeat (first | refine thn_ret ?_ | refine inB_ret ?_ | refine noG_ret ?_ | refine jmp_ret ?_)
  first
    | exact ret_three rfl rfl ⟨_, _, _, rfl, .inl ⟨.inl rfl, (hor.resolve_right (fun h => h25 h.1)).2⟩⟩
    | exact ret_three rfl rfl ⟨_, _, _, rfl, .inl ⟨.inl rfl, H.below⟩⟩
    | exact ret_three rfl hd ⟨_, _, _, rfl, .inr ⟨rfl, rfl, has2, hf2, ((H.fr (wsl 3 vh has.length (ints .i64 has2))).fst).ownInts⟩⟩
 ·
  obtain ⟨rfl, hz, bS, vh, vw, hold, rfl, hH, hc⟩ := hor.resolve_left (fun h => h25 h.1)
  replace H := (H.call3 hc).o3L (A := cl bS 220 (srC (.slice A g.length c) vh vw (fun _ => 0) hold)) (B := row 3 1 vw 1 (ints .i64 [(fr : Int)])) (C := wsl 3 vh has.length (ints .i64 has))
  refine C_skip (C_seq (C_region rfl (R_o rfl (E_move (R_o rfl (E_call rfl (goes2_ (bS := bS) (gv := .slice A g.length c) hg hok hf hH hz H) ?_))))))
  rintro _ w1 ⟨W, by_, vw2, i1, b1, rfl, hS, H, hfl2⟩
  replace H : Loc w0 w1 [cl bS 220 (srC (.slice A g.length c) vh vw2 by_ hold), row 3 1 vw2 W.length (ints .i64 W), wsl 3 vh has.length (ints .i64 has)] := H
  refine R_o rfl (E_move (R_o rfl (E_extract rfl rfl ?_)))
  refine R_o rfl (E_extract rfl rfl ?_)
  refine R_o rfl (E_assign (R_o rfl (E_assign (R_nil (C_seq (C_seq (C_region rfl (R_o rfl (E_move (R_o rfl (E_notb rfl ?_)))))))))))
  refine R_nil (C_condb (t := 33) rfl (fun h33 => ?_) (fun h33 => ?_))
  ·
   refine C_seq (C_region rfl (R_o rfl (E_assign (R_o rfl (E_assign (R_o rfl (E_assign (R_nil (C_ret ?_)))))))))
   with_reducible repeat (first | refine thn_ret ?_ | refine inB_ret ?_ | refine noG_ret ?_ | refine jmp_ret ?_)
   first
     | exact ret_three rfl rfl ⟨_, _, _, rfl, .inl ⟨.inl rfl, (hor.resolve_right (fun h => h25 h.1)).2⟩⟩
     | exact ret_three rfl rfl ⟨_, _, _, rfl, .inl ⟨.inl rfl, H.below⟩⟩
     | exact ret_three rfl hd ⟨_, _, _, rfl, .inr ⟨rfl, rfl, has2, hf2, ((H.fr (wsl 3 vh has.length (ints .i64 has2))).fst).ownInts⟩⟩
  ·
   have hb1 : b1 = true := by revert h33; cases b1 <;> simp
   obtain ⟨k0, m0, y0, rfl, F0⟩ := hfl2 hb1
   subst hb1
   refine C_skip (C_seq (C_block (C_loop (ds := []) [11, 13] (fun m_ vs w => ∃ (has2 : List Int) (kk : Int), vs = [.pointer (some ⟨bS, 0, none⟩), .int .i64 kk] ∧ fits g has2 ∧ ((kk = -1 ∧ m_ = 0) ∨ ∃ (q m : Nat) (y : Int), kk = q ∧ m_ = m + 1 ∧ Flip g has fr W by_ has2 q m y) ∧ Loc w0 w [cl bS 220 (srC (.slice A g.length c) vh vw2 by_ hold), wsl 3 vh has.length (ints .i64 has2), row 3 1 vw2 W.length (ints .i64 W)]) (m := m0 + 1) (by first | rfl | exact hd) ?_ ?_)))
   · exact ⟨has, k0, rfl, hf, .inr ⟨k0, m0, y0, rfl, rfl, F0⟩, H.o3⟩
   intro m vs ρ₀ w hd hI
   clear H
   obtain ⟨has2, kk, rfl, hf2, hor2, H⟩ := hI
   have hl2 := hf2.1
   refine C_seq (C_seq (C_region rfl (R_o rfl (E_move (R_o rfl (E_neq rfl rfl ?_))))))
   refine R_nil (C_cond (t := 35) rfl (fun h35 => ?_) (fun h35 => ?_))
   ·
    obtain ⟨q, m1, y, rfl, rfl, F⟩ := hor2.resolve_left (fun h => h35 h.1)
    have hyr := hS.rng y (mem_of_get F.at_)
    obtain ⟨k2, hk2⟩ := get_of (xs := has2) (k := y.toNat) (by omega)
    have hst := F.step hS hk2
    have hq8 := F.k8
    have hby : (srC (.slice A g.length c) vh vw2 by_ hold)[3 + q]? = some (.int .i64 (y + 1)) := by rw [← F.by_]; exact srC_by F.k8
    refine C_skip (C_block (C_seq (C_region rfl (R_o rfl (E_move (R_o rfl (E_move (R_o rfl (E_nilCheck rfl ?_)))))))))
    refine R_o rfl (E_fieldAddr rfl ?_)
    refine R_o rfl (E_idxa rfl rfl (by omega) (by omega) ?_)
    refine R_o rfl (E_loadp (3 + q) (.int .i64 (y + 1)) H rfl (by omega) hby ?_)
    refine R_o rfl (E_subc y rfl rfl (by omega) (by omega) ?_)
    refine R_o rfl (E_assign (R_nil (C_drawL [15] H (by kernel_rfl) (fun w H => ?_))))
    refine D_takeT 0 rfl rfl rfl (by kernel_rfl) (fun w K Z kk => E_move kk) ?_
    refine D_nil 1 rfl rfl rfl (by kernel_rfl) ?_
    refine D_takeT 2 rfl rfl rfl (by kernel_rfl) (fun w K Z kk => E_fieldAddr rfl kk) ?_
    refine D_take 3 rfl rfl rfl (by kernel_rfl) (by first | exact H | exact H.drop | exact H.drop.drop | exact H.drop.drop.drop | exact H.drop.drop.drop.drop) (fun w HS K Z kk => E_loadp 1 vh HS rfl rfl rfl kk) ?_
    refine D_takeT 4 rfl rfl rfl (by kernel_rfl) (fun w K Z kk => E_move kk) ?_
    refine D_takeT 5 rfl rfl rfl (by kernel_rfl) (fun w K Z kk => E_move kk) ?_
    refine D_nil 6 rfl rfl rfl (by kernel_rfl) ?_
    refine D_takeT 7 rfl rfl rfl (by kernel_rfl) (fun w K Z kk => E_fieldAddr rfl kk) ?_
    refine D_take 8 rfl rfl rfl (by kernel_rfl) (by first | exact H | exact H.drop | exact H.drop.drop | exact H.drop.drop.drop | exact H.drop.drop.drop.drop) (fun w HS K Z kk => E_loadp 1 vh HS rfl rfl rfl kk) ?_
    refine D_takeT 9 rfl rfl rfl (by kernel_rfl) (fun w K Z kk => E_move kk) ?_
    refine D_take 10 rfl rfl rfl (by kernel_rfl) (by first | exact H | exact H.drop | exact H.drop.drop | exact H.drop.drop.drop | exact H.drop.drop.drop.drop) (fun w HS K Z kk => E_idxo (v := vh) HS rfl rfl (by omega) (by omega) kk) ?_
    refine D_take 11 rfl rfl rfl (by kernel_rfl) (by first | exact H | exact H.drop | exact H.drop.drop | exact H.drop.drop.drop | exact H.drop.drop.drop.drop) (fun w HS K Z kk => E_loado (v := vh) HS rfl (ints_get .i64 has2 y.toNat k2 hk2) kk) ?_
    refine D_takeT 12 rfl rfl rfl (by kernel_rfl) (fun w K Z kk => E_move kk) ?_
    refine D_takeT 13 rfl rfl rfl (by kernel_rfl) (fun w K Z kk => E_assign kk) ?_
    refine D_take 14 rfl rfl rfl (by kernel_rfl) (by first | exact H | exact H.drop | exact H.drop.drop | exact H.drop.drop.drop | exact H.drop.drop.drop.drop) (fun w HS K Z kk => E_idxo (v := vh) HS rfl rfl (by omega) (by omega) kk) ?_
    refine D_actn 15 rfl (by kernel_rfl) (E_storeo (v := vh) (u := .int .i64 (q : Int)) H rfl rfl rfl (by omega) ?_)
    clear H; intro w H
    rw [ints_set] at H
    refine ⟨fun h => Bool.noConfusion (h : true = false), ?_⟩
    refine D_done (by kernel_rfl) ?_
    rcases hst.2 with e | ⟨q', m', y', e, hlt, F'⟩
    · exact ⟨hd, 0, by omega, has2.set y.toNat (q : Int), k2, rfl, hst.1, .inl ⟨e, rfl⟩, H.o3⟩
    · exact ⟨hd, m' + 1, by omega, has2.set y.toNat (q : Int), k2, rfl, hst.1, .inr ⟨q', m', y', e, rfl, F'⟩, H.o3⟩
   ·
    skip
    refine C_exit ?_
    refine C_seq (C_region rfl (R_o rfl (E_move (R_o rfl (E_nilCheck rfl ?_)))))
    refine R_o rfl (E_fieldAddr rfl ?_)
    refine R_o rfl (E_loadp 1 vh H rfl rfl rfl ?_)
    refine R_o rfl (E_assign (R_o rfl (E_assign (R_o rfl (E_assign (R_nil (C_ret ?_)))))))
    with_reducible repeat (first | refine thn_ret ?_ | refine inB_ret ?_ | refine noG_ret ?_ | refine jmp_ret ?_)
    first
      | exact ret_three rfl rfl ⟨_, _, _, rfl, .inl ⟨.inl rfl, (hor.resolve_right (fun h => h25 h.1)).2⟩⟩
      | exact ret_three rfl rfl ⟨_, _, _, rfl, .inl ⟨.inl rfl, H.below⟩⟩
      | exact ret_three rfl hd ⟨_, _, _, rfl, .inr ⟨rfl, rfl, has2, hf2, ((H.fr (wsl 3 vh has.length (ints .i64 has2))).fst).ownInts⟩⟩
end Go.Sl
