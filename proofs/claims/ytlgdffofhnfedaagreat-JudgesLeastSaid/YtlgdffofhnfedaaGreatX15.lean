/- matchings: who has what; repeat; how a search begins. -/
import Derived.Test.YtlgdffofhnfedaaGreatX14
import Derived.Test.YtlgdffofhnfedaaGreatV
import Derived.Test.YtlgdffofhnfedaaGreatY
import Derived.Test.YtlgdffofhnfedaaGreatP
set_option linter.unusedVariables false
set_option linter.unusedSimpArgs false
set_option maxRecDepth 10000
set_option maxHeartbeats 2000000
namespace Go.Sl
open Go.RowKit
open Go.Proofs
theorem Fits_ {w0 : World} {u v : Value} {g : List (List Int)} {n : Int} {has : List Int} (hg : RdII w0 u g) (hh : RdI w0 v has) (hok : okGr g n) (hf : fits g has) :
   Ret Tryz.prog 200 [u, .int .i64 n, v] w0 (fun v w => v = .bool true ∧ Below w0.heap.size w0 w) := by
 refine ret_of_C Tryz.func200 rfl rfl rfl ?_
 have H := Loc.refl w0
 obtain ⟨A, c, rfl, hc1, hc2⟩ := hg.len
 obtain ⟨B, d1, rfl, hd1, hd2⟩ := hh.len
 have hfl := hf.1
 have hg8 := hok.2.1
 refine C_seq (C_region rfl (R_o rfl (E_assign (R_nil (C_seq (C_seq (C_region rfl (R_o rfl (E_move (R_o rfl (E_move (R_o rfl (E_call rfl (gCheck_ (Abides.below H.below hg)) ?_)))))))))))))
 rintro _ w1 ⟨rfl, hb⟩
 replace H := H.call0 hb; clear hb
 refine R_o rfl (E_not rfl ?_)
 refine R_o rfl (E_move (R_part (t := 14) rfl (fun h14 => ?_) (fun h14 => ?_)))
 ·
  exact absurd hok h14
 ·
  refine R_w rfl rfl rfl (E_move ?_)
  refine R_w rfl rfl rfl (E_len rfl ?_)
  refine R_w rfl rfl rfl (E_move ?_)
  refine R_w rfl rfl rfl (E_len rfl ?_)
  refine R_w rfl rfl rfl (E_neq rfl rfl ?_)
  refine R_o rfl (E_pick rfl ?_)
  refine R_nil (C_cond (t := 20) rfl (fun h20 => ?_) (fun h20 => ?_))
  ·
   exact absurd (by omega) h20
  ·
   refine C_skip (C_seq (C_region rfl (R_o rfl (E_alloc H ?_))))
   clear H; intro w b7 H
   replace H := H.cle (cs' := tint 8 fun _ => 0) rfl
   refine R_nil (C_seq (C_seq (C_region rfl (R_o rfl (E_move (R_o rfl (E_len rfl ?_)))))))
   refine R_o rfl (E_move (R_nil (C_block (C_loop (ds := []) [0, 7, 21, 22, 23] (fun m_ vs w => ∃ k : Nat, ∃ f : Nat → Int, vs = [.slice A g.length c, .pointer (some ⟨b7, 0, none⟩), .slice B has.length d1, .int .i64 has.length, .int .i64 k] ∧ m_ = has.length - k ∧ k ≤ has.length ∧ (HadF has k f) ∧ Loc w0 w [cl b7 80 (tint 8 f)]) (m := has.length) (by first | rfl | exact hd) ?_ ?_))))
   · exact ⟨0, _, rfl, by omega, by omega, fun k hk => .inl ⟨rfl, fun i hi => by omega⟩, H⟩
   intro m vs ρ₀ w hd hI
   clear H
   obtain ⟨k, f, rfl, rfl, hk, hst, H⟩ := hI
   refine C_seq (C_region rfl (R_o rfl (E_lss rfl rfl ?_)))
   refine R_nil (C_seq (C_cond (t := 24) rfl (fun hlt => ?_) (fun hlt => ?_)))
   ·
    obtain ⟨x, hx⟩ := get_of (xs := has) (k := k) (by omega)
    obtain ⟨l0, hl0⟩ := get_of (xs := g) (k := k) (by omega)
    have hmem : x ≠ -1 → x ∈ l0 := fun h => by have := hf.2.1 k x hx h; rwa [List.getD_eq_getElem?_getD, hl0] at this
    have hxb : x ≠ -1 → 0 ≤ x ∧ x < 8 := fun h => by have := (hok.2.2 l0 (mem_of_get hl0)).1 x (hmem h); have := hok.1; omega
    refine C_skip (C_seq (C_block (C_seq (C_region rfl (R_o rfl (E_move (R_o rfl (E_idxr hh rfl rfl (by omega) (by omega) ?_))))))))
    refine R_o rfl (E_loadi hh H rfl hx ?_)
    refine R_o rfl (E_assign (R_o rfl (E_assign (R_nil (C_seq (C_seq (C_region rfl (R_o rfl (E_move (R_o rfl (E_eql rfl rfl ?_)))))))))))
    refine R_nil (C_cond (t := 29) rfl (fun h29 => ?_) (fun h29 => ?_))
    ·
     refine C_exit ?_
     refine C_region rfl (R_o rfl (E_add rfl rfl (by omega) ?_))
     refine R_o rfl (E_move (R_nil ?_))
     first
       | exact ⟨hd, has.length - (k + 1), by omega, k + 1, f, rfl, rfl, by omega, hst.skip (by rw [← h29]; exact hx), H⟩
       | exact ⟨hd, has.length - (k + 1), by omega, k + 1, _, rfl, rfl, by omega, hst.put hx', by rw [hfx] at H; exact H⟩
    ·
     have hxb2 := hxb h29
     have hx' : has[k]? = some ((x.toNat : Nat) : Int) := by rw [hx]; congr 1; omega
     have hfx := hst.fresh hf (by omega) hx'
     refine C_skip (C_seq (C_seq (C_region rfl (R_o rfl (E_move (R_o rfl (E_move (R_o rfl (E_idxr hg rfl rfl (by omega) (by omega) ?_)))))))))
     refine R_o rfl (E_loadr hg H rfl hl0 ?_)
     intro u hu
     refine R_o rfl (E_move (R_o rfl (E_call rfl (Contains_ints (Abides.below H.below hu)) ?_)))
     rintro _ w1 ⟨rfl, hb⟩
     replace H := H.call0 hb; clear hb
     refine R_o rfl (E_not rfl ?_)
     refine R_nil (C_cond (t := 36) rfl (fun h36 => ?_) (fun h36 => ?_))
     ·
      exact absurd (hmem h29) h36
     ·
      refine C_skip (C_seq (C_region rfl (R_o rfl (E_move (R_o rfl (E_idxa rfl rfl (by omega) (by omega) ?_))))))
      refine R_o rfl (E_loadt x.toNat H rfl (by simp) (by omega) ?_)
      refine R_o rfl (E_add rfl rfl (by omega) ?_)
      refine R_o rfl (E_idxa rfl rfl (by omega) (by omega) ?_)
      refine R_n rfl (E_storet x.toNat H rfl rfl (by simp) (by omega) ?_)
      clear H; intro w H
      refine R_nil (C_seq (C_region rfl (R_o rfl (E_move (R_o rfl (E_idxa rfl rfl (by omega) (by omega) ?_))))))
      refine R_o rfl (E_loadt x.toNat H rfl (by simp) (by omega) ?_)
      refine R_o rfl (E_gtr rfl rfl ?_)
      refine R_nil (C_condb (t := 45) rfl (fun h45 => ?_) (fun h45 => ?_))
      ·
       (exfalso; simp [upd, hfx] at h45)
      ·
       refine C_skip (C_region rfl (R_o rfl (E_add rfl rfl (by omega) ?_)))
       refine R_o rfl (E_move (R_nil ?_))
       first
         | exact ⟨hd, has.length - (k + 1), by omega, k + 1, f, rfl, rfl, by omega, hst.skip (by rw [← h29]; exact hx), H⟩
         | exact ⟨hd, has.length - (k + 1), by omega, k + 1, _, rfl, rfl, by omega, hst.put hx', by rw [hfx] at H; exact H⟩
   ·
    have hk : k = has.length := by omega
    refine C_exit ?_
    refine C_seq (C_region rfl (R_o rfl (E_assign (R_nil (C_ret ?_)))))
    with_reducible repeat (first | refine thn_ret ?_ | refine inB_ret ?_ | refine noG_ret ?_)
    exact ret_one rfl hd ⟨rfl, H.below⟩
theorem Many_ {w0 : World} {v : Value} {has : List Int} (hh : RdI w0 v has) (hl : has.length ≤ 8) :
   Ret Tryz.prog 154 [v] w0 (fun v w => v = .int .i64 (manyV has) ∧ Below w0.heap.size w0 w) := by
 refine ret_of_C Tryz.func154 rfl rfl rfl ?_
 have H := Loc.refl w0
 obtain ⟨B, d1, rfl, hd1, hd2⟩ := hh.len
 refine C_seq (C_region rfl (R_o rfl (E_assign (R_nil (C_seq (C_seq (C_region rfl (R_o rfl (E_move (R_o rfl (E_len rfl ?_)))))))))))
 refine R_o rfl (E_move (R_nil (C_block (C_loop (ds := []) [2, 5, 6, 7] (fun m_ vs w => ∃ k : Nat, vs = [.int .i64 (manyV (has.take k)), .slice B has.length d1, .int .i64 has.length, .int .i64 k] ∧ m_ = has.length - k ∧ k ≤ has.length ∧ (True) ∧ Loc w0 w []) (m := has.length) (by first | rfl | exact hd) ?_ ?_))))
 · exact ⟨0, rfl, by omega, by omega, trivial, H⟩
 intro m vs ρ₀ w hd hI
 clear H
 obtain ⟨k, rfl, rfl, hk, hst, H⟩ := hI
 refine C_seq (C_region rfl (R_o rfl (E_lss rfl rfl ?_)))
 refine R_nil (C_seq (C_cond (t := 8) rfl (fun hlt => ?_) (fun hlt => ?_)))
 ·
  obtain ⟨x, hx⟩ := get_of (xs := has) (k := k) (by omega)
  have hmm := many_le (has.take k)
  have hmt : (has.take k).length = k := by rw [List.length_take]; omega
  refine C_skip (C_seq (C_block (C_seq (C_region rfl (R_o rfl (E_idxr hh rfl rfl (by omega) (by omega) ?_))))))
  refine R_o rfl (E_loadi hh H rfl hx ?_)
  refine R_o rfl (E_assign (R_nil (C_seq (C_region rfl (R_o rfl (E_move (R_o rfl (E_neq rfl rfl ?_))))))))
  refine R_nil (C_cond (t := 12) rfl (fun h12 => ?_) (fun h12 => ?_))
  ·
   refine C_region rfl (R_o rfl (E_move (R_o rfl (E_add rfl rfl (by omega) ?_))))
   refine R_o rfl (E_assign (R_nil (C_region rfl (R_o rfl (E_add rfl rfl (by omega) ?_)))))
   refine R_o rfl (E_move (R_nil ?_))
   first
     | (have e := (many_step hx).trans (if_pos (Decidable.of_not_not h12))
        exact ⟨hd, has.length - (k + 1), by omega, k + 1, by rw [e]; rfl, rfl, by omega, trivial, H⟩)
     | (have e := (many_step hx).trans (if_neg h12)
        exact ⟨hd, has.length - (k + 1), by omega, k + 1, by rw [e]; rfl, rfl, by omega, trivial, H⟩)
  ·
   refine C_skip (C_region rfl (R_o rfl (E_add rfl rfl (by omega) ?_)))
   refine R_o rfl (E_move (R_nil ?_))
   first
     | (have e := (many_step hx).trans (if_pos (Decidable.of_not_not h12))
        exact ⟨hd, has.length - (k + 1), by omega, k + 1, by rw [e]; rfl, rfl, by omega, trivial, H⟩)
     | (have e := (many_step hx).trans (if_neg h12)
        exact ⟨hd, has.length - (k + 1), by omega, k + 1, by rw [e]; rfl, rfl, by omega, trivial, H⟩)
 ·
  have hk : k = has.length := by omega
  refine C_exit ?_
  refine C_seq (C_region rfl (R_o rfl (E_move (R_o rfl (E_assign (R_nil (C_ret ?_)))))))
  with_reducible repeat (first | refine thn_ret ?_ | refine inB_ret ?_ | refine noG_ret ?_)
  refine ret_one rfl hd ⟨?_, H.below⟩
  rw [hk, List.take_length]; rfl
theorem and_low (n : Nat) (h : n < 4294967296) : n &&& 4294967295 = n := by
 rw [show (4294967295 : Nat) = 2 ^ 32 - 1 by rfl, Nat.and_two_pow_sub_one_eq_mod]
 exact Nat.mod_eq_of_lt h
theorem Mul64_ {w0 : World} {n : Nat} (hn : n ≤ 100) :
   Ret Tryz.prog 199 [.int .u64 1, .int .u64 n] w0 (fun v w => v = .tuple #[.int .u64 0, .int .u64 n] ∧ Below w0.heap.size w0 w) := by
 refine ret_of_C Tryz.func199 rfl rfl rfl ?_
 have H := Loc.refl w0
 refine C_seq (C_region rfl (R_o rfl (E_assign (R_o rfl (E_assign (R_nil (C_seq (C_region rfl (R_o rfl (E_move (R_o rfl (E_anduc (a := 1) (b := 4294967295) 1 rfl rfl (by omega) (by omega) (and_low _ (by omega)) ?_))))))))))))
 refine R_o rfl (E_assign (R_nil (C_seq (C_region rfl (R_o rfl (E_move (R_o rfl (E_shruc (a := 1) (b := 32) 0 rfl rfl (by omega) (by omega) ?_))))))))
 refine R_o rfl (E_assign (R_nil (C_seq (C_region rfl (R_o rfl (E_move (R_o rfl (E_anduc (a := n) (b := 4294967295) n rfl rfl (by omega) (by omega) (and_low _ (by omega)) ?_))))))))
 refine R_o rfl (E_assign (R_nil (C_seq (C_region rfl (R_o rfl (E_move (R_o rfl (E_shruc (a := n) (b := 32) 0 rfl rfl (by omega) (by omega) ?_))))))))
 refine R_o rfl (E_assign (R_nil (C_seq (C_region rfl (R_o rfl (E_move (R_o rfl (E_move (R_o rfl (E_muluc (a := 1) (b := n) n rfl rfl (by omega) (by omega) ?_))))))))))
 refine R_o rfl (E_assign (R_nil (C_seq (C_region rfl (R_o rfl (E_move (R_o rfl (E_move (R_o rfl (E_muluc (a := 0) (b := n) 0 rfl rfl (by omega) (by omega) ?_))))))))))
 refine R_o rfl (E_move (R_o rfl (E_shruc (a := n) (b := 32) 0 rfl rfl (by omega) (by omega) ?_)))
 refine R_o rfl (E_adduc (a := 0) (b := 0) 0 rfl rfl rfl (by omega) ?_)
 refine R_o rfl (E_assign (R_nil (C_seq (C_region rfl (R_o rfl (E_move (R_o rfl (E_anduc (a := 0) (b := 4294967295) 0 rfl rfl (by omega) (by omega) rfl ?_))))))))
 refine R_o rfl (E_assign (R_nil (C_seq (C_region rfl (R_o rfl (E_move (R_o rfl (E_shruc (a := 0) (b := 32) 0 rfl rfl (by omega) rfl ?_))))))))
 refine R_o rfl (E_assign (R_nil (C_seq (C_region rfl (R_o rfl (E_move (R_o rfl (E_move (R_o rfl (E_move (R_o rfl (E_muluc (a := 1) (b := 0) 0 rfl rfl rfl (by omega) ?_))))))))))))
 refine R_o rfl (E_adduc (a := 0) (b := 0) 0 rfl rfl rfl (by omega) ?_)
 refine R_o rfl (E_assign (R_nil (C_seq (C_region rfl (R_o rfl (E_move (R_o rfl (E_move (R_o rfl (E_muluc (a := 0) (b := 0) 0 rfl rfl rfl (by omega) ?_))))))))))
 refine R_o rfl (E_move (R_o rfl (E_adduc (a := 0) (b := 0) 0 rfl rfl rfl (by omega) ?_)))
 refine R_o rfl (E_move (R_o rfl (E_shruc (a := 0) (b := 32) 0 rfl rfl (by omega) rfl ?_)))
 refine R_o rfl (E_adduc (a := 0) (b := 0) 0 rfl rfl rfl (by omega) ?_)
 refine R_o rfl (E_assign (R_nil (C_seq (C_region rfl (R_o rfl (E_move (R_o rfl (E_move (R_o rfl (E_muluc (a := 1) (b := n) n rfl rfl (by omega) (by omega) ?_))))))))))
 refine R_o rfl (E_assign (R_nil (C_ret ?_)))
 with_reducible repeat (first | refine thn_ret ?_ | refine inB_ret ?_ | refine noG_ret ?_)
 exact ret_two rfl rfl ⟨rfl, H.below⟩
theorem Mul_ {w0 : World} {n : Nat} (hn : n ≤ 100) :
   Ret Tryz.prog 191 [.int .u64 1, .int .u64 n] w0 (fun v w => v = .tuple #[.int .u64 0, .int .u64 n] ∧ Below w0.heap.size w0 w) := by
 refine ret_of_C Tryz.func191 rfl rfl rfl ?_
 have H := Loc.refl w0
 refine C_seq (C_region rfl (R_o rfl (E_assign (R_o rfl (E_assign (R_nil (C_seq (C_kf ?_))))))))
 refine C_skip (C_seq (C_region rfl (R_o rfl (E_move (R_o rfl (E_move (R_o rfl (E_call rfl (Mul64_ hn) ?_))))))))
 rintro _ w1 ⟨rfl, hb⟩
 replace H := H.call0 hb; clear hb
 refine R_o rfl (E_move (R_o rfl (E_extract rfl rfl ?_)))
 refine R_o rfl (E_extract rfl rfl ?_)
 refine R_o rfl (E_assign (R_o rfl (E_assign (R_nil (C_seq (C_region rfl (R_o rfl (E_move (R_o rfl (E_move (R_o rfl (E_assign (R_o rfl (E_assign (R_nil (C_ret ?_))))))))))))))))
 with_reducible repeat (first | refine thn_ret ?_ | refine inB_ret ?_ | refine noG_ret ?_)
 exact ret_two rfl rfl ⟨rfl, H.below⟩
theorem rep_step {k n : Nat} {a z : Value} (hk : k ≤ n) : (List.replicate k a ++ List.replicate (n - k) z).take (0 + k) ++ List.replicate (min k (n - k)) a ++ (List.replicate k a ++ List.replicate (n - k) z).drop (0 + k + (List.replicate (min k (n - k)) a).length) = List.replicate (k + min k (n - k)) a ++ List.replicate (n - (k + min k (n - k))) z := by
 rw [Nat.zero_add, List.length_replicate, List.take_append_of_le_length (by simp), List.take_of_length_le (by simp), List.drop_append, List.drop_of_length_le (by simp), List.nil_append, List.length_replicate, List.drop_replicate, List.replicate_append_replicate]
 congr 2
 omega
theorem Repeat_ {w0 : World} {v : Value} {x : Int} {n : Nat} (hx : RdI w0 v [x]) (hn : n ≤ 100) :
   Ret Tryz.prog 181 [v, .int .i64 n] w0 (fun r w => ∃ b, r = .slice (some ⟨b, 0, none⟩) n n ∧ Loc w0 w [cl b 3 (ints .i64 (List.replicate n x))]) := by
 refine ret_of_C Tryz.func181 rfl rfl rfl ?_
 have H := Loc.refl w0
 obtain ⟨A, c, rfl, hc1, hc2, hel⟩ := hx
 obtain ⟨ad, u, rfl, hcell, hu⟩ := hel 0 x rfl
 obtain rfl : u = .int .i64 x := hu
 rw [show ad.add 0 = ad by simp [Addr.add]] at hcell
 refine C_seq (C_region rfl (R_o rfl (E_assign (R_nil (C_seq (C_seq (C_region rfl (R_o rfl (E_move (R_o rfl (E_lss rfl rfl ?_)))))))))))
 refine R_nil (C_cond (t := 10) rfl (fun h10 => ?_) (fun h10 => ?_))
 ·
  exact absurd h10 (by omega)
 ·
  refine C_skip (C_seq (C_region rfl (R_o rfl (E_move (R_o rfl (E_len rfl ?_))))))
  refine R_o rfl (E_convu (a := 1) rfl (by omega) ?_)
  refine R_o rfl (E_move (R_o rfl (E_convu (a := n) rfl (by omega) ?_)))
  refine R_o rfl (E_call rfl (Mul_ hn) ?_)
  rintro _ w1 ⟨rfl, hb⟩
  replace H := H.call0 hb; clear hb
  refine R_o rfl (E_move (R_o rfl (E_extract rfl rfl ?_)))
  refine R_o rfl (E_extract rfl rfl ?_)
  refine R_o rfl (E_assign (R_o rfl (E_assign (R_nil (C_seq (C_seq (C_region rfl (R_o rfl (E_move (R_o rfl (E_gtr rfl rfl ?_)))))))))))
  refine R_o rfl (E_move (R_part (t := 23) rfl (fun h23 => ?_) (fun h23 => ?_)))
  ·
   exact absurd h23 (by omega)
  ·
   refine R_w rfl rfl rfl (E_move ?_)
   refine R_w rfl rfl rfl (E_gtr rfl rfl ?_)
   refine R_o rfl (E_pick rfl ?_)
   refine R_nil (C_cond (t := 26) rfl (fun h26 => ?_) (fun h26 => ?_))
   ·
    exact absurd h26 (by omega)
   ·
    refine C_skip (C_seq (C_region rfl (R_o rfl (E_move (R_o rfl (E_convi (a := n) rfl (by omega) ?_))))))
    refine R_o rfl (E_makec n n H rfl rfl (by omega) (by omega) (by omega) ?_)
    clear H; intro w b30 H
    refine R_o rfl (E_assign (R_nil (C_seq (C_region rfl (R_o rfl (E_move (R_o rfl (E_move ?_))))))))
    refine R_o rfl (E_copy (b := b30) (vs := List.replicate (min 1 n) (.int .i64 x)) H rfl rfl (by simp) (fun j u hj => by
          have h1 := lt_of_get hj
          simp at h1
          obtain rfl : j = 0 := by omega
          rw [List.getElem?_replicate, if_pos (by omega)] at hj
          cases hj
          rw [show ad.add 0 = ad by simp [Addr.add]]
          exact Below.cell_some H.below hcell) (by simp; omega) (by simp [Value.oneCell']) ?_)
    clear H; intro w H
    rw [List.length_replicate]
    replace H := H.cle (cs' := List.replicate (min 1 n) (.int .i64 x) ++ List.replicate (n - min 1 n) (.int .i64 0)) (by simp)
    refine R_o rfl (E_assign (R_nil (C_seq (C_block (C_loop (ds := []) [7, 8] (fun m_ vs w => ∃ k : Nat, vs = [.slice (some ⟨b30, 0, none⟩) n n, .int .i64 k] ∧ m_ = n - k ∧ k ≤ n ∧ (0 < k ∨ n = 0) ∧ Loc w0 w [cl b30 3 (List.replicate k (.int .i64 x) ++ List.replicate (n - k) (.int .i64 0))]) (m := n - min 1 n) (by first | rfl | exact hd) ?_ ?_)))))
    · exact ⟨min 1 n, rfl, rfl, by omega, by omega, H⟩
    intro m vs ρ₀ w hd hI
    clear H
    obtain ⟨k, rfl, rfl, hk, hk0, H⟩ := hI
    refine C_seq (C_seq (C_region rfl (R_o rfl (E_move (R_o rfl (E_move (R_o rfl (E_len rfl ?_))))))))
    refine R_o rfl (E_lss rfl rfl ?_)
    refine R_nil (C_cond (t := 37) rfl (fun hlt => ?_) (fun hlt => ?_))
    ·
     refine C_skip (C_block (C_drawL [7] H (by kernel_rfl) (fun w H => ?_)))
     refine D_takeT 0 rfl rfl rfl (by kernel_rfl) (fun w K Z kk => E_move kk) ?_
     refine D_takeT 1 rfl rfl rfl (by kernel_rfl) (fun w K Z kk => E_move kk) ?_
     refine D_takeT 2 rfl rfl rfl (by kernel_rfl) (fun w K Z kk => E_move kk) ?_
     refine D_takeT 3 rfl rfl rfl (by kernel_rfl) (fun w K Z kk => E_sliceC (l := k) rfl rfl (by omega) (by omega) kk) ?_
     refine D_takeT 4 rfl rfl rfl (by kernel_rfl) (fun w K Z kk => E_move kk) ?_
     refine D_takeT 5 rfl rfl rfl (by kernel_rfl) (fun w K Z kk => E_move kk) ?_
     refine D_takeT 6 rfl rfl rfl (by kernel_rfl) (fun w K Z kk => E_sliceH (h := k) rfl rfl (by omega) kk) ?_
     have hsrc : ∀ j u, (List.replicate (min k (n - k)) (Value.int .i64 x))[j]? = some u → w.cell? ((⟨b30, 0, none⟩ : Addr).add j) = some u := fun j u hj => by
       have h1 := lt_of_get hj
       rw [List.length_replicate] at h1
       rw [List.getElem?_replicate, if_pos h1] at hj
       cases hj
       rw [add_plain, H.cell (b := b30), Nat.zero_add, List.getElem?_append_left (by simp; omega), List.getElem?_replicate, if_pos (by omega)]
     refine D_act 7 rfl rfl (by kernel_rfl) (E_copy (b := b30) (vs := List.replicate (min k (n - k)) (.int .i64 x)) H rfl rfl (by simp) hsrc (by simp; omega) (by simp [Value.oneCell']) ?_)
     clear H; intro w H
     rw [List.length_replicate]
     replace H := H.cle (cs' := List.replicate (k + min k (n - k)) (.int .i64 x) ++ List.replicate (n - (k + min k (n - k))) (.int .i64 0)) (rep_step hk)
     refine ⟨fun h => Bool.noConfusion (h : true = false), ?_⟩
     refine D_takeT 8 rfl rfl rfl (by kernel_rfl) (fun w K Z kk => E_add rfl rfl (by omega) kk) ?_
     refine D_takeT 9 rfl rfl rfl (by kernel_rfl) (fun w K Z kk => E_assign kk) ?_
     refine D_done (by kernel_rfl) ?_
     exact ⟨hd, n - (k + min k (n - k)), by omega, k + min k (n - k), by rfl, rfl, by omega, by omega, H⟩
    ·
     obtain rfl : k = n := by omega
     refine C_exit ?_
     refine C_seq (C_region rfl (R_o rfl (E_move (R_o rfl (E_assign (R_nil (C_ret ?_)))))))
     with_reducible repeat (first | refine thn_ret ?_ | refine inB_ret ?_ | refine noG_ret ?_)
     refine ret_one rfl hd ⟨b30, rfl, ?_⟩
     rw [Nat.sub_self, List.replicate_zero, List.append_nil, ints_replicate] at H
     exact H
end Go.Sl
