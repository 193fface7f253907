/- the least set that too many want. -/
import Derived.Test.YtlgdffofhnfedaaGreatX20
set_option linter.unusedVariables false
set_option linter.unusedSimpArgs false
set_option maxRecDepth 10000
set_option maxHeartbeats 2000000
namespace Go.Sl
open Go.RowKit
open Go.Proofs
theorem near_one {g : List (List Int)} {n i x : Int} (hok : okGr g n) (hi : 0 ≤ i ∧ i < g.length) : x ∈ nearV g [i] ↔ x ∈ g.getD i.toNat [] := by
 unfold nearV nearB
 simp only [List.mem_map, List.mem_filter, List.mem_range, List.any_eq_true, Bool.and_eq_true, decide_eq_true_eq, List.mem_singleton]
 constructor
 · rintro ⟨k, ⟨hk, p, hp, h1, h2⟩, rfl⟩
   have := (edges_mem.1 hp).2
   rw [h1, show p.1 = i.toNat by omega] at this
   exact this
 · intro hx
   have hlt : i.toNat < g.length := by omega
   obtain ⟨l, hl⟩ := get_of hlt
   have hx2 := hx
   rw [List.getD_eq_getElem?_getD, hl] at hx2
   have hb := (hok.2.2 l (mem_of_get hl)).1 x hx2
   have h8 := hok.1
   exact ⟨x.toNat, ⟨by omega, ⟨i.toNat, x⟩, edges_mem.2 ⟨hlt, hx⟩, by simp; omega, by simp; omega⟩, by omega⟩
theorem near_all {g : List (List Int)} {n i : Int} {l : List Int} (hok : okGr g n) (hi : 0 ≤ i ∧ i < g.length) : ((nearV g [i]).any fun k => decide (¬ k ∈ l)) = !((g.getD i.toNat []).all fun k => decide (k ∈ l)) := by
 rw [Bool.eq_iff_iff, List.any_eq_true, Bool.not_eq_true', List.all_eq_false]
 constructor
 · rintro ⟨x, hx, h⟩
   exact ⟨x, (near_one hok hi).1 hx, fun h2 => of_decide_eq_true h (of_decide_eq_true h2)⟩
 · rintro ⟨x, hx, h⟩
   exact ⟨x, (near_one hok hi).2 hx, decide_eq_true fun h2 => h (decide_eq_true h2)⟩
theorem within_step {g : List (List Int)} {sm l : List Int} {k : Nat} {i : Int} (h : sm[k]? = some i) : withinV g (sm.take (k + 1)) l = withinV g (sm.take k) l + if ((g.getD i.toNat []).all fun k => decide (k ∈ l)) = true then 1 else 0 := by
 unfold withinV
 rw [take_step h, List.filter_append, List.length_append]
 congr 1
 by_cases e : ((g.getD i.toNat []).all fun k => decide (k ∈ l)) = true
 · rw [if_pos e, List.filter_cons_of_pos (by exact e)]; rfl
 · rw [if_neg e, List.filter_cons_of_neg (by exact e)]; rfl
theorem within_le (g : List (List Int)) (sm l : List Int) : withinV g sm l ≤ sm.length := List.length_filter_le _ _
theorem few11_ {w0 : World} {a : Addr} {lv : Value} {l : List Int} {x : Int} (hc : w0.cell? a = some lv) (hl : RdI w0 lv l) :
   Ret Tryz.prog 116 [.int .i64 x, .pointer (some a)] w0 (fun v w => v = .bool (decide (¬ x ∈ l)) ∧ Below w0.heap.size w0 w) := by
 refine ret_of_C Tryz.func116 rfl rfl rfl ?_
 have H := Loc.refl w0
 refine C_seq (C_region rfl (R_o rfl (E_assign (R_nil (C_seq (C_region rfl (R_o rfl (E_load_cell rfl (Below.cell_some H.below hc) ?_))))))))
 refine R_o rfl (E_move (R_o rfl (E_call rfl (Contains_ints (x0 := x) (Abides.below H.below hl)) ?_)))
 rintro _ w1 ⟨rfl, hb⟩
 replace H := H.call0 hb; clear hb
 refine R_o rfl (E_not rfl ?_)
 refine R_o rfl (E_assign (R_nil (C_ret ?_)))
 with_reducible repeat (first | refine thn_ret ?_ | refine inB_ret ?_ | refine noG_ret ?_ | refine jmp_ret ?_)
 exact ret_one rfl rfl ⟨rfl, H.below⟩
theorem few1_ {w0 : World} {a5 a3 a4 : Addr} {lv gv sv : Value} {l sm : List Int} {g : List (List Int)} {n : Int} (h5 : w0.cell? a5 = some sv) (h3 : w0.cell? a3 = some gv) (h4 : w0.cell? a4 = some (.int .i64 n)) (hl : RdI w0 lv l) (hs : RdI w0 sv sm) (hg : RdII w0 gv g) (hok : okGr g n) (hsm : isR sm g.length) :
   Ret Tryz.prog 114 [lv, .pointer (some a5), .pointer (some a3), .pointer (some a4)] w0 (fun v w => v = .int .i64 (withinV g sm l) ∧ Below w0.heap.size w0 w) := by
 refine ret_of_C Tryz.func114 rfl rfl rfl ?_
 have H := Loc.refl w0
 obtain ⟨A, c, rfl, hc1, hc2⟩ := hs.len
 obtain ⟨Al, cl_, rfl, hl1, hl2⟩ := hl.len
 have hg8 := hok.2.1
 have hsl := isR_len hsm
 refine C_seq (C_region rfl (R_o rfl (E_box (cs := [.slice Al l.length cl_]) rfl H ?_)))
 clear H; intro w b4 H
 refine R_o rfl (E_assign (R_nil (C_seq (C_seq (C_region rfl (R_o rfl (E_load_cell rfl (Below.cell_some H.below h5) ?_)))))))
 refine R_o rfl (E_len rfl ?_)
 refine R_o rfl (E_move (R_nil (C_block (C_loop (ds := []) [5, 1, 2, 3, 4, 10, 11, 12] (fun m_ vs w => ∃ k : Nat, vs = [.int .i64 (withinV g (sm.take k) l), .pointer (some a5), .pointer (some a3), .pointer (some a4), .pointer (some ⟨b4, 0, none⟩), .slice A sm.length c, .int .i64 sm.length, .int .i64 k] ∧ m_ = sm.length - k ∧ k ≤ sm.length ∧ (True) ∧ Loc w0 w [cl b4 22 [.slice Al l.length cl_]]) (m := sm.length) (by first | rfl | exact hd) ?_ ?_))))
 · exact ⟨0, rfl, by omega, by omega, trivial, H⟩
 intro m vs ρ₀ w hd hI
 clear H
 obtain ⟨k, rfl, rfl, hk, hst, H⟩ := hI
 refine C_seq (C_region rfl (R_o rfl (E_lss rfl rfl ?_)))
 refine R_nil (C_seq (C_cond (t := 13) rfl (fun hlt => ?_) (fun hlt => ?_)))
 ·
  obtain ⟨x, hx⟩ := get_of (xs := sm) (k := k) (by omega)
  have hxb := hsm.1 x (mem_of_get hx)
  have hsx : isR [x] g.length := ⟨fun y hy => by rw [List.mem_singleton] at hy; rw [hy]; exact hxb, List.pairwise_singleton _ _⟩
  have hwl := within_le g (sm.take k) l
  have hwt : (sm.take k).length = k := by rw [List.length_take]; omega
  refine C_skip (C_seq (C_block (C_seq (C_region rfl (R_o rfl (E_idxr hs rfl rfl (by omega) (by omega) ?_))))))
  refine R_o rfl (E_loadi hs H rfl hx ?_)
  refine R_o rfl (E_assign (R_nil (C_seq (C_region rfl (R_o rfl (E_load_cell rfl (Below.cell_some H.below h3) ?_))))))
  refine R_o rfl (E_load_cell rfl (Below.cell_some H.below h4) ?_)
  refine R_o rfl (E_move (R_o rfl (E_lit (vs := [.int .i64 x]) [.tmp 19] rfl rfl rfl rfl rfl H ?_)))
  clear H; intro w b20 H
  have hr20 : RdI w (.slice (some ⟨b20, 0, none⟩) 1 1) [x] := RdI.of_cl (xs := [x]) H (by simp)
  refine R_o rfl (E_call rfl (Near_ (u := gv) (v := .slice (some ⟨b20, 0, none⟩) 1 1) (sm := [x]) (Abides.below H.below hg) hr20 hok hsx) ?_)
  rintro _ w1 ⟨x21, rfl, hc⟩
  replace H := H.call1 hc; clear hc
  refine R_o rfl (E_move (R_o rfl (E_extract rfl rfl ?_)))
  refine R_o rfl (E_extract rfl rfl ?_)
  refine R_o rfl (E_assign (R_o rfl (E_assign (R_nil (C_seq (C_region rfl (R_o rfl (E_move (R_o rfl (E_eql rfl rfl ?_))))))))))
  refine R_o rfl (E_move (R_part (t := 26) rfl (fun h26 => ?_) (fun h26 => ?_)))
  ·
   refine R_w rfl rfl rfl (E_move ?_)
   refine R_w rfl rfl rfl (E_makeFunc rfl rfl ?_)
   refine R_w rfl rfl rfl (E_call rfl (ContainsFunc_ints (s := x21) (p := fun k : Int => decide (¬ k ∈ l)) H.read ⟨116, #[], #[.pointer (some ⟨b4, 0, none⟩)], rfl, by kernel_rfl, fun w' k u hb _ hu => by rw [show u = .int .i64 k from hu]; exact few11_ (Below.cell_some hb ((H.cell (b := b4) (o := 0)).trans rfl)) (Abides.below hb (Abides.below H.below hl))⟩) ?_)
   rintro _ w1 ⟨rfl, hb⟩
   replace H := H.call0 hb; clear hb
   refine R_w rfl rfl rfl (E_notb rfl ?_)
   refine R_o rfl (E_pick rfl ?_)
   refine R_nil (C_condb (t := 31) rfl (fun h31 => ?_) (fun h31 => ?_))
   ·
    refine C_region rfl (R_o rfl (E_move (R_o rfl (E_add rfl rfl (by omega) ?_))))
    refine R_o rfl (E_assign (R_nil (C_region rfl (R_o rfl (E_add rfl rfl (by omega) ?_)))))
    refine R_o rfl (E_move (R_nil ?_))
    first
      | (have hin : ((g.getD x.toNat []).all fun k => decide (k ∈ l)) = true := by rw [near_all hok hxb, Bool.not_not] at h31; exact h31
         have e := (within_step (g := g) (l := l) hx).trans (congrArg _ (if_pos hin))
         exact ⟨hd, sm.length - (k + 1), by omega, k + 1, by rw [e]; rfl, rfl, by omega, trivial, H.al⟩)
      | (have hin : ¬ ((g.getD x.toNat []).all fun k => decide (k ∈ l)) = true := by rw [near_all hok hxb, Bool.not_not] at h31; rw [h31]; exact Bool.false_ne_true
         have e := (within_step (g := g) (l := l) hx).trans (congrArg _ (if_neg hin))
         exact ⟨hd, sm.length - (k + 1), by omega, k + 1, by rw [e]; rfl, rfl, by omega, trivial, H.al⟩)
   ·
    refine C_skip (C_region rfl (R_o rfl (E_add rfl rfl (by omega) ?_)))
    refine R_o rfl (E_move (R_nil ?_))
    first
      | (have hin : ((g.getD x.toNat []).all fun k => decide (k ∈ l)) = true := by rw [near_all hok hxb, Bool.not_not] at h31; exact h31
         have e := (within_step (g := g) (l := l) hx).trans (congrArg _ (if_pos hin))
         exact ⟨hd, sm.length - (k + 1), by omega, k + 1, by rw [e]; rfl, rfl, by omega, trivial, H.al⟩)
      | (have hin : ¬ ((g.getD x.toNat []).all fun k => decide (k ∈ l)) = true := by rw [near_all hok hxb, Bool.not_not] at h31; rw [h31]; exact Bool.false_ne_true
         have e := (within_step (g := g) (l := l) hx).trans (congrArg _ (if_neg hin))
         exact ⟨hd, sm.length - (k + 1), by omega, k + 1, by rw [e]; rfl, rfl, by omega, trivial, H.al⟩)
  ·
   exact absurd rfl h26
 ·
  have hk : k = sm.length := by omega
  refine C_exit ?_
  refine C_seq (C_region rfl (R_o rfl (E_move (R_o rfl (E_assign (R_nil (C_ret ?_)))))))
  with_reducible repeat (first | refine thn_ret ?_ | refine inB_ret ?_ | refine noG_ret ?_ | refine jmp_ret ?_)
  refine ret_one rfl hd ⟨?_, H.below⟩
  rw [hk, List.take_length]; rfl
theorem Few_ {w0 : World} {u v : Value} {g : List (List Int)} {items : Nat} {sm : List Int} (hg : RdII w0 u g) (hsr : RdI w0 v sm) (hok : okGr g items) (hsm : isR sm g.length) :
   Ret Tryz.prog 99 [u, .int .i64 (items : Int), v] w0 (fun r w => ∃ x b, r = .tuple #[x, .bool b, .int .i64 0] ∧ ((b = false ∧ IsFew g items sm none ∧ Below w0.heap.size w0 w) ∨ (b = true ∧ ∃ l, IsFew g items sm (some l) ∧ Loc w0 w [rdv x (fun w => RdI w x l)]))) := by
 refine ret_of_CM Tryz.func99 rfl rfl rfl ?_
 have H := Loc.refl w0
 obtain ⟨A, c, rfl, hc1, hc2⟩ := hg.len
 obtain ⟨B, d1, rfl, hd1, hd2⟩ := hsr.len
 have hg8 := hok.2.1
 have hi8 := hok.1
 refine C_seq (C_region rfl (R_o rfl (E_box (cs := [.slice A g.length c]) rfl H ?_)))
 clear H; intro w b3 H
 refine R_o rfl (E_box (cs := [.int .i64 (items : Int)]) rfl H ?_)
 clear H; intro w b4 H
 refine R_o rfl (E_box (cs := [.slice B sm.length d1]) rfl H ?_)
 clear H; intro w b5 H
 refine R_o rfl (E_alloc H ?_)
 clear H; intro w b6 H
 refine R_o rfl (E_alloc H ?_)
 clear H; intro w b7 H
 refine R_o rfl (E_alloc H ?_)
 clear H; intro w b8 H
 refine R_nil (C_seq (C_region rfl (R_o rfl (E_load H rfl rfl ?_))))
 refine R_o rfl (E_load H rfl rfl ?_)
 refine R_o rfl (E_load H rfl rfl ?_)
 refine R_o rfl (E_call rfl (mAll_ (u := .slice A g.length c) (v := .slice B sm.length d1) (Abides.below H.below hg) (Abides.below H.below hsr) hok hsm) ?_)
 rintro _ w1 ⟨ball, rfl, hall, hb⟩
 replace H := H.call0 hb; clear hb
 refine R_o rfl (E_move (R_o rfl (E_extract rfl rfl ?_)))
 refine R_o rfl (E_extract rfl rfl ?_)
 refine R_o rfl (E_assign (R_o rfl (E_assign (R_nil (C_seq (C_seq (C_region rfl (R_o rfl (E_move (R_o rfl (E_neq rfl rfl ?_)))))))))))
 refine R_o rfl (E_move (R_part (t := 23) rfl (fun h23 => ?_) (fun h23 => ?_)))
 ·
  exact absurd rfl h23
 ·
  refine R_w rfl rfl rfl (E_move ?_)
  refine R_o rfl (E_pick rfl ?_)
  refine R_nil (C_condb (t := 25) rfl (fun h25 => ?_) (fun h25 => ?_))
  ·
   refine C_seq (C_region rfl (R_o rfl (E_move (R_n rfl (E_store (v := .slice none 0 0) H rfl rfl rfl (by simp) ?_)))))
   clear H; intro w H
   replace H := H.cle (cs' := [.slice none 0 0]) rfl
   refine R_n rfl (E_store (v := .bool false) H rfl rfl rfl (by simp) ?_)
   clear H; intro w H
   replace H := H.cle (cs' := [.bool false]) rfl
   refine R_n rfl (E_store (v := .int .i64 0) H rfl rfl rfl (by simp) ?_)
   clear H; intro w H
   replace H := H.cle (cs' := [.int .i64 0]) rfl
   refine R_nil (C_ret ?_)
   with_reducible repeat (first | refine thn_ret ?_ | refine inB_ret ?_ | refine noG_ret ?_ | refine jmp_ret ?_)
   first
     | exact retM_list (rs := [.cell 6 22, .cell 7 4, .cell 8 35]) (vs := [.slice none 0 0, .bool false, .int .i64 0]) (L := cl b6 22 [.slice none 0 0] :: cl b7 4 [.bool false] :: cl b8 35 [.int .i64 0] :: []) rfl (H.mks0.al : Loc w0 w (mks [] :: (cl b6 22 [.slice none 0 0] :: cl b7 4 [.bool false] :: cl b8 35 [.int .i64 0] :: []))) (fun w' H' => ⟨res_cell1 (b := b6) (o := 0) H' rfl rfl, res_cell1 (b := b7) (o := 0) H' rfl rfl, res_cell1 (b := b8) (o := 0) H' rfl rfl, trivial⟩) fun w' H' => ⟨.slice none 0 0, false, rfl, .inl ⟨rfl, fun l _ => hall h25 l, H'.below⟩⟩
     | exact retM_list (rs := [.cell 6 22, .cell 7 4, .cell 8 35]) (vs := [.slice none 0 0, .bool false, .int .i64 0]) (L := cl b6 22 [.slice none 0 0] :: cl b7 4 [.bool false] :: cl b8 35 [.int .i64 0] :: []) rfl (H.al : Loc w0 w (mks ρ₀.d :: (cl b6 22 [.slice none 0 0] :: cl b7 4 [.bool false] :: cl b8 35 [.int .i64 0] :: []))) (fun w' H' => ⟨res_cell1 (b := b6) (o := 0) H' rfl rfl, res_cell1 (b := b7) (o := 0) H' rfl rfl, res_cell1 (b := b8) (o := 0) H' rfl rfl, trivial⟩) fun w' H' => ⟨.slice none 0 0, false, rfl, .inl ⟨rfl, fun l hr => hst l hr (by have := isR_len hr; omega), H'.below⟩⟩
  ·
   refine C_skip (C_seq (C_region rfl (R_o rfl (E_makeFunc rfl rfl ?_))))
   refine R_o rfl (E_alloc H ?_)
   clear H; intro w b11 H
   refine R_n rfl (E_store (v := .func (.func 114) #[] #[.pointer (some ⟨b5, 0, none⟩), .pointer (some ⟨b3, 0, none⟩), .pointer (some ⟨b4, 0, none⟩)]) H rfl rfl rfl (by simp) ?_)
   clear H; intro w H
   replace H := H.cle (cs' := [.func (.func 114) #[] #[.pointer (some ⟨b5, 0, none⟩), .pointer (some ⟨b3, 0, none⟩), .pointer (some ⟨b4, 0, none⟩)]]) rfl
   refine R_nil (C_seq (C_seq (C_region rfl (R_o rfl (E_load H rfl rfl ?_)))))
   refine R_o rfl (E_add rfl rfl (by omega) ?_)
   refine R_o rfl (E_move (R_nil (C_block (C_loopD [4, 6, 7, 8, 11, 29, 30] (fun m_ vs ds w => ∃ q : Nat, vs = [.pointer (some ⟨b4, 0, none⟩), .pointer (some ⟨b6, 0, none⟩), .pointer (some ⟨b7, 0, none⟩), .pointer (some ⟨b8, 0, none⟩), .pointer (some ⟨b11, 0, none⟩), .int .i64 ((items : Int) + 1), .int .i64 (q : Int)] ∧ m_ = items + 1 - q ∧ q ≤ items + 1 ∧ (∀ l', isR l' items → l'.length < q → ¬ tooMany g sm l') ∧ Loc w0 w (cl b3 23 [.slice A g.length c] :: cl b4 3 [.int .i64 (items : Int)] :: cl b5 22 [.slice B sm.length d1] :: cl b6 22 [.slice none 0 0] :: cl b7 4 [.bool false] :: cl b8 35 [.int .i64 0] :: cl b11 48 [.func (.func 114) #[] #[.pointer (some ⟨b5, 0, none⟩), .pointer (some ⟨b3, 0, none⟩), .pointer (some ⟨b4, 0, none⟩)]] :: mks ds :: [])) (m := items + 1) ?_ ?_))))
   · replace H : Loc w0 w (cl b3 23 [.slice A g.length c] :: cl b4 3 [.int .i64 (items : Int)] :: cl b5 22 [.slice B sm.length d1] :: cl b6 22 [.slice none 0 0] :: cl b7 4 [.bool false] :: cl b8 35 [.int .i64 0] :: cl b11 48 [.func (.func 114) #[] #[.pointer (some ⟨b5, 0, none⟩), .pointer (some ⟨b3, 0, none⟩), .pointer (some ⟨b4, 0, none⟩)]] :: mks [] :: []) := H.mks0.al
     exact ⟨0, rfl, by omega, by omega, fun l' _ h => by omega, H⟩
   intro m vs ρ₀ w hI
   clear H
   obtain ⟨q, rfl, rfl, hq, hst, H⟩ := hI
   refine C_seq (C_region rfl (R_o rfl (E_lss rfl rfl ?_)))
   refine R_nil (C_seq (C_cond (t := 31) rfl (fun hlt => ?_) (fun hlt => ?_)))
   ·
    refine C_skip (C_seq (C_block (C_seq (C_region rfl (R_o rfl (E_move (R_o rfl (E_alloc H ?_))))))))
    clear H; intro w b12 H
    refine R_n rfl (E_store (v := .int .i64 (q : Int)) H rfl rfl rfl (by simp) ?_)
    clear H; intro w H
    replace H := H.cle (cs' := [.int .i64 (q : Int)]) rfl
    refine R_nil (C_seq (C_region rfl (R_o rfl (E_load H rfl rfl ?_))))
    refine R_o rfl (E_load H rfl rfl ?_)
    refine R_o rfl (E_call rfl (sets_ (ahv := .slice none 0 0) (fr := 0) (items := items) (many := q) rfl) ?_)
    rintro _ w1 ⟨c7, c4, c5, c6, rfl, hc⟩
    replace H := H.call4 hc; clear hc
    replace H := H.mkEmp.toRd (.slice none 0 0) (fun w => RdI w (.slice none 0 0) []) (fun _ _ _ => RdS.nil _ _)
    replace H : Loc w0 w1 (cl c7 3 [.int .i64 ((q : Nat) : Int)] :: cl c4 22 [.slice none 0 0] :: cl c5 3 [.int .i64 ((0 : Nat) : Int)] :: cl c6 3 [.int .i64 ((items : Nat) : Int)] :: rdv (.slice none 0 0) (fun w => RdI w (.slice none 0 0) []) :: cl b12 3 [.int .i64 (q : Int)] :: cl b3 23 [.slice A g.length c] :: cl b4 3 [.int .i64 (items : Int)] :: cl b5 22 [.slice B sm.length d1] :: cl b6 22 [.slice none 0 0] :: cl b7 4 [.bool false] :: cl b8 35 [.int .i64 0] :: cl b11 48 [.func (.func 114) #[] #[.pointer (some ⟨b5, 0, none⟩), .pointer (some ⟨b3, 0, none⟩), .pointer (some ⟨b4, 0, none⟩)]] :: mks ρ₀.d :: []) := H.al
    refine R_nil (C_block (C_rangeFunc (ps := [36]) rfl rfl (by rintro k vs ⟨_, v, _, rfl⟩; rfl) (sets1_ (by omega) q 0 [] (.slice none 0 0) c7 c4 c5 c6 (by omega) (by simp; omega) (by omega)) (fun hs2 T' => hs2.length ≤ (combos items q 0 []).length ∧ (∀ j l', j < hs2.length → (combos items q 0 [])[j]? = some l' → ¬ tooMany g sm l') ∧ T' = cl b12 3 [.int .i64 (q : Int)] :: cl b3 23 [.slice A g.length c] :: cl b4 3 [.int .i64 (items : Int)] :: cl b5 22 [.slice B sm.length d1] :: cl b6 22 [.slice none 0 0] :: cl b7 4 [.bool false] :: cl b8 35 [.int .i64 0] :: cl b11 48 [.func (.func 114) #[] #[.pointer (some ⟨b5, 0, none⟩), .pointer (some ⟨b3, 0, none⟩), .pointer (some ⟨b4, 0, none⟩)]] :: mks ρ₀.d :: []) (fun cc hs2 T' => cc = .ret ∧ ∃ l x6, IsFew g items sm (some l) ∧ T' = rdv x6 (fun w => RdI w x6 l) :: cl b12 3 [.int .i64 (q : Int)] :: cl b3 23 [.slice A g.length c] :: cl b4 3 [.int .i64 (items : Int)] :: cl b5 22 [.slice B sm.length d1] :: cl b6 22 [x6] :: cl b7 4 [.bool true] :: cl b8 35 [.int .i64 0] :: cl b11 48 [.func (.func 114) #[] #[.pointer (some ⟨b5, 0, none⟩), .pointer (some ⟨b3, 0, none⟩), .pointer (some ⟨b4, 0, none⟩)]] :: mks ρ₀.d :: []) H ⟨by simp, fun j l' h => by simp at h, rfl⟩ ?_ ?_ ?_))
    ·
     intro l hs vs F W T hlt hX hJ H
     obtain ⟨lst, v, hlst, rfl⟩ := hX
     obtain ⟨hle, hno, rfl⟩ := hJ
     rw [FXset_eq hlst] at H ⊢
     have hlr := isR_combos.1 (mem_of_get hlst)
     have hl8 := isR_len hlr.1
     replace H : Loc w0 W (rdv v (fun w => RdI w v lst) :: (cl b12 3 [.int .i64 (q : Int)] :: cl b3 23 [.slice A g.length c] :: cl b4 3 [.int .i64 (items : Int)] :: cl b5 22 [.slice B sm.length d1] :: cl b6 22 [.slice none 0 0] :: cl b7 4 [.bool false] :: cl b8 35 [.int .i64 0] :: cl b11 48 [.func (.func 114) #[] #[.pointer (some ⟨b5, 0, none⟩), .pointer (some ⟨b3, 0, none⟩), .pointer (some ⟨b4, 0, none⟩)]] :: mks ρ₀.d :: F)) := H
     refine C_region rfl (R_o rfl (E_assign (R_nil (⟨rfl, cl b12 3 [.int .i64 (q : Int)] :: cl b3 23 [.slice A g.length c] :: cl b4 3 [.int .i64 (items : Int)] :: cl b5 22 [.slice B sm.length d1] :: cl b6 22 [.slice none 0 0] :: cl b7 4 [.bool false] :: cl b8 35 [.int .i64 0] :: cl b11 48 [.func (.func 114) #[] #[.pointer (some ⟨b5, 0, none⟩), .pointer (some ⟨b3, 0, none⟩), .pointer (some ⟨b4, 0, none⟩)]] :: mks ρ₀.d :: [], H, fun F w H => ?_⟩))))
     replace H : Loc w0 w (rdv v (fun w => RdI w v lst) :: (cl b12 3 [.int .i64 (q : Int)] :: cl b3 23 [.slice A g.length c] :: cl b4 3 [.int .i64 (items : Int)] :: cl b5 22 [.slice B sm.length d1] :: cl b6 22 [.slice none 0 0] :: cl b7 4 [.bool false] :: cl b8 35 [.int .i64 0] :: cl b11 48 [.func (.func 114) #[] #[.pointer (some ⟨b5, 0, none⟩), .pointer (some ⟨b3, 0, none⟩), .pointer (some ⟨b4, 0, none⟩)]] :: mks ρ₀.d :: F)) := H
     refine C_block (C_seq (C_drawLr [] H (by kernel_rfl) (by kernel_rfl) (fun w H => ?_)))
     refine D_take 0 rfl rfl rfl (by kernel_rfl) H.al (fun w HS K Z kk => E_load HS rfl rfl kk) ?_
     refine D_takeT 1 rfl rfl rfl (by kernel_rfl) (fun w K Z kk => E_move kk) ?_
     refine D_take 3 rfl rfl rfl (by kernel_rfl) H.al (fun w HS K Z kk => E_load HS rfl rfl kk) ?_
     refine D_act 2 rfl rfl (by kernel_rfl) (E_callv rfl rfl (few1_ (lv := v) (l := lst) (gv := .slice A g.length c) (sv := .slice B sm.length d1) (g := g) (sm := sm) ((H.cell (b := b5) (o := 0)).trans rfl) ((H.cell (b := b3) (o := 0)).trans rfl) ((H.cell (b := b4) (o := 0)).trans rfl) H.read (Abides.below H.below hsr) (Abides.below H.below hg) hok hsm) ?_)
     rintro _ w1 ⟨rfl, hb⟩
     replace H := H.call0 hb; clear hb
     refine ⟨fun _ _ => H.al, ?_⟩
     refine D_takeT 4 rfl rfl rfl (by kernel_rfl) (fun w K Z kk => E_gtr rfl rfl kk) ?_
     refine D_done (by kernel_rfl) ?_
     refine C_cond (t := 41) rfl (fun h41 => ?_) (fun h41 => ?_)
     ·
      refine C_seq (C_region rfl (R_o rfl (E_move (R_o rfl (E_call rfl (Clone_ints (s := v) (xs := lst) H.read (by omega)) ?_)))))
      rintro v43 w1 hc
      replace H := H.call1 hc; clear hc
      obtain ⟨A43, c43, rfl, hc43, _⟩ := H.len (v := v43)
      refine R_o rfl (E_call rfl (Clip_ints hc43) ?_)
      rintro _ w1 ⟨rfl, hb⟩
      replace H := H.call0 hb; clear hb
      replace H : Loc w0 w1 (rdv (.slice A43 lst.length lst.length) (fun w => RdI w (.slice A43 lst.length lst.length) lst) :: rdv v (fun w => RdI w v lst) :: (cl b12 3 [.int .i64 (q : Int)] :: cl b3 23 [.slice A g.length c] :: cl b4 3 [.int .i64 (items : Int)] :: cl b5 22 [.slice B sm.length d1] :: cl b6 22 [.slice none 0 0] :: cl b7 4 [.bool false] :: cl b8 35 [.int .i64 0] :: cl b11 48 [.func (.func 114) #[] #[.pointer (some ⟨b5, 0, none⟩), .pointer (some ⟨b3, 0, none⟩), .pointer (some ⟨b4, 0, none⟩)]] :: mks ρ₀.d :: F)) := H.rowOwn.ownClip.ownInts
      refine R_n rfl (E_store (v := .slice A43 lst.length lst.length) H rfl rfl rfl (by simp) ?_)
      clear H; intro w H
      replace H := H.cle (cs' := [.slice A43 lst.length lst.length]) rfl
      refine R_n rfl (E_store (v := .bool true) H rfl rfl rfl (by simp) ?_)
      clear H; intro w H
      replace H := H.cle (cs' := [.bool true]) rfl
      refine R_n rfl (E_store (v := .int .i64 0) H rfl rfl rfl (by simp) ?_)
      clear H; intro w H
      replace H := H.cle (cs' := [.int .i64 0]) rfl
      refine R_nil (C_ret ?_)
      with_reducible repeat (first | refine thn_ret ?_ | refine inB_ret ?_ | refine noG_ret ?_ | refine jmp_ret ?_)
      have hv2 : Loc w0 w (rdv v (fun w => RdI w v lst) :: (rdv (.slice A43 lst.length lst.length) (fun w => RdI w (.slice A43 lst.length lst.length) lst) :: cl b12 3 [.int .i64 (q : Int)] :: cl b3 23 [.slice A g.length c] :: cl b4 3 [.int .i64 (items : Int)] :: cl b5 22 [.slice B sm.length d1] :: cl b6 22 [.slice A43 lst.length lst.length] :: cl b7 4 [.bool true] :: cl b8 35 [.int .i64 0] :: cl b11 48 [.func (.func 114) #[] #[.pointer (some ⟨b5, 0, none⟩), .pointer (some ⟨b3, 0, none⟩), .pointer (some ⟨b4, 0, none⟩)]] :: mks ρ₀.d :: F)) := H.al
      exact ⟨_, ⟨rfl, lst, .slice A43 lst.length lst.length, few_at hst hlst hno (by unfold tooMany; omega), rfl⟩, hv2⟩
     ·
      refine C_skip ?_
      with_reducible repeat (first | refine inB_normal ?_ | refine thn_exit ?_ | refine inB_exit ?_ | refine inB_pass rfl ?_)
      refine ⟨cl b12 3 [.int .i64 (q : Int)] :: cl b3 23 [.slice A g.length c] :: cl b4 3 [.int .i64 (items : Int)] :: cl b5 22 [.slice B sm.length d1] :: cl b6 22 [.slice none 0 0] :: cl b7 4 [.bool false] :: cl b8 35 [.int .i64 0] :: cl b11 48 [.func (.func 114) #[] #[.pointer (some ⟨b5, 0, none⟩), .pointer (some ⟨b3, 0, none⟩), .pointer (some ⟨b4, 0, none⟩)]] :: mks ρ₀.d :: [], ⟨by have := lt_of_get hlst; simp; exact this, fun j l' hj hl' => ?_, rfl⟩, H⟩
      by_cases e : j = hs.length
      · subst e; rw [hlst] at hl'; cases hl'; unfold tooMany; omega
      · exact hno j l' (by simp at hj; omega) hl'
    ·
     intro D hs T w hN hJ H
     obtain ⟨hle, hno, rfl⟩ := hJ
     replace H : Loc w0 w (dfr D :: (cl c7 3 [.int .i64 ((q : Nat) : Int)] :: cl c4 22 [.slice none 0 0] :: cl c5 3 [.int .i64 ((0 : Nat) : Int)] :: cl c6 3 [.int .i64 ((items : Nat) : Int)] :: rdv (.slice none 0 0) (fun w => RdI w (.slice none 0 0) []) :: cl b12 3 [.int .i64 (q : Int)] :: cl b3 23 [.slice A g.length c] :: cl b4 3 [.int .i64 (items : Int)] :: cl b5 22 [.slice B sm.length d1] :: cl b6 22 [.slice none 0 0] :: cl b7 4 [.bool false] :: cl b8 35 [.int .i64 0] :: cl b11 48 [.func (.func 114) #[] #[.pointer (some ⟨b5, 0, none⟩), .pointer (some ⟨b3, 0, none⟩), .pointer (some ⟨b4, 0, none⟩)]] :: mks ρ₀.d :: [])) := H
     have H1 : Loc w0 w (dfr D :: mks ρ₀.d :: (cl b3 23 [.slice A g.length c] :: cl b4 3 [.int .i64 (items : Int)] :: cl b5 22 [.slice B sm.length d1] :: cl b6 22 [.slice none 0 0] :: cl b7 4 [.bool false] :: cl b8 35 [.int .i64 0] :: cl b11 48 [.func (.func 114) #[] #[.pointer (some ⟨b5, 0, none⟩), .pointer (some ⟨b3, 0, none⟩), .pointer (some ⟨b4, 0, none⟩)]] :: [])) := H.al
     replace H : Loc w0 w (cl b3 23 [.slice A g.length c] :: cl b4 3 [.int .i64 (items : Int)] :: cl b5 22 [.slice B sm.length d1] :: cl b6 22 [.slice none 0 0] :: cl b7 4 [.bool false] :: cl b8 35 [.int .i64 0] :: cl b11 48 [.func (.func 114) #[] #[.pointer (some ⟨b5, 0, none⟩), .pointer (some ⟨b3, 0, none⟩), .pointer (some ⟨b4, 0, none⟩)]] :: mks (mark D :: ρ₀.d) :: []) := (H1.mksS).al
     have hst2 : ∀ l', isR l' items → l'.length < q + 1 → ¬ tooMany g sm l' := fun l' hr hl => by
       by_cases e : l'.length < q
       · exact hst l' hr e
       · obtain ⟨j, hj, e2⟩ := List.getElem_of_mem (isR_combos.2 ⟨hr, (show l'.length = q by omega)⟩)
         exact hno j l' (by rw [hN]; exact hj) (by rw [List.getElem?_eq_getElem hj, e2])
     refine C_region rfl (R_o rfl (E_add rfl rfl (by omega) ?_))
     refine R_o rfl (E_move (R_nil ?_))
     exact ⟨items + 1 - (q + 1), by omega, q + 1, rfl, rfl, by omega, hst2, H⟩
    ·
     intro D c hs T w hJR H
     obtain ⟨rfl, l, x6, hF, rfl⟩ := hJR
     replace H : Loc w0 w (dfr D :: (cl c7 3 [.int .i64 ((q : Nat) : Int)] :: cl c4 22 [.slice none 0 0] :: cl c5 3 [.int .i64 ((0 : Nat) : Int)] :: cl c6 3 [.int .i64 ((items : Nat) : Int)] :: rdv (.slice none 0 0) (fun w => RdI w (.slice none 0 0) []) :: rdv x6 (fun w => RdI w x6 l) :: cl b12 3 [.int .i64 (q : Int)] :: cl b3 23 [.slice A g.length c] :: cl b4 3 [.int .i64 (items : Int)] :: cl b5 22 [.slice B sm.length d1] :: cl b6 22 [x6] :: cl b7 4 [.bool true] :: cl b8 35 [.int .i64 0] :: cl b11 48 [.func (.func 114) #[] #[.pointer (some ⟨b5, 0, none⟩), .pointer (some ⟨b3, 0, none⟩), .pointer (some ⟨b4, 0, none⟩)]] :: mks ρ₀.d :: [])) := H
     have hx6 : RdI w x6 l := (H.fr (rdv x6 (fun w => RdI w x6 l))).read
     have H1 : Loc w0 w (dfr D :: mks ρ₀.d :: (rdv x6 (fun w => RdI w x6 l) :: cl b3 23 [.slice A g.length c] :: cl b4 3 [.int .i64 (items : Int)] :: cl b5 22 [.slice B sm.length d1] :: cl b6 22 [x6] :: cl b7 4 [.bool true] :: cl b8 35 [.int .i64 0] :: cl b11 48 [.func (.func 114) #[] #[.pointer (some ⟨b5, 0, none⟩), .pointer (some ⟨b3, 0, none⟩), .pointer (some ⟨b4, 0, none⟩)]] :: [])) := H.al
     refine C_ret ?_
     with_reducible repeat (first | refine thn_ret ?_ | refine inB_ret ?_)
     exact retM_list (rs := [.cell 6 22, .cell 7 4, .cell 8 35]) (vs := [x6, .bool true, .int .i64 0]) (L := rdv x6 (fun w => RdI w x6 l) :: cl b3 23 [.slice A g.length c] :: cl b4 3 [.int .i64 (items : Int)] :: cl b5 22 [.slice B sm.length d1] :: cl b6 22 [x6] :: cl b7 4 [.bool true] :: cl b8 35 [.int .i64 0] :: cl b11 48 [.func (.func 114) #[] #[.pointer (some ⟨b5, 0, none⟩), .pointer (some ⟨b3, 0, none⟩), .pointer (some ⟨b4, 0, none⟩)]] :: []) rfl (H1.mksS) (fun w' H' => ⟨res_cell1 (b := b6) (o := 0) H' rfl rfl, res_cell1 (b := b7) (o := 0) H' rfl rfl, res_cell1 (b := b8) (o := 0) H' rfl rfl, trivial⟩) fun w' H' => ⟨x6, true, rfl, .inr ⟨rfl, l, hF, H'.al⟩⟩
   ·
    have hq2 : q = items + 1 := by omega
    refine C_exit ?_
    refine C_seq (C_region rfl (R_n rfl (E_store (v := .slice none 0 0) H rfl rfl rfl (by simp) ?_)))
    clear H; intro w H
    replace H := H.cle (cs' := [.slice none 0 0]) rfl
    refine R_n rfl (E_store (v := .bool false) H rfl rfl rfl (by simp) ?_)
    clear H; intro w H
    replace H := H.cle (cs' := [.bool false]) rfl
    refine R_n rfl (E_store (v := .int .i64 0) H rfl rfl rfl (by simp) ?_)
    clear H; intro w H
    replace H := H.cle (cs' := [.int .i64 0]) rfl
    refine R_nil (C_ret ?_)
    with_reducible repeat (first | refine thn_ret ?_ | refine inB_ret ?_ | refine noG_ret ?_ | refine jmp_ret ?_)
    first
      | exact retM_list (rs := [.cell 6 22, .cell 7 4, .cell 8 35]) (vs := [.slice none 0 0, .bool false, .int .i64 0]) (L := cl b6 22 [.slice none 0 0] :: cl b7 4 [.bool false] :: cl b8 35 [.int .i64 0] :: []) rfl (H.mks0.al : Loc w0 w (mks [] :: (cl b6 22 [.slice none 0 0] :: cl b7 4 [.bool false] :: cl b8 35 [.int .i64 0] :: []))) (fun w' H' => ⟨res_cell1 (b := b6) (o := 0) H' rfl rfl, res_cell1 (b := b7) (o := 0) H' rfl rfl, res_cell1 (b := b8) (o := 0) H' rfl rfl, trivial⟩) fun w' H' => ⟨.slice none 0 0, false, rfl, .inl ⟨rfl, fun l _ => hall h25 l, H'.below⟩⟩
      | exact retM_list (rs := [.cell 6 22, .cell 7 4, .cell 8 35]) (vs := [.slice none 0 0, .bool false, .int .i64 0]) (L := cl b6 22 [.slice none 0 0] :: cl b7 4 [.bool false] :: cl b8 35 [.int .i64 0] :: []) rfl (H.al : Loc w0 w (mks ρ₀.d :: (cl b6 22 [.slice none 0 0] :: cl b7 4 [.bool false] :: cl b8 35 [.int .i64 0] :: []))) (fun w' H' => ⟨res_cell1 (b := b6) (o := 0) H' rfl rfl, res_cell1 (b := b7) (o := 0) H' rfl rfl, res_cell1 (b := b8) (o := 0) H' rfl rfl, trivial⟩) fun w' H' => ⟨.slice none 0 0, false, rfl, .inl ⟨rfl, fun l hr => hst l hr (by have := isR_len hr; omega), H'.below⟩⟩
end Go.Sl
