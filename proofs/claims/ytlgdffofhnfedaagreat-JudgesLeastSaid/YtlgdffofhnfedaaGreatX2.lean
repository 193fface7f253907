/- law01: sizes, twins, what is left. -/
import Derived.Test.YtlgdffofhnfedaaGreatX1
import Derived.Test.YtlgdffofhnfedaaGreatW
set_option linter.unusedVariables false
set_option linter.unusedSimpArgs false
set_option maxRecDepth 10000
namespace Go.Sl
open Go.RowKit
open Go.Proofs
theorem Loc.join {w0 w : World} {A B : HP} {L : List HP} (h : Loc w0 w (A :: B :: L)) (v : Value) (f : World → Prop) (hf : ∀ S1 S2 w', A.p S1 w' → B.p S2 w' → f w') : Loc w0 w (rdv v f :: L) :=
 h.mkStar.toRd v f (fun S w' ⟨S1, S2, _, _, ha, hb⟩ => hf S1 S2 w' ha hb)
theorem rdv_now {v : Value} {f : World → Prop} {S : Nat → Prop} {w : World} (h : (rdv v f).p S w) : f w := h w fun _ _ => rfl
theorem Loc.swap {w0 w : World} {A B : HP} {L : List HP} (h : Loc w0 w (A :: B :: L)) : Loc w0 w (B :: A :: L) := h.perm (List.Perm.swap _ _ _)
def TwS {α : Type} (r : World → Value → α → Prop) (rl : World → Value → Prop) (w : World) (v : Value) (xs : List α) : Prop :=
 ∃ a c, v = .slice (some a) xs.length c ∧ xs.length + 1 ≤ c ∧ c ≤ 9223372036854775807 ∧ (∀ (i : Nat) (x : α), xs[i]? = some x → ∃ u, w.cell? (a.add i) = some u ∧ r w u x) ∧ ∃ u, w.cell? (a.add xs.length) = some u ∧ rl w u
theorem TwS.rd {α : Type} {r : World → Value → α → Prop} {rl : World → Value → Prop} {w : World} {v : Value} {xs : List α} (h : TwS r rl w v xs) : RdS r w v xs := by
 obtain ⟨a, c, rfl, h1, h2, h3, _⟩ := h
 exact ⟨some a, c, rfl, by omega, h2, fun i x hx => by obtain ⟨u, hu⟩ := h3 i x hx; exact ⟨a, u, rfl, hu⟩⟩
abbrev TwI (w : World) (v : Value) (xs : List Int) : Prop := TwS (rInt .i64) (fun _ u => u = .int .i64 77) w v xs
abbrev TwII (w : World) (v : Value) (xs : List (List Int)) : Prop := TwS TwI (fun w u => RdI w u [77]) w v xs
instance : Abides TwI := ⟨fun hb ⟨a, c, h1, h2, h3, h4, u, hu, hl⟩ => ⟨a, c, h1, h2, h3, fun i x hx => by
   obtain ⟨u, hc, hr⟩ := h4 i x hx
   exact ⟨u, Below.cell_some hb hc, hr⟩, u, Below.cell_some hb hu, hl⟩⟩
instance : Abides TwII := ⟨fun hb ⟨a, c, h1, h2, h3, h4, u, hu, hl⟩ => ⟨a, c, h1, h2, h3, fun i x hx => by
   obtain ⟨u, hc, hr⟩ := h4 i x hx
   exact ⟨u, Below.cell_some hb hc, Abides.below hb hr⟩, u, Below.cell_some hb hu, Abides.below hb hl⟩⟩
theorem TwI.RdS_imp {w : World} {v : Value} {xss : List (List Int)} (h : RdS TwI w v xss) : RdII w v xss := by
 obtain ⟨A, c, h1, h2, h3, h4⟩ := h
 exact ⟨A, c, h1, h2, h3, fun i x hx => by obtain ⟨ad, u, e, hc, hr⟩ := h4 i x hx; exact ⟨ad, u, e, hc, hr.rd⟩⟩
theorem cl_rd {k : IntKind} {w : World} {S : Nat → Prop} {b t : Nat} {xs : List Int} (hp : (cl b t (ints k xs)).p S w) (hm : xs.length ≤ 9223372036854775807) : RdS (rInt k) w (.slice (some ⟨b, 0, none⟩) xs.length xs.length) xs :=
 ⟨_, xs.length, rfl, Nat.le_refl _, hm, fun i x hi => ⟨_, _, rfl, by rw [add_plain, cell_of_blk hp.2, Nat.zero_add]; simpa using ints_get k xs i x hi, rfl⟩⟩
theorem tw_of_row {w : World} {e cap n : Nat} {A : Option Addr} {xs : List Int} (h : w.ownsRow 0 e 1 (.slice A (xs.length + 1) cap) (xs.length + 1) (ints .i64 (xs ++ [77]))) : TwI w (.slice A xs.length cap) xs := by
 rcases h.2 with ⟨h1, h2⟩ | ⟨g, cap', cur, he, _, hg, h1, h2, h3, h4⟩
 · omega
 · cases he
   refine ⟨⟨g, 0, none⟩, cap, rfl, by omega, by simpa [maxLen] using h2, fun i x hx => ⟨.int .i64 x, ?_, rfl⟩, .int .i64 77, ?_, rfl⟩
   · exact h.cells (g := g) rfl i _ (ints_get _ _ i x (by rw [List.getElem?_append_left (lt_of_get hx)]; exact hx))
   · exact h.cells (g := g) rfl xs.length _ (ints_get _ _ _ _ (by simp))
theorem tw2_of_row {w : World} {e cap : Nat} {A : Option Addr} {xs : List (List Int)} {us : List Value} {u : Value} (he : Els TwI w us xs) (hl : RdI w u [77])
   (h : w.ownsRow 0 e 1 (.slice A (xs.length + 1) cap) (xs.length + 1) (us ++ [u])) : TwII w (.slice A xs.length cap) xs := by
 rcases h.2 with ⟨h1, h2⟩ | ⟨g, cap', cur, he', _, hg, h1, h2, h3, h4⟩
 · omega
 · cases he'
   refine ⟨⟨g, 0, none⟩, cap, rfl, by omega, by simpa [maxLen] using h2, fun i x hx => ?_, u, ?_, hl⟩
   · obtain ⟨u', hu', hr⟩ := he.get hx
     exact ⟨u', h.cells (g := g) rfl i _ (by rw [List.getElem?_append_left (lt_of_get hu')]; exact hu'), hr⟩
   · exact h.cells (g := g) rfl xs.length _ (by rw [← he.1]; simp)
theorem IntsSize_ {w0 : World} {A : Option Addr} {n c : Nat} : Ret Tryz.prog 22 [.slice A n c] w0 (fun v w => v = .int .i64 n ∧ Below w0.heap.size w0 w) := by
 refine ret_of_C Tryz.func22 rfl rfl rfl ?_
 have H := Loc.refl w0
 refine C_seq (C_region rfl (R_o rfl (E_assign (R_nil (C_seq (C_region rfl (R_o rfl (E_move (R_o rfl (E_len rfl ?_))))))))))
 refine R_o rfl (E_assign (R_nil (C_ret ?_)))
 with_reducible repeat (first | refine thn_ret ?_ | refine inB_ret ?_ | refine noG_ret ?_)
 exact ret_one rfl rfl ⟨rfl, H.below⟩
theorem TwinInts_ {w0 : World} {s : Value} {xs : List Int} (hs : RdI w0 s xs) (hb : xs.length ≤ 1000000) :
   Ret Tryz.prog 11 [s] w0 (fun v w => Loc w0 w [rdv v (fun w => TwI w v xs)]) := by
 refine ret_of_C Tryz.func11 rfl rfl rfl ?_
 have H := Loc.refl w0
 obtain ⟨A, c, rfl, hc1, hc2⟩ := hs.len
 refine C_seq (C_region rfl (R_o rfl (E_assign (R_nil (C_seq (C_region rfl (R_o rfl (E_move (R_o rfl (E_len rfl ?_))))))))))
 refine R_o rfl (E_add rfl rfl (by omega) ?_)
 refine R_o rfl (E_maken 0 (xs.length + 1) H rfl rfl (by omega) (by omega) (by omega) ?_)
 clear H; intro w b8 H
 refine R_o rfl (E_assign (R_nil (C_seq (C_seq (C_region rfl (R_o rfl (E_assign (R_nil (C_block (C_loop (ds := []) [0, 3, 4] (fun m_ vs w => ∃ k : Nat, ∃ v : Value, vs = [.slice A xs.length c, v, .int .i64 k] ∧ m_ = xs.length - k ∧ k ≤ xs.length ∧ (True) ∧ Loc w0 w [row 3 1 v k (ints .i64 (xs.take k))]) (m := xs.length) (by first | rfl | exact hd) ?_ ?_))))))))))
 · exact ⟨0, _, rfl, by omega, by omega, trivial, H⟩
 intro m vs ρ₀ w hd hI
 clear H
 obtain ⟨k, v, rfl, rfl, hk, hst, H⟩ := hI
 refine C_seq (C_seq (C_region rfl (R_o rfl (E_move (R_o rfl (E_move (R_o rfl (E_len rfl ?_))))))))
 refine R_o rfl (E_lss rfl rfl ?_)
 refine R_nil (C_cond (t := 12) rfl (fun hlt => ?_) (fun hlt => ?_))
 ·
  obtain ⟨x, hx⟩ := get_of (xs := xs) (k := k) (by omega)
  refine C_skip (C_seq (C_block (C_region rfl (R_o rfl (E_move (R_o rfl (E_move (R_o rfl (E_move (R_o rfl (E_idxr hs rfl rfl (by omega) (by omega) ?_)))))))))))
  refine R_o rfl (E_loadi hs H rfl hx ?_)
  refine R_o rfl (E_lit (vs := [.int .i64 x]) [.tmp 19] rfl rfl rfl rfl rfl H ?_)
  clear H; intro w b20 H
  refine R_o rfl (E_append1 (v := v) (b := b20) (u := .int .i64 x) H rfl rfl rfl (by omega) (by omega) ?_)
  clear H; intro w v21 H
  refine R_o rfl (E_assign (R_nil (C_region rfl (R_o rfl (E_move (R_o rfl (E_add rfl rfl (by omega) ?_)))))))
  refine R_o rfl (E_assign (R_nil ?_))
  rw [show ints .i64 (xs.take k) ++ [Value.int .i64 x] = ints .i64 (xs.take (k + 1)) by rw [take_step hx, ints_append]; rfl] at H
  refine ⟨hd, xs.length - (k + 1), by omega, k + 1, _, rfl, rfl, by omega, trivial, H⟩
 ·
  have hk : k = xs.length := by omega
  subst hk
  rw [List.take_length] at H
  refine C_exit ?_
  refine C_seq (C_region rfl (R_o rfl (E_move (R_o rfl (E_lit (vs := [.int .i64 77]) [.const (.int .i64 77)] rfl rfl rfl rfl rfl H ?_)))))
  clear H; intro w b23 H
  refine R_o rfl (E_append1 (v := v) (b := b23) (u := .int .i64 77) H rfl rfl rfl (by omega) (by omega) ?_)
  clear H; intro w v24 H
  obtain ⟨A24, c24, rfl, h24a, h24b, h24c⟩ := H.len (v := v24)
  refine R_o rfl (E_move (R_o rfl (E_len rfl ?_)))
  refine R_o rfl (E_slice (l := 0) (h := xs.length) rfl rfl rfl (by omega) (by omega) ?_)
  refine R_o rfl (E_assign (R_nil (C_ret ?_)))
  with_reducible repeat (first | refine thn_ret ?_ | refine inB_ret ?_ | refine noG_ret ?_)
  refine ret_one rfl hd ?_
  have e1 : (if c24 = 0 then A24 else Option.map (fun a => a.add (0 * 1)) A24) = A24 := by
    split
    · rfl
    · cases A24 with
      | none => rfl
      | some a => simp [Addr.add]
  show Loc w0 w [rdv (.slice (if c24 = 0 then A24 else Option.map (fun a => a.add (0 * 1)) A24) (xs.length - 0) (c24 - 0)) _]
  rw [e1, Nat.sub_zero, Nat.sub_zero]
  exact H.toRd _ _ fun S w' hp => tw_of_row (n := 0) (by have := hp.2; rwa [show ints .i64 xs ++ [Value.int .i64 77] = ints .i64 (xs ++ [77]) by simp [ints]] at this)
theorem TwinIntLists_ {w0 : World} {s : Value} {xs : List (List Int)} (hs : RdII w0 s xs) (hb : xs.length ≤ 1000000) (hb2 : ∀ x ∈ xs, x.length ≤ 1000000) :
   Ret Tryz.prog 25 [s] w0 (fun v w => Loc w0 w [rdv v (fun w => TwII w v xs)]) := by
 refine ret_of_C Tryz.func25 rfl rfl rfl ?_
 have H := Loc.refl w0
 obtain ⟨A, c, rfl, hc1, hc2⟩ := hs.len
 refine C_seq (C_region rfl (R_o rfl (E_assign (R_nil (C_seq (C_region rfl (R_o rfl (E_move (R_o rfl (E_len rfl ?_))))))))))
 refine R_o rfl (E_add rfl rfl (by omega) ?_)
 refine R_o rfl (E_maken 0 (xs.length + 1) H rfl rfl (by omega) (by omega) (by omega) ?_)
 clear H; intro w b8 H
 replace H := H.mkEmp.toRd undef (fun w => Els TwI w [] []) (fun _ _ _ => Els.nil _ _)
 refine R_o rfl (E_assign (R_nil (C_seq (C_seq (C_region rfl (R_o rfl (E_assign (R_nil (C_block (C_loop (ds := []) [0, 3, 4] (fun m_ vs w => ∃ k : Nat, ∃ (v : Value) (us : List Value), vs = [.slice A xs.length c, v, .int .i64 k] ∧ m_ = xs.length - k ∧ k ≤ xs.length ∧ (True) ∧ Loc w0 w [rdv undef (fun w => Els TwI w us (xs.take k)), row 22 1 v k us]) (m := xs.length) (by first | rfl | exact hd) ?_ ?_))))))))))
 · exact ⟨0, _, [], rfl, by omega, by omega, trivial, H⟩
 intro m vs ρ₀ w hd hI
 clear H
 obtain ⟨k, v, us, rfl, rfl, hk, hst, H⟩ := hI
 refine C_seq (C_seq (C_region rfl (R_o rfl (E_move (R_o rfl (E_move (R_o rfl (E_len rfl ?_))))))))
 refine R_o rfl (E_lss rfl rfl ?_)
 refine R_nil (C_cond (t := 12) rfl (fun hlt => ?_) (fun hlt => ?_))
 ·
  obtain ⟨x, hx⟩ := get_of (xs := xs) (k := k) (by omega)
  refine C_skip (C_seq (C_block (C_region rfl (R_o rfl (E_move (R_o rfl (E_move (R_o rfl (E_move (R_o rfl (E_idxr hs rfl rfl (by omega) (by omega) ?_)))))))))))
  refine R_o rfl (E_loadr hs H rfl hx ?_)
  intro u hu
  have hu := Abides.below (H.below) hu
  refine R_o rfl (E_call rfl (TwinInts_ hu (hb2 x (List.mem_of_getElem? hx))) ?_)
  rintro v1 w1 hc
  replace H := H.call1 hc; clear hc
  obtain ⟨A1, c1, rfl, _⟩ := H.read.rd.len
  replace H := H.join undef (fun w => Els TwI w (us ++ [.slice A1 x.length c1]) (xs.take k ++ [x])) (fun S1 S2 w h1 h2 => (rdv_now h2).snoc (rdv_now h1))
  rw [← take_step hx] at H
  refine R_o rfl (E_lit (vs := [.slice A1 x.length c1]) [.tmp 20] rfl rfl rfl rfl rfl H ?_)
  clear H; intro w b21 H
  refine R_o rfl (E_append1 (v := v) (b := b21) (u := .slice A1 x.length c1) H rfl rfl rfl (by omega) (by omega) ?_)
  clear H; intro w v22 H
  replace H := H.swap
  refine R_o rfl (E_assign (R_nil (C_region rfl (R_o rfl (E_move (R_o rfl (E_add rfl rfl (by omega) ?_)))))))
  refine R_o rfl (E_assign (R_nil (⟨hd, xs.length - (k + 1), by omega, k + 1, _, _, rfl, rfl, by omega, trivial, H⟩)))
 ·
  have hk : k = xs.length := by omega
  subst hk
  rw [List.take_length] at H
  refine C_exit ?_
  refine C_seq (C_region rfl (R_o rfl (E_move (R_o rfl (E_lit (vs := [.int .i64 77]) [.const (.int .i64 77)] rfl rfl rfl rfl rfl H ?_)))))
  clear H; intro w b24 H
  replace H := H.toRd (.slice (some ⟨b24, 0, none⟩) 1 1) (fun w => RdI w (.slice (some ⟨b24, 0, none⟩) 1 1) [77]) (fun S w hp => cl_rd (xs := [77]) hp (by simp))
  refine R_o rfl (E_lit (vs := [.slice (some ⟨b24, 0, none⟩) 1 1]) [.tmp 24] rfl rfl rfl rfl rfl H ?_)
  clear H; intro w b25 H
  refine R_o rfl (E_append1 (v := v) (b := b25) (u := .slice (some ⟨b24, 0, none⟩) 1 1) H rfl rfl rfl (by omega) (by omega) ?_)
  clear H; intro w v26 H
  obtain ⟨A26, c26, rfl, h26a, h26b, h26c⟩ := H.len (v := v26)
  refine R_o rfl (E_move (R_o rfl (E_len rfl ?_)))
  refine R_o rfl (E_slice (l := 0) (h := xs.length) rfl rfl rfl (by omega) (by omega) ?_)
  refine R_o rfl (E_assign (R_nil (C_ret ?_)))
  with_reducible repeat (first | refine thn_ret ?_ | refine inB_ret ?_ | refine noG_ret ?_)
  refine ret_one rfl hd ?_
  have e1 : (if c26 = 0 then A26 else Option.map (fun a => a.add (0 * 1)) A26) = A26 := by
    split
    · rfl
    · cases A26 with
      | none => rfl
      | some a => simp [Addr.add]
  show Loc w0 w [rdv (.slice (if c26 = 0 then A26 else Option.map (fun a => a.add (0 * 1)) A26) (xs.length - 0) (c26 - 0)) _]
  rw [e1, Nat.sub_zero, Nat.sub_zero]
  replace H := H.swap.join undef (fun w => RdI w (.slice (some ⟨b24, 0, none⟩) 1 1) [77] ∧ w.ownsRow 0 22 1 (.slice A26 (xs.length + 1) c26) (xs.length + 1) (us ++ [.slice (some ⟨b24, 0, none⟩) 1 1])) (fun S1 S2 w h1 h2 => ⟨rdv_now h1, h2.2⟩)
  exact H.join _ _ fun S1 S2 w' h1 h2 => tw2_of_row (rdv_now h2) (rdv_now h1).1 (rdv_now h1).2
theorem LeftInts_ {w0 : World} {t l : Value} {xs : List Int} (ht : TwI w0 t xs) (hl : RdI w0 l xs) (hb : xs.length ≤ 1000000) :
   Ret Tryz.prog 18 [t, l] w0 (fun v w => v = .bool true ∧ Below w0.heap.size w0 w) := by
 refine ret_of_C Tryz.func18 rfl rfl rfl ?_
 have H := Loc.refl w0
 have hs := ht.rd
 obtain ⟨B, d, rfl, hd1, hd2⟩ := hl.len
 obtain ⟨a, c, rfl, hc1, hc2, hel, um, hum, rfl⟩ := ht
 refine C_seq (C_region rfl (R_o rfl (E_assign (R_nil (C_seq (C_seq (C_region rfl (R_o rfl (E_move (R_o rfl (E_len rfl ?_)))))))))))
 refine R_o rfl (E_move (R_o rfl (E_len rfl ?_)))
 refine R_o rfl (E_neq rfl rfl ?_)
 refine R_o rfl (E_move (R_part (t := 12) rfl (fun h12 => ?_) (fun h12 => ?_)))
 ·
  exact absurd rfl h12
 ·
  refine R_w rfl rfl rfl (E_move ?_)
  refine R_w rfl rfl rfl (E_cap rfl ?_)
  refine R_w rfl rfl rfl (E_move ?_)
  refine R_w rfl rfl rfl (E_len rfl ?_)
  refine R_w rfl rfl rfl (E_leq rfl rfl ?_)
  refine R_o rfl (E_pick rfl ?_)
  refine R_nil (C_condb (t := 18) rfl (fun h18 => ?_) (fun h18 => ?_))
  ·
   exact absurd h18 (by simp; omega)
  ·
   refine C_skip (C_seq (C_seq (C_region rfl (R_o rfl (E_assign (R_nil (C_block (C_loop (ds := []) [0, 1, 5] (fun m_ vs w => ∃ k : Nat, vs = [.slice (some a) xs.length c, .slice B xs.length d, .int .i64 k] ∧ m_ = xs.length - k ∧ k ≤ xs.length ∧ (True) ∧ Loc w0 w []) (m := xs.length) (by first | rfl | exact hd) ?_ ?_))))))))
   · exact ⟨0, rfl, by omega, by omega, trivial, H⟩
   intro m vs ρ₀ w hd hI
   clear H
   obtain ⟨k, rfl, rfl, hk, hst, H⟩ := hI
   refine C_seq (C_seq (C_region rfl (R_o rfl (E_move (R_o rfl (E_move (R_o rfl (E_len rfl ?_))))))))
   refine R_o rfl (E_lss rfl rfl ?_)
   refine R_nil (C_cond (t := 22) rfl (fun hlt => ?_) (fun hlt => ?_))
   ·
    obtain ⟨x, hx⟩ := get_of (xs := xs) (k := k) (by omega)
    refine C_skip (C_seq (C_block (C_seq (C_drawL [] H (by kernel_rfl) (fun w H => ?_)))))
    refine D_takeT 0 rfl rfl rfl (by kernel_rfl) (fun w K Z kk => E_move kk) ?_
    refine D_takeT 1 rfl rfl rfl (by kernel_rfl) (fun w K Z kk => E_move kk) ?_
    refine D_takeT 2 rfl rfl rfl (by kernel_rfl) (fun w K Z kk => E_idxr hs rfl rfl (by omega) (by omega) kk) ?_
    refine D_take 3 rfl rfl rfl (by kernel_rfl) (by first | exact H | exact H.drop | exact H.drop.drop | exact H.drop.drop.drop | exact H.drop.drop.drop.drop) (fun w HS K Z kk => E_loadi hs HS rfl hx kk) ?_
    refine D_takeT 4 rfl rfl rfl (by kernel_rfl) (fun w K Z kk => E_move kk) ?_
    refine D_takeT 5 rfl rfl rfl (by kernel_rfl) (fun w K Z kk => E_move kk) ?_
    refine D_takeT 6 rfl rfl rfl (by kernel_rfl) (fun w K Z kk => E_idxr hl rfl rfl (by omega) (by omega) kk) ?_
    refine D_take 7 rfl rfl rfl (by kernel_rfl) (by first | exact H | exact H.drop | exact H.drop.drop | exact H.drop.drop.drop | exact H.drop.drop.drop.drop) (fun w HS K Z kk => E_loadi hl HS rfl hx kk) ?_
    refine D_takeT 8 rfl rfl rfl (by kernel_rfl) (fun w K Z kk => E_neq rfl rfl kk) ?_
    refine D_done (by kernel_rfl) ?_
    refine C_cond (t := 33) rfl (fun h33 => ?_) (fun h33 => ?_)
    ·
     exact absurd rfl h33
    ·
     refine C_skip (C_region rfl (R_o rfl (E_move (R_o rfl (E_add rfl rfl (by omega) ?_)))))
     refine R_o rfl (E_assign (R_nil (⟨hd, xs.length - (k + 1), by omega, k + 1, rfl, rfl, by omega, trivial, H⟩)))
   ·
    have hk : k = xs.length := by omega
    refine C_exit ?_
    refine C_seq (C_region rfl (R_o rfl (E_move (R_o rfl (E_move (R_o rfl (E_len rfl ?_)))))))
    refine R_o rfl (E_add rfl rfl (by omega) ?_)
    refine R_o rfl (E_slice (l := 0) (h := xs.length + 1) rfl rfl rfl (by omega) (by omega) ?_)
    refine R_o rfl (E_move (R_o rfl (E_len rfl ?_)))
    refine R_o rfl (E_idx (a := a) (len := xs.length + 1) (cap := c) (by show Value.slice _ _ _ = _; rw [if_neg (by omega)]; simp [Addr.add]) rfl (by omega) (by omega) ?_)
    refine R_o rfl (E_load_cell (v := .int .i64 77) rfl (by rw [Nat.mul_one]; exact Below.cell_some H.below hum) ?_)
    refine R_o rfl (E_assign (R_nil (C_seq (C_region rfl (R_o rfl (E_move (R_o rfl (E_eql rfl rfl ?_))))))))
    refine R_o rfl (E_assign (R_nil (C_ret ?_)))
    with_reducible repeat (first | refine thn_ret ?_ | refine inB_ret ?_ | refine noG_ret ?_)
    exact ret_one rfl hd ⟨rfl, H.below⟩
theorem LeftIntLists_ {w0 : World} {t l : Value} {xs : List (List Int)} (ht : TwII w0 t xs) (hl : RdII w0 l xs) (hb : xs.length ≤ 1000000) (hb2 : ∀ x ∈ xs, x.length ≤ 1000000) :
   Ret Tryz.prog 41 [t, l] w0 (fun v w => v = .bool true ∧ Below w0.heap.size w0 w) := by
 refine ret_of_C Tryz.func41 rfl rfl rfl ?_
 have H := Loc.refl w0
 have hs := ht.rd
 obtain ⟨B, d, rfl, hd1, hd2⟩ := hl.len
 obtain ⟨a, c, rfl, hc1, hc2, hel, um, hum, hml⟩ := ht
 obtain ⟨A2, c2, rfl, hm1, hm2⟩ := hml.len
 refine C_seq (C_region rfl (R_o rfl (E_assign (R_nil (C_seq (C_seq (C_region rfl (R_o rfl (E_move (R_o rfl (E_len rfl ?_)))))))))))
 refine R_o rfl (E_move (R_o rfl (E_len rfl ?_)))
 refine R_o rfl (E_neq rfl rfl ?_)
 refine R_o rfl (E_move (R_part (t := 12) rfl (fun h12 => ?_) (fun h12 => ?_)))
 ·
  exact absurd rfl h12
 ·
  refine R_w rfl rfl rfl (E_move ?_)
  refine R_w rfl rfl rfl (E_cap rfl ?_)
  refine R_w rfl rfl rfl (E_move ?_)
  refine R_w rfl rfl rfl (E_len rfl ?_)
  refine R_w rfl rfl rfl (E_leq rfl rfl ?_)
  refine R_o rfl (E_pick rfl ?_)
  refine R_nil (C_condb (t := 18) rfl (fun h18 => ?_) (fun h18 => ?_))
  ·
   exact absurd h18 (by simp; omega)
  ·
   refine C_skip (C_seq (C_seq (C_region rfl (R_o rfl (E_assign (R_nil (C_block (C_loop (ds := []) [0, 1, 5] (fun m_ vs w => ∃ k : Nat, vs = [.slice (some a) xs.length c, .slice B xs.length d, .int .i64 k] ∧ m_ = xs.length - k ∧ k ≤ xs.length ∧ (True) ∧ Loc w0 w []) (m := xs.length) (by first | rfl | exact hd) ?_ ?_))))))))
   · exact ⟨0, rfl, by omega, by omega, trivial, H⟩
   intro m vs ρ₀ w hd hI
   clear H
   obtain ⟨k, rfl, rfl, hk, hst, H⟩ := hI
   refine C_seq (C_seq (C_region rfl (R_o rfl (E_move (R_o rfl (E_move (R_o rfl (E_len rfl ?_))))))))
   refine R_o rfl (E_lss rfl rfl ?_)
   refine R_nil (C_cond (t := 22) rfl (fun hlt => ?_) (fun hlt => ?_))
   ·
    obtain ⟨x, hx⟩ := get_of (xs := xs) (k := k) (by omega)
    obtain ⟨u1, hcu1, hr1⟩ := hs.at hx
    obtain ⟨u2, hcu2, hr2⟩ := hl.at hx
    refine C_skip (C_seq (C_block (C_seq (C_drawL [] H (by kernel_rfl) (fun w H => ?_)))))
    refine D_takeT 0 rfl rfl rfl (by kernel_rfl) (fun w K Z kk => E_move kk) ?_
    refine D_takeT 1 rfl rfl rfl (by kernel_rfl) (fun w K Z kk => E_move kk) ?_
    refine D_takeT 2 rfl rfl rfl (by kernel_rfl) (fun w K Z kk => E_idxr hs rfl rfl (by omega) (by omega) kk) ?_
    refine D_take 3 rfl rfl rfl (by kernel_rfl) (by first | exact H | exact H.drop | exact H.drop.drop | exact H.drop.drop.drop | exact H.drop.drop.drop.drop) (fun w HS K Z kk => E_loadc hcu1 HS rfl kk) ?_
    refine D_takeT 4 rfl rfl rfl (by kernel_rfl) (fun w K Z kk => E_move kk) ?_
    refine D_takeT 5 rfl rfl rfl (by kernel_rfl) (fun w K Z kk => E_move kk) ?_
    refine D_takeT 6 rfl rfl rfl (by kernel_rfl) (fun w K Z kk => E_idxr hl rfl rfl (by omega) (by omega) kk) ?_
    refine D_take 7 rfl rfl rfl (by kernel_rfl) (by first | exact H | exact H.drop | exact H.drop.drop | exact H.drop.drop.drop | exact H.drop.drop.drop.drop) (fun w HS K Z kk => E_loadc hcu2 HS rfl kk) ?_
    refine D_act 8 rfl rfl (by kernel_rfl) (E_call rfl (LeftInts_ (Abides.below H.below hr1) (Abides.below H.below hr2) (hb2 x (List.mem_of_getElem? hx))) ?_)
    rintro _ w1 ⟨rfl, hb⟩
    replace H := H.call0 hb; clear hb
    refine ⟨fun _ _ => (by first | exact H | exact H.drop | exact H.drop.drop | exact H.drop.drop.drop | exact H.drop.drop.drop.drop), ?_⟩
    refine D_takeT 9 rfl rfl rfl (by kernel_rfl) (fun w K Z kk => E_notb rfl kk) ?_
    refine D_done (by kernel_rfl) ?_
    refine C_condb (t := 34) rfl (fun h34 => ?_) (fun h34 => ?_)
    ·
     cases h34
    ·
     refine C_skip (C_region rfl (R_o rfl (E_move (R_o rfl (E_add rfl rfl (by omega) ?_)))))
     refine R_o rfl (E_assign (R_nil (⟨hd, xs.length - (k + 1), by omega, k + 1, rfl, rfl, by omega, trivial, H⟩)))
   ·
    have hk : k = xs.length := by omega
    refine C_exit ?_
    refine C_seq (C_region rfl (R_o rfl (E_move (R_o rfl (E_move (R_o rfl (E_len rfl ?_)))))))
    refine R_o rfl (E_add rfl rfl (by omega) ?_)
    refine R_o rfl (E_slice (l := 0) (h := xs.length + 1) rfl rfl rfl (by omega) (by omega) ?_)
    refine R_o rfl (E_move (R_o rfl (E_len rfl ?_)))
    refine R_o rfl (E_idx (a := a) (len := xs.length + 1) (cap := c) (by show Value.slice _ _ _ = _; rw [if_neg (by omega)]; simp [Addr.add]) rfl (by omega) (by omega) ?_)
    refine R_o rfl (E_load_cell rfl (by rw [Nat.mul_one]; exact Below.cell_some H.below hum) ?_)
    refine R_o rfl (E_assign (R_nil (C_seq (C_region rfl (R_o rfl (E_move (R_o rfl (E_len rfl ?_))))))))
    refine R_o rfl (E_eql rfl rfl ?_)
    refine R_o rfl (E_move (R_part (t := 47) rfl (fun h47 => ?_) (fun h47 => ?_)))
    ·
     refine R_w rfl rfl rfl (E_move ?_)
     refine R_w rfl rfl rfl (E_idxr (hml.below H.below) rfl rfl (by omega) (by simp) ?_)
     refine R_w rfl rfl rfl (E_loadi hml H rfl (e := 77) rfl ?_)
     refine R_w rfl rfl rfl (E_eql rfl rfl ?_)
     refine R_o rfl (E_pick rfl ?_)
     refine R_o rfl (E_assign (R_nil (C_ret ?_)))
     with_reducible repeat (first | refine thn_ret ?_ | refine inB_ret ?_ | refine noG_ret ?_)
     exact ret_one rfl hd ⟨rfl, H.below⟩
    ·
     exact absurd rfl h47
def RdM (w : World) (v : Value) (m : Mk) : Prop := ∃ a b c, v = .agg #[a, b, c] ∧ RdI w a m.res ∧ RdII w b m.bids ∧ RdI w c m.ord
def RdO (w : World) (v : Value) (o : Oc) : Prop := ∃ a b, v = .agg #[a, b] ∧ RdI w a o.has ∧ RdI w b o.pri
def TwM (w : World) (v : Value) (m : Mk) : Prop := ∃ a b c, v = .agg #[a, b, c] ∧ TwI w a m.res ∧ TwII w b m.bids ∧ TwI w c m.ord
def TwO (w : World) (v : Value) (o : Oc) : Prop := ∃ a b, v = .agg #[a, b] ∧ TwI w a o.has ∧ TwI w b o.pri
instance : Abides RdM := ⟨fun hb ⟨a, b, c, e, h1, h2, h3⟩ => ⟨a, b, c, e, Abides.below hb h1, Abides.below hb h2, Abides.below hb h3⟩⟩
instance : Abides RdO := ⟨fun hb ⟨a, b, e, h1, h2⟩ => ⟨a, b, e, Abides.below hb h1, Abides.below hb h2⟩⟩
instance : Abides TwM := ⟨fun hb ⟨a, b, c, e, h1, h2, h3⟩ => ⟨a, b, c, e, Abides.below hb h1, Abides.below hb h2, Abides.below hb h3⟩⟩
instance : Abides TwO := ⟨fun hb ⟨a, b, e, h1, h2⟩ => ⟨a, b, e, Abides.below hb h1, Abides.below hb h2⟩⟩
theorem TwM.rd {w : World} {v : Value} {m : Mk} (h : TwM w v m) : RdM w v m := by
 obtain ⟨a, b, c, e, h1, h2, h3⟩ := h
 exact ⟨a, b, c, e, h1.rd, TwI.RdS_imp h2.rd, h3.rd⟩
theorem TwO.rd {w : World} {v : Value} {o : Oc} (h : TwO w v o) : RdO w v o := by
 obtain ⟨a, b, e, h1, h2⟩ := h
 exact ⟨a, b, e, h1.rd, h2.rd⟩
def Mk.le (m : Mk) (n : Nat) : Prop := m.res.length ≤ n ∧ m.bids.length ≤ n ∧ (∀ x ∈ m.bids, x.length ≤ n) ∧ m.ord.length ≤ n
def Oc.le (o : Oc) (n : Nat) : Prop := o.has.length ≤ n ∧ o.pri.length ≤ n
theorem LeftMarket_ {w0 : World} {t x : Value} {m : Mk} (ht : TwM w0 t m) (hx : RdM w0 x m) (hb : m.le 1000) :
   Ret Tryz.prog 16 [t, x] w0 (fun v w => v = .bool true ∧ Below w0.heap.size w0 w) := by
 refine ret_of_C Tryz.func16 rfl rfl rfl ?_
 have H := Loc.refl w0
 obtain ⟨a, b, c, rfl, ta, tb, tc⟩ := ht
 obtain ⟨a', b', c', rfl, ra, rb, rc⟩ := hx
 refine C_seq (C_region rfl (R_o rfl (E_box rfl H ?_)))
 clear H; intro w b2 H
 refine R_o rfl (E_box rfl H ?_)
 clear H; intro w b3 H
 refine R_o rfl (E_assign (R_nil (C_seq (C_region rfl (R_o rfl (E_fieldAddr rfl ?_))))))
 refine R_o rfl (E_load H rfl rfl ?_)
 refine R_o rfl (E_fieldAddr rfl ?_)
 refine R_o rfl (E_load H rfl rfl ?_)
 refine R_o rfl (E_call rfl (LeftInts_ (Abides.below H.below ta) (Abides.below H.below ra) (by have := hb.1; omega)) ?_)
 rintro _ w1 ⟨rfl, hb1⟩
 replace H := H.call0 hb1; clear hb1
 refine R_o rfl (E_move (R_w rfl rfl rfl (E_fieldAddr rfl ?_)))
 refine R_w rfl rfl rfl (E_load H rfl rfl ?_)
 refine R_w rfl rfl rfl (E_fieldAddr rfl ?_)
 refine R_w rfl rfl rfl (E_load H rfl rfl ?_)
 refine R_w rfl rfl rfl (E_call rfl (LeftIntLists_ (Abides.below H.below tb) (Abides.below H.below rb) (by have := hb.2.1; omega) (fun x hx => by have := hb.2.2.1 x hx; omega)) ?_)
 rintro _ w1 ⟨rfl, hb1⟩
 replace H := H.call0 hb1; clear hb1
 refine R_o rfl (E_pick rfl ?_)
 refine R_o rfl (E_move (R_w rfl rfl rfl (E_fieldAddr rfl ?_)))
 refine R_w rfl rfl rfl (E_load H rfl rfl ?_)
 refine R_w rfl rfl rfl (E_fieldAddr rfl ?_)
 refine R_w rfl rfl rfl (E_load H rfl rfl ?_)
 refine R_w rfl rfl rfl (E_call rfl (LeftInts_ (Abides.below H.below tc) (Abides.below H.below rc) (by have := hb.2.2.2; omega)) ?_)
 rintro _ w1 ⟨rfl, hb1⟩
 replace H := H.call0 hb1; clear hb1
 refine R_o rfl (E_pick rfl ?_)
 refine R_o rfl (E_assign (R_nil (C_ret ?_)))
 with_reducible repeat (first | refine thn_ret ?_ | refine inB_ret ?_ | refine noG_ret ?_)
 exact ret_one rfl rfl ⟨rfl, H.below⟩
theorem LeftOutcome_ {w0 : World} {t x : Value} {m : Oc} (ht : TwO w0 t m) (hx : RdO w0 x m) (hb : m.le 1000) :
   Ret Tryz.prog 17 [t, x] w0 (fun v w => v = .bool true ∧ Below w0.heap.size w0 w) := by
 refine ret_of_C Tryz.func17 rfl rfl rfl ?_
 have H := Loc.refl w0
 obtain ⟨a, b, rfl, ta, tb⟩ := ht
 obtain ⟨a', b', rfl, ra, rb⟩ := hx
 refine C_seq (C_region rfl (R_o rfl (E_box rfl H ?_)))
 clear H; intro w b2 H
 refine R_o rfl (E_box rfl H ?_)
 clear H; intro w b3 H
 refine R_o rfl (E_assign (R_nil (C_seq (C_region rfl (R_o rfl (E_fieldAddr rfl ?_))))))
 refine R_o rfl (E_load H rfl rfl ?_)
 refine R_o rfl (E_fieldAddr rfl ?_)
 refine R_o rfl (E_load H rfl rfl ?_)
 refine R_o rfl (E_call rfl (LeftInts_ (Abides.below H.below ta) (Abides.below H.below ra) (by have := hb.1; omega)) ?_)
 rintro _ w1 ⟨rfl, hb1⟩
 replace H := H.call0 hb1; clear hb1
 refine R_o rfl (E_move (R_w rfl rfl rfl (E_fieldAddr rfl ?_)))
 refine R_w rfl rfl rfl (E_load H rfl rfl ?_)
 refine R_w rfl rfl rfl (E_fieldAddr rfl ?_)
 refine R_w rfl rfl rfl (E_load H rfl rfl ?_)
 refine R_w rfl rfl rfl (E_call rfl (LeftInts_ (Abides.below H.below tb) (Abides.below H.below rb) (by have := hb.2; omega)) ?_)
 rintro _ w1 ⟨rfl, hb1⟩
 replace H := H.call0 hb1; clear hb1
 refine R_o rfl (E_pick rfl ?_)
 refine R_o rfl (E_assign (R_nil (C_ret ?_)))
 with_reducible repeat (first | refine thn_ret ?_ | refine inB_ret ?_ | refine noG_ret ?_)
 exact ret_one rfl rfl ⟨rfl, H.below⟩
theorem TwinMarket_ {w0 : World} {x : Value} {m : Mk} (hx : RdM w0 x m) (hb : m.le 1000) :
   Ret Tryz.prog 9 [x] w0 (fun v w => Loc w0 w [rdv v (fun w => TwM w v m)]) := by
 refine ret_of_C Tryz.func9 rfl rfl rfl ?_
 have H := Loc.refl w0
 obtain ⟨a, b, c, rfl, ra, rb, rc⟩ := hx
 refine C_seq (C_region rfl (R_o rfl (E_box rfl H ?_)))
 clear H; intro w b1 H
 refine R_o rfl (E_alloc H ?_)
 clear H; intro w b2 H
 refine R_nil (C_seq (C_drawL [10] H (by kernel_rfl) (fun w H => ?_)))
 refine D_takeT 0 rfl rfl rfl (by kernel_rfl) (fun w K Z kk => E_fieldAddr rfl kk) ?_
 refine D_take 1 rfl rfl rfl (by kernel_rfl) (by first | exact H | exact H.drop | exact H.drop.drop | exact H.drop.drop.drop | exact H.drop.drop.drop.drop) (fun w HS K Z kk => E_load HS rfl rfl kk) ?_
 refine D_takeT 3 rfl rfl rfl (by kernel_rfl) (fun w K Z kk => E_fieldAddr rfl kk) ?_
 refine D_take 4 rfl rfl rfl (by kernel_rfl) (by first | exact H | exact H.drop | exact H.drop.drop | exact H.drop.drop.drop | exact H.drop.drop.drop.drop) (fun w HS K Z kk => E_load HS rfl rfl kk) ?_
 refine D_takeT 6 rfl rfl rfl (by kernel_rfl) (fun w K Z kk => E_fieldAddr rfl kk) ?_
 refine D_take 7 rfl rfl rfl (by kernel_rfl) (by first | exact H | exact H.drop | exact H.drop.drop | exact H.drop.drop.drop | exact H.drop.drop.drop.drop) (fun w HS K Z kk => E_load HS rfl rfl kk) ?_
 refine D_act 2 rfl rfl (by kernel_rfl) (E_call rfl (TwinInts_ (Abides.below H.below ra) (by have := hb.1; omega)) ?_)
 rintro v1 w1 hc
 replace H := H.call1 hc; clear hc
 obtain ⟨A5, c5, rfl, _⟩ := H.read.rd.len
 refine ⟨fun _ _ => (by first | exact H | exact H.drop | exact H.drop.drop | exact H.drop.drop.drop | exact H.drop.drop.drop.drop), ?_⟩
 refine D_act 5 rfl rfl (by kernel_rfl) (E_call rfl (TwinIntLists_ (Abides.below H.below rb) (by have := hb.2.1; omega) (fun x hx => by have := hb.2.2.1 x hx; omega)) ?_)
 rintro v1 w1 hc
 replace H := H.call1 hc; clear hc
 obtain ⟨A8, c8, rfl, _⟩ := H.read.rd.len
 refine ⟨fun _ _ => (by first | exact H | exact H.drop | exact H.drop.drop | exact H.drop.drop.drop | exact H.drop.drop.drop.drop), ?_⟩
 refine D_act 8 rfl rfl (by kernel_rfl) (E_call rfl (TwinInts_ (Abides.below H.below rc) (by have := hb.2.2.2; omega)) ?_)
 rintro v1 w1 hc
 replace H := H.call1 hc; clear hc
 obtain ⟨A11, c11, rfl, _⟩ := H.read.rd.len
 refine ⟨fun _ _ => (by first | exact H | exact H.drop | exact H.drop.drop | exact H.drop.drop.drop | exact H.drop.drop.drop.drop), ?_⟩
 refine D_takeT 9 rfl rfl rfl (by kernel_rfl) (fun w K Z kk => E_build (cs := [.slice A5 m.res.length c5, .slice A8 m.bids.length c8, .slice A11 m.ord.length c11]) rfl kk) ?_
 refine D_actn 10 rfl (by kernel_rfl) (E_storeall (vs := [.slice A5 m.res.length c5, .slice A8 m.bids.length c8, .slice A11 m.ord.length c11]) H rfl rfl rfl (by rfl) (by rfl) ?_)
 clear H; intro w H
 refine ⟨fun h => Bool.noConfusion (h : true = false), ?_⟩
 refine D_done (by kernel_rfl) ?_
 refine C_ret ?_
 with_reducible repeat (first | refine thn_ret ?_ | refine inB_ret ?_ | refine noG_ret ?_)
 refine ret_list (rs := [.cell 2 25]) (vs := [.agg #[.slice A5 m.res.length c5, .slice A8 m.bids.length c8, .slice A11 m.ord.length c11]]) rfl rfl ⟨res_cellw H rfl rfl, trivial⟩ ?_
 show Loc w0 w [rdv (.agg #[.slice A5 m.res.length c5, .slice A8 m.bids.length c8, .slice A11 m.ord.length c11]) _]
 replace H := H.drop.join undef (fun w => TwII w (.slice A8 m.bids.length c8) m.bids ∧ TwI w (.slice A11 m.ord.length c11) m.ord) fun S1 S2 w h1 h2 => ⟨rdv_now h2, rdv_now h1⟩
 exact (H.join _ (fun w => TwM w (.agg #[.slice A5 m.res.length c5, .slice A8 m.bids.length c8, .slice A11 m.ord.length c11]) m) fun S1 S2 w h1 h2 => ⟨_, _, _, rfl, rdv_now h2, (rdv_now h1).1, (rdv_now h1).2⟩).fst
theorem TwinOutcome_ {w0 : World} {x : Value} {m : Oc} (hx : RdO w0 x m) (hb : m.le 1000) :
   Ret Tryz.prog 10 [x] w0 (fun v w => Loc w0 w [rdv v (fun w => TwO w v m)]) := by
 refine ret_of_C Tryz.func10 rfl rfl rfl ?_
 have H := Loc.refl w0
 obtain ⟨a, b, rfl, ra, rb⟩ := hx
 refine C_seq (C_region rfl (R_o rfl (E_box rfl H ?_)))
 clear H; intro w b1 H
 refine R_o rfl (E_alloc H ?_)
 clear H; intro w b2 H
 refine R_nil (C_seq (C_drawL [7] H (by kernel_rfl) (fun w H => ?_)))
 refine D_takeT 0 rfl rfl rfl (by kernel_rfl) (fun w K Z kk => E_fieldAddr rfl kk) ?_
 refine D_take 1 rfl rfl rfl (by kernel_rfl) (by first | exact H | exact H.drop | exact H.drop.drop | exact H.drop.drop.drop | exact H.drop.drop.drop.drop) (fun w HS K Z kk => E_load HS rfl rfl kk) ?_
 refine D_takeT 3 rfl rfl rfl (by kernel_rfl) (fun w K Z kk => E_fieldAddr rfl kk) ?_
 refine D_take 4 rfl rfl rfl (by kernel_rfl) (by first | exact H | exact H.drop | exact H.drop.drop | exact H.drop.drop.drop | exact H.drop.drop.drop.drop) (fun w HS K Z kk => E_load HS rfl rfl kk) ?_
 refine D_act 2 rfl rfl (by kernel_rfl) (E_call rfl (TwinInts_ (Abides.below H.below ra) (by have := hb.1; omega)) ?_)
 rintro v1 w1 hc
 replace H := H.call1 hc; clear hc
 obtain ⟨A5, c5, rfl, _⟩ := H.read.rd.len
 refine ⟨fun _ _ => (by first | exact H | exact H.drop | exact H.drop.drop | exact H.drop.drop.drop | exact H.drop.drop.drop.drop), ?_⟩
 refine D_act 5 rfl rfl (by kernel_rfl) (E_call rfl (TwinInts_ (Abides.below H.below rb) (by have := hb.2; omega)) ?_)
 rintro v1 w1 hc
 replace H := H.call1 hc; clear hc
 obtain ⟨A8, c8, rfl, _⟩ := H.read.rd.len
 refine ⟨fun _ _ => (by first | exact H | exact H.drop | exact H.drop.drop | exact H.drop.drop.drop | exact H.drop.drop.drop.drop), ?_⟩
 refine D_takeT 6 rfl rfl rfl (by kernel_rfl) (fun w K Z kk => E_build (cs := [.slice A5 m.has.length c5, .slice A8 m.pri.length c8]) rfl kk) ?_
 refine D_actn 7 rfl (by kernel_rfl) (E_storeall (vs := [.slice A5 m.has.length c5, .slice A8 m.pri.length c8]) H rfl rfl rfl (by rfl) (by rfl) ?_)
 clear H; intro w H
 refine ⟨fun h => Bool.noConfusion (h : true = false), ?_⟩
 refine D_done (by kernel_rfl) ?_
 refine C_ret ?_
 with_reducible repeat (first | refine thn_ret ?_ | refine inB_ret ?_ | refine noG_ret ?_)
 refine ret_list (rs := [.cell 2 27]) (vs := [.agg #[.slice A5 m.has.length c5, .slice A8 m.pri.length c8]]) rfl rfl ⟨res_cellw H rfl rfl, trivial⟩ ?_
 show Loc w0 w [rdv (.agg #[.slice A5 m.has.length c5, .slice A8 m.pri.length c8]) _]
 exact (H.drop.join _ (fun w => TwO w (.agg #[.slice A5 m.has.length c5, .slice A8 m.pri.length c8]) m) fun S1 S2 w h1 h2 => ⟨_, _, rfl, rdv_now h2, rdv_now h1⟩).fst
theorem IntListsSize_ {w0 : World} {l : Value} {xs : List (List Int)} (hl : RdII w0 l xs) (hb : xs.length ≤ 1048576) (hb2 : ∀ x ∈ xs, x.length ≤ 1048576) :
   Ret Tryz.prog 23 [l] w0 (fun v w => ∃ s : Int, v = .int .i64 s ∧ (xs.length : Int) ≤ s ∧ s ≤ 4000000 ∧ (s ≤ 1000 → ∀ x ∈ xs, x.length ≤ 1000) ∧ Below w0.heap.size w0 w) := by
 refine ret_of_C Tryz.func23 rfl rfl rfl ?_
 have H := Loc.refl w0
 obtain ⟨A, c, rfl, hc1, hc2⟩ := hl.len
 refine C_seq (C_region rfl (R_o rfl (E_assign (R_nil (C_seq (C_region rfl (R_o rfl (E_move (R_o rfl (E_len rfl ?_))))))))))
 refine R_o rfl (E_assign (R_nil (C_seq (C_seq (C_region rfl (R_o rfl (E_assign (R_nil (C_block (C_loop (ds := []) [0, 3, 4] (fun m_ vs w => ∃ k : Nat, ∃ n : Int, vs = [.slice A xs.length c, .int .i64 n, .int .i64 k] ∧ m_ = xs.length - k ∧ k ≤ xs.length ∧ ((xs.length : Int) ≤ n ∧ n ≤ 4000000 ∧ ∀ j (y : List Int), j < k → xs[j]? = some y → (y.length : Int) ≤ n) ∧ Loc w0 w []) (m := xs.length) (by first | rfl | exact hd) ?_ ?_))))))))))
 · exact ⟨0, _, rfl, by omega, by omega, ⟨by omega, by omega, fun j y hj => by omega⟩, H⟩
 intro m vs ρ₀ w hd hI
 clear H
 obtain ⟨k, n, rfl, rfl, hk, hst, H⟩ := hI
 refine C_seq (C_seq (C_region rfl (R_o rfl (E_move (R_o rfl (E_move (R_o rfl (E_len rfl ?_))))))))
 refine R_o rfl (E_lss rfl rfl ?_)
 refine R_o rfl (E_move (R_part (t := 11) rfl (fun h11 => ?_) (fun h11 => ?_)))
 ·
  obtain ⟨x, hx⟩ := get_of (xs := xs) (k := k) (by omega)
  have hbx := hb2 x (List.mem_of_getElem? hx)
  refine R_w rfl rfl rfl (E_move ?_)
  refine R_w rfl rfl rfl (E_leq rfl rfl ?_)
  refine R_o rfl (E_pick rfl ?_)
  refine R_nil (C_condb (t := 14) rfl (fun h14 => ?_) (fun h14 => ?_))
  ·
   have h14 : n ≤ 1048576 := by simpa using h14
   refine C_skip (C_seq (C_block (C_region rfl (R_o rfl (E_move (R_o rfl (E_move (R_o rfl (E_move (R_o rfl (E_idxr hl rfl rfl (by omega) (by omega) ?_)))))))))))
   refine R_o rfl (E_loadr hl H rfl hx ?_)
   intro u hu
   obtain ⟨A1, c1, rfl, _⟩ := hu.len
   refine R_o rfl (E_call rfl (IntsSize_) ?_)
   rintro _ w1 ⟨rfl, hb⟩
   replace H := H.call0 hb; clear hb
   refine R_o rfl (E_add rfl rfl (by omega) ?_)
   refine R_o rfl (E_assign (R_nil (C_region rfl (R_o rfl (E_move (R_o rfl (E_add rfl rfl (by omega) ?_)))))))
   refine R_o rfl (E_assign (R_nil (⟨hd, xs.length - (k + 1), by omega, k + 1, _, rfl, rfl, by omega, ⟨by omega, by have := hb2 x (List.mem_of_getElem? hx); omega, fun j y hj hy => ?_⟩, H⟩)))
   by_cases e : j = k
   · subst e; rw [hx] at hy; cases hy; omega
   · have := hst.2.2 j y (by omega) hy; omega--
  ·
   refine C_exit ?_
   refine C_seq (C_region rfl (R_o rfl (E_move (R_o rfl (E_assign (R_nil (C_ret ?_)))))))
   with_reducible repeat (first | refine thn_ret ?_ | refine inB_ret ?_ | refine noG_ret ?_)
   refine ret_one rfl hd ⟨n, rfl, hst.1, hst.2.1, fun hle x hx => ?_, H.below⟩
   obtain ⟨j, hj, rfl⟩ := List.getElem_of_mem hx
   have hjk : j < k := by
     first
       | omega
       | (have : ¬ (n ≤ 1048576) := by simpa using h14
          omega)
   have := hst.2.2 j _ hjk (List.getElem?_eq_getElem hj)
   omega
 ·
  refine R_p rfl rfl rfl ?_
  refine R_p rfl rfl rfl ?_
  refine R_o rfl (E_pick rfl ?_)
  refine R_nil (C_false (t := 14) rfl ?_)
  refine C_exit ?_
  refine C_seq (C_region rfl (R_o rfl (E_move (R_o rfl (E_assign (R_nil (C_ret ?_)))))))
  with_reducible repeat (first | refine thn_ret ?_ | refine inB_ret ?_ | refine noG_ret ?_)
  refine ret_one rfl hd ⟨n, rfl, hst.1, hst.2.1, fun hle x hx => ?_, H.below⟩
  obtain ⟨j, hj, rfl⟩ := List.getElem_of_mem hx
  have hjk : j < k := by
    first
      | omega
      | (have : ¬ (n ≤ 1048576) := by simpa using h14
         omega)
  have := hst.2.2 j _ hjk (List.getElem?_eq_getElem hj)
  omega
theorem MarketSize_ {w0 : World} {x : Value} {m : Mk} (hx : RdM w0 x m) (hb : m.le 1048576) :
   Ret Tryz.prog 7 [x] w0 (fun v w => ∃ s : Int, v = .int .i64 s ∧ (s ≤ 1000 → m.le 1000) ∧ Below w0.heap.size w0 w) := by
 refine ret_of_C Tryz.func7 rfl rfl rfl ?_
 have H := Loc.refl w0
 obtain ⟨a, b, c, rfl, ra, rb, rc⟩ := hx
 obtain ⟨A1, c1, rfl, _⟩ := ra.len
 obtain ⟨A3, c3, rfl, _⟩ := rc.len
 obtain ⟨hb1, hb2, hb3, hb4⟩ := hb
 refine C_seq (C_region rfl (R_o rfl (E_box rfl H ?_)))
 clear H; intro w b1 H
 refine R_o rfl (E_assign (R_nil (C_seq (C_region rfl (R_o rfl (E_assign (R_nil (C_seq (C_seq (C_region rfl (R_o rfl (E_move (R_o rfl (E_leq rfl rfl ?_))))))))))))))
 refine R_nil (C_cond (t := 5) rfl (fun h5 => ?_) (fun h5 => ?_))
 ·
  refine C_region rfl (R_o rfl (E_move (R_o rfl (E_fieldAddr rfl ?_))))
  refine R_o rfl (E_load H rfl rfl ?_)
  refine R_o rfl (E_call rfl (IntsSize_) ?_)
  rintro _ w1 ⟨rfl, hb⟩
  replace H := H.call0 hb; clear hb
  refine R_o rfl (E_add rfl rfl (by omega) ?_)
  refine R_o rfl (E_assign (R_nil (C_seq (C_seq (C_region rfl (R_o rfl (E_move (R_o rfl (E_leq rfl rfl ?_)))))))))
  refine R_nil (C_cond (t := 12) rfl (fun h12 => ?_) (fun h12 => ?_))
  ·
   refine C_region rfl (R_o rfl (E_move (R_o rfl (E_fieldAddr rfl ?_))))
   refine R_o rfl (E_load H rfl rfl ?_)
   refine R_o rfl (E_call rfl (IntListsSize_ (Abides.below H.below rb) hb2 hb3) ?_)
   rintro _ w1 ⟨s, rfl, hs1, hs2, hs3, hb⟩
   replace H := H.call0 hb; clear hb
   refine R_o rfl (E_add rfl rfl (by omega) ?_)
   refine R_o rfl (E_assign (R_nil (C_seq (C_seq (C_region rfl (R_o rfl (E_move (R_o rfl (E_leq rfl rfl ?_)))))))))
   refine R_nil (C_cond (t := 19) rfl (fun h19 => ?_) (fun h19 => ?_))
   ·
    refine C_region rfl (R_o rfl (E_move (R_o rfl (E_fieldAddr rfl ?_))))
    refine R_o rfl (E_load H rfl rfl ?_)
    refine R_o rfl (E_call rfl (IntsSize_) ?_)
    rintro _ w1 ⟨rfl, hb⟩
    replace H := H.call0 hb; clear hb
    refine R_o rfl (E_add rfl rfl (by omega) ?_)
    refine R_o rfl (E_assign (R_nil (C_seq (C_region rfl (R_o rfl (E_move (R_o rfl (E_assign (R_nil (C_ret ?_))))))))))
    with_reducible repeat (first | refine thn_ret ?_ | refine inB_ret ?_ | refine noG_ret ?_)
    exact ret_one rfl rfl ⟨_, rfl, fun h => by first | (exact ⟨by omega, by omega, hs3 (by omega), by omega⟩) | (exfalso; simp at h; omega) | (exfalso; revert h; show ¬ (_ ≤ (1000 : Int)); omega), H.below⟩
   ·
    refine C_skip (C_seq (C_region rfl (R_o rfl (E_move (R_o rfl (E_assign (R_nil (C_ret ?_))))))))
    with_reducible repeat (first | refine thn_ret ?_ | refine inB_ret ?_ | refine noG_ret ?_)
    exact ret_one rfl rfl ⟨_, rfl, fun h => by first | (exact ⟨by omega, by omega, hs3 (by omega), by omega⟩) | (exfalso; simp at h; omega) | (exfalso; revert h; show ¬ (_ ≤ (1000 : Int)); omega), H.below⟩
  ·
   skip
   refine C_skip (C_seq (C_seq (C_region rfl (R_o rfl (E_move (R_o rfl (E_leq rfl rfl ?_)))))))
   refine R_nil (C_cond (t := 19) rfl (fun h19 => ?_) (fun h19 => ?_))
   ·
    refine C_region rfl (R_o rfl (E_move (R_o rfl (E_fieldAddr rfl ?_))))
    refine R_o rfl (E_load H rfl rfl ?_)
    refine R_o rfl (E_call rfl (IntsSize_) ?_)
    rintro _ w1 ⟨rfl, hb⟩
    replace H := H.call0 hb; clear hb
    refine R_o rfl (E_add rfl rfl (by omega) ?_)
    refine R_o rfl (E_assign (R_nil (C_seq (C_region rfl (R_o rfl (E_move (R_o rfl (E_assign (R_nil (C_ret ?_))))))))))
    with_reducible repeat (first | refine thn_ret ?_ | refine inB_ret ?_ | refine noG_ret ?_)
    exact ret_one rfl rfl ⟨_, rfl, fun h => by first | (exact ⟨by omega, by omega, hs3 (by omega), by omega⟩) | (exfalso; simp at h; omega) | (exfalso; revert h; show ¬ (_ ≤ (1000 : Int)); omega), H.below⟩
   ·
    refine C_skip (C_seq (C_region rfl (R_o rfl (E_move (R_o rfl (E_assign (R_nil (C_ret ?_))))))))
    with_reducible repeat (first | refine thn_ret ?_ | refine inB_ret ?_ | refine noG_ret ?_)
    exact ret_one rfl rfl ⟨_, rfl, fun h => by first | (exact ⟨by omega, by omega, hs3 (by omega), by omega⟩) | (exfalso; simp at h; omega) | (exfalso; revert h; show ¬ (_ ≤ (1000 : Int)); omega), H.below⟩
 ·
  exact absurd (by omega) h5
end Go.Sl
