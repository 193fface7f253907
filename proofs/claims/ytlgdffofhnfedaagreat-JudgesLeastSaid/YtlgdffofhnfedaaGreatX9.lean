/- Matchings that gain the most, row by row of a list; the first one by an order. No program in sight. firsts. -/
import Derived.Test.YtlgdffofhnfedaaGreatW
import Derived.Test.YtlgdffofhnfedaaGreatX8
set_option linter.unusedVariables false
set_option linter.unusedSimpArgs false
namespace Go.Sl
def optLH (a : Nat → Nat → Int) (r : (Nat → Bool) → Int) (i : Nat) (F : Nat → Bool) : Nat → Option Int := fun k => if F k = true ∧ 0 ≤ a i k then some (r (no F k) + a i k) else none
def optL (a : Nat → Nat → Int) (m : Nat) : List Nat → (Nat → Bool) → Int
  | [], _ => 0
  | i :: L, F => fm (optL a m L F) (optLH a (optL a m L) i F) m
theorem optL_cons (a : Nat → Nat → Int) (m i : Nat) (L : List Nat) (F : Nat → Bool) : optL a m (i :: L) F = fm (optL a m L F) (optLH a (optL a m L) i F) m := rfl
theorem optLH_some {a : Nat → Nat → Int} {r : (Nat → Bool) → Int} {i k : Nat} {F : Nat → Bool} {v : Int} (h : optLH a r i F k = some v) : F k = true ∧ 0 ≤ a i k ∧ v = r (no F k) + a i k := by
  unfold optLH at h
  split at h
  · rename_i hc; cases h; exact ⟨hc.1, hc.2, rfl⟩
  · cases h
theorem optLH_of {a : Nat → Nat → Int} {r : (Nat → Bool) → Int} {i k : Nat} {F : Nat → Bool} (h1 : F k = true) (h2 : 0 ≤ a i k) : optLH a r i F k = some (r (no F k) + a i k) := by
  unfold optLH; rw [if_pos ⟨h1, h2⟩]
theorem optLH_none {a : Nat → Nat → Int} {r : (Nat → Bool) → Int} {i k : Nat} {F : Nat → Bool} (h : ¬ (F k = true ∧ 0 ≤ a i k)) : optLH a r i F k = none := by
  unfold optLH; rw [if_neg h]
theorem optL_congr {a : Nat → Nat → Int} {m : Nat} : ∀ {L : List Nat} {F G : Nat → Bool}, (∀ k, k < m → F k = G k) → optL a m L F = optL a m L G
  | [], _, _, _ => rfl
  | i :: L, F, G, h => by
    rw [optL_cons, optL_cons, optL_congr h]
    refine fm_congr fun k hk => ?_
    unfold optLH
    rw [h k hk, optL_congr (F := no F k) (G := no G k) fun j hj => by unfold no; rw [h j hj]]
theorem optL_nonneg (a : Nat → Nat → Int) (m : Nat) : ∀ (L : List Nat) (F : Nat → Bool), 0 ≤ optL a m L F
  | [], _ => Int.le_refl _
  | i :: L, F => Int.le_trans (optL_nonneg a m L F) (fm_base _ _ _)
theorem optL_bound {a : Nat → Nat → Int} {m : Nat} (ha : ∀ i k, a i k ≤ 1000000) : ∀ (L : List Nat) (F : Nat → Bool), optL a m L F ≤ 1000000 * L.length
  | [], _ => by simp [optL]
  | i :: L, F => by
    rw [optL_cons]
    have ih := optL_bound (m := m) ha L
    refine fm_le (by have := ih F; simp only [List.length_cons]; omega) fun k v hk hv => ?_
    obtain ⟨h1, h2, rfl⟩ := optLH_some hv
    have := ih (no F k)
    have := ha i k
    simp only [List.length_cons]; omega
theorem no_comm (F : Nat → Bool) (k l : Nat) : no (no F k) l = no (no F l) k := by
  funext j; unfold no; cases F j <;> cases (j == k) <;> cases (j == l) <;> rfl
theorem optL_swap_le {a : Nat → Nat → Int} {m i j : Nat} {L : List Nat} {F : Nat → Bool} : optL a m (i :: j :: L) F ≤ optL a m (j :: i :: L) F := by
  have base : ∀ (i : Nat) (F : Nat → Bool), optL a m L F ≤ optL a m (i :: L) F := fun i F => fm_base _ _ _
  have one : ∀ (i k : Nat) (L : List Nat) (F : Nat → Bool), k < m → F k = true → 0 ≤ a i k → optL a m L (no F k) + a i k ≤ optL a m (i :: L) F := fun i k L F hk h1 h2 => fm_ge hk (optLH_of h1 h2)
  rw [optL_cons a m i]
  refine fm_le ?_ fun k v hk hv => ?_
  · rw [optL_cons a m j L]
    refine fm_le (Int.le_trans (base i F) (fm_base _ _ _)) fun k v hk hv => ?_
    obtain ⟨h1, h2, rfl⟩ := optLH_some hv
    have := one j k (i :: L) F hk h1 h2
    have := base i (no F k)
    omega
  · obtain ⟨h1, h2, rfl⟩ := optLH_some hv
    rcases fm_mem (optL a m L (no F k)) (optLH a (optL a m L) j (no F k)) m with e | ⟨l, hl, e⟩
    · have e' : optL a m (j :: L) (no F k) = optL a m L (no F k) := e
      rw [e']
      have := one i k L F hk h1 h2
      have : optL a m (i :: L) F ≤ optL a m (j :: i :: L) F := fm_base _ _ _
      omega
    · obtain ⟨g1, g2, e2⟩ := optLH_some e
      have e' : optL a m (j :: L) (no F k) = optL a m L (no (no F k) l) + a j l := e2
      rw [e']
      have hFl : F l = true ∧ ¬ l = k := by unfold no at g1; simpa using g1
      have h3 := one j l (i :: L) F hl hFl.1 g2
      have hFk : no F l k = true := by unfold no; simp [h1, Ne.symm hFl.2]
      have h4 := one i k L (no F l) hk hFk h2
      rw [no_comm F k l]
      omega
theorem optL_perm {a : Nat → Nat → Int} {m : Nat} {L L' : List Nat} (h : L.Perm L') : ∀ F, optL a m L F = optL a m L' F := by
  induction h with
  | nil => intro F; rfl
  | cons i _ ih =>
    intro F
    rw [optL_cons, optL_cons, ih F]
    refine fm_congr fun k hk => ?_
    unfold optLH
    rw [ih]
  | swap i j L => intro F; exact Int.le_antisymm optL_swap_le optL_swap_le
  | trans _ _ ih1 ih2 => intro F; rw [ih1, ih2]
theorem fm_none {base : Int} {h : Nat → Option Int} : ∀ {n : Nat}, (∀ k, k < n → h k = none) → fm base h n = base
  | 0, _ => rfl
  | n + 1, e => by unfold fm; rw [e n (by omega)]; exact fm_none fun k hk => e k (by omega)
theorem optL_idle {a : Nat → Nat → Int} {m : Nat} {F : Nat → Bool} : ∀ (D L : List Nat), (∀ i ∈ D, ∀ k, k < m → ¬ 0 ≤ a i k) → optL a m (D ++ L) F = optL a m L F
  | [], L, _ => rfl
  | i :: D, L, h => by
    rw [List.cons_append, optL_cons, fm_none fun k hk => optLH_none fun hc => h i List.mem_cons_self k hk hc.2]
    exact optL_idle D L fun j hj => h j (List.mem_cons_of_mem _ hj)
theorem optL_mask {a a' : Nat → Nat → Int} {m : Nat} : ∀ {L : List Nat} {F F' : Nat → Bool}, (∀ i ∈ L, ∀ k, k < m → ((F' k = true ∧ 0 ≤ a' i k) ↔ (F k = true ∧ 0 ≤ a i k))) → (∀ i ∈ L, ∀ k, k < m → F k = true → a' i k = a i k ∨ ¬ 0 ≤ a i k) →
    optL a' m L F' = optL a m L F
  | [], _, _, _, _ => rfl
  | i :: L, F, F', h, e => by
    have h2 : ∀ F G : Nat → Bool, True := fun _ _ => trivial
    rw [optL_cons, optL_cons, optL_mask (fun j hj => h j (List.mem_cons_of_mem _ hj)) (fun j hj => e j (List.mem_cons_of_mem _ hj))]
    refine fm_congr fun k hk => ?_
    by_cases hc : F k = true ∧ 0 ≤ a i k
    · have hc' := (h i List.mem_cons_self k hk).2 hc
      rw [optLH_of hc.1 hc.2, optLH_of hc'.1 hc'.2]
      have ev : a' i k = a i k := (e i List.mem_cons_self k hk hc.1).resolve_right fun hn => hn hc.2
      rw [ev, optL_mask (F := no F k) (F' := no F' k) (fun j hj l hl => ?_) (fun j hj l hl hF => e j (List.mem_cons_of_mem _ hj) l hl (by unfold no at hF; simp at hF; exact hF.1))]
      have := h j (List.mem_cons_of_mem _ hj) l hl
      unfold no
      by_cases hlk : l = k
      · subst hlk; simp
      · simp only [Bool.and_eq_true, Bool.not_eq_true', beq_eq_false_iff_ne, ne_eq, hlk, not_false_eq_true, and_true]; exact this
    · rw [optLH_none hc, optLH_none fun hc' => hc ((h i List.mem_cons_self k hk).1 hc')]
theorem optB_eq_optL (a : Nat → Nat → Int) (m : Nat) : ∀ (n : Nat) (F : Nat → Bool), optB a m n F = optL a m (List.range n).reverse F
  | 0, F => rfl
  | n + 1, F => by
    rw [List.range_succ, List.reverse_append, List.reverse_cons, List.reverse_nil, List.nil_append, List.singleton_append, optL_cons, optB_succ, optB_eq_optL a m n F]
    refine fm_congr fun k hk => ?_
    unfold optH optLH
    rw [optB_eq_optL a m n]
def isFirst (a : Nat → Nat → Int) (m : Nat) (rest : List Nat) (who : Nat) (F : Nat → Bool) (want : Int) (k : Nat) : Prop := 0 ≤ a who k ∧ F k = true ∧ a who k + optL a m rest (no F k) = want
instance (a : Nat → Nat → Int) (m : Nat) (rest : List Nat) (who : Nat) (F : Nat → Bool) (want : Int) (k : Nat) : Decidable (isFirst a m rest who F want k) := by unfold isFirst; infer_instance
def findK (m : Nat) (p : Nat → Bool) : Option Nat := (List.range m).find? p
theorem findK_some {m k : Nat} {p : Nat → Bool} (hk : k < m) (hp : p k = true) (hn : ∀ j, j < k → p j = false) : findK m p = some k := by
  unfold findK
  rw [List.find?_range_eq_some]
  exact ⟨hp, by simpa using hk, fun j hj => by simp [hn j hj]⟩
theorem findK_none {m : Nat} {p : Nat → Bool} (hn : ∀ j, j < m → p j = false) : findK m p = none := by
  unfold findK
  rw [List.find?_eq_none]
  intro x hx
  have := hn x (by simpa using hx)
  simp [this]
structure FS where
  F : Nat → Bool
  want : Int
  has : Nat → Int
def firstStep (a : Nat → Nat → Int) (m : Nat) (rest : List Nat) (who : Nat) (s : FS) : FS :=
  match findK m (fun k => decide (isFirst a m rest who s.F s.want k)) with
  | some k => ⟨no s.F k, s.want - a who k, upd s.has who k⟩
  | none => ⟨s.F, s.want, upd s.has who (-1)⟩
def firstS (a : Nat → Nat → Int) (m : Nat) : List Nat → FS → FS
  | [], s => s
  | who :: rest, s => firstS a m rest (firstStep a m rest who s)
def first0 (g : List (List Int)) (items : Nat) : FS := ⟨fun _ => true, bestV g items, fun _ => -1⟩
def firstAt (g : List (List Int)) (items : Nat) (o : List Nat) : Nat → FS
  | 0 => first0 g items
  | d + 1 => firstStep (gv g) items (o.drop (d + 1)) (o.getD d 0) (firstAt g items o d)
def firstV (g : List (List Int)) (items : Nat) (o : List Nat) : List Int := tab g.length (firstAt g items o o.length).has
end Go.Sl
set_option linter.unusedVariables false
set_option linter.unusedSimpArgs false
set_option maxRecDepth 10000
set_option maxHeartbeats 2000000
namespace Go.Sl
open Go.RowKit
open Go.Proofs
def ordN (xs : List Int) : List Nat := xs.map Int.toNat
theorem ordN_perm {xs : List Int} {n : Nat} (h : okOrd xs n) : (ordN xs).Perm (List.range n) := by
 rw [List.perm_iff_count]
 intro a
 have e : (ordN xs).count a = xs.count (a : Int) := by
   unfold ordN
   rw [List.count_eq_countP, List.countP_map, List.count_eq_countP]
   refine List.countP_congr fun x hx => ?_
   have := h.1 x hx
   simp only [Function.comp_apply, beq_iff_eq]
   omega
 rw [e]
 by_cases ha : a < n
 · rw [h.2 a ha, show (List.range n).count a = 1 from Nat.le_antisymm (List.nodup_iff_count.1 List.nodup_range a) (List.count_pos_iff.2 (by simpa using ha))]
 · rw [List.count_eq_zero.2 (fun hm => by have := h.1 _ hm; omega), List.count_eq_zero.2 (by simpa using ha)]
theorem ordN_get {xs : List Int} {d : Nat} {x : Int} (hx : xs[d]? = some x) : (ordN xs)[d]? = some x.toNat := by simp [ordN, hx]
theorem ordN_drop {xs : List Int} {d : Nat} {x : Int} (hx : xs[d]? = some x) : (ordN xs).drop d = x.toNat :: (ordN xs).drop (d + 1) := by
 have h := ordN_get hx
 have hl := lt_of_get h
 rw [List.drop_eq_getElem_cons hl]
 congr 1
 have := List.getElem?_eq_getElem hl
 rw [h] at this
 exact (Option.some.inj this).symm
theorem best_ordN {g : List (List Int)} {items : Nat} {xs : List Int} (h : okOrd xs g.length) : bestV g items = optL (gv g) items (ordN xs) (fun _ => true) := by
 unfold bestV
 rw [optB_eq_optL]
 exact optL_perm ((List.reverse_perm _).trans (ordN_perm h).symm) _
def tv (g : List (List Int)) (items : Nat) (xs : List Int) (d q : Nat) : Int := optL (gv g) items ((ordN xs).drop d) (fun k => !q.testBit k)
theorem tv_step {g : List (List Int)} {items : Nat} {xs : List Int} {d q : Nat} {x : Int} (hx : xs[d]? = some x) : tv g items xs d q = fm (tv g items xs (d + 1) q) (optLH (gv g) (optL (gv g) items ((ordN xs).drop (d + 1))) x.toNat (fun k => !q.testBit k)) items := by
 unfold tv
 rw [ordN_drop hx, optL_cons]
theorem tb_or (q k : Nat) : (fun j => !(q ||| 2 ^ k).testBit j) = no (fun j => !q.testBit j) k := by
 funext j
 unfold no
 rw [Nat.testBit_or, Nat.testBit_two_pow]
 by_cases e : k = j
 · subst e; simp
 · have : (j == k) = false := by simp; omega
   simp [e, this]
theorem or_lt {q k n : Nat} (h : q < 2 ^ n) (hk : k < n) : q ||| 2 ^ k < 2 ^ n := Nat.or_lt_two_pow h (Nat.pow_lt_pow_right (by omega) hk)
theorem bit0_iff (q i : Nat) : ((q / 2 ^ i &&& 1 : Nat) : Int) = 0 ↔ (!q.testBit i) = true := by
 rw [Nat.and_one_is_mod, Nat.testBit_eq_decide_div_mod_eq, Bool.not_eq_true', decide_eq_false_iff_not]
 omega
def TabTo (g : List (List Int)) (items : Nat) (xs : List Int) (f : Nat → Int) (d : Nat) : Prop := ∀ d' q, d ≤ d' → d' ≤ xs.length → q < 2 ^ items → f (d' * 256 + q) = tv g items xs d' q
theorem TabTo.upd {g : List (List Int)} {items : Nat} {xs : List Int} {f : Nat → Int} {e q : Nat} {v : Int} (h : TabTo g items xs f (e + 1)) (hq : q < 256) : TabTo g items xs (Go.Sl.upd f (e * 256 + q) v) (e + 1) := fun d' q' h1 h2 h3 => by
 unfold Go.Sl.upd
 rw [if_neg (by omega)]
 exact h d' q' h1 h2 h3
def QTo (g : List (List Int)) (items : Nat) (xs : List Int) (f : Nat → Int) (e q : Nat) : Prop := ∀ q2, q2 < q → f (e * 256 + q2) = tv g items xs e q2
theorem QTo.upd {g : List (List Int)} {items : Nat} {xs : List Int} {f : Nat → Int} {e q : Nat} {v : Int} (h : QTo g items xs f e q) : QTo g items xs (Go.Sl.upd f (e * 256 + q) v) e q := fun q2 h2 => by
 unfold Go.Sl.upd
 rw [if_neg (by omega)]
 exact h q2 h2
theorem upd_at {α : Type} (f : Nat → α) (i : Nat) (v : α) : upd f i v i = v := by simp [upd]
theorem tv_le {g : List (List Int)} {items : Nat} {n : Int} {xs : List Int} {d q : Nat} (hok : okG g n) (hl : xs.length ≤ 8) : 0 ≤ tv g items xs d q ∧ tv g items xs d q ≤ 8000000 := by
 refine ⟨optL_nonneg _ _ _ _, ?_⟩
 have h := optL_bound (m := items) (fun i k => (hok.gv_le i k).2) ((ordN xs).drop d) (fun k => !q.testBit k)
 have h2 : ((ordN xs).drop d).length ≤ 8 := by rw [List.length_drop]; unfold ordN; rw [List.length_map]; omega
 unfold tv
 omega
theorem fill_ {w0 w : World} {L : List HP} {b : Nat} {gs os : Value} {g : List (List Int)} {xs : List Int} {items : Nat} (hg : RdII w0 gs g) (hos : RdI w0 os xs) (hok : okG g items) (ho : okOrd xs g.length) (H : Loc w0 w (cl b 91 (tint 2304 (fun _ => 0)) :: L)) :
   Ret Tryz.prog 66 [.pointer (some ⟨b, 0, none⟩), gs, os] w (fun _ w' => ∃ f, TabTo g items xs f 0 ∧ Loc w0 w' (cl b 91 (tint 2304 f) :: L)) := by
 refine ret_of_C Tryz.func66 rfl rfl rfl ?_
 obtain ⟨A, c, rfl, hc1, hc2⟩ := hg.len
 obtain ⟨B, d1, rfl, hd1, hd2⟩ := hos.len
 have hxn := okOrd_length ho
 have hn8 := hok.2.1
 have hi8 := hok.1
 have hp := two_pow_le (n := items) (by omega)
 obtain ⟨N, hN⟩ : ∃ N, N = 2 ^ items := ⟨_, rfl⟩
 rw [← hN] at hp
 refine C_seq (C_region rfl (R_o rfl (E_move (R_o rfl (E_len rfl ?_)))))
 refine R_o rfl (E_sub rfl rfl (by omega) ?_)
 refine R_o rfl (E_assign (R_nil (C_block (C_loop (ds := []) [0, 1, 2, 6] (fun m_ vs w => ∃ (d : Nat) (z : Int) (f : Nat → Int), vs = [.pointer (some ⟨b, 0, none⟩), .slice A g.length c, .slice B xs.length d1, .int .i64 z] ∧ z = d - 1 ∧ d = m_ ∧ d ≤ xs.length ∧ TabTo g items xs f d ∧ Loc w0 w (cl b 91 (tint 2304 f) :: L)) (m := xs.length) (by first | rfl | exact hd) ?_ ?_))))
 · refine ⟨xs.length, _, fun _ => 0, rfl, by omega, rfl, Nat.le_refl _, fun d q h1 h2 h3 => ?_, H⟩
   unfold tv
   rw [List.drop_of_length_le (by unfold ordN; rw [List.length_map]; omega)]; rfl
 intro m vs ρ₀ w hd hI
 clear H
 obtain ⟨d, z, f, rfl, hz, rfl, hd2, hT, H⟩ := hI
 refine C_seq (C_seq (C_region rfl (R_o rfl (E_move (R_o rfl (E_geq rfl rfl ?_))))))
 refine R_nil (C_cond (t := 15) rfl (fun hge => ?_) (fun hge => ?_))
 ·
  obtain ⟨e, rfl⟩ : ∃ e, d = e + 1 := ⟨d - 1, by omega⟩
  have hze : z = e := by omega
  obtain ⟨x, hx⟩ := get_of (xs := xs) (k := z.toNat) (by omega)
  have hxe : xs[e]? = some x := by rw [← hx]; congr 1; omega
  have hxb := ho.1 x (mem_of_get hx)
  obtain ⟨y, hy⟩ := get_of (xs := g) (k := x.toNat) (by omega)
  have hyl := (hok.row hy).1
  refine C_skip (C_seq (C_block (C_seq (C_region rfl (R_o rfl (E_move (R_o rfl (E_move (R_o rfl (E_move (R_o rfl (E_idxr hos rfl rfl (by omega) (by omega) ?_))))))))))))
  refine R_o rfl (E_loadi hos H rfl hx ?_)
  refine R_o rfl (E_idxr hg rfl rfl (by omega) (by omega) ?_)
  refine R_o rfl (E_loadr hg H rfl hy ?_)
  intro u hu
  obtain ⟨Au, cu, rfl, hu1, hu2⟩ := hu.len
  refine R_o rfl (E_assign (R_nil (C_seq (C_region rfl (R_o rfl (E_move (R_o rfl (E_len rfl ?_))))))))
  refine R_o rfl (E_shl1 (i := y.length) rfl rfl (by omega) ?_)
  rw [show 2 ^ y.length = N by rw [hN]; congr 1; omega]
  refine R_o rfl (E_move (R_nil (C_block (C_loop (ds := []) [0, 1, 2, 6, 7, 27, 28] (fun m_ vs w => ∃ q : Nat, ∃ f : Nat → Int, vs = [.pointer (some ⟨b, 0, none⟩), .slice A g.length c, .slice B xs.length d1, .int .i64 z, .slice Au y.length cu, .int .i64 N, .int .i64 q] ∧ m_ = N - q ∧ q ≤ N ∧ (TabTo g items xs f (e + 1) ∧ QTo g items xs f e q) ∧ Loc w0 w (cl b 91 (tint 2304 f) :: L)) (m := N) (by first | rfl | exact hd) ?_ ?_))))
  · exact ⟨0, f, rfl, by omega, by omega, ⟨hT, fun q2 hq2 => by omega⟩, H⟩
  intro m vs ρ₀ w hd hI
  clear H
  obtain ⟨q, f, rfl, rfl, hq0, ⟨hT, hQ⟩, H⟩ := hI
  refine C_seq (C_region rfl (R_o rfl (E_lss rfl rfl ?_)))
  refine R_nil (C_seq (C_cond (t := 29) rfl (fun hlt => ?_) (fun hlt => ?_)))
  ·
   have hqN : q < N := by omega
   have hq : q < 2 ^ items := by rw [← hN]; exact hqN
   refine C_skip (C_seq (C_block (C_seq (C_region rfl (R_o rfl (E_move (R_o rfl (E_assign (R_nil (C_seq (C_drawL [14] H (by kernel_rfl) (fun w H => ?_))))))))))))
   refine D_takeT 0 rfl rfl rfl (by kernel_rfl) (fun w K Z kk => E_move kk) ?_
   refine D_takeT 1 rfl rfl rfl (by kernel_rfl) (fun w K Z kk => E_move kk) ?_
   refine D_takeT 2 rfl rfl rfl (by kernel_rfl) (fun w K Z kk => E_move kk) ?_
   refine D_takeT 3 rfl rfl rfl (by kernel_rfl) (fun w K Z kk => E_move kk) ?_
   refine D_takeT 4 rfl rfl rfl (by kernel_rfl) (fun w K Z kk => E_move kk) ?_
   refine D_takeT 5 rfl rfl rfl (by kernel_rfl) (fun w K Z kk => E_add rfl rfl (by omega) kk) ?_
   refine D_takeT 6 rfl rfl rfl (by kernel_rfl) (fun w K Z kk => E_move kk) ?_
   refine D_nil 7 rfl rfl rfl (by kernel_rfl) ?_
   refine D_takeT 8 rfl rfl rfl (by kernel_rfl) (fun w K Z kk => E_idxa rfl rfl (by omega) (by omega) kk) ?_
   refine D_takeT 9 rfl rfl rfl (by kernel_rfl) (fun w K Z kk => E_idxa rfl rfl (by omega) (by omega) kk) ?_
   refine D_take 10 rfl rfl rfl (by kernel_rfl) (by first | exact H | exact H.drop | exact H.drop.drop | exact H.drop.drop.drop | exact H.drop.drop.drop.drop) (fun w HS K Z kk => E_loadt ((e + 1) * 256 + q) HS rfl (by omega) (by omega) kk) ?_
   refine D_nil 11 rfl rfl rfl (by kernel_rfl) ?_
   refine D_takeT 12 rfl rfl rfl (by kernel_rfl) (fun w K Z kk => E_idxa rfl rfl (by omega) (by omega) kk) ?_
   refine D_takeT 13 rfl rfl rfl (by kernel_rfl) (fun w K Z kk => E_idxa rfl rfl (by omega) (by omega) kk) ?_
   refine D_actn 14 rfl (by kernel_rfl) (E_storet (e * 256 + q) H rfl rfl (by omega) (by omega) ?_)
   clear H; intro w H
   obtain ⟨f2, hf2⟩ : ∃ f2, f2 = upd f (e * 256 + q) (f ((e + 1) * 256 + q)) := ⟨_, rfl⟩
   rw [← hf2] at H
   have hT2 : TabTo g items xs f2 (e + 1) := by (rw [hf2]; exact hT.upd (by omega))
   have hQ2 : QTo g items xs f2 e q := by (rw [hf2]; exact hQ.upd)
   have hv2 : f2 (e * 256 + q) = tv g items xs (e + 1) q := by (rw [hf2, upd_at]; exact hT (e + 1) q (by omega) (by omega) hq)
   refine ⟨fun h => Bool.noConfusion (h : true = false), ?_⟩
   refine D_done (by kernel_rfl) ?_
   refine C_seq (C_region rfl (R_o rfl (E_move (R_o rfl (E_len rfl ?_)))))
   refine R_o rfl (E_move (R_nil (C_block (C_loop (ds := []) [0, 1, 2, 6, 7, 8, 27, 28, 45, 46, 47] (fun m_ vs w => ∃ j : Nat, ∃ f : Nat → Int, vs = [.pointer (some ⟨b, 0, none⟩), .slice A g.length c, .slice B xs.length d1, .int .i64 z, .slice Au y.length cu, .int .i64 q, .int .i64 N, .int .i64 q, .slice Au y.length cu, .int .i64 y.length, .int .i64 j] ∧ m_ = y.length - j ∧ j ≤ y.length ∧ (TabTo g items xs f (e + 1) ∧ QTo g items xs f e q ∧ f (e * 256 + q) = fm (tv g items xs (e + 1) q) (optLH (gv g) (optL (gv g) items ((ordN xs).drop (e + 1))) x.toNat (fun k => !q.testBit k)) j) ∧ Loc w0 w (cl b 91 (tint 2304 f) :: L)) (m := y.length) (by first | rfl | exact hd) ?_ ?_))))
   · exact ⟨0, f2, rfl, by omega, by omega, ⟨hT2, hQ2, hv2⟩, H⟩
   intro m vs ρ₀ w hd hI
   clear H
   obtain ⟨j, f, rfl, rfl, hj, ⟨hT, hQ, hF⟩, H⟩ := hI
   refine C_seq (C_region rfl (R_o rfl (E_lss rfl rfl ?_)))
   refine R_nil (C_seq (C_cond (t := 48) rfl (fun hlt2 => ?_) (fun hlt2 => ?_)))
   ·
    have hj8 : j < 8 := by omega
    have hji : j < items := by omega
    obtain ⟨v, hv⟩ := get_of (xs := y) (k := j) (by omega)
    have hgv : gv g x.toNat j = v := gv_of hy hv
    refine C_skip (C_seq (C_block (C_seq (C_region rfl (R_o rfl (E_move (R_o rfl (E_idxr hu rfl rfl (by omega) (by omega) ?_))))))))
    refine R_o rfl (E_loadi hu H rfl hv ?_)
    refine R_o rfl (E_assign (R_o rfl (E_assign (R_nil (C_seq (C_region rfl (R_o rfl (E_move (R_o rfl (E_geq rfl rfl ?_))))))))))
    refine R_o rfl (E_move (R_part (t := 54) rfl (fun hpos => ?_) (fun hpos => ?_)))
    ·
     refine R_w rfl rfl rfl (E_move ?_)
     refine R_w rfl rfl rfl (E_move ?_)
     refine R_w rfl rfl rfl (E_shrn (a := q) (b := j) rfl rfl (by omega) ?_)
     refine R_w rfl rfl rfl (E_and (a := q / 2 ^ j) (b := 1) rfl rfl (by have := Nat.div_le_self q (2 ^ j); omega) (by omega) ?_)
     refine R_w rfl rfl rfl (E_eql rfl rfl ?_)
     refine R_o rfl (E_pick rfl ?_)
     refine R_nil (C_cond (t := 60) rfl (fun hbit => ?_) (fun hbit => ?_))
     ·
      have hbit2 := (bit0_iff q j).1 hbit
      have hqj := or_lt hq hji
      rw [← hN] at hqj
      have hor : f ((e + 1) * 256 + (q ||| 2 ^ j)) = optL (gv g) items ((ordN xs).drop (e + 1)) (no (fun k => !q.testBit k) j) := by
        rw [hT (e + 1) _ (by omega) (by omega) (or_lt hq hji)]; unfold tv; rw [tb_or]
      have hob := tv_le (g := g) (items := items) (xs := xs) (d := e + 1) (q := q ||| 2 ^ j) hok (by omega)
      rw [← hT (e + 1) _ (by omega) (by omega) (or_lt hq hji), hor] at hob
      have hvb := hok.gv_le x.toNat j
      rw [hgv] at hvb
      refine C_drawL [27] H (by kernel_rfl) (fun w H => ?_)
      refine D_takeT 0 rfl rfl rfl (by kernel_rfl) (fun w K Z kk => E_move kk) ?_
      refine D_takeT 1 rfl rfl rfl (by kernel_rfl) (fun w K Z kk => E_move kk) ?_
      refine D_takeT 2 rfl rfl rfl (by kernel_rfl) (fun w K Z kk => E_move kk) ?_
      refine D_takeT 3 rfl rfl rfl (by kernel_rfl) (fun w K Z kk => E_move kk) ?_
      refine D_takeT 4 rfl rfl rfl (by kernel_rfl) (fun w K Z kk => E_move kk) ?_
      refine D_takeT 5 rfl rfl rfl (by kernel_rfl) (fun w K Z kk => E_move kk) ?_
      refine D_nil 6 rfl rfl rfl (by kernel_rfl) ?_
      refine D_takeT 7 rfl rfl rfl (by kernel_rfl) (fun w K Z kk => E_idxa rfl rfl (by omega) (by omega) kk) ?_
      refine D_takeT 8 rfl rfl rfl (by kernel_rfl) (fun w K Z kk => E_idxa rfl rfl (by omega) (by omega) kk) ?_
      refine D_take 9 rfl rfl rfl (by kernel_rfl) (by first | exact H | exact H.drop | exact H.drop.drop | exact H.drop.drop.drop | exact H.drop.drop.drop.drop) (fun w HS K Z kk => E_loadt (e * 256 + q) HS rfl (by omega) (by omega) kk) ?_
      refine D_takeT 10 rfl rfl rfl (by kernel_rfl) (fun w K Z kk => E_move kk) ?_
      refine D_takeT 11 rfl rfl rfl (by kernel_rfl) (fun w K Z kk => E_move kk) ?_
      refine D_takeT 12 rfl rfl rfl (by kernel_rfl) (fun w K Z kk => E_move kk) ?_
      refine D_takeT 13 rfl rfl rfl (by kernel_rfl) (fun w K Z kk => E_add rfl rfl (by omega) kk) ?_
      refine D_takeT 14 rfl rfl rfl (by kernel_rfl) (fun w K Z kk => E_move kk) ?_
      refine D_takeT 15 rfl rfl rfl (by kernel_rfl) (fun w K Z kk => E_move kk) ?_
      refine D_takeT 16 rfl rfl rfl (by kernel_rfl) (fun w K Z kk => E_shl1 (i := j) rfl rfl (by omega) kk) ?_
      refine D_takeT 17 rfl rfl rfl (by kernel_rfl) (fun w K Z kk => E_or (a := q) (b := 2 ^ j) rfl rfl (by omega) (by have := Nat.pow_lt_pow_right (a := 2) (by omega) hj8; omega) kk) ?_
      refine D_nil 18 rfl rfl rfl (by kernel_rfl) ?_
      refine D_takeT 19 rfl rfl rfl (by kernel_rfl) (fun w K Z kk => E_idxa rfl rfl (by omega) (by omega) kk) ?_
      refine D_takeT 20 rfl rfl rfl (by kernel_rfl) (fun w K Z kk => E_idxa rfl rfl (by omega) (by omega) kk) ?_
      refine D_take 21 rfl rfl rfl (by kernel_rfl) (by first | exact H | exact H.drop | exact H.drop.drop | exact H.drop.drop.drop | exact H.drop.drop.drop.drop) (fun w HS K Z kk => E_loadt ((e + 1) * 256 + (q ||| 2 ^ j)) HS rfl (by omega) (by omega) kk) ?_
      refine D_takeT 22 rfl rfl rfl (by kernel_rfl) (fun w K Z kk => E_add rfl rfl (by rw [hor]; omega) kk) ?_
      refine D_takeT 23 rfl rfl rfl (by kernel_rfl) (fun w K Z kk => E_max2 rfl rfl kk) ?_
      refine D_nil 24 rfl rfl rfl (by kernel_rfl) ?_
      refine D_takeT 25 rfl rfl rfl (by kernel_rfl) (fun w K Z kk => E_idxa rfl rfl (by omega) (by omega) kk) ?_
      refine D_takeT 26 rfl rfl rfl (by kernel_rfl) (fun w K Z kk => E_idxa rfl rfl (by omega) (by omega) kk) ?_
      refine D_actn 27 rfl (by kernel_rfl) (E_storet (e * 256 + q) H rfl rfl (by omega) (by omega) ?_)
      clear H; intro w H
      obtain ⟨f3, hf3⟩ : ∃ f3, f3 = upd f (e * 256 + q) (max (f (e * 256 + q)) (v + f ((e + 1) * 256 + (q ||| 2 ^ j)))) := ⟨_, rfl⟩
      rw [← hf3] at H
      have hT3 : TabTo g items xs f3 (e + 1) := by (rw [hf3]; exact hT.upd (by omega))
      have hQ3 : QTo g items xs f3 e q := by (rw [hf3]; exact hQ.upd)
      have hF3 : f3 (e * 256 + q) = fm (tv g items xs (e + 1) q) (optLH (gv g) (optL (gv g) items ((ordN xs).drop (e + 1))) x.toNat (fun k => !q.testBit k)) (j + 1) := by (rw [hf3, upd_at, fm, optLH_of hbit2 (by rw [hgv]; exact hpos), hor, hgv, hF, Int.add_comm])
      refine ⟨fun h => Bool.noConfusion (h : true = false), ?_⟩
      refine D_done (by kernel_rfl) ?_
      refine C_region rfl (R_o rfl (E_add rfl rfl (by omega) ?_))
      refine R_o rfl (E_move (R_nil (⟨hd, y.length - (j + 1), by omega, j + 1, f3, rfl, rfl, by omega, ⟨hT3, hQ3, hF3⟩, H⟩)))
     ·
      obtain ⟨f3, hf3⟩ : ∃ f3, f3 = f := ⟨_, rfl⟩
      have hT3 := hf3 ▸ hT
      have hQ3 := hf3 ▸ hQ
      rw [← hf3] at H
      have hF3 : f3 (e * 256 + q) = fm (tv g items xs (e + 1) q) (optLH (gv g) (optL (gv g) items ((ordN xs).drop (e + 1))) x.toNat (fun k => !q.testBit k)) (j + 1) := by
        rw [fm, optLH_none (fun hh => hbit ((bit0_iff q j).2 hh.1)), hf3, hF]
      refine C_skip (C_region rfl (R_o rfl (E_add rfl rfl (by omega) ?_)))
      refine R_o rfl (E_move (R_nil (⟨hd, y.length - (j + 1), by omega, j + 1, f3, rfl, rfl, by omega, ⟨hT3, hQ3, hF3⟩, H⟩)))
    ·
     obtain ⟨f3, hf3⟩ : ∃ f3, f3 = f := ⟨_, rfl⟩
     have hT3 := hf3 ▸ hT
     have hQ3 := hf3 ▸ hQ
     rw [← hf3] at H
     have hF3 : f3 (e * 256 + q) = fm (tv g items xs (e + 1) q) (optLH (gv g) (optL (gv g) items ((ordN xs).drop (e + 1))) x.toNat (fun k => !q.testBit k)) (j + 1) := by
       rw [fm, optLH_none (fun hh => hpos (by rw [← hgv]; exact hh.2)), hf3, hF]
     refine R_p rfl rfl rfl ?_
     refine R_p rfl rfl rfl ?_
     refine R_p rfl rfl rfl ?_
     refine R_p rfl rfl rfl ?_
     refine R_p rfl rfl rfl ?_
     refine R_o rfl (E_pick rfl ?_)
     refine R_nil (C_false (t := 60) rfl ?_)
     refine C_skip (C_region rfl (R_o rfl (E_add rfl rfl (by omega) ?_)))
     refine R_o rfl (E_move (R_nil (⟨hd, y.length - (j + 1), by omega, j + 1, f3, rfl, rfl, by omega, ⟨hT3, hQ3, hF3⟩, H⟩)))
   ·
    have hj : j = items := by omega
    refine C_exit ?_
    refine C_region rfl (R_o rfl (E_add rfl rfl (by omega) ?_))
    refine R_o rfl (E_move (R_nil (⟨hd, N - (q + 1), by omega, q + 1, f, rfl, rfl, by omega, ⟨hT, fun q2 hq2 => ?_⟩, H⟩)))
    by_cases he : q2 = q
    · subst he
      rw [hF, hj, tv_step hxe]
    · exact hQ q2 (by omega)--
  ·
   have hq : q = N := by omega
   refine C_exit ?_
   refine C_region rfl (R_o rfl (E_move (R_o rfl (E_sub rfl rfl (by omega) ?_))))
   refine R_o rfl (E_assign (R_nil ?_))
   exact ⟨hd, e, by omega, e, _, f, rfl, by omega, rfl, by omega, fun d' q h1 h2 h3 => by
     by_cases he : d' = e
     · subst he; exact hQ q (by rw [hq, hN]; exact h3)
     · exact hT d' q (by omega) h2 h3, H⟩
 ·
  have hd0 : d = 0 := by omega
  refine C_exit ?_
  with_reducible repeat (first | refine inB_normal ?_ | refine noG_normal ?_ | refine thn_exit ?_ | refine inB_exit ?_ | refine inB_pass rfl ?_)
  exact end_none rfl hd ⟨f, by rw [hd0] at hT; exact hT, H⟩
end Go.Sl
