/- Judges, plainly. No program in sight. judges: a view of a market and an outcome. -/
import Derived.Test.YtlgdffofhnfedaaGreatX27
import Derived.Test.YtlgdffofhnfedaaGreatX9
import Derived.Test.YtlgdffofhnfedaaGreatX30
set_option linter.unusedVariables false
set_option linter.unusedSimpArgs false
namespace Go.Sl
theorem bestV_bound {m : Mk} (hok : okMk m) : 0 ≤ bestV (gains m) m.res.length ∧ bestV (gains m) m.res.length ≤ 8000000 := by
  refine ⟨optB_nonneg _ _ _ _, Int.le_trans (optB_bound (fun i _ k _ => ((gains_okG hok).gv_le i k).2)) ?_⟩
  have : (gains m).length = m.bids.length := by simp [gains]
  have := hok.2.1.2
  omega
theorem without_ok {m : Mk} (hok : okMk m) (i : Nat) : okMk (without m i) := by
  refine ⟨hok.1, by simp [without]; exact hok.2.1, by simp [without]; exact hok.2.2.1, fun b hb => ?_⟩
  rcases List.mem_or_eq_of_mem_set hb with hb | rfl
  · exact hok.2.2.2 b hb
  · rintro ⟨h, _⟩; simp at h
def sumTo (m : Mk) (o : Oc) : Nat → Int
  | 0 => 0
  | k + 1 => if o.has.getD k 0 = -1 then sumTo m o k else sumTo m o k + gv (gains m) k (o.has.getD k 0).toNat
theorem sumTo_bound {m : Mk} (hok : okMk m) (o : Oc) : ∀ k : Nat, -1000000 * (k : Int) ≤ sumTo m o k ∧ sumTo m o k ≤ 1000000 * (k : Int)
  | 0 => by simp [sumTo]
  | k + 1 => by
    have ih := sumTo_bound hok o k
    have hg := (gains_okG hok).gv_le k (o.has.getD k 0).toNat
    simp only [sumTo]
    split <;> omega
def sumV (m : Mk) (o : Oc) : Int := sumTo m o o.has.length
def lostV (m : Mk) (o : Oc) (i : Nat) (x : Int) : Int := bestV (gains (without m i)) m.res.length - (sumV m o - gv (gains m) i x.toNat)
def wantTo (m : Mk) (o : Oc) : Nat → List Int
  | 0 => m.res
  | k + 1 => if o.has.getD k 0 = -1 then wantTo m o k else (wantTo m o k).set (o.has.getD k 0).toNat ((wantTo m o k).getD (o.has.getD k 0).toNat 0 + lostV m o k (o.has.getD k 0))
@[simp] theorem wantTo_len (m : Mk) (o : Oc) : ∀ k, (wantTo m o k).length = m.res.length
  | 0 => rfl
  | k + 1 => by simp only [wantTo]; split <;> simp [wantTo_len m o k]
theorem lostV_bound {m : Mk} {o : Oc} (hok : okMk m) (h8 : o.has.length ≤ 8) (i : Nat) (x : Int) : -20000000 ≤ lostV m o i x ∧ lostV m o i x ≤ 20000000 := by
  have h1 := bestV_bound (without_ok hok i)
  have h2 := sumTo_bound hok o o.has.length
  have h3 := (gains_okG hok).gv_le i x.toNat
  have e : (without m i).res = m.res := rfl
  rw [e] at h1
  unfold lostV sumV
  omega
theorem wantTo_bound {m : Mk} {o : Oc} (hok : okMk m) (h8 : o.has.length ≤ 8) : ∀ (k j : Nat), -(20000000 * (k : Int)) ≤ (wantTo m o k).getD j 0 ∧ (wantTo m o k).getD j 0 ≤ 1000000 + 20000000 * (k : Int)
  | 0, j => by have := res_bound hok j; simp only [wantTo]; omega
  | k + 1, j => by
    have ih := wantTo_bound hok h8 k j
    have hl := lostV_bound hok h8 k (o.has.getD k 0)
    simp only [wantTo]
    split
    · omega
    · rw [List.getD_eq_getElem?_getD, List.getElem?_set]
      split
      · rename_i e
        split
        · rename_i h
          simp only [Option.getD_some]
          have ih2 := wantTo_bound hok h8 k (o.has.getD k 0).toNat
          omega
        · simp only [Option.getD_none]; omega
      · rw [← List.getD_eq_getElem?_getD]; omega
def leastOk (m : Mk) (o : Oc) : Prop := evenV m o ∧ sumV m o = bestV (gains m) m.res.length ∧ wantTo m o o.has.length = o.pri
theorem evenV.item {m : Mk} {o : Oc} (h : evenV m o) {k : Nat} {x : Int} (hx : o.has[k]? = some x) : -1 ≤ x ∧ x < (m.res.length : Int) ∧ k < m.bids.length ∧ o.has.length ≤ 8 := by
  have h1 := h.2.2.2.1 k (lt_of_get hx)
  rw [getD_of hx] at h1
  have := h.2.2.1
  have := h.2.1
  have := h.1.2.1.2
  have := lt_of_get hx
  exact ⟨h1.1, by omega, by omega, by omega⟩
theorem gains_row {m : Mk} {k : Nat} {b : List Int} (hb : m.bids[k]? = some b) : (gains m)[k]? = some (gain1 m.res b) := by simp [gains, hb]
theorem gain1_len {m : Mk} (hok : okMk m) {k : Nat} {b : List Int} (hb : m.bids[k]? = some b) : (gain1 m.res b).length = m.res.length := by
  have := (gains_okG hok).row (gains_row hb)
  omega
theorem firstStep_has {a : Nat → Nat → Int} {m : Nat} {rest : List Nat} {who : Nat} {s : FS} (h : ∀ i, -1 ≤ s.has i ∧ s.has i < (m : Int)) (hm : 0 < m) : ∀ i, -1 ≤ (firstStep a m rest who s).has i ∧ (firstStep a m rest who s).has i < (m : Int) := by
  intro i
  unfold firstStep
  split
  · rename_i k hk
    have hkm : k < m := by
      unfold findK at hk
      have := List.mem_of_find?_eq_some hk
      simpa using this
    simp only [upd]
    split
    · omega
    · exact h i
  · simp only [upd]
    split
    · omega
    · exact h i
theorem firstAt_has (g : List (List Int)) {items : Nat} (o : List Nat) (hm : 0 < items) : ∀ d i, -1 ≤ (firstAt g items o d).has i ∧ (firstAt g items o d).has i < (items : Int)
  | 0, i => by simp only [firstAt, first0]; omega
  | d + 1, i => firstStep_has (firstAt_has g o hm d) hm i
theorem ofV_item {m : Mk} (hok : okMk m) {k : Nat} {x : Int} (hx : (firstV (gains m) m.res.length (ordN m.ord))[k]? = some x) : -1 ≤ x ∧ x < (m.res.length : Int) := by
  unfold firstV at hx
  have hk := lt_of_get hx
  rw [tab_length] at hk
  rw [tab_get hk] at hx
  have := Option.some.inj hx
  rw [← this]
  have := hok.1.1
  exact firstAt_has _ _ (by omega) _ _
theorem leastV_ok {m : Mk} (hok : okMk m) : OkP m (leastV m) := (it_ok hok _ _ (end_spec hok).1).1
def otherM (m : Mk) (i : Nat) (b : List Int) : Mk := { m with bids := m.bids.set i b }
theorem other_ok {m : Mk} (hok : okMk m) {i : Nat} {b : List Int} (hi : i < m.bids.length) : okMk (otherM m i b) ↔ ¬ (0 < b.length ∧ ¬ okVec b m.res.length) := by
  constructor
  · intro h
    refine h.2.2.2 b ?_
    exact List.mem_of_getElem? (i := i) (by simp [otherM, hi])
  · intro h
    refine ⟨hok.1, by simp [otherM]; exact hok.2.1, by simp [otherM]; exact hok.2.2.1, fun c hc => ?_⟩
    rcases List.mem_or_eq_of_mem_set hc with hc | rfl
    · exact hok.2.2.2 c hc
    · exact h
noncomputable def hasV (m : Mk) (i : Nat) (b : List Int) : Int := nowV b (leastV m) ((firstV (gains m) m.res.length (ordN m.ord)).getD i 0)
def TrueOk (m : Mk) (i : Int) (bid : List Int) : Prop := okMk m ∧ 0 ≤ i ∧ i < (m.bids.length : Int) ∧ m.bids.getD i.toNat [] ≠ [] ∧ ¬ (0 < bid.length ∧ ¬ okVec bid m.res.length)
def trueV (m : Mk) (i : Nat) (bid : List Int) : Prop := 0 ≤ hasV m i (m.bids.getD i []) ∧ hasV (otherM m i bid) i (m.bids.getD i []) ≤ hasV m i (m.bids.getD i [])
def TruePo (m : Mk) (i : Int) (bid : List Int) (w0 : Go.World) (r : Go.Value) (w : Go.World) : Prop :=
  (TrueOk m i bid ∧ ∃ b, r = .tuple #[.bool b, .int .i64 0] ∧ (b = true ↔ trueV m i.toNat bid) ∧ Go.RowKit.Below w0.heap.size w0 w) ∨ (¬ TrueOk m i bid ∧ r = .tuple #[.bool false, .int .i64 1] ∧ Go.RowKit.Below w0.heap.size w0 w)
end Go.Sl
set_option linter.unusedVariables false
set_option linter.unusedSimpArgs false
set_option maxRecDepth 10000
set_option maxHeartbeats 2000000
namespace Go.Sl
open Go.RowKit
open Go.Proofs
structure ViewR (w : World) (bV : Nat) (a b c ha pa gv : Value) (m : Mk) (o : Oc) : Prop where
 blk : w.heap[bV]? = some (.cells #[a, b, c, ha, pa, gv] 56 (0, 0))
 res : RdI w a m.res
 bids : RdII w b m.bids
 ord : RdI w c m.ord
 has : RdI w ha o.has
 pri : RdI w pa o.pri
 gains : RdII w gv (gains m)
section
variable {w w' : World} {bV : Nat} {a b c ha pa gv : Value} {m : Mk} {o : Oc}
theorem ViewR.below (h : ViewR w bV a b c ha pa gv m o) (hb : Below w.heap.size w w') : ViewR w' bV a b c ha pa gv m o :=
 ⟨by rw [hb.block bV (Array.getElem?_eq_some_iff.1 h.blk).1]; exact h.blk, Abides.below hb h.res, Abides.below hb h.bids, Abides.below hb h.ord, Abides.below hb h.has, Abides.below hb h.pri, Abides.below hb h.gains⟩
theorem ViewR.c0 (h : ViewR w bV a b c ha pa gv m o) : w.cell? ⟨bV, 0, none⟩ = some a := by rw [cell_of_blk h.blk]; rfl
theorem ViewR.c1 (h : ViewR w bV a b c ha pa gv m o) : w.cell? ⟨bV, 1, none⟩ = some b := by rw [cell_of_blk h.blk]; rfl
theorem ViewR.c2 (h : ViewR w bV a b c ha pa gv m o) : w.cell? ⟨bV, 2, none⟩ = some c := by rw [cell_of_blk h.blk]; rfl
theorem ViewR.c3 (h : ViewR w bV a b c ha pa gv m o) : w.cell? ⟨bV, 3, none⟩ = some ha := by rw [cell_of_blk h.blk]; rfl
theorem ViewR.c4 (h : ViewR w bV a b c ha pa gv m o) : w.cell? ⟨bV, 4, none⟩ = some pa := by rw [cell_of_blk h.blk]; rfl
theorem ViewR.c5 (h : ViewR w bV a b c ha pa gv m o) : w.cell? ⟨bV, 5, none⟩ = some gv := by rw [cell_of_blk h.blk]; rfl
end
theorem E_loada_cell {P : Program} {yl : Bool} {ρ : Rg} {w : World} {ty : TypeId} {K : Value → World → Prop} {Z : List PanicEntry → World → Prop} {x : Operand} {t n : TypeId} [ha : Ag P t n] {b o : Nat} {vs : List Value} (hp : ρ.ev x = .pointer (some ⟨b, o, none⟩)) (hn : vs.length = n)
   (hv : ∀ j v, vs[j]? = some v → w.cell? ⟨b, o + j, none⟩ = some v) (k : K (.agg vs.toArray) w) : E P yl ρ w (.load t x) ty K Z := by
 obtain ⟨i, hi, hs⟩ := ha.inf
 have hl : (loadCells ⟨b, o, none⟩ i.size).run P w = .ok vs.toArray w := by
   rw [hs, ← hn]
   exact run_loadCells_list (P := P) w ⟨b, o, none⟩ vs (fun j v hj => by rw [add_plain]; exact hv j v hj)
 exact E_of_run (by simp [execOp, Instr.loadAt, Instr.sureAddr, hp, loadVar, run_isAgg_ag, run_sizeOf' hi, hl]) k
theorem ViewR.market {w : World} {bV : Nat} {a b c ha pa gv : Value} {m : Mk} {o : Oc} (h : ViewR w bV a b c ha pa gv m o) : ∀ j v, [a, b, c][j]? = some v → w.cell? ⟨bV, 0 + j, none⟩ = some v := fun j v hj => by
 rw [Nat.zero_add]
 match j, hj with
 | 0, hj => cases hj; exact h.c0
 | 1, hj => cases hj; exact h.c1
 | 2, hj => cases hj; exact h.c2
 | j + 3, hj => cases hj
theorem ViewR.rdM {w : World} {bV : Nat} {a b c ha pa gv : Value} {m : Mk} {o : Oc} (h : ViewR w bV a b c ha pa gv m o) : RdM w (.agg #[a, b, c]) m := ⟨a, b, c, rfl, h.res, h.bids, h.ord⟩
theorem vsum_ {w0 : World} {bV : Nat} {a b c ha pa gvv : Value} {m : Mk} {o : Oc} (hv0 : ViewR w0 bV a b c ha pa gvv m o) (hE : evenV m o) :
   Ret Tryz.prog 56 [.pointer (some ⟨bV, 0, none⟩)] w0 (fun v w => v = .int .i64 (sumV m o) ∧ Below w0.heap.size w0 w) := by
 refine ret_of_C Tryz.func56 rfl rfl rfl ?_
 have H := Loc.refl w0
 obtain ⟨Ah, ch, rfl, hh1, hh2⟩ := hv0.has.len
 have hok := hE.1
 have hl1 := hE.2.1
 have hl2 := hE.2.2.1
 have hn1 := hok.1.2.1
 have hn2 := hok.2.1.2
 refine C_seq (C_region rfl (R_o rfl (E_assign (R_nil (C_seq (C_seq (C_region rfl (R_o rfl (E_move (R_o rfl (E_nilCheck rfl ?_)))))))))))
 refine R_o rfl (E_fieldAddr rfl ?_)
 refine R_o rfl (E_fieldAddr rfl ?_)
 refine R_o rfl (E_load_cell rfl (Below.cell_some H.below hv0.c3) ?_)
 refine R_o rfl (E_len rfl ?_)
 refine R_o rfl (E_move (R_nil (C_block (C_loop (ds := []) [0, 2, 9, 10, 11] (fun m_ vs w => ∃ k : Nat, vs = [.pointer (some ⟨bV, 0, none⟩), .int .i64 (sumTo m o k), .slice Ah o.has.length ch, .int .i64 o.has.length, .int .i64 k] ∧ m_ = o.has.length - k ∧ k ≤ o.has.length ∧ (True) ∧ Loc w0 w []) (m := o.has.length) (by first | rfl | exact hd) ?_ ?_))))
 · exact ⟨0, rfl, by omega, by omega, trivial, H⟩
 intro m vs ρ₀ w hd hI
 clear H
 obtain ⟨k, rfl, rfl, hk, hst, H⟩ := hI
 refine C_seq (C_region rfl (R_o rfl (E_lss rfl rfl ?_)))
 refine R_nil (C_seq (C_cond (t := 12) rfl (fun hlt => ?_) (fun hlt => ?_)))
 ·
  obtain ⟨x, hx⟩ := get_of (xs := o.has) (k := k) (by omega)
  have hxi := hE.item hx
  have hgx : o.has.getD k 0 = x := getD_of hx
  obtain ⟨bd, hbd⟩ := get_of (xs := m.bids) (k := k) (by omega)
  have hgr := gains_row hbd
  have hgl := gain1_len hok hbd
  obtain ⟨ug, hcg, hug⟩ := hv0.gains.at hgr
  obtain ⟨Ag_, cg, rfl, _, _⟩ := hug.len
  have hsb := sumTo_bound hok o k
  refine C_skip (C_seq (C_block (C_seq (C_region rfl (R_o rfl (E_move (R_o rfl (E_idxr hv0.has rfl rfl (by omega) (by omega) ?_))))))))
  refine R_o rfl (E_loadi hv0.has H rfl hx ?_)
  refine R_o rfl (E_assign (R_o rfl (E_assign (R_nil (C_seq (C_region rfl (R_o rfl (E_move (R_o rfl (E_neq rfl rfl ?_))))))))))
  refine R_nil (C_cond (t := 17) rfl (fun h17 => ?_) (fun h17 => ?_))
  ·
   obtain ⟨g, hg⟩ := get_of (xs := gain1 m.res bd) (k := x.toNat) (by omega)
   have hgv : gv (gains m) k x.toNat = g := gv_of hgr hg
   have hgb := (gains_okG hok).gv_le k x.toNat
   rw [hgv] at hgb
   refine C_region rfl (R_o rfl (E_move (R_o rfl (E_move (R_o rfl (E_nilCheck rfl ?_))))))
   refine R_o rfl (E_fieldAddr rfl ?_)
   refine R_o rfl (E_load_cell rfl (Below.cell_some H.below hv0.c5) ?_)
   refine R_o rfl (E_move (R_o rfl (E_idxr hv0.gains rfl rfl (by omega) (by simp; omega) ?_)))
   refine R_o rfl (E_loadc hcg H rfl ?_)
   refine R_o rfl (E_move (R_o rfl (E_idxr hug rfl rfl (by omega) (by omega) ?_)))
   refine R_o rfl (E_loadi hug H rfl hg ?_)
   refine R_o rfl (E_add rfl rfl (by omega) ?_)
   refine R_o rfl (E_assign (R_nil (C_region rfl (R_o rfl (E_add rfl rfl (by omega) ?_)))))
   refine R_o rfl (E_move (R_nil ?_))
   first
     | (have e : sumTo m o (k + 1) = sumTo m o k := by simp only [sumTo, hgx]; rw [if_pos (Decidable.of_not_not h17)]
        exact ⟨hd, o.has.length - (k + 1), by omega, k + 1, by rw [e]; rfl, rfl, by omega, trivial, H⟩)
     | (have e : sumTo m o (k + 1) = sumTo m o k + g := by simp only [sumTo, hgx]; rw [if_neg h17, hgv]
        exact ⟨hd, o.has.length - (k + 1), by omega, k + 1, by rw [e]; rfl, rfl, by omega, trivial, H⟩)
  ·
   refine C_skip (C_region rfl (R_o rfl (E_add rfl rfl (by omega) ?_)))
   refine R_o rfl (E_move (R_nil ?_))
   first
     | (have e : sumTo m o (k + 1) = sumTo m o k := by simp only [sumTo, hgx]; rw [if_pos (Decidable.of_not_not h17)]
        exact ⟨hd, o.has.length - (k + 1), by omega, k + 1, by rw [e]; rfl, rfl, by omega, trivial, H⟩)
     | (have e : sumTo m o (k + 1) = sumTo m o k + g := by simp only [sumTo, hgx]; rw [if_neg h17, hgv]
        exact ⟨hd, o.has.length - (k + 1), by omega, k + 1, by rw [e]; rfl, rfl, by omega, trivial, H⟩)
 ·
  obtain rfl : k = o.has.length := by omega
  refine C_exit ?_
  refine C_seq (C_region rfl (R_o rfl (E_move (R_o rfl (E_assign (R_nil (C_ret ?_)))))))
  with_reducible repeat (first | refine thn_ret ?_ | refine inB_ret ?_ | refine noG_ret ?_ | refine jmp_ret ?_)
  exact ret_one rfl hd ⟨rfl, H.below⟩
theorem vmost_ {w0 : World} {bV : Nat} {a b c ha pa gvv : Value} {m : Mk} {o : Oc} (hv0 : ViewR w0 bV a b c ha pa gvv m o) (hE : evenV m o) :
   Ret Tryz.prog 35 [.pointer (some ⟨bV, 0, none⟩)] w0 (fun v w => v = .bool (decide (sumV m o = bestV (gains m) m.res.length)) ∧ Below w0.heap.size w0 w) := by
 refine ret_of_C Tryz.func35 rfl rfl rfl ?_
 have H := Loc.refl w0
 have hok := hE.1
 obtain ⟨A1, c1, rfl, hA1, hA2⟩ := hv0.res.len
 have hn1 := hok.1.2.1
 refine C_seq (C_region rfl (R_o rfl (E_assign (R_nil (C_seq (C_drawL [] H (by kernel_rfl) (fun w H => ?_)))))))
 refine D_takeT 0 rfl rfl rfl (by kernel_rfl) (fun w K Z kk => E_move kk) ?_
 refine D_nil 1 rfl rfl rfl (by kernel_rfl) ?_
 refine D_takeT 2 rfl rfl rfl (by kernel_rfl) (fun w K Z kk => E_fieldAddr rfl kk) ?_
 refine D_take 3 rfl rfl rfl (by kernel_rfl) H (fun w HS K Z kk => E_load_cell rfl (Below.cell_some HS.below hv0.c5) kk) ?_
 refine D_takeT 4 rfl rfl rfl (by kernel_rfl) (fun w K Z kk => E_move kk) ?_
 refine D_nil 5 rfl rfl rfl (by kernel_rfl) ?_
 refine D_takeT 6 rfl rfl rfl (by kernel_rfl) (fun w K Z kk => E_fieldAddr rfl kk) ?_
 refine D_takeT 7 rfl rfl rfl (by kernel_rfl) (fun w K Z kk => E_fieldAddr rfl kk) ?_
 refine D_take 8 rfl rfl rfl (by kernel_rfl) H (fun w HS K Z kk => E_load_cell rfl (Below.cell_some HS.below hv0.c0) kk) ?_
 refine D_takeT 9 rfl rfl rfl (by kernel_rfl) (fun w K Z kk => E_len rfl kk) ?_
 refine D_act 10 rfl rfl (by kernel_rfl) (E_call rfl (WBest_ (Abides.below H.below hv0.gains) (by omega)) ?_)
 rintro v16 w1 ⟨h16, hb⟩
 rw [BestV, if_pos (gains_okG hok)] at h16
 subst h16
 replace H := H.call0 hb; clear hb
 refine ⟨fun _ _ => H, ?_⟩
 refine D_takeT 11 rfl rfl rfl (by kernel_rfl) (fun w K Z kk => E_move kk) ?_
 refine D_takeT 12 rfl rfl rfl (by kernel_rfl) (fun w K Z kk => E_extract rfl rfl kk) ?_
 refine D_takeT 13 rfl rfl rfl (by kernel_rfl) (fun w K Z kk => E_extract rfl rfl kk) ?_
 refine D_takeT 14 rfl rfl rfl (by kernel_rfl) (fun w K Z kk => E_assign kk) ?_
 refine D_takeT 15 rfl rfl rfl (by kernel_rfl) (fun w K Z kk => E_assign kk) ?_
 refine D_done (by kernel_rfl) ?_
 refine C_seq (C_region rfl (R_o rfl (E_move (R_o rfl (E_call rfl (vsum_ (hv0.below H.below) hE) ?_)))))
 rintro _ w1 ⟨rfl, hb⟩
 replace H := H.call0 hb; clear hb
 refine R_o rfl (E_move (R_o rfl (E_eql rfl rfl ?_)))
 refine R_o rfl (E_assign (R_nil (C_ret ?_)))
 with_reducible repeat (first | refine thn_ret ?_ | refine inB_ret ?_ | refine noG_ret ?_ | refine jmp_ret ?_)
 exact ret_one rfl rfl ⟨rfl, H.below⟩
theorem vlost_ {w0 : World} {bV : Nat} {a b c ha pa gvv : Value} {m : Mk} {o : Oc} {k : Nat} {x : Int} (hv0 : ViewR w0 bV a b c ha pa gvv m o) (hE : evenV m o) (hx : o.has[k]? = some x) (hx0 : x ≠ -1) :
   Ret Tryz.prog 58 [.pointer (some ⟨bV, 0, none⟩), .int .i64 (k : Int), .int .i64 x] w0 (fun v w => v = .int .i64 (lostV m o k x) ∧ Below w0.heap.size w0 w) := by
 refine ret_of_C Tryz.func58 rfl rfl rfl ?_
 have H := Loc.refl w0
 obtain ⟨Ah, ch, rfl, hh1, hh2⟩ := hv0.has.len
 have hok := hE.1
 have hl1 := hE.2.1
 have hl2 := hE.2.2.1
 have hn1 := hok.1.2.1
 have hn2 := hok.2.1.2
 have hxi := hE.item hx
 have hgx : o.has.getD k 0 = x := getD_of hx
 obtain ⟨bd, hbd⟩ := get_of (xs := m.bids) (k := k) (by omega)
 have hgr := gains_row hbd
 have hgl := gain1_len hok hbd
 obtain ⟨ug, hcg, hug⟩ := hv0.gains.at hgr
 obtain ⟨Ag_, cg, rfl, _, _⟩ := hug.len
 obtain ⟨g, hg⟩ := get_of (xs := gain1 m.res bd) (k := x.toNat) (by omega)
 have hgv : gv (gains m) k x.toNat = g := gv_of hgr hg
 have hgb := (gains_okG hok).gv_le k x.toNat
 rw [hgv] at hgb
 have hkl := lt_of_get hx
 have hmk := hv0.rdM
 obtain ⟨A1, c1, rfl, hA1, hA2⟩ := hv0.res.len
 have hwok := without_ok hok k
 have hbb := bestV_bound hwok
 have hsb := sumTo_bound hok o o.has.length
 have hwr : (without m k).res = m.res := rfl
 rw [hwr] at hbb
 have hsv : sumV m o = sumTo m o o.has.length := rfl
 have hgo : okG (gains (without m k)) m.res.length := gains_okG hwok
 refine C_seq (C_region rfl (R_o rfl (E_assign (R_nil (C_seq (C_region rfl (R_o rfl (E_move (R_o rfl (E_nilCheck rfl ?_))))))))))
 refine R_o rfl (E_fieldAddr rfl ?_)
 refine R_o rfl (E_loada_cell (vs := [.slice A1 m.res.length c1, b, c]) rfl rfl (fun j v hj => Below.cell_some H.below (hv0.market j v hj)) ?_)
 refine R_o rfl (E_move (R_o rfl (E_call rfl (Without_ (Abides.below H.below hmk) hok (by omega)) ?_)))
 rintro _ w1 ⟨x1, x2, x3, rfl, hc⟩
 replace H := H.call1 hc; clear hc
 refine R_o rfl (E_move (R_o rfl (E_extract rfl rfl ?_)))
 refine R_o rfl (E_extract rfl rfl ?_)
 refine R_o rfl (E_alloc H ?_)
 clear H; intro w b7 H
 obtain ⟨q1, q2, q3, e, r1, r2, r3⟩ := (H.fr (rdv (.agg #[x1, x2, x3]) (fun w => RdM w (.agg #[x1, x2, x3]) (without m k)))).read
 cases e
 have hx1 : x1.oneCell' = true := by obtain ⟨_, _, e, _⟩ := r1.len; rw [e]; rfl
 have hx2 : x2.oneCell' = true := by obtain ⟨_, _, e, _⟩ := r2.len; rw [e]; rfl
 have hx3 : x3.oneCell' = true := by obtain ⟨_, _, e, _⟩ := r3.len; rw [e]; rfl
 refine R_n rfl (E_storea (vs := [x1, x2, x3]) H rfl rfl (all3 hx1 hx2 hx3) rfl (by simp) ?_)
 clear H; intro w H
 replace H := H.cle (cs' := [x1, x2, x3]) rfl
 refine R_o rfl (E_assign (R_nil (C_seq (C_region rfl (R_o rfl (E_loadw H rfl (by rfl) ?_))))))
 refine R_o rfl (E_call rfl (Gains2_ (H.fr (rdv (.agg #[x1, x2, x3]) (fun w => RdM w (.agg #[x1, x2, x3]) (without m k)))).read) ?_)
 rintro _ w1 ⟨g1, e1, rfl, hor⟩
 obtain ⟨_, rfl, hc⟩ := hor.resolve_right (fun h => h.1 hwok)
 replace H := H.call1 hc; clear hc
 refine R_o rfl (E_move (R_o rfl (E_extract rfl rfl ?_)))
 refine R_o rfl (E_extract rfl rfl ?_)
 refine R_o rfl (E_assign (R_o rfl (E_assign (R_nil (C_seq (C_region rfl (R_o rfl (E_move (R_o rfl (E_move (R_o rfl (E_nilCheck rfl ?_))))))))))))
 refine R_o rfl (E_fieldAddr rfl ?_)
 refine R_o rfl (E_fieldAddr rfl ?_)
 refine R_o rfl (E_load_cell rfl (Below.cell_some H.below hv0.c0) ?_)
 refine R_o rfl (E_len rfl ?_)
 refine R_o rfl (E_call rfl (WBest_ (g := gains (without m k)) (H.fr (rdv g1 (fun w => RdII w g1 (gains (without m k))))).read (by omega)) ?_)
 rintro v35 w1 ⟨h35, hb⟩
 rw [BestV, if_pos hgo] at h35
 subst h35
 replace H := H.call0 hb; clear hb
 refine R_o rfl (E_move (R_o rfl (E_extract rfl rfl ?_)))
 refine R_o rfl (E_extract rfl rfl ?_)
 refine R_o rfl (E_assign (R_o rfl (E_assign (R_nil (C_seq (C_drawL [] H (by kernel_rfl) (fun w H => ?_)))))))
 refine D_takeT 0 rfl rfl rfl (by kernel_rfl) (fun w K Z kk => E_move kk) ?_
 refine D_takeT 1 rfl rfl rfl (by kernel_rfl) (fun w K Z kk => E_move kk) ?_
 refine D_takeT 3 rfl rfl rfl (by kernel_rfl) (fun w K Z kk => E_move kk) ?_
 refine D_nil 4 rfl rfl rfl (by kernel_rfl) ?_
 refine D_takeT 5 rfl rfl rfl (by kernel_rfl) (fun w K Z kk => E_fieldAddr rfl kk) ?_
 refine D_take 6 rfl rfl rfl (by kernel_rfl) H (fun w HS K Z kk => E_load_cell rfl (Below.cell_some HS.below hv0.c5) kk) ?_
 refine D_takeT 7 rfl rfl rfl (by kernel_rfl) (fun w K Z kk => E_move kk) ?_
 refine D_takeT 8 rfl rfl rfl (by kernel_rfl) (fun w K Z kk => E_idxr hv0.gains rfl rfl (by omega) (by simp; omega) kk) ?_
 refine D_take 9 rfl rfl rfl (by kernel_rfl) H (fun w HS K Z kk => E_loadc hcg HS rfl kk) ?_
 refine D_takeT 10 rfl rfl rfl (by kernel_rfl) (fun w K Z kk => E_move kk) ?_
 refine D_takeT 11 rfl rfl rfl (by kernel_rfl) (fun w K Z kk => E_idxr hug rfl rfl (by omega) (by omega) kk) ?_
 refine D_take 12 rfl rfl rfl (by kernel_rfl) H (fun w HS K Z kk => E_loadi hug HS rfl hg kk) ?_
 refine D_act 2 rfl rfl (by kernel_rfl) (E_call rfl (vsum_ (hv0.below H.below) hE) ?_)
 rintro _ w1 ⟨rfl, hb⟩
 replace H := H.call0 hb; clear hb
 refine ⟨fun _ _ => H, ?_⟩
 refine D_takeT 13 rfl rfl rfl (by kernel_rfl) (fun w K Z kk => E_sub rfl rfl (by omega) kk) ?_
 refine D_takeT 14 rfl rfl rfl (by kernel_rfl) (fun w K Z kk => E_sub rfl rfl (by omega) kk) ?_
 refine D_takeT 15 rfl rfl rfl (by kernel_rfl) (fun w K Z kk => E_assign kk) ?_
 refine D_done (by kernel_rfl) ?_
 refine C_ret ?_
 with_reducible repeat (first | refine thn_ret ?_ | refine inB_ret ?_ | refine noG_ret ?_ | refine jmp_ret ?_)
 refine ret_one rfl rfl ⟨?_, H.below⟩
 unfold lostV
 rw [hgv]; rfl
theorem vpaid_ {w0 : World} {bV : Nat} {a b c ha pa gvv : Value} {m : Mk} {o : Oc} (hv0 : ViewR w0 bV a b c ha pa gvv m o) (hE : evenV m o) :
   Ret Tryz.prog 36 [.pointer (some ⟨bV, 0, none⟩)] w0 (fun v w => v = .bool (decide (wantTo m o o.has.length = o.pri)) ∧ Below w0.heap.size w0 w) := by
 refine ret_of_C Tryz.func36 rfl rfl rfl ?_
 have H := Loc.refl w0
 obtain ⟨Ah, ch, rfl, hh1, hh2⟩ := hv0.has.len
 have hok := hE.1
 have hl1 := hE.2.1
 have hl2 := hE.2.2.1
 have hn1 := hok.1.2.1
 have hn2 := hok.2.1.2
 refine C_seq (C_region rfl (R_o rfl (E_assign (R_nil (C_seq (C_region rfl (R_o rfl (E_move (R_o rfl (E_nilCheck rfl ?_))))))))))
 refine R_o rfl (E_fieldAddr rfl ?_)
 refine R_o rfl (E_fieldAddr rfl ?_)
 refine R_o rfl (E_load_cell rfl (Below.cell_some H.below hv0.c0) ?_)
 refine R_o rfl (E_call rfl (Clone_ints (Abides.below H.below hv0.res) (by omega)) ?_)
 rintro v11 w1 hc
 replace H := H.call1 hc; clear hc
 refine R_o rfl (E_assign (R_nil (C_seq (C_seq (C_region rfl (R_o rfl (E_move (R_o rfl (E_nilCheck rfl ?_)))))))))
 refine R_o rfl (E_fieldAddr rfl ?_)
 refine R_o rfl (E_fieldAddr rfl ?_)
 refine R_o rfl (E_load_cell rfl (Below.cell_some H.below hv0.c3) ?_)
 refine R_o rfl (E_len rfl ?_)
 refine R_o rfl (E_move (R_nil (C_block (C_loop (ds := []) [0, 3, 16, 17, 18] (fun m_ vs w => ∃ k : Nat, vs = [.pointer (some ⟨bV, 0, none⟩), v11, .slice Ah o.has.length ch, .int .i64 o.has.length, .int .i64 k] ∧ m_ = o.has.length - k ∧ k ≤ o.has.length ∧ (True) ∧ Loc w0 w [row 3 1 v11 m.res.length (ints .i64 (wantTo m o k))]) (m := o.has.length) (by first | rfl | exact hd) ?_ ?_))))
 · exact ⟨0, rfl, by omega, by omega, trivial, H⟩
 intro m vs ρ₀ w hd hI
 clear H
 obtain ⟨k, rfl, rfl, hk, hst, H⟩ := hI
 refine C_seq (C_region rfl (R_o rfl (E_lss rfl rfl ?_)))
 refine R_nil (C_seq (C_cond (t := 19) rfl (fun hlt => ?_) (fun hlt => ?_)))
 ·
  obtain ⟨x, hx⟩ := get_of (xs := o.has) (k := k) (by omega)
  have hxi := hE.item hx
  have hgx : o.has.getD k 0 = x := getD_of hx
  refine C_skip (C_seq (C_block (C_seq (C_region rfl (R_o rfl (E_move (R_o rfl (E_idxr hv0.has rfl rfl (by omega) (by omega) ?_))))))))
  refine R_o rfl (E_loadi hv0.has H rfl hx ?_)
  refine R_o rfl (E_assign (R_o rfl (E_assign (R_nil (C_seq (C_region rfl (R_o rfl (E_move (R_o rfl (E_neq rfl rfl ?_))))))))))
  refine R_nil (C_cond (t := 24) rfl (fun h24 => ?_) (fun h24 => ?_))
  ·
   obtain ⟨z, hz⟩ := get_of (xs := wantTo m o k) (k := x.toNat) (by simp; omega)
   have hzb := wantTo_bound hok hxi.2.2.2 k x.toNat
   rw [getD_of hz] at hzb
   have hlb := lostV_bound hok hxi.2.2.2 k x
   refine C_drawL [10] H (by kernel_rfl) (fun w H => ?_)
   refine D_takeT 0 rfl rfl rfl (by kernel_rfl) (fun w K Z kk => E_move kk) ?_
   refine D_takeT 1 rfl rfl rfl (by kernel_rfl) (fun w K Z kk => E_move kk) ?_
   refine D_take 2 rfl rfl rfl (by kernel_rfl) H (fun w HS K Z kk => E_idxw (v := v11) HS rfl rfl (by omega) (by omega) kk) ?_
   refine D_take 3 rfl rfl rfl (by kernel_rfl) H (fun w HS K Z kk => E_loadw' (v := v11) HS rfl (ints_get .i64 _ _ _ hz) kk) ?_
   refine D_takeT 4 rfl rfl rfl (by kernel_rfl) (fun w K Z kk => E_move kk) ?_
   refine D_takeT 5 rfl rfl rfl (by kernel_rfl) (fun w K Z kk => E_move kk) ?_
   refine D_takeT 6 rfl rfl rfl (by kernel_rfl) (fun w K Z kk => E_move kk) ?_
   refine D_act 7 rfl rfl (by kernel_rfl) (E_call rfl (vlost_ (hv0.below H.below) hE hx h24) ?_)
   rintro _ w1 ⟨rfl, hb⟩
   replace H := H.call0 hb; clear hb
   refine ⟨fun _ _ => H, ?_⟩
   refine D_takeT 8 rfl rfl rfl (by kernel_rfl) (fun w K Z kk => E_add rfl rfl (by omega) kk) ?_
   refine D_take 9 rfl rfl rfl (by kernel_rfl) H (fun w HS K Z kk => E_idxw (v := v11) HS rfl rfl (by omega) (by omega) kk) ?_
   refine D_actn 10 rfl (by kernel_rfl) (E_storew (v := v11) (u := .int .i64 (z + lostV m o k x)) H rfl rfl rfl (by omega) ?_)
   clear H; intro w H
   rw [ints_set] at H
   refine ⟨fun h => Bool.noConfusion (h : true = false), ?_⟩
   refine D_done (by kernel_rfl) ?_
   refine C_region rfl (R_o rfl (E_add rfl rfl (by omega) ?_))
   refine R_o rfl (E_move (R_nil ?_))
   first
     | (have e : wantTo m o (k + 1) = wantTo m o k := by simp only [wantTo, hgx]; rw [if_pos (Decidable.of_not_not h24)]
        exact ⟨hd, o.has.length - (k + 1), by omega, k + 1, rfl, rfl, by omega, trivial, by rw [e]; exact H⟩)
     | (have e : wantTo m o (k + 1) = (wantTo m o k).set x.toNat (z + lostV m o k x) := by simp only [wantTo, hgx]; rw [if_neg h24, getD_of hz]
        exact ⟨hd, o.has.length - (k + 1), by omega, k + 1, rfl, rfl, by omega, trivial, by rw [e]; exact H⟩)
  ·
   refine C_skip (C_region rfl (R_o rfl (E_add rfl rfl (by omega) ?_)))
   refine R_o rfl (E_move (R_nil ?_))
   first
     | (have e : wantTo m o (k + 1) = wantTo m o k := by simp only [wantTo, hgx]; rw [if_pos (Decidable.of_not_not h24)]
        exact ⟨hd, o.has.length - (k + 1), by omega, k + 1, rfl, rfl, by omega, trivial, by rw [e]; exact H⟩)
     | (have e : wantTo m o (k + 1) = (wantTo m o k).set x.toNat (z + lostV m o k x) := by simp only [wantTo, hgx]; rw [if_neg h24, getD_of hz]
        exact ⟨hd, o.has.length - (k + 1), by omega, k + 1, rfl, rfl, by omega, trivial, by rw [e]; exact H⟩)
 ·
  obtain rfl : k = o.has.length := by omega
  refine C_exit ?_
  refine C_seq (C_region rfl (R_o rfl (E_move (R_o rfl (E_move (R_o rfl (E_nilCheck rfl ?_)))))))
  refine R_o rfl (E_fieldAddr rfl ?_)
  refine R_o rfl (E_fieldAddr rfl ?_)
  refine R_o rfl (E_load_cell rfl (Below.cell_some H.below hv0.c4) ?_)
  refine R_o rfl (E_call rfl (Equal_ints (s := v11) (xs := wantTo m o o.has.length) (RdI.of_own H.own (by simp)) (Abides.below H.below hv0.pri)) ?_)
  rintro _ w1 ⟨rfl, hb⟩
  replace H := H.call0 hb; clear hb
  refine R_o rfl (E_assign (R_nil (C_ret ?_)))
  with_reducible repeat (first | refine thn_ret ?_ | refine inB_ret ?_ | refine noG_ret ?_ | refine jmp_ret ?_)
  exact ret_one rfl hd ⟨rfl, H.below⟩
theorem jLeast1_ {w0 : World} {b2 b3 : Nat} {a b c ha pa : Value} {m : Mk} {o : Oc} (h2 : w0.heap[b2]? = some (.cells #[a, b, c] 25 (0, 0))) (h3 : w0.heap[b3]? = some (.cells #[ha, pa] 27 (0, 0))) (hm : RdM w0 (.agg #[a, b, c]) m) (ho : RdO w0 (.agg #[ha, pa]) o) :
   Ret Tryz.prog 33 [.pointer (some ⟨b2, 0, none⟩), .pointer (some ⟨b3, 0, none⟩)] w0 (fun r w => ∃ b, r = .bool b ∧ (b = true ↔ evenV m o) ∧ Below w0.heap.size w0 w) := by
 refine ret_of_C Tryz.func33 rfl rfl rfl ?_
 have H := Loc.refl w0
 refine C_seq (C_region rfl (R_o rfl (E_assign (R_nil (C_seq (C_region rfl (R_o rfl (E_loada_cell (vs := [a, b, c]) rfl rfl (fun j v hj => Below.cell_some H.below (by rw [cell_of_blk h2, Nat.zero_add]; simpa using hj)) ?_))))))))
 refine R_o rfl (E_loada_cell (vs := [ha, pa]) rfl rfl (fun j v hj => Below.cell_some H.below (by rw [cell_of_blk h3, Nat.zero_add]; simpa using hj)) ?_)
 refine R_o rfl (E_call rfl (Even_ (Abides.below H.below hm) (Abides.below H.below ho)) ?_)
 rintro _ w1 ⟨bb, rfl, hbb, hb⟩
 replace H := H.call0 hb; clear hb
 refine R_o rfl (E_assign (R_nil (C_ret ?_)))
 with_reducible repeat (first | refine thn_ret ?_ | refine inB_ret ?_ | refine noG_ret ?_ | refine jmp_ret ?_)
 exact ret_one rfl rfl ⟨bb, rfl, hbb, H.below⟩
def BoolFn (P : Program) (fv : Value) (w0 : World) (b : Bool) : Prop := ∃ g first captured, fv = .func (.func g) first captured ∧ hasBody P g = true ∧ ∀ w, Below w0.heap.size w0 w → Ret P g (first.toList ++ captured.toList) w (fun v w' => v = .bool b ∧ Below w.heap.size w w')
def rVal : World → Value → Value → Prop := fun _ u x => u = x
instance : Abides rVal := ⟨fun _ h => h⟩
theorem all1_ {w0 wb : World} {fv : Value} {b : Bool} (h : BoolFn Tryz.prog fv wb b) (hb0 : Below wb.heap.size wb w0) :
   Ret Tryz.prog 53 [fv] w0 (fun v w => v = .bool (!b) ∧ Below w0.heap.size w0 w) := by
 refine ret_of_C Tryz.func53 rfl rfl rfl ?_
 have H := Loc.refl w0
 obtain ⟨g, first, captured, rfl, hgb, hg⟩ := h
 haveI : Hb Tryz.prog g := ⟨hgb⟩
 refine C_seq (C_region rfl (R_o rfl (E_assign (R_nil (C_seq (C_region rfl (R_o rfl (E_move (R_o rfl (E_callv (vs := first.toList ++ captured.toList) rfl (by simp [evs]) (hg _ hb0) ?_))))))))))
 rintro _ w1 ⟨rfl, hb⟩
 replace H := H.call0 hb; clear hb
 refine R_o rfl (E_notb rfl ?_)
 refine R_o rfl (E_assign (R_nil (C_ret ?_)))
 with_reducible repeat (first | refine thn_ret ?_ | refine inB_ret ?_ | refine noG_ret ?_ | refine jmp_ret ?_)
 exact ret_one rfl rfl ⟨rfl, H.below⟩
def FnsOk (P : Program) (w0 : World) (fs : List Value) (q : Nat → Bool) : Prop := ∀ k f, fs[k]? = some f → (∀ j, j < k → q j = true) → BoolFn P f w0 (q k)
theorem IndexFuncB_ {w0 : World} {s : Value} {fs : List Value} {q : Nat → Bool} (hs : RdS rVal w0 s fs) (hq : FnsOk Tryz.prog w0 fs q) :
   Ret Tryz.prog 75 [s, .func (.func 53) #[] #[]] w0 (fun v w => ∃ i : Int, v = .int .i64 i ∧ (0 ≤ i ↔ ¬ ∀ j, j < fs.length → q j = true) ∧ Below w0.heap.size w0 w) := by
 refine ret_of_C Tryz.func75 rfl rfl rfl ?_
 have H := Loc.refl w0
 obtain ⟨A, c, rfl, hc1, hc2⟩ := hs.len
 refine C_seq (C_region rfl (R_o rfl (E_assign (R_nil (C_seq (C_seq (C_region rfl (R_o rfl (E_move (R_o rfl (E_len rfl ?_)))))))))))
 refine R_o rfl (E_move (R_nil (C_block (C_loop (ds := []) [0, 1, 7, 8] (fun m_ vs w => ∃ k : Nat, vs = [.slice A fs.length c, .func (.func 53) #[] #[], .int .i64 fs.length, .int .i64 k] ∧ m_ = fs.length - k ∧ k ≤ fs.length ∧ (∀ j, j < k → q j = true) ∧ Loc w0 w []) (m := fs.length) (by first | rfl | exact hd) ?_ ?_))))
 · exact ⟨0, rfl, by omega, by omega, fun j hj => by omega, H⟩
 intro m vs ρ₀ w hd hI
 clear H
 obtain ⟨k, rfl, rfl, hk, hst, H⟩ := hI
 refine C_seq (C_region rfl (R_o rfl (E_lss rfl rfl ?_)))
 refine R_nil (C_seq (C_cond (t := 9) rfl (fun hlt => ?_) (fun hlt => ?_)))
 ·
  obtain ⟨x, hx⟩ := get_of (xs := fs) (k := k) (by omega)
  refine C_skip (C_seq (C_block (C_seq (C_region rfl (R_o rfl (E_move (R_o rfl (E_assign (R_nil (C_seq (C_region rfl (R_o rfl (E_move (R_o rfl (E_move (R_o rfl (E_move (R_o rfl (E_idxr hs rfl rfl (by omega) (by omega) ?_)))))))))))))))))))
  refine R_o rfl (E_loadr hs H rfl hx ?_)
  rintro _ rfl
  refine R_o rfl (E_callv rfl rfl (all1_ (hq k _ hx hst) H.below) ?_)
  rintro _ w1 ⟨rfl, hb⟩
  replace H := H.call0 hb; clear hb
  refine R_nil (C_condb (t := 16) rfl (fun hpx => ?_) (fun hpx => ?_))
  ·
   refine C_seq (C_region rfl (R_o rfl (E_move (R_o rfl (E_assign (R_nil (C_ret ?_)))))))
   with_reducible repeat (first | refine thn_ret ?_ | refine inB_ret ?_ | refine noG_ret ?_ | refine jmp_ret ?_)
   first
     | exact ret_one rfl hd ⟨_, rfl, ⟨fun _ h => (by rw [h k (by omega)] at hpx; cases hpx), fun _ => (by omega)⟩, H.below⟩
     | exact ret_one rfl hd ⟨_, rfl, ⟨(fun h => by omega), fun h => absurd hst h⟩, H.below⟩
  ·
   refine C_skip (C_region rfl (R_o rfl (E_add rfl rfl (by omega) ?_)))
   refine R_o rfl (E_move (R_nil (⟨hd, fs.length - (k + 1), by omega, k + 1, rfl, rfl, by omega, all_succ.2 ⟨hst, by revert hpx; cases q k <;> simp⟩, H⟩)))
 ·
  obtain rfl : k = fs.length := by omega
  refine C_exit ?_
  refine C_seq (C_region rfl (R_o rfl (E_assign (R_nil (C_ret ?_)))))
  with_reducible repeat (first | refine thn_ret ?_ | refine inB_ret ?_ | refine noG_ret ?_ | refine jmp_ret ?_)
  first
    | exact ret_one rfl hd ⟨_, rfl, ⟨fun _ h => (by rw [h k (by omega)] at hpx; cases hpx), fun _ => (by omega)⟩, H.below⟩
    | exact ret_one rfl hd ⟨_, rfl, ⟨(fun h => by omega), fun h => absurd hst h⟩, H.below⟩
theorem ContainsFuncB_ {w0 : World} {s : Value} {fs : List Value} {q : Nat → Bool} (hs : RdS rVal w0 s fs) (hq : FnsOk Tryz.prog w0 fs q) :
   Ret Tryz.prog 52 [s, .func (.func 53) #[] #[]] w0 (fun v w => ∃ b, v = .bool b ∧ (b = true ↔ ¬ ∀ j, j < fs.length → q j = true) ∧ Below w0.heap.size w0 w) := by
 refine ret_of_C Tryz.func52 rfl rfl rfl ?_
 have H := Loc.refl w0
 refine C_seq (C_region rfl (R_o rfl (E_assign (R_nil (C_seq (C_region rfl (R_o rfl (E_move (R_o rfl (E_move (R_o rfl (E_call rfl (IndexFuncB_ hs hq) ?_))))))))))))
 rintro _ w1 ⟨i7, rfl, hi7, hb⟩
 replace H := H.call0 hb; clear hb
 refine R_o rfl (E_geq rfl rfl ?_)
 refine R_o rfl (E_assign (R_nil (C_ret ?_)))
 with_reducible repeat (first | refine thn_ret ?_ | refine inB_ret ?_ | refine noG_ret ?_ | refine jmp_ret ?_)
 exact ret_one rfl rfl ⟨_, rfl, by rw [decide_eq_true_iff]; exact hi7, H.below⟩
theorem all_ {w0 : World} {s : Value} {fs : List Value} {q : Nat → Bool} (hs : RdS rVal w0 s fs) (hq : FnsOk Tryz.prog w0 fs q) :
   Ret Tryz.prog 32 [s] w0 (fun v w => ∃ b, v = .bool b ∧ (b = true ↔ ∀ j, j < fs.length → q j = true) ∧ Below w0.heap.size w0 w) := by
 refine ret_of_C Tryz.func32 rfl rfl rfl ?_
 have H := Loc.refl w0
 refine C_seq (C_region rfl (R_o rfl (E_assign (R_nil (C_seq (C_region rfl (R_o rfl (E_move (R_o rfl (E_call rfl (ContainsFuncB_ hs hq) ?_))))))))))
 rintro _ w1 ⟨b4, rfl, hb4, hb⟩
 replace H := H.call0 hb; clear hb
 refine R_o rfl (E_notb rfl ?_)
 refine R_o rfl (E_assign (R_nil (C_ret ?_)))
 with_reducible repeat (first | refine thn_ret ?_ | refine inB_ret ?_ | refine noG_ret ?_ | refine jmp_ret ?_)
 exact ret_one rfl rfl ⟨_, rfl, by revert hb4; cases b4 <;> simp, H.below⟩
end Go.Sl
