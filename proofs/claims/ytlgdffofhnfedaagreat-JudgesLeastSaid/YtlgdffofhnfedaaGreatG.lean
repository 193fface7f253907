/- The shallow logic, part 6: a region that draws its order. What floats (it yields one value in every world that meets S) is taken first; what acts comes one by one; f: an operation that comes last of all, behind which S need not hold. No program in sight. The shallow logic, part 7: more operations. No program in sight. -/
import Derived.Test.YtlgdffofhnfedaaGreatE
import Derived.KernelRfl
import Derived.Lib.SliceRun
import Derived.WalkSpells
import Derived.Laws.StructEq
set_option linter.unusedVariables false
set_option linter.unusedSimpArgs false
namespace Go.Sl
open Go.RowKit
section
variable {P : Program} {ops : Array Oper} {Q : Exit → Act → World → Prop} {md : Region.Mode} {S : World → Prop} {f : List Nat}
def anyF (P : Program) (md : Region.Mode) (ops : Array Oper) (Q : Exit → Act → World → Prop) (S : World → Prop) (f : List Nat) : Nat → Array Bool → Act → World → Prop
  | 0, listed, a, w => Region.ready md ops listed = [] ∧ Q .normal a w
  | fuel + 1, listed, a, w =>
    (Region.ready md ops listed = [] → Q .normal a w) ∧
    ∀ i ∈ Region.ready md ops listed, wpOp P ops Q i (fun a' w' => (f.contains i = false → S w → S w') ∧ anyF P md ops Q S f fuel (listed.setIfInBounds i true) a' w') a w
theorem wpAny_of_anyF : ∀ (fuel : Nat) (listed : Array Bool) (a : Act) (w : World), anyF P md ops Q S f fuel listed a w → wpAny P md ops Q fuel listed a w
  | 0, _, _, _, h => h
  | fuel + 1, _, _, _, h => ⟨h.1, fun i hi => wpOp_mono (fun a' w' h' => wpAny_of_anyF fuel _ a' w' h'.2) (h.2 i hi)⟩
def waitsB (md : Region.Mode) (ops : Array Oper) (f : List Nat) (i : Nat) : Bool :=
  f.all fun f => match ops[f]? with
  | some o => o.after.any fun e => Region.binds md e && e.on == i
  | none => true
theorem anyF_firstT {i : Nat} {oi : Oper} {v : Value} (hi : ops[i]? = some oi) (hsel : ∀ (j : Nat) (o : Oper) cs b, ops[j]? = some o → o.op ≠ .select cs b)
    (hQ : ∀ c a w, Q (.panic c) (a.put oi.dst v) w → Q (.panic c) a w) :
    ∀ (fuel : Nat) (listed : Array Bool) (a : Act) (w : World),
      (∀ j oj, ops[j]? = some oj → j ≠ i → listed.getD j true = false → (∀ e ∈ oj.after, Region.binds md e = true → e.on ≠ i) → oi.apart ops oj = true) →
      i ∈ Region.ready md ops listed → YieldsIf P ops (fun _ => True) oi v a →
      anyF P md ops Q S f fuel (listed.setIfInBounds i true) (a.put oi.dst v) w → anyF P md ops Q S f (fuel + 1) listed a w := by
  intro fuel
  induction fuel with
  | zero =>
    intro listed a w hfree hr hy H
    refine ⟨fun h => (by rw [h] at hr; cases hr), fun j hj => ?_⟩
    by_cases hji : j = i
    · subst hji; exact hy.wpOp hi trivial ⟨fun _ h => h, H⟩
    · have := ready_mono hj hji
      rw [H.1] at this
      cases this
  | succ fuel ih =>
    intro listed a w hfree hr hy H
    refine ⟨fun h => (by rw [h] at hr; cases hr), fun j hj => ?_⟩
    by_cases hji : j = i
    · subst hji; exact hy.wpOp hi trivial ⟨fun _ h => h, H⟩
    · have h1 := H.2 j (ready_mono hj hji)
      obtain ⟨hjun, oj, hoj, hall⟩ := mem_ready.1 hj
      have hcontra : ∀ e : Edge, e ∈ oj.after → Region.binds md e = true → e.on = i → False := fun e he hb heq => by
        have h1 := hall e he hb
        have h0 := (mem_ready.1 hr).1
        rw [heq] at h1
        rcases Nat.lt_or_ge i listed.size with h' | h'
        · simp [h'] at h0 h1; rw [h0] at h1; cases h1
        · simp [Array.getElem?_eq_none h'] at h1
      have hnot : ∀ e ∈ oj.after, Region.binds md e = true → e.on ≠ i := fun e he hb heq => hcontra e he hb heq
      have h2 := wpOp_putIf hoj (hfree j oj hoj hji hjun hnot) (fun cs b => hsel i oi cs b hi) (fun cs b => hsel j oj cs b hoj) hQ hy h1
      have hfree' : ∀ k ok, ops[k]? = some ok → k ≠ i → (listed.setIfInBounds j true).getD k true = false →
          (∀ e ∈ ok.after, Region.binds md e = true → e.on ≠ i) → oi.apart ops ok = true := fun k ok hk hki hun hno => by
        refine hfree k ok hk hki ?_ hno
        by_cases hjk : j = k
        · subst hjk; exact hjun
        · rw [getD_set_ne true hjk] at hun; exact hun
      refine wpOp_mono (fun a' w' h3 => ⟨h3.2.1, ih (listed.setIfInBounds j true) a' w' hfree' (ready_mono hr (Ne.symm hji)) h3.1 ?_⟩) h2
      · rw [Array.setIfInBounds_comm _ _ hji]
        exact h3.2.2
theorem anyF_first {i : Nat} {oi : Oper} {v : Value} (hi : ops[i]? = some oi) (hsel : ∀ (j : Nat) (o : Oper) cs b, ops[j]? = some o → o.op ≠ .select cs b)
    (hQ : ∀ c a w, Q (.panic c) (a.put oi.dst v) w → Q (.panic c) a w) (hwait : waitsB md ops f i = true) :
    ∀ (fuel : Nat) (listed : Array Bool) (a : Act) (w : World),
      (∀ j oj, ops[j]? = some oj → j ≠ i → listed.getD j true = false → (∀ e ∈ oj.after, Region.binds md e = true → e.on ≠ i) → oi.apart ops oj = true) →
      i ∈ Region.ready md ops listed → YieldsIf P ops S oi v a → S w →
      anyF P md ops Q S f fuel (listed.setIfInBounds i true) (a.put oi.dst v) w → anyF P md ops Q S f (fuel + 1) listed a w := by
  intro fuel
  induction fuel with
  | zero =>
    intro listed a w hfree hr hy hS H
    refine ⟨fun h => (by rw [h] at hr; cases hr), fun j hj => ?_⟩
    by_cases hji : j = i
    · subst hji; exact hy.wpOp hi hS ⟨fun _ h => h, H⟩
    · have := ready_mono hj hji
      rw [H.1] at this
      cases this
  | succ fuel ih =>
    intro listed a w hfree hr hy hS H
    refine ⟨fun h => (by rw [h] at hr; cases hr), fun j hj => ?_⟩
    by_cases hji : j = i
    · subst hji; exact hy.wpOp hi hS ⟨fun _ h => h, H⟩
    · have h1 := H.2 j (ready_mono hj hji)
      obtain ⟨hjun, oj, hoj, hall⟩ := mem_ready.1 hj
      have hcontra : ∀ e : Edge, e ∈ oj.after → Region.binds md e = true → e.on = i → False := fun e he hb heq => by
        have h1 := hall e he hb
        have h0 := (mem_ready.1 hr).1
        rw [heq] at h1
        rcases Nat.lt_or_ge i listed.size with h' | h'
        · simp [h'] at h0 h1; rw [h0] at h1; cases h1
        · simp [Array.getElem?_eq_none h'] at h1
      have hnot : ∀ e ∈ oj.after, Region.binds md e = true → e.on ≠ i := fun e he hb heq => hcontra e he hb heq
      have hjf : f.contains j = false := by
        cases hc : f.contains j with
        | false => rfl
        | true =>
        exfalso
        have hmem : j ∈ f := by simpa using hc
        unfold waitsB at hwait
        have hwait := List.all_eq_true.1 hwait j hmem
        rw [hoj] at hwait
        simp only [Array.any_eq_true', Bool.and_eq_true, beq_iff_eq] at hwait
        obtain ⟨e, he, hb, hon⟩ := hwait
        exact hcontra e he hb hon
      have h2 := wpOp_putIf hoj (hfree j oj hoj hji hjun hnot) (fun cs b => hsel i oi cs b hi) (fun cs b => hsel j oj cs b hoj) hQ hy h1
      have hfree' : ∀ k ok, ops[k]? = some ok → k ≠ i → (listed.setIfInBounds j true).getD k true = false →
          (∀ e ∈ ok.after, Region.binds md e = true → e.on ≠ i) → oi.apart ops ok = true := fun k ok hk hki hun hno => by
        refine hfree k ok hk hki ?_ hno
        by_cases hjk : j = k
        · subst hjk; exact hjun
        · rw [getD_set_ne true hjk] at hun; exact hun
      refine wpOp_mono (fun a' w' h3 => ⟨h3.2.1, ih (listed.setIfInBounds j true) a' w' hfree' (ready_mono hr (Ne.symm hji)) h3.1 (h3.2.1 hjf hS) ?_⟩) h2
      rw [Array.setIfInBounds_comm _ _ hji]
      exact h3.2.2
end
class PanOk (Q : Post) : Prop where h : ∀ c (ρ ρ' : Rg) w, ρ'.d = ρ.d → Q (.panic c) ρ w → Q (.panic c) ρ' w
instance (K : Rg → World → Prop) (Q : Post) [h : PanOk Q] : PanOk (thn K Q) := ⟨fun c ρ ρ' w e hq => h.h c ρ ρ' w e hq⟩
instance (id : Nat) (Q : Post) [h : PanOk Q] : PanOk (inB id Q) := ⟨fun c ρ ρ' w e hq => h.h c ρ ρ' w e hq⟩
instance (Q : Post) [h : PanOk Q] : PanOk (noG Q) := ⟨fun c ρ ρ' w e hq => h.h c ρ ρ' w e hq⟩
instance (P : Program) (fn : Func) (Rt : Ending → World → Prop) : PanOk (bodyQ P fn Rt) := ⟨fun c ρ ρ' w e hq => ⟨e.trans hq.1, hq.2⟩⟩
def D (P : Program) (n : Nat) (ops : List Oper) (Q : Post) (S : World → Prop) (f : List Nat) (fuel : Nat) (listed : Array Bool) (ρ : Rg) (w : World) : Prop :=
  ∀ a, Is n a ρ → anyF P .any ops.toArray (lift n Q) S f fuel listed a w
def valOp : Op → Bool
  | .move _ | .assign _ | .pick .. | .alloc _ | .box .. | .build .. | .buildSlice .. | .load .. | .binOp .. | .unOp .. | .convert .. | .makeInterface .. | .makeFunc .. | .makeMap .. | .makeSlice ..
  | .slice .. | .fieldAddr .. | .field .. | .indexAddr .. | .index .. | .lookup .. | .extract .. | .typeAssert .. => true
  | .call { callee := .builtin .len, .. } | .call { callee := .builtin .cap, .. } | .call { callee := .builtin .max, .. } | .call { callee := .builtin .min, .. } => true
  | _ => false
theorem run_map_value {P : Program} {s : Sem Value} {w w' : World} {x : Next} (h : (s >>= fun v => pure (Next.value v)).run P w = .ok x w') : ∃ v, x = .value v := by
  rw [Sem.run_bind] at h
  cases hs : s.run P w with
  | ok a w2 => rw [hs] at h; simp only [Result.andThen_ok, Sem.run_pure, Result.ok.injEq] at h; exact ⟨a, h.1.symm⟩
  | halt hh w2 => rw [hs] at h; simp at h
theorem valOp_value {P : Program} {fv : Operand → Value} {op : Op} {ty : TypeId} {w w' : World} {x : Next} (hv : valOp op = true) (h : (execOp fv ⟨none, op, ty, "", #[], none⟩).run P w = .ok x w') : ∃ v, x = .value v := by
  cases op with
  | move x => simp [execOp] at h; exact ⟨_, h.1.symm⟩
  | assign x => simp [execOp] at h; exact ⟨_, h.1.symm⟩
  | pick c a b => exact run_map_value (s := do pure (if ← asBool (fv c) then fv a else fv b)) (by simpa [execOp] using h)
  | call c =>
    obtain ⟨callee, args, ats⟩ := c
    cases callee with
    | builtin b => cases b <;> first | (cases hv; done) | (exact run_map_value (by simpa [execOp, resolve, invoke, builtin] using h))
    | value _ => cases hv
    | invoke _ _ => cases hv
  | _ => first | (cases hv; done) | (exact run_map_value (by simpa only [execOp] using h))
theorem yields_of_E {P : Program} {ρ : Rg} {w : World} {op : Op} {ty : TypeId} {v : Value} (hv : valOp op = true) (h : ∀ (K : Value → World → Prop) (Z : List PanicEntry → World → Prop), K v w → E P false ρ w op ty K Z) :
    (execOp ρ.ev ⟨none, op, ty, "", #[], none⟩).run P w = .ok (.value v) w := by
  have h1 := h (fun v' w' => v' = v ∧ w' = w) (fun _ _ => False) ⟨rfl, rfl⟩
  unfold E at h1
  cases hr : (execOp ρ.ev ⟨none, op, ty, "", #[], none⟩).run P w with
  | ok x w' =>
    obtain ⟨u, rfl⟩ := valOp_value hv hr
    rw [hr] at h1
    obtain ⟨rfl, rfl⟩ := h1
    rfl
  | halt x w' =>
    rw [hr] at h1
    cases x <;> exact h1.elim
def takeB (ops : List Oper) (f : List Nat) (listed : Array Bool) (i : Nat) : Bool :=
  Region.noSelect ops.toArray && Region.free .any ops.toArray listed i && (Region.ready .any ops.toArray listed).contains i && waitsB .any ops.toArray f i
def takeTB (ops : List Oper) (listed : Array Bool) (i : Nat) : Bool :=
  Region.noSelect ops.toArray && Region.free .any ops.toArray listed i && (Region.ready .any ops.toArray listed).contains i
def stepB (ops : List Oper) (listed : Array Bool) (i : Nat) : Bool := Region.ready .any ops.toArray listed == [i]
def doneB (ops : List Oper) (listed : Array Bool) : Bool := Region.ready .any ops.toArray listed == []
section rules
variable {P : Program} {n : Nat} {ops : List Oper} {Q : Post} {S : World → Prop} {f : List Nat} {fuel : Nat} {listed : Array Bool} {ρ : Rg} {w : World}
theorem C_draw {id : Nat} (f : List Nat) (S : World → Prop) (hm : P.follows .mixedOrders = true) (h : D P n ops Q S f ops.length (Array.replicate ops.length false) ρ w.drew) : C P none n (.region id ops.toArray true) Q ρ w := by
  intro a ha
  refine wpIn_wide.2 (wp_region_any hm ?_)
  have := wpAny_of_anyF _ _ _ _ (h a ha)
  simpa using this
theorem D_taken {i : Nat} {oi : Oper} {v : Value} [hp : PanOk Q] (ho : ops[i]? = some oi) (hok : dstOk n oi = true) (ht : takeB ops f listed i = true)
    (hy : ∀ a, Is n a ρ → YieldsIf P ops.toArray S oi v a) (hS : S w) (h : D P n ops Q S f fuel (listed.setIfInBounds i true) (ρ.put oi.dst v) w) : D P n ops Q S f (fuel + 1) listed ρ w := by
  intro a ha
  simp only [takeB, Bool.and_eq_true] at ht
  obtain ⟨⟨⟨h1, h2⟩, h3⟩, h4⟩ := ht
  have ho' : ops.toArray[i]? = some oi := by simpa using ho
  refine anyF_first ho' (Region.noSelect_spec h1) ?_ h4 fuel listed a w (Region.free_spec ho' h2) (by simpa using h3) (hy a ha) hS (h _ (ha.put hok v))
  rintro c a' w' ⟨ρ', hi', hq⟩
  have hsz : a'.tmps.size = n := by
    have := hi'.size
    cases hd : oi.dst with
    | none => rw [hd] at this; simpa [Act.put] using this
    | some d => rw [hd] at this; simpa [Act.put] using this
  have hdf : a'.defers = ρ'.d := by
    have := hi'.defers
    cases hd : oi.dst with
    | none => rw [hd] at this; simpa [Act.put] using this
    | some d => rw [hd] at this; simpa [Act.put] using this
  exact ⟨⟨fun i => a'.tmps.getD i undef, a'.defers⟩, ⟨hsz, fun _ => rfl, rfl⟩, hp.h c ρ' _ w' hdf hq⟩
theorem D_takenT {i : Nat} {oi : Oper} {v : Value} [hp : PanOk Q] (ho : ops[i]? = some oi) (hok : dstOk n oi = true) (ht : takeTB ops listed i = true)
    (hy : ∀ a, Is n a ρ → YieldsIf P ops.toArray (fun _ => True) oi v a) (h : D P n ops Q S f fuel (listed.setIfInBounds i true) (ρ.put oi.dst v) w) : D P n ops Q S f (fuel + 1) listed ρ w := by
  intro a ha
  simp only [takeTB, Bool.and_eq_true] at ht
  obtain ⟨⟨h1, h2⟩, h3⟩ := ht
  have ho' : ops.toArray[i]? = some oi := by simpa using ho
  refine anyF_firstT ho' (Region.noSelect_spec h1) ?_ fuel listed a w (Region.free_spec ho' h2) (by simpa using h3) (hy a ha) (h _ (ha.put hok v))
  rintro c a' w' ⟨ρ', hi', hq⟩
  have hsz : a'.tmps.size = n := by
    have := hi'.size
    cases hd : oi.dst with
    | none => rw [hd] at this; simpa [Act.put] using this
    | some d => rw [hd] at this; simpa [Act.put] using this
  have hdf : a'.defers = ρ'.d := by
    have := hi'.defers
    cases hd : oi.dst with
    | none => rw [hd] at this; simpa [Act.put] using this
    | some d => rw [hd] at this; simpa [Act.put] using this
  exact ⟨⟨fun i => a'.tmps.getD i undef, a'.defers⟩, ⟨hsz, fun _ => rfl, rfl⟩, hp.h c ρ' _ w' hdf hq⟩
theorem D_takeT (i : Nat) {d : Tmp} {op : Op} {ty : TypeId} {p : String} {af : Array Edge} {v : Value} [PanOk Q] (ho : ops[i]? = some ⟨some d, op, ty, p, af, none⟩) (hv : valOp op = true) (hok : Nat.ble (d + 1) n = true) (ht : takeTB ops listed i = true)
    (he : ∀ w', ∀ (K : Value → World → Prop) (Z : List PanicEntry → World → Prop), K v w' → E P false ρ w' op ty K Z) (h : D P n ops Q S f fuel (listed.setIfInBounds i true) (ρ.up d v) w) : D P n ops Q S f (fuel + 1) listed ρ w :=
  D_takenT ho hok ht (fun a ha => .inl ⟨by simp [Region.wanted], fun w' _ => by rw [ha.ev, execOp_op]; exact yields_of_E hv (he w')⟩) h
theorem D_takeTw (i : Nat) {d : Tmp} {op : Op} {ty : TypeId} {p : String} {af : Array Edge} {j t : Nat} {b : Bool} {v : Value} [PanOk Q] (ho : ops[i]? = some ⟨some d, op, ty, p, af, some (j, b)⟩) (hj : guardSlot ops j = some t) (hb : ρ.r t = .bool b) (hv : valOp op = true) (hok : Nat.ble (d + 1) n = true) (ht : takeTB ops listed i = true)
    (he : ∀ w', ∀ (K : Value → World → Prop) (Z : List PanicEntry → World → Prop), K v w' → E P false ρ w' op ty K Z) (h : D P n ops Q S f fuel (listed.setIfInBounds i true) (ρ.up d v) w) : D P n ops Q S f (fuel + 1) listed ρ w :=
  D_takenT ho hok ht (fun a ha => .inl ⟨by simp [Region.wanted, yielded_of ha hj hb], fun w' _ => by rw [ha.ev, execOp_op]; exact yields_of_E hv (he w')⟩) h
theorem D_passT (i : Nat) {d : Tmp} {op : Op} {ty : TypeId} {p : String} {af : Array Edge} {j t : Nat} {b b' : Bool} [PanOk Q] (ho : ops[i]? = some ⟨some d, op, ty, p, af, some (j, b)⟩) (hj : guardSlot ops j = some t) (hb : ρ.r t = .bool b') (hne : (b' == b) = false) (hok : Nat.ble (d + 1) n = true) (ht : takeTB ops listed i = true)
    (h : D P n ops Q S f fuel (listed.setIfInBounds i true) (ρ.up d undef) w) : D P n ops Q S f (fuel + 1) listed ρ w :=
  D_takenT ho hok ht (fun a ha => .inr ⟨by
    have hne' : ¬ (b' = b) := by simpa using hne
    simp [Region.wanted, yielded_of ha hj hb, hne'], rfl⟩) h
theorem D_nil (i : Nat) {d : Tmp} {x : Operand} {a : Addr} {ty : TypeId} {p : String} {af : Array Edge} [PanOk Q] (ho : ops[i]? = some ⟨some d, .nilCheck x, ty, p, af, none⟩) (hx : ρ.ev x = .pointer (some a)) (hok : Nat.ble (d + 1) n = true) (ht : takeTB ops listed i = true)
    (h : D P n ops Q S f fuel (listed.setIfInBounds i true) (ρ.up d (.pointer (some a))) w) : D P n ops Q S f (fuel + 1) listed ρ w :=
  D_takenT ho hok ht (fun b hb => .inl ⟨by simp [Region.wanted], fun w' _ => by rw [hb.ev, execOp_op]; simp [execOp, hx]⟩) h
theorem D_take (i : Nat) {d : Tmp} {op : Op} {ty : TypeId} {p : String} {af : Array Edge} {v : Value} [PanOk Q] (ho : ops[i]? = some ⟨some d, op, ty, p, af, none⟩) (hv : valOp op = true) (hok : Nat.ble (d + 1) n = true) (ht : takeB ops f listed i = true) (hS : S w)
    (he : ∀ w', S w' → ∀ (K : Value → World → Prop) (Z : List PanicEntry → World → Prop), K v w' → E P false ρ w' op ty K Z) (h : D P n ops Q S f fuel (listed.setIfInBounds i true) (ρ.up d v) w) : D P n ops Q S f (fuel + 1) listed ρ w :=
  D_taken ho hok ht (fun a ha => .inl ⟨by simp [Region.wanted], fun w' hw' => by rw [ha.ev, execOp_op]; exact yields_of_E hv (he w' hw')⟩) hS h
theorem D_takew (i : Nat) {d : Tmp} {op : Op} {ty : TypeId} {p : String} {af : Array Edge} {j t : Nat} {b : Bool} {v : Value} [PanOk Q] (ho : ops[i]? = some ⟨some d, op, ty, p, af, some (j, b)⟩) (hj : guardSlot ops j = some t) (hb : ρ.r t = .bool b) (hv : valOp op = true) (hok : Nat.ble (d + 1) n = true) (ht : takeB ops f listed i = true) (hS : S w)
    (he : ∀ w', S w' → ∀ (K : Value → World → Prop) (Z : List PanicEntry → World → Prop), K v w' → E P false ρ w' op ty K Z) (h : D P n ops Q S f fuel (listed.setIfInBounds i true) (ρ.up d v) w) : D P n ops Q S f (fuel + 1) listed ρ w :=
  D_taken ho hok ht (fun a ha => .inl ⟨by simp [Region.wanted, yielded_of ha hj hb], fun w' hw' => by rw [ha.ev, execOp_op]; exact yields_of_E hv (he w' hw')⟩) hS h
theorem D_part {t : Nat} {p : Prop} [Decidable p] (hb : ρ.r t = .bool (decide p)) (h1 : p → D P n ops Q S f fuel listed (ρ.up t (.bool true)) w) (h2 : ¬ p → D P n ops Q S f fuel listed (ρ.up t (.bool false)) w) : D P n ops Q S f fuel listed ρ w := by
  by_cases hp : p
  · have := h1 hp
    rwa [Rg.up_same (by rw [hb]; simp [hp])] at this
  · have := h2 hp
    rwa [Rg.up_same (by rw [hb]; simp [hp])] at this
theorem upon_of_fin {o : Oper} {a : Act} {K : Value → World → Prop} {Z : List PanicEntry → World → Prop} {next : Act → World → Prop} {Q : Exit → Act → World → Prop}
    (hK : ∀ v w, K v w → next (a.put o.dst v) w) (hZ : ∀ c w, Z c w → Q (.panic c) a w) {r : Result Next} (h : Fin P false K Z r) : o.upon P a next Q r := by
  cases r with
  | ok x w =>
    cases x <;> first
      | exact hK _ _ h
      | exact h.elim
      | (refine Calls.mono h ?_
         intro e w' he
         cases e with
         | returned v => exact hK _ _ he
         | panicked c => exact hZ _ _ he
         | outgrown => exact he.elim)
      | (cases h.1)
  | halt x w =>
    cases x <;> first
      | exact hZ _ _ h
      | exact h.elim
theorem D_acts (i : Nat) {oi : Oper} (ho : ops[i]? = some oi) (hw : ∀ a, Is n a ρ → Region.wanted oi (yielded ops.toArray a.tmps) = true) (hok : dstOk n oi = true) (ht : stepB ops listed i = true)
    (h : E P false ρ w oi.op oi.type (fun v w' => (f.contains i = false → S w → S w') ∧ D P n ops Q S f fuel (listed.setIfInBounds i true) (ρ.put oi.dst v) w') (fun c w' => Q (.panic c) ρ w')) : D P n ops Q S f (fuel + 1) listed ρ w := by
  intro a ha
  have hr : Region.ready .any ops.toArray listed = [i] := by simpa [stepB] using ht
  refine ⟨fun h0 => (by rw [hr] at h0; cases h0), fun j hj => ?_⟩
  rw [hr] at hj
  obtain rfl : j = i := by simpa using hj
  unfold wpOp
  have ho' : ops.toArray[j]? = some oi := by simpa using ho
  rw [ho']
  dsimp only
  rw [if_pos (hw a ha)]
  refine .inl ?_
  unfold Oper.wp
  rw [ha.ev, show execOp ρ.ev oi = execOp ρ.ev ⟨none, oi.op, oi.type, "", #[], none⟩ from execOp_op ρ.ev oi.dst oi.op oi.type oi.pos oi.after oi.guard]
  exact upon_of_fin (P := P) (fun v w' hK => ⟨hK.1, hK.2 _ (ha.put hok v)⟩) (fun c w' hz => ⟨ρ, ha, hz⟩) h
theorem D_act (i : Nat) {d : Tmp} {op : Op} {ty : TypeId} {p : String} {af : Array Edge} (ho : ops[i]? = some ⟨some d, op, ty, p, af, none⟩) (hok : Nat.ble (d + 1) n = true) (ht : stepB ops listed i = true)
    (h : E P false ρ w op ty (fun v w' => (f.contains i = false → S w → S w') ∧ D P n ops Q S f fuel (listed.setIfInBounds i true) (ρ.up d v) w') (fun c w' => Q (.panic c) ρ w')) : D P n ops Q S f (fuel + 1) listed ρ w :=
  D_acts i ho (fun a _ => by simp [Region.wanted]) hok ht h
theorem D_actn (i : Nat) {op : Op} {ty : TypeId} {p : String} {af : Array Edge} (ho : ops[i]? = some ⟨none, op, ty, p, af, none⟩) (ht : stepB ops listed i = true)
    (h : E P false ρ w op ty (fun _ w' => (f.contains i = false → S w → S w') ∧ D P n ops Q S f fuel (listed.setIfInBounds i true) ρ w') (fun c w' => Q (.panic c) ρ w')) : D P n ops Q S f (fuel + 1) listed ρ w :=
  D_acts i ho (fun a _ => by simp [Region.wanted]) rfl ht h
theorem D_actw (i : Nat) {d : Tmp} {op : Op} {ty : TypeId} {p : String} {af : Array Edge} {j t : Nat} {b : Bool} (ho : ops[i]? = some ⟨some d, op, ty, p, af, some (j, b)⟩) (hj : guardSlot ops j = some t) (hb : ρ.r t = .bool b) (hok : Nat.ble (d + 1) n = true) (ht : stepB ops listed i = true)
    (h : E P false ρ w op ty (fun v w' => (f.contains i = false → S w → S w') ∧ D P n ops Q S f fuel (listed.setIfInBounds i true) (ρ.up d v) w') (fun c w' => Q (.panic c) ρ w')) : D P n ops Q S f (fuel + 1) listed ρ w :=
  D_acts i ho (fun a ha => by simp [Region.wanted, yielded_of ha hj hb]) hok ht h
theorem D_done (ht : doneB ops listed = true) (h : Q .normal ρ w) : D P n ops Q S f fuel listed ρ w := by
  intro a ha
  have hr : Region.ready .any ops.toArray listed = [] := by simpa [doneB] using ht
  cases fuel with
  | zero => exact ⟨hr, ρ, ha, h⟩
  | succ fuel => exact ⟨fun _ => ⟨ρ, ha, h⟩, fun i hi => (by rw [hr] at hi; cases hi)⟩
end rules
end Go.Sl
namespace Go.Sl
theorem C_drawL {P : Program} {n : Nat} {ops : List Oper} {Q : Post} {ρ : Rg} {w w0 : World} {L : List HP} {id : Nat} (f : List Nat) (H : Loc w0 w L) (hm : P.follows .mixedOrders = true)
    (h : ∀ w', Loc w0 w' L → D P n ops Q (fun w' => Loc w0 w' L) f ops.length (Array.replicate ops.length false) ρ w') : C P none n (.region id ops.toArray true) Q ρ w :=
  C_draw f _ hm (h _ H.drew)
theorem C_drawS {P : Program} {n : Nat} {ops : List Oper} {Q : Post} {ρ : Rg} {w w0 : World} {L : List HP} {id : Nat} (f : List Nat) (L2 : List HP) (H : Loc w0 w L) (hm : P.follows .mixedOrders = true)
    (h : ∀ w', Loc w0 w' L → D P n ops Q (fun w' => Loc w0 w' L2) f ops.length (Array.replicate ops.length false) ρ w') : C P none n (.region id ops.toArray true) Q ρ w :=
  C_draw f _ hm (h _ H.drew)
def CellAt (w0 : World) (v : Value) (j : Nat) (u : Value) : Prop := ∃ ad, sad v j = .pointer (some ad) ∧ w0.cell? ad = some u
theorem RdS.at {α : Type} {r : World → Value → α → Prop} {w0 : World} {v : Value} {xs : List α} (h : RdS r w0 v xs) {j : Nat} {e : α} (he : xs[j]? = some e) : ∃ u, CellAt w0 v j u ∧ r w0 u e := by
  obtain ⟨A, c, rfl, _, _, hel⟩ := h
  obtain ⟨ad, u, rfl, hc, hr⟩ := hel j e he
  exact ⟨u, ⟨_, rfl, hc⟩, hr⟩
theorem E_loadc {P : Program} {yl : Bool} {ρ : Rg} {w w0 : World} {L : List HP} {ty : TypeId} {K : Value → World → Prop} {Z : List PanicEntry → World → Prop} {x : Operand} {t : TypeId} [Sc P t] {v : Value} {j : Nat} {u : Value}
    (h : CellAt w0 v j u) (H : Loc w0 w L) (hp : ρ.ev x = sad v j) (k : K u w) : E P yl ρ w (.load t x) ty K Z := by
  obtain ⟨ad, hs, hc⟩ := h
  exact E_load_cell (hp.trans hs) (Below.cell_some H.below hc) k
end Go.Sl
set_option linter.unusedVariables false
set_option linter.unusedSimpArgs false
namespace Go.Sl
open Go.RowKit
section ends
variable {P : Program} {fn : Func} {Po : Value → World → Prop} {ρ : Rg} {w : World}
theorem ret_three {t u s : Nat} (hr : fn.results = #[.tmp t, .tmp u, .tmp s]) (hd : ρ.d = []) (h : Po (.tuple #[ρ.r t, ρ.r u, ρ.r s]) w) : bodyQ P fn (fun e w' => ∃ v, e = .returned v ∧ Po v w') .ret ρ w :=
  ⟨hd, fun tmps ht => ⟨.tuple #[ρ.r t, ρ.r u, ρ.r s], by rw [← ht t, ← ht u, ← ht s]; simp [results, hr], _, rfl, h⟩⟩
end ends
section ops
variable {P : Program} {yl : Bool} {ρ : Rg} {w w0 : World} {L L' : List HP} {ty : TypeId} {K : Value → World → Prop} {Z : List PanicEntry → World → Prop} {x y z : Operand}
theorem E_eqnil {t e sz by_ : Nat} [hs : St P t e sz by_] {A : Option Addr} {n c n' c' : Nat} {yt : TypeId} (hx : ρ.ev x = .slice A n c) (hy : ρ.ev y = .slice none n' c') (k : K (.bool (decide (A = none))) w) : E P yl ρ w (.binOp .eql t x y yt) ty K Z := by
  obtain ⟨hu, _⟩ := hs.inf
  refine E_of_run ?_ k
  have h1 := Lib.run_eql_slice_nil (P := P) w t e A n c n' c' hu
  have h2 : (eqGuard .eql t x y (.slice A n c) (.slice none n' c')).run P w = .ok () w := by simp [eqGuard]
  simp only [execOp, hx, hy, Sem.run_bind, h1, h2, Result.andThen_ok, Sem.run_pure]
  cases A <;> rfl
theorem E_max2 {a b : Int} {ats : Array TypeId} (hx : ρ.ev x = .int .i64 a) (hy : ρ.ev y = .int .i64 b) (k : K (.int .i64 (max a b)) w) :
    E P yl ρ w (.call { callee := .builtin .max, args := #[x, y], argTypes := ats }) ty K Z := by
  refine E_of_run ?_ k
  have : (if b > a then b else a) = max a b := by omega
  simp [execOp, resolve, invoke, builtin, Builtin.max_, Builtin.max2, hx, hy, List.foldlM]
  omega
theorem E_min2 {a b : Int} {ats : Array TypeId} (hx : ρ.ev x = .int .i64 a) (hy : ρ.ev y = .int .i64 b) (k : K (.int .i64 (min a b)) w) :
    E P yl ρ w (.call { callee := .builtin .min, args := #[x, y], argTypes := ats }) ty K Z := by
  refine E_of_run ?_ k
  have : (if b < a then b else a) = min a b := by omega
  simp [execOp, resolve, invoke, builtin, Builtin.min_, Builtin.min2, hx, hy, List.foldlM]
  omega
theorem E_clip {t e sz by_ : Nat} [hs : St P t e sz by_] {A : Option Addr} {len cap m : Nat} {hi mx : Operand} (hx : ρ.ev x = .slice A len cap) (h1 : ρ.ev hi = .int .i64 (m : Int)) (h2 : ρ.ev mx = .int .i64 (m : Int)) (hm : m ≤ cap)
    (k : K (.slice A m m) w) : E P yl ρ w (.slice t x none (some hi) (some mx)) ty K Z := by
  refine E_of_run (run_slice' (lo := none) (hi := some hi) (mx := some mx) (l := 0) (h := m) (m := m) hx h2 h1 rfl (by omega) (by omega) hm) ?_
  have e : (if m = 0 then A else A.map (·.add (0 * sz))) = A := by
    split
    · rfl
    · cases A with
      | none => rfl
      | some a => simp [Addr.add]
  rw [e]
  exact k
theorem E_slice {t e sz by_ : Nat} [hs : St P t e sz by_] {A : Option Addr} {len cap : Nat} {lo hi : Option Operand} {l h : Nat} (hx : ρ.ev x = .slice A len cap)
    (hlo : (match lo with | none => l = 0 | some o => ρ.ev o = .int .i64 (l : Int))) (hhi : (match hi with | none => h = len | some o => ρ.ev o = .int .i64 (h : Int))) (h1 : l ≤ h) (h2 : h ≤ cap)
    (k : K (.slice (if cap = l then A else A.map (·.add (l * sz))) (h - l) (cap - l)) w) : E P yl ρ w (.slice t x lo hi none) ty K Z :=
  E_of_run (run_slice' (mx := none) (l := l) (h := h) (m := cap) hx rfl (by cases hi <;> simp_all) hlo h1 h2 (Nat.le_refl _)) k
theorem E_sliceArr {t len e sz : Nat} [hs : At P t len e sz] {b : Nat} (hx : ρ.ev x = .pointer (some ⟨b, 0, none⟩)) (k : K (.slice (some ⟨b, 0, none⟩) len len) w) : E P yl ρ w (.slice t x none none none) ty K Z := by
  obtain ⟨hu, i, hi, hsz⟩ := hs.inf
  refine E_of_run ?_ k
  simp [execOp, Instr.sliceAt, run_underlying hu, Instr.sureAddr, hx, Instr.sliceBounds, run_sizeOf' hi, Addr.add]
theorem E_shl {a b : Int} {xt yt : TypeId} {yk : IntKind} (hx : ρ.ev x = .int .i64 a) (hy : ρ.ev y = .int yk b) (h0 : 0 ≤ b) (h1 : b < 63) (hr : -9223372036854775808 ≤ a * 2 ^ b.toNat ∧ a * 2 ^ b.toNat ≤ 9223372036854775807) (k : K (.int .i64 (a * 2 ^ b.toNat)) w) :
    E P yl ρ w (.binOp .shl xt x y yt) ty K Z := by
  refine E_of_run ?_ k
  have hn : ¬ b < 0 := by omega
  have hm : min b.toNat 64 = b.toNat := by omega
  simp [execOp, eqGuard, hx, hy, binOp, Op.shift, hn, IntKind.bits, hm, wrap64_of hr.1 hr.2]
theorem E_shr {a b : Int} {xt yt : TypeId} {yk : IntKind} (hx : ρ.ev x = .int .i64 a) (hy : ρ.ev y = .int yk b) (ha : 0 ≤ a) (h0 : 0 ≤ b) (h1 : b < 63) (k : K (.int .i64 (a / 2 ^ b.toNat)) w) :
    E P yl ρ w (.binOp .shr xt x y yt) ty K Z := by
  refine E_of_run ?_ k
  have hn : ¬ b < 0 := by omega
  have hm : min b.toNat 64 = b.toNat := by omega
  have hf : a.fdiv (2 ^ b.toNat) = a / 2 ^ b.toNat := Int.fdiv_eq_ediv_of_nonneg _ (Int.pow_nonneg (by omega))
  simp [execOp, eqGuard, hx, hy, binOp, Op.shift, hn, IntKind.bits, hm, hf]
theorem wrap_nat {n : Nat} (h : n < 9223372036854775808) : IntKind.i64.wrap (n : Int) = n := wrap64_of (by omega) (by omega)
theorem toNat_ofInt {n : Nat} (h : n < 18446744073709551616) : (BitVec.ofInt 64 (n : Int)).toNat = n := by
  rw [BitVec.ofInt_natCast, BitVec.toNat_ofNat]
  exact Nat.mod_eq_of_lt h
theorem E_and {a b : Nat} {xt yt : TypeId} (hx : ρ.ev x = .int .i64 (a : Int)) (hy : ρ.ev y = .int .i64 (b : Int)) (ha : a < 9223372036854775808) (hb : b < 9223372036854775808) (k : K (.int .i64 ((a &&& b : Nat) : Int)) w) :
    E P yl ρ w (.binOp .and xt x y yt) ty K Z := by
  refine E_of_run ?_ k
  have h1 : (BitVec.ofInt 64 (a : Int) &&& BitVec.ofInt 64 (b : Int)).toNat = a &&& b := by
    rw [BitVec.toNat_and, toNat_ofInt (by omega), toNat_ofInt (by omega)]
  have h2 : a &&& b < 9223372036854775808 := Nat.lt_of_le_of_lt Nat.and_le_left ha
  rw [BitVec.ofInt_natCast, BitVec.ofInt_natCast] at h1
  simp only [execOp, eqGuard, hx, hy, binOp, Op.intBits, IntKind.bits, ne_eq, not_true_eq_false, if_false]
  simp [-BitVec.toNat_and]
  exact (congrArg (fun n : Nat => IntKind.i64.wrap (n : Int)) h1).trans (wrap_nat h2)
theorem E_or {a b : Nat} {xt yt : TypeId} (hx : ρ.ev x = .int .i64 (a : Int)) (hy : ρ.ev y = .int .i64 (b : Int)) (ha : a < 4611686018427387904) (hb : b < 4611686018427387904) (k : K (.int .i64 ((a ||| b : Nat) : Int)) w) :
    E P yl ρ w (.binOp .or xt x y yt) ty K Z := by
  refine E_of_run ?_ k
  have h1 : (BitVec.ofInt 64 (a : Int) ||| BitVec.ofInt 64 (b : Int)).toNat = a ||| b := by
    rw [BitVec.toNat_or, toNat_ofInt (by omega), toNat_ofInt (by omega)]
  have h2 : a ||| b < 9223372036854775808 := by
    have := Nat.or_lt_two_pow (x := a) (y := b) (n := 62) (by omega) (by omega)
    omega
  rw [BitVec.ofInt_natCast, BitVec.ofInt_natCast] at h1
  simp only [execOp, eqGuard, hx, hy, binOp, Op.intBits, IntKind.bits, ne_eq, not_true_eq_false, if_false]
  simp [-BitVec.toNat_or]
  exact (congrArg (fun n : Nat => IntKind.i64.wrap (n : Int)) h1).trans (wrap_nat h2)
theorem E_xor {a b : Nat} {xt yt : TypeId} (hx : ρ.ev x = .int .i64 (a : Int)) (hy : ρ.ev y = .int .i64 (b : Int)) (ha : a < 4611686018427387904) (hb : b < 4611686018427387904) (k : K (.int .i64 ((a ^^^ b : Nat) : Int)) w) :
    E P yl ρ w (.binOp .xor xt x y yt) ty K Z := by
  refine E_of_run ?_ k
  have h1 : (BitVec.ofInt 64 (a : Int) ^^^ BitVec.ofInt 64 (b : Int)).toNat = a ^^^ b := by
    rw [BitVec.toNat_xor, toNat_ofInt (by omega), toNat_ofInt (by omega)]
  have h2 : a ^^^ b < 9223372036854775808 := by
    have := Nat.xor_lt_two_pow (x := a) (y := b) (n := 62) (by omega) (by omega)
    omega
  rw [BitVec.ofInt_natCast, BitVec.ofInt_natCast] at h1
  simp only [execOp, eqGuard, hx, hy, binOp, Op.intBits, IntKind.bits, ne_eq, not_true_eq_false, if_false]
  simp [-BitVec.toNat_xor]
  exact (congrArg (fun n : Nat => IntKind.i64.wrap (n : Int)) h1).trans (wrap_nat h2)
def andNot (a b : Nat) : Nat := a ^^^ (a &&& b)
theorem E_andNot {a b : Nat} {xt yt : TypeId} (hx : ρ.ev x = .int .i64 (a : Int)) (hy : ρ.ev y = .int .i64 (b : Int)) (ha : a < 9223372036854775808) (hb : b < 9223372036854775808) (k : K (.int .i64 ((andNot a b : Nat) : Int)) w) :
    E P yl ρ w (.binOp .andNot xt x y yt) ty K Z := by
  refine E_of_run ?_ k
  have h1 : (BitVec.ofInt 64 (a : Int) &&& ~~~ BitVec.ofInt 64 (b : Int)).toNat = andNot a b := by
    apply Nat.eq_of_testBit_eq
    intro i
    have ea : (BitVec.ofInt 64 (a : Int)).toNat = a := toNat_ofInt (by omega)
    have eb : (BitVec.ofInt 64 (b : Int)).toNat = b := toNat_ofInt (by omega)
    rw [BitVec.testBit_toNat, BitVec.getLsbD_and, BitVec.getLsbD_not, ← BitVec.testBit_toNat, ← BitVec.testBit_toNat, ea, eb]
    unfold andNot
    rw [Nat.testBit_xor, Nat.testBit_and]
    by_cases hi : i < 64
    · simp [hi]; cases a.testBit i <;> cases b.testBit i <;> rfl
    · have : a.testBit i = false := Nat.testBit_lt_two_pow (Nat.lt_of_lt_of_le ha (by
        have : 2 ^ 63 ≤ 2 ^ i := Nat.pow_le_pow_right (by omega) (by omega)
        omega))
      simp [this]
  have h2 : andNot a b < 9223372036854775808 := by
    rw [← h1]
    have : (BitVec.ofInt 64 (a : Int) &&& ~~~ BitVec.ofInt 64 (b : Int)).toNat ≤ (BitVec.ofInt 64 (a : Int)).toNat := by rw [BitVec.toNat_and]; exact Nat.and_le_left
    rw [toNat_ofInt (by omega)] at this
    omega
  rw [BitVec.ofInt_natCast, BitVec.ofInt_natCast] at h1
  simp only [execOp, eqGuard, hx, hy, binOp, Op.intBits, IntKind.bits, ne_eq, not_true_eq_false, if_false]
  simp [-BitVec.toNat_and]
  exact (congrArg (fun n : Nat => IntKind.i64.wrap (n : Int)) h1).trans (wrap_nat h2)
theorem E_conv {s d : TypeId} {ks kd : IntKind} [hs : Ik P s ks] [hd : Ik P d kd] {a : Int} (hx : ρ.ev x = .int ks a) (k : K (.int kd (kd.wrap a)) w) : E P yl ρ w (.convert s d x) ty K Z := by
  refine E_of_run ?_ k
  simp [execOp, convert, run_underlying hs.inf, run_underlying hd.inf, hx, Conv.intToInt]
theorem run_part_sc {e : TypeId} [Sc P e] {cs : Array Value} {i : Nat} {u : Value} (h : cs[i]? = some u) : (part e cs i).run P w = .ok u w := by
  simp [part, run_isAgg_sc, h]
theorem run_arr_loop (f : Nat → Option Bool × PUnit.{1} → Sem (ForInStep (Option Bool × PUnit.{1}))) (xs ys : List Int)
    (hf : ∀ (i : Nat) (x y : Int) w, xs[i]? = some x → ys[i]? = some y → (f i (none, ⟨⟩)).run P w = .ok (if x = y then .yield (none, ⟨⟩) else .done (some false, ⟨⟩)) w) :
    ∀ (m i : Nat) (w : World), i + m = xs.length → ys.length = xs.length →
      (forIn (List.range' i m) (none, ⟨⟩) f).run P w = .ok (if xs.drop i = ys.drop i then (none, ⟨⟩) else (some false, ⟨⟩)) w
  | 0, i, w, h, h2 => by
    rw [List.drop_of_length_le (by omega), List.drop_of_length_le (by omega)]
    simp
  | m + 1, i, w, h, h2 => by
    have hx : i < xs.length := by omega
    have hy : i < ys.length := by omega
    rw [List.range'_succ, List.forIn_cons, Sem.run_bind, hf i xs[i] ys[i] w (List.getElem?_eq_getElem hx) (List.getElem?_eq_getElem hy)]
    rw [List.drop_eq_getElem_cons hx, List.drop_eq_getElem_cons hy]
    by_cases he : xs[i] = ys[i]
    · simp only [he, if_true, Result.andThen_ok, List.cons.injEq, true_and]
      exact run_arr_loop f xs ys hf m (i + 1) w (by omega) h2
    · rw [if_neg he, if_neg (fun e => he (List.cons.inj e).1)]
      simp
theorem run_equalIn_arr {t len e : Nat} {k : IntKind} [ha : At P t len e 1] [hk : Ik P e k] [hsc : Sc P e] (d : Nat) (xs ys : List Int) (h1 : xs.length = len) (h2 : ys.length = len) :
    (Op.equalIn (d + 2) t (.agg (ints k xs).toArray) (.agg (ints k ys).toArray)).run P w = .ok (decide (xs = ys)) w := by
  obtain ⟨hu, i, hi, hsz⟩ := ha.inf
  rw [Op.equalIn]
  simp only [Sem.run_bind, run_underlying hu, Result.andThen_ok, run_sizeOf' hi, hsz, Nat.mul_one]
  rw [Std.Legacy.Range.forIn_eq_forIn_range']
  simp only [Std.Legacy.Range.size, Nat.sub_zero, Nat.add_sub_cancel, Nat.div_one]
  rw [run_arr_loop _ xs ys ?_ len 0 w (by omega) (by omega)]
  · simp only [List.drop_zero, Result.andThen_ok]
    by_cases h : xs = ys <;> simp [h]
  · intro i x y w hx hy
    have ex : (ints k xs).toArray[i]? = some (.int k x) := by simpa using ints_get k xs i x hx
    have ey : (ints k ys).toArray[i]? = some (.int k y) := by simpa using ints_get k ys i y hy
    simp only [Sem.run_bind, run_part_sc ex, run_part_sc ey, Result.andThen_ok, run_equalIn_int w d e k k x y hk.inf]
    by_cases h : x = y <;> simp [h]
theorem E_eqarr {t len e : Nat} {k : IntKind} [ha : At P t len e 1] [hk : Ik P e k] [hsc : Sc P e] {xs ys : List Int} {yt : TypeId} (hx : ρ.ev x = .agg (ints k xs).toArray) (hy : ρ.ev y = .agg (ints k ys).toArray) (h1 : xs.length = len) (h2 : ys.length = len)
    (hg : P.eqGuardType P.depth t = false) (kk : K (.bool (decide (xs = ys))) w) : E P yl ρ w (.binOp .eql t x y yt) ty K Z := by
  refine E_of_run ?_ kk
  have h3 : (eqGuard .eql t x y (.agg (ints k xs).toArray) (.agg (ints k ys).toArray)).run P w = .ok () w := run_eqGuard_agg w .eql t x y _ _ hg
  have h4 : (binOp .eql t (.agg (ints k xs).toArray) (.agg (ints k ys).toArray)).run P w = .ok (.bool (decide (xs = ys))) w := by
    simp only [binOp, Op.equal, Op.maxDepth, Sem.run_bind]
    rw [run_equalIn_arr (w := w) 9998 xs ys h1 h2]
    rfl
  simp only [execOp, hx, hy, Sem.run_bind, h3, h4, Result.andThen_ok, Sem.run_pure]
end ops
theorem RdS.none_nil {α : Type} {r : World → Value → α → Prop} {w : World} {n c : Nat} {xs : List α} (h : RdS r w (.slice none n c) xs) : xs = [] := by
  obtain ⟨A, c', e, _, _, hel⟩ := h
  cases e
  cases xs with
  | nil => rfl
  | cons x xs =>
    obtain ⟨ad, u, e, _⟩ := hel 0 x rfl
    cases e
def clipV : Value → Value
  | .slice A n _ => .slice A n n
  | v => v
theorem RdS.clip {α : Type} {r : World → Value → α → Prop} {w : World} {v : Value} {xs : List α} (h : RdS r w v xs) : RdS r w (clipV v) xs := by
  obtain ⟨A, c, rfl, h1, h2, h3⟩ := h
  exact ⟨A, xs.length, rfl, Nat.le_refl _, by omega, h3⟩
end Go.Sl
