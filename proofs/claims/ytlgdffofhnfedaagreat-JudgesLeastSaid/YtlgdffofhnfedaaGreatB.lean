/- The shallow logic, part 1: registers as a function, the judgements for code, region and operation, and the rules of control. No program in sight. The shallow logic, part 2: what of the memory is a call's own, as a list of resources; what is read of memory that stays. No program in sight. -/
import Derived.CallsIn
import Derived.OrdersHeld
import Derived.OrdersIn
import Derived.TacticsIn
import Derived.Below
import Derived.WalkKit
import Derived.Scope
import Derived.Laws.World
set_option linter.unusedVariables false
set_option linter.unusedSimpArgs false
namespace Go.Sl
open Go.RowKit
structure Rg where
  r : Nat → Value
  d : List Deferred
def Rg.up (ρ : Rg) (i : Nat) (v : Value) : Rg := ⟨fun j => bif Nat.beq j i then v else ρ.r j, ρ.d⟩
def Rg.put (ρ : Rg) (d : Option Nat) (v : Value) : Rg :=
  match d with
  | some i => ρ.up i v
  | none => ρ
def Rg.ev (ρ : Rg) : Operand → Value
  | .tmp t => ρ.r t
  | .const v => v
  | .global g => .pointer (some ⟨g, 0, none⟩)
  | .func f => .func (.func f) #[] #[]
structure Is (n : Nat) (a : Act) (ρ : Rg) : Prop where
  size : a.tmps.size = n
  reg : ∀ i, a.tmps.getD i undef = ρ.r i
  defers : a.defers = ρ.d
theorem Is.ev {n : Nat} {a : Act} {ρ : Rg} (h : Is n a ρ) : a.eval = ρ.ev := by
  funext x
  cases x <;> simp [Act.eval, Rg.ev, h.reg]
def dstOk (n : Nat) (o : Oper) : Bool :=
  match o.dst with
  | some d => Nat.ble (d + 1) n
  | none => true
def okL (n : Nat) : List Oper → Bool
  | [] => true
  | o :: l => dstOk n o && okL n l
theorem Is.put {n : Nat} {a : Act} {ρ : Rg} {o : Oper} (h : Is n a ρ) (hd : dstOk n o = true) (v : Value) : Is n (a.put o.dst v) (ρ.put o.dst v) := by
  unfold dstOk at hd
  cases hdst : o.dst with
  | none => simp only [Act.put, Rg.put]; exact h
  | some d =>
    rw [hdst] at hd
    have hlt : d < n := Nat.le_of_ble_eq_true hd
    refine ⟨by simp [Act.put, h.size], fun i => ?_, h.defers⟩
    simp only [Act.put, Rg.put, Rg.up]
    by_cases hi : i = d
    · subst hi
      simp [Array.getElem?_setIfInBounds, h.size, hlt]
    · have hb : Nat.beq i d = false := by
        cases hbb : Nat.beq i d
        · rfl
        · exact absurd (Nat.eq_of_beq_eq_true hbb) hi
      rw [hb]
      simp only [cond_false]
      rw [← h.reg i]
      simp only [Array.getD_eq_getD_getElem?, Array.getElem?_setIfInBounds]
      rw [if_neg (fun e => hi e.symm)]
def FW (rd : Option Nat) : Fence := { Fence.wide with round := rd }
abbrev Post := Exit → Rg → World → Prop
def lift (n : Nat) (Q : Post) : Exit → Act → World → Prop := fun e a w => ∃ ρ, Is n a ρ ∧ Q e ρ w
def C (P : Program) (rd : Option Nat) (n : Nat) (c : Code) (Q : Post) (ρ : Rg) (w : World) : Prop := ∀ a, Is n a ρ → c.wpIn (FW rd) 0 P (lift n Q) a w
def R (P : Program) (rd : Option Nat) (n : Nat) (ops : List Oper) (Q : Post) (l : List Oper) (ρ : Rg) (w : World) : Prop :=
  okL n l = true → ∀ a, Is n a ρ → wpListIn (FW rd) 0 P ops.toArray (lift n Q) l a w
def Fin (P : Program) (yl : Bool) (K : Value → World → Prop) (Z : List PanicEntry → World → Prop) : Result Next → Prop
  | .ok (.value v) w => K v w
  | .ok .skip w => K undef w
  | .ok (.enter f args) w => Calls P f args w fun
      | .returned v, w' => K v w'
      | .panicked c, w' => Z c w'
      | .outgrown, _ => False
  | .ok (.round l f tmps assign body) w => yl = true ∧ RoundIn Fence.wide 0 P l f tmps assign body w fun
      | .returned v, w' => K v w'
      | .panicked c, w' => Z c w'
      | .outgrown, _ => False
  | .halt (.panic v) w => Z [{ v, recovered := false }] w
  | _ => False
def E (P : Program) (yl : Bool) (ρ : Rg) (w : World) (op : Op) (ty : TypeId) (K : Value → World → Prop) (Z : List PanicEntry → World → Prop) : Prop :=
  Fin P yl K Z ((execOp ρ.ev ⟨none, op, ty, "", #[], none⟩).run P w)
theorem execOp_op (f : Operand → Value) (d : Option Tmp) (op : Op) (ty : TypeId) (p : String) (a : Array Edge) (g : Option (Nat × Bool)) : execOp f ⟨d, op, ty, p, a, g⟩ = execOp f ⟨none, op, ty, "", #[], none⟩ := rfl
def notDefer : Op → Bool
  | .defer _ => false
  | _ => true
theorem notDefer_ne {op : Op} (h : notDefer op = true) (c : Call) : op ≠ .defer c := by
  intro e; rw [e] at h; cases h
theorem roundIn_rd {rd : Option Nat} {P : Program} {l f : Nat} {tmps : Array Value} {assign body : Code} {w : World} {R : Ending → World → Prop}
    (h : RoundIn Fence.wide 0 P l f tmps assign body w R) : RoundIn (FW rd) (0 - 1) P l f tmps assign body w R := h
theorem callsIn_rd {rd : Option Nat} {P : Program} {f : FuncId} {args : Array Value} {w : World} {R : Ending → World → Prop}
    (h : Calls P f args w R) : CallsIn (FW rd) (0 - 1) P f args w R := callsIn_wide.2 h
theorem uponIn_of_fin {P : Program} {rd : Option Nat} {yl : Bool} {o : Oper} {a : Act} {K : Value → World → Prop} {Z : List PanicEntry → World → Prop} {next : Act → World → Prop} {Q : Exit → Act → World → Prop}
    (hK : ∀ v w, K v w → next (a.put o.dst v) w) (hZ : ∀ c w, Z c w → Q (.panic c) a w) {r : Result Next} (h : Fin P yl K Z r) :
    o.uponIn (FW rd) 0 P a next Q r := by
  have hd : (FW rd).depth.isSome = true → 1 ≤ 0 := fun h => by simp [FW, Fence.wide] at h
  cases r with
  | ok x w =>
    cases x <;> first
      | exact hK _ _ h
      | exact h.elim
      | (refine ⟨hd, callsIn_rd (Calls.mono h ?_)⟩
         intro e w' he
         cases e with
         | returned v => exact hK _ _ he
         | panicked c => exact hZ _ _ he
         | outgrown => exact he.elim)
      | (refine ⟨hd, roundIn_rd (RoundIn.mono h.2 ?_)⟩
         intro e w' he
         cases e with
         | returned v => exact hK _ _ he
         | panicked c => exact hZ _ _ he
         | outgrown => exact he.elim)
  | halt x w =>
    cases x <;> first
      | exact hZ _ _ h
      | exact h.elim
section ops
variable {P : Program} {rd : Option Nat} {n : Nat} {ops : List Oper} {Q : Post} {l : List Oper} {o : Oper} {ρ : Rg} {w : World}
theorem R_nil (h : Q .normal ρ w) : R P rd n ops Q [] ρ w := fun _ a ha => ⟨ρ, ha, h⟩
theorem R_wanted {d : Option Tmp} {op : Op} {ty : TypeId} {p : String} {af : Array Edge} {g : Option (Nat × Bool)}
    (hw : ∀ a, Is n a ρ → Region.wanted ⟨d, op, ty, p, af, g⟩ (yielded ops.toArray a.tmps) = true) (hd : notDefer op = true)
    (h : E P true ρ w op ty (fun v w' => R P rd n ops Q l (ρ.put d v) w') (fun c w' => Q (.panic c) ρ w')) : R P rd n ops Q (⟨d, op, ty, p, af, g⟩ :: l) ρ w := by
  intro hok a ha
  simp only [okL, Bool.and_eq_true] at hok
  unfold wpListIn
  rw [if_pos (hw a ha)]
  refine ⟨fun f _ => trivial, ?_⟩
  rw [show Oper.semAt (FW rd).round a.eval ⟨d, op, ty, p, af, g⟩ = execOp ρ.ev ⟨d, op, ty, p, af, g⟩ by rw [Oper.semAt_eq _ _ _ (notDefer_ne hd), ha.ev], execOp_op]
  exact uponIn_of_fin (P := P) (fun v w' hR => hR hok.2 _ (ha.put hok.1 v)) (fun c w' hz => ⟨ρ, ha, hz⟩) h
theorem R_o {d : Tmp} {op : Op} {ty : TypeId} {p : String} {af : Array Edge} (hd : notDefer op = true)
    (h : E P true ρ w op ty (fun v w' => R P rd n ops Q l (ρ.up d v) w') (fun c w' => Q (.panic c) ρ w')) : R P rd n ops Q (⟨some d, op, ty, p, af, none⟩ :: l) ρ w :=
  R_wanted (fun a _ => by simp [Region.wanted]) hd h
theorem R_n {op : Op} {ty : TypeId} {p : String} {af : Array Edge} (hd : notDefer op = true)
    (h : E P true ρ w op ty (fun _ w' => R P rd n ops Q l ρ w') (fun c w' => Q (.panic c) ρ w')) : R P rd n ops Q (⟨none, op, ty, p, af, none⟩ :: l) ρ w :=
  R_wanted (fun a _ => by simp [Region.wanted]) hd h
def guardSlot (ops : List Oper) (j : Nat) : Option Nat := (ops[j]?).bind (·.dst)
theorem yielded_of {a : Act} {ρ : Rg} (ha : Is n a ρ) {ops : List Oper} {j t : Nat} {b : Bool} (hj : guardSlot ops j = some t) (hb : ρ.r t = .bool b) :
    yielded ops.toArray a.tmps j = some b := by
  have h1 := ha.reg t
  rw [hb] at h1
  unfold guardSlot at hj
  unfold yielded
  simp only [List.getElem?_toArray, hj, Option.bind_some]
  cases hx : a.tmps[t]? with
  | none => rw [Array.getD_eq_getD_getElem?, hx] at h1; simp [undef] at h1
  | some v => rw [Array.getD_eq_getD_getElem?, hx] at h1; simp at h1; subst h1; rfl
theorem R_w {d : Tmp} {op : Op} {ty : TypeId} {p : String} {af : Array Edge} {j t : Nat} {b : Bool} (hj : guardSlot ops j = some t) (hb : ρ.r t = .bool b) (hd : notDefer op = true)
    (h : E P true ρ w op ty (fun v w' => R P rd n ops Q l (ρ.up d v) w') (fun c w' => Q (.panic c) ρ w')) : R P rd n ops Q (⟨some d, op, ty, p, af, some (j, b)⟩ :: l) ρ w :=
  R_wanted (fun a ha => by simp [Region.wanted, yielded_of ha hj hb]) hd h
theorem R_passed {d : Option Tmp} {op : Op} {ty : TypeId} {p : String} {af : Array Edge} {j t : Nat} {b b' : Bool} (hj : guardSlot ops j = some t) (hb : ρ.r t = .bool b') (hne : (b' == b) = false)
    (h : R P rd n ops Q l (ρ.put d undef) w) : R P rd n ops Q (⟨d, op, ty, p, af, some (j, b)⟩ :: l) ρ w := by
  intro hok a ha
  simp only [okL, Bool.and_eq_true] at hok
  unfold wpListIn
  have hne' : ¬ (b' = b) := by simpa using hne
  rw [if_neg (by simp [Region.wanted, yielded_of ha hj hb, hne'])]
  exact ⟨fun f _ => trivial, h hok.2 _ (ha.put hok.1 _)⟩
theorem R_p {d : Tmp} {op : Op} {ty : TypeId} {p : String} {af : Array Edge} {j t : Nat} {b b' : Bool} (hj : guardSlot ops j = some t) (hb : ρ.r t = .bool b') (hne : (b' == b) = false)
    (h : R P rd n ops Q l (ρ.up d undef) w) : R P rd n ops Q (⟨some d, op, ty, p, af, some (j, b)⟩ :: l) ρ w := R_passed hj hb hne h
theorem Rg.up_same {ρ : Rg} {t : Nat} {v : Value} (h : ρ.r t = v) : ρ.up t v = ρ := by
  have : (fun j => bif Nat.beq j t then v else ρ.r j) = ρ.r := by
    funext j
    cases hb : Nat.beq j t
    · rfl
    · have := Nat.eq_of_beq_eq_true hb
      subst this
      simp [h]
  cases ρ
  simp only [Rg.up, this]
theorem R_part {t : Nat} {p : Prop} [Decidable p] (hb : ρ.r t = .bool (decide p)) (h1 : p → R P rd n ops Q l (ρ.up t (.bool true)) w) (h2 : ¬ p → R P rd n ops Q l (ρ.up t (.bool false)) w) :
    R P rd n ops Q l ρ w := by
  by_cases hp : p
  · have := h1 hp
    rwa [Rg.up_same (by rw [hb]; simp [hp])] at this
  · have := h2 hp
    rwa [Rg.up_same (by rw [hb]; simp [hp])] at this
theorem R_partb {t : Nat} {b : Bool} (hb : ρ.r t = .bool b) (h1 : b = true → R P rd n ops Q l (ρ.up t (.bool true)) w) (h2 : b = false → R P rd n ops Q l (ρ.up t (.bool false)) w) :
    R P rd n ops Q l ρ w := by
  cases b with
  | true => have := h1 rfl; rwa [Rg.up_same hb] at this
  | false => have := h2 rfl; rwa [Rg.up_same hb] at this
end ops
section control
variable {P : Program} {rd : Option Nat} {n : Nat} {Q : Post} {ρ : Rg} {w : World}
theorem lift_mono {Q Q' : Post} (h : ∀ e ρ w, Q e ρ w → Q' e ρ w) (e : Exit) (a : Act) (w : World) (hl : lift n Q e a w) : lift n Q' e a w :=
  let ⟨ρ, hi, hq⟩ := hl; ⟨ρ, hi, h _ _ _ hq⟩
theorem C_mono {c : Code} {Q' : Post} (h : C P rd n c Q ρ w) (hq : ∀ e ρ w, Q e ρ w → Q' e ρ w) : C P rd n c Q' ρ w :=
  fun a ha => wpIn_mono (h a ha) (lift_mono hq)
theorem C_region {id : Nat} {l : List Oper} (hok : okL n l = true) (h : R P rd n l Q l ρ w) : C P rd n (.region id l.toArray false) Q ρ w :=
  fun a ha => wpIn_region_lit (h hok a ha)
theorem C_skip (h : Q .normal ρ w) : C P rd n .skip Q ρ w := fun a ha => wpIn_skip ⟨ρ, ha, h⟩
theorem C_label {l : Nat} (h : Q .normal ρ w) : C P rd n (.label l) Q ρ w := fun a ha => wpIn_label ⟨ρ, ha, h⟩
theorem C_exit {id : Nat} (h : Q (.exit id) ρ w) : C P rd n (.exit id) Q ρ w := fun a ha => wpIn_exit ⟨ρ, ha, h⟩
theorem C_goto {id : Nat} (h : Q (.goto id) ρ w) : C P rd n (.goto id) Q ρ w := fun a ha => wpIn_goto ⟨ρ, ha, h⟩
theorem C_ret (h : Q .ret ρ w) : C P rd n .ret Q ρ w := fun a ha => wpIn_ret ⟨ρ, ha, h⟩
def thn (K : Rg → World → Prop) (Q : Post) : Post
  | .normal, ρ, w => K ρ w
  | e, ρ, w => Q e ρ w
theorem C_seq_k {x y : Code} {K : Rg → World → Prop} (hK : ∀ ρ w, K ρ w → C P rd n y Q ρ w) (h : C P rd n x (thn K Q) ρ w) : C P rd n (.seq x y) Q ρ w := by
  intro a ha
  refine wpIn_seq (wpIn_mono (h a ha) ?_)
  rintro e a' w' ⟨ρ', hi, hq⟩
  cases e with
  | normal => exact hK _ _ hq a' hi
  | exit id => exact ⟨ρ', hi, hq⟩
  | goto l => exact ⟨ρ', hi, hq⟩
  | ret => exact ⟨ρ', hi, hq⟩
  | panic c => exact ⟨ρ', hi, hq⟩
  | outgrown => exact ⟨ρ', hi, hq⟩
theorem C_seq {x y : Code} (h : C P rd n x (thn (C P rd n y Q) Q) ρ w) : C P rd n (.seq x y) Q ρ w := C_seq_k (fun _ _ h => h) h
theorem C_cond {t : Nat} {x y : Code} {p : Prop} [Decidable p] (hb : ρ.r t = .bool (decide p)) (h1 : p → C P rd n x Q ρ w) (h2 : ¬ p → C P rd n y Q ρ w) : C P rd n (.cond (.tmp t) x y) Q ρ w := by
  intro a ha
  have he : a.eval (.tmp t) = .bool (decide p) := by rw [ha.ev]; exact hb
  refine wpIn_cond_split he (fun h => ?_) (fun h => ?_)
  · exact h1 (by simpa using h) a ha
  · exact h2 (by simpa using h) a ha
theorem C_condb {t : Nat} {x y : Code} {b : Bool} (hb : ρ.r t = .bool b) (h1 : b = true → C P rd n x Q ρ w) (h2 : b = false → C P rd n y Q ρ w) : C P rd n (.cond (.tmp t) x y) Q ρ w := by
  intro a ha
  have he : a.eval (.tmp t) = .bool b := by rw [ha.ev]; exact hb
  exact wpIn_cond_split he (fun h => h1 h a ha) (fun h => h2 h a ha)
theorem C_true {t : Nat} {x y : Code} (hb : ρ.r t = .bool true) (h1 : C P rd n x Q ρ w) : C P rd n (.cond (.tmp t) x y) Q ρ w :=
  C_condb hb (fun _ => h1) (fun h => by cases h)
theorem C_false {t : Nat} {x y : Code} (hb : ρ.r t = .bool false) (h1 : C P rd n y Q ρ w) : C P rd n (.cond (.tmp t) x y) Q ρ w :=
  C_condb hb (fun h => by cases h) (fun _ => h1)
def inB (id : Nat) (Q : Post) : Post
  | .exit id', ρ, w => bif Nat.beq id' id then Q .normal ρ w else Q (.exit id') ρ w
  | e, ρ, w => Q e ρ w
theorem C_block {id : Nat} {c : Code} (h : C P rd n c (inB id Q) ρ w) : C P rd n (.block id c) Q ρ w := by
  intro a ha
  refine wpIn_block (wpIn_mono (h a ha) ?_)
  rintro e a' w' ⟨ρ', hi, hq⟩
  cases e with
  | exit id' =>
    simp only [Exit.inBlock]
    by_cases hid : id' = id
    · rw [if_pos hid]
      refine ⟨ρ', hi, ?_⟩
      have : Nat.beq id' id = true := by subst hid; exact Nat.beq_refl _
      simpa only [inB, this, cond_true] using hq
    · rw [if_neg hid]
      refine ⟨ρ', hi, ?_⟩
      have : Nat.beq id' id = false := by
        cases hb : Nat.beq id' id
        · rfl
        · exact absurd (Nat.eq_of_beq_eq_true hb) hid
      simpa only [inB, this, cond_false] using hq
  | normal => exact ⟨ρ', hi, hq⟩
  | goto l => exact ⟨ρ', hi, hq⟩
  | ret => exact ⟨ρ', hi, hq⟩
  | panic c => exact ⟨ρ', hi, hq⟩
  | outgrown => exact ⟨ρ', hi, hq⟩
def ups (ρ : Rg) : List Nat → List Value → Rg
  | i :: is, v :: vs => (ups ρ is vs).up i v
  | _, _ => ρ
theorem ups_same (ρ : Rg) : ∀ is : List Nat, ups ρ is (is.map ρ.r) = ρ
  | [] => rfl
  | i :: is => by
    simp only [List.map_cons, ups]
    rw [ups_same ρ is]
    exact Rg.up_same rfl
theorem least_of {p : Nat → Prop} (h : ∃ m, p m) : ∃ m, p m ∧ ∀ k, p k → m ≤ k := by
  obtain ⟨m, hm⟩ := h
  induction m using Nat.strongRecOn with
  | _ m ih =>
    by_cases hex : ∃ k, k < m ∧ p k
    · obtain ⟨k, hk, hp⟩ := hex
      exact ih k hk hp
    · exact ⟨m, hm, fun k hk => Nat.le_of_not_lt fun hlt => hex ⟨k, hlt, hk⟩⟩
open Classical in
noncomputable def leastNat (p : Nat → Prop) : Nat := if h : ∃ m, p m then Classical.choose (least_of h) else 0
theorem leastNat_spec {p : Nat → Prop} (h : ∃ m, p m) : p (leastNat p) := by
  unfold leastNat
  rw [dif_pos h]
  exact (Classical.choose_spec (least_of h)).1
theorem leastNat_le {p : Nat → Prop} {k : Nat} (hk : p k) : leastNat p ≤ k := by
  unfold leastNat
  rw [dif_pos ⟨k, hk⟩]
  exact (Classical.choose_spec (least_of ⟨k, hk⟩)).2 k hk
theorem C_loop {c : Code} (regs : List Nat) (I : Nat → List Value → World → Prop) {m : Nat} {ds : List Deferred} (hds : ρ.d = ds) (h0 : I m (regs.map ρ.r) w)
    (round : ∀ m vs ρ₀ w, ρ₀.d = ds → I m vs w → C P rd n c (thn (fun ρ' w' => ρ'.d = ds ∧ ∃ m', m' < m ∧ I m' (regs.map ρ'.r) w') Q) (ups ρ₀ regs vs) w) : C P rd n (.loop c) Q ρ w := by
  subst hds
  have key : ∀ (P0 : Rg → World → Prop) (h0 : P0 ρ w) (μ : Rg → World → Nat)
      (step : ∀ ρ w, P0 ρ w → C P rd n c (thn (fun ρ' w' => P0 ρ' w' ∧ μ ρ' w' < μ ρ w) Q) ρ w), C P rd n (.loop c) Q ρ w := by
    intro P0 h0 μ step a ha
    refine wpIn_loop (fun a w => ∃ ρ, Is n a ρ ∧ P0 ρ w) (fun a w => μ ⟨fun i => a.tmps.getD i undef, a.defers⟩ w) ⟨ρ, ha, h0⟩ ?_
    rintro a w ⟨ρ, hi, hp⟩
    have eq : ∀ {a : Act} {ρ : Rg}, Is n a ρ → (⟨fun i => a.tmps.getD i undef, a.defers⟩ : Rg) = ρ := by
      intro a ρ hi
      have h1 : (fun i => a.tmps.getD i undef) = ρ.r := funext hi.reg
      rw [h1, hi.defers]
    refine wpIn_mono (step ρ w hp a hi) ?_
    rintro e a' w' ⟨ρ', hi', hq⟩
    cases e with
    | normal =>
      refine ⟨⟨ρ', hi', hq.1⟩, ?_⟩
      rw [eq hi', eq hi]
      exact hq.2
    | exit id => exact ⟨ρ', hi', hq⟩
    | goto l => exact ⟨ρ', hi', hq⟩
    | ret => exact ⟨ρ', hi', hq⟩
    | panic c => exact ⟨ρ', hi', hq⟩
    | outgrown => exact ⟨ρ', hi', hq⟩
  refine key (fun ρ' w => ρ'.d = ρ.d ∧ ∃ m, I m (regs.map ρ'.r) w) ⟨rfl, m, h0⟩ (fun ρ' w => leastNat (fun m => I m (regs.map ρ'.r) w)) ?_
  rintro ρ1 w1 ⟨hd, hex⟩
  have hm := leastNat_spec hex
  have hr := round _ _ ρ1 w1 hd hm
  rw [ups_same] at hr
  refine C_mono hr ?_
  intro e ρ' w' hq
  cases e with
  | normal =>
    obtain ⟨hd', m', hlt, hI⟩ := hq
    exact ⟨⟨hd', m', hI⟩, Nat.lt_of_le_of_lt (leastNat_le hI) hlt⟩
  | exit id => exact hq
  | goto l => exact hq
  | ret => exact hq
  | panic c => exact hq
  | outgrown => exact hq
theorem C_cutr {x y : Code} (regs : List Nat) (M : List Value → World → Prop) {ds : List Deferred} (h : C P rd n x (thn (fun ρ' w' => ρ'.d = ds ∧ M (regs.map ρ'.r) w') Q) ρ w)
    (hM : ∀ vs ρ₀ w, ρ₀.d = ds → M vs w → C P rd n y Q (ups ρ₀ regs vs) w) : C P rd n (.seq x y) Q ρ w :=
  C_seq_k (K := fun ρ' w' => ρ'.d = ds ∧ M (regs.map ρ'.r) w') (fun ρ' w' ⟨hd, hm⟩ => by have := hM _ ρ' w' hd hm; rwa [ups_same] at this) h
theorem thn_ret {K : Rg → World → Prop} (h : Q .ret ρ w) : thn K Q .ret ρ w := h
theorem inB_ret {id : Nat} (h : Q .ret ρ w) : inB id Q .ret ρ w := h
theorem inB_normal {id : Nat} (h : Q .normal ρ w) : inB id Q .normal ρ w := h
theorem thn_exit {K : Rg → World → Prop} {id : Nat} (h : Q (.exit id) ρ w) : thn K Q (.exit id) ρ w := h
theorem inB_exit {id : Nat} (h : Q .normal ρ w) : inB id Q (.exit id) ρ w := by
  simp only [inB, Nat.beq_refl, cond_true]
  exact h
theorem inB_pass {id id' : Nat} (hne : Nat.beq id' id = false) (h : Q (.exit id') ρ w) : inB id Q (.exit id') ρ w := by
  simp only [inB, hne, cond_false]
  exact h
end control
def resOf (P : Program) (fn : Func) (ρ : Rg) (w : World) (K : Value → Prop) : Prop :=
  ∀ tmps : Array Value, (∀ i, tmps.getD i undef = ρ.r i) → ∃ v, (results fn tmps).run P w = .ok v w ∧ K v
def bodyQ (P : Program) (fn : Func) (Rt : Ending → World → Prop) : Post
  | .normal, ρ, w | .ret, ρ, w => ρ.d = [] ∧ resOf P fn ρ w (fun v => Rt (.returned v) w)
  | .panic c, ρ, w => ρ.d = [] ∧ Rt (.panicked c) w
  | _, _, _ => False
theorem calls_of_C {P : Program} {f : FuncId} {fn : Func} {c : Code} {args : List Value} {w : World} {Rt : Ending → World → Prop} {n : Nat}
    (hf : P.funcs[f]? = some fn) (hb : fn.body = some c) (hn : fn.ntmps = n) (hsz : Nat.ble args.length n = true)
    (h : C P none n c (bodyQ P fn Rt) ⟨fun i => args.getD i undef, []⟩ w) : Calls P f args.toArray w Rt := by
  refine callsIn_wide.1 (callsIn_of_wp (n := 0) hf hb trivial ?_)
  have hle : args.length ≤ n := Nat.le_of_ble_eq_true hsz
  refine wpIn_mono (h _ ⟨by simp [hn]; omega, fun i => ?_, rfl⟩) ?_
  · simp only [Array.getD_eq_getD_getElem?, List.getD_eq_getElem?_getD]
    rw [Array.getElem?_append]
    by_cases hi : i < args.length
    · simp [hi]
    · simp only [List.size_toArray, hi, if_false]
      rw [List.getElem?_eq_none (by omega)]
      by_cases h2 : i - args.length < fn.ntmps - args.length
      · rw [Array.getElem?_replicate, if_pos h2]; rfl
      · rw [Array.getElem?_replicate, if_neg h2]
  · rintro e a w' ⟨ρ, hi, hq⟩
    cases e with
    | normal => obtain ⟨hd, hr⟩ := hq; obtain ⟨v, h1, h2⟩ := hr a.tmps hi.reg; exact ⟨hi.defers.trans hd, v, h1, h2⟩
    | ret => obtain ⟨hd, hr⟩ := hq; obtain ⟨v, h1, h2⟩ := hr a.tmps hi.reg; exact ⟨hi.defers.trans hd, v, h1, h2⟩
    | panic c => exact ⟨hi.defers.trans hq.1, hq.2⟩
    | exit id => exact hq.elim
    | goto l => exact hq.elim
    | outgrown => exact hq.elim
end Go.Sl
set_option linter.unusedVariables false
set_option linter.unusedSimpArgs false
namespace Go.Sl
open Go.RowKit
structure HP where
  p : (Nat → Prop) → World → Prop
  loc : ∀ {S : Nat → Prop} {w w' : World}, (∀ b, S b → w'.heap[b]? = w.heap[b]?) → p S w → p S w'
def blk (b : Nat) (o : Obj) : HP where
  p S w := (∀ x, S x ↔ x = b) ∧ w.heap[b]? = some o
  loc h hp := ⟨hp.1, (h _ ((hp.1 _).2 rfl)).trans hp.2⟩
def cl (b : Nat) (t : TypeId) (cs : List Value) : HP := blk b (.cells cs.toArray t (0, 0))
def mp (b : Nat) (es : Array MapEntry) (clock : Nat) : HP := blk b (.map es clock)
def rdv (v : Value) (f : World → Prop) : HP where
  p S w := ∀ w', (∀ b, S b → w'.heap[b]? = w.heap[b]?) → f w'
  loc h hp := fun w'' h' => hp w'' (fun b hb => (h' b hb).trans (h b hb))
def Sep : List HP → (Nat → Prop) → World → Prop
  | [], S, _ => ∀ b, ¬ S b
  | R :: L, S, w => ∃ S1 S2 : Nat → Prop, (∀ b, S b ↔ S1 b ∨ S2 b) ∧ (∀ b, ¬ (S1 b ∧ S2 b)) ∧ R.p S1 w ∧ Sep L S2 w
theorem Sep.loc {w w' : World} : ∀ {L : List HP} {S : Nat → Prop}, (∀ b, S b → w'.heap[b]? = w.heap[b]?) → Sep L S w → Sep L S w'
  | [], _, _, h => h
  | R :: L, S, hs, ⟨S1, S2, h1, h2, h3, h4⟩ =>
    ⟨S1, S2, h1, h2, R.loc (fun b hb => hs b ((h1 b).2 (.inl hb))) h3, Sep.loc (fun b hb => hs b ((h1 b).2 (.inr hb))) h4⟩
theorem Sep.perm {L L' : List HP} (h : L.Perm L') : ∀ {S : Nat → Prop} {w : World}, Sep L S w → Sep L' S w := by
  induction h with
  | nil => exact fun h => h
  | cons R _ ih => exact fun ⟨S1, S2, h1, h2, h3, h4⟩ => ⟨S1, S2, h1, h2, h3, ih h4⟩
  | swap R R' L =>
    rintro S w ⟨S1, S2, h1, h2, h3, T1, T2, k1, k2, k3, k4⟩
    refine ⟨T1, fun b => S1 b ∨ T2 b, fun b => ?_, fun b => ?_, k3, S1, T2, fun b => Iff.rfl, fun b => ?_, h3, k4⟩
    · rw [h1, k1]; constructor
      · rintro (h | h | h)
        · exact .inr (.inl h)
        · exact .inl h
        · exact .inr (.inr h)
      · rintro (h | h | h)
        · exact .inr (.inl h)
        · exact .inl h
        · exact .inr (.inr h)
    · rintro ⟨ht, h | h⟩
      · exact h2 b ⟨h, (k1 b).2 (.inl ht)⟩
      · exact k2 b ⟨ht, h⟩
    · rintro ⟨h, ht⟩
      exact h2 b ⟨h, (k1 b).2 (.inr ht)⟩
  | trans _ _ ih1 ih2 => exact fun h => ih2 (ih1 h)
theorem Sep.append {w : World} : ∀ {L L' : List HP} {S S' : Nat → Prop}, Sep L S w → Sep L' S' w → (∀ b, ¬ (S b ∧ S' b)) → Sep (L ++ L') (fun b => S b ∨ S' b) w
  | [], L', S, S', h, h', _ => by
    have : (fun b => S b ∨ S' b) = S' := by
      funext b
      exact propext ⟨fun hh => hh.resolve_left (h b), .inr⟩
    rw [this]; exact h'
  | R :: L, L', S, S', ⟨S1, S2, h1, h2, h3, h4⟩, h', hd =>
    ⟨S1, fun b => S2 b ∨ S' b, fun b => by show (S b ∨ S' b) ↔ _; rw [h1]; exact or_assoc, fun b => by
      rintro ⟨ha, hb | hb⟩
      · exact h2 b ⟨ha, hb⟩
      · exact hd b ⟨(h1 b).2 (.inl ha), hb⟩, h3, Sep.append h4 h' (fun b ⟨ha, hb⟩ => hd b ⟨(h1 b).2 (.inr ha), hb⟩)⟩
structure Loc (w0 w : World) (L : List HP) : Prop where
  below : Below w0.heap.size w0 w
  sep : ∃ S : Nat → Prop, (∀ b, S b → w0.heap.size ≤ b ∧ b < w.heap.size) ∧ Sep L S w
theorem Loc.refl (w : World) : Loc w w [] := ⟨Below.refl _ _, fun _ => False, fun _ h => h.elim, fun _ h => h⟩
theorem Loc.perm {w0 w : World} {L L' : List HP} (hp : L.Perm L') (h : Loc w0 w L) : Loc w0 w L' :=
  ⟨h.below, let ⟨S, h1, h2⟩ := h.sep; ⟨S, h1, h2.perm hp⟩⟩
theorem Loc.drop {w0 w : World} {R : HP} {L : List HP} (h : Loc w0 w (R :: L)) : Loc w0 w L :=
  ⟨h.below, let ⟨S, h1, S1, S2, k1, k2, k3, k4⟩ := h.sep; ⟨S2, fun b hb => h1 b ((k1 b).2 (.inr hb)), k4⟩⟩
theorem Loc.imp {w0 w : World} {R R' : HP} {L : List HP} (h : Loc w0 w (R :: L)) (hi : ∀ S, R.p S w → R'.p S w) : Loc w0 w (R' :: L) :=
  ⟨h.below, let ⟨S, h1, S1, S2, k1, k2, k3, k4⟩ := h.sep; ⟨S, h1, S1, S2, k1, k2, hi _ k3, k4⟩⟩
theorem Loc.head {w0 w : World} {R : HP} {L : List HP} (h : Loc w0 w (R :: L)) : ∃ S : Nat → Prop, (∀ b, S b → w0.heap.size ≤ b ∧ b < w.heap.size) ∧ R.p S w :=
  let ⟨S, h1, S1, S2, k1, k2, k3, k4⟩ := h.sep; ⟨S1, fun b hb => h1 b ((k1 b).2 (.inl hb)), k3⟩
theorem Loc.call {w0 w w' : World} {L L' : List HP} (h : Loc w0 w L) (h' : Loc w w' L') : Loc w0 w' (L' ++ L) := by
  obtain ⟨S, h1, h2⟩ := h.sep
  obtain ⟨S', k1, k2⟩ := h'.sep
  refine ⟨h.below.trans (h'.below.mono h.below.size), fun b => S' b ∨ S b, ?_, ?_⟩
  · rintro b (hb | hb)
    · exact ⟨Nat.le_trans h.below.size (k1 b hb).1, (k1 b hb).2⟩
    · exact ⟨(h1 b hb).1, Nat.lt_of_lt_of_le (h1 b hb).2 h'.below.size⟩
  · refine Sep.append k2 (h2.loc fun b hb => h'.below.block b (h1 b hb).2) ?_
    rintro b ⟨hb', hb⟩
    have := (k1 b hb').1
    have := (h1 b hb).2
    omega
theorem Loc.call0 {w0 w w' : World} {L : List HP} (h : Loc w0 w L) (h' : Below w.heap.size w w') : Loc w0 w' L := by
  have := h.call (L' := []) ⟨h', fun _ => False, fun _ hh => hh.elim, fun _ hh => hh⟩
  simpa using this
theorem below_of_same {w w' : World} (h : w'.heap = w.heap) (h1 : w'.os = w.os) (h2 : w'.tape = w.tape) (h3 : w'.output = w.output) : Below w.heap.size w w' :=
  ⟨h1, h2, h3, by rw [h]; exact Nat.le_refl _, fun k _ => by rw [h]⟩
theorem Loc.drew {w0 w : World} {L : List HP} (h : Loc w0 w L) : Loc w0 w.drew L := h.call0 (below_of_same rfl rfl rfl rfl)
theorem Loc.alloc {w0 w : World} {L : List HP} (h : Loc w0 w L) (o : Obj) : Loc w0 (w.alloc o) (blk w.heap.size o :: L) := by
  have h' : Loc w (w.alloc o) [blk w.heap.size o] := by
    refine ⟨(Below.refl _ w).alloc (Nat.le_refl _) o, fun b => b = w.heap.size, fun b hb => by subst hb; simp, fun b => b = w.heap.size, fun _ => False, fun b => by simp, fun b hb => hb.2.elim, ⟨fun x => Iff.rfl, ?_⟩, fun b hb => hb⟩
    exact Array.getElem?_push_size
  exact h.call h'
theorem Loc.write {w0 w w' : World} {b : Nat} {o o' : Obj} {L : List HP} (h : Loc w0 w (blk b o :: L)) (hs : w'.heap.size = w.heap.size) (h1 : w'.os = w.os) (h2 : w'.tape = w.tape) (h3 : w'.output = w.output)
    (hb : w'.heap[b]? = some o') (hne : ∀ k, k ≠ b → w'.heap[k]? = w.heap[k]?) : Loc w0 w' (blk b o' :: L) := by
  obtain ⟨S, k1, S1, S2, k2, k3, ⟨k4, k5⟩, k6⟩ := h.sep
  have hbS : w0.heap.size ≤ b := (k1 b ((k2 b).2 (.inl ((k4 b).2 rfl)))).1
  refine ⟨h.below.trans ⟨h1, h2, h3, by omega, fun k hk => hne k (by omega)⟩, S, fun x hx => ?_, S1, S2, k2, k3, ⟨k4, hb⟩, k6.loc fun x hx => hne x fun e => ?_⟩
  · have := k1 x hx; omega
  · subst e
    exact k3 x ⟨(k4 x).2 rfl, hx⟩
theorem Loc.get {w0 w : World} {b : Nat} {o : Obj} {L : List HP} (h : Loc w0 w (blk b o :: L)) : w.heap[b]? = some o := by
  obtain ⟨S, k1, S1, S2, k2, k3, ⟨k4, k5⟩, k6⟩ := h.sep
  exact k5
theorem Loc.ge {w0 w : World} {b : Nat} {o : Obj} {L : List HP} (h : Loc w0 w (blk b o :: L)) : w0.heap.size ≤ b ∧ b < w.heap.size := by
  obtain ⟨S, k1, S1, S2, k2, k3, ⟨k4, k5⟩, k6⟩ := h.sep
  exact k1 b ((k2 b).2 (.inl ((k4 b).2 rfl)))
theorem Loc.read {w0 w : World} {v : Value} {f : World → Prop} {L : List HP} (h : Loc w0 w (rdv v f :: L)) : f w := by
  obtain ⟨S, k1, S1, S2, k2, k3, k5, k6⟩ := h.sep
  exact k5 w fun _ _ => rfl
class Pk (L : List HP) (b : Nat) (t : outParam TypeId) (cs : outParam (List Value)) (L' : outParam (List HP)) : Prop where
  perm : L.Perm (cl b t cs :: L')
instance (priority := high) Pk.here (b : Nat) (t : TypeId) (cs : List Value) (L : List HP) : Pk (cl b t cs :: L) b t cs L := ⟨List.Perm.refl _⟩
instance Pk.there (R : HP) (L : List HP) (b : Nat) (t : TypeId) (cs : List Value) (L' : List HP) [h : Pk L b t cs L'] : Pk (R :: L) b t cs (R :: L') :=
  ⟨(List.Perm.cons _ h.perm).trans (List.Perm.swap _ _ _)⟩
class Pm (L : List HP) (b : Nat) (es : outParam (Array MapEntry)) (c : outParam Nat) (L' : outParam (List HP)) : Prop where
  perm : L.Perm (mp b es c :: L')
instance (priority := high) Pm.here (b : Nat) (es : Array MapEntry) (c : Nat) (L : List HP) : Pm (mp b es c :: L) b es c L := ⟨List.Perm.refl _⟩
instance Pm.there (R : HP) (L : List HP) (b : Nat) (es : Array MapEntry) (c : Nat) (L' : List HP) [h : Pm L b es c L'] : Pm (R :: L) b es c (R :: L') :=
  ⟨(List.Perm.cons _ h.perm).trans (List.Perm.swap _ _ _)⟩
class Pr (L : List HP) (v : Value) (f : outParam (World → Prop)) (L' : outParam (List HP)) : Prop where
  perm : L.Perm (rdv v f :: L')
instance (priority := high) Pr.here (v : Value) (f : World → Prop) (L : List HP) : Pr (rdv v f :: L) v f L := ⟨List.Perm.refl _⟩
instance Pr.there (R : HP) (L : List HP) (v : Value) (f : World → Prop) (L' : List HP) [h : Pr L v f L'] : Pr (R :: L) v f (R :: L') :=
  ⟨(List.Perm.cons _ h.perm).trans (List.Perm.swap _ _ _)⟩
theorem cell_of_blk {w : World} {b o : Nat} {c : Array Value} {t : TypeId} {fr : Nat × Nat} (h : w.heap[b]? = some (.cells c t fr)) : w.cell? ⟨b, o, none⟩ = c[o]? := by
  simp [World.cell?, h]
theorem frozen_of_blk {w : World} {b o : Nat} {c : Array Value} {t : TypeId} (h : w.heap[b]? = some (.cells c t (0, 0))) : w.frozen? ⟨b, o, none⟩ = false := by
  simp [World.frozen?, h]
theorem Loc.cell {w0 w : World} {b o : Nat} {t : TypeId} {cs : List Value} {L L' : List HP} [hp : Pk L b t cs L'] (h : Loc w0 w L) : w.cell? ⟨b, o, none⟩ = cs[o]? := by
  rw [cell_of_blk (h.perm hp.perm).get]
  simp
theorem Loc.free {w0 w : World} {b o : Nat} {t : TypeId} {cs : List Value} {L L' : List HP} [hp : Pk L b t cs L'] (h : Loc w0 w L) : w.frozen? ⟨b, o, none⟩ = false :=
  frozen_of_blk (h.perm hp.perm).get
theorem Loc.setCell {w0 w : World} {b o : Nat} {t : TypeId} {cs : List Value} {L L' : List HP} [hp : Pk L b t cs L'] (h : Loc w0 w L) (v : Value) : Loc w0 (w.setCell ⟨b, o, none⟩ v) (cl b t (cs.set o v) :: L') := by
  have h1 := h.perm hp.perm
  have hg := h1.get
  have hlt : b < w.heap.size := (Array.getElem?_eq_some_iff.1 hg).1
  refine h1.write (by simp) rfl rfl rfl ?_ (fun k hk => Below.heap_setCell w ⟨b, o, none⟩ v k hk)
  simp only [World.setCell, Array.getElem?_modify, if_true, hg, Option.map_some]
  simp
theorem Below.cell_some {w w' : World} (h : Below w.heap.size w w') {a : Addr} {v : Value} (hc : w.cell? a = some v) : w'.cell? a = some v :=
  (h.cell (World.block_lt_of_cell? w a hc)).trans hc
def sad (v : Value) (i : Nat) : Value :=
  match v with
  | .slice (some a) _ _ => .pointer (some (a.add i))
  | _ => .pointer none
def RdS {α : Type} (r : World → Value → α → Prop) (w : World) (v : Value) (xs : List α) : Prop :=
  ∃ A c, v = .slice A xs.length c ∧ xs.length ≤ c ∧ c ≤ 9223372036854775807 ∧ ∀ (i : Nat) (x : α), xs[i]? = some x → ∃ ad u, A = some ad ∧ w.cell? (ad.add i) = some u ∧ r w u x
def rInt (k : IntKind) : World → Value → Int → Prop := fun _ u x => u = .int k x
abbrev RdI (w : World) (v : Value) (xs : List Int) : Prop := RdS (rInt .i64) w v xs
abbrev RdB (w : World) (v : Value) (xs : List Int) : Prop := RdS (rInt .u8) w v xs
abbrev RdII (w : World) (v : Value) (xs : List (List Int)) : Prop := RdS RdI w v xs
abbrev RdBB (w : World) (v : Value) (xs : List (List Int)) : Prop := RdS RdB w v xs
class Abides {α : Type} (r : World → Value → α → Prop) : Prop where
  below : ∀ {w w' : World} {v : Value} {x : α}, Below w.heap.size w w' → r w v x → r w' v x
instance (k : IntKind) : Abides (rInt k) := ⟨fun _ h => h⟩
instance {α : Type} (r : World → Value → α → Prop) [h : Abides r] : Abides (RdS r) := ⟨fun hb ⟨A, c, h1, h2, h3, h4⟩ =>
  ⟨A, c, h1, h2, h3, fun i x hx => by
    obtain ⟨ad, u, e, hc, hr⟩ := h4 i x hx
    exact ⟨ad, u, e, Below.cell_some hb hc, h.below hb hr⟩⟩⟩
theorem RdS.below {α : Type} {r : World → Value → α → Prop} [Abides r] {w w' : World} {v : Value} {xs : List α} (h : RdS r w v xs) (hb : Below w.heap.size w w') : RdS r w' v xs := Abides.below hb h
theorem RdS.len {α : Type} {r : World → Value → α → Prop} {w : World} {v : Value} {xs : List α} (h : RdS r w v xs) : ∃ A c, v = .slice A xs.length c ∧ xs.length ≤ c ∧ c ≤ 9223372036854775807 :=
  let ⟨A, c, h1, h2, h3, _⟩ := h; ⟨A, c, h1, h2, h3⟩
theorem RdS.nil {α : Type} (r : World → Value → α → Prop) (w : World) : RdS r w (.slice none 0 0) [] := ⟨none, 0, rfl, by simp, by omega, fun i x hx => by simp at hx⟩
theorem RdS.empty {α : Type} (r : World → Value → α → Prop) (w : World) (A : Option Addr) (c : Nat) (hc : c ≤ 9223372036854775807) : RdS r w (.slice A 0 c) [] := ⟨A, c, rfl, by simp, hc, fun i x hx => by simp at hx⟩
theorem add_plain (b o i : Nat) : (⟨b, o, none⟩ : Addr).add i = ⟨b, o + i, none⟩ := by
  unfold Addr.add
  split
  · subst i; rfl
  · rfl
end Go.Sl
