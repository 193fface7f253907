/- The shallow logic, part 3: the operations, one law each. No program in sight. The shallow logic, part 4: scopes, function values that are predicates, small list words. No program in sight. The shallow logic, part 5: rows that grow, makes, literals, slices of slices, bits, conversions. No program in sight. -/
import Derived.Test.YtlgdffofhnfedaaGreatB
import Derived.Laws.CopyRow
import Derived.Laws.Cells
import Derived.Laws.Slices
import Derived.IntWalk
import Derived.Scope
import Derived.Maps.AppendAt
import Derived.Laws.MakeOwn
import Derived.Laws.Shifts
set_option linter.unusedVariables false
set_option linter.unusedSimpArgs false
namespace Go.Sl
open Go.RowKit
def isRowD : TypeDesc → Bool
  | .struct _ | .array _ _ => true
  | _ => false
def scB (P : Program) (t : TypeId) : Bool :=
  match P.underlying t, P.info? t with
  | some d, some i => !isRowD d && i.size == 1
  | _, _ => false
def agB (P : Program) (t : TypeId) (n : Nat) : Bool :=
  match P.underlying t, P.info? t with
  | some d, some i => isRowD d && i.size == n
  | _, _ => false
class Sc (P : Program) (t : TypeId) : Prop where h : scB P t = true
class Ag (P : Program) (t : TypeId) (n : outParam Nat) : Prop where h : agB P t n = true
class Zr (P : Program) (t : TypeId) (zs : outParam (List Value)) : Prop where h : ((P.info? t).bind (·.zero)).map (fun v => v.cells.toList) = some zs
def foB (P : Program) (s f off : Nat) : Bool :=
  match P.underlying s with
  | some (.struct fs) => match fs[f]? with
    | some fd => fd.offset == off && (match P.info? fd.type with | some i => !(i.size == 0) | none => false)
    | none => false
  | _ => false
class Fo (P : Program) (s f : Nat) (off : outParam Nat) : Prop where h : foB P s f off = true
def stB (P : Program) (t e sz bytes : Nat) : Bool :=
  match P.underlying t with
  | some (.slice e') => e' == e && (match P.info? e with | some i => i.size == sz && i.bytes == bytes | none => false)
  | _ => false
class St (P : Program) (t : TypeId) (e sz bytes : outParam Nat) : Prop where h : stB P t e sz bytes = true
def atB (P : Program) (t len e sz : Nat) : Bool :=
  match P.underlying t with
  | some (.array n e') => n == len && e' == e && (match P.info? e with | some i => i.size == sz | none => false)
  | _ => false
class At (P : Program) (t : TypeId) (len e sz : outParam Nat) : Prop where h : atB P t len e sz = true
def ikB (P : Program) (t : TypeId) (k : IntKind) : Bool :=
  match P.underlying t with
  | some (.int k') => k' == k
  | _ => false
class Ik (P : Program) (t : TypeId) (k : outParam IntKind) : Prop where h : ikB P t k = true
class Ni (P : Program) (t : TypeId) : Prop where h : (match P.underlying t with | some (.interface _) => false | some _ => true | none => false) = true
theorem Sc.und {P : Program} {t : TypeId} [h : Sc P t] : ∃ d, P.underlying t = some d ∧ isRowD d = false := by
  have := h.h; unfold scB at this
  split at this
  · rename_i d i hd hi; simp at this; exact ⟨d, hd, this.1⟩
  · cases this
theorem Sc.inf {P : Program} {t : TypeId} [h : Sc P t] : ∃ i, P.info? t = some i ∧ i.size = 1 := by
  have := h.h; unfold scB at this
  split at this
  · rename_i d i hd hi; simp at this; exact ⟨i, hi, this.2⟩
  · cases this
theorem Ag.und {P : Program} {t : TypeId} {n : Nat} [h : Ag P t n] : ∃ d, P.underlying t = some d ∧ isRowD d = true := by
  have := h.h; unfold agB at this
  split at this
  · rename_i d i hd hi; simp at this; exact ⟨d, hd, this.1⟩
  · cases this
theorem Ag.inf {P : Program} {t : TypeId} {n : Nat} [h : Ag P t n] : ∃ i, P.info? t = some i ∧ i.size = n := by
  have := h.h; unfold agB at this
  split at this
  · rename_i d i hd hi; simp at this; exact ⟨i, hi, this.2⟩
  · cases this
theorem Zr.inf {P : Program} {t : TypeId} {zs : List Value} [h : Zr P t zs] : ∃ i v, P.info? t = some i ∧ i.zero = some v ∧ v.cells.toList = zs := by
  have := h.h
  cases hi : P.info? t with
  | none => simp [hi] at this
  | some i =>
    cases hz : i.zero with
    | none => simp [hi, hz] at this
    | some v => simp [hi, hz] at this; exact ⟨i, v, rfl, hz, this⟩
theorem Fo.inf {P : Program} {s f off : Nat} [h : Fo P s f off] : ∃ fs fd i, P.underlying s = some (.struct fs) ∧ fs[f]? = some fd ∧ fd.offset = off ∧ P.info? fd.type = some i ∧ i.size ≠ 0 := by
  have := h.h; unfold foB at this
  split at this
  · rename_i fs hu
    split at this
    · rename_i fd hf
      simp only [Bool.and_eq_true, beq_iff_eq] at this
      obtain ⟨h1, h2⟩ := this
      split at h2
      · rename_i i hi; exact ⟨fs, fd, i, hu, hf, h1, hi, by simpa using h2⟩
      · cases h2
    · cases this
  · cases this
theorem St.inf {P : Program} {t e sz bytes : Nat} [h : St P t e sz bytes] : P.underlying t = some (.slice e) ∧ ∃ i, P.info? e = some i ∧ i.size = sz ∧ i.bytes = bytes := by
  have := h.h; unfold stB at this
  split at this
  · rename_i e' hu
    simp only [Bool.and_eq_true, beq_iff_eq] at this
    obtain ⟨rfl, h2⟩ := this
    split at h2
    · rename_i i hi; simp at h2; exact ⟨hu, i, hi, h2.1, h2.2⟩
    · cases h2
  · cases this
theorem At.inf {P : Program} {t len e sz : Nat} [h : At P t len e sz] : P.underlying t = some (.array len e) ∧ ∃ i, P.info? e = some i ∧ i.size = sz := by
  have := h.h; unfold atB at this
  split at this
  · rename_i n e' hu
    simp only [Bool.and_eq_true, beq_iff_eq] at this
    obtain ⟨⟨rfl, rfl⟩, h2⟩ := this
    split at h2
    · rename_i i hi; exact ⟨hu, i, hi, by simpa using h2⟩
    · cases h2
  · cases this
theorem Ik.inf {P : Program} {t : TypeId} {k : IntKind} [h : Ik P t k] : P.underlying t = some (.int k) := by
  have := h.h; unfold ikB at this
  split at this
  · rename_i k' hu; simp at this; rw [hu, this]
  · cases this
theorem Ni.inf {P : Program} {t : TypeId} [h : Ni P t] : ∃ d, P.underlying t = some d ∧ ∀ m, d ≠ .interface m := by
  have := h.h
  cases hu : P.underlying t with
  | none => simp [hu] at this
  | some d =>
    refine ⟨d, rfl, fun m e => ?_⟩
    subst e
    simp [hu] at this
section base
variable {P : Program} {w : World}
theorem run_typeInfo' {t : TypeId} {i : TypeInfo} (h : P.info? t = some i) : (typeInfo t).run P w = .ok i w := by
  simp [typeInfo, h]
theorem run_sizeOf' {t : TypeId} {i : TypeInfo} (h : P.info? t = some i) : (sizeOf t).run P w = .ok i.size w := by
  simp [sizeOf, run_typeInfo' h]
theorem run_isAgg_sc {t : TypeId} [h : Sc P t] : (isAgg t).run P w = .ok false w := by
  obtain ⟨d, hu, hd⟩ := h.und
  unfold isAgg
  rw [Sem.run_bind, run_underlying hu w]
  cases d <;> simp_all [isRowD]
theorem run_isAgg_ag {t : TypeId} {n : Nat} [h : Ag P t n] : (isAgg t).run P w = .ok true w := by
  obtain ⟨d, hu, hd⟩ := h.und
  unfold isAgg
  rw [Sem.run_bind, run_underlying hu w]
  cases d <;> simp_all [isRowD]
theorem run_zeroValue' {t : TypeId} {zs : List Value} [h : Zr P t zs] : ∃ v, v.cells.toList = zs ∧ ∀ w, (zeroValue t).run P w = .ok v w := by
  obtain ⟨i, v, hi, hz, hv⟩ := h.inf
  exact ⟨v, hv, fun w => by simp [zeroValue, run_typeInfo' hi, hz]⟩
end base
section ops
variable {P : Program} {yl : Bool} {ρ : Rg} {w w0 : World} {L L' : List HP} {ty : TypeId} {K : Value → World → Prop} {Z : List PanicEntry → World → Prop} {x y z : Operand}
theorem E_move (k : K (ρ.ev x) w) : E P yl ρ w (.move x) ty K Z := k
theorem E_assign (k : K (ρ.ev x) w) : E P yl ρ w (.assign x) ty K Z := k
theorem E_pick {b : Bool} (hb : ρ.ev x = .bool b) (k : K (bif b then ρ.ev y else ρ.ev z) w) : E P yl ρ w (.pick x y z) ty K Z := by
  unfold E
  simp only [execOp, Sem.run_bind, hb, asBool, Sem.run_pure, Result.andThen_ok, Fin]
  cases b <;> exact k
theorem E_of_run {op : Op} {v : Value} (h : (execOp ρ.ev ⟨none, op, ty, "", #[], none⟩).run P w = .ok (.value v) w) (k : K v w) : E P yl ρ w op ty K Z := by
  unfold E; rw [h]; exact k
theorem E_alloc {t : TypeId} {zs : List Value} [hz : Zr P t zs] (H : Loc w0 w L) (k : ∀ w' b, Loc w0 w' (cl b t zs :: L) → K (.pointer (some ⟨b, 0, none⟩)) w') : E P yl ρ w (.alloc t) ty K Z := by
  obtain ⟨v, hv, hr⟩ := hz.inf |> fun _ => run_zeroValue' (P := P) (t := t) (zs := zs)
  have e : (execOp ρ.ev ⟨none, .alloc t, ty, "", #[], none⟩).run P w = .ok (.value (.pointer (some ⟨w.heap.size, 0, none⟩))) (w.alloc (.cells v.cells t)) := by
    simp [execOp, Instr.alloc, hr, newVar, newRow]
  unfold E; rw [e]
  refine k _ _ ?_
  have := H.alloc (.cells v.cells t)
  unfold cl
  rw [← hv]
  simpa using this
theorem E_box {t : TypeId} {cs : List Value} (hv : (ρ.ev x).cells.toList = cs) (H : Loc w0 w L) (k : ∀ w' b, Loc w0 w' (cl b t cs :: L) → K (.pointer (some ⟨b, 0, none⟩)) w') : E P yl ρ w (.box t x) ty K Z := by
  have e : (execOp ρ.ev ⟨none, .box t x, ty, "", #[], none⟩).run P w = .ok (.value (.pointer (some ⟨w.heap.size, 0, none⟩))) (w.alloc (.cells (ρ.ev x).cells t)) := by
    simp [execOp, Instr.box, newVar, newRow]
  unfold E; rw [e]
  refine k _ _ ?_
  have := H.alloc (.cells (ρ.ev x).cells t)
  unfold cl
  rw [← hv]
  simpa using this
theorem E_load_cell {t : TypeId} [Sc P t] {a : Addr} {v : Value} (hp : ρ.ev x = .pointer (some a)) (hc : w.cell? a = some v) (k : K v w) : E P yl ρ w (.load t x) ty K Z :=
  E_of_run (by simp [execOp, Instr.loadAt, Instr.sureAddr, hp, loadVar, run_isAgg_sc, hc]) k
theorem E_load {t : TypeId} [Sc P t] {b o : Nat} {bt : TypeId} {cs : List Value} {v : Value} [Pk L b bt cs L'] (H : Loc w0 w L) (hp : ρ.ev x = .pointer (some ⟨b, o, none⟩)) (hv : cs[o]? = some v) (k : K v w) : E P yl ρ w (.load t x) ty K Z :=
  E_load_cell hp (H.cell.trans hv) k
theorem E_loada {t n : TypeId} [ha : Ag P t n] {b o : Nat} {bt : TypeId} {cs vs : List Value} [Pk L b bt cs L'] (H : Loc w0 w L) (hp : ρ.ev x = .pointer (some ⟨b, o, none⟩))
    (hn : vs.length = n) (hv : ∀ j v, vs[j]? = some v → cs[o + j]? = some v) (k : K (.agg vs.toArray) w) : E P yl ρ w (.load t x) ty K Z := by
  obtain ⟨i, hi, hs⟩ := ha.inf
  have hl : (loadCells ⟨b, o, none⟩ i.size).run P w = .ok vs.toArray w := by
    rw [hs, ← hn]
    exact run_loadCells_list (P := P) w ⟨b, o, none⟩ vs (fun j v hj => by rw [add_plain, H.cell]; exact hv j v hj)
  exact E_of_run (by simp [execOp, Instr.loadAt, Instr.sureAddr, hp, loadVar, run_isAgg_ag, run_sizeOf' hi, hl]) k
theorem E_loadw {t n : TypeId} [ha : Ag P t n] {b : Nat} {bt : TypeId} {cs : List Value} [Pk L b bt cs L'] (H : Loc w0 w L) (hp : ρ.ev x = .pointer (some ⟨b, 0, none⟩))
    (hn : cs.length = n) (k : K (.agg cs.toArray) w) : E P yl ρ w (.load t x) ty K Z :=
  E_loada H hp hn (fun j v h => by rw [Nat.zero_add]; exact h) k
theorem E_store {t : TypeId} [hs : Sc P t] {b o : Nat} {bt : TypeId} {cs : List Value} {v : Value} [hk : Pk L b bt cs L'] (H : Loc w0 w L) (hp : ρ.ev x = .pointer (some ⟨b, o, none⟩)) (hy : ρ.ev y = v) (h1 : v.oneCell' = true)
    (ho : o < cs.length) (k : ∀ w', Loc w0 w' (cl b bt (cs.set o v) :: L') → K undef w') : E P yl ρ w (.store t x y) ty K Z := by
  obtain ⟨i, hi, hsz⟩ := hs.inf
  have hc : v.cells = #[v] := by cases v <;> first | rfl | (cases h1)
  have hcell : w.cell? ⟨b, o, none⟩ = some cs[o] := by rw [H.cell]; simp [ho]
  have e : (execOp ρ.ev ⟨none, .store t x y, ty, "", #[], none⟩).run P w = .ok .skip (w.setCell ⟨b, o, none⟩ v) := by
    simp [execOp, Instr.storeAt, Instr.sureAddr, hp, hy, storeVar, run_sizeOf' hi, hsz, hc, storeCells, add_plain, run_store P w _ v _ h1, hcell, H.free]
  unfold E; rw [e]
  exact k _ (H.setCell v)
theorem setRow_loc {b : Nat} {bt : TypeId} {cs cs' : List Value} [hk : Pk L b bt cs L'] (H : Loc w0 w L) : Loc w0 (w.setRow b cs'.toArray) (cl b bt cs' :: L') := by
  have h1 := H.perm hk.perm
  have hg := h1.get
  refine h1.write ?_ rfl rfl rfl ?_ ?_
  · simp [World.setRow]
  · simp [World.setRow, Array.getElem?_modify, hg]
  · intro k hk'
    simp only [World.setRow, Array.getElem?_modify]
    rw [if_neg (by omega)]
theorem E_storea {t n : TypeId} [ha : Ag P t n] {b o : Nat} {bt : TypeId} {cs vs : List Value} [hk : Pk L b bt cs L'] (H : Loc w0 w L) (hp : ρ.ev x = .pointer (some ⟨b, o, none⟩)) (hy : ρ.ev y = .agg vs.toArray)
    (h1 : vs.all (·.oneCell') = true) (hn : vs.length = n) (ho : o + n ≤ cs.length) (k : ∀ w', Loc w0 w' (cl b bt (cs.take o ++ vs ++ cs.drop (o + vs.length)) :: L') → K undef w') : E P yl ρ w (.store t x y) ty K Z := by
  obtain ⟨i, hi, hsz⟩ := ha.inf
  have hg := (H.perm hk.perm).get
  have hst := run_storeCells_at P b o bt vs 0 cs.toArray w hg (by simp; omega) (fun v hv => List.all_eq_true.1 h1 v hv)
  simp only [Nat.add_zero] at hst
  have e : (execOp ρ.ev ⟨none, .store t x y, ty, "", #[], none⟩).run P w = .ok .skip (w.setRow b (cs.take o ++ vs ++ cs.drop (o + vs.length)).toArray) := by
    simp [execOp, Instr.storeAt, Instr.sureAddr, hp, hy, storeVar, run_sizeOf' hi, hsz, Value.cells, hn]
    rw [hn] at hst
    simp at hst
    simp [hst]
  unfold E; rw [e]
  exact k _ (setRow_loc H)
theorem E_fieldAddr {s f off : Nat} [hf : Fo P s f off] {b o : Nat} (hp : ρ.ev x = .pointer (some ⟨b, o, none⟩)) (k : K (.pointer (some ⟨b, o + off, none⟩)) w) : E P yl ρ w (.fieldAddr s x f) ty K Z := by
  obtain ⟨fs, fd, i, hu, hfd, ho, hi, hs⟩ := hf.inf
  subst ho
  exact E_of_run (by simp [execOp, Instr.fieldAt, run_underlying hu, hfd, Instr.sureAddr, hp, fieldPlace, run_sizeOf' hi, hs, add_plain]) k
theorem E_nilCheck {a : Addr} (hp : ρ.ev x = .pointer (some a)) (k : K (.pointer (some a)) w) : E P yl ρ w (.nilCheck x) ty K Z :=
  E_of_run (by simp [execOp, hp]) k
theorem E_idx {t e sz by_ : Nat} [hs : St P t e sz by_] {a : Addr} {len cap : Nat} {kk : IntKind} {i : Int} (hx : ρ.ev x = .slice (some a) len cap) (hi : ρ.ev y = .int kk i) (h0 : 0 ≤ i) (h1 : i < len)
    (k : K (.pointer (some (a.add (i.toNat * sz)))) w) : E P yl ρ w (.indexAddr t x y) ty K Z := by
  obtain ⟨hu, inf, hinf, hsz, _⟩ := hs.inf
  exact E_of_run (by simp [execOp, Instr.indexAt, hx, hi, asIntOf, run_underlying hu, h0, h1, run_sizeOf' hinf, hsz]) k
theorem E_idxb {t e by_ : Nat} [hs : St P t e 1 by_] {b o len cap : Nat} {kk : IntKind} {i : Int} (hx : ρ.ev x = .slice (some ⟨b, o, none⟩) len cap) (hi : ρ.ev y = .int kk i) (h0 : 0 ≤ i) (h1 : i < len)
    (k : K (.pointer (some ⟨b, o + i.toNat, none⟩)) w) : E P yl ρ w (.indexAddr t x y) ty K Z :=
  E_idx hx hi h0 h1 (by rw [Nat.mul_one, add_plain]; exact k)
theorem E_idxr {t e by_ : Nat} [hs : St P t e 1 by_] {α : Type} {r : World → Value → α → Prop} {w1 : World} {v : Value} {xs : List α} (h : RdS r w1 v xs) {kk : IntKind} {i : Int} (hx : ρ.ev x = v) (hi : ρ.ev y = .int kk i) (h0 : 0 ≤ i) (h1 : i < xs.length)
    (k : K (sad v i.toNat) w) : E P yl ρ w (.indexAddr t x y) ty K Z := by
  obtain ⟨A, c, rfl, _, _, hel⟩ := h
  have hlt : i.toNat < xs.length := by omega
  obtain ⟨ad, u, rfl, _, _⟩ := hel i.toNat _ (List.getElem?_eq_getElem hlt)
  refine E_idx hx hi h0 h1 ?_
  rw [Nat.mul_one]
  exact k
theorem E_loadr {t : TypeId} [Sc P t] {α : Type} {r : World → Value → α → Prop} [Abides r] {v : Value} {xs : List α} (h : RdS r w0 v xs) (H : Loc w0 w L) {j : Nat} {e : α} (hp : ρ.ev x = sad v j) (he : xs[j]? = some e)
    (k : ∀ u, r w0 u e → K u w) : E P yl ρ w (.load t x) ty K Z := by
  obtain ⟨A, c, rfl, _, _, hel⟩ := h
  obtain ⟨ad, u, rfl, hc, hr⟩ := hel j e he
  exact E_load_cell hp (Below.cell_some H.below hc) (k u hr)
theorem E_loadi {t : TypeId} [Sc P t] {kk : IntKind} {v : Value} {xs : List Int} (h : RdS (rInt kk) w0 v xs) (H : Loc w0 w L) {j : Nat} {e : Int} (hp : ρ.ev x = sad v j) (he : xs[j]? = some e)
    (k : K (.int kk e) w) : E P yl ρ w (.load t x) ty K Z :=
  E_loadr h H hp he (fun u hu => by rw [show u = .int kk e from hu]; exact k)
theorem E_idxa {t len e sz : Nat} [hs : At P t len e sz] {b o : Nat} {kk : IntKind} {i : Int} (hx : ρ.ev x = .pointer (some ⟨b, o, none⟩)) (hi : ρ.ev y = .int kk i) (h0 : 0 ≤ i) (h1 : i < len)
    (k : K (.pointer (some ⟨b, o + i.toNat * sz, none⟩)) w) : E P yl ρ w (.indexAddr t x y) ty K Z := by
  obtain ⟨hu, inf, hinf, hsz⟩ := hs.inf
  exact E_of_run (by simp [execOp, Instr.indexAt, hx, hi, asIntOf, run_underlying hu, Instr.sureAddr, h0, h1, run_sizeOf' hinf, hsz, add_plain]) k
theorem E_arith {op : BinOp} {kk : IntKind} {a b : Int} {c : Int} {xt yt : TypeId} (hx : ρ.ev x = .int kk a) (hy : ρ.ev y = .int kk b) (ho : (op = .add ∧ c = a + b) ∨ (op = .sub ∧ c = a - b) ∨ (op = .mul ∧ c = a * b))
    (k : K (.int kk (kk.wrap c)) w) : E P yl ρ w (.binOp op xt x y yt) ty K Z := by
  rcases ho with ⟨rfl, rfl⟩ | ⟨rfl, rfl⟩ | ⟨rfl, rfl⟩ <;>
  exact E_of_run (by simp [execOp, eqGuard, hx, hy, binOp, Op.intArith]) k
theorem wrap64_of {n : Int} (h0 : -9223372036854775808 ≤ n) (h1 : n ≤ 9223372036854775807) : IntKind.i64.wrap n = n := IntWalk.i64_in n ⟨h0, h1⟩
theorem E_add {a b : Int} {xt yt : TypeId} (hx : ρ.ev x = .int .i64 a) (hy : ρ.ev y = .int .i64 b) (h : -9223372036854775808 ≤ a + b ∧ a + b ≤ 9223372036854775807) (k : K (.int .i64 (a + b)) w) : E P yl ρ w (.binOp .add xt x y yt) ty K Z :=
  E_arith hx hy (.inl ⟨rfl, rfl⟩) (by rw [wrap64_of h.1 h.2]; exact k)
theorem E_sub {a b : Int} {xt yt : TypeId} (hx : ρ.ev x = .int .i64 a) (hy : ρ.ev y = .int .i64 b) (h : -9223372036854775808 ≤ a - b ∧ a - b ≤ 9223372036854775807) (k : K (.int .i64 (a - b)) w) : E P yl ρ w (.binOp .sub xt x y yt) ty K Z :=
  E_arith hx hy (.inr (.inl ⟨rfl, rfl⟩)) (by rw [wrap64_of h.1 h.2]; exact k)
section cmp
variable {kk : IntKind} {a b : Int} {xt yt : TypeId} (hx : ρ.ev x = .int kk a) (hy : ρ.ev y = .int kk b)
include hx hy
theorem E_lss (k : K (.bool (decide (a < b))) w) : E P yl ρ w (.binOp .lss xt x y yt) ty K Z := E_of_run (by simp [execOp, eqGuard, hx, hy, binOp, Op.intCmp]) k
theorem E_leq (k : K (.bool (decide (a ≤ b))) w) : E P yl ρ w (.binOp .leq xt x y yt) ty K Z := E_of_run (by simp [execOp, eqGuard, hx, hy, binOp, Op.intCmp]) k
theorem E_gtr (k : K (.bool (decide (b < a))) w) : E P yl ρ w (.binOp .gtr xt x y yt) ty K Z := E_of_run (by simp [execOp, eqGuard, hx, hy, binOp, Op.intCmp]) k
theorem E_geq (k : K (.bool (decide (b ≤ a))) w) : E P yl ρ w (.binOp .geq xt x y yt) ty K Z := E_of_run (by simp [execOp, eqGuard, hx, hy, binOp, Op.intCmp]) k
theorem E_eql (k : K (.bool (decide (a = b))) w) : E P yl ρ w (.binOp .eql xt x y yt) ty K Z := E_of_run (by simp [execOp, eqGuard, hx, hy, binOp, Op.intCmp]; rfl) k
theorem E_neq (k : K (.bool (decide (¬ a = b))) w) : E P yl ρ w (.binOp .neq xt x y yt) ty K Z :=
  E_of_run (by simp [execOp, eqGuard, hx, hy, binOp, Op.intCmp]; by_cases h : a = b <;> simp [h]) k
end cmp
theorem E_not {p : Prop} [Decidable p] (hx : ρ.ev x = .bool (decide p)) {xt : TypeId} (k : K (.bool (decide (¬ p))) w) : E P yl ρ w (.unOp .not xt x) ty K Z :=
  E_of_run (by simp [execOp, hx, Op.unary]) k
theorem E_notb {b : Bool} (hx : ρ.ev x = .bool b) {xt : TypeId} (k : K (.bool (!b)) w) : E P yl ρ w (.unOp .not xt x) ty K Z :=
  E_of_run (by simp [execOp, hx, Op.unary]) k
theorem E_extract {vs : Array Value} {i : Nat} {v : Value} (hx : ρ.ev x = .tuple vs) (hv : vs[i]? = some v) (k : K v w) : E P yl ρ w (.extract x i) ty K Z :=
  E_of_run (by simp [execOp, Instr.extract, hx, hv]) k
theorem E_len {t e sz by_ : Nat} [hs : St P t e sz by_] {A : Option Addr} {len cap : Nat} (hx : ρ.ev x = .slice A len cap) (k : K (.int .i64 (len : Int)) w) :
    E P yl ρ w (.call { callee := .builtin .len, args := #[x], argTypes := #[t] }) ty K Z := by
  obtain ⟨hu, _⟩ := hs.inf
  exact E_of_run (by simp [execOp, resolve, invoke, builtin, Builtin.len_, hx, run_underlying hu, goInt]) k
theorem E_cap {t e sz by_ : Nat} [hs : St P t e sz by_] {A : Option Addr} {len cap : Nat} (hx : ρ.ev x = .slice A len cap) (k : K (.int .i64 (cap : Int)) w) :
    E P yl ρ w (.call { callee := .builtin .cap, args := #[x], argTypes := #[t] }) ty K Z := by
  obtain ⟨hu, _⟩ := hs.inf
  exact E_of_run (by simp [execOp, resolve, invoke, builtin, Builtin.cap_, hx, run_underlying hu, goInt]) k
def evs (ρ : Rg) : List Operand → List Value
  | [] => []
  | x :: l => ρ.ev x :: evs ρ l
theorem evs_map (ρ : Rg) : ∀ l : List Operand, evs ρ l = l.map ρ.ev
  | [] => rfl
  | x :: l => by simp [evs, evs_map ρ l]
theorem E_makeFunc {fn : Fn} {first captured : List Operand} {f c : List Value} (hf : evs ρ first = f) (hc : evs ρ captured = c) (k : K (.func fn f.toArray c.toArray) w) : E P yl ρ w (.makeFunc fn first.toArray captured.toArray) ty K Z :=
  E_of_run (by simp [execOp, Instr.makeFunc, ← hf, ← hc, evs_map]) k
def Ret (P : Program) (f : FuncId) (args : List Value) (w : World) (Po : Value → World → Prop) : Prop :=
  Calls P f args.toArray w fun e w' => ∃ v, e = .returned v ∧ Po v w'
theorem Ret.mono {f : FuncId} {args : List Value} {Po Po' : Value → World → Prop} (h : Ret P f args w Po) (hp : ∀ v w', Po v w' → Po' v w') : Ret P f args w Po' :=
  Calls.mono h fun e w' ⟨v, he, hv⟩ => ⟨v, he, hp v w' hv⟩
def hasBody (P : Program) (f : FuncId) : Bool :=
  match P.funcs[f]? with
  | some fn => fn.body.isSome && !(fn.name == "runtime.NumGoroutine")
  | none => false
class Hb (P : Program) (f : FuncId) : Prop where h : hasBody P f = true
theorem run_callFunc' {f : FuncId} [h : Hb P f] (args : Array Value) (w : World) : (callFunc f args).run P w = .ok (.enter f args) w := by
  have := h.h
  unfold hasBody at this
  split at this
  · rename_i fn hf
    simp at this
    have hb : fn.body.isNone = false := by cases hbb : fn.body <;> simp [hbb] at this ⊢
    have h0 : fn.body ≠ none := by intro e; rw [e] at hb; cases hb
    simp [callFunc, hf, this.2, hb, h0]
  · cases this
theorem E_call {f : FuncId} [Hb P f] {args : List Operand} {at_ : Array TypeId} {vs : List Value} {Po : Value → World → Prop} (hv : evs ρ args = vs) (h : Ret P f vs w Po) (k : ∀ v w', Po v w' → K v w') :
    E P yl ρ w (.call { callee := .value (.func f), args := args.toArray, argTypes := at_ }) ty K Z := by
  have e : (execOp ρ.ev ⟨none, .call { callee := .value (.func f), args := args.toArray, argTypes := at_ }, ty, "", #[], none⟩).run P w = .ok (.enter f vs.toArray) w := by
    simp [execOp, resolve, Rg.ev, Deferred.ofValue, invoke, run_callFunc', ← hv, evs_map]
  unfold E; rw [e]
  exact Calls.mono h fun e w' ⟨v, he, hp⟩ => by subst he; exact k v w' hp
theorem E_callv {f : FuncId} [Hb P f] {g : Operand} {first captured : Array Value} {args : List Operand} {at_ : Array TypeId} {vs : List Value} {Po : Value → World → Prop} (hg : ρ.ev g = .func (.func f) first captured)
    (hv : first.toList ++ evs ρ args ++ captured.toList = vs) (h : Ret P f vs w Po) (k : ∀ v w', Po v w' → K v w') :
    E P yl ρ w (.call { callee := .value g, args := args.toArray, argTypes := at_ }) ty K Z := by
  have hvs : first ++ args.toArray.map ρ.ev ++ captured = vs.toArray := by
    apply Array.ext'
    simp [← hv, evs_map]
  have e : (execOp ρ.ev ⟨none, .call { callee := .value g, args := args.toArray, argTypes := at_ }, ty, "", #[], none⟩).run P w = .ok (.enter f vs.toArray) w := by
    simp only [execOp, resolve, hg, Deferred.ofValue, invoke, Sem.run_bind, Sem.run_pure, Result.andThen_ok]
    rw [run_callFunc', hvs]
  unfold E; rw [e]
  exact Calls.mono h fun e w' ⟨v, he, hp⟩ => by subst he; exact k v w' hp
end ops
theorem ret_of_C {P : Program} {f : FuncId} {fn : Func} {c : Code} {args : List Value} {w : World} {Po : Value → World → Prop} {n : Nat}
    (hf : P.funcs[f]? = some fn) (hb : fn.body = some c) (hn : fn.ntmps = n) (hsz : Nat.ble args.length n = true)
    (h : C P none n c (bodyQ P fn fun e w' => ∃ v, e = .returned v ∧ Po v w') ⟨fun i => args.getD i undef, []⟩ w) : Ret P f args w Po :=
  calls_of_C hf hb hn hsz h
def slots (ρ : Rg) : List Nat → Array Value
  | l => (l.map ρ.r).toArray
section ends
variable {P : Program} {fn : Func} {Po : Value → World → Prop} {ρ : Rg} {w : World}
theorem ret_one {t : Nat} (hr : fn.results = #[.tmp t]) (hd : ρ.d = []) (h : Po (ρ.r t) w) : bodyQ P fn (fun e w' => ∃ v, e = .returned v ∧ Po v w') .ret ρ w :=
  ⟨hd, fun tmps ht => ⟨ρ.r t, by rw [← ht t]; simp [results, hr], _, rfl, h⟩⟩
theorem ret_two {t u : Nat} (hr : fn.results = #[.tmp t, .tmp u]) (hd : ρ.d = []) (h : Po (.tuple #[ρ.r t, ρ.r u]) w) : bodyQ P fn (fun e w' => ∃ v, e = .returned v ∧ Po v w') .ret ρ w :=
  ⟨hd, fun tmps ht => ⟨.tuple #[ρ.r t, ρ.r u], by rw [← ht t, ← ht u]; simp [results, hr], _, rfl, h⟩⟩
theorem ret_none (hr : fn.results = #[]) (hd : ρ.d = []) (h : Po (.tuple #[]) w) : bodyQ P fn (fun e w' => ∃ v, e = .returned v ∧ Po v w') .ret ρ w :=
  ⟨hd, fun tmps ht => ⟨.tuple #[], by simp [results, hr], _, rfl, h⟩⟩
theorem end_none (hr : fn.results = #[]) (hd : ρ.d = []) (h : Po (.tuple #[]) w) : bodyQ P fn (fun e w' => ∃ v, e = .returned v ∧ Po v w') .normal ρ w :=
  ⟨hd, fun tmps ht => ⟨.tuple #[], by simp [results, hr], _, rfl, h⟩⟩
end ends
end Go.Sl
set_option linter.unusedVariables false
set_option linter.unusedSimpArgs false
namespace Go.Sl
open Go.RowKit
def noG (Q : Post) : Post
  | .goto _, _, _ => False
  | e, ρ, w => Q e ρ w
theorem noG_ret {Q : Post} {ρ : Rg} {w : World} (h : Q .ret ρ w) : noG Q .ret ρ w := h
theorem noG_normal {Q : Post} {ρ : Rg} {w : World} (h : Q .normal ρ w) : noG Q .normal ρ w := h
theorem C_scope {P : Program} {n : Nat} {c : Code} {Q : Post} {ρ : Rg} {w : World} (h : C P none n c (noG Q) ρ w) : C P none n (.scope c) Q ρ w := by
  intro a ha
  refine wpIn_wide.2 (wp_scope_straight (Code.wp_mono ?_ (wpIn_wide.1 (h a ha))))
  rintro e a' w' ⟨ρ', hi, hq⟩
  cases e with
  | goto l => exact hq.elim
  | normal => exact ⟨ρ', hi, hq⟩
  | ret => exact ⟨ρ', hi, hq⟩
  | panic ch => exact ⟨ρ', hi, hq⟩
  | exit id => exact ⟨ρ', hi, hq⟩
  | outgrown => exact ⟨ρ', hi, hq⟩
def idxOf {α : Type} (p : α → Bool) : List α → Int
  | [] => -1
  | x :: xs => if p x then 0 else (if idxOf p xs < 0 then -1 else idxOf p xs + 1)
theorem idxOf_at {α : Type} (p : α → Bool) : ∀ (xs : List α) (k : Nat) (x : α), xs[k]? = some x → p x = true → (∀ (j : Nat) (y : α), j < k → xs[j]? = some y → p y = false) → idxOf p xs = k
  | [], k, x, h, _, _ => by simp at h
  | y :: ys, 0, x, h, hp, _ => by simp at h; subst h; simp [idxOf, hp]
  | y :: ys, k + 1, x, h, hp, hn => by
    have hy : p y = false := hn 0 y (by omega) rfl
    have ih := idxOf_at p ys k x (by simpa using h) hp (fun j z hj hz => hn (j + 1) z (by omega) (by simpa using hz))
    simp only [idxOf, hy, ih]
    rw [if_neg (by simp), if_neg (by omega)]
    simp
theorem idxOf_none {α : Type} (p : α → Bool) : ∀ (xs : List α), (∀ (j : Nat) (y : α), xs[j]? = some y → p y = false) → idxOf p xs = -1
  | [], _ => rfl
  | y :: ys, hn => by
    have hy : p y = false := hn 0 y rfl
    have ih := idxOf_none p ys (fun j z hz => hn (j + 1) z (by simpa using hz))
    simp [idxOf, hy, ih]
theorem idxOf_iff {α : Type} (p : α → Bool) : ∀ (xs : List α), 0 ≤ idxOf p xs ↔ xs.any p = true
  | [] => by simp [idxOf]
  | y :: ys => by
    have ih := idxOf_iff p ys
    have e : idxOf p (y :: ys) = if p y then 0 else (if idxOf p ys < 0 then -1 else idxOf p ys + 1) := rfl
    rw [e, List.any_cons]
    by_cases hy : p y = true
    · simp [hy]
    · have hy' : p y = false := by simpa using hy
      simp only [hy', Bool.false_or, ← ih]
      by_cases h : idxOf p ys < 0
      · simp [h]
      · simp [h]; omega
theorem idxOf_any {α : Type} (p : α → Bool) (xs : List α) : decide (0 ≤ idxOf p xs) = xs.any p := by
  rw [Bool.eq_iff_iff, decide_eq_true_iff]; exact idxOf_iff p xs
def PredAt (P : Program) (fv : Value) (w0 : World) {α : Type} (r : World → Value → α → Prop) (p : α → Bool) (xs : List α) : Prop :=
  ∃ g first captured, fv = .func (.func g) first captured ∧ hasBody P g = true ∧
    ∀ w x u, Below w0.heap.size w0 w → x ∈ xs → r w0 u x → Ret P g (first.toList ++ [u] ++ captured.toList) w (fun v w' => v = .bool (p x) ∧ Below w.heap.size w w')
end Go.Sl
set_option linter.unusedVariables false
set_option linter.unusedSimpArgs false
namespace Go.Sl
open Go.RowKit
def emp : HP where
  p S _ := ∀ b, ¬ S b
  loc _ h := h
def star (A B : HP) : HP where
  p S w := ∃ S1 S2 : Nat → Prop, (∀ b, S b ↔ S1 b ∨ S2 b) ∧ (∀ b, ¬ (S1 b ∧ S2 b)) ∧ A.p S1 w ∧ B.p S2 w
  loc h := fun ⟨S1, S2, h1, h2, h3, h4⟩ => ⟨S1, S2, h1, h2, A.loc (fun b hb => h b ((h1 b).2 (.inl hb))) h3, B.loc (fun b hb => h b ((h1 b).2 (.inr hb))) h4⟩
def ex {α : Type} (A : α → HP) : HP where
  p S w := ∃ a, (A a).p S w
  loc h := fun ⟨a, ha⟩ => ⟨a, (A a).loc h ha⟩
theorem Loc.mkStar {w0 w : World} {A B : HP} {L : List HP} (h : Loc w0 w (A :: B :: L)) : Loc w0 w (star A B :: L) := by
  obtain ⟨S, k0, S1, S2, k1, k2, k3, T1, T2, j1, j2, j3, j4⟩ := h.sep
  refine ⟨h.below, S, k0, fun b => S1 b ∨ T1 b, T2, fun b => by rw [k1, j1]; exact or_assoc.symm, ?_, ⟨S1, T1, fun b => Iff.rfl, fun b ⟨x, y⟩ => k2 b ⟨x, (j1 b).2 (.inl y)⟩, k3, j3⟩, j4⟩
  rintro b ⟨x | x, y⟩
  · exact k2 b ⟨x, (j1 b).2 (.inr y)⟩
  · exact j2 b ⟨x, y⟩
theorem Loc.mkEmp {w0 w : World} {L : List HP} (h : Loc w0 w L) : Loc w0 w (emp :: L) :=
  let ⟨S, k0, k⟩ := h.sep; ⟨h.below, S, k0, fun _ => False, S, fun b => by simp, fun b hb => hb.1.elim, fun b hb => hb, k⟩
theorem Loc.toRd {w0 w : World} {A : HP} {L : List HP} (h : Loc w0 w (A :: L)) (v : Value) (f : World → Prop) (hf : ∀ S w', A.p S w' → f w') : Loc w0 w (rdv v f :: L) :=
  h.imp fun S hp w' hw' => hf S w' (A.loc hw' hp)
theorem Loc.rdImp {w0 w : World} {v : Value} {f g : World → Prop} {L : List HP} (h : Loc w0 w (rdv v f :: L)) (hf : ∀ w, f w → g w) : Loc w0 w (rdv v g :: L) :=
  h.imp fun S hp w' hw' => hf _ (hp w' hw')
def row (e size : Nat) (v : Value) (n : Nat) (xs : List Value) : HP where
  p S w := (∀ x, S x ↔ v.ownBlock = some x) ∧ w.ownsRow 0 e size v n xs
  loc {S w w'} hs hp := by
    refine ⟨hp.1, hp.2.1, ?_⟩
    rcases hp.2.2 with hn | ⟨g, cap, cur, rfl, hb, hg, rest⟩
    · exact .inl hn
    · refine .inr ⟨g, cap, cur, rfl, hb, ?_, rest⟩
      rw [hs g ((hp.1 g).2 rfl)]
      exact hg
class Pw (L : List HP) (v : Value) (e size n : outParam Nat) (xs : outParam (List Value)) (L' : outParam (List HP)) : Prop where
  perm : L.Perm (row e size v n xs :: L')
instance (priority := high) Pw.here (v : Value) (e size n : Nat) (xs : List Value) (L : List HP) : Pw (row e size v n xs :: L) v e size n xs L := ⟨List.Perm.refl _⟩
instance Pw.there (R : HP) (L : List HP) (v : Value) (e size n : Nat) (xs : List Value) (L' : List HP) [h : Pw L v e size n xs L'] : Pw (R :: L) v e size n xs (R :: L') :=
  ⟨(List.Perm.cons _ h.perm).trans (List.Perm.swap _ _ _)⟩
section rows
variable {w0 w : World} {L L' : List HP} {v : Value} {e size n : Nat} {xs : List Value}
theorem Loc.own (h : Loc w0 w (row e size v n xs :: L)) : w.ownsRow 0 e size v n xs :=
  let ⟨S, k1, S1, S2, k2, k3, k5, k6⟩ := h.sep; k5.2
theorem row_len (h : w.ownsRow 0 e size v n xs) : ∃ A c, v = .slice A n c ∧ n ≤ c ∧ c ≤ 9223372036854775807 ∧ xs.length = n * size := by
  rcases h.2 with ⟨rfl, rfl⟩ | ⟨g, cap, cur, rfl, _, _, h1, h2, _⟩
  · exact ⟨none, 0, rfl, Nat.le_refl _, by omega, h.1⟩
  · exact ⟨_, cap, rfl, h1, by simpa [maxLen] using h2, h.1⟩
theorem Loc.len [hp : Pw L v e size n xs L'] (h : Loc w0 w L) : ∃ A c, v = .slice A n c ∧ n ≤ c ∧ c ≤ 9223372036854775807 ∧ xs.length = n * size :=
  row_len (h.perm hp.perm).own
theorem nilRow (e size : Nat) (h : Loc w0 w L) : Loc w0 w (row e size (.slice none 0 0) 0 [] :: L) := by
  obtain ⟨S, k0, k⟩ := h.sep
  exact ⟨h.below, S, k0, fun _ => False, S, fun b => by simp, fun b hb => hb.1.elim, ⟨fun x => by simp [Value.ownBlock], World.ownsRow_nil w 0 e size⟩, k⟩
theorem Loc.clRow {b t cap : Nat} {cs ys : List Value} (h : Loc w0 w (cl b t cs :: L)) (size n : Nat) (hn : n ≤ cap) (hc : cap ≤ 9223372036854775807) (hl : cs.length = cap * size) (ht : cs.take (n * size) = ys) :
    Loc w0 w (row t size (.slice (some ⟨b, 0, none⟩) n cap) n ys :: L) := by
  have hg := h.get
  have hx : ys.length = n * size := by rw [← ht, List.length_take]; exact Nat.min_eq_left (by rw [hl]; exact Nat.mul_le_mul_right _ hn)
  refine h.imp fun S hp => ⟨fun x => ?_, hx, .inr ⟨b, cap, cs.toArray, rfl, Nat.zero_le _, hg, hn, by simpa [maxLen] using hc, by simpa using hl, by simpa using ht⟩⟩
  rw [hp.1 x]
  simp [Value.ownBlock, eq_comm]
theorem Loc.addRow {w' : World} {v' : Value} {n' : Nat} {xs' : List Value} (h : Loc w0 w (row e size v n xs :: L)) (ho : w'.ownsRow 0 e size v' n' xs') (hg : w.grownBy w' v.ownBlock)
    (hb : v'.ownBlock = v.ownBlock ∨ v'.ownBlock = some w.heap.size) (hlt : ∀ b, v'.ownBlock = some b → b < w'.heap.size) : Loc w0 w' (row e size v' n' xs' :: L) := by
  obtain ⟨S, k0, S1, S2, k1, k2, ⟨k3, k4⟩, k5⟩ := h.sep
  have hlow : ∀ b, v.ownBlock = some b → w0.heap.size ≤ b := fun b hb => (k0 b ((k1 b).2 (.inl ((k3 b).2 hb)))).1
  refine ⟨h.below.grown hg h.below.size hlow, fun b => v'.ownBlock = some b ∨ S2 b, ?_, fun b => v'.ownBlock = some b, S2, fun b => Iff.rfl, ?_, ⟨fun x => Iff.rfl, ho⟩, k5.loc fun b hb' => hg.block b (k0 b ((k1 b).2 (.inr hb'))).2 fun he => k2 b ⟨(k3 b).2 he.symm, hb'⟩⟩
  · rintro b (hv | hs)
    · refine ⟨?_, hlt b hv⟩
      rcases hb with hb | hb
      · exact hlow b (hb ▸ hv)
      · rw [hb] at hv; cases hv; exact h.below.size
    · have := k0 b ((k1 b).2 (.inr hs))
      exact ⟨this.1, Nat.lt_of_lt_of_le this.2 hg.size⟩
  · rintro b ⟨hv, hs⟩
    rcases hb with hb | hb
    · exact k2 b ⟨(k3 b).2 (hb ▸ hv), hs⟩
    · rw [hb] at hv; cases hv
      have := k0 _ ((k1 _).2 (.inr hs))
      omega
end rows
def ints (k : IntKind) (xs : List Int) : List Value := xs.map (Value.int k)
theorem ints_one (k : IntKind) (xs : List Int) : (ints k xs).all (·.oneCell') = true := by simp [ints, Value.oneCell']
@[simp] theorem ints_length (k : IntKind) (xs : List Int) : (ints k xs).length = xs.length := by simp [ints]
@[simp] theorem ints_append (k : IntKind) (xs ys : List Int) : ints k (xs ++ ys) = ints k xs ++ ints k ys := by simp [ints]
theorem ints_snoc (k : IntKind) (xs : List Int) (x : Int) : ints k (xs ++ [x]) = ints k xs ++ [Value.int k x] := by simp [ints]
theorem ints_get (k : IntKind) (xs : List Int) (i : Nat) (x : Int) (h : xs[i]? = some x) : (ints k xs)[i]? = some (.int k x) := by simp [ints, h]
theorem ints_set (k : IntKind) (xs : List Int) (i : Nat) (x : Int) : (ints k xs).set i (.int k x) = ints k (xs.set i x) := by simp [ints, List.map_set]
theorem ints_replicate (k : IntKind) (n : Nat) (x : Int) : List.replicate n (Value.int k x) = ints k (List.replicate n x) := by simp [ints]
theorem RdS.of_own {α : Type} {r : World → Value → α → Prop} {w : World} {v : Value} {e n : Nat} {vs : List Value} {xs : List α} (h : w.ownsRow 0 e 1 v n vs) (hx : xs.length = n) (hr : ∀ (i : Nat) (x : α), xs[i]? = some x → ∃ u, vs[i]? = some u ∧ r w u x) : RdS r w v xs := by
  rcases h.2 with ⟨rfl, rfl⟩ | ⟨g, cap, cur, rfl, _, hg, h1, h2, h3, h4⟩
  · obtain rfl : xs = [] := List.eq_nil_of_length_eq_zero hx
    exact RdS.nil r w
  · refine ⟨some ⟨g, 0, none⟩, cap, by rw [hx], by omega, by simpa [maxLen] using h2, fun i x hi => ?_⟩
    obtain ⟨u, hu, hru⟩ := hr i x hi
    refine ⟨_, u, rfl, ?_, hru⟩
    exact h.cells (g := g) rfl i u hu
theorem RdI.of_own {k : IntKind} {w : World} {v : Value} {e n : Nat} {xs : List Int} (h : w.ownsRow 0 e 1 v n (ints k xs)) (hx : xs.length = n) : RdS (rInt k) w v xs :=
  RdS.of_own h hx fun i x hi => ⟨_, ints_get k xs i x hi, rfl⟩
theorem RdS.of_cl {α : Type} {r : World → Value → α → Prop} {w0 w : World} {b t cap : Nat} {cs : List Value} {L L' : List HP} [hp : Pk L b t cs L'] (H : Loc w0 w L) {xs : List α} (hc : xs.length ≤ cap) (hm : cap ≤ 9223372036854775807)
    (hr : ∀ (i : Nat) (x : α), xs[i]? = some x → ∃ u, cs[i]? = some u ∧ r w u x) : RdS r w (.slice (some ⟨b, 0, none⟩) xs.length cap) xs :=
  ⟨_, cap, rfl, hc, hm, fun i x hi => by
    obtain ⟨u, hu, hru⟩ := hr i x hi
    refine ⟨_, u, rfl, ?_, hru⟩
    rw [add_plain, H.cell, Nat.zero_add]
    exact hu⟩
theorem RdI.of_cl {k : IntKind} {w0 w : World} {b t : Nat} {xs : List Int} {L L' : List HP} [hp : Pk L b t (ints k xs) L'] (H : Loc w0 w L) (hm : xs.length ≤ 9223372036854775807) : RdS (rInt k) w (.slice (some ⟨b, 0, none⟩) xs.length xs.length) xs :=
  RdS.of_cl (hp := hp) H (Nat.le_refl _) hm fun i x hi => ⟨_, ints_get k xs i x hi, rfl⟩
section ops
variable {P : Program} {yl : Bool} {ρ : Rg} {w w0 : World} {L L' : List HP} {ty : TypeId} {K : Value → World → Prop} {Z : List PanicEntry → World → Prop} {x y z : Operand}
theorem madeCells_one (z : Value) (n : Nat) : (madeCells #[z] n).toList = List.replicate n z := by
  unfold madeCells
  apply List.ext_getElem
  · simp
  · intro i h1 h2
    simp [Nat.mod_one]
theorem E_make {t e by_ : Nat} [hs : St P t e 1 by_] {zv : Value} [hz : Zr P e [zv]] {l c : Int} {kl kc : IntKind} (H : Loc w0 w L) (hx : ρ.ev x = .int kl l) (hy : ρ.ev y = .int kc c) (h0 : 0 ≤ l) (hlc : l ≤ c) (hb : (by_ : Int) * c ≤ 281474976710656) (hc : c ≤ 9223372036854775807)
    (k : ∀ w' b, Loc w0 w' (cl b e (List.replicate c.toNat zv) :: L) → K (.slice (some ⟨b, 0, none⟩) l.toNat c.toNat) w') : E P yl ρ w (.makeSlice t x y) ty K Z := by
  obtain ⟨hu, i, hi, hsz, hby⟩ := hs.inf
  obtain ⟨i', zz, hi', hzz, hcells⟩ := hz.inf
  obtain rfl : i = i' := Option.some.inj (hi.symm.trans hi')
  have hzc : zz.cells = #[zv] := by
    apply Array.ext'
    rw [hcells]
  have hr := run_make (P := P) w t e i zz hu hi hzz kl kc l c h0 hlc (by rw [hby]; exact hb) hc
  rw [hsz, Nat.mul_one, hzc] at hr
  have e' : (execOp ρ.ev ⟨none, .makeSlice t x y, ty, "", #[], none⟩).run P w = .ok (.value (.slice (some ⟨w.heap.size, 0, none⟩) l.toNat c.toNat)) (w.alloc (.cells (madeCells #[zv] c.toNat) e)) := by
    simp [execOp, hx, hy, hr]
  unfold E; rw [e']
  refine k _ _ ?_
  have := H.alloc (.cells (madeCells #[zv] c.toNat) e)
  unfold cl
  rw [← madeCells_one]
  simpa using this
def numbered : List Operand → Nat → List (Nat × Operand)
  | [], _ => []
  | x :: l, i => (i, x) :: numbered l (i + 1)
theorem fill_numbered (f : Operand → Value) : ∀ (xs : List Operand) (i : Nat) (acc : Array Value), (xs.map f).all (·.oneCell') = true → i + xs.length ≤ acc.size →
    Instr.fill (fun i => some (i * 1, 1)) acc ((numbered xs i).map fun p => (p.1, f p.2)) = some (acc.toList.take i ++ xs.map f ++ acc.toList.drop (i + xs.length)).toArray
  | [], i, acc, _, _ => by simp [numbered, Instr.fill]
  | x :: xs, i, acc, h1, hl => by
    simp only [List.map_cons, List.all_cons, Bool.and_eq_true] at h1
    have hc : (f x).cells = #[f x] := by
      have := h1.1
      cases hfx : f x <;> first | rfl | (rw [hfx] at this; cases this)
    have hi : i < acc.size := by simp at hl; omega
    simp only [numbered, List.map_cons, Instr.fill, Nat.mul_one, hc]
    rw [if_neg (by simp; omega)]
    have ih := fill_numbered f xs (i + 1) (acc.setIfInBounds i (f x)) h1.2 (by simp at hl ⊢; omega)
    have e : (#[f x].zipIdx.foldl (fun cs (p : Value × Nat) => cs.setIfInBounds (i + p.2) p.1) acc) = acc.setIfInBounds i (f x) := by simp
    simp only [Nat.mul_one] at ih
    rw [e, ih]
    congr 1
    apply Array.ext'
    simp only [Array.toList_setIfInBounds]
    apply List.ext_getElem?
    intro j
    have hlen : i < acc.toList.length := by simpa using hi
    simp only [List.getElem?_append, List.length_append, List.length_take, List.length_set, List.length_map, List.length_cons]
    by_cases hj : j < i
    · rw [if_pos (by omega), if_pos (by omega), if_pos (by omega), if_pos (by omega)]
      simp [List.getElem?_take, List.getElem?_set, hj, show j < i + 1 by omega, show ¬ i = j by omega]
    · by_cases hj2 : j = i
      · subst hj2
        rw [if_pos (by omega), if_pos (by omega), if_pos (by omega), if_neg (by omega)]
        simp [List.getElem?_take, List.getElem?_set, hlen, Nat.min_eq_left (Nat.le_of_lt hlen)]
        rw [if_pos hi, show min j acc.size = j by omega, Nat.sub_self]
        rfl
      · by_cases hj3 : j < i + 1 + xs.length
        · rw [if_pos (by omega), if_neg (by omega), if_pos (by omega), if_neg (by omega)]
          rw [show min (i + 1) acc.toList.length = i + 1 by omega, show min i acc.toList.length = i by omega]
          rw [show j - i = (j - (i + 1)) + 1 by omega, List.getElem?_cons_succ]
        · rw [if_neg (by omega), if_neg (by omega)]
          simp only [List.getElem?_drop, List.getElem?_set]
          rw [show min (i + 1) acc.toList.length = i + 1 by omega, show min i acc.toList.length = i by omega]
          rw [if_neg (by omega)]
          congr 1
          omega
theorem E_lit {t e by_ : Nat} [hs : St P t e 1 by_] {zv : Value} [hz : Zr P e [zv]] {m : Nat} {parts : Array (Nat × Operand)} (xs : List Operand) (hp : parts = (numbered xs 0).toArray) (hm : m = xs.length) (hsm : Nat.ble m 16777216 = true) {vs : List Value} (hv : evs ρ xs = vs) (h1 : vs.all (·.oneCell') = true) (H : Loc w0 w L)
    (k : ∀ w' b, Loc w0 w' (cl b e vs :: L) → K (.slice (some ⟨b, 0, none⟩) m m) w') : E P yl ρ w (.buildSlice t m parts) ty K Z := by
  subst hp; subst hm; subst hv
  obtain ⟨hu, i, hi, hsz, hby⟩ := hs.inf
  obtain ⟨i', zz, hi', hzz, hcells⟩ := hz.inf
  obtain rfl : i = i' := Option.some.inj (hi.symm.trans hi')
  have hzc : zz.cells = #[zv] := by
    apply Array.ext'
    rw [hcells]
  rw [evs_map] at h1 k
  have hle : xs.length ≤ 16777216 := Nat.le_of_ble_eq_true hsm
  have hf := fun (acc : Array Value) (hacc : acc.size = xs.length) => fill_numbered ρ.ev xs 0 acc h1 (by omega)
  have e' : (execOp ρ.ev ⟨none, .buildSlice t xs.length (numbered xs 0).toArray, ty, "", #[], none⟩).run P w = .ok (.value (.slice (some ⟨w.heap.size, 0, none⟩) xs.length xs.length)) (w.alloc (.cells (xs.map ρ.ev).toArray e)) := by
    by_cases h0 : xs.length = 0
    · obtain rfl : xs = [] := List.eq_nil_of_length_eq_zero h0
      simp [execOp, Instr.buildSlice, run_underlying hu, run_sizeOf' hi, hsz, numbered, Instr.fill, newRow, Array.range]
    · have hff := hf ((Array.range (xs.length * 1)).map (#[zv][· % #[zv].size]!)) (by simp)
      simp only [List.take_zero, List.nil_append, Nat.zero_add] at hff
      rw [List.drop_of_length_le (by simp)] at hff
      simp [execOp, Instr.buildSlice, run_underlying hu, run_sizeOf' hi, hsz, h0, zeroValue, run_typeInfo' hi, hzz, hzc, show ¬ 16777216 < xs.length by omega, newRow] at hff ⊢
      rw [hff]
      simp
  unfold E; rw [e']
  refine k _ _ ?_
  exact H.alloc (.cells (xs.map ρ.ev).toArray e)
theorem E_append {t e size by_ : Nat} [hs : St P t e size by_] {zs : List Value} [hz : Zr P e zs] (hzs : zs.length = size) (hpos : 0 < size) {v : Value} {n : Nat} {xs : List Value} [hw : Pw L v e size n xs L'] (H : Loc w0 w L)
    (hx : ρ.ev x = v) {a : Addr} {m c : Nat} (hy : ρ.ev y = .slice (some a) m c) {news : List Value} (hl : news.length = m * size) (hn : ∀ j u, news[j]? = some u → w.cell? (a.add j) = some u) (h1 : news.all (·.oneCell') = true)
    (hb : (n + m) * by_ ≤ 140737488355328) (hc : n + m ≤ 9223372036854775807) (k : ∀ w' v', Loc w0 w' (row e size v' (n + m) (xs ++ news) :: L') → K v' w') :
    E P yl ρ w (.call { callee := .builtin .append, args := #[x, y], argTypes := #[t, t] }) ty K Z := by
  obtain ⟨hu, i, hi, hsz, hby⟩ := hs.inf
  obtain ⟨i', zz, hi', hzz, hcells⟩ := hz.inf
  obtain rfl : i = i' := Option.some.inj (hi.symm.trans hi')
  have H' := H.perm hw.perm
  have hz1 : zz.cells.size = size := by rw [← hzs, ← hcells]; simp
  obtain ⟨v', w', hr, ho, hg, _, hat⟩ := run_append_own_at (P := P) w 0 t ty e i zz size by_ hu hi hzz hsz hby hz1 hpos v n xs H'.own a m c news hl hn (fun u hu => List.all_eq_true.1 h1 u hu) (by simpa [maxLen] using hc) hb (Nat.zero_le _)
  have e' : (execOp ρ.ev ⟨none, .call { callee := .builtin .append, args := #[x, y], argTypes := #[t, t] }, ty, "", #[], none⟩).run P w = .ok (.value v') w' := by
    simp [execOp, resolve, invoke, builtin, hx, hy, hr]
  unfold E; rw [e']
  exact k _ _ (H'.addRow ho hg hat fun b hb' => (ho.lt b hb').2)
theorem E_append1 {t e by_ : Nat} [hs : St P t e 1 by_] {zv : Value} [hz : Zr P e [zv]] {v : Value} {n : Nat} {xs : List Value} {b bt : Nat} {u : Value} {L2 : List HP} [hk : Pk L b bt [u] L2] [hw : Pw L2 v e 1 n xs L'] (H : Loc w0 w L)
    (hx : ρ.ev x = v) (hy : ρ.ev y = .slice (some ⟨b, 0, none⟩) 1 1) (h1 : u.oneCell' = true)
    (hb : (n + 1) * by_ ≤ 140737488355328) (hc : n + 1 ≤ 9223372036854775807) (k : ∀ w' v', Loc w0 w' (row e 1 v' (n + 1) (xs ++ [u]) :: L') → K v' w') :
    E P yl ρ w (.call { callee := .builtin .append, args := #[x, y], argTypes := #[t, t] }) ty K Z := by
  have hcell : ∀ j u', [u][j]? = some u' → w.cell? ((⟨b, 0, none⟩ : Addr).add j) = some u' := fun j u' hj => by rw [add_plain, H.cell, Nat.zero_add]; exact hj
  exact E_append (hw := hw) (by rfl) (by omega) (H.perm hk.perm).drop hx hy (by rfl) hcell (by simp [h1]) hb hc k
theorem E_append_rd {t e by_ : Nat} [hs : St P t e 1 by_] {zv : Value} [hz : Zr P e [zv]] {v : Value} {n : Nat} {xs : List Value} [hw : Pw L v e 1 n xs L'] (H : Loc w0 w L)
    (hx : ρ.ev x = v) {A : Option Addr} {m c : Nat} (hy : ρ.ev y = .slice A m c) {news : List Value} (hl : news.length = m) (hn : ∀ j u, news[j]? = some u → ∃ a, A = some a ∧ w.cell? (a.add j) = some u) (h1 : news.all (·.oneCell') = true)
    (hb : (n + m) * by_ ≤ 140737488355328) (hc : n + m ≤ 9223372036854775807) (k : ∀ w' v', Loc w0 w' (row e 1 v' (n + m) (xs ++ news) :: L') → K v' w') :
    E P yl ρ w (.call { callee := .builtin .append, args := #[x, y], argTypes := #[t, t] }) ty K Z := by
  cases A with
  | some a => exact E_append (hw := hw) (by rfl) (by omega) H hx hy (by omega) (fun j u hj => by obtain ⟨a', e, h⟩ := hn j u hj; cases e; exact h) h1 hb hc k
  | none =>
    have hm : m = 0 := by
      cases m with
      | zero => rfl
      | succ m =>
        obtain ⟨a, e, _⟩ := hn 0 _ (List.getElem?_eq_getElem (by omega))
        cases e
    subst hm
    obtain rfl : news = [] := List.eq_nil_of_length_eq_zero hl
    obtain ⟨hu, i, hi, hsz, hby⟩ := hs.inf
    have H' := H.perm hw.perm
    have hown := H'.own
    obtain ⟨A', c', rfl, hle, _, _⟩ := row_len hown
    have e' : (execOp ρ.ev ⟨none, .call { callee := .builtin .append, args := #[x, y], argTypes := #[t, t] }, ty, "", #[], none⟩).run P w = .ok (.value (.slice A' n c')) w := by
      cases A' <;> simp [execOp, resolve, invoke, builtin, hx, hy, Builtin.append_, run_underlying hu, run_sizeOf' hi, hsz, Builtin.lenOf, hle, Builtin.firstCells, storeCells]
    unfold E; rw [e']
    refine k _ _ ?_
    rw [List.append_nil]
    exact H'
theorem E_idxw {t e by_ : Nat} [hs : St P t e 1 by_] {v : Value} {e' n : Nat} {xs : List Value} [hw : Pw L v e' 1 n xs L'] (H : Loc w0 w L) {kk : IntKind} {i : Int} (hx : ρ.ev x = v) (hi : ρ.ev y = .int kk i) (h0 : 0 ≤ i) (h1 : i < n)
    (k : K (sad v i.toNat) w) : E P yl ρ w (.indexAddr t x y) ty K Z := by
  have hown := (H.perm hw.perm).own
  rcases hown.2 with ⟨rfl, rfl⟩ | ⟨g, cap, cur, rfl, _⟩
  · omega
  · exact E_idx hx hi h0 h1 (by rw [Nat.mul_one]; exact k)
theorem E_loadw' {t : TypeId} [Sc P t] {v : Value} {e' n : Nat} {xs : List Value} [hw : Pw L v e' 1 n xs L'] (H : Loc w0 w L) {j : Nat} {u : Value} (hp : ρ.ev x = sad v j) (hu : xs[j]? = some u) (k : K u w) : E P yl ρ w (.load t x) ty K Z := by
  have hown := (H.perm hw.perm).own
  rcases hown.2 with ⟨rfl, rfl⟩ | ⟨g, cap, cur, rfl, _⟩
  · have hl := hown.1
    have := (List.getElem?_eq_some_iff.1 hu).1
    omega
  · exact E_load_cell hp (hown.cells (g := g) rfl j u hu) k
theorem E_storew {t : TypeId} [hs : Sc P t] {v : Value} {e' n : Nat} {xs : List Value} [hw : Pw L v e' 1 n xs L'] (H : Loc w0 w L) {j : Nat} {u : Value} (hp : ρ.ev x = sad v j) (hy : ρ.ev y = u) (h1 : u.oneCell' = true) (hj : j < n)
    (k : ∀ w', Loc w0 w' (row e' 1 v n (xs.set j u) :: L') → K undef w') : E P yl ρ w (.store t x y) ty K Z := by
  obtain ⟨i, hi, hsz⟩ := hs.inf
  have hc : u.cells = #[u] := by cases u <;> first | rfl | (cases h1)
  have H' := H.perm hw.perm
  have hown := H'.own
  rcases hown.2 with ⟨rfl, rfl⟩ | ⟨g, cap, cur, rfl, _, hg, h2, h3, h4, h5⟩
  · omega
  · have hlen := hown.1
    rw [Nat.mul_one] at hlen h5
    have hjc : j < cur.size := by omega
    have hcell : w.cell? ⟨g, j, none⟩ = some cur[j] := by rw [cell_of_blk hg]; simp [hjc]
    have hsad : sad (.slice (some ⟨g, 0, none⟩) n cap) j = .pointer (some ⟨g, j, none⟩) := by simp [sad, add_plain]
    rw [hsad] at hp
    have e : (execOp ρ.ev ⟨none, .store t x y, ty, "", #[], none⟩).run P w = .ok .skip (w.setCell ⟨g, j, none⟩ u) := by
      simp [execOp, Instr.storeAt, Instr.sureAddr, hp, hy, storeVar, run_sizeOf' hi, hsz, hc, storeCells, add_plain, run_store P w _ u _ h1, hcell, frozen_of_blk hg]
    unfold E; rw [e]
    refine k _ (H'.addRow ?_ ⟨rfl, rfl, rfl, by simp, fun k' _ hk' => Below.heap_setCell w ⟨g, j, none⟩ u k' (fun e => hk' (by simp [Value.ownBlock, e]))⟩ (.inl rfl) ?_)
    · refine ⟨by simp [hlen], .inr ⟨g, cap, cur.setIfInBounds j u, rfl, Nat.zero_le _, ?_, h2, h3, by simp [h4], ?_⟩⟩
      · simp [World.setCell, Array.getElem?_modify, hg]
      · rw [Nat.mul_one, Array.toList_setIfInBounds, List.take_set, h5]
    · intro b hb
      simp [Value.ownBlock] at hb
      subst hb
      have := (Array.getElem?_eq_some_iff.1 hg).1
      simpa using this
theorem E_lenw {t e by_ sz : Nat} [hs : St P t e sz by_] {v : Value} {e' sz' n : Nat} {xs : List Value} [hw : Pw L v e' sz' n xs L'] (H : Loc w0 w L) (hx : ρ.ev x = v) (k : K (.int .i64 (n : Int)) w) :
    E P yl ρ w (.call { callee := .builtin .len, args := #[x], argTypes := #[t] }) ty K Z := by
  obtain ⟨A, c, rfl, _⟩ := H.len (hp := hw)
  exact E_len hx k
theorem run_slice' {t e sz by_ : Nat} [hs : St P t e sz by_] {A : Option Addr} {len cap : Nat} {lo hi mx : Option Operand} {l h m : Nat} (hx : ρ.ev x = .slice A len cap)
    (hmx : (match mx with | none => m = cap | some o => ρ.ev o = .int .i64 (m : Int))) (hhi : (match hi with | none => h = len ∧ mx = none | some o => ρ.ev o = .int .i64 (h : Int))) (hlo : (match lo with | none => l = 0 | some o => ρ.ev o = .int .i64 (l : Int)))
    (h1 : l ≤ h) (h2 : h ≤ m) (h3 : m ≤ cap) :
    (execOp ρ.ev ⟨none, .slice t x lo hi mx, ty, "", #[], none⟩).run P w = .ok (.value (.slice (if m = l then A else A.map (·.add (l * sz))) (h - l) (m - l))) w := by
  obtain ⟨hu, i, hinf, hsz, hby⟩ := hs.inf
  cases lo <;> cases hi <;> cases mx <;> simp only at hmx hhi hlo <;> first
    | (obtain ⟨rfl, hh⟩ := hhi; first | (cases hh; done) | skip)
    | skip
  all_goals (try subst hlo)
  all_goals (try subst hmx)
  all_goals simp [execOp, Instr.sliceAt, run_underlying hu, Instr.slice, hx, Instr.sliceBounds, Instr.sliceBound, asIntOf, *, run_sizeOf' hinf]
  all_goals (repeat' (first | rw [if_pos (by omega)] | skip))
  all_goals (try simp [run_sizeOf' hinf, hsz])
end ops
end Go.Sl
