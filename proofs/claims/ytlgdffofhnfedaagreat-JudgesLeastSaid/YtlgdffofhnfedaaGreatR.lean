/- The shallow logic, part 10: range over a function; marks among the deferred calls. No program in sight. -/
import Derived.Test.YtlgdffofhnfedaaGreatI
import Derived.RangeFuncRecord
import Derived.RangeFuncSeq
set_option linter.unusedVariables false
set_option linter.unusedSimpArgs false
namespace Go.Sl
open Go.RowKit
theorem Loc.putObj {w0 w : World} {b : Nat} {o : Obj} {L : List HP} (h : Loc w0 w (blk b o :: L)) (o' : Obj) : Loc w0 (w.putObj b o') (blk b o' :: L) :=
  h.write (by simp) rfl rfl rfl (World.putObj_heap_same (h.ge).2) (fun k hk => World.putObj_heap_other hk)
class Sg (P : Program) (t : TypeId) : Prop where h : (match P.underlying t with | some .string => true | _ => false) = true
theorem Sg.inf {P : Program} {t : TypeId} [h : Sg P t] : P.underlying t = some .string := by
  have := h.h
  split at this
  · assumption
  · cases this
theorem E_idxstr {P : Program} {yl : Bool} {ρ : Rg} {w : World} {ty : TypeId} {K : Value → World → Prop} {Z : List PanicEntry → World → Prop} {x y : Operand} {t : TypeId} [hs : Sg P t] {s : ByteArray} {k : IntKind} {i : Nat} (hx : ρ.ev x = .string s) (hy : ρ.ev y = .int k i) (hb : i < s.size)
    (kk : ∀ b : UInt8, K (.int .u8 (b.toNat : Int)) w) : E P yl ρ w (.index t x y) ty K Z := by
  obtain ⟨b, hb'⟩ : ∃ b, s[i]? = some b := ⟨s[i], by simp [hb]⟩
  exact E_of_run (by simp [execOp, Instr.index, hx, hy, asIntOf, run_underlying hs.inf, hb']) (kk b)
theorem C_kf {P : Program} {rd : Option Nat} {n : Nat} {Q : Post} {ρ : Rg} {w : World} {x y : Code} (h : C P rd n y Q ρ w) : C P rd n (.cond (.const (.bool false)) x y) Q ρ w := by
  intro a ha
  have he : a.eval (.const (.bool false)) = .bool false := rfl
  exact wpIn_cond_split he (fun e => by cases e) (fun _ => h a ha)
theorem E_idxs {P : Program} {yl : Bool} {ρ : Rg} {w : World} {ty : TypeId} {K : Value → World → Prop} {Z : List PanicEntry → World → Prop} {x y : Operand} {t e by_ : Nat} [hs : St P t e 1 by_] {a : Addr} {len cap : Nat} {kk : IntKind} {i : Int} (hx : ρ.ev x = .slice (some a) len cap) (hi : ρ.ev y = .int kk i) (h0 : 0 ≤ i) (h1 : i < len)
    (k : K (sad (.slice (some a) len cap) i.toNat) w) : E P yl ρ w (.indexAddr t x y) ty K Z :=
  E_idx hx hi h0 h1 (by rw [Nat.mul_one]; exact k)
theorem row_shape {w : World} {e n : Nat} {v : Value} {xs : List Value} (h : w.ownsRow 0 e 1 v n xs) (hn : 0 < n) : ∃ b c, v = .slice (some ⟨b, 0, none⟩) n c ∧ n ≤ c ∧ c ≤ 9223372036854775807 := by
  rcases h.2 with ⟨rfl, rfl⟩ | ⟨g, cap, cur, rfl, _, hg, h1, h2, h3, h4⟩
  · omega
  · exact ⟨g, cap, rfl, h1, by simpa [maxLen] using h2⟩
theorem R_defer {P : Program} {n : Nat} {ops : List Oper} {Q : Post} {l : List Oper} {ρ : Rg} {w : World} {g : Operand} {fn : Fn} {captured : Array Value} {ty : TypeId} {p : String} {af : Array Edge} {ats : Array TypeId}
    (hg : ρ.ev g = .func fn #[] captured) (h : R P none n ops Q l ⟨ρ.r, { target := .fn fn captured, args := #[] } :: ρ.d⟩ w) :
    R P none n ops Q (⟨none, .defer { callee := .value g, args := #[], argTypes := ats }, ty, p, af, none⟩ :: l) ρ w := by
  intro hok a ha
  simp only [okL, Bool.and_eq_true] at hok
  unfold wpListIn
  rw [if_pos (by simp [Region.wanted])]
  refine ⟨fun f _ => trivial, ?_⟩
  have e : (Oper.semAt (FW none).round a.eval ⟨none, .defer { callee := .value g, args := #[], argTypes := ats }, ty, p, af, none⟩).run P w = .ok (.defer { target := .fn fn captured, args := #[] }) w := by
    have hg' : a.eval g = .func fn #[] captured := by rw [ha.ev]; exact hg
    simp [Oper.semAt, FW, execOp, resolve, hg', Deferred.ofValue]
  rw [e]
  exact h hok.2 _ ⟨ha.size, ha.reg, by rw [← ha.defers]; rfl⟩
def YieldP (P : Program) (l : Nat) (vs : List Value) (W : World) (R : Bool → World → Prop) : Prop :=
  ∃ fn tmps assign body, (Instr.yield l vs.toArray).run P W = .ok (.round l fn tmps assign body) W ∧ RoundIn Fence.wide 0 P l fn tmps assign body W (fun e w' => ∃ b, e = .returned (.bool b) ∧ R b w')
theorem YieldP.mono {P : Program} {l : Nat} {vs : List Value} {W : World} {R R' : Bool → World → Prop} (h : YieldP P l vs W R) (hr : ∀ b w, R b w → R' b w) : YieldP P l vs W R' :=
  let ⟨fn, t, a, b, h1, h2⟩ := h; ⟨fn, t, a, b, h1, h2.mono fun e w' ⟨b, he, hb⟩ => ⟨b, he, hr _ _ hb⟩⟩
section
variable {P : Program} {ρ : Rg} {w : World} {ty : TypeId} {K : Value → World → Prop} {Z : List PanicEntry → World → Prop}
theorem E_yield {l : Nat} {g : Operand} {args : List Operand} {at_ : Array TypeId} {vs : List Value} {R : Bool → World → Prop} (hg : ρ.ev g = .func (.yield l) #[] #[]) (hv : evs ρ args = vs) (h : YieldP P l vs w R) (k : ∀ b w', R b w' → K (.bool b) w') :
    E P true ρ w (.call { callee := .value g, args := args.toArray, argTypes := at_ }) ty K Z := by
  obtain ⟨fn, tmps, assign, body, hy, hr⟩ := h
  have hvs : args.toArray.map ρ.ev = vs.toArray := by
    apply Array.ext'
    simp [← hv, evs_map]
  have e : (execOp ρ.ev ⟨none, .call { callee := .value g, args := args.toArray, argTypes := at_ }, ty, "", #[], none⟩).run P w = .ok (.round l fn tmps assign body) w := by
    simp only [execOp, resolve, hg, Deferred.ofValue, invoke, Sem.run_bind, Sem.run_pure, Result.andThen_ok, hvs]
    simpa using hy
  unfold E; rw [e]
  exact ⟨rfl, hr.mono fun e w' ⟨b, he, hb⟩ => by subst he; exact k b w' hb⟩
end
def IterOk (P : Program) (gf : FuncId) (lb : List Value) (w0 : World) (N : Nat) (Xv : Nat → List Value → Prop) (FX : Nat → List Value → List HP) (AI : List (List Value) → List HP) : Prop :=
  ∀ (l : Nat) (J JX : List (List Value) → List HP → Prop) (W : World) (T : List HP),
    (∀ hs vs F W T, hs.length < N → Xv hs.length vs → J hs T → Loc w0 W (FX hs.length vs ++ (F ++ T)) →
      YieldP P l vs W fun b W' => (b = true ∧ ∃ T', J (hs ++ [vs]) T' ∧ Loc w0 W' (FX hs.length vs ++ (F ++ T'))) ∨ (b = false ∧ ∃ T', JX (hs ++ [vs]) T' ∧ Loc w0 W' (FX hs.length vs ++ (F ++ T')))) →
    J [] T → Loc w0 W (AI [] ++ T) →
    Ret P gf (.func (.yield l) #[] #[] :: lb) W (fun _ W' => ∃ hs T', ((hs.length = N ∧ J hs T') ∨ JX hs T') ∧ Loc w0 W' (AI hs ++ T'))
def mark (D : Nat) : Deferred := { target := .collected D, args := #[] }
def dfr (D : Nat) : HP := blk D (.deferred (some []))
def roundQ (w0 : World) (J : List (List Value) → List HP → Prop) (JR : Code → List (List Value) → List HP → Prop) (hs : List (List Value)) (X F : List HP) : Post
  | .normal, _, w => ∃ T, J hs T ∧ Loc w0 w (X ++ (T ++ F))
  | .ret, _, w => ∃ T, JR .ret hs T ∧ Loc w0 w (X ++ (T ++ F))
  | .exit id, _, w => ∃ T, JR (.exit id) hs T ∧ Loc w0 w (X ++ (T ++ F))
  | _, _, _ => False
instance (w0 : World) (J : List (List Value) → List HP → Prop) (JR : Code → List (List Value) → List HP → Prop) (hs : List (List Value)) (X F : List HP) : PanOk (roundQ w0 J JR hs X F) := ⟨fun c ρ ρ' w e hq => hq⟩
def setPs (ρ : Rg) : List Tmp → List Value → Rg
  | p :: ps, v :: vs => setPs (ρ.up p v) ps vs
  | _, _ => ρ
theorem Is.setPs {n : Nat} : ∀ {ps : List Tmp} {vs : List Value} {tmps : Array Value} {ρ : Rg}, ps.all (fun p => Nat.ble (p + 1) n) = true → Is n ⟨tmps, ρ.d⟩ ρ →
    Is n ⟨(ps.zip vs).foldl (fun t (x : Tmp × Value) => t.setIfInBounds x.1 x.2) tmps, ρ.d⟩ (setPs ρ ps vs)
  | [], vs, tmps, ρ, _, h => by cases vs <;> exact h
  | p :: ps, [], tmps, ρ, _, h => h
  | p :: ps, v :: vs, tmps, ρ, hp, h => by
    simp only [List.all_cons, Bool.and_eq_true] at hp
    have h1 : Is n ⟨tmps.setIfInBounds p v, ρ.d⟩ (ρ.up p v) := by
      have := h.put (o := ⟨some p, .move (.const v), 0, "", #[], none⟩) hp.1 v
      exact this
    exact Is.setPs (ρ := ρ.up p v) hp.2 h1
theorem setPs_d : ∀ (ρ : Rg) (ps : List Tmp) (vs : List Value), (setPs ρ ps vs).d = ρ.d
  | ρ, [], vs => by cases vs <;> rfl
  | ρ, p :: ps, [] => rfl
  | ρ, p :: ps, v :: vs => by rw [setPs, setPs_d]; rfl
theorem perm_head {X T F : List HP} {A : HP} : (X ++ (T ++ (A :: F))).Perm (A :: (X ++ (T ++ F))) := by
  rw [← List.append_assoc, ← List.append_assoc]
  exact List.perm_middle
theorem perm_turn {X F T R : List HP} : (X ++ (F ++ (T ++ R))).Perm (X ++ (T ++ (R ++ F))) := by
  refine List.Perm.append_left X ?_
  rw [← List.append_assoc T]
  exact List.perm_append_comm
theorem C_rangeFunc {P : Program} {n : Nat} {Q : Post} {ρ : Rg} {w w0 : World} {g : Operand} {ps : List Tmp} {assign body : Code} {gf : FuncId} {lb : List Value} [hbd : Hb P gf] {N : Nat} {Xv : Nat → List Value → Prop} {FX : Nat → List Value → List HP} {AI : List (List Value) → List HP} {T : List HP}
    (hg : ρ.ev g = .func (.func gf) #[] lb.toArray) (hps : ps.all (fun p => Nat.ble (p + 1) n) = true) (hlen : ∀ k vs, Xv k vs → vs.length = ps.length) (hit : IterOk P gf lb w0 N Xv FX AI)
    (J : List (List Value) → List HP → Prop) (JR : Code → List (List Value) → List HP → Prop) (H : Loc w0 w (AI [] ++ T)) (h0 : J [] T)
    (round : ∀ l hs vs F W T, hs.length < N → Xv hs.length vs → J hs T → Loc w0 W (FX hs.length vs ++ (T ++ F)) →
      C P (some l) n assign (thn (fun ρ1 w1 => ρ1.d = [] ∧ ∃ T1, Loc w0 w1 (FX hs.length vs ++ (T1 ++ F)) ∧ ∀ F2 w2, Loc w0 w2 (FX hs.length vs ++ (T1 ++ F2)) → C P (some l) n body (roundQ w0 J JR (hs ++ [vs]) (FX hs.length vs) F2) ρ1 w2) (fun _ _ _ => False)) (setPs ⟨ρ.r, []⟩ ps vs) W)
    (done : ∀ D hs T w', hs.length = N → J hs T → Loc w0 w' (dfr D :: (AI hs ++ T)) → Q .normal ⟨ρ.r, mark D :: ρ.d⟩ w')
    (stop : ∀ D c hs T w', JR c hs T → Loc w0 w' (dfr D :: (AI hs ++ T)) → C P none n c Q ⟨ρ.r, mark D :: ρ.d⟩ w') :
    C P none n (.rangeFunc g ps.toArray assign body) Q ρ w := by
  intro a ha
  refine wpIn_rangeFunc ?_
  intro fn hfn
  obtain ⟨rec, hrec⟩ : ∃ rec : LoopState → Option Code → Loop, rec = fun st pe => { state := st, pending := pe, fn, tmps := a.tmps, params := ps.toArray, assign, body, defers := w.heap.size } := ⟨_, rfl⟩
  obtain ⟨W1, hW1⟩ : ∃ W1, (w.alloc (.deferred (some []))).alloc (.loop (rec .ready none)) = W1 := ⟨_, rfl⟩
  obtain ⟨D, hD⟩ : ∃ D, D = w.heap.size := ⟨_, rfl⟩
  obtain ⟨l, hl⟩ : ∃ l, l = w.heap.size + 1 := ⟨_, rfl⟩
  have H1 : Loc w0 W1 (blk l (.loop (rec .ready none)) :: dfr D :: (AI [] ++ T)) := by
    have := (H.alloc (.deferred (some []))).alloc (.loop (rec .ready none))
    rw [hW1, World.size_alloc, ← hl, ← hD] at this
    exact this
  have hv : ∀ (args : Array Value) (w : World), (callFunc gf args).run P w = .ok (.enter gf args) w := fun args w => run_callFunc' args w
  refine ⟨w.heap.size + 1, [{ target := .collected w.heap.size, args := #[] }], W1, { target := .fn (.func gf) lb.toArray, args := #[.func (.yield (w.heap.size + 1)) #[] #[]] }, W1, gf,
    #[.func (.yield (w.heap.size + 1)) #[] #[]] ++ lb.toArray, W1, ?_, ?_, ?_, ?_, fun h => by simp [FW, Fence.wide] at h, ?_⟩
  · rw [← hW1, hrec]; exact run_enterLoop_outer _ _ _ _ _
  · have hg' : a.eval g = .func (.func gf) #[] lb.toArray := by rw [ha.ev]; exact hg
    simp only [resolve, hg']
    simp [Deferred.ofValue, Act.eval]
  · intro f' hf'; exact trivial
  · simp [invoke, hv]
  · rw [← hl, ← hD]
    have hret := hit l (fun hs T' => ∃ T, J hs T ∧ T' = T ++ [blk l (.loop (rec .ready none)), dfr D]) (fun hs T' => ∃ c T, JR c hs T ∧ T' = T ++ [blk l (.loop (rec .done (some c))), dfr D]) W1 (T ++ [blk l (.loop (rec .ready none)), dfr D]) ?_ ⟨T, h0, rfl⟩ (H1.perm ?_)
    · have e : (#[.func (.yield l) #[] #[]] ++ lb.toArray : Array Value) = (Value.func (.yield l) #[] #[] :: lb).toArray := by simp
      rw [e]
      refine callsIn_rd (Calls.mono hret ?_)
      rintro e W2 ⟨v, rfl, hs, T', (⟨hN, T2, hJ, rfl⟩ | ⟨c, T2, hJ, rfl⟩), H2⟩
      · have H3 : Loc w0 W2 (blk l (.loop (rec .ready none)) :: dfr D :: (AI hs ++ T2)) := H2.perm (by
          rw [← List.append_assoc]
          exact List.perm_append_comm (l₂ := [_, _]))
        have hend := run_endLoop (P := P) H3.get (by rw [hrec]; simp)
        have hp : (rec .ready none).pending = none := by rw [hrec]
        have hend2 : ∃ w4, (Instr.endLoop l).run P W2 = .ok none w4 ∧ Loc w0 w4 (dfr D :: (AI hs ++ T2)) := ⟨_, hend.trans (congrArg (fun p => Result.ok p _) hp), (H3.putObj _).drop⟩
        obtain ⟨w4, he4, H4⟩ := hend2
        refine ⟨none, w4, he4, ⟨⟨ρ.r, mark D :: ρ.d⟩, ⟨ha.size, ha.reg, ?_⟩, done D hs T2 _ hN hJ H4⟩⟩
        show [mark D] ++ a.defers = mark D :: ρ.d
        rw [ha.defers]; rfl
      · have H3 : Loc w0 W2 (blk l (.loop (rec .done (some c))) :: dfr D :: (AI hs ++ T2)) := H2.perm (by
          rw [← List.append_assoc]
          exact List.perm_append_comm (l₂ := [_, _]))
        have hend := run_endLoop (P := P) H3.get (by rw [hrec]; simp)
        have hp : (rec .done (some c)).pending = some c := by rw [hrec]
        have hend2 : ∃ w4, (Instr.endLoop l).run P W2 = .ok (some c) w4 ∧ Loc w0 w4 (dfr D :: (AI hs ++ T2)) := ⟨_, hend.trans (congrArg (fun p => Result.ok p _) hp), (H3.putObj _).drop⟩
        obtain ⟨w4, he4, H4⟩ := hend2
        refine ⟨some c, w4, he4, stop D c hs T2 _ hJ H4 _ ⟨ha.size, ha.reg, ?_⟩⟩
        show [mark D] ++ a.defers = mark D :: ρ.d
        rw [ha.defers]; rfl
    · rintro hs vs F W T' hlt hX ⟨T2, hJ, rfl⟩ HW
      have HW2 : Loc w0 W (FX hs.length vs ++ (T2 ++ (blk l (.loop (rec .ready none)) :: dfr D :: F))) := HW.perm (perm_turn (R := [_, _]))
      have hy := run_yield (P := P) (args := vs.toArray) (HW2.perm perm_head).get (by rw [hrec]; simpa using hlen _ _ hX)
      rw [hrec] at hy
      refine ⟨fn, _, assign, body, hy, roundIn_of_wpIn hfn ?_⟩
      have hIs : Is n ⟨(ps.zip vs).foldl (fun t (x : Tmp × Value) => t.setIfInBounds x.1 x.2) a.tmps, []⟩ (setPs ⟨ρ.r, []⟩ ps vs) := Is.setPs (ρ := ⟨ρ.r, []⟩) hps ⟨ha.size, ha.reg, rfl⟩
      have hC := round l hs vs (blk l (.loop (rec .ready none)) :: dfr D :: F) W T2 hlt hX hJ HW2 _ hIs
      have e : (Array.foldl (fun tmps (x : Tmp × Value) => tmps.setIfInBounds x.1 x.2) a.tmps (ps.toArray.zip vs.toArray)) = (ps.zip vs).foldl (fun t (x : Tmp × Value) => t.setIfInBounds x.1 x.2) a.tmps := by
        rw [← List.foldl_toArray]; simp
      rw [← e] at hC
      refine wpIn_mono hC ?_
      rintro ex a1 w1 ⟨ρ1, hi1, hq⟩
      cases ex with
      | normal =>
        obtain ⟨hd1, T1, H4, hbody⟩ := hq
        have H5 := H4.perm perm_head
        have hbr := run_beginRound (P := P) H5.get (by rw [hrec])
        refine ⟨_, hbr, ?_⟩
        have H6 := (H5.putObj (.loop { rec .ready none with state := .busy })).perm perm_head.symm
        have hb2 := hbody _ _ H6 a1 hi1
        refine wpIn_mono hb2 ?_
        have fin : ∀ (jump : Option Code) (W3 : World) (T3 : List HP), Loc w0 W3 (FX hs.length vs ++ (T3 ++ (blk l (.loop { rec .ready none with state := .busy }) :: dfr D :: F))) →
            ∃ w4, (Instr.endRound l jump).run P W3 = .ok (.bool jump.isNone) w4 ∧ Loc w0 w4 (FX hs.length vs ++ (F ++ (T3 ++ [blk l (.loop (rec (if jump.isNone then .ready else .done) jump)), dfr D]))) := fun jump W3 T3 h3 => by
          have h4 := h3.perm perm_head
          have := run_endRound (P := P) jump h4.get
          refine ⟨_, this, ?_⟩
          refine ((h4.putObj _).perm perm_head.symm).perm ?_
          rw [hrec]
          exact (perm_turn (R := [_, _])).symm
        rintro ex3 a3 W3 ⟨ρ3, hi3, hq3⟩
        cases ex3 with
        | normal =>
          obtain ⟨T3, hJ3, H7⟩ := hq3
          obtain ⟨w4, hr4, H8⟩ := fin none W3 T3 H7
          exact ⟨_, w4, hr4, true, rfl, .inl ⟨rfl, _, ⟨T3, hJ3, rfl⟩, H8⟩⟩
        | ret =>
          obtain ⟨T3, hJ3, H7⟩ := hq3
          obtain ⟨w4, hr4, H8⟩ := fin (some .ret) W3 T3 H7
          exact ⟨_, w4, hr4, false, rfl, .inr ⟨rfl, _, ⟨.ret, T3, hJ3, rfl⟩, H8⟩⟩
        | exit id =>
          obtain ⟨T3, hJ3, H7⟩ := hq3
          obtain ⟨w4, hr4, H8⟩ := fin (some (.exit id)) W3 T3 H7
          exact ⟨_, w4, hr4, false, rfl, .inr ⟨rfl, _, ⟨.exit id, T3, hJ3, rfl⟩, H8⟩⟩
        | goto t => exact hq3.elim
        | panic c => exact hq3.elim
        | outgrown => exact hq3.elim
      | exit id => exact hq.elim
      | goto t => exact hq.elim
      | ret => exact hq.elim
      | panic c => exact hq.elim
      | outgrown => exact hq.elim
    · rw [← List.append_assoc]
      exact List.perm_append_comm (l₁ := [_, _])
def RetD (P : Program) (f : FuncId) (args : List Value) (w : World) (Po : Value → World → Prop) : Prop :=
  ∀ u, CallsDIn Fence.wide 0 P f args.toArray u w fun e u' w' => u' = u ∧ ∃ v, e = .returned v ∧ Po v w'
theorem RetD.mono {P : Program} {f : FuncId} {args : List Value} {w : World} {Po Po' : Value → World → Prop} (h : RetD P f args w Po) (hp : ∀ v w, Po v w → Po' v w) : RetD P f args w Po' := fun u =>
  ⟨(h u).1, fun c cs hc hr => by
    obtain ⟨e, u', w', fr, ⟨h1, v, h2, h3⟩, rest⟩ := (h u).2 c cs hc hr
    exact ⟨e, u', w', fr, ⟨h1, v, h2, hp v w' h3⟩, rest⟩⟩
def Unw (P : Program) : List Deferred → World → (World → Prop) → Prop
  | [], w, K => K w
  | d :: ds, w, K => (∃ r w', d.target = .collected r ∧ (Instr.takeDeferred r).run P w = .ok [] w' ∧ Unw P ds w' K) ∨
      (∃ f cap, d.target = .fn (.func f) cap ∧ d.args = #[] ∧ hasBody P f = true ∧ RetD P f cap.toList w (fun _ w' => Unw P ds w' K))
def bodyQM (P : Program) (fn : Func) (Rt : Ending → World → Prop) : Post
  | .normal, ρ, w | .ret, ρ, w => Unw P ρ.d w fun w' => resOf P fn ρ w' (fun v => Rt (.returned v) w')
  | _, _, _ => False
instance (P : Program) (fn : Func) (Rt : Ending → World → Prop) : PanOk (bodyQM P fn Rt) := ⟨fun c ρ ρ' w e hq => hq⟩
theorem leaves_of_unw {P : Program} {fn : Func} {ρ : Rg} {Rt : Ending → World → Prop} {tmps : Array Value} (ht : ∀ i, tmps.getD i undef = ρ.r i) : ∀ (ds : List Deferred) (w : World),
    Unw P ds w (fun w' => resOf P fn ρ w' (fun v => Rt (.returned v) w')) → LeavesInM (FW none) 0 P fn tmps Rt ds .returning w
  | [], w, h => h tmps ht
  | d :: ds, w, h => by
    refine ⟨by simp, ?_⟩
    rcases h with ⟨r, w', h1, h2, h3⟩ | ⟨f, cap, h1, h0, hb, h2⟩
    · exact .inl ⟨r, w', h1, h2, leaves_of_unw ht ds w' h3⟩
    · haveI : Hb P f := ⟨hb⟩
      refine .inr ⟨fun h => by simp [FW, Fence.wide] at h, .func f, cap, f, cap, h1, ?_, fun _ _ => trivial, ?_⟩
      · rw [h1, h0]; simp [invoke, run_callFunc']
      · have h3 := h2 .returning
        rw [show cap.toList.toArray = cap by simp] at h3
        refine ⟨h3.1, fun c cs hc hr => ?_⟩
        obtain ⟨e, u', w', fr, ⟨rfl, v, rfl, hu⟩, rest⟩ := h3.2 c cs hc hr
        exact ⟨_, _, w', fr, leaves_of_unw ht ds w' hu, rest⟩
theorem ret_of_CM {P : Program} {f : FuncId} {fn : Func} {c : Code} {args : List Value} {w : World} {Po : Value → World → Prop} {n : Nat}
    (hf : P.funcs[f]? = some fn) (hb : fn.body = some c) (hn : fn.ntmps = n) (hsz : Nat.ble args.length n = true)
    (h : C P none n c (bodyQM P fn fun e w' => ∃ v, e = .returned v ∧ Po v w') ⟨fun i => args.getD i undef, []⟩ w) : Ret P f args w Po := by
  refine callsIn_wide.1 (callsIn_of_wp_marks (n := 0) hf hb trivial ?_)
  have hle : args.length ≤ n := Nat.le_of_ble_eq_true hsz
  refine wpIn_mono (h _ ⟨by simp [hn]; omega, fun i => ?_, rfl⟩) ?_
  · simp only [Array.getD_eq_getD_getElem?, List.getD_eq_getElem?_getD]
    rw [Array.getElem?_append]
    by_cases hi : i < args.length
    · simp [hi]
    · simp only [List.size_toArray, hi, if_false]
      rw [List.getElem?_eq_none (by omega)]
      by_cases h2 : i - args.length < fn.ntmps - args.length
      · rw [Array.getElem?_replicate, if_pos h2]; rfl
      · rw [Array.getElem?_replicate, if_neg h2]
  · rintro e a w' ⟨ρ, hi, hq⟩
    cases e with
    | normal =>
      have := leaves_of_unw (P := P) (fn := fn) (Rt := fun e w' => ∃ v, e = .returned v ∧ Po v w') hi.reg ρ.d w' hq
      rw [← hi.defers] at this
      exact this
    | ret =>
      have := leaves_of_unw (P := P) (fn := fn) (Rt := fun e w' => ∃ v, e = .returned v ∧ Po v w') hi.reg ρ.d w' hq
      rw [← hi.defers] at this
      exact this
    | panic c => exact hq.elim
    | exit id => exact hq.elim
    | goto l => exact hq.elim
    | outgrown => exact hq.elim
theorem retD_of_C {P : Program} {f : FuncId} {fn : Func} {c : Code} {args : List Value} {w : World} {Po : Value → World → Prop} {n : Nat}
    (hf : P.funcs[f]? = some fn) (hb : fn.body = some c) (hn : fn.ntmps = n) (hsz : Nat.ble args.length n = true)
    (h : C P none n c (bodyQ P fn fun e w' => ∃ v, e = .returned v ∧ Po v w') ⟨fun i => args.getD i undef, []⟩ w) : RetD P f args w Po := by
  intro u
  refine callsDIn_of_wp (n := 0) (R := fun e w' => ∃ v, e = .returned v ∧ Po v w') hf hb trivial ?_
  have hle : args.length ≤ n := Nat.le_of_ble_eq_true hsz
  refine wpIn_mono (h _ ⟨by simp [hn]; omega, fun i => ?_, rfl⟩) ?_
  · simp only [Array.getD_eq_getD_getElem?, List.getD_eq_getElem?_getD]
    rw [Array.getElem?_append]
    by_cases hi : i < args.length
    · simp [hi]
    · simp only [List.size_toArray, hi, if_false]
      rw [List.getElem?_eq_none (by omega)]
      by_cases h2 : i - args.length < fn.ntmps - args.length
      · rw [Array.getElem?_replicate, if_pos h2]; rfl
      · rw [Array.getElem?_replicate, if_neg h2]
  · rintro e a w' ⟨ρ, hi, hq⟩
    cases e with
    | normal => obtain ⟨hd, hr⟩ := hq; obtain ⟨v, h1, h2⟩ := hr a.tmps hi.reg; exact ⟨hi.defers.trans hd, v, h1, h2⟩
    | ret => obtain ⟨hd, hr⟩ := hq; obtain ⟨v, h1, h2⟩ := hr a.tmps hi.reg; exact ⟨hi.defers.trans hd, v, h1, h2⟩
    | panic c => exact ⟨hi.defers.trans hq.1, hq.2⟩
    | exit id => exact hq.elim
    | goto l => exact hq.elim
    | outgrown => exact hq.elim
def mks (ds : List Deferred) : HP where
  p S w := ∃ rs : List Nat, ds = rs.map mark ∧ rs.Nodup ∧ (∀ x, S x ↔ x ∈ rs) ∧ ∀ r ∈ rs, w.heap[r]? = some (.deferred (some []))
  loc := fun {S w w'} hs ⟨rs, h1, h2, h3, h4⟩ => ⟨rs, h1, h2, h3, fun r hr => (hs r ((h3 r).2 hr)).trans (h4 r hr)⟩
theorem Loc.mks0 {w0 w : World} {L : List HP} (h : Loc w0 w L) : Loc w0 w (mks [] :: L) :=
  h.mkEmp.imp fun S hp => ⟨[], rfl, List.nodup_nil, fun x => by simp; exact hp x, fun r hr => by cases hr⟩
theorem Loc.mksS {w0 w : World} {L : List HP} {D : Nat} {ds : List Deferred} (h : Loc w0 w (dfr D :: mks ds :: L)) : Loc w0 w (mks (mark D :: ds) :: L) := by
  refine h.mkStar.imp fun S hp => ?_
  obtain ⟨S1, S2, k1, k2, ⟨k3, k4⟩, rs, h1, h2, h3, h4⟩ := hp
  refine ⟨D :: rs, by rw [h1]; rfl, List.nodup_cons.2 ⟨fun hD => k2 D ⟨(k3 D).2 rfl, (h3 D).2 hD⟩, h2⟩, fun x => ?_, fun r hr => ?_⟩
  · rw [k1, k3, h3]; simp
  · rcases List.mem_cons.1 hr with rfl | hr
    · exact k4
    · exact h4 r hr
theorem Loc.mks1 {w0 w : World} {L : List HP} {D : Nat} (h : Loc w0 w (dfr D :: L)) : Loc w0 w (mks [mark D] :: L) :=
  Loc.mksS ((Loc.mks0 h).perm (List.Perm.swap _ _ _))
theorem unw_mks {P : Program} {w0 : World} {L : List HP} {K : World → Prop} (hK : ∀ w, Loc w0 w L → K w) : ∀ (ds : List Deferred) (w : World), Loc w0 w (mks ds :: L) → Unw P ds w K
  | [], w, h => hK w h.drop
  | d :: ds, w, h => by
    obtain ⟨S, k0, S1, S2, k1, k2, ⟨rs, h1, h2, h3, h4⟩, k4⟩ := h.sep
    cases rs with
    | nil => cases h1
    | cons r rs =>
      simp only [List.map_cons, List.cons.injEq] at h1
      obtain ⟨rfl, rfl⟩ := h1
      rw [List.nodup_cons] at h2
      have hr := h4 r List.mem_cons_self
      have hlt : r < w.heap.size := (Array.getElem?_eq_some_iff.1 hr).1
      refine .inl ⟨r, _, rfl, run_takeDeferred hr, unw_mks hK _ _ ?_⟩
      have hS : S r := (k1 r).2 (.inl ((h3 r).2 List.mem_cons_self))
      refine ⟨h.below.trans ⟨rfl, rfl, rfl, by simp, fun k hk => World.putObj_heap_other (by have := (k0 r hS).1; omega)⟩, fun b => S b ∧ b ≠ r, fun b hb => by have := k0 b hb.1; simpa using this, fun b => b ∈ rs, S2, fun b => ?_, fun b hb => k2 b ⟨(h3 b).2 (List.mem_cons_of_mem _ hb.1), hb.2⟩, ⟨rs, rfl, h2.2, fun x => Iff.rfl, fun r' hr' => ?_⟩, k4.loc fun b hb => World.putObj_heap_other fun e => ?_⟩
      · show (S b ∧ b ≠ r) ↔ (b ∈ rs ∨ S2 b)
        rw [k1, h3]
        constructor
        · rintro ⟨hb | hb, hne⟩
          · rcases List.mem_cons.1 hb with rfl | hb
            · exact absurd rfl hne
            · exact .inl hb
          · exact .inr hb
        · rintro (hb | hb)
          · exact ⟨.inl (List.mem_cons_of_mem _ hb), fun e => h2.1 (e ▸ hb)⟩
          · exact ⟨.inr hb, fun e => k2 b ⟨(h3 b).2 (e ▸ List.mem_cons_self), hb⟩⟩
      · rw [World.putObj_heap_other fun e => h2.1 (by rw [← e]; exact hr')]
        exact h4 r' (List.mem_cons_of_mem _ hr')
      · subst e
        exact k2 b ⟨(h3 b).2 List.mem_cons_self, hb⟩
section
variable {P : Program} {fn : Func} {Po : Value → World → Prop} {ρ : Rg} {w w0 : World} {L : List HP}
theorem retM_list {rs : List ResultVar} {vs : List Value} (hr : fn.results = rs.toArray) (H : Loc w0 w (mks ρ.d :: L)) (hv : ∀ w', Loc w0 w' L → resL P w' ρ rs vs) (h : ∀ w', Loc w0 w' L → Po (tupV vs) w') : bodyQM P fn (fun e w' => ∃ v, e = .returned v ∧ Po v w') .ret ρ w :=
  unw_mks (fun w' H' => resOf_list hr (hv w' H') ⟨_, rfl, h w' H'⟩) ρ.d w H
theorem endM_list {rs : List ResultVar} {vs : List Value} (hr : fn.results = rs.toArray) (H : Loc w0 w (mks ρ.d :: L)) (hv : ∀ w', Loc w0 w' L → resL P w' ρ rs vs) (h : ∀ w', Loc w0 w' L → Po (tupV vs) w') : bodyQM P fn (fun e w' => ∃ v, e = .returned v ∧ Po v w') .normal ρ w :=
  unw_mks (fun w' H' => resOf_list hr (hv w' H') ⟨_, rfl, h w' H'⟩) ρ.d w H
end
theorem C_loopD {P : Program} {rd : Option Nat} {n : Nat} {Q : Post} {ρ : Rg} {w : World} {c : Code} (regs : List Nat) (I : Nat → List Value → List Deferred → World → Prop) {m : Nat} (h0 : I m (regs.map ρ.r) ρ.d w)
    (round : ∀ m vs ρ₀ w, I m vs ρ₀.d w → C P rd n c (thn (fun ρ' w' => ∃ m', m' < m ∧ I m' (regs.map ρ'.r) ρ'.d w') Q) (ups ρ₀ regs vs) w) : C P rd n (.loop c) Q ρ w := by
  have key : ∀ (P0 : Rg → World → Prop) (h0 : P0 ρ w) (μ : Rg → World → Nat)
      (step : ∀ ρ w, P0 ρ w → C P rd n c (thn (fun ρ' w' => P0 ρ' w' ∧ μ ρ' w' < μ ρ w) Q) ρ w), C P rd n (.loop c) Q ρ w := by
    intro P0 h0 μ step a ha
    refine wpIn_loop (fun a w => ∃ ρ, Is n a ρ ∧ P0 ρ w) (fun a w => μ ⟨fun i => a.tmps.getD i undef, a.defers⟩ w) ⟨ρ, ha, h0⟩ ?_
    rintro a w ⟨ρ, hi, hp⟩
    have eq : ∀ {a : Act} {ρ : Rg}, Is n a ρ → (⟨fun i => a.tmps.getD i undef, a.defers⟩ : Rg) = ρ := by
      intro a ρ hi
      have h1 : (fun i => a.tmps.getD i undef) = ρ.r := funext hi.reg
      rw [h1, hi.defers]
    refine wpIn_mono (step ρ w hp a hi) ?_
    rintro e a' w' ⟨ρ', hi', hq⟩
    cases e with
    | normal =>
      refine ⟨⟨ρ', hi', hq.1⟩, ?_⟩
      rw [eq hi', eq hi]
      exact hq.2
    | exit id => exact ⟨ρ', hi', hq⟩
    | goto l => exact ⟨ρ', hi', hq⟩
    | ret => exact ⟨ρ', hi', hq⟩
    | panic c => exact ⟨ρ', hi', hq⟩
    | outgrown => exact ⟨ρ', hi', hq⟩
  refine key (fun ρ' w => ∃ m, I m (regs.map ρ'.r) ρ'.d w) ⟨m, h0⟩ (fun ρ' w => leastNat (fun m => I m (regs.map ρ'.r) ρ'.d w)) ?_
  rintro ρ1 w1 hex
  have hm := leastNat_spec hex
  have hr := round _ _ ρ1 w1 hm
  rw [ups_same] at hr
  refine C_mono hr ?_
  intro e ρ' w' hq
  cases e with
  | normal =>
    obtain ⟨m', hlt, hI⟩ := hq
    exact ⟨⟨m', hI⟩, Nat.lt_of_le_of_lt (leastNat_le hI) hlt⟩
  | exit id => exact hq
  | goto l => exact hq
  | ret => exact hq
  | panic c => exact hq
  | outgrown => exact hq
end Go.Sl
