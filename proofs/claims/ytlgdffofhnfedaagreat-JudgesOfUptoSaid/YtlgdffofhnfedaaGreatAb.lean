/- JudgesOf returns true, and its argument reads as before, where what it reads is of bulk at most 1048576. -/
import Derived.Test.YtlgdffofhnfedaaGreatRows
import Derived.Test.YtlgdffofhnfedaaGreatX37
import Derived.Test.YtlgdffofhnfedaaGreatAa
import Derived.WalkKit
import Derived.ProofKit
import Derived.OpenShut
import Derived.JoinedCond
namespace Go.Proofs.YtlgdffofhnfedaaGreat.judgesOf
open Go.ChangeShapes Go.WideShapes Go.ChangeAt Go.RowKit Go.Sl
set_option linter.unusedVariables false
set_option maxRecDepth 100000
theorem own : ownKnob Tryz.prog.godebug = none := by kernel_rfl
theorem laidOut : laidOutB Tryz.prog = true := by kernel_rfl
theorem contract (H : Type) (enc : TypeId × Value → H) (W : World) (base : Nat) (args : Array Value) (ds gs : List (DataW H)) (before : List MemPlace)
    (hval : ∀ (j : Nat) t v, Tryz.f3.params[j]? = some t → args[j]? = some v → Value.okWide Tryz.prog W .any base t v)
    (hW : DataW.Whole enc Tryz.prog Tryz.f3.params.toList Rows.judgesOfSpec.vars false W args.toList ds gs before) (hk : Rows.uptoSmall H (ds ++ gs) = true) :
    Calls Tryz.prog 3 args W fun e W' => ∃ v, e = .returned v ∧ Rows.judgesOfSpec.post enc Tryz.prog Tryz.f3 false true false false W args v W' := by
  have hW' := hW
  obtain ⟨p, q, hA0, hV, rfl, hfz, hnd⟩ := hW
  have hA : DataW.TrodAll enc Tryz.prog W 0 (fun _ => true) true [29] args.toList ds p := hA0
  obtain ⟨v0, vs0, d0, ds0, p0, q0, hargs, rfl, rfl, h0, r0⟩ := trodAll_cons hA
  obtain ⟨rfl, rfl, rfl⟩ := trodAll_nil r0
  obtain rfl : args = #[v0] := by cases args; simp_all
  obtain ⟨rfl, rfl⟩ := trodVars_none hV
  have h0k := h0
  have hu : Tryz.prog.underlying 29 = some (.struct (Tryz.prog.fieldsOf 29)) := by kernel_rfl
  obtain ⟨cs, rfl, hcs⟩ := okWide_struct hu (hval 0 29 v0 (by kernel_rfl) rfl)
  simp only [List.append_nil] at hW'
  have hbulk : Rows.uptoBulk d0 ≤ 1048576 := by
    have h := of_decide_eq_true hk
    simp only [List.append_nil, Rows.uptoBulkAll] at h
    omega
  have hlt : ∀ x ∈ p0, x.block < W.heap.size := fun x hx => by simpa using hW'.lt x hx
  obtain ⟨fuel, hf0⟩ := h0
  obtain ⟨xs, n, e, hl, hxk, hf⟩ := fieldsAt (k := 4) hu (by kernel_rfl) hf0
  rw [show Tryz.prog.cellsOf 29 = 7 by kernel_rfl] at hl
  obtain ⟨L⟩ := cs
  have hl' : L.length = 7 := hl
  match L, hl', xs, hxk with
  | [a, b, c, ha, pa, i, u], _, [y0, y1, y2, y3], _ =>
    have f0 := hf 0 25 0 (by kernel_rfl)
    have f1 := hf 1 27 3 (by kernel_rfl)
    have f2 := hf 2 3 5 (by kernel_rfl)
    have f3 := hf 3 22 6 (by kernel_rfl)
    rw [show Tryz.prog.cellsOf 25 = 3 by kernel_rfl] at f0
    rw [show Tryz.prog.cellsOf 27 = 2 by kernel_rfl] at f1
    rw [show Tryz.prog.cellsOf 3 = 1 by kernel_rfl] at f2
    rw [show Tryz.prog.cellsOf 22 = 1 by kernel_rfl] at f3
    obtain ⟨_, _, _, m, e0, hm, hml⟩ := openM f0
    obtain ⟨_, _, o, e1, ho, hol⟩ := openO f1
    obtain ⟨bi, e2, hy2, hwf⟩ := DataW.trod_int (k := .i64) (by kernel_rfl) f2
    obtain ⟨_, bid, e3, hb, hbl⟩ := open22 f3
    cases e0; cases e1; cases e2; cases e3
    have ed : d0 = .agg [y0.1, y1.1, y2.1, y3.1] := congrArg Prod.fst e
    have hb0 : Rows.uptoBulk d0 = Rows.uptoBulk y0.1 + (Rows.uptoBulk y1.1 + (Rows.uptoBulk y2.1 + (Rows.uptoBulk y3.1 + 0))) + 1 := by rw [ed]; simp only [Rows.uptoBulk, Rows.uptoBulkAll]
    have hbi : bi ≤ 9223372036854775807 := by
      have : -9223372036854775808 ≤ bi ∧ bi ≤ 9223372036854775807 := by simpa [Lit.wf, IntKind.min, IntKind.max, IntKind.signed, IntKind.bits] using hwf
      exact this.2
    have hR := JudgesOf_ (w0 := W) hm ho hb ⟨by have := hml.1; omega, by have := hml.2.1; omega, fun x hx => by have := hml.2.2.1 x hx; omega, by have := hml.2.2.2; omega⟩ ⟨by have := hol.1; omega, by have := hol.2; omega⟩ (by omega) hbi
    refine Calls.mono hR fun e W' ⟨v, he, hv, hbw⟩ => ?_
    subst he; subst hv
    exact ⟨_, rfl, [d0], [], p0, [], p0 ++ [], [], by simpa using hW', trodAll_cons_mk (shut_bool (by kernel_rfl) _) trodAll_mk0, trodAll_cons_mk (Below.trod laidOut (by kernel_rfl) (of_decide_eq_true (by kernel_rfl)) h0k hbw hlt) trodAll_mk0, rfl, hbw.frame _, fun h => by cases h⟩
theorem lifted (os : Os) (started : os.Started) (H : Type) (enc : TypeId × Value → H) (F : Stop.Interp) :
    ReturnsInHanded {} Tryz.checked os 3 .any ((Rows.OpenSpec.upto Rows.judgesOfSpec).pre6 enc Tryz.prog Tryz.f3 Rows.judgesOfUptoRow.domain false) (((Rows.OpenSpec.upto Rows.judgesOfSpec).at F).post enc Tryz.prog Tryz.f3 false true false false) := by
  refine returnsInHanded_of_cond (C := Tryz.checked) (s := Rows.OpenSpec.upto Rows.judgesOfSpec) (k := Rows.uptoSmall) rfl own started (by kernel_rfl) Tryz.func3
    (OpenSpec.witness (enc := enc) (C := Tryz.checked) (s := Rows.OpenSpec.upto Rows.judgesOfSpec) (k := Rows.uptoSmall) rfl false ⟨#[], #[.agg #[.slice none 0 0, .slice none 0 0, .slice none 0 0, .slice none 0 0, .slice none 0 0, .int .i64 0, .slice none 0 0]], []⟩ 8 (by kernel_rfl) (by kernel_rfl) (by kernel_rfl)
      (x := ([.agg [.agg [.nil, .nil, .nil], .agg [.nil, .nil], .lit (.int .i64 0), .nil]], [], [])) (by kernel_rfl) rfl (by kernel_rfl)) ?_
  intro W base args ds gs before hval hW _ hk _
  exact contract H enc W base args ds gs before hval hW hk
theorem over : Rows.judgesOfUptoRow.holds Tryz.pinned (Rows.OpenSpec.upto Rows.judgesOfSpec) :=
  OpenClaim.holds_of_cond 3 Tryz.f3 rfl rfl rfl rfl rfl rfl rfl ⟨rfl, rfl, rfl, rfl, rfl⟩ rfl rfl rfl rfl rfl (by kernel_rfl) Tryz.func3 (by kernel_rfl)
    (of_decide_eq_true (by kernel_rfl)) (by unfold Func.isWrapper; first | (rw [if_pos (by decide +kernel)]; kernel_rfl) | (rw [if_neg (by decide +kernel)]; exact ⟨rfl, rfl⟩))
    (fun os started H enc _ F => lifted os started H enc F)
theorem proved : Rows.JudgesOfUptoSaid :=
  over
end Go.Proofs.YtlgdffofhnfedaaGreat.judgesOf
