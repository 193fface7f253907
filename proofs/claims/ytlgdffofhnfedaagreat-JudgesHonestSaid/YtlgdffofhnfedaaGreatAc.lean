/- JudgesHonest returns true, and its arguments read as before, for every input. -/
import Derived.Test.YtlgdffofhnfedaaGreatRows
import Derived.Test.YtlgdffofhnfedaaGreatX38
import Derived.Test.YtlgdffofhnfedaaGreatAa
import Derived.WalkKit
import Derived.ProofKit
import Derived.OpenShut
namespace Go.Proofs.YtlgdffofhnfedaaGreat.judgesHonest
open Go.ChangeShapes Go.WideShapes Go.ChangeAt Go.RowKit Go.Sl
set_option linter.unusedVariables false
set_option maxRecDepth 100000
theorem own : ownKnob Tryz.prog.godebug = none := by kernel_rfl
theorem laidOut : laidOutB Tryz.prog = true := by kernel_rfl
theorem slice_of {W : World} {base : Nat} {v : Value} (h : Value.okWide Tryz.prog W .any base 22 v) : ∃ A n c, v = .slice A n c :=
  okWide_slice (t := 22) (e := 3) (by kernel_rfl) h
theorem contract (H : Type) (enc : TypeId × Value → H) (W : World) (base : Nat) (args : Array Value) (ds gs : List (DataW H)) (before : List MemPlace)
    (hval : ∀ (j : Nat) t v, Tryz.f4.params[j]? = some t → args[j]? = some v → Value.okWide Tryz.prog W .any base t v)
    (hW : DataW.Whole enc Tryz.prog Tryz.f4.params.toList Rows.judgesHonestSpec.vars false W args.toList ds gs before) :
    Calls Tryz.prog 4 args W fun e W' => ∃ v, e = .returned v ∧ Rows.judgesHonestSpec.post enc Tryz.prog Tryz.f4 false true false false W args v W' := by
  have hW' := hW
  obtain ⟨p, q, hA0, hV, rfl, hfz, hnd⟩ := hW
  have hA : DataW.TrodAll enc Tryz.prog W 0 (fun _ => true) true [25, 5, 22] args.toList ds p := hA0
  obtain ⟨v0, vs0, d0, ds0, p0, q0, hargs, rfl, rfl, h0, r0⟩ := trodAll_cons hA
  obtain ⟨v1, vs1, d1, ds1, p1, q1, rfl, rfl, rfl, h1, r1⟩ := trodAll_cons r0
  obtain ⟨v2, vs2, d2, ds2, p2, q2, rfl, rfl, rfl, h2, r2⟩ := trodAll_cons r1
  obtain ⟨rfl, rfl, rfl⟩ := trodAll_nil r2
  obtain rfl : args = #[v0, v1, v2] := by cases args; simp_all
  obtain ⟨rfl, rfl⟩ := trodVars_none hV
  have h0k := h0
  have h1k := h1
  have h2k := h2
  obtain ⟨cs, rfl, hcs⟩ := okWide_struct (t := 25) (show Tryz.prog.underlying 25 = some (.struct (Tryz.prog.fieldsOf 25)) by kernel_rfl) (hval 0 25 v0 (by kernel_rfl) rfl)
  obtain ⟨A, n, c, rfl⟩ := slice_of (hval 2 22 v2 (by kernel_rfl) rfl)
  simp only [List.append_nil] at hW'
  have hlt : ∀ x ∈ p0 ++ (p1 ++ p2), x.block < W.heap.size := fun x hx => by simpa using hW'.lt x hx
  obtain ⟨fuel, hf0⟩ := h0
  obtain ⟨fuel2, hf2⟩ := h2
  obtain ⟨L⟩ := cs
  obtain ⟨a, b, c', m, e0, hm, _⟩ := openM hf0
  obtain ⟨u, bid, e2, hb, _⟩ := open22 hf2
  have e0' : L = [a, b, c'] := e0
  have e2' : [Value.slice A n c] = [u] := e2
  subst e0'
  cases e2'
  obtain ⟨x, rfl, hd1, hp1, wx⟩ := open_int (k := .u8) (t := 5) (by kernel_rfl) (hval 1 5 v1 (by kernel_rfl) rfl) h1
  have hx : 0 ≤ x ∧ x ≤ 255 := by simpa [Lit.wf, IntKind.min, IntKind.max, IntKind.signed, IntKind.bits] using wx
  obtain ⟨bd, rfl⟩ : ∃ bd : Nat, x = (bd : Int) := ⟨x.toNat, by omega⟩
  have hR := JudgesHonest_ (w0 := W) (bd := bd) hm hb (by omega)
  refine Calls.mono hR fun e W' ⟨v, he, hv, hbw⟩ => ?_
  subst he; subst hv
  exact ⟨_, rfl, [d0, d1, d2], [], p0 ++ (p1 ++ p2), [], p0 ++ (p1 ++ (p2 ++ [])), [], by simpa using hW', trodAll_cons_mk (shut_bool (by kernel_rfl) _) trodAll_mk0,
    trodAll_cons_mk (Below.trod laidOut (by kernel_rfl) (of_decide_eq_true (by kernel_rfl)) h0k hbw fun x hx => hlt x (by simp [hx])) (trodAll_cons_mk (Below.trod laidOut (by kernel_rfl) (of_decide_eq_true (by kernel_rfl)) h1k hbw fun x hx => hlt x (by simp [hx])) (trodAll_cons_mk (Below.trod laidOut (by kernel_rfl) (of_decide_eq_true (by kernel_rfl)) h2k hbw fun x hx => hlt x (by simp [hx])) trodAll_mk0)), rfl, hbw.frame _, fun h => by cases h⟩
theorem lifted (os : Os) (started : os.Started) (H : Type) (enc : TypeId × Value → H) :
    ReturnsInHanded {} Tryz.checked os 4 .any (Rows.judgesHonestSpec.pre6 enc Tryz.prog Tryz.f4 Rows.judgesHonestRow.domain false) (Rows.judgesHonestSpec.post enc Tryz.prog Tryz.f4 false true false false) := by
  refine returnsInHanded_of_change (C := Tryz.checked) own started (by kernel_rfl) Tryz.func4
    (ChangeSpec.witness6 (enc := enc) (C := Tryz.checked) false ⟨#[], #[.agg #[.slice none 0 0, .slice none 0 0, .slice none 0 0], .int .u8 0, .slice none 0 0], []⟩ 8 (by kernel_rfl) (by kernel_rfl) (by kernel_rfl) (by kernel_rfl)) ?_
  intro W base args ds gs before hval hW hcnd _
  exact contract H enc W base args ds gs before hval hW
theorem proved : Rows.JudgesHonestSaid :=
  OpenClaim.holds_of_wide 4 Tryz.f4 rfl rfl rfl rfl rfl rfl rfl ⟨rfl, rfl, rfl, rfl, rfl⟩ rfl rfl rfl rfl rfl (by kernel_rfl) Tryz.func4 (by kernel_rfl)
    (of_decide_eq_true (by kernel_rfl)) (by unfold Func.isWrapper; first | (rw [if_pos (by decide +kernel)]; kernel_rfl) | (rw [if_neg (by decide +kernel)]; exact ⟨rfl, rfl⟩))
    (fun os started H enc _ => lifted os started H enc)
end Go.Proofs.YtlgdffofhnfedaaGreat.judgesHonest
