/-
  No cell of these rows narrows 'for every input' (looked for: loops, veiled, ifaces, maps, wideKeys, modest, calm, conditions, laid).
  DERIVED. THE GIVEN ROWS OF THIS SEAT. 4 by the template 'for every input the law returns true; each argument reads behind the call as it read before'; 0 by the template 'total and deterministic' (their statements: YtlgdffofhnfedaaGreatTotals.lean).
  GIVEN WITH THE SEED: the statements are not yours to turn. If you find one false, say at which input.
  Laid BY PROGRAM, IN A SANDBOX (cutbox-rows.mjs): the forced cells as the released guide's own fill.sh prints them over the translation a186608533a068f7… (all of the seat's roots in one cut). By AI agents, Wed Nov 11 2026. No macro, syntax, notation, axiom, sorry.
-/
import Derived.Test.YtlgdffofhnfedaaGreatChecked
import GoSem.Claim
import GoSem.ClaimJoined
import GoSem.ClaimMapViews
import Derived.JoinedTies
import Derived.KernelRfl
namespace Go.Proofs.YtlgdffofhnfedaaGreat
/- THE CELL 'sum', in the pinned program and in every row, IS THE sha256 OF THE DUMP (.gsa) THAT YtlgdffofhnfedaaGreatProg.lean LOADS. Nothing in Lean hashes anything: it is a label: what it is worth is what the hold of that sum in a sandbox is worth. -/
noncomputable def Tryz.pinned : Pinned := { name := "ytlgdffofhnfedaagreat", sum := "a186608533a068f7540cf942e877aee8448532a0471ebcf13287af3017774f73", checked := Tryz.checked }
namespace Rows
def none {H : Type} : Left H := { results := [], args := [] }

/-- 'salesroomlaw28.JudgesOf': WHATEVER THE INPUT: true; the input reads as it did. -/
def judgesOfSpec : ChangeSpec := { name := "judgesOf", fn := fun _ => fun
  | [d] => { results := [.lit (.bool true)], args := [d] }
  | _ => none }
def judgesOfRow : OpenClaim := { program := "ytlgdffofhnfedaagreat", sum := "a186608533a068f7540cf942e877aee8448532a0471ebcf13287af3017774f73", func := "salesroom/salesroomlaw28.JudgesOf", spec := "judgesOf", unfollowed := true, recurses := true, apart := false }
def JudgesOfSaid : Prop := judgesOfRow.holds Tryz.pinned (OpenSpec.ofChange judgesOfSpec)

/-- ITS FALSE NEIGHBOUR: 'it returns false'. Refute it at one input. -/
def judgesOfWrong : ChangeSpec := { name := "judgesOf", fn := fun _ => fun
  | [d] => { results := [.lit (.bool false)], args := [d] }
  | _ => none }
def JudgesOfWrongFalsely : Prop := judgesOfRow.holds Tryz.pinned (OpenSpec.ofChange judgesOfWrong)

/-- 'salesroomlaw28.JudgesHonest': WHATEVER THE INPUT: true; the input reads as it did. -/
def judgesHonestSpec : ChangeSpec := { name := "judgesHonest", fn := fun _ => fun
  | [d1, d2, d3] => { results := [.lit (.bool true)], args := [d1, d2, d3] }
  | _ => none }
def judgesHonestRow : OpenClaim := { program := "ytlgdffofhnfedaagreat", sum := "a186608533a068f7540cf942e877aee8448532a0471ebcf13287af3017774f73", func := "salesroom/salesroomlaw28.JudgesHonest", spec := "judgesHonest", unfollowed := true, recurses := true, apart := false }
def JudgesHonestSaid : Prop := judgesHonestRow.holds Tryz.pinned (OpenSpec.ofChange judgesHonestSpec)

/-- ITS FALSE NEIGHBOUR: 'it returns false'. Refute it at one input. -/
def judgesHonestWrong : ChangeSpec := { name := "judgesHonest", fn := fun _ => fun
  | [d1, d2, d3] => { results := [.lit (.bool false)], args := [d1, d2, d3] }
  | _ => none }
def JudgesHonestWrongFalsely : Prop := judgesHonestRow.holds Tryz.pinned (OpenSpec.ofChange judgesHonestWrong)

/-- 'salesroomlaw28.JudgesLeast': WHATEVER THE INPUT: true; the input reads as it did. -/
def judgesLeastSpec : ChangeSpec := { name := "judgesLeast", fn := fun _ => fun
  | [d1, d2] => { results := [.lit (.bool true)], args := [d1, d2] }
  | _ => none }
def judgesLeastRow : OpenClaim := { program := "ytlgdffofhnfedaagreat", sum := "a186608533a068f7540cf942e877aee8448532a0471ebcf13287af3017774f73", func := "salesroom/salesroomlaw28.JudgesLeast", spec := "judgesLeast", unfollowed := true, recurses := true, apart := false }
def JudgesLeastSaid : Prop := judgesLeastRow.holds Tryz.pinned (OpenSpec.ofChange judgesLeastSpec)

/-- ITS FALSE NEIGHBOUR: 'it returns false'. Refute it at one input. -/
def judgesLeastWrong : ChangeSpec := { name := "judgesLeast", fn := fun _ => fun
  | [d1, d2] => { results := [.lit (.bool false)], args := [d1, d2] }
  | _ => none }
def JudgesLeastWrongFalsely : Prop := judgesLeastRow.holds Tryz.pinned (OpenSpec.ofChange judgesLeastWrong)

/-- 'salesroomlaw28.JudgesTurned': WHATEVER THE INPUT: true; the input reads as it did. -/
def judgesTurnedSpec : ChangeSpec := { name := "judgesTurned", fn := fun _ => fun
  | [d1, d2, d3] => { results := [.lit (.bool true)], args := [d1, d2, d3] }
  | _ => none }
def judgesTurnedRow : OpenClaim := { program := "ytlgdffofhnfedaagreat", sum := "a186608533a068f7540cf942e877aee8448532a0471ebcf13287af3017774f73", func := "salesroom/salesroomlaw28.JudgesTurned", spec := "judgesTurned", unfollowed := true, recurses := true, apart := false }
def JudgesTurnedSaid : Prop := judgesTurnedRow.holds Tryz.pinned (OpenSpec.ofChange judgesTurnedSpec)

/-- ITS FALSE NEIGHBOUR: 'it returns false'. Refute it at one input. -/
def judgesTurnedWrong : ChangeSpec := { name := "judgesTurned", fn := fun _ => fun
  | [d1, d2, d3] => { results := [.lit (.bool false)], args := [d1, d2, d3] }
  | _ => none }
def JudgesTurnedWrongFalsely : Prop := judgesTurnedRow.holds Tryz.pinned (OpenSpec.ofChange judgesTurnedWrong)

/- THE SECOND FORM. 'bulk': how many values and letters a reading holds, each counted each time it is reached (what is shared counts as often as it is met; a slice's spare places count too). A statement '..UptoSaid' is the law's where the arguments, and the package variables that the reading takes, are together of bulk at most 1048576: NARROWER than '..Said'. Prove '..Said' where nothing that the law and all that it calls make is longer than what came in: it says more and counts as full. Else prove '..UptoSaid'. A law counts once. -/
mutual
def uptoBulk {H : Type} : DataW H → Nat
  | .lit (.string bytes) => bytes.length + 1
  | .lit _ => 1
  | .nil => 1
  | .ptr d => uptoBulk d + 1
  | .slice elems spare => uptoBulkAll elems + uptoBulkAll spare + 1
  | .agg parts => uptoBulkAll parts + 1
  | .iface _ d => uptoBulk d + 1
  | .map entries => uptoBulkEntries entries + 1
  | .held _ => 1
def uptoBulkAll {H : Type} : List (DataW H) → Nat
  | [] => 0
  | d :: r => uptoBulk d + uptoBulkAll r
def uptoBulkEntries {H : Type} : List (Lit × DataW H) → Nat
  | [] => 0
  | x :: r => uptoBulkEntry x + uptoBulkEntries r
def uptoBulkEntry {H : Type} : Lit × DataW H → Nat
  | (.string bytes, d) => bytes.length + uptoBulk d + 1
  | (_, d) => uptoBulk d + 1
 end
def uptoSmall : (H : Type) → List (DataW H) → Bool := fun _ ds => decide (uptoBulkAll ds ≤ 1048576)
def OpenSpec.upto (s : _root_.Go.ChangeSpec) : _root_.Go.OpenSpec := { _root_.Go.OpenSpec.ofChange s with cond := some uptoSmall }

/-- 'salesroomlaw28.JudgesOf', WHERE WHAT IT READS IS OF BULK AT MOST 1048576: true; the input reads as it did. -/
def judgesOfUptoRow : OpenClaim := { program := "ytlgdffofhnfedaagreat", sum := "a186608533a068f7540cf942e877aee8448532a0471ebcf13287af3017774f73", func := "salesroom/salesroomlaw28.JudgesOf", spec := "judgesOf", unfollowed := true, recurses := true, apart := false, narrowed := true }
def JudgesOfUptoSaid : Prop := judgesOfUptoRow.holds Tryz.pinned (OpenSpec.upto judgesOfSpec)

/-- 'salesroomlaw28.JudgesHonest', WHERE WHAT IT READS IS OF BULK AT MOST 1048576: true; the input reads as it did. -/
def judgesHonestUptoRow : OpenClaim := { program := "ytlgdffofhnfedaagreat", sum := "a186608533a068f7540cf942e877aee8448532a0471ebcf13287af3017774f73", func := "salesroom/salesroomlaw28.JudgesHonest", spec := "judgesHonest", unfollowed := true, recurses := true, apart := false, narrowed := true }
def JudgesHonestUptoSaid : Prop := judgesHonestUptoRow.holds Tryz.pinned (OpenSpec.upto judgesHonestSpec)

/-- 'salesroomlaw28.JudgesLeast', WHERE WHAT IT READS IS OF BULK AT MOST 1048576: true; the input reads as it did. -/
def judgesLeastUptoRow : OpenClaim := { program := "ytlgdffofhnfedaagreat", sum := "a186608533a068f7540cf942e877aee8448532a0471ebcf13287af3017774f73", func := "salesroom/salesroomlaw28.JudgesLeast", spec := "judgesLeast", unfollowed := true, recurses := true, apart := false, narrowed := true }
def JudgesLeastUptoSaid : Prop := judgesLeastUptoRow.holds Tryz.pinned (OpenSpec.upto judgesLeastSpec)

/-- 'salesroomlaw28.JudgesTurned', WHERE WHAT IT READS IS OF BULK AT MOST 1048576: true; the input reads as it did. -/
def judgesTurnedUptoRow : OpenClaim := { program := "ytlgdffofhnfedaagreat", sum := "a186608533a068f7540cf942e877aee8448532a0471ebcf13287af3017774f73", func := "salesroom/salesroomlaw28.JudgesTurned", spec := "judgesTurned", unfollowed := true, recurses := true, apart := false, narrowed := true }
def JudgesTurnedUptoSaid : Prop := judgesTurnedUptoRow.holds Tryz.pinned (OpenSpec.upto judgesTurnedSpec)

end Rows
end Go.Proofs.YtlgdffofhnfedaaGreat
