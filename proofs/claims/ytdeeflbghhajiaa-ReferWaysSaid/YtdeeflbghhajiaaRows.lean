/-
  No cell of these rows narrows 'for every input' (looked for: loops, veiled, ifaces, maps, wideKeys, modest, calm, conditions, laid).
  DERIVED. THE GIVEN ROWS OF THIS SEAT. 4 by the template 'for every input the law returns true; each argument reads behind the call as it read before'; 0 by the template 'total and deterministic' (their statements: YtdeeflbghhajiaaTotals.lean).
  GIVEN WITH THE SEED: the statements are not yours to turn. If you find one false, say at which input.
  Laid BY PROGRAM, IN A SANDBOX (cutbox-rows.mjs): the forced cells as the released guide's own fill.sh prints them over the translation 09d9d7e521c82a99… (all of the seat's roots in one cut). By AI agents, Wed Nov 11 2026. No macro, syntax, notation, axiom, sorry.
-/
import Derived.Test.YtdeeflbghhajiaaChecked
import GoSem.Claim
import GoSem.ClaimJoined
import GoSem.ClaimMapViews
import Derived.JoinedTies
import Derived.KernelRfl
namespace Go.Proofs.Ytdeeflbghhajiaa
/- THE CELL 'sum', in the pinned program and in every row, IS THE sha256 OF THE DUMP (.gsa) THAT YtdeeflbghhajiaaProg.lean LOADS. Nothing in Lean hashes anything: it is a label: what it is worth is what the hold of that sum in a sandbox is worth. -/
noncomputable def Try.pinned : Pinned := { name := "ytdeeflbghhajiaa", sum := "09d9d7e521c82a9982f2494ad6a42259149e2c75efd06e58a7e79713d4c4b8d6", checked := Try.checked }
namespace Rows
def none {H : Type} : Left H := { results := [], args := [] }

/-- 'passimlaw30.ReferWays': WHATEVER THE INPUT: true; the input reads as it did. -/
def referWaysSpec : ChangeSpec := { name := "referWays", fn := fun _ => fun
  | [d1, d2, d3, d4, d5] => { results := [.lit (.bool true)], args := [d1, d2, d3, d4, d5] }
  | _ => none }
def referWaysRow : OpenClaim := { program := "ytdeeflbghhajiaa", sum := "09d9d7e521c82a9982f2494ad6a42259149e2c75efd06e58a7e79713d4c4b8d6", func := "passim/passimlaw30.ReferWays", spec := "referWays", inPlace := ["internal/bytealg.abigen_runtime_cmpstring"], unfollowed := true, recurses := true, apart := false }
def ReferWaysSaid : Prop := referWaysRow.holds Try.pinned (OpenSpec.ofChange referWaysSpec)

/-- ITS FALSE NEIGHBOUR: 'it returns false'. Refute it at one input. -/
def referWaysWrong : ChangeSpec := { name := "referWays", fn := fun _ => fun
  | [d1, d2, d3, d4, d5] => { results := [.lit (.bool false)], args := [d1, d2, d3, d4, d5] }
  | _ => none }
def ReferWaysWrongFalsely : Prop := referWaysRow.holds Try.pinned (OpenSpec.ofChange referWaysWrong)

/-- 'passimlaw30.ReferRepairs': WHATEVER THE INPUT: true; the input reads as it did. -/
def referRepairsSpec : ChangeSpec := { name := "referRepairs", fn := fun _ => fun
  | [d1, d2, d3, d4, d5, d6] => { results := [.lit (.bool true)], args := [d1, d2, d3, d4, d5, d6] }
  | _ => none }
def referRepairsRow : OpenClaim := { program := "ytdeeflbghhajiaa", sum := "09d9d7e521c82a9982f2494ad6a42259149e2c75efd06e58a7e79713d4c4b8d6", func := "passim/passimlaw30.ReferRepairs", spec := "referRepairs", inPlace := ["internal/bytealg.abigen_runtime_cmpstring"], unfollowed := true, recurses := true, apart := false }
def ReferRepairsSaid : Prop := referRepairsRow.holds Try.pinned (OpenSpec.ofChange referRepairsSpec)

/-- ITS FALSE NEIGHBOUR: 'it returns false'. Refute it at one input. -/
def referRepairsWrong : ChangeSpec := { name := "referRepairs", fn := fun _ => fun
  | [d1, d2, d3, d4, d5, d6] => { results := [.lit (.bool false)], args := [d1, d2, d3, d4, d5, d6] }
  | _ => none }
def ReferRepairsWrongFalsely : Prop := referRepairsRow.holds Try.pinned (OpenSpec.ofChange referRepairsWrong)

/-- 'passimlaw30.ReferFewest': WHATEVER THE INPUT: true; the input reads as it did. -/
def referFewestSpec : ChangeSpec := { name := "referFewest", fn := fun _ => fun
  | [d1, d2, d3] => { results := [.lit (.bool true)], args := [d1, d2, d3] }
  | _ => none }
def referFewestRow : OpenClaim := { program := "ytdeeflbghhajiaa", sum := "09d9d7e521c82a9982f2494ad6a42259149e2c75efd06e58a7e79713d4c4b8d6", func := "passim/passimlaw30.ReferFewest", spec := "referFewest", inPlace := ["internal/bytealg.abigen_runtime_cmpstring"], unfollowed := true, recurses := true, apart := false }
def ReferFewestSaid : Prop := referFewestRow.holds Try.pinned (OpenSpec.ofChange referFewestSpec)

/-- ITS FALSE NEIGHBOUR: 'it returns false'. Refute it at one input. -/
def referFewestWrong : ChangeSpec := { name := "referFewest", fn := fun _ => fun
  | [d1, d2, d3] => { results := [.lit (.bool false)], args := [d1, d2, d3] }
  | _ => none }
def ReferFewestWrongFalsely : Prop := referFewestRow.holds Try.pinned (OpenSpec.ofChange referFewestWrong)

/-- 'passimlaw30.ReferSteps': WHATEVER THE INPUT: true; the input reads as it did. -/
def referStepsSpec : ChangeSpec := { name := "referSteps", fn := fun _ => fun
  | [d1, d2, d3, d4] => { results := [.lit (.bool true)], args := [d1, d2, d3, d4] }
  | _ => none }
def referStepsRow : OpenClaim := { program := "ytdeeflbghhajiaa", sum := "09d9d7e521c82a9982f2494ad6a42259149e2c75efd06e58a7e79713d4c4b8d6", func := "passim/passimlaw30.ReferSteps", spec := "referSteps", inPlace := ["internal/bytealg.abigen_runtime_cmpstring"], unfollowed := true, recurses := true, apart := false }
def ReferStepsSaid : Prop := referStepsRow.holds Try.pinned (OpenSpec.ofChange referStepsSpec)

/-- ITS FALSE NEIGHBOUR: 'it returns false'. Refute it at one input. -/
def referStepsWrong : ChangeSpec := { name := "referSteps", fn := fun _ => fun
  | [d1, d2, d3, d4] => { results := [.lit (.bool false)], args := [d1, d2, d3, d4] }
  | _ => none }
def ReferStepsWrongFalsely : Prop := referStepsRow.holds Try.pinned (OpenSpec.ofChange referStepsWrong)

/- THE SECOND FORM. 'bulk': how many values and letters a reading holds, each counted each time it is reached (what is shared counts as often as it is met; a slice's spare places count too). A statement '..UptoSaid' is the law's where the arguments, and the package variables that the reading takes, are together of bulk at most 1048576: NARROWER than '..Said'. Prove '..Said' where nothing that the law and all that it calls make is longer than what came in: it says more and counts as full. Else prove '..UptoSaid'. A law counts once. -/
mutual
def uptoBulk {H : Type} : DataW H → Nat
  | .lit (.string bytes) => bytes.length + 1
  | .lit _ => 1
  | .nil => 1
  | .ptr d => uptoBulk d + 1
  | .slice elems spare => uptoBulkAll elems + uptoBulkAll spare + 1
  | .agg parts => uptoBulkAll parts + 1
  | .iface _ d => uptoBulk d + 1
  | .map entries => uptoBulkEntries entries + 1
  | .held _ => 1
def uptoBulkAll {H : Type} : List (DataW H) → Nat
  | [] => 0
  | d :: r => uptoBulk d + uptoBulkAll r
def uptoBulkEntries {H : Type} : List (Lit × DataW H) → Nat
  | [] => 0
  | x :: r => uptoBulkEntry x + uptoBulkEntries r
def uptoBulkEntry {H : Type} : Lit × DataW H → Nat
  | (.string bytes, d) => bytes.length + uptoBulk d + 1
  | (_, d) => uptoBulk d + 1
 end
def uptoSmall : (H : Type) → List (DataW H) → Bool := fun _ ds => decide (uptoBulkAll ds ≤ 1048576)
def OpenSpec.upto (s : _root_.Go.ChangeSpec) : _root_.Go.OpenSpec := { _root_.Go.OpenSpec.ofChange s with cond := some uptoSmall }

/-- 'passimlaw30.ReferWays', WHERE WHAT IT READS IS OF BULK AT MOST 1048576: true; the input reads as it did. -/
def referWaysUptoRow : OpenClaim := { program := "ytdeeflbghhajiaa", sum := "09d9d7e521c82a9982f2494ad6a42259149e2c75efd06e58a7e79713d4c4b8d6", func := "passim/passimlaw30.ReferWays", spec := "referWays", inPlace := ["internal/bytealg.abigen_runtime_cmpstring"], unfollowed := true, recurses := true, apart := false, narrowed := true }
def ReferWaysUptoSaid : Prop := referWaysUptoRow.holds Try.pinned (OpenSpec.upto referWaysSpec)

/-- 'passimlaw30.ReferRepairs', WHERE WHAT IT READS IS OF BULK AT MOST 1048576: true; the input reads as it did. -/
def referRepairsUptoRow : OpenClaim := { program := "ytdeeflbghhajiaa", sum := "09d9d7e521c82a9982f2494ad6a42259149e2c75efd06e58a7e79713d4c4b8d6", func := "passim/passimlaw30.ReferRepairs", spec := "referRepairs", inPlace := ["internal/bytealg.abigen_runtime_cmpstring"], unfollowed := true, recurses := true, apart := false, narrowed := true }
def ReferRepairsUptoSaid : Prop := referRepairsUptoRow.holds Try.pinned (OpenSpec.upto referRepairsSpec)

/-- 'passimlaw30.ReferFewest', WHERE WHAT IT READS IS OF BULK AT MOST 1048576: true; the input reads as it did. -/
def referFewestUptoRow : OpenClaim := { program := "ytdeeflbghhajiaa", sum := "09d9d7e521c82a9982f2494ad6a42259149e2c75efd06e58a7e79713d4c4b8d6", func := "passim/passimlaw30.ReferFewest", spec := "referFewest", inPlace := ["internal/bytealg.abigen_runtime_cmpstring"], unfollowed := true, recurses := true, apart := false, narrowed := true }
def ReferFewestUptoSaid : Prop := referFewestUptoRow.holds Try.pinned (OpenSpec.upto referFewestSpec)

/-- 'passimlaw30.ReferSteps', WHERE WHAT IT READS IS OF BULK AT MOST 1048576: true; the input reads as it did. -/
def referStepsUptoRow : OpenClaim := { program := "ytdeeflbghhajiaa", sum := "09d9d7e521c82a9982f2494ad6a42259149e2c75efd06e58a7e79713d4c4b8d6", func := "passim/passimlaw30.ReferSteps", spec := "referSteps", inPlace := ["internal/bytealg.abigen_runtime_cmpstring"], unfollowed := true, recurses := true, apart := false, narrowed := true }
def ReferStepsUptoSaid : Prop := referStepsUptoRow.holds Try.pinned (OpenSpec.upto referStepsSpec)

end Rows
end Go.Proofs.Ytdeeflbghhajiaa
