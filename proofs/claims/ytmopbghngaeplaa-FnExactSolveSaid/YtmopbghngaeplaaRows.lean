/-
  No cell of these rows narrows 'for every input' (looked for: loops, veiled, ifaces, maps, wideKeys, modest, calm, conditions, laid).
  DERIVED. THE GIVEN ROWS OF THIS SEAT. 12 by the template 'for every input the law returns true; each argument reads behind the call as it read before'; 0 by the template 'total and deterministic' (their statements: YtmopbghngaeplaaTotals.lean).
  GIVEN WITH THE SEED: the statements are not yours to turn. If you find one false, say at which input.
  Laid BY PROGRAM, IN A SANDBOX (cutbox-rows.mjs): the forced cells as the released guide's own fill.sh prints them over the translation 64bb5e72a55f4df3… (all of the seat's roots in one cut). By AI agents, Wed Nov 11 2026. No macro, syntax, notation, axiom, sorry.
-/
import Derived.Test.YtmopbghngaeplaaChecked
import GoSem.Claim
import GoSem.ClaimJoined
import GoSem.ClaimMapViews
import Derived.JoinedTies
import Derived.KernelRfl
namespace Go.Proofs.Ytmopbghngaeplaa
/- THE CELL 'sum', in the pinned program and in every row, IS THE sha256 OF THE DUMP (.gsa) THAT YtmopbghngaeplaaProg.lean LOADS. Nothing in Lean hashes anything: it is a label: what it is worth is what the hold of that sum in a sandbox is worth. -/
noncomputable def Try.pinned : Pinned := { name := "ytmopbghngaeplaa", sum := "64bb5e72a55f4df3a87360cce81a00eecb993964344ec464561fd0717020509f", checked := Try.checked }
namespace Rows
def none {H : Type} : Left H := { results := [], args := [] }

/-- 'laws.FnExactConstants': WHATEVER THE INPUT: true; the input reads as it did. -/
def fnExactConstantsSpec : ChangeSpec := { name := "fnExactConstants", fn := fun _ => fun
  | [] => { results := [.lit (.bool true)], args := [] }
  | _ => none }
def fnExactConstantsRow : OpenClaim := { program := "ytmopbghngaeplaa", sum := "64bb5e72a55f4df3a87360cce81a00eecb993964344ec464561fd0717020509f", func := "loop.example/cavesurvey/laws.FnExactConstants", spec := "fnExactConstants", apart := false }
def FnExactConstantsSaid : Prop := fnExactConstantsRow.holds Try.pinned (OpenSpec.ofChange fnExactConstantsSpec)

/-- ITS FALSE NEIGHBOUR: 'it returns false'. Refute it at one input. -/
def fnExactConstantsWrong : ChangeSpec := { name := "fnExactConstants", fn := fun _ => fun
  | [] => { results := [.lit (.bool false)], args := [] }
  | _ => none }
def FnExactConstantsWrongFalsely : Prop := fnExactConstantsRow.holds Try.pinned (OpenSpec.ofChange fnExactConstantsWrong)

/-- 'laws.FnExactWayAdd': WHATEVER THE INPUT: true; the input reads as it did. -/
def fnExactWayAddSpec : ChangeSpec := { name := "fnExactWayAdd", fn := fun _ => fun
  | [d1, d2] => { results := [.lit (.bool true)], args := [d1, d2] }
  | _ => none }
def fnExactWayAddRow : OpenClaim := { program := "ytmopbghngaeplaa", sum := "64bb5e72a55f4df3a87360cce81a00eecb993964344ec464561fd0717020509f", func := "loop.example/cavesurvey/laws.FnExactWayAdd", spec := "fnExactWayAdd", apart := false }
def FnExactWayAddSaid : Prop := fnExactWayAddRow.holds Try.pinned (OpenSpec.ofChange fnExactWayAddSpec)

/-- ITS FALSE NEIGHBOUR: 'it returns false'. Refute it at one input. -/
def fnExactWayAddWrong : ChangeSpec := { name := "fnExactWayAdd", fn := fun _ => fun
  | [d1, d2] => { results := [.lit (.bool false)], args := [d1, d2] }
  | _ => none }
def FnExactWayAddWrongFalsely : Prop := fnExactWayAddRow.holds Try.pinned (OpenSpec.ofChange fnExactWayAddWrong)

/-- 'laws.FnExactWayTimes': WHATEVER THE INPUT: true; the input reads as it did. -/
def fnExactWayTimesSpec : ChangeSpec := { name := "fnExactWayTimes", fn := fun _ => fun
  | [d1, d2] => { results := [.lit (.bool true)], args := [d1, d2] }
  | _ => none }
def fnExactWayTimesRow : OpenClaim := { program := "ytmopbghngaeplaa", sum := "64bb5e72a55f4df3a87360cce81a00eecb993964344ec464561fd0717020509f", func := "loop.example/cavesurvey/laws.FnExactWayTimes", spec := "fnExactWayTimes", apart := false }
def FnExactWayTimesSaid : Prop := fnExactWayTimesRow.holds Try.pinned (OpenSpec.ofChange fnExactWayTimesSpec)

/-- ITS FALSE NEIGHBOUR: 'it returns false'. Refute it at one input. -/
def fnExactWayTimesWrong : ChangeSpec := { name := "fnExactWayTimes", fn := fun _ => fun
  | [d1, d2] => { results := [.lit (.bool false)], args := [d1, d2] }
  | _ => none }
def FnExactWayTimesWrongFalsely : Prop := fnExactWayTimesRow.holds Try.pinned (OpenSpec.ofChange fnExactWayTimesWrong)

/-- 'laws.FnExactLegBack': WHATEVER THE INPUT: true; the input reads as it did. -/
def fnExactLegBackSpec : ChangeSpec := { name := "fnExactLegBack", fn := fun _ => fun
  | [d] => { results := [.lit (.bool true)], args := [d] }
  | _ => none }
def fnExactLegBackRow : OpenClaim := { program := "ytmopbghngaeplaa", sum := "64bb5e72a55f4df3a87360cce81a00eecb993964344ec464561fd0717020509f", func := "loop.example/cavesurvey/laws.FnExactLegBack", spec := "fnExactLegBack", apart := false }
def FnExactLegBackSaid : Prop := fnExactLegBackRow.holds Try.pinned (OpenSpec.ofChange fnExactLegBackSpec)

/-- ITS FALSE NEIGHBOUR: 'it returns false'. Refute it at one input. -/
def fnExactLegBackWrong : ChangeSpec := { name := "fnExactLegBack", fn := fun _ => fun
  | [d] => { results := [.lit (.bool false)], args := [d] }
  | _ => none }
def FnExactLegBackWrongFalsely : Prop := fnExactLegBackRow.holds Try.pinned (OpenSpec.ofChange fnExactLegBackWrong)

/-- 'laws.FnExactLegValid': WHATEVER THE INPUT: true; the input reads as it did. -/
def fnExactLegValidSpec : ChangeSpec := { name := "fnExactLegValid", fn := fun _ => fun
  | [d1, d2] => { results := [.lit (.bool true)], args := [d1, d2] }
  | _ => none }
def fnExactLegValidRow : OpenClaim := { program := "ytmopbghngaeplaa", sum := "64bb5e72a55f4df3a87360cce81a00eecb993964344ec464561fd0717020509f", func := "loop.example/cavesurvey/laws.FnExactLegValid", spec := "fnExactLegValid", apart := false }
def FnExactLegValidSaid : Prop := fnExactLegValidRow.holds Try.pinned (OpenSpec.ofChange fnExactLegValidSpec)

/-- ITS FALSE NEIGHBOUR: 'it returns false'. Refute it at one input. -/
def fnExactLegValidWrong : ChangeSpec := { name := "fnExactLegValid", fn := fun _ => fun
  | [d1, d2] => { results := [.lit (.bool false)], args := [d1, d2] }
  | _ => none }
def FnExactLegValidWrongFalsely : Prop := fnExactLegValidRow.holds Try.pinned (OpenSpec.ofChange fnExactLegValidWrong)

/-- 'laws.FnExactMatrixValid': WHATEVER THE INPUT: true; the input reads as it did. -/
def fnExactMatrixValidSpec : ChangeSpec := { name := "fnExactMatrixValid", fn := fun _ => fun
  | [d] => { results := [.lit (.bool true)], args := [d] }
  | _ => none }
def fnExactMatrixValidRow : OpenClaim := { program := "ytmopbghngaeplaa", sum := "64bb5e72a55f4df3a87360cce81a00eecb993964344ec464561fd0717020509f", func := "loop.example/cavesurvey/laws.FnExactMatrixValid", spec := "fnExactMatrixValid", apart := false }
def FnExactMatrixValidSaid : Prop := fnExactMatrixValidRow.holds Try.pinned (OpenSpec.ofChange fnExactMatrixValidSpec)

/-- ITS FALSE NEIGHBOUR: 'it returns false'. Refute it at one input. -/
def fnExactMatrixValidWrong : ChangeSpec := { name := "fnExactMatrixValid", fn := fun _ => fun
  | [d] => { results := [.lit (.bool false)], args := [d] }
  | _ => none }
def FnExactMatrixValidWrongFalsely : Prop := fnExactMatrixValidRow.holds Try.pinned (OpenSpec.ofChange fnExactMatrixValidWrong)

/-- 'laws.FnExactSurveyValid': WHATEVER THE INPUT: true; the input reads as it did. -/
def fnExactSurveyValidSpec : ChangeSpec := { name := "fnExactSurveyValid", fn := fun _ => fun
  | [d] => { results := [.lit (.bool true)], args := [d] }
  | _ => none }
def fnExactSurveyValidRow : OpenClaim := { program := "ytmopbghngaeplaa", sum := "64bb5e72a55f4df3a87360cce81a00eecb993964344ec464561fd0717020509f", func := "loop.example/cavesurvey/laws.FnExactSurveyValid", spec := "fnExactSurveyValid", apart := false }
def FnExactSurveyValidSaid : Prop := fnExactSurveyValidRow.holds Try.pinned (OpenSpec.ofChange fnExactSurveyValidSpec)

/-- ITS FALSE NEIGHBOUR: 'it returns false'. Refute it at one input. -/
def fnExactSurveyValidWrong : ChangeSpec := { name := "fnExactSurveyValid", fn := fun _ => fun
  | [d] => { results := [.lit (.bool false)], args := [d] }
  | _ => none }
def FnExactSurveyValidWrongFalsely : Prop := fnExactSurveyValidRow.holds Try.pinned (OpenSpec.ofChange fnExactSurveyValidWrong)

/-- 'laws.FnExactDet': WHATEVER THE INPUT: true; the input reads as it did. -/
def fnExactDetSpec : ChangeSpec := { name := "fnExactDet", fn := fun _ => fun
  | [d] => { results := [.lit (.bool true)], args := [d] }
  | _ => none }
def fnExactDetRow : OpenClaim := { program := "ytmopbghngaeplaa", sum := "64bb5e72a55f4df3a87360cce81a00eecb993964344ec464561fd0717020509f", func := "loop.example/cavesurvey/laws.FnExactDet", spec := "fnExactDet", recurses := true, apart := false }
def FnExactDetSaid : Prop := fnExactDetRow.holds Try.pinned (OpenSpec.ofChange fnExactDetSpec)

/-- ITS FALSE NEIGHBOUR: 'it returns false'. Refute it at one input. -/
def fnExactDetWrong : ChangeSpec := { name := "fnExactDet", fn := fun _ => fun
  | [d] => { results := [.lit (.bool false)], args := [d] }
  | _ => none }
def FnExactDetWrongFalsely : Prop := fnExactDetRow.holds Try.pinned (OpenSpec.ofChange fnExactDetWrong)

/-- 'laws.FnExactMatrixTurn': WHATEVER THE INPUT: true; the input reads as it did. -/
def fnExactMatrixTurnSpec : ChangeSpec := { name := "fnExactMatrixTurn", fn := fun _ => fun
  | [d] => { results := [.lit (.bool true)], args := [d] }
  | _ => none }
def fnExactMatrixTurnRow : OpenClaim := { program := "ytmopbghngaeplaa", sum := "64bb5e72a55f4df3a87360cce81a00eecb993964344ec464561fd0717020509f", func := "loop.example/cavesurvey/laws.FnExactMatrixTurn", spec := "fnExactMatrixTurn", apart := false }
def FnExactMatrixTurnSaid : Prop := fnExactMatrixTurnRow.holds Try.pinned (OpenSpec.ofChange fnExactMatrixTurnSpec)

/-- ITS FALSE NEIGHBOUR: 'it returns false'. Refute it at one input. -/
def fnExactMatrixTurnWrong : ChangeSpec := { name := "fnExactMatrixTurn", fn := fun _ => fun
  | [d] => { results := [.lit (.bool false)], args := [d] }
  | _ => none }
def FnExactMatrixTurnWrongFalsely : Prop := fnExactMatrixTurnRow.holds Try.pinned (OpenSpec.ofChange fnExactMatrixTurnWrong)

/-- 'laws.FnExactSolve': WHATEVER THE INPUT: true; the input reads as it did. -/
def fnExactSolveSpec : ChangeSpec := { name := "fnExactSolve", fn := fun _ => fun
  | [d1, d2] => { results := [.lit (.bool true)], args := [d1, d2] }
  | _ => none }
def fnExactSolveRow : OpenClaim := { program := "ytmopbghngaeplaa", sum := "64bb5e72a55f4df3a87360cce81a00eecb993964344ec464561fd0717020509f", func := "loop.example/cavesurvey/laws.FnExactSolve", spec := "fnExactSolve", recurses := true, apart := false }
def FnExactSolveSaid : Prop := fnExactSolveRow.holds Try.pinned (OpenSpec.ofChange fnExactSolveSpec)

/-- ITS FALSE NEIGHBOUR: 'it returns false'. Refute it at one input. -/
def fnExactSolveWrong : ChangeSpec := { name := "fnExactSolve", fn := fun _ => fun
  | [d1, d2] => { results := [.lit (.bool false)], args := [d1, d2] }
  | _ => none }
def FnExactSolveWrongFalsely : Prop := fnExactSolveRow.holds Try.pinned (OpenSpec.ofChange fnExactSolveWrong)

/-- 'laws.FnExactLinks': WHATEVER THE INPUT: true; the input reads as it did. -/
def fnExactLinksSpec : ChangeSpec := { name := "fnExactLinks", fn := fun _ => fun
  | [d] => { results := [.lit (.bool true)], args := [d] }
  | _ => none }
def fnExactLinksRow : OpenClaim := { program := "ytmopbghngaeplaa", sum := "64bb5e72a55f4df3a87360cce81a00eecb993964344ec464561fd0717020509f", func := "loop.example/cavesurvey/laws.FnExactLinks", spec := "fnExactLinks", apart := false }
def FnExactLinksSaid : Prop := fnExactLinksRow.holds Try.pinned (OpenSpec.ofChange fnExactLinksSpec)

/-- ITS FALSE NEIGHBOUR: 'it returns false'. Refute it at one input. -/
def fnExactLinksWrong : ChangeSpec := { name := "fnExactLinks", fn := fun _ => fun
  | [d] => { results := [.lit (.bool false)], args := [d] }
  | _ => none }
def FnExactLinksWrongFalsely : Prop := fnExactLinksRow.holds Try.pinned (OpenSpec.ofChange fnExactLinksWrong)

/-- 'laws.FnExactTreesMany': WHATEVER THE INPUT: true; the input reads as it did. -/
def fnExactTreesManySpec : ChangeSpec := { name := "fnExactTreesMany", fn := fun _ => fun
  | [d] => { results := [.lit (.bool true)], args := [d] }
  | _ => none }
def fnExactTreesManyRow : OpenClaim := { program := "ytmopbghngaeplaa", sum := "64bb5e72a55f4df3a87360cce81a00eecb993964344ec464561fd0717020509f", func := "loop.example/cavesurvey/laws.FnExactTreesMany", spec := "fnExactTreesMany", recurses := true, apart := false }
def FnExactTreesManySaid : Prop := fnExactTreesManyRow.holds Try.pinned (OpenSpec.ofChange fnExactTreesManySpec)

/-- ITS FALSE NEIGHBOUR: 'it returns false'. Refute it at one input. -/
def fnExactTreesManyWrong : ChangeSpec := { name := "fnExactTreesMany", fn := fun _ => fun
  | [d] => { results := [.lit (.bool false)], args := [d] }
  | _ => none }
def FnExactTreesManyWrongFalsely : Prop := fnExactTreesManyRow.holds Try.pinned (OpenSpec.ofChange fnExactTreesManyWrong)

/- THE SECOND FORM. 'bulk': how many values and letters a reading holds, each counted each time it is reached (what is shared counts as often as it is met; a slice's spare places count too). A statement '..UptoSaid' is the law's where the arguments, and the package variables that the reading takes, are together of bulk at most 1048576: NARROWER than '..Said'. Prove '..Said' where nothing that the law and all that it calls make is longer than what came in: it says more and counts as full. Else prove '..UptoSaid'. A law counts once. -/
mutual
def uptoBulk {H : Type} : DataW H → Nat
  | .lit (.string bytes) => bytes.length + 1
  | .lit _ => 1
  | .nil => 1
  | .ptr d => uptoBulk d + 1
  | .slice elems spare => uptoBulkAll elems + uptoBulkAll spare + 1
  | .agg parts => uptoBulkAll parts + 1
  | .iface _ d => uptoBulk d + 1
  | .map entries => uptoBulkEntries entries + 1
  | .held _ => 1
def uptoBulkAll {H : Type} : List (DataW H) → Nat
  | [] => 0
  | d :: r => uptoBulk d + uptoBulkAll r
def uptoBulkEntries {H : Type} : List (Lit × DataW H) → Nat
  | [] => 0
  | x :: r => uptoBulkEntry x + uptoBulkEntries r
def uptoBulkEntry {H : Type} : Lit × DataW H → Nat
  | (.string bytes, d) => bytes.length + uptoBulk d + 1
  | (_, d) => uptoBulk d + 1
 end
def uptoSmall : (H : Type) → List (DataW H) → Bool := fun _ ds => decide (uptoBulkAll ds ≤ 1048576)
def OpenSpec.upto (s : _root_.Go.ChangeSpec) : _root_.Go.OpenSpec := { _root_.Go.OpenSpec.ofChange s with cond := some uptoSmall }

/-- 'laws.FnExactConstants', WHERE WHAT IT READS IS OF BULK AT MOST 1048576: true; the input reads as it did. -/
def fnExactConstantsUptoRow : OpenClaim := { program := "ytmopbghngaeplaa", sum := "64bb5e72a55f4df3a87360cce81a00eecb993964344ec464561fd0717020509f", func := "loop.example/cavesurvey/laws.FnExactConstants", spec := "fnExactConstants", apart := false, narrowed := true }
def FnExactConstantsUptoSaid : Prop := fnExactConstantsUptoRow.holds Try.pinned (OpenSpec.upto fnExactConstantsSpec)

/-- 'laws.FnExactWayAdd', WHERE WHAT IT READS IS OF BULK AT MOST 1048576: true; the input reads as it did. -/
def fnExactWayAddUptoRow : OpenClaim := { program := "ytmopbghngaeplaa", sum := "64bb5e72a55f4df3a87360cce81a00eecb993964344ec464561fd0717020509f", func := "loop.example/cavesurvey/laws.FnExactWayAdd", spec := "fnExactWayAdd", apart := false, narrowed := true }
def FnExactWayAddUptoSaid : Prop := fnExactWayAddUptoRow.holds Try.pinned (OpenSpec.upto fnExactWayAddSpec)

/-- 'laws.FnExactWayTimes', WHERE WHAT IT READS IS OF BULK AT MOST 1048576: true; the input reads as it did. -/
def fnExactWayTimesUptoRow : OpenClaim := { program := "ytmopbghngaeplaa", sum := "64bb5e72a55f4df3a87360cce81a00eecb993964344ec464561fd0717020509f", func := "loop.example/cavesurvey/laws.FnExactWayTimes", spec := "fnExactWayTimes", apart := false, narrowed := true }
def FnExactWayTimesUptoSaid : Prop := fnExactWayTimesUptoRow.holds Try.pinned (OpenSpec.upto fnExactWayTimesSpec)

/-- 'laws.FnExactLegBack', WHERE WHAT IT READS IS OF BULK AT MOST 1048576: true; the input reads as it did. -/
def fnExactLegBackUptoRow : OpenClaim := { program := "ytmopbghngaeplaa", sum := "64bb5e72a55f4df3a87360cce81a00eecb993964344ec464561fd0717020509f", func := "loop.example/cavesurvey/laws.FnExactLegBack", spec := "fnExactLegBack", apart := false, narrowed := true }
def FnExactLegBackUptoSaid : Prop := fnExactLegBackUptoRow.holds Try.pinned (OpenSpec.upto fnExactLegBackSpec)

/-- 'laws.FnExactLegValid', WHERE WHAT IT READS IS OF BULK AT MOST 1048576: true; the input reads as it did. -/
def fnExactLegValidUptoRow : OpenClaim := { program := "ytmopbghngaeplaa", sum := "64bb5e72a55f4df3a87360cce81a00eecb993964344ec464561fd0717020509f", func := "loop.example/cavesurvey/laws.FnExactLegValid", spec := "fnExactLegValid", apart := false, narrowed := true }
def FnExactLegValidUptoSaid : Prop := fnExactLegValidUptoRow.holds Try.pinned (OpenSpec.upto fnExactLegValidSpec)

/-- 'laws.FnExactMatrixValid', WHERE WHAT IT READS IS OF BULK AT MOST 1048576: true; the input reads as it did. -/
def fnExactMatrixValidUptoRow : OpenClaim := { program := "ytmopbghngaeplaa", sum := "64bb5e72a55f4df3a87360cce81a00eecb993964344ec464561fd0717020509f", func := "loop.example/cavesurvey/laws.FnExactMatrixValid", spec := "fnExactMatrixValid", apart := false, narrowed := true }
def FnExactMatrixValidUptoSaid : Prop := fnExactMatrixValidUptoRow.holds Try.pinned (OpenSpec.upto fnExactMatrixValidSpec)

/-- 'laws.FnExactSurveyValid', WHERE WHAT IT READS IS OF BULK AT MOST 1048576: true; the input reads as it did. -/
def fnExactSurveyValidUptoRow : OpenClaim := { program := "ytmopbghngaeplaa", sum := "64bb5e72a55f4df3a87360cce81a00eecb993964344ec464561fd0717020509f", func := "loop.example/cavesurvey/laws.FnExactSurveyValid", spec := "fnExactSurveyValid", apart := false, narrowed := true }
def FnExactSurveyValidUptoSaid : Prop := fnExactSurveyValidUptoRow.holds Try.pinned (OpenSpec.upto fnExactSurveyValidSpec)

/-- 'laws.FnExactDet', WHERE WHAT IT READS IS OF BULK AT MOST 1048576: true; the input reads as it did. -/
def fnExactDetUptoRow : OpenClaim := { program := "ytmopbghngaeplaa", sum := "64bb5e72a55f4df3a87360cce81a00eecb993964344ec464561fd0717020509f", func := "loop.example/cavesurvey/laws.FnExactDet", spec := "fnExactDet", recurses := true, apart := false, narrowed := true }
def FnExactDetUptoSaid : Prop := fnExactDetUptoRow.holds Try.pinned (OpenSpec.upto fnExactDetSpec)

/-- 'laws.FnExactMatrixTurn', WHERE WHAT IT READS IS OF BULK AT MOST 1048576: true; the input reads as it did. -/
def fnExactMatrixTurnUptoRow : OpenClaim := { program := "ytmopbghngaeplaa", sum := "64bb5e72a55f4df3a87360cce81a00eecb993964344ec464561fd0717020509f", func := "loop.example/cavesurvey/laws.FnExactMatrixTurn", spec := "fnExactMatrixTurn", apart := false, narrowed := true }
def FnExactMatrixTurnUptoSaid : Prop := fnExactMatrixTurnUptoRow.holds Try.pinned (OpenSpec.upto fnExactMatrixTurnSpec)

/-- 'laws.FnExactSolve', WHERE WHAT IT READS IS OF BULK AT MOST 1048576: true; the input reads as it did. -/
def fnExactSolveUptoRow : OpenClaim := { program := "ytmopbghngaeplaa", sum := "64bb5e72a55f4df3a87360cce81a00eecb993964344ec464561fd0717020509f", func := "loop.example/cavesurvey/laws.FnExactSolve", spec := "fnExactSolve", recurses := true, apart := false, narrowed := true }
def FnExactSolveUptoSaid : Prop := fnExactSolveUptoRow.holds Try.pinned (OpenSpec.upto fnExactSolveSpec)

/-- 'laws.FnExactLinks', WHERE WHAT IT READS IS OF BULK AT MOST 1048576: true; the input reads as it did. -/
def fnExactLinksUptoRow : OpenClaim := { program := "ytmopbghngaeplaa", sum := "64bb5e72a55f4df3a87360cce81a00eecb993964344ec464561fd0717020509f", func := "loop.example/cavesurvey/laws.FnExactLinks", spec := "fnExactLinks", apart := false, narrowed := true }
def FnExactLinksUptoSaid : Prop := fnExactLinksUptoRow.holds Try.pinned (OpenSpec.upto fnExactLinksSpec)

/-- 'laws.FnExactTreesMany', WHERE WHAT IT READS IS OF BULK AT MOST 1048576: true; the input reads as it did. -/
def fnExactTreesManyUptoRow : OpenClaim := { program := "ytmopbghngaeplaa", sum := "64bb5e72a55f4df3a87360cce81a00eecb993964344ec464561fd0717020509f", func := "loop.example/cavesurvey/laws.FnExactTreesMany", spec := "fnExactTreesMany", recurses := true, apart := false, narrowed := true }
def FnExactTreesManyUptoSaid : Prop := fnExactTreesManyUptoRow.holds Try.pinned (OpenSpec.upto fnExactTreesManySpec)

end Rows
end Go.Proofs.Ytmopbghngaeplaa
