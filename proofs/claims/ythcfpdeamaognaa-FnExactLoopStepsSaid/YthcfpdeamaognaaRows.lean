/-
  No cell of these rows narrows 'for every input' (looked for: loops, veiled, ifaces, maps, wideKeys, modest, calm, conditions, laid).
  DERIVED. THE GIVEN ROWS OF THIS SEAT. 12 by the template 'for every input the law returns true; each argument reads behind the call as it read before'; 0 by the template 'total and deterministic' (their statements: YthcfpdeamaognaaTotals.lean).
  GIVEN WITH THE SEED: the statements are not yours to turn. If you find one false, say at which input.
  Laid BY PROGRAM, IN A SANDBOX (cutbox-rows.mjs): the forced cells as the released guide's own fill.sh prints them over the translation 6eae80875d3a2b80… (all of the seat's roots in one cut). By AI agents, Wed Nov 11 2026. No macro, syntax, notation, axiom, sorry.
-/
import Derived.Test.YthcfpdeamaognaaChecked
import GoSem.Claim
import GoSem.ClaimJoined
import GoSem.ClaimMapViews
import Derived.JoinedTies
import Derived.KernelRfl
namespace Go.Proofs.Ythcfpdeamaognaa
/- THE CELL 'sum', in the pinned program and in every row, IS THE sha256 OF THE DUMP (.gsa) THAT YthcfpdeamaognaaProg.lean LOADS. Nothing in Lean hashes anything: it is a label: what it is worth is what the hold of that sum in a sandbox is worth. -/
noncomputable def Try.pinned : Pinned := { name := "ythcfpdeamaognaa", sum := "6eae80875d3a2b80cb76f44c9919652e08be8b19081d2108200dc0f0b3514909", checked := Try.checked }
namespace Rows
def none {H : Type} : Left H := { results := [], args := [] }

/-- 'laws.FnExactPartsMany': WHATEVER THE INPUT: true; the input reads as it did. -/
def fnExactPartsManySpec : ChangeSpec := { name := "fnExactPartsMany", fn := fun _ => fun
  | [d] => { results := [.lit (.bool true)], args := [d] }
  | _ => none }
def fnExactPartsManyRow : OpenClaim := { program := "ythcfpdeamaognaa", sum := "6eae80875d3a2b80cb76f44c9919652e08be8b19081d2108200dc0f0b3514909", func := "loop.example/cavesurvey/laws.FnExactPartsMany", spec := "fnExactPartsMany", apart := false }
def FnExactPartsManySaid : Prop := fnExactPartsManyRow.holds Try.pinned (OpenSpec.ofChange fnExactPartsManySpec)

/-- ITS FALSE NEIGHBOUR: 'it returns false'. Refute it at one input. -/
def fnExactPartsManyWrong : ChangeSpec := { name := "fnExactPartsMany", fn := fun _ => fun
  | [d] => { results := [.lit (.bool false)], args := [d] }
  | _ => none }
def FnExactPartsManyWrongFalsely : Prop := fnExactPartsManyRow.holds Try.pinned (OpenSpec.ofChange fnExactPartsManyWrong)

/-- 'laws.FnExactParts': WHATEVER THE INPUT: true; the input reads as it did. -/
def fnExactPartsSpec : ChangeSpec := { name := "fnExactParts", fn := fun _ => fun
  | [d] => { results := [.lit (.bool true)], args := [d] }
  | _ => none }
def fnExactPartsRow : OpenClaim := { program := "ythcfpdeamaognaa", sum := "6eae80875d3a2b80cb76f44c9919652e08be8b19081d2108200dc0f0b3514909", func := "loop.example/cavesurvey/laws.FnExactParts", spec := "fnExactParts", apart := false }
def FnExactPartsSaid : Prop := fnExactPartsRow.holds Try.pinned (OpenSpec.ofChange fnExactPartsSpec)

/-- ITS FALSE NEIGHBOUR: 'it returns false'. Refute it at one input. -/
def fnExactPartsWrong : ChangeSpec := { name := "fnExactParts", fn := fun _ => fun
  | [d] => { results := [.lit (.bool false)], args := [d] }
  | _ => none }
def FnExactPartsWrongFalsely : Prop := fnExactPartsRow.holds Try.pinned (OpenSpec.ofChange fnExactPartsWrong)

/-- 'laws.FnExactStepsOk': WHATEVER THE INPUT: true; the input reads as it did. -/
def fnExactStepsOkSpec : ChangeSpec := { name := "fnExactStepsOk", fn := fun _ => fun
  | [d1, d2] => { results := [.lit (.bool true)], args := [d1, d2] }
  | _ => none }
def fnExactStepsOkRow : OpenClaim := { program := "ythcfpdeamaognaa", sum := "6eae80875d3a2b80cb76f44c9919652e08be8b19081d2108200dc0f0b3514909", func := "loop.example/cavesurvey/laws.FnExactStepsOk", spec := "fnExactStepsOk", apart := false }
def FnExactStepsOkSaid : Prop := fnExactStepsOkRow.holds Try.pinned (OpenSpec.ofChange fnExactStepsOkSpec)

/-- ITS FALSE NEIGHBOUR: 'it returns false'. Refute it at one input. -/
def fnExactStepsOkWrong : ChangeSpec := { name := "fnExactStepsOk", fn := fun _ => fun
  | [d1, d2] => { results := [.lit (.bool false)], args := [d1, d2] }
  | _ => none }
def FnExactStepsOkWrongFalsely : Prop := fnExactStepsOkRow.holds Try.pinned (OpenSpec.ofChange fnExactStepsOkWrong)

/-- 'laws.FnExactLoopsMany': WHATEVER THE INPUT: true; the input reads as it did. -/
def fnExactLoopsManySpec : ChangeSpec := { name := "fnExactLoopsMany", fn := fun _ => fun
  | [d] => { results := [.lit (.bool true)], args := [d] }
  | _ => none }
def fnExactLoopsManyRow : OpenClaim := { program := "ythcfpdeamaognaa", sum := "6eae80875d3a2b80cb76f44c9919652e08be8b19081d2108200dc0f0b3514909", func := "loop.example/cavesurvey/laws.FnExactLoopsMany", spec := "fnExactLoopsMany", apart := false }
def FnExactLoopsManySaid : Prop := fnExactLoopsManyRow.holds Try.pinned (OpenSpec.ofChange fnExactLoopsManySpec)

/-- ITS FALSE NEIGHBOUR: 'it returns false'. Refute it at one input. -/
def fnExactLoopsManyWrong : ChangeSpec := { name := "fnExactLoopsMany", fn := fun _ => fun
  | [d] => { results := [.lit (.bool false)], args := [d] }
  | _ => none }
def FnExactLoopsManyWrongFalsely : Prop := fnExactLoopsManyRow.holds Try.pinned (OpenSpec.ofChange fnExactLoopsManyWrong)

/-- 'laws.FnExactTreeLegs': WHATEVER THE INPUT: true; the input reads as it did. -/
def fnExactTreeLegsSpec : ChangeSpec := { name := "fnExactTreeLegs", fn := fun _ => fun
  | [d] => { results := [.lit (.bool true)], args := [d] }
  | _ => none }
def fnExactTreeLegsRow : OpenClaim := { program := "ythcfpdeamaognaa", sum := "6eae80875d3a2b80cb76f44c9919652e08be8b19081d2108200dc0f0b3514909", func := "loop.example/cavesurvey/laws.FnExactTreeLegs", spec := "fnExactTreeLegs", apart := false }
def FnExactTreeLegsSaid : Prop := fnExactTreeLegsRow.holds Try.pinned (OpenSpec.ofChange fnExactTreeLegsSpec)

/-- ITS FALSE NEIGHBOUR: 'it returns false'. Refute it at one input. -/
def fnExactTreeLegsWrong : ChangeSpec := { name := "fnExactTreeLegs", fn := fun _ => fun
  | [d] => { results := [.lit (.bool false)], args := [d] }
  | _ => none }
def FnExactTreeLegsWrongFalsely : Prop := fnExactTreeLegsRow.holds Try.pinned (OpenSpec.ofChange fnExactTreeLegsWrong)

/-- 'laws.FnExactTreeWay': WHATEVER THE INPUT: true; the input reads as it did. -/
def fnExactTreeWaySpec : ChangeSpec := { name := "fnExactTreeWay", fn := fun _ => fun
  | [d1, d2, d3] => { results := [.lit (.bool true)], args := [d1, d2, d3] }
  | _ => none }
def fnExactTreeWayRow : OpenClaim := { program := "ythcfpdeamaognaa", sum := "6eae80875d3a2b80cb76f44c9919652e08be8b19081d2108200dc0f0b3514909", func := "loop.example/cavesurvey/laws.FnExactTreeWay", spec := "fnExactTreeWay", recurses := true, apart := false }
def FnExactTreeWaySaid : Prop := fnExactTreeWayRow.holds Try.pinned (OpenSpec.ofChange fnExactTreeWaySpec)

/-- ITS FALSE NEIGHBOUR: 'it returns false'. Refute it at one input. -/
def fnExactTreeWayWrong : ChangeSpec := { name := "fnExactTreeWay", fn := fun _ => fun
  | [d1, d2, d3] => { results := [.lit (.bool false)], args := [d1, d2, d3] }
  | _ => none }
def FnExactTreeWayWrongFalsely : Prop := fnExactTreeWayRow.holds Try.pinned (OpenSpec.ofChange fnExactTreeWayWrong)

/-- 'laws.FnExactTreePlace': WHATEVER THE INPUT: true; the input reads as it did. -/
def fnExactTreePlaceSpec : ChangeSpec := { name := "fnExactTreePlace", fn := fun _ => fun
  | [d1, d2] => { results := [.lit (.bool true)], args := [d1, d2] }
  | _ => none }
def fnExactTreePlaceRow : OpenClaim := { program := "ythcfpdeamaognaa", sum := "6eae80875d3a2b80cb76f44c9919652e08be8b19081d2108200dc0f0b3514909", func := "loop.example/cavesurvey/laws.FnExactTreePlace", spec := "fnExactTreePlace", recurses := true, apart := false }
def FnExactTreePlaceSaid : Prop := fnExactTreePlaceRow.holds Try.pinned (OpenSpec.ofChange fnExactTreePlaceSpec)

/-- ITS FALSE NEIGHBOUR: 'it returns false'. Refute it at one input. -/
def fnExactTreePlaceWrong : ChangeSpec := { name := "fnExactTreePlace", fn := fun _ => fun
  | [d1, d2] => { results := [.lit (.bool false)], args := [d1, d2] }
  | _ => none }
def FnExactTreePlaceWrongFalsely : Prop := fnExactTreePlaceRow.holds Try.pinned (OpenSpec.ofChange fnExactTreePlaceWrong)

/-- 'laws.FnExactLoopSteps': WHATEVER THE INPUT: true; the input reads as it did. -/
def fnExactLoopStepsSpec : ChangeSpec := { name := "fnExactLoopSteps", fn := fun _ => fun
  | [d1, d2] => { results := [.lit (.bool true)], args := [d1, d2] }
  | _ => none }
def fnExactLoopStepsRow : OpenClaim := { program := "ythcfpdeamaognaa", sum := "6eae80875d3a2b80cb76f44c9919652e08be8b19081d2108200dc0f0b3514909", func := "loop.example/cavesurvey/laws.FnExactLoopSteps", spec := "fnExactLoopSteps", recurses := true, apart := false }
def FnExactLoopStepsSaid : Prop := fnExactLoopStepsRow.holds Try.pinned (OpenSpec.ofChange fnExactLoopStepsSpec)

/-- ITS FALSE NEIGHBOUR: 'it returns false'. Refute it at one input. -/
def fnExactLoopStepsWrong : ChangeSpec := { name := "fnExactLoopSteps", fn := fun _ => fun
  | [d1, d2] => { results := [.lit (.bool false)], args := [d1, d2] }
  | _ => none }
def FnExactLoopStepsWrongFalsely : Prop := fnExactLoopStepsRow.holds Try.pinned (OpenSpec.ofChange fnExactLoopStepsWrong)

/-- 'laws.FnExactMisclosure': WHATEVER THE INPUT: true; the input reads as it did. -/
def fnExactMisclosureSpec : ChangeSpec := { name := "fnExactMisclosure", fn := fun _ => fun
  | [d1, d2] => { results := [.lit (.bool true)], args := [d1, d2] }
  | _ => none }
def fnExactMisclosureRow : OpenClaim := { program := "ythcfpdeamaognaa", sum := "6eae80875d3a2b80cb76f44c9919652e08be8b19081d2108200dc0f0b3514909", func := "loop.example/cavesurvey/laws.FnExactMisclosure", spec := "fnExactMisclosure", recurses := true, apart := false }
def FnExactMisclosureSaid : Prop := fnExactMisclosureRow.holds Try.pinned (OpenSpec.ofChange fnExactMisclosureSpec)

/-- ITS FALSE NEIGHBOUR: 'it returns false'. Refute it at one input. -/
def fnExactMisclosureWrong : ChangeSpec := { name := "fnExactMisclosure", fn := fun _ => fun
  | [d1, d2] => { results := [.lit (.bool false)], args := [d1, d2] }
  | _ => none }
def FnExactMisclosureWrongFalsely : Prop := fnExactMisclosureRow.holds Try.pinned (OpenSpec.ofChange fnExactMisclosureWrong)

/-- 'laws.FnExactCloses': WHATEVER THE INPUT: true; the input reads as it did. -/
def fnExactClosesSpec : ChangeSpec := { name := "fnExactCloses", fn := fun _ => fun
  | [d] => { results := [.lit (.bool true)], args := [d] }
  | _ => none }
def fnExactClosesRow : OpenClaim := { program := "ythcfpdeamaognaa", sum := "6eae80875d3a2b80cb76f44c9919652e08be8b19081d2108200dc0f0b3514909", func := "loop.example/cavesurvey/laws.FnExactCloses", spec := "fnExactCloses", recurses := true, apart := false }
def FnExactClosesSaid : Prop := fnExactClosesRow.holds Try.pinned (OpenSpec.ofChange fnExactClosesSpec)

/-- ITS FALSE NEIGHBOUR: 'it returns false'. Refute it at one input. -/
def fnExactClosesWrong : ChangeSpec := { name := "fnExactCloses", fn := fun _ => fun
  | [d] => { results := [.lit (.bool false)], args := [d] }
  | _ => none }
def FnExactClosesWrongFalsely : Prop := fnExactClosesRow.holds Try.pinned (OpenSpec.ofChange fnExactClosesWrong)

/-- 'laws.FnExactStepsWay': WHATEVER THE INPUT: true; the input reads as it did. -/
def fnExactStepsWaySpec : ChangeSpec := { name := "fnExactStepsWay", fn := fun _ => fun
  | [d1, d2] => { results := [.lit (.bool true)], args := [d1, d2] }
  | _ => none }
def fnExactStepsWayRow : OpenClaim := { program := "ythcfpdeamaognaa", sum := "6eae80875d3a2b80cb76f44c9919652e08be8b19081d2108200dc0f0b3514909", func := "loop.example/cavesurvey/laws.FnExactStepsWay", spec := "fnExactStepsWay", apart := false }
def FnExactStepsWaySaid : Prop := fnExactStepsWayRow.holds Try.pinned (OpenSpec.ofChange fnExactStepsWaySpec)

/-- ITS FALSE NEIGHBOUR: 'it returns false'. Refute it at one input. -/
def fnExactStepsWayWrong : ChangeSpec := { name := "fnExactStepsWay", fn := fun _ => fun
  | [d1, d2] => { results := [.lit (.bool false)], args := [d1, d2] }
  | _ => none }
def FnExactStepsWayWrongFalsely : Prop := fnExactStepsWayRow.holds Try.pinned (OpenSpec.ofChange fnExactStepsWayWrong)

/-- 'laws.FnExactTreesWith': WHATEVER THE INPUT: true; the input reads as it did. -/
def fnExactTreesWithSpec : ChangeSpec := { name := "fnExactTreesWith", fn := fun _ => fun
  | [d1, d2] => { results := [.lit (.bool true)], args := [d1, d2] }
  | _ => none }
def fnExactTreesWithRow : OpenClaim := { program := "ythcfpdeamaognaa", sum := "6eae80875d3a2b80cb76f44c9919652e08be8b19081d2108200dc0f0b3514909", func := "loop.example/cavesurvey/laws.FnExactTreesWith", spec := "fnExactTreesWith", recurses := true, apart := false }
def FnExactTreesWithSaid : Prop := fnExactTreesWithRow.holds Try.pinned (OpenSpec.ofChange fnExactTreesWithSpec)

/-- ITS FALSE NEIGHBOUR: 'it returns false'. Refute it at one input. -/
def fnExactTreesWithWrong : ChangeSpec := { name := "fnExactTreesWith", fn := fun _ => fun
  | [d1, d2] => { results := [.lit (.bool false)], args := [d1, d2] }
  | _ => none }
def FnExactTreesWithWrongFalsely : Prop := fnExactTreesWithRow.holds Try.pinned (OpenSpec.ofChange fnExactTreesWithWrong)

/- THE SECOND FORM. 'bulk': how many values and letters a reading holds, each counted each time it is reached (what is shared counts as often as it is met; a slice's spare places count too). A statement '..UptoSaid' is the law's where the arguments, and the package variables that the reading takes, are together of bulk at most 1048576: NARROWER than '..Said'. Prove '..Said' where nothing that the law and all that it calls make is longer than what came in: it says more and counts as full. Else prove '..UptoSaid'. A law counts once. -/
mutual
def uptoBulk {H : Type} : DataW H → Nat
  | .lit (.string bytes) => bytes.length + 1
  | .lit _ => 1
  | .nil => 1
  | .ptr d => uptoBulk d + 1
  | .slice elems spare => uptoBulkAll elems + uptoBulkAll spare + 1
  | .agg parts => uptoBulkAll parts + 1
  | .iface _ d => uptoBulk d + 1
  | .map entries => uptoBulkEntries entries + 1
  | .held _ => 1
def uptoBulkAll {H : Type} : List (DataW H) → Nat
  | [] => 0
  | d :: r => uptoBulk d + uptoBulkAll r
def uptoBulkEntries {H : Type} : List (Lit × DataW H) → Nat
  | [] => 0
  | x :: r => uptoBulkEntry x + uptoBulkEntries r
def uptoBulkEntry {H : Type} : Lit × DataW H → Nat
  | (.string bytes, d) => bytes.length + uptoBulk d + 1
  | (_, d) => uptoBulk d + 1
 end
def uptoSmall : (H : Type) → List (DataW H) → Bool := fun _ ds => decide (uptoBulkAll ds ≤ 1048576)
def OpenSpec.upto (s : _root_.Go.ChangeSpec) : _root_.Go.OpenSpec := { _root_.Go.OpenSpec.ofChange s with cond := some uptoSmall }

/-- 'laws.FnExactPartsMany', WHERE WHAT IT READS IS OF BULK AT MOST 1048576: true; the input reads as it did. -/
def fnExactPartsManyUptoRow : OpenClaim := { program := "ythcfpdeamaognaa", sum := "6eae80875d3a2b80cb76f44c9919652e08be8b19081d2108200dc0f0b3514909", func := "loop.example/cavesurvey/laws.FnExactPartsMany", spec := "fnExactPartsMany", apart := false, narrowed := true }
def FnExactPartsManyUptoSaid : Prop := fnExactPartsManyUptoRow.holds Try.pinned (OpenSpec.upto fnExactPartsManySpec)

/-- 'laws.FnExactParts', WHERE WHAT IT READS IS OF BULK AT MOST 1048576: true; the input reads as it did. -/
def fnExactPartsUptoRow : OpenClaim := { program := "ythcfpdeamaognaa", sum := "6eae80875d3a2b80cb76f44c9919652e08be8b19081d2108200dc0f0b3514909", func := "loop.example/cavesurvey/laws.FnExactParts", spec := "fnExactParts", apart := false, narrowed := true }
def FnExactPartsUptoSaid : Prop := fnExactPartsUptoRow.holds Try.pinned (OpenSpec.upto fnExactPartsSpec)

/-- 'laws.FnExactStepsOk', WHERE WHAT IT READS IS OF BULK AT MOST 1048576: true; the input reads as it did. -/
def fnExactStepsOkUptoRow : OpenClaim := { program := "ythcfpdeamaognaa", sum := "6eae80875d3a2b80cb76f44c9919652e08be8b19081d2108200dc0f0b3514909", func := "loop.example/cavesurvey/laws.FnExactStepsOk", spec := "fnExactStepsOk", apart := false, narrowed := true }
def FnExactStepsOkUptoSaid : Prop := fnExactStepsOkUptoRow.holds Try.pinned (OpenSpec.upto fnExactStepsOkSpec)

/-- 'laws.FnExactLoopsMany', WHERE WHAT IT READS IS OF BULK AT MOST 1048576: true; the input reads as it did. -/
def fnExactLoopsManyUptoRow : OpenClaim := { program := "ythcfpdeamaognaa", sum := "6eae80875d3a2b80cb76f44c9919652e08be8b19081d2108200dc0f0b3514909", func := "loop.example/cavesurvey/laws.FnExactLoopsMany", spec := "fnExactLoopsMany", apart := false, narrowed := true }
def FnExactLoopsManyUptoSaid : Prop := fnExactLoopsManyUptoRow.holds Try.pinned (OpenSpec.upto fnExactLoopsManySpec)

/-- 'laws.FnExactTreeLegs', WHERE WHAT IT READS IS OF BULK AT MOST 1048576: true; the input reads as it did. -/
def fnExactTreeLegsUptoRow : OpenClaim := { program := "ythcfpdeamaognaa", sum := "6eae80875d3a2b80cb76f44c9919652e08be8b19081d2108200dc0f0b3514909", func := "loop.example/cavesurvey/laws.FnExactTreeLegs", spec := "fnExactTreeLegs", apart := false, narrowed := true }
def FnExactTreeLegsUptoSaid : Prop := fnExactTreeLegsUptoRow.holds Try.pinned (OpenSpec.upto fnExactTreeLegsSpec)

/-- 'laws.FnExactTreeWay', WHERE WHAT IT READS IS OF BULK AT MOST 1048576: true; the input reads as it did. -/
def fnExactTreeWayUptoRow : OpenClaim := { program := "ythcfpdeamaognaa", sum := "6eae80875d3a2b80cb76f44c9919652e08be8b19081d2108200dc0f0b3514909", func := "loop.example/cavesurvey/laws.FnExactTreeWay", spec := "fnExactTreeWay", recurses := true, apart := false, narrowed := true }
def FnExactTreeWayUptoSaid : Prop := fnExactTreeWayUptoRow.holds Try.pinned (OpenSpec.upto fnExactTreeWaySpec)

/-- 'laws.FnExactTreePlace', WHERE WHAT IT READS IS OF BULK AT MOST 1048576: true; the input reads as it did. -/
def fnExactTreePlaceUptoRow : OpenClaim := { program := "ythcfpdeamaognaa", sum := "6eae80875d3a2b80cb76f44c9919652e08be8b19081d2108200dc0f0b3514909", func := "loop.example/cavesurvey/laws.FnExactTreePlace", spec := "fnExactTreePlace", recurses := true, apart := false, narrowed := true }
def FnExactTreePlaceUptoSaid : Prop := fnExactTreePlaceUptoRow.holds Try.pinned (OpenSpec.upto fnExactTreePlaceSpec)

/-- 'laws.FnExactLoopSteps', WHERE WHAT IT READS IS OF BULK AT MOST 1048576: true; the input reads as it did. -/
def fnExactLoopStepsUptoRow : OpenClaim := { program := "ythcfpdeamaognaa", sum := "6eae80875d3a2b80cb76f44c9919652e08be8b19081d2108200dc0f0b3514909", func := "loop.example/cavesurvey/laws.FnExactLoopSteps", spec := "fnExactLoopSteps", recurses := true, apart := false, narrowed := true }
def FnExactLoopStepsUptoSaid : Prop := fnExactLoopStepsUptoRow.holds Try.pinned (OpenSpec.upto fnExactLoopStepsSpec)

/-- 'laws.FnExactMisclosure', WHERE WHAT IT READS IS OF BULK AT MOST 1048576: true; the input reads as it did. -/
def fnExactMisclosureUptoRow : OpenClaim := { program := "ythcfpdeamaognaa", sum := "6eae80875d3a2b80cb76f44c9919652e08be8b19081d2108200dc0f0b3514909", func := "loop.example/cavesurvey/laws.FnExactMisclosure", spec := "fnExactMisclosure", recurses := true, apart := false, narrowed := true }
def FnExactMisclosureUptoSaid : Prop := fnExactMisclosureUptoRow.holds Try.pinned (OpenSpec.upto fnExactMisclosureSpec)

/-- 'laws.FnExactCloses', WHERE WHAT IT READS IS OF BULK AT MOST 1048576: true; the input reads as it did. -/
def fnExactClosesUptoRow : OpenClaim := { program := "ythcfpdeamaognaa", sum := "6eae80875d3a2b80cb76f44c9919652e08be8b19081d2108200dc0f0b3514909", func := "loop.example/cavesurvey/laws.FnExactCloses", spec := "fnExactCloses", recurses := true, apart := false, narrowed := true }
def FnExactClosesUptoSaid : Prop := fnExactClosesUptoRow.holds Try.pinned (OpenSpec.upto fnExactClosesSpec)

/-- 'laws.FnExactStepsWay', WHERE WHAT IT READS IS OF BULK AT MOST 1048576: true; the input reads as it did. -/
def fnExactStepsWayUptoRow : OpenClaim := { program := "ythcfpdeamaognaa", sum := "6eae80875d3a2b80cb76f44c9919652e08be8b19081d2108200dc0f0b3514909", func := "loop.example/cavesurvey/laws.FnExactStepsWay", spec := "fnExactStepsWay", apart := false, narrowed := true }
def FnExactStepsWayUptoSaid : Prop := fnExactStepsWayUptoRow.holds Try.pinned (OpenSpec.upto fnExactStepsWaySpec)

/-- 'laws.FnExactTreesWith', WHERE WHAT IT READS IS OF BULK AT MOST 1048576: true; the input reads as it did. -/
def fnExactTreesWithUptoRow : OpenClaim := { program := "ythcfpdeamaognaa", sum := "6eae80875d3a2b80cb76f44c9919652e08be8b19081d2108200dc0f0b3514909", func := "loop.example/cavesurvey/laws.FnExactTreesWith", spec := "fnExactTreesWith", recurses := true, apart := false, narrowed := true }
def FnExactTreesWithUptoSaid : Prop := fnExactTreesWithUptoRow.holds Try.pinned (OpenSpec.upto fnExactTreesWithSpec)

end Rows
end Go.Proofs.Ythcfpdeamaognaa
