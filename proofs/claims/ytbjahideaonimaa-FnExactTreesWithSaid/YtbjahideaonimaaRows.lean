/-
  No cell of these rows narrows 'for every input' (looked for: loops, veiled, ifaces, maps, wideKeys, modest, calm, conditions, laid).
  DERIVED. THE GIVEN ROWS OF THIS SEAT. 4 by the template 'for every input the law returns true; each argument reads behind the call as it read before'; 0 by the template 'total and deterministic' (their statements: YtbjahideaonimaaTotals.lean).
  GIVEN WITH THE SEED: the statements are not yours to turn. If you find one false, say at which input.
  Laid BY PROGRAM, IN A SANDBOX (cutbox-rows.mjs): the forced cells as the released guide's own fill.sh prints them over the translation 637e2b665237a429… (all of the seat's roots in one cut). By AI agents, Wed Nov 11 2026. No macro, syntax, notation, axiom, sorry.
-/
import Derived.Test.YtbjahideaonimaaChecked
import GoSem.Claim
import GoSem.ClaimJoined
import GoSem.ClaimMapViews
import Derived.JoinedTies
import Derived.KernelRfl
namespace Go.Proofs.Ytbjahideaonimaa
/- THE CELL 'sum', in the pinned program and in every row, IS THE sha256 OF THE DUMP (.gsa) THAT YtbjahideaonimaaProg.lean LOADS. Nothing in Lean hashes anything: it is a label: what it is worth is what the hold of that sum in a sandbox is worth. -/
noncomputable def Try.pinned : Pinned := { name := "ytbjahideaonimaa", sum := "637e2b665237a42987cd1571705a81534fc69780eda16d4b9d0edc922dd12fdd", checked := Try.checked }
namespace Rows
def none {H : Type} : Left H := { results := [], args := [] }

/-- 'laws.FnExactFixValid': WHATEVER THE INPUT: true; the input reads as it did. -/
def fnExactFixValidSpec : ChangeSpec := { name := "fnExactFixValid", fn := fun _ => fun
  | [d1, d2] => { results := [.lit (.bool true)], args := [d1, d2] }
  | _ => none }
def fnExactFixValidRow : OpenClaim := { program := "ytbjahideaonimaa", sum := "637e2b665237a42987cd1571705a81534fc69780eda16d4b9d0edc922dd12fdd", func := "loop.example/cavesurvey/laws.FnExactFixValid", spec := "fnExactFixValid", apart := false }
def FnExactFixValidSaid : Prop := fnExactFixValidRow.holds Try.pinned (OpenSpec.ofChange fnExactFixValidSpec)

/-- ITS FALSE NEIGHBOUR: 'it returns false'. Refute it at one input. -/
def fnExactFixValidWrong : ChangeSpec := { name := "fnExactFixValid", fn := fun _ => fun
  | [d1, d2] => { results := [.lit (.bool false)], args := [d1, d2] }
  | _ => none }
def FnExactFixValidWrongFalsely : Prop := fnExactFixValidRow.holds Try.pinned (OpenSpec.ofChange fnExactFixValidWrong)

/-- 'laws.FnExactFixMiss': WHATEVER THE INPUT: true; the input reads as it did. -/
def fnExactFixMissSpec : ChangeSpec := { name := "fnExactFixMiss", fn := fun _ => fun
  | [d1, d2, d3] => { results := [.lit (.bool true)], args := [d1, d2, d3] }
  | _ => none }
def fnExactFixMissRow : OpenClaim := { program := "ytbjahideaonimaa", sum := "637e2b665237a42987cd1571705a81534fc69780eda16d4b9d0edc922dd12fdd", func := "loop.example/cavesurvey/laws.FnExactFixMiss", spec := "fnExactFixMiss", apart := false }
def FnExactFixMissSaid : Prop := fnExactFixMissRow.holds Try.pinned (OpenSpec.ofChange fnExactFixMissSpec)

/-- ITS FALSE NEIGHBOUR: 'it returns false'. Refute it at one input. -/
def fnExactFixMissWrong : ChangeSpec := { name := "fnExactFixMiss", fn := fun _ => fun
  | [d1, d2, d3] => { results := [.lit (.bool false)], args := [d1, d2, d3] }
  | _ => none }
def FnExactFixMissWrongFalsely : Prop := fnExactFixMissRow.holds Try.pinned (OpenSpec.ofChange fnExactFixMissWrong)

/-- 'laws.FnExactFixSum': WHATEVER THE INPUT: true; the input reads as it did. -/
def fnExactFixSumSpec : ChangeSpec := { name := "fnExactFixSum", fn := fun _ => fun
  | [d1, d2] => { results := [.lit (.bool true)], args := [d1, d2] }
  | _ => none }
def fnExactFixSumRow : OpenClaim := { program := "ytbjahideaonimaa", sum := "637e2b665237a42987cd1571705a81534fc69780eda16d4b9d0edc922dd12fdd", func := "loop.example/cavesurvey/laws.FnExactFixSum", spec := "fnExactFixSum", apart := false }
def FnExactFixSumSaid : Prop := fnExactFixSumRow.holds Try.pinned (OpenSpec.ofChange fnExactFixSumSpec)

/-- ITS FALSE NEIGHBOUR: 'it returns false'. Refute it at one input. -/
def fnExactFixSumWrong : ChangeSpec := { name := "fnExactFixSum", fn := fun _ => fun
  | [d1, d2] => { results := [.lit (.bool false)], args := [d1, d2] }
  | _ => none }
def FnExactFixSumWrongFalsely : Prop := fnExactFixSumRow.holds Try.pinned (OpenSpec.ofChange fnExactFixSumWrong)

/-- 'laws.FnExactTreesWith': WHATEVER THE INPUT: true; the input reads as it did. -/
def fnExactTreesWithSpec : ChangeSpec := { name := "fnExactTreesWith", fn := fun _ => fun
  | [d1, d2] => { results := [.lit (.bool true)], args := [d1, d2] }
  | _ => none }
def fnExactTreesWithRow : OpenClaim := { program := "ytbjahideaonimaa", sum := "637e2b665237a42987cd1571705a81534fc69780eda16d4b9d0edc922dd12fdd", func := "loop.example/cavesurvey/laws.FnExactTreesWith", spec := "fnExactTreesWith", recurses := true, apart := false }
def FnExactTreesWithSaid : Prop := fnExactTreesWithRow.holds Try.pinned (OpenSpec.ofChange fnExactTreesWithSpec)

/-- ITS FALSE NEIGHBOUR: 'it returns false'. Refute it at one input. -/
def fnExactTreesWithWrong : ChangeSpec := { name := "fnExactTreesWith", fn := fun _ => fun
  | [d1, d2] => { results := [.lit (.bool false)], args := [d1, d2] }
  | _ => none }
def FnExactTreesWithWrongFalsely : Prop := fnExactTreesWithRow.holds Try.pinned (OpenSpec.ofChange fnExactTreesWithWrong)

/- THE SECOND FORM. 'bulk': how many values and letters a reading holds, each counted each time it is reached (what is shared counts as often as it is met; a slice's spare places count too). A statement '..UptoSaid' is the law's where the arguments, and the package variables that the reading takes, are together of bulk at most 1048576: NARROWER than '..Said'. Prove '..Said' where nothing that the law and all that it calls make is longer than what came in: it says more and counts as full. Else prove '..UptoSaid'. A law counts once. -/
mutual
def uptoBulk {H : Type} : DataW H → Nat
  | .lit (.string bytes) => bytes.length + 1
  | .lit _ => 1
  | .nil => 1
  | .ptr d => uptoBulk d + 1
  | .slice elems spare => uptoBulkAll elems + uptoBulkAll spare + 1
  | .agg parts => uptoBulkAll parts + 1
  | .iface _ d => uptoBulk d + 1
  | .map entries => uptoBulkEntries entries + 1
  | .held _ => 1
def uptoBulkAll {H : Type} : List (DataW H) → Nat
  | [] => 0
  | d :: r => uptoBulk d + uptoBulkAll r
def uptoBulkEntries {H : Type} : List (Lit × DataW H) → Nat
  | [] => 0
  | x :: r => uptoBulkEntry x + uptoBulkEntries r
def uptoBulkEntry {H : Type} : Lit × DataW H → Nat
  | (.string bytes, d) => bytes.length + uptoBulk d + 1
  | (_, d) => uptoBulk d + 1
 end
def uptoSmall : (H : Type) → List (DataW H) → Bool := fun _ ds => decide (uptoBulkAll ds ≤ 1048576)
def OpenSpec.upto (s : _root_.Go.ChangeSpec) : _root_.Go.OpenSpec := { _root_.Go.OpenSpec.ofChange s with cond := some uptoSmall }

/-- 'laws.FnExactFixValid', WHERE WHAT IT READS IS OF BULK AT MOST 1048576: true; the input reads as it did. -/
def fnExactFixValidUptoRow : OpenClaim := { program := "ytbjahideaonimaa", sum := "637e2b665237a42987cd1571705a81534fc69780eda16d4b9d0edc922dd12fdd", func := "loop.example/cavesurvey/laws.FnExactFixValid", spec := "fnExactFixValid", apart := false, narrowed := true }
def FnExactFixValidUptoSaid : Prop := fnExactFixValidUptoRow.holds Try.pinned (OpenSpec.upto fnExactFixValidSpec)

/-- 'laws.FnExactFixMiss', WHERE WHAT IT READS IS OF BULK AT MOST 1048576: true; the input reads as it did. -/
def fnExactFixMissUptoRow : OpenClaim := { program := "ytbjahideaonimaa", sum := "637e2b665237a42987cd1571705a81534fc69780eda16d4b9d0edc922dd12fdd", func := "loop.example/cavesurvey/laws.FnExactFixMiss", spec := "fnExactFixMiss", apart := false, narrowed := true }
def FnExactFixMissUptoSaid : Prop := fnExactFixMissUptoRow.holds Try.pinned (OpenSpec.upto fnExactFixMissSpec)

/-- 'laws.FnExactFixSum', WHERE WHAT IT READS IS OF BULK AT MOST 1048576: true; the input reads as it did. -/
def fnExactFixSumUptoRow : OpenClaim := { program := "ytbjahideaonimaa", sum := "637e2b665237a42987cd1571705a81534fc69780eda16d4b9d0edc922dd12fdd", func := "loop.example/cavesurvey/laws.FnExactFixSum", spec := "fnExactFixSum", apart := false, narrowed := true }
def FnExactFixSumUptoSaid : Prop := fnExactFixSumUptoRow.holds Try.pinned (OpenSpec.upto fnExactFixSumSpec)

/-- 'laws.FnExactTreesWith', WHERE WHAT IT READS IS OF BULK AT MOST 1048576: true; the input reads as it did. -/
def fnExactTreesWithUptoRow : OpenClaim := { program := "ytbjahideaonimaa", sum := "637e2b665237a42987cd1571705a81534fc69780eda16d4b9d0edc922dd12fdd", func := "loop.example/cavesurvey/laws.FnExactTreesWith", spec := "fnExactTreesWith", recurses := true, apart := false, narrowed := true }
def FnExactTreesWithUptoSaid : Prop := fnExactTreesWithUptoRow.holds Try.pinned (OpenSpec.upto fnExactTreesWithSpec)

end Rows
end Go.Proofs.Ytbjahideaonimaa
