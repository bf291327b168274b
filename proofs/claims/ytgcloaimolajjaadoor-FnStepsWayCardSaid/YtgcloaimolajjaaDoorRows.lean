/-
  NARROWER THAN 'FOR EVERY INPUT', by the rows' own cells (each row's printed sentence says how): FnSurveyValid: laid · FnParts: laid · FnStepsOk: laid · FnPartsMany: laid · FnLoopsMany: laid · FnTreeLegs: laid · FnTreeWay: laid · FnTreePlace: laid · FnMisclosure: laid · FnCloses: laid · FnStepsWay: laid · FnLoopSteps: laid.
  DERIVED. THE GIVEN ROWS OF THIS SEAT. 12 by the template 'for every input the law returns true; each argument reads behind the call as it read before'; 0 by the template 'total and deterministic' (their statements: YtgcloaimolajjaaDoorTotals.lean).
  GIVEN WITH THE SEED: the statements are not yours to turn. If you find one false, say at which input.
  Laid BY PROGRAM, IN A SANDBOX (cutbox-rows.mjs): the forced cells as the released guide's own fill.sh prints them over the translation 908f11cb0cc431b6… (all of the seat's roots in one cut). By AI agents, Wed Nov 11 2026. No macro, syntax, notation, axiom, sorry.
-/
import Derived.Test.YtgcloaimolajjaaDoorChecked
import GoSem.Claim
import GoSem.ClaimJoined
import GoSem.ClaimMapViews
import Derived.JoinedTies
import Derived.KernelRfl
namespace Go.Proofs.YtgcloaimolajjaaDoor
/- THE CELL 'sum', in the pinned program and in every row, IS THE sha256 OF THE DUMP (.gsa) THAT YtgcloaimolajjaaDoorProg.lean LOADS. Nothing in Lean hashes anything: it is a label: what it is worth is what the hold of that sum in a sandbox is worth. -/
noncomputable def Tryd.pinned : Pinned := { name := "ytgcloaimolajjaadoor", sum := "908f11cb0cc431b6ddc32386b891fb0cff02657f83c98686c6e5a69a4efff2fa", checked := Tryd.checked }
namespace Rows
def none {H : Type} : Left H := { results := [], args := [] }

/- WHAT THE LISTED PACKAGE-LEVEL VARIABLES READ AS WHEN THE CALL BEGINS. Each datum BY PROGRAM (the guide's laid-datum.mjs) off the statement by which the dump's own 'gosem.cut.vars' lays the variable. In a bare row this is a premise. The card (YtgcloaimolajjaaDoorCards.lean) ties it to the program's text. -/
def laid_math_bits_deBruijn32tab {H : Type} : DataW H := .agg [.lit (.int .u8 0), .lit (.int .u8 1), .lit (.int .u8 28), .lit (.int .u8 2), .lit (.int .u8 29), .lit (.int .u8 14), .lit (.int .u8 24), .lit (.int .u8 3), .lit (.int .u8 30), .lit (.int .u8 22), .lit (.int .u8 20), .lit (.int .u8 15), .lit (.int .u8 25), .lit (.int .u8 17), .lit (.int .u8 4), .lit (.int .u8 8), .lit (.int .u8 31), .lit (.int .u8 27), .lit (.int .u8 13), .lit (.int .u8 23), .lit (.int .u8 21), .lit (.int .u8 19), .lit (.int .u8 16), .lit (.int .u8 7), .lit (.int .u8 26), .lit (.int .u8 12), .lit (.int .u8 18), .lit (.int .u8 6), .lit (.int .u8 11), .lit (.int .u8 5), .lit (.int .u8 10), .lit (.int .u8 9)]
def laid_math_bits_deBruijn64tab {H : Type} : DataW H := .agg [.lit (.int .u8 0), .lit (.int .u8 1), .lit (.int .u8 56), .lit (.int .u8 2), .lit (.int .u8 57), .lit (.int .u8 49), .lit (.int .u8 28), .lit (.int .u8 3), .lit (.int .u8 61), .lit (.int .u8 58), .lit (.int .u8 42), .lit (.int .u8 50), .lit (.int .u8 38), .lit (.int .u8 29), .lit (.int .u8 17), .lit (.int .u8 4), .lit (.int .u8 62), .lit (.int .u8 47), .lit (.int .u8 59), .lit (.int .u8 36), .lit (.int .u8 45), .lit (.int .u8 43), .lit (.int .u8 51), .lit (.int .u8 22), .lit (.int .u8 53), .lit (.int .u8 39), .lit (.int .u8 33), .lit (.int .u8 30), .lit (.int .u8 24), .lit (.int .u8 18), .lit (.int .u8 12), .lit (.int .u8 5), .lit (.int .u8 63), .lit (.int .u8 55), .lit (.int .u8 48), .lit (.int .u8 27), .lit (.int .u8 60), .lit (.int .u8 41), .lit (.int .u8 37), .lit (.int .u8 16), .lit (.int .u8 46), .lit (.int .u8 35), .lit (.int .u8 44), .lit (.int .u8 21), .lit (.int .u8 52), .lit (.int .u8 32), .lit (.int .u8 23), .lit (.int .u8 11), .lit (.int .u8 54), .lit (.int .u8 26), .lit (.int .u8 40), .lit (.int .u8 15), .lit (.int .u8 34), .lit (.int .u8 20), .lit (.int .u8 31), .lit (.int .u8 10), .lit (.int .u8 25), .lit (.int .u8 14), .lit (.int .u8 19), .lit (.int .u8 9), .lit (.int .u8 13), .lit (.int .u8 8), .lit (.int .u8 7), .lit (.int .u8 6)]
def laid_internal_strconv_uint64pow10 {H : Type} : DataW H := .agg [.lit (.int .u64 1), .lit (.int .u64 10), .lit (.int .u64 100), .lit (.int .u64 1000), .lit (.int .u64 10000), .lit (.int .u64 100000), .lit (.int .u64 1000000), .lit (.int .u64 10000000), .lit (.int .u64 100000000), .lit (.int .u64 1000000000), .lit (.int .u64 10000000000), .lit (.int .u64 100000000000), .lit (.int .u64 1000000000000), .lit (.int .u64 10000000000000), .lit (.int .u64 100000000000000), .lit (.int .u64 1000000000000000), .lit (.int .u64 10000000000000000), .lit (.int .u64 100000000000000000), .lit (.int .u64 1000000000000000000), .lit (.int .u64 10000000000000000000)]

/-- 'laws.FnSurveyValid': WHATEVER THE INPUT: true; the input reads as it did. -/
def fnSurveyValidSpec : ChangeSpec := { name := "fnSurveyValid", fn := fun _ => fun
  | [d] => { results := [.lit (.bool true)], args := [d] }
  | _ => none }
def fnSurveyValidRow : OpenClaim := { program := "ytgcloaimolajjaadoor", sum := "908f11cb0cc431b6ddc32386b891fb0cff02657f83c98686c6e5a69a4efff2fa", func := "loop.example/cavesurvey/laws.FnSurveyValid", spec := "fnSurveyValid", recurses := true, named := ["internal/strconv.uint64pow10", "math/bits.deBruijn32tab", "math/bits.deBruijn64tab"], apart := false, laid := [("math/bits.deBruijn32tab", laid_math_bits_deBruijn32tab), ("math/bits.deBruijn64tab", laid_math_bits_deBruijn64tab), ("internal/strconv.uint64pow10", laid_internal_strconv_uint64pow10)] }
def FnSurveyValidSaid : Prop := fnSurveyValidRow.holds Tryd.pinned (OpenSpec.ofChange fnSurveyValidSpec)

/-- ITS FALSE NEIGHBOUR: 'it returns false'. Refute it at one input. -/
def fnSurveyValidWrong : ChangeSpec := { name := "fnSurveyValid", fn := fun _ => fun
  | [d] => { results := [.lit (.bool false)], args := [d] }
  | _ => none }
def FnSurveyValidWrongFalsely : Prop := fnSurveyValidRow.holds Tryd.pinned (OpenSpec.ofChange fnSurveyValidWrong)

/-- 'laws.FnParts': WHATEVER THE INPUT: true; the input reads as it did. -/
def fnPartsSpec : ChangeSpec := { name := "fnParts", fn := fun _ => fun
  | [d] => { results := [.lit (.bool true)], args := [d] }
  | _ => none }
def fnPartsRow : OpenClaim := { program := "ytgcloaimolajjaadoor", sum := "908f11cb0cc431b6ddc32386b891fb0cff02657f83c98686c6e5a69a4efff2fa", func := "loop.example/cavesurvey/laws.FnParts", spec := "fnParts", recurses := true, named := ["internal/strconv.uint64pow10", "math/bits.deBruijn32tab", "math/bits.deBruijn64tab"], apart := false, laid := [("math/bits.deBruijn32tab", laid_math_bits_deBruijn32tab), ("math/bits.deBruijn64tab", laid_math_bits_deBruijn64tab), ("internal/strconv.uint64pow10", laid_internal_strconv_uint64pow10)] }
def FnPartsSaid : Prop := fnPartsRow.holds Tryd.pinned (OpenSpec.ofChange fnPartsSpec)

/-- ITS FALSE NEIGHBOUR: 'it returns false'. Refute it at one input. -/
def fnPartsWrong : ChangeSpec := { name := "fnParts", fn := fun _ => fun
  | [d] => { results := [.lit (.bool false)], args := [d] }
  | _ => none }
def FnPartsWrongFalsely : Prop := fnPartsRow.holds Tryd.pinned (OpenSpec.ofChange fnPartsWrong)

/-- 'laws.FnStepsOk': WHATEVER THE INPUT: true; the input reads as it did. -/
def fnStepsOkSpec : ChangeSpec := { name := "fnStepsOk", fn := fun _ => fun
  | [d] => { results := [.lit (.bool true)], args := [d] }
  | _ => none }
def fnStepsOkRow : OpenClaim := { program := "ytgcloaimolajjaadoor", sum := "908f11cb0cc431b6ddc32386b891fb0cff02657f83c98686c6e5a69a4efff2fa", func := "loop.example/cavesurvey/laws.FnStepsOk", spec := "fnStepsOk", recurses := true, named := ["internal/strconv.uint64pow10", "math/bits.deBruijn32tab", "math/bits.deBruijn64tab"], apart := false, laid := [("math/bits.deBruijn32tab", laid_math_bits_deBruijn32tab), ("math/bits.deBruijn64tab", laid_math_bits_deBruijn64tab), ("internal/strconv.uint64pow10", laid_internal_strconv_uint64pow10)] }
def FnStepsOkSaid : Prop := fnStepsOkRow.holds Tryd.pinned (OpenSpec.ofChange fnStepsOkSpec)

/-- ITS FALSE NEIGHBOUR: 'it returns false'. Refute it at one input. -/
def fnStepsOkWrong : ChangeSpec := { name := "fnStepsOk", fn := fun _ => fun
  | [d] => { results := [.lit (.bool false)], args := [d] }
  | _ => none }
def FnStepsOkWrongFalsely : Prop := fnStepsOkRow.holds Tryd.pinned (OpenSpec.ofChange fnStepsOkWrong)

/-- 'laws.FnPartsMany': WHATEVER THE INPUT: true; the input reads as it did. -/
def fnPartsManySpec : ChangeSpec := { name := "fnPartsMany", fn := fun _ => fun
  | [d] => { results := [.lit (.bool true)], args := [d] }
  | _ => none }
def fnPartsManyRow : OpenClaim := { program := "ytgcloaimolajjaadoor", sum := "908f11cb0cc431b6ddc32386b891fb0cff02657f83c98686c6e5a69a4efff2fa", func := "loop.example/cavesurvey/laws.FnPartsMany", spec := "fnPartsMany", recurses := true, named := ["internal/strconv.uint64pow10", "math/bits.deBruijn32tab", "math/bits.deBruijn64tab"], apart := false, laid := [("math/bits.deBruijn32tab", laid_math_bits_deBruijn32tab), ("math/bits.deBruijn64tab", laid_math_bits_deBruijn64tab), ("internal/strconv.uint64pow10", laid_internal_strconv_uint64pow10)] }
def FnPartsManySaid : Prop := fnPartsManyRow.holds Tryd.pinned (OpenSpec.ofChange fnPartsManySpec)

/-- ITS FALSE NEIGHBOUR: 'it returns false'. Refute it at one input. -/
def fnPartsManyWrong : ChangeSpec := { name := "fnPartsMany", fn := fun _ => fun
  | [d] => { results := [.lit (.bool false)], args := [d] }
  | _ => none }
def FnPartsManyWrongFalsely : Prop := fnPartsManyRow.holds Tryd.pinned (OpenSpec.ofChange fnPartsManyWrong)

/-- 'laws.FnLoopsMany': WHATEVER THE INPUT: true; the input reads as it did. -/
def fnLoopsManySpec : ChangeSpec := { name := "fnLoopsMany", fn := fun _ => fun
  | [d] => { results := [.lit (.bool true)], args := [d] }
  | _ => none }
def fnLoopsManyRow : OpenClaim := { program := "ytgcloaimolajjaadoor", sum := "908f11cb0cc431b6ddc32386b891fb0cff02657f83c98686c6e5a69a4efff2fa", func := "loop.example/cavesurvey/laws.FnLoopsMany", spec := "fnLoopsMany", recurses := true, named := ["internal/strconv.uint64pow10", "math/bits.deBruijn32tab", "math/bits.deBruijn64tab"], apart := false, laid := [("math/bits.deBruijn32tab", laid_math_bits_deBruijn32tab), ("math/bits.deBruijn64tab", laid_math_bits_deBruijn64tab), ("internal/strconv.uint64pow10", laid_internal_strconv_uint64pow10)] }
def FnLoopsManySaid : Prop := fnLoopsManyRow.holds Tryd.pinned (OpenSpec.ofChange fnLoopsManySpec)

/-- ITS FALSE NEIGHBOUR: 'it returns false'. Refute it at one input. -/
def fnLoopsManyWrong : ChangeSpec := { name := "fnLoopsMany", fn := fun _ => fun
  | [d] => { results := [.lit (.bool false)], args := [d] }
  | _ => none }
def FnLoopsManyWrongFalsely : Prop := fnLoopsManyRow.holds Tryd.pinned (OpenSpec.ofChange fnLoopsManyWrong)

/-- 'laws.FnTreeLegs': WHATEVER THE INPUT: true; the input reads as it did. -/
def fnTreeLegsSpec : ChangeSpec := { name := "fnTreeLegs", fn := fun _ => fun
  | [d] => { results := [.lit (.bool true)], args := [d] }
  | _ => none }
def fnTreeLegsRow : OpenClaim := { program := "ytgcloaimolajjaadoor", sum := "908f11cb0cc431b6ddc32386b891fb0cff02657f83c98686c6e5a69a4efff2fa", func := "loop.example/cavesurvey/laws.FnTreeLegs", spec := "fnTreeLegs", recurses := true, named := ["internal/strconv.uint64pow10", "math/bits.deBruijn32tab", "math/bits.deBruijn64tab"], apart := false, laid := [("math/bits.deBruijn32tab", laid_math_bits_deBruijn32tab), ("math/bits.deBruijn64tab", laid_math_bits_deBruijn64tab), ("internal/strconv.uint64pow10", laid_internal_strconv_uint64pow10)] }
def FnTreeLegsSaid : Prop := fnTreeLegsRow.holds Tryd.pinned (OpenSpec.ofChange fnTreeLegsSpec)

/-- ITS FALSE NEIGHBOUR: 'it returns false'. Refute it at one input. -/
def fnTreeLegsWrong : ChangeSpec := { name := "fnTreeLegs", fn := fun _ => fun
  | [d] => { results := [.lit (.bool false)], args := [d] }
  | _ => none }
def FnTreeLegsWrongFalsely : Prop := fnTreeLegsRow.holds Tryd.pinned (OpenSpec.ofChange fnTreeLegsWrong)

/-- 'laws.FnTreeWay': WHATEVER THE INPUT: true; the input reads as it did. -/
def fnTreeWaySpec : ChangeSpec := { name := "fnTreeWay", fn := fun _ => fun
  | [d] => { results := [.lit (.bool true)], args := [d] }
  | _ => none }
def fnTreeWayRow : OpenClaim := { program := "ytgcloaimolajjaadoor", sum := "908f11cb0cc431b6ddc32386b891fb0cff02657f83c98686c6e5a69a4efff2fa", func := "loop.example/cavesurvey/laws.FnTreeWay", spec := "fnTreeWay", recurses := true, named := ["internal/strconv.uint64pow10", "math/bits.deBruijn32tab", "math/bits.deBruijn64tab"], apart := false, laid := [("math/bits.deBruijn32tab", laid_math_bits_deBruijn32tab), ("math/bits.deBruijn64tab", laid_math_bits_deBruijn64tab), ("internal/strconv.uint64pow10", laid_internal_strconv_uint64pow10)] }
def FnTreeWaySaid : Prop := fnTreeWayRow.holds Tryd.pinned (OpenSpec.ofChange fnTreeWaySpec)

/-- ITS FALSE NEIGHBOUR: 'it returns false'. Refute it at one input. -/
def fnTreeWayWrong : ChangeSpec := { name := "fnTreeWay", fn := fun _ => fun
  | [d] => { results := [.lit (.bool false)], args := [d] }
  | _ => none }
def FnTreeWayWrongFalsely : Prop := fnTreeWayRow.holds Tryd.pinned (OpenSpec.ofChange fnTreeWayWrong)

/-- 'laws.FnTreePlace': WHATEVER THE INPUT: true; the input reads as it did. -/
def fnTreePlaceSpec : ChangeSpec := { name := "fnTreePlace", fn := fun _ => fun
  | [d] => { results := [.lit (.bool true)], args := [d] }
  | _ => none }
def fnTreePlaceRow : OpenClaim := { program := "ytgcloaimolajjaadoor", sum := "908f11cb0cc431b6ddc32386b891fb0cff02657f83c98686c6e5a69a4efff2fa", func := "loop.example/cavesurvey/laws.FnTreePlace", spec := "fnTreePlace", recurses := true, named := ["internal/strconv.uint64pow10", "math/bits.deBruijn32tab", "math/bits.deBruijn64tab"], apart := false, laid := [("math/bits.deBruijn32tab", laid_math_bits_deBruijn32tab), ("math/bits.deBruijn64tab", laid_math_bits_deBruijn64tab), ("internal/strconv.uint64pow10", laid_internal_strconv_uint64pow10)] }
def FnTreePlaceSaid : Prop := fnTreePlaceRow.holds Tryd.pinned (OpenSpec.ofChange fnTreePlaceSpec)

/-- ITS FALSE NEIGHBOUR: 'it returns false'. Refute it at one input. -/
def fnTreePlaceWrong : ChangeSpec := { name := "fnTreePlace", fn := fun _ => fun
  | [d] => { results := [.lit (.bool false)], args := [d] }
  | _ => none }
def FnTreePlaceWrongFalsely : Prop := fnTreePlaceRow.holds Tryd.pinned (OpenSpec.ofChange fnTreePlaceWrong)

/-- 'laws.FnMisclosure': WHATEVER THE INPUT: true; the input reads as it did. -/
def fnMisclosureSpec : ChangeSpec := { name := "fnMisclosure", fn := fun _ => fun
  | [d] => { results := [.lit (.bool true)], args := [d] }
  | _ => none }
def fnMisclosureRow : OpenClaim := { program := "ytgcloaimolajjaadoor", sum := "908f11cb0cc431b6ddc32386b891fb0cff02657f83c98686c6e5a69a4efff2fa", func := "loop.example/cavesurvey/laws.FnMisclosure", spec := "fnMisclosure", recurses := true, named := ["internal/strconv.uint64pow10", "math/bits.deBruijn32tab", "math/bits.deBruijn64tab"], apart := false, laid := [("math/bits.deBruijn32tab", laid_math_bits_deBruijn32tab), ("math/bits.deBruijn64tab", laid_math_bits_deBruijn64tab), ("internal/strconv.uint64pow10", laid_internal_strconv_uint64pow10)] }
def FnMisclosureSaid : Prop := fnMisclosureRow.holds Tryd.pinned (OpenSpec.ofChange fnMisclosureSpec)

/-- ITS FALSE NEIGHBOUR: 'it returns false'. Refute it at one input. -/
def fnMisclosureWrong : ChangeSpec := { name := "fnMisclosure", fn := fun _ => fun
  | [d] => { results := [.lit (.bool false)], args := [d] }
  | _ => none }
def FnMisclosureWrongFalsely : Prop := fnMisclosureRow.holds Tryd.pinned (OpenSpec.ofChange fnMisclosureWrong)

/-- 'laws.FnCloses': WHATEVER THE INPUT: true; the input reads as it did. -/
def fnClosesSpec : ChangeSpec := { name := "fnCloses", fn := fun _ => fun
  | [d] => { results := [.lit (.bool true)], args := [d] }
  | _ => none }
def fnClosesRow : OpenClaim := { program := "ytgcloaimolajjaadoor", sum := "908f11cb0cc431b6ddc32386b891fb0cff02657f83c98686c6e5a69a4efff2fa", func := "loop.example/cavesurvey/laws.FnCloses", spec := "fnCloses", recurses := true, named := ["internal/strconv.uint64pow10", "math/bits.deBruijn32tab", "math/bits.deBruijn64tab"], apart := false, laid := [("math/bits.deBruijn32tab", laid_math_bits_deBruijn32tab), ("math/bits.deBruijn64tab", laid_math_bits_deBruijn64tab), ("internal/strconv.uint64pow10", laid_internal_strconv_uint64pow10)] }
def FnClosesSaid : Prop := fnClosesRow.holds Tryd.pinned (OpenSpec.ofChange fnClosesSpec)

/-- ITS FALSE NEIGHBOUR: 'it returns false'. Refute it at one input. -/
def fnClosesWrong : ChangeSpec := { name := "fnCloses", fn := fun _ => fun
  | [d] => { results := [.lit (.bool false)], args := [d] }
  | _ => none }
def FnClosesWrongFalsely : Prop := fnClosesRow.holds Tryd.pinned (OpenSpec.ofChange fnClosesWrong)

/-- 'laws.FnStepsWay': WHATEVER THE INPUT: true; the input reads as it did. -/
def fnStepsWaySpec : ChangeSpec := { name := "fnStepsWay", fn := fun _ => fun
  | [d] => { results := [.lit (.bool true)], args := [d] }
  | _ => none }
def fnStepsWayRow : OpenClaim := { program := "ytgcloaimolajjaadoor", sum := "908f11cb0cc431b6ddc32386b891fb0cff02657f83c98686c6e5a69a4efff2fa", func := "loop.example/cavesurvey/laws.FnStepsWay", spec := "fnStepsWay", recurses := true, named := ["internal/strconv.uint64pow10", "math/bits.deBruijn32tab", "math/bits.deBruijn64tab"], apart := false, laid := [("math/bits.deBruijn32tab", laid_math_bits_deBruijn32tab), ("math/bits.deBruijn64tab", laid_math_bits_deBruijn64tab), ("internal/strconv.uint64pow10", laid_internal_strconv_uint64pow10)] }
def FnStepsWaySaid : Prop := fnStepsWayRow.holds Tryd.pinned (OpenSpec.ofChange fnStepsWaySpec)

/-- ITS FALSE NEIGHBOUR: 'it returns false'. Refute it at one input. -/
def fnStepsWayWrong : ChangeSpec := { name := "fnStepsWay", fn := fun _ => fun
  | [d] => { results := [.lit (.bool false)], args := [d] }
  | _ => none }
def FnStepsWayWrongFalsely : Prop := fnStepsWayRow.holds Tryd.pinned (OpenSpec.ofChange fnStepsWayWrong)

/-- 'laws.FnLoopSteps': WHATEVER THE INPUT: true; the input reads as it did. -/
def fnLoopStepsSpec : ChangeSpec := { name := "fnLoopSteps", fn := fun _ => fun
  | [d] => { results := [.lit (.bool true)], args := [d] }
  | _ => none }
def fnLoopStepsRow : OpenClaim := { program := "ytgcloaimolajjaadoor", sum := "908f11cb0cc431b6ddc32386b891fb0cff02657f83c98686c6e5a69a4efff2fa", func := "loop.example/cavesurvey/laws.FnLoopSteps", spec := "fnLoopSteps", recurses := true, named := ["internal/strconv.uint64pow10", "math/bits.deBruijn32tab", "math/bits.deBruijn64tab"], apart := false, laid := [("math/bits.deBruijn32tab", laid_math_bits_deBruijn32tab), ("math/bits.deBruijn64tab", laid_math_bits_deBruijn64tab), ("internal/strconv.uint64pow10", laid_internal_strconv_uint64pow10)] }
def FnLoopStepsSaid : Prop := fnLoopStepsRow.holds Tryd.pinned (OpenSpec.ofChange fnLoopStepsSpec)

/-- ITS FALSE NEIGHBOUR: 'it returns false'. Refute it at one input. -/
def fnLoopStepsWrong : ChangeSpec := { name := "fnLoopSteps", fn := fun _ => fun
  | [d] => { results := [.lit (.bool false)], args := [d] }
  | _ => none }
def FnLoopStepsWrongFalsely : Prop := fnLoopStepsRow.holds Tryd.pinned (OpenSpec.ofChange fnLoopStepsWrong)

/- THE SECOND FORM. 'bulk': how many values and letters a reading holds, each counted each time it is reached (what is shared counts as often as it is met; a slice's spare places count too). A statement '..UptoSaid' is the law's where the arguments, and the package variables that the reading takes, are together of bulk at most 1048576: NARROWER than '..Said'. Prove '..Said' where nothing that the law and all that it calls make is longer than what came in: it says more and counts as full. Else prove '..UptoSaid'. A law counts once. -/
mutual
def uptoBulk {H : Type} : DataW H → Nat
  | .lit (.string bytes) => bytes.length + 1
  | .lit _ => 1
  | .nil => 1
  | .ptr d => uptoBulk d + 1
  | .slice elems spare => uptoBulkAll elems + uptoBulkAll spare + 1
  | .agg parts => uptoBulkAll parts + 1
  | .iface _ d => uptoBulk d + 1
  | .map entries => uptoBulkEntries entries + 1
  | .held _ => 1
def uptoBulkAll {H : Type} : List (DataW H) → Nat
  | [] => 0
  | d :: r => uptoBulk d + uptoBulkAll r
def uptoBulkEntries {H : Type} : List (Lit × DataW H) → Nat
  | [] => 0
  | x :: r => uptoBulkEntry x + uptoBulkEntries r
def uptoBulkEntry {H : Type} : Lit × DataW H → Nat
  | (.string bytes, d) => bytes.length + uptoBulk d + 1
  | (_, d) => uptoBulk d + 1
 end
def uptoSmall : (H : Type) → List (DataW H) → Bool := fun _ ds => decide (uptoBulkAll ds ≤ 1048576)
def OpenSpec.upto (s : _root_.Go.ChangeSpec) : _root_.Go.OpenSpec := { _root_.Go.OpenSpec.ofChange s with cond := some uptoSmall }

/-- 'laws.FnSurveyValid', WHERE WHAT IT READS IS OF BULK AT MOST 1048576: true; the input reads as it did. -/
def fnSurveyValidUptoRow : OpenClaim := { program := "ytgcloaimolajjaadoor", sum := "908f11cb0cc431b6ddc32386b891fb0cff02657f83c98686c6e5a69a4efff2fa", func := "loop.example/cavesurvey/laws.FnSurveyValid", spec := "fnSurveyValid", recurses := true, named := ["internal/strconv.uint64pow10", "math/bits.deBruijn32tab", "math/bits.deBruijn64tab"], apart := false, laid := [("math/bits.deBruijn32tab", laid_math_bits_deBruijn32tab), ("math/bits.deBruijn64tab", laid_math_bits_deBruijn64tab), ("internal/strconv.uint64pow10", laid_internal_strconv_uint64pow10)], narrowed := true }
def FnSurveyValidUptoSaid : Prop := fnSurveyValidUptoRow.holds Tryd.pinned (OpenSpec.upto fnSurveyValidSpec)

/-- 'laws.FnParts', WHERE WHAT IT READS IS OF BULK AT MOST 1048576: true; the input reads as it did. -/
def fnPartsUptoRow : OpenClaim := { program := "ytgcloaimolajjaadoor", sum := "908f11cb0cc431b6ddc32386b891fb0cff02657f83c98686c6e5a69a4efff2fa", func := "loop.example/cavesurvey/laws.FnParts", spec := "fnParts", recurses := true, named := ["internal/strconv.uint64pow10", "math/bits.deBruijn32tab", "math/bits.deBruijn64tab"], apart := false, laid := [("math/bits.deBruijn32tab", laid_math_bits_deBruijn32tab), ("math/bits.deBruijn64tab", laid_math_bits_deBruijn64tab), ("internal/strconv.uint64pow10", laid_internal_strconv_uint64pow10)], narrowed := true }
def FnPartsUptoSaid : Prop := fnPartsUptoRow.holds Tryd.pinned (OpenSpec.upto fnPartsSpec)

/-- 'laws.FnStepsOk', WHERE WHAT IT READS IS OF BULK AT MOST 1048576: true; the input reads as it did. -/
def fnStepsOkUptoRow : OpenClaim := { program := "ytgcloaimolajjaadoor", sum := "908f11cb0cc431b6ddc32386b891fb0cff02657f83c98686c6e5a69a4efff2fa", func := "loop.example/cavesurvey/laws.FnStepsOk", spec := "fnStepsOk", recurses := true, named := ["internal/strconv.uint64pow10", "math/bits.deBruijn32tab", "math/bits.deBruijn64tab"], apart := false, laid := [("math/bits.deBruijn32tab", laid_math_bits_deBruijn32tab), ("math/bits.deBruijn64tab", laid_math_bits_deBruijn64tab), ("internal/strconv.uint64pow10", laid_internal_strconv_uint64pow10)], narrowed := true }
def FnStepsOkUptoSaid : Prop := fnStepsOkUptoRow.holds Tryd.pinned (OpenSpec.upto fnStepsOkSpec)

/-- 'laws.FnPartsMany', WHERE WHAT IT READS IS OF BULK AT MOST 1048576: true; the input reads as it did. -/
def fnPartsManyUptoRow : OpenClaim := { program := "ytgcloaimolajjaadoor", sum := "908f11cb0cc431b6ddc32386b891fb0cff02657f83c98686c6e5a69a4efff2fa", func := "loop.example/cavesurvey/laws.FnPartsMany", spec := "fnPartsMany", recurses := true, named := ["internal/strconv.uint64pow10", "math/bits.deBruijn32tab", "math/bits.deBruijn64tab"], apart := false, laid := [("math/bits.deBruijn32tab", laid_math_bits_deBruijn32tab), ("math/bits.deBruijn64tab", laid_math_bits_deBruijn64tab), ("internal/strconv.uint64pow10", laid_internal_strconv_uint64pow10)], narrowed := true }
def FnPartsManyUptoSaid : Prop := fnPartsManyUptoRow.holds Tryd.pinned (OpenSpec.upto fnPartsManySpec)

/-- 'laws.FnLoopsMany', WHERE WHAT IT READS IS OF BULK AT MOST 1048576: true; the input reads as it did. -/
def fnLoopsManyUptoRow : OpenClaim := { program := "ytgcloaimolajjaadoor", sum := "908f11cb0cc431b6ddc32386b891fb0cff02657f83c98686c6e5a69a4efff2fa", func := "loop.example/cavesurvey/laws.FnLoopsMany", spec := "fnLoopsMany", recurses := true, named := ["internal/strconv.uint64pow10", "math/bits.deBruijn32tab", "math/bits.deBruijn64tab"], apart := false, laid := [("math/bits.deBruijn32tab", laid_math_bits_deBruijn32tab), ("math/bits.deBruijn64tab", laid_math_bits_deBruijn64tab), ("internal/strconv.uint64pow10", laid_internal_strconv_uint64pow10)], narrowed := true }
def FnLoopsManyUptoSaid : Prop := fnLoopsManyUptoRow.holds Tryd.pinned (OpenSpec.upto fnLoopsManySpec)

/-- 'laws.FnTreeLegs', WHERE WHAT IT READS IS OF BULK AT MOST 1048576: true; the input reads as it did. -/
def fnTreeLegsUptoRow : OpenClaim := { program := "ytgcloaimolajjaadoor", sum := "908f11cb0cc431b6ddc32386b891fb0cff02657f83c98686c6e5a69a4efff2fa", func := "loop.example/cavesurvey/laws.FnTreeLegs", spec := "fnTreeLegs", recurses := true, named := ["internal/strconv.uint64pow10", "math/bits.deBruijn32tab", "math/bits.deBruijn64tab"], apart := false, laid := [("math/bits.deBruijn32tab", laid_math_bits_deBruijn32tab), ("math/bits.deBruijn64tab", laid_math_bits_deBruijn64tab), ("internal/strconv.uint64pow10", laid_internal_strconv_uint64pow10)], narrowed := true }
def FnTreeLegsUptoSaid : Prop := fnTreeLegsUptoRow.holds Tryd.pinned (OpenSpec.upto fnTreeLegsSpec)

/-- 'laws.FnTreeWay', WHERE WHAT IT READS IS OF BULK AT MOST 1048576: true; the input reads as it did. -/
def fnTreeWayUptoRow : OpenClaim := { program := "ytgcloaimolajjaadoor", sum := "908f11cb0cc431b6ddc32386b891fb0cff02657f83c98686c6e5a69a4efff2fa", func := "loop.example/cavesurvey/laws.FnTreeWay", spec := "fnTreeWay", recurses := true, named := ["internal/strconv.uint64pow10", "math/bits.deBruijn32tab", "math/bits.deBruijn64tab"], apart := false, laid := [("math/bits.deBruijn32tab", laid_math_bits_deBruijn32tab), ("math/bits.deBruijn64tab", laid_math_bits_deBruijn64tab), ("internal/strconv.uint64pow10", laid_internal_strconv_uint64pow10)], narrowed := true }
def FnTreeWayUptoSaid : Prop := fnTreeWayUptoRow.holds Tryd.pinned (OpenSpec.upto fnTreeWaySpec)

/-- 'laws.FnTreePlace', WHERE WHAT IT READS IS OF BULK AT MOST 1048576: true; the input reads as it did. -/
def fnTreePlaceUptoRow : OpenClaim := { program := "ytgcloaimolajjaadoor", sum := "908f11cb0cc431b6ddc32386b891fb0cff02657f83c98686c6e5a69a4efff2fa", func := "loop.example/cavesurvey/laws.FnTreePlace", spec := "fnTreePlace", recurses := true, named := ["internal/strconv.uint64pow10", "math/bits.deBruijn32tab", "math/bits.deBruijn64tab"], apart := false, laid := [("math/bits.deBruijn32tab", laid_math_bits_deBruijn32tab), ("math/bits.deBruijn64tab", laid_math_bits_deBruijn64tab), ("internal/strconv.uint64pow10", laid_internal_strconv_uint64pow10)], narrowed := true }
def FnTreePlaceUptoSaid : Prop := fnTreePlaceUptoRow.holds Tryd.pinned (OpenSpec.upto fnTreePlaceSpec)

/-- 'laws.FnMisclosure', WHERE WHAT IT READS IS OF BULK AT MOST 1048576: true; the input reads as it did. -/
def fnMisclosureUptoRow : OpenClaim := { program := "ytgcloaimolajjaadoor", sum := "908f11cb0cc431b6ddc32386b891fb0cff02657f83c98686c6e5a69a4efff2fa", func := "loop.example/cavesurvey/laws.FnMisclosure", spec := "fnMisclosure", recurses := true, named := ["internal/strconv.uint64pow10", "math/bits.deBruijn32tab", "math/bits.deBruijn64tab"], apart := false, laid := [("math/bits.deBruijn32tab", laid_math_bits_deBruijn32tab), ("math/bits.deBruijn64tab", laid_math_bits_deBruijn64tab), ("internal/strconv.uint64pow10", laid_internal_strconv_uint64pow10)], narrowed := true }
def FnMisclosureUptoSaid : Prop := fnMisclosureUptoRow.holds Tryd.pinned (OpenSpec.upto fnMisclosureSpec)

/-- 'laws.FnCloses', WHERE WHAT IT READS IS OF BULK AT MOST 1048576: true; the input reads as it did. -/
def fnClosesUptoRow : OpenClaim := { program := "ytgcloaimolajjaadoor", sum := "908f11cb0cc431b6ddc32386b891fb0cff02657f83c98686c6e5a69a4efff2fa", func := "loop.example/cavesurvey/laws.FnCloses", spec := "fnCloses", recurses := true, named := ["internal/strconv.uint64pow10", "math/bits.deBruijn32tab", "math/bits.deBruijn64tab"], apart := false, laid := [("math/bits.deBruijn32tab", laid_math_bits_deBruijn32tab), ("math/bits.deBruijn64tab", laid_math_bits_deBruijn64tab), ("internal/strconv.uint64pow10", laid_internal_strconv_uint64pow10)], narrowed := true }
def FnClosesUptoSaid : Prop := fnClosesUptoRow.holds Tryd.pinned (OpenSpec.upto fnClosesSpec)

/-- 'laws.FnStepsWay', WHERE WHAT IT READS IS OF BULK AT MOST 1048576: true; the input reads as it did. -/
def fnStepsWayUptoRow : OpenClaim := { program := "ytgcloaimolajjaadoor", sum := "908f11cb0cc431b6ddc32386b891fb0cff02657f83c98686c6e5a69a4efff2fa", func := "loop.example/cavesurvey/laws.FnStepsWay", spec := "fnStepsWay", recurses := true, named := ["internal/strconv.uint64pow10", "math/bits.deBruijn32tab", "math/bits.deBruijn64tab"], apart := false, laid := [("math/bits.deBruijn32tab", laid_math_bits_deBruijn32tab), ("math/bits.deBruijn64tab", laid_math_bits_deBruijn64tab), ("internal/strconv.uint64pow10", laid_internal_strconv_uint64pow10)], narrowed := true }
def FnStepsWayUptoSaid : Prop := fnStepsWayUptoRow.holds Tryd.pinned (OpenSpec.upto fnStepsWaySpec)

/-- 'laws.FnLoopSteps', WHERE WHAT IT READS IS OF BULK AT MOST 1048576: true; the input reads as it did. -/
def fnLoopStepsUptoRow : OpenClaim := { program := "ytgcloaimolajjaadoor", sum := "908f11cb0cc431b6ddc32386b891fb0cff02657f83c98686c6e5a69a4efff2fa", func := "loop.example/cavesurvey/laws.FnLoopSteps", spec := "fnLoopSteps", recurses := true, named := ["internal/strconv.uint64pow10", "math/bits.deBruijn32tab", "math/bits.deBruijn64tab"], apart := false, laid := [("math/bits.deBruijn32tab", laid_math_bits_deBruijn32tab), ("math/bits.deBruijn64tab", laid_math_bits_deBruijn64tab), ("internal/strconv.uint64pow10", laid_internal_strconv_uint64pow10)], narrowed := true }
def FnLoopStepsUptoSaid : Prop := fnLoopStepsUptoRow.holds Tryd.pinned (OpenSpec.upto fnLoopStepsSpec)

end Rows
end Go.Proofs.YtgcloaimolajjaaDoor
