/-
  DERIVED. GIVEN WITH THE SEED: THE CARDS: each row of YtmdeekojioeomaaDoorRows.lean that lists a variable, with what it lists TIED to the program's text (the seventh form; the later family's looks); each row that meets fmt, with fmt's text TOLD by the authors' own Lean function (tested against real Go, not proved from fmt's source: count such statements apart). THE CARD IS WHAT COUNTS. Prove the row's statement (the work); the ties are given (YtmdeekojioeomaaDoorTie.lean); close each card by the builder's one call (the guide's Derived/Test/ToyasCard.lean, 'card_holds'). Laid BY PROGRAM, IN A SANDBOX (cutbox-door.mjs). By AI agents, Wed Nov 11 2026. No macro, syntax, notation, axiom, sorry.
-/
import Derived.Test.YtmdeekojioeomaaDoorRows
import GoSem.ClaimSeven
namespace Go.Proofs.YtmdeekojioeomaaDoor
namespace Rows

/-- THE TIED CARD OF 'laws.FnLegText'. -/
def fnLegTextCard : Claim7 := { stood := { row := fnLegTextRow, standIns := [], harness := (true, "3065d051b34b570a371f47b688d9812a94349bf265020d654e2dcdc11cba26dc"), looks := true }, kinds := [], alts := [], laidByText := true, laidKinds := [.data, .data, .data, .data, .sentinel, .sentinel, .pinned], laidTests := true, laidLooks := .later }
def FnLegTextCardSaid : Prop := Claim7.holds Tryd.pinned (.plain (OpenSpec.ofChange fnLegTextSpec)) fnLegTextCard

/-- THE TIED CARD OF 'laws.FnExactReadLeg'. -/
def fnExactReadLegCard : Claim7 := { stood := { row := fnExactReadLegRow, standIns := [], harness := (true, "3065d051b34b570a371f47b688d9812a94349bf265020d654e2dcdc11cba26dc"), looks := true }, kinds := [], alts := [], laidByText := true, laidKinds := [.data, .data, .data, .data, .sentinel, .sentinel, .pinned], laidTests := true, laidLooks := .later }
def FnExactReadLegCardSaid : Prop := Claim7.holds Tryd.pinned (.plain (OpenSpec.ofChange fnExactReadLegSpec)) fnExactReadLegCard

/-- THE TIED CARD OF 'laws.FnReadLeg'. -/
def fnReadLegCard : Claim7 := { stood := { row := fnReadLegRow, standIns := [], harness := (true, "3065d051b34b570a371f47b688d9812a94349bf265020d654e2dcdc11cba26dc"), looks := true }, kinds := [], alts := [], laidByText := true, laidKinds := [.data, .data, .data, .data, .sentinel, .sentinel, .pinned], laidTests := true, laidLooks := .later }
def FnReadLegCardSaid : Prop := Claim7.holds Tryd.pinned (.plain (OpenSpec.ofChange fnReadLegSpec)) fnReadLegCard

/-- THE TIED CARD OF 'laws.FnExactLegText'. -/
def fnExactLegTextCard : Claim7 := { stood := { row := fnExactLegTextRow, standIns := [], harness := (true, "3065d051b34b570a371f47b688d9812a94349bf265020d654e2dcdc11cba26dc"), looks := true }, kinds := [], alts := [], laidByText := true, laidKinds := [.data, .data, .data], laidTests := true, laidLooks := .later }
def FnExactLegTextCardSaid : Prop := Claim7.holds Tryd.pinned (.plain (OpenSpec.ofChange fnExactLegTextSpec)) fnExactLegTextCard

/-- THE TIED CARD OF 'laws.FnMatrixValid'. -/
def fnMatrixValidCard : Claim7 := { stood := { row := fnMatrixValidRow, standIns := [], harness := (true, "3065d051b34b570a371f47b688d9812a94349bf265020d654e2dcdc11cba26dc"), looks := true }, kinds := [], alts := [], laidByText := true, laidKinds := [.data, .data, .data], laidTests := true, laidLooks := .later }
def FnMatrixValidCardSaid : Prop := Claim7.holds Tryd.pinned (.plain (OpenSpec.ofChange fnMatrixValidSpec)) fnMatrixValidCard

/-- THE SECOND FORM's CARD OF 'laws.FnLegText'. -/
def fnLegTextUptoCard : Claim7 := { stood := { row := fnLegTextUptoRow, standIns := [], harness := (true, "3065d051b34b570a371f47b688d9812a94349bf265020d654e2dcdc11cba26dc"), looks := true }, kinds := [], alts := [], laidByText := true, laidKinds := [.data, .data, .data, .data, .sentinel, .sentinel, .pinned], laidTests := true, laidLooks := .later }
def FnLegTextUptoCardSaid : Prop := Claim7.holds Tryd.pinned (.plain (OpenSpec.upto fnLegTextSpec)) fnLegTextUptoCard

/-- THE SECOND FORM's CARD OF 'laws.FnExactReadLeg'. -/
def fnExactReadLegUptoCard : Claim7 := { stood := { row := fnExactReadLegUptoRow, standIns := [], harness := (true, "3065d051b34b570a371f47b688d9812a94349bf265020d654e2dcdc11cba26dc"), looks := true }, kinds := [], alts := [], laidByText := true, laidKinds := [.data, .data, .data, .data, .sentinel, .sentinel, .pinned], laidTests := true, laidLooks := .later }
def FnExactReadLegUptoCardSaid : Prop := Claim7.holds Tryd.pinned (.plain (OpenSpec.upto fnExactReadLegSpec)) fnExactReadLegUptoCard

/-- THE SECOND FORM's CARD OF 'laws.FnReadLeg'. -/
def fnReadLegUptoCard : Claim7 := { stood := { row := fnReadLegUptoRow, standIns := [], harness := (true, "3065d051b34b570a371f47b688d9812a94349bf265020d654e2dcdc11cba26dc"), looks := true }, kinds := [], alts := [], laidByText := true, laidKinds := [.data, .data, .data, .data, .sentinel, .sentinel, .pinned], laidTests := true, laidLooks := .later }
def FnReadLegUptoCardSaid : Prop := Claim7.holds Tryd.pinned (.plain (OpenSpec.upto fnReadLegSpec)) fnReadLegUptoCard

/-- THE SECOND FORM's CARD OF 'laws.FnExactLegText'. -/
def fnExactLegTextUptoCard : Claim7 := { stood := { row := fnExactLegTextUptoRow, standIns := [], harness := (true, "3065d051b34b570a371f47b688d9812a94349bf265020d654e2dcdc11cba26dc"), looks := true }, kinds := [], alts := [], laidByText := true, laidKinds := [.data, .data, .data], laidTests := true, laidLooks := .later }
def FnExactLegTextUptoCardSaid : Prop := Claim7.holds Tryd.pinned (.plain (OpenSpec.upto fnExactLegTextSpec)) fnExactLegTextUptoCard

/-- THE SECOND FORM's CARD OF 'laws.FnMatrixValid'. -/
def fnMatrixValidUptoCard : Claim7 := { stood := { row := fnMatrixValidUptoRow, standIns := [], harness := (true, "3065d051b34b570a371f47b688d9812a94349bf265020d654e2dcdc11cba26dc"), looks := true }, kinds := [], alts := [], laidByText := true, laidKinds := [.data, .data, .data], laidTests := true, laidLooks := .later }
def FnMatrixValidUptoCardSaid : Prop := Claim7.holds Tryd.pinned (.plain (OpenSpec.upto fnMatrixValidSpec)) fnMatrixValidUptoCard
end Rows
end Go.Proofs.YtmdeekojioeomaaDoor
