/-
  DERIVED. GIVEN WITH THE SEED: THE CARDS: each row of YtgcloaimolajjaaDoorRows.lean that lists a variable, with what it lists TIED to the program's text (the seventh form; the later family's looks); each row that meets fmt, with fmt's text TOLD by the authors' own Lean function (tested against real Go, not proved from fmt's source: count such statements apart). THE CARD IS WHAT COUNTS. Prove the row's statement (the work); the ties are given (YtgcloaimolajjaaDoorTie.lean); close each card by the builder's one call (the guide's Derived/Test/ToyasCard.lean, 'card_holds'). Laid BY PROGRAM, IN A SANDBOX (cutbox-door.mjs). By AI agents, Wed Nov 11 2026. No macro, syntax, notation, axiom, sorry.
-/
import Derived.Test.YtgcloaimolajjaaDoorRows
import GoSem.ClaimSeven
namespace Go.Proofs.YtgcloaimolajjaaDoor
namespace Rows

/-- THE TIED CARD OF 'laws.FnSurveyValid'. -/
def fnSurveyValidCard : Claim7 := { stood := { row := fnSurveyValidRow, standIns := [], harness := (true, "5313509a7b2f7fd659cd2a395d04fd04358ba73dbeae387972caee24b689d2fa"), looks := false }, kinds := [], alts := [], laidByText := true, laidKinds := [.data, .data, .data], laidTests := true, laidLooks := .later }
def FnSurveyValidCardSaid : Prop := Claim7.holds Tryd.pinned (.plain (OpenSpec.ofChange fnSurveyValidSpec)) fnSurveyValidCard

/-- THE TIED CARD OF 'laws.FnParts'. -/
def fnPartsCard : Claim7 := { stood := { row := fnPartsRow, standIns := [], harness := (true, "5313509a7b2f7fd659cd2a395d04fd04358ba73dbeae387972caee24b689d2fa"), looks := false }, kinds := [], alts := [], laidByText := true, laidKinds := [.data, .data, .data], laidTests := true, laidLooks := .later }
def FnPartsCardSaid : Prop := Claim7.holds Tryd.pinned (.plain (OpenSpec.ofChange fnPartsSpec)) fnPartsCard

/-- THE TIED CARD OF 'laws.FnStepsOk'. -/
def fnStepsOkCard : Claim7 := { stood := { row := fnStepsOkRow, standIns := [], harness := (true, "5313509a7b2f7fd659cd2a395d04fd04358ba73dbeae387972caee24b689d2fa"), looks := false }, kinds := [], alts := [], laidByText := true, laidKinds := [.data, .data, .data], laidTests := true, laidLooks := .later }
def FnStepsOkCardSaid : Prop := Claim7.holds Tryd.pinned (.plain (OpenSpec.ofChange fnStepsOkSpec)) fnStepsOkCard

/-- THE TIED CARD OF 'laws.FnPartsMany'. -/
def fnPartsManyCard : Claim7 := { stood := { row := fnPartsManyRow, standIns := [], harness := (true, "5313509a7b2f7fd659cd2a395d04fd04358ba73dbeae387972caee24b689d2fa"), looks := false }, kinds := [], alts := [], laidByText := true, laidKinds := [.data, .data, .data], laidTests := true, laidLooks := .later }
def FnPartsManyCardSaid : Prop := Claim7.holds Tryd.pinned (.plain (OpenSpec.ofChange fnPartsManySpec)) fnPartsManyCard

/-- THE TIED CARD OF 'laws.FnLoopsMany'. -/
def fnLoopsManyCard : Claim7 := { stood := { row := fnLoopsManyRow, standIns := [], harness := (true, "5313509a7b2f7fd659cd2a395d04fd04358ba73dbeae387972caee24b689d2fa"), looks := false }, kinds := [], alts := [], laidByText := true, laidKinds := [.data, .data, .data], laidTests := true, laidLooks := .later }
def FnLoopsManyCardSaid : Prop := Claim7.holds Tryd.pinned (.plain (OpenSpec.ofChange fnLoopsManySpec)) fnLoopsManyCard

/-- THE TIED CARD OF 'laws.FnTreeLegs'. -/
def fnTreeLegsCard : Claim7 := { stood := { row := fnTreeLegsRow, standIns := [], harness := (true, "5313509a7b2f7fd659cd2a395d04fd04358ba73dbeae387972caee24b689d2fa"), looks := false }, kinds := [], alts := [], laidByText := true, laidKinds := [.data, .data, .data], laidTests := true, laidLooks := .later }
def FnTreeLegsCardSaid : Prop := Claim7.holds Tryd.pinned (.plain (OpenSpec.ofChange fnTreeLegsSpec)) fnTreeLegsCard

/-- THE TIED CARD OF 'laws.FnTreeWay'. -/
def fnTreeWayCard : Claim7 := { stood := { row := fnTreeWayRow, standIns := [], harness := (true, "5313509a7b2f7fd659cd2a395d04fd04358ba73dbeae387972caee24b689d2fa"), looks := false }, kinds := [], alts := [], laidByText := true, laidKinds := [.data, .data, .data], laidTests := true, laidLooks := .later }
def FnTreeWayCardSaid : Prop := Claim7.holds Tryd.pinned (.plain (OpenSpec.ofChange fnTreeWaySpec)) fnTreeWayCard

/-- THE TIED CARD OF 'laws.FnTreePlace'. -/
def fnTreePlaceCard : Claim7 := { stood := { row := fnTreePlaceRow, standIns := [], harness := (true, "5313509a7b2f7fd659cd2a395d04fd04358ba73dbeae387972caee24b689d2fa"), looks := false }, kinds := [], alts := [], laidByText := true, laidKinds := [.data, .data, .data], laidTests := true, laidLooks := .later }
def FnTreePlaceCardSaid : Prop := Claim7.holds Tryd.pinned (.plain (OpenSpec.ofChange fnTreePlaceSpec)) fnTreePlaceCard

/-- THE TIED CARD OF 'laws.FnMisclosure'. -/
def fnMisclosureCard : Claim7 := { stood := { row := fnMisclosureRow, standIns := [], harness := (true, "5313509a7b2f7fd659cd2a395d04fd04358ba73dbeae387972caee24b689d2fa"), looks := false }, kinds := [], alts := [], laidByText := true, laidKinds := [.data, .data, .data], laidTests := true, laidLooks := .later }
def FnMisclosureCardSaid : Prop := Claim7.holds Tryd.pinned (.plain (OpenSpec.ofChange fnMisclosureSpec)) fnMisclosureCard

/-- THE TIED CARD OF 'laws.FnCloses'. -/
def fnClosesCard : Claim7 := { stood := { row := fnClosesRow, standIns := [], harness := (true, "5313509a7b2f7fd659cd2a395d04fd04358ba73dbeae387972caee24b689d2fa"), looks := false }, kinds := [], alts := [], laidByText := true, laidKinds := [.data, .data, .data], laidTests := true, laidLooks := .later }
def FnClosesCardSaid : Prop := Claim7.holds Tryd.pinned (.plain (OpenSpec.ofChange fnClosesSpec)) fnClosesCard

/-- THE TIED CARD OF 'laws.FnStepsWay'. -/
def fnStepsWayCard : Claim7 := { stood := { row := fnStepsWayRow, standIns := [], harness := (true, "5313509a7b2f7fd659cd2a395d04fd04358ba73dbeae387972caee24b689d2fa"), looks := false }, kinds := [], alts := [], laidByText := true, laidKinds := [.data, .data, .data], laidTests := true, laidLooks := .later }
def FnStepsWayCardSaid : Prop := Claim7.holds Tryd.pinned (.plain (OpenSpec.ofChange fnStepsWaySpec)) fnStepsWayCard

/-- THE TIED CARD OF 'laws.FnLoopSteps'. -/
def fnLoopStepsCard : Claim7 := { stood := { row := fnLoopStepsRow, standIns := [], harness := (true, "5313509a7b2f7fd659cd2a395d04fd04358ba73dbeae387972caee24b689d2fa"), looks := false }, kinds := [], alts := [], laidByText := true, laidKinds := [.data, .data, .data], laidTests := true, laidLooks := .later }
def FnLoopStepsCardSaid : Prop := Claim7.holds Tryd.pinned (.plain (OpenSpec.ofChange fnLoopStepsSpec)) fnLoopStepsCard

/-- THE SECOND FORM's CARD OF 'laws.FnSurveyValid'. -/
def fnSurveyValidUptoCard : Claim7 := { stood := { row := fnSurveyValidUptoRow, standIns := [], harness := (true, "5313509a7b2f7fd659cd2a395d04fd04358ba73dbeae387972caee24b689d2fa"), looks := false }, kinds := [], alts := [], laidByText := true, laidKinds := [.data, .data, .data], laidTests := true, laidLooks := .later }
def FnSurveyValidUptoCardSaid : Prop := Claim7.holds Tryd.pinned (.plain (OpenSpec.upto fnSurveyValidSpec)) fnSurveyValidUptoCard

/-- THE SECOND FORM's CARD OF 'laws.FnParts'. -/
def fnPartsUptoCard : Claim7 := { stood := { row := fnPartsUptoRow, standIns := [], harness := (true, "5313509a7b2f7fd659cd2a395d04fd04358ba73dbeae387972caee24b689d2fa"), looks := false }, kinds := [], alts := [], laidByText := true, laidKinds := [.data, .data, .data], laidTests := true, laidLooks := .later }
def FnPartsUptoCardSaid : Prop := Claim7.holds Tryd.pinned (.plain (OpenSpec.upto fnPartsSpec)) fnPartsUptoCard

/-- THE SECOND FORM's CARD OF 'laws.FnStepsOk'. -/
def fnStepsOkUptoCard : Claim7 := { stood := { row := fnStepsOkUptoRow, standIns := [], harness := (true, "5313509a7b2f7fd659cd2a395d04fd04358ba73dbeae387972caee24b689d2fa"), looks := false }, kinds := [], alts := [], laidByText := true, laidKinds := [.data, .data, .data], laidTests := true, laidLooks := .later }
def FnStepsOkUptoCardSaid : Prop := Claim7.holds Tryd.pinned (.plain (OpenSpec.upto fnStepsOkSpec)) fnStepsOkUptoCard

/-- THE SECOND FORM's CARD OF 'laws.FnPartsMany'. -/
def fnPartsManyUptoCard : Claim7 := { stood := { row := fnPartsManyUptoRow, standIns := [], harness := (true, "5313509a7b2f7fd659cd2a395d04fd04358ba73dbeae387972caee24b689d2fa"), looks := false }, kinds := [], alts := [], laidByText := true, laidKinds := [.data, .data, .data], laidTests := true, laidLooks := .later }
def FnPartsManyUptoCardSaid : Prop := Claim7.holds Tryd.pinned (.plain (OpenSpec.upto fnPartsManySpec)) fnPartsManyUptoCard

/-- THE SECOND FORM's CARD OF 'laws.FnLoopsMany'. -/
def fnLoopsManyUptoCard : Claim7 := { stood := { row := fnLoopsManyUptoRow, standIns := [], harness := (true, "5313509a7b2f7fd659cd2a395d04fd04358ba73dbeae387972caee24b689d2fa"), looks := false }, kinds := [], alts := [], laidByText := true, laidKinds := [.data, .data, .data], laidTests := true, laidLooks := .later }
def FnLoopsManyUptoCardSaid : Prop := Claim7.holds Tryd.pinned (.plain (OpenSpec.upto fnLoopsManySpec)) fnLoopsManyUptoCard

/-- THE SECOND FORM's CARD OF 'laws.FnTreeLegs'. -/
def fnTreeLegsUptoCard : Claim7 := { stood := { row := fnTreeLegsUptoRow, standIns := [], harness := (true, "5313509a7b2f7fd659cd2a395d04fd04358ba73dbeae387972caee24b689d2fa"), looks := false }, kinds := [], alts := [], laidByText := true, laidKinds := [.data, .data, .data], laidTests := true, laidLooks := .later }
def FnTreeLegsUptoCardSaid : Prop := Claim7.holds Tryd.pinned (.plain (OpenSpec.upto fnTreeLegsSpec)) fnTreeLegsUptoCard

/-- THE SECOND FORM's CARD OF 'laws.FnTreeWay'. -/
def fnTreeWayUptoCard : Claim7 := { stood := { row := fnTreeWayUptoRow, standIns := [], harness := (true, "5313509a7b2f7fd659cd2a395d04fd04358ba73dbeae387972caee24b689d2fa"), looks := false }, kinds := [], alts := [], laidByText := true, laidKinds := [.data, .data, .data], laidTests := true, laidLooks := .later }
def FnTreeWayUptoCardSaid : Prop := Claim7.holds Tryd.pinned (.plain (OpenSpec.upto fnTreeWaySpec)) fnTreeWayUptoCard

/-- THE SECOND FORM's CARD OF 'laws.FnTreePlace'. -/
def fnTreePlaceUptoCard : Claim7 := { stood := { row := fnTreePlaceUptoRow, standIns := [], harness := (true, "5313509a7b2f7fd659cd2a395d04fd04358ba73dbeae387972caee24b689d2fa"), looks := false }, kinds := [], alts := [], laidByText := true, laidKinds := [.data, .data, .data], laidTests := true, laidLooks := .later }
def FnTreePlaceUptoCardSaid : Prop := Claim7.holds Tryd.pinned (.plain (OpenSpec.upto fnTreePlaceSpec)) fnTreePlaceUptoCard

/-- THE SECOND FORM's CARD OF 'laws.FnMisclosure'. -/
def fnMisclosureUptoCard : Claim7 := { stood := { row := fnMisclosureUptoRow, standIns := [], harness := (true, "5313509a7b2f7fd659cd2a395d04fd04358ba73dbeae387972caee24b689d2fa"), looks := false }, kinds := [], alts := [], laidByText := true, laidKinds := [.data, .data, .data], laidTests := true, laidLooks := .later }
def FnMisclosureUptoCardSaid : Prop := Claim7.holds Tryd.pinned (.plain (OpenSpec.upto fnMisclosureSpec)) fnMisclosureUptoCard

/-- THE SECOND FORM's CARD OF 'laws.FnCloses'. -/
def fnClosesUptoCard : Claim7 := { stood := { row := fnClosesUptoRow, standIns := [], harness := (true, "5313509a7b2f7fd659cd2a395d04fd04358ba73dbeae387972caee24b689d2fa"), looks := false }, kinds := [], alts := [], laidByText := true, laidKinds := [.data, .data, .data], laidTests := true, laidLooks := .later }
def FnClosesUptoCardSaid : Prop := Claim7.holds Tryd.pinned (.plain (OpenSpec.upto fnClosesSpec)) fnClosesUptoCard

/-- THE SECOND FORM's CARD OF 'laws.FnStepsWay'. -/
def fnStepsWayUptoCard : Claim7 := { stood := { row := fnStepsWayUptoRow, standIns := [], harness := (true, "5313509a7b2f7fd659cd2a395d04fd04358ba73dbeae387972caee24b689d2fa"), looks := false }, kinds := [], alts := [], laidByText := true, laidKinds := [.data, .data, .data], laidTests := true, laidLooks := .later }
def FnStepsWayUptoCardSaid : Prop := Claim7.holds Tryd.pinned (.plain (OpenSpec.upto fnStepsWaySpec)) fnStepsWayUptoCard

/-- THE SECOND FORM's CARD OF 'laws.FnLoopSteps'. -/
def fnLoopStepsUptoCard : Claim7 := { stood := { row := fnLoopStepsUptoRow, standIns := [], harness := (true, "5313509a7b2f7fd659cd2a395d04fd04358ba73dbeae387972caee24b689d2fa"), looks := false }, kinds := [], alts := [], laidByText := true, laidKinds := [.data, .data, .data], laidTests := true, laidLooks := .later }
def FnLoopStepsUptoCardSaid : Prop := Claim7.holds Tryd.pinned (.plain (OpenSpec.upto fnLoopStepsSpec)) fnLoopStepsUptoCard
end Rows
end Go.Proofs.YtgcloaimolajjaaDoor
