/-
  DERIVED. GIVEN WITH THE SEED: THE CARDS: each row of YtnccclpjcidmeaaGreatDoorRows.lean that lists a variable, with what it lists TIED to the program's text (the seventh form; the later family's looks); each row that meets fmt, with fmt's text TOLD by the authors' own Lean function (tested against real Go, not proved from fmt's source: count such statements apart). THE CARD IS WHAT COUNTS. Prove the row's statement (the work); the ties are given (YtnccclpjcidmeaaGreatDoorTie.lean); close each card by the builder's one call (the guide's Derived/Test/ToyasCard.lean, 'card_holds'). Laid BY PROGRAM, IN A SANDBOX (cutbox-door.mjs). By AI agents, Wed Nov 11 2026. No macro, syntax, notation, axiom, sorry.
-/
import Derived.Test.YtnccclpjcidmeaaGreatDoorRows
import GoSem.ClaimSeven
namespace Go.Proofs.YtnccclpjcidmeaaGreatDoor
namespace Rows

/-- THE TIED CARD OF 'unicodetextlaw11.MappingChecks'. -/
def mappingChecksCard : Claim7 := { stood := { row := mappingChecksRow, standIns := [], harness := (true, "3b385023e9a01facb46d85818f20cd648077539157ba849438f32f68e279209f"), looks := false }, kinds := [], alts := [], laidByText := true, laidKinds := [.data, .data, .pinned], laidTests := true, laidLooks := .later }
def MappingChecksCardSaid : Prop := Claim7.holds Tryz.pinned (.plain (OpenSpec.ofChange mappingChecksSpec)) mappingChecksCard

/-- THE TIED CARD OF 'unicodetextlaw11.MappingTexts'. -/
def mappingTextsCard : Claim7 := { stood := { row := mappingTextsRow, standIns := [], harness := (true, "3b385023e9a01facb46d85818f20cd648077539157ba849438f32f68e279209f"), looks := false }, kinds := [], alts := [], laidByText := true, laidKinds := [.data, .data, .pinned], laidTests := true, laidLooks := .later }
def MappingTextsCardSaid : Prop := Claim7.holds Tryz.pinned (.plain (OpenSpec.ofChange mappingTextsSpec)) mappingTextsCard

/-- THE TIED CARD OF 'unicodetextlaw11.MappingParses'. -/
def mappingParsesCard : Claim7 := { stood := { row := mappingParsesRow, standIns := [], harness := (true, "3b385023e9a01facb46d85818f20cd648077539157ba849438f32f68e279209f"), looks := false }, kinds := [], alts := [], laidByText := true, laidKinds := [.data, .data, .pinned], laidTests := true, laidLooks := .later }
def MappingParsesCardSaid : Prop := Claim7.holds Tryz.pinned (.plain (OpenSpec.ofChange mappingParsesSpec)) mappingParsesCard

/-- THE TIED CARD OF 'unicodetextlaw11.MappingBack'. -/
def mappingBackCard : Claim7 := { stood := { row := mappingBackRow, standIns := [], harness := (true, "3b385023e9a01facb46d85818f20cd648077539157ba849438f32f68e279209f"), looks := false }, kinds := [], alts := [], laidByText := true, laidKinds := [.data, .data, .pinned], laidTests := true, laidLooks := .later }
def MappingBackCardSaid : Prop := Claim7.holds Tryz.pinned (.plain (OpenSpec.ofChange mappingBackSpec)) mappingBackCard

/-- THE TIED CARD OF 'unicodetextlaw11.MappingApplies'. -/
def mappingAppliesCard : Claim7 := { stood := { row := mappingAppliesRow, standIns := [], harness := (true, "3b385023e9a01facb46d85818f20cd648077539157ba849438f32f68e279209f"), looks := false }, kinds := [], alts := [], laidByText := true, laidKinds := [.data, .data, .pinned], laidTests := true, laidLooks := .later }
def MappingAppliesCardSaid : Prop := Claim7.holds Tryz.pinned (.plain (OpenSpec.ofChange mappingAppliesSpec)) mappingAppliesCard

/-- THE TIED CARD OF 'unicodetextlaw11.MappingJoins'. -/
def mappingJoinsCard : Claim7 := { stood := { row := mappingJoinsRow, standIns := [], harness := (true, "3b385023e9a01facb46d85818f20cd648077539157ba849438f32f68e279209f"), looks := false }, kinds := [], alts := [], laidByText := true, laidKinds := [.data, .data, .pinned], laidTests := true, laidLooks := .later }
def MappingJoinsCardSaid : Prop := Claim7.holds Tryz.pinned (.plain (OpenSpec.ofChange mappingJoinsSpec)) mappingJoinsCard

/-- THE TIED CARD OF 'unicodetextlaw11.MappingGets'. -/
def mappingGetsCard : Claim7 := { stood := { row := mappingGetsRow, standIns := [], harness := (true, "3b385023e9a01facb46d85818f20cd648077539157ba849438f32f68e279209f"), looks := false }, kinds := [], alts := [], laidByText := true, laidKinds := [.data, .data, .pinned], laidTests := true, laidLooks := .later }
def MappingGetsCardSaid : Prop := Claim7.holds Tryz.pinned (.plain (OpenSpec.ofChange mappingGetsSpec)) mappingGetsCard

/-- THE TIED CARD OF 'unicodetextlaw11.MappingPoints'. -/
def mappingPointsCard : Claim7 := { stood := { row := mappingPointsRow, standIns := [], harness := (true, "3b385023e9a01facb46d85818f20cd648077539157ba849438f32f68e279209f"), looks := false }, kinds := [], alts := [], laidByText := true, laidKinds := [.data, .data, .pinned], laidTests := true, laidLooks := .later }
def MappingPointsCardSaid : Prop := Claim7.holds Tryz.pinned (.plain (OpenSpec.ofChange mappingPointsSpec)) mappingPointsCard

/-- THE TIED CARD OF 'unicodetextlaw11.MappingMakes'. -/
def mappingMakesCard : Claim7 := { stood := { row := mappingMakesRow, standIns := [], harness := (true, "3b385023e9a01facb46d85818f20cd648077539157ba849438f32f68e279209f"), looks := false }, kinds := [], alts := [], laidByText := true, laidKinds := [.data, .data, .pinned], laidTests := true, laidLooks := .later }
def MappingMakesCardSaid : Prop := Claim7.holds Tryz.pinned (.plain (OpenSpec.ofChange mappingMakesSpec)) mappingMakesCard

/-- THE TIED CARD OF 'unicodetextlaw11.MappingSorts'. -/
def mappingSortsCard : Claim7 := { stood := { row := mappingSortsRow, standIns := [], harness := (true, "3b385023e9a01facb46d85818f20cd648077539157ba849438f32f68e279209f"), looks := false }, kinds := [], alts := [], laidByText := true, laidKinds := [.data, .data, .pinned], laidTests := true, laidLooks := .later }
def MappingSortsCardSaid : Prop := Claim7.holds Tryz.pinned (.plain (OpenSpec.ofChange mappingSortsSpec)) mappingSortsCard

/-- THE SECOND FORM's CARD OF 'unicodetextlaw11.MappingChecks'. -/
def mappingChecksUptoCard : Claim7 := { stood := { row := mappingChecksUptoRow, standIns := [], harness := (true, "3b385023e9a01facb46d85818f20cd648077539157ba849438f32f68e279209f"), looks := false }, kinds := [], alts := [], laidByText := true, laidKinds := [.data, .data, .pinned], laidTests := true, laidLooks := .later }
def MappingChecksUptoCardSaid : Prop := Claim7.holds Tryz.pinned (.plain (OpenSpec.upto mappingChecksSpec)) mappingChecksUptoCard

/-- THE SECOND FORM's CARD OF 'unicodetextlaw11.MappingTexts'. -/
def mappingTextsUptoCard : Claim7 := { stood := { row := mappingTextsUptoRow, standIns := [], harness := (true, "3b385023e9a01facb46d85818f20cd648077539157ba849438f32f68e279209f"), looks := false }, kinds := [], alts := [], laidByText := true, laidKinds := [.data, .data, .pinned], laidTests := true, laidLooks := .later }
def MappingTextsUptoCardSaid : Prop := Claim7.holds Tryz.pinned (.plain (OpenSpec.upto mappingTextsSpec)) mappingTextsUptoCard

/-- THE SECOND FORM's CARD OF 'unicodetextlaw11.MappingParses'. -/
def mappingParsesUptoCard : Claim7 := { stood := { row := mappingParsesUptoRow, standIns := [], harness := (true, "3b385023e9a01facb46d85818f20cd648077539157ba849438f32f68e279209f"), looks := false }, kinds := [], alts := [], laidByText := true, laidKinds := [.data, .data, .pinned], laidTests := true, laidLooks := .later }
def MappingParsesUptoCardSaid : Prop := Claim7.holds Tryz.pinned (.plain (OpenSpec.upto mappingParsesSpec)) mappingParsesUptoCard

/-- THE SECOND FORM's CARD OF 'unicodetextlaw11.MappingBack'. -/
def mappingBackUptoCard : Claim7 := { stood := { row := mappingBackUptoRow, standIns := [], harness := (true, "3b385023e9a01facb46d85818f20cd648077539157ba849438f32f68e279209f"), looks := false }, kinds := [], alts := [], laidByText := true, laidKinds := [.data, .data, .pinned], laidTests := true, laidLooks := .later }
def MappingBackUptoCardSaid : Prop := Claim7.holds Tryz.pinned (.plain (OpenSpec.upto mappingBackSpec)) mappingBackUptoCard

/-- THE SECOND FORM's CARD OF 'unicodetextlaw11.MappingApplies'. -/
def mappingAppliesUptoCard : Claim7 := { stood := { row := mappingAppliesUptoRow, standIns := [], harness := (true, "3b385023e9a01facb46d85818f20cd648077539157ba849438f32f68e279209f"), looks := false }, kinds := [], alts := [], laidByText := true, laidKinds := [.data, .data, .pinned], laidTests := true, laidLooks := .later }
def MappingAppliesUptoCardSaid : Prop := Claim7.holds Tryz.pinned (.plain (OpenSpec.upto mappingAppliesSpec)) mappingAppliesUptoCard

/-- THE SECOND FORM's CARD OF 'unicodetextlaw11.MappingJoins'. -/
def mappingJoinsUptoCard : Claim7 := { stood := { row := mappingJoinsUptoRow, standIns := [], harness := (true, "3b385023e9a01facb46d85818f20cd648077539157ba849438f32f68e279209f"), looks := false }, kinds := [], alts := [], laidByText := true, laidKinds := [.data, .data, .pinned], laidTests := true, laidLooks := .later }
def MappingJoinsUptoCardSaid : Prop := Claim7.holds Tryz.pinned (.plain (OpenSpec.upto mappingJoinsSpec)) mappingJoinsUptoCard

/-- THE SECOND FORM's CARD OF 'unicodetextlaw11.MappingGets'. -/
def mappingGetsUptoCard : Claim7 := { stood := { row := mappingGetsUptoRow, standIns := [], harness := (true, "3b385023e9a01facb46d85818f20cd648077539157ba849438f32f68e279209f"), looks := false }, kinds := [], alts := [], laidByText := true, laidKinds := [.data, .data, .pinned], laidTests := true, laidLooks := .later }
def MappingGetsUptoCardSaid : Prop := Claim7.holds Tryz.pinned (.plain (OpenSpec.upto mappingGetsSpec)) mappingGetsUptoCard

/-- THE SECOND FORM's CARD OF 'unicodetextlaw11.MappingPoints'. -/
def mappingPointsUptoCard : Claim7 := { stood := { row := mappingPointsUptoRow, standIns := [], harness := (true, "3b385023e9a01facb46d85818f20cd648077539157ba849438f32f68e279209f"), looks := false }, kinds := [], alts := [], laidByText := true, laidKinds := [.data, .data, .pinned], laidTests := true, laidLooks := .later }
def MappingPointsUptoCardSaid : Prop := Claim7.holds Tryz.pinned (.plain (OpenSpec.upto mappingPointsSpec)) mappingPointsUptoCard

/-- THE SECOND FORM's CARD OF 'unicodetextlaw11.MappingMakes'. -/
def mappingMakesUptoCard : Claim7 := { stood := { row := mappingMakesUptoRow, standIns := [], harness := (true, "3b385023e9a01facb46d85818f20cd648077539157ba849438f32f68e279209f"), looks := false }, kinds := [], alts := [], laidByText := true, laidKinds := [.data, .data, .pinned], laidTests := true, laidLooks := .later }
def MappingMakesUptoCardSaid : Prop := Claim7.holds Tryz.pinned (.plain (OpenSpec.upto mappingMakesSpec)) mappingMakesUptoCard

/-- THE SECOND FORM's CARD OF 'unicodetextlaw11.MappingSorts'. -/
def mappingSortsUptoCard : Claim7 := { stood := { row := mappingSortsUptoRow, standIns := [], harness := (true, "3b385023e9a01facb46d85818f20cd648077539157ba849438f32f68e279209f"), looks := false }, kinds := [], alts := [], laidByText := true, laidKinds := [.data, .data, .pinned], laidTests := true, laidLooks := .later }
def MappingSortsUptoCardSaid : Prop := Claim7.holds Tryz.pinned (.plain (OpenSpec.upto mappingSortsSpec)) mappingSortsUptoCard
end Rows
end Go.Proofs.YtnccclpjcidmeaaGreatDoor
