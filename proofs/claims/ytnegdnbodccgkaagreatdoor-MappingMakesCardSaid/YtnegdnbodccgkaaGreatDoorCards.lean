/-
  DERIVED. GIVEN WITH THE SEED: THE CARDS: each row of YtnegdnbodccgkaaGreatDoorRows.lean that lists a variable, with what it lists TIED to the program's text (the seventh form; the later family's looks); each row that meets fmt, with fmt's text TOLD by the authors' own Lean function (tested against real Go, not proved from fmt's source: count such statements apart). THE CARD IS WHAT COUNTS. Prove the row's statement (the work); the ties are given (YtnegdnbodccgkaaGreatDoorTie.lean); close each card by the builder's one call (the guide's Derived/Test/ToyasCard.lean, 'card_holds'). Laid BY PROGRAM, IN A SANDBOX (cutbox-door.mjs). By AI agents, Wed Nov 11 2026. No macro, syntax, notation, axiom, sorry.
-/
import Derived.Test.YtnegdnbodccgkaaGreatDoorRows
import GoSem.ClaimSeven
namespace Go.Proofs.YtnegdnbodccgkaaGreatDoor
namespace Rows

/-- THE TIED CARD OF 'unicodetextlaw17.VersionsBack'. -/
def versionsBackCard : Claim7 := { stood := { row := versionsBackRow, standIns := [], harness := (true, "b51e56a30bc901be52aaec5961e83d822cee2a9bfd6ff7c63c66ef8a76d70f5d"), looks := false }, kinds := [], alts := [], laidByText := true, laidKinds := [.data, .data, .data, .data], laidTests := true, laidLooks := .later }
def VersionsBackCardSaid : Prop := Claim7.holds Tryz.pinned (.plain (OpenSpec.ofChange versionsBackSpec)) versionsBackCard

/-- THE TIED CARD OF 'unicodetextlaw11.MappingParses'. -/
def mappingParsesCard : Claim7 := { stood := { row := mappingParsesRow, standIns := [], harness := (true, "b51e56a30bc901be52aaec5961e83d822cee2a9bfd6ff7c63c66ef8a76d70f5d"), looks := false }, kinds := [], alts := [], laidByText := true, laidKinds := [.data, .data, .pinned], laidTests := true, laidLooks := .later }
def MappingParsesCardSaid : Prop := Claim7.holds Tryz.pinned (.plain (OpenSpec.ofChange mappingParsesSpec)) mappingParsesCard

/-- THE TIED CARD OF 'unicodetextlaw11.MappingBack'. -/
def mappingBackCard : Claim7 := { stood := { row := mappingBackRow, standIns := [], harness := (true, "b51e56a30bc901be52aaec5961e83d822cee2a9bfd6ff7c63c66ef8a76d70f5d"), looks := false }, kinds := [], alts := [], laidByText := true, laidKinds := [.data, .data, .pinned], laidTests := true, laidLooks := .later }
def MappingBackCardSaid : Prop := Claim7.holds Tryz.pinned (.plain (OpenSpec.ofChange mappingBackSpec)) mappingBackCard

/-- THE TIED CARD OF 'unicodetextlaw11.MappingMakes'. -/
def mappingMakesCard : Claim7 := { stood := { row := mappingMakesRow, standIns := [], harness := (true, "b51e56a30bc901be52aaec5961e83d822cee2a9bfd6ff7c63c66ef8a76d70f5d"), looks := false }, kinds := [], alts := [], laidByText := true, laidKinds := [.data, .data, .pinned], laidTests := true, laidLooks := .later }
def MappingMakesCardSaid : Prop := Claim7.holds Tryz.pinned (.plain (OpenSpec.ofChange mappingMakesSpec)) mappingMakesCard

/-- THE TIED CARD OF 'unicodetextlaw10.PropertyMakes'. -/
def propertyMakesCard : Claim7 := { stood := { row := propertyMakesRow, standIns := [], harness := (true, "b51e56a30bc901be52aaec5961e83d822cee2a9bfd6ff7c63c66ef8a76d70f5d"), looks := false }, kinds := [], alts := [], laidByText := true, laidKinds := [.data, .data, .pinned], laidTests := true, laidLooks := .later }
def PropertyMakesCardSaid : Prop := Claim7.holds Tryz.pinned (.plain (OpenSpec.ofChange propertyMakesSpec)) propertyMakesCard

/-- THE TIED CARD OF 'unicodetextlaw10.PropertySets'. -/
def propertySetsCard : Claim7 := { stood := { row := propertySetsRow, standIns := [], harness := (true, "b51e56a30bc901be52aaec5961e83d822cee2a9bfd6ff7c63c66ef8a76d70f5d"), looks := false }, kinds := [], alts := [], laidByText := true, laidKinds := [.data, .data, .pinned], laidTests := true, laidLooks := .later }
def PropertySetsCardSaid : Prop := Claim7.holds Tryz.pinned (.plain (OpenSpec.ofChange propertySetsSpec)) propertySetsCard

/-- THE TIED CARD OF 'unicodetextlaw10.PropertyTexts'. -/
def propertyTextsCard : Claim7 := { stood := { row := propertyTextsRow, standIns := [], harness := (true, "b51e56a30bc901be52aaec5961e83d822cee2a9bfd6ff7c63c66ef8a76d70f5d"), looks := false }, kinds := [], alts := [], laidByText := true, laidKinds := [.data, .data, .pinned], laidTests := true, laidLooks := .later }
def PropertyTextsCardSaid : Prop := Claim7.holds Tryz.pinned (.plain (OpenSpec.ofChange propertyTextsSpec)) propertyTextsCard

/-- THE TIED CARD OF 'unicodetextlaw10.PropertyParses'. -/
def propertyParsesCard : Claim7 := { stood := { row := propertyParsesRow, standIns := [], harness := (true, "b51e56a30bc901be52aaec5961e83d822cee2a9bfd6ff7c63c66ef8a76d70f5d"), looks := false }, kinds := [], alts := [], laidByText := true, laidKinds := [.data, .data, .pinned], laidTests := true, laidLooks := .later }
def PropertyParsesCardSaid : Prop := Claim7.holds Tryz.pinned (.plain (OpenSpec.ofChange propertyParsesSpec)) propertyParsesCard

/-- THE TIED CARD OF 'unicodetextlaw10.PropertyDivides'. -/
def propertyDividesCard : Claim7 := { stood := { row := propertyDividesRow, standIns := [], harness := (true, "b51e56a30bc901be52aaec5961e83d822cee2a9bfd6ff7c63c66ef8a76d70f5d"), looks := false }, kinds := [], alts := [], laidByText := true, laidKinds := [.data, .data, .pinned], laidTests := true, laidLooks := .later }
def PropertyDividesCardSaid : Prop := Claim7.holds Tryz.pinned (.plain (OpenSpec.ofChange propertyDividesSpec)) propertyDividesCard

/-- THE TIED CARD OF 'unicodetextlaw10.PropertyOrder'. -/
def propertyOrderCard : Claim7 := { stood := { row := propertyOrderRow, standIns := [], harness := (true, "b51e56a30bc901be52aaec5961e83d822cee2a9bfd6ff7c63c66ef8a76d70f5d"), looks := false }, kinds := [], alts := [], laidByText := true, laidKinds := [.data, .data, .pinned], laidTests := true, laidLooks := .later }
def PropertyOrderCardSaid : Prop := Claim7.holds Tryz.pinned (.plain (OpenSpec.ofChange propertyOrderSpec)) propertyOrderCard

/-- THE SECOND FORM's CARD OF 'unicodetextlaw17.VersionsBack'. -/
def versionsBackUptoCard : Claim7 := { stood := { row := versionsBackUptoRow, standIns := [], harness := (true, "b51e56a30bc901be52aaec5961e83d822cee2a9bfd6ff7c63c66ef8a76d70f5d"), looks := false }, kinds := [], alts := [], laidByText := true, laidKinds := [.data, .data, .data, .data], laidTests := true, laidLooks := .later }
def VersionsBackUptoCardSaid : Prop := Claim7.holds Tryz.pinned (.plain (OpenSpec.upto versionsBackSpec)) versionsBackUptoCard

/-- THE SECOND FORM's CARD OF 'unicodetextlaw11.MappingParses'. -/
def mappingParsesUptoCard : Claim7 := { stood := { row := mappingParsesUptoRow, standIns := [], harness := (true, "b51e56a30bc901be52aaec5961e83d822cee2a9bfd6ff7c63c66ef8a76d70f5d"), looks := false }, kinds := [], alts := [], laidByText := true, laidKinds := [.data, .data, .pinned], laidTests := true, laidLooks := .later }
def MappingParsesUptoCardSaid : Prop := Claim7.holds Tryz.pinned (.plain (OpenSpec.upto mappingParsesSpec)) mappingParsesUptoCard

/-- THE SECOND FORM's CARD OF 'unicodetextlaw11.MappingBack'. -/
def mappingBackUptoCard : Claim7 := { stood := { row := mappingBackUptoRow, standIns := [], harness := (true, "b51e56a30bc901be52aaec5961e83d822cee2a9bfd6ff7c63c66ef8a76d70f5d"), looks := false }, kinds := [], alts := [], laidByText := true, laidKinds := [.data, .data, .pinned], laidTests := true, laidLooks := .later }
def MappingBackUptoCardSaid : Prop := Claim7.holds Tryz.pinned (.plain (OpenSpec.upto mappingBackSpec)) mappingBackUptoCard

/-- THE SECOND FORM's CARD OF 'unicodetextlaw11.MappingMakes'. -/
def mappingMakesUptoCard : Claim7 := { stood := { row := mappingMakesUptoRow, standIns := [], harness := (true, "b51e56a30bc901be52aaec5961e83d822cee2a9bfd6ff7c63c66ef8a76d70f5d"), looks := false }, kinds := [], alts := [], laidByText := true, laidKinds := [.data, .data, .pinned], laidTests := true, laidLooks := .later }
def MappingMakesUptoCardSaid : Prop := Claim7.holds Tryz.pinned (.plain (OpenSpec.upto mappingMakesSpec)) mappingMakesUptoCard

/-- THE SECOND FORM's CARD OF 'unicodetextlaw10.PropertyMakes'. -/
def propertyMakesUptoCard : Claim7 := { stood := { row := propertyMakesUptoRow, standIns := [], harness := (true, "b51e56a30bc901be52aaec5961e83d822cee2a9bfd6ff7c63c66ef8a76d70f5d"), looks := false }, kinds := [], alts := [], laidByText := true, laidKinds := [.data, .data, .pinned], laidTests := true, laidLooks := .later }
def PropertyMakesUptoCardSaid : Prop := Claim7.holds Tryz.pinned (.plain (OpenSpec.upto propertyMakesSpec)) propertyMakesUptoCard

/-- THE SECOND FORM's CARD OF 'unicodetextlaw10.PropertySets'. -/
def propertySetsUptoCard : Claim7 := { stood := { row := propertySetsUptoRow, standIns := [], harness := (true, "b51e56a30bc901be52aaec5961e83d822cee2a9bfd6ff7c63c66ef8a76d70f5d"), looks := false }, kinds := [], alts := [], laidByText := true, laidKinds := [.data, .data, .pinned], laidTests := true, laidLooks := .later }
def PropertySetsUptoCardSaid : Prop := Claim7.holds Tryz.pinned (.plain (OpenSpec.upto propertySetsSpec)) propertySetsUptoCard

/-- THE SECOND FORM's CARD OF 'unicodetextlaw10.PropertyTexts'. -/
def propertyTextsUptoCard : Claim7 := { stood := { row := propertyTextsUptoRow, standIns := [], harness := (true, "b51e56a30bc901be52aaec5961e83d822cee2a9bfd6ff7c63c66ef8a76d70f5d"), looks := false }, kinds := [], alts := [], laidByText := true, laidKinds := [.data, .data, .pinned], laidTests := true, laidLooks := .later }
def PropertyTextsUptoCardSaid : Prop := Claim7.holds Tryz.pinned (.plain (OpenSpec.upto propertyTextsSpec)) propertyTextsUptoCard

/-- THE SECOND FORM's CARD OF 'unicodetextlaw10.PropertyParses'. -/
def propertyParsesUptoCard : Claim7 := { stood := { row := propertyParsesUptoRow, standIns := [], harness := (true, "b51e56a30bc901be52aaec5961e83d822cee2a9bfd6ff7c63c66ef8a76d70f5d"), looks := false }, kinds := [], alts := [], laidByText := true, laidKinds := [.data, .data, .pinned], laidTests := true, laidLooks := .later }
def PropertyParsesUptoCardSaid : Prop := Claim7.holds Tryz.pinned (.plain (OpenSpec.upto propertyParsesSpec)) propertyParsesUptoCard

/-- THE SECOND FORM's CARD OF 'unicodetextlaw10.PropertyDivides'. -/
def propertyDividesUptoCard : Claim7 := { stood := { row := propertyDividesUptoRow, standIns := [], harness := (true, "b51e56a30bc901be52aaec5961e83d822cee2a9bfd6ff7c63c66ef8a76d70f5d"), looks := false }, kinds := [], alts := [], laidByText := true, laidKinds := [.data, .data, .pinned], laidTests := true, laidLooks := .later }
def PropertyDividesUptoCardSaid : Prop := Claim7.holds Tryz.pinned (.plain (OpenSpec.upto propertyDividesSpec)) propertyDividesUptoCard

/-- THE SECOND FORM's CARD OF 'unicodetextlaw10.PropertyOrder'. -/
def propertyOrderUptoCard : Claim7 := { stood := { row := propertyOrderUptoRow, standIns := [], harness := (true, "b51e56a30bc901be52aaec5961e83d822cee2a9bfd6ff7c63c66ef8a76d70f5d"), looks := false }, kinds := [], alts := [], laidByText := true, laidKinds := [.data, .data, .pinned], laidTests := true, laidLooks := .later }
def PropertyOrderUptoCardSaid : Prop := Claim7.holds Tryz.pinned (.plain (OpenSpec.upto propertyOrderSpec)) propertyOrderUptoCard
end Rows
end Go.Proofs.YtnegdnbodccgkaaGreatDoor
