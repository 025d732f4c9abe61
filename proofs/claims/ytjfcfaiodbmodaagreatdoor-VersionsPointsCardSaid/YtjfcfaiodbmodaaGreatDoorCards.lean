/-
  DERIVED. GIVEN WITH THE SEED: THE CARDS: each row of YtjfcfaiodbmodaaGreatDoorRows.lean that lists a variable, with what it lists TIED to the program's text (the seventh form; the later family's looks); each row that meets fmt, with fmt's text TOLD by the authors' own Lean function (tested against real Go, not proved from fmt's source: count such statements apart). THE CARD IS WHAT COUNTS. Prove the row's statement (the work); the ties are given (YtjfcfaiodbmodaaGreatDoorTie.lean); close each card by the builder's one call (the guide's Derived/Test/ToyasCard.lean, 'card_holds'). Laid BY PROGRAM, IN A SANDBOX (cutbox-door.mjs). By AI agents, Wed Nov 11 2026. No macro, syntax, notation, axiom, sorry.
-/
import Derived.Test.YtjfcfaiodbmodaaGreatDoorRows
import GoSem.ClaimSeven
namespace Go.Proofs.YtjfcfaiodbmodaaGreatDoor
namespace Rows

/-- THE TIED CARD OF 'unicodetextlaw17.VersionsCompares'. -/
def versionsComparesCard : Claim7 := { stood := { row := versionsComparesRow, standIns := [], harness := (true, "94394de7812e3b55d49c63aed8a0a5a87f25761bbbd2c656908a3a3581fba0c1"), looks := false }, kinds := [], alts := [], laidByText := true, laidKinds := [.data, .data, .data, .data], laidTests := true, laidLooks := .later }
def VersionsComparesCardSaid : Prop := Claim7.holds Tryz.pinned (.plain (OpenSpec.ofChange versionsComparesSpec)) versionsComparesCard

/-- THE TIED CARD OF 'unicodetextlaw17.VersionsSame'. -/
def versionsSameCard : Claim7 := { stood := { row := versionsSameRow, standIns := [], harness := (true, "94394de7812e3b55d49c63aed8a0a5a87f25761bbbd2c656908a3a3581fba0c1"), looks := false }, kinds := [], alts := [], laidByText := true, laidKinds := [.data, .data, .data, .data], laidTests := true, laidLooks := .later }
def VersionsSameCardSaid : Prop := Claim7.holds Tryz.pinned (.plain (OpenSpec.ofChange versionsSameSpec)) versionsSameCard

/-- THE TIED CARD OF 'unicodetextlaw17.VersionsBack'. -/
def versionsBackCard : Claim7 := { stood := { row := versionsBackRow, standIns := [], harness := (true, "94394de7812e3b55d49c63aed8a0a5a87f25761bbbd2c656908a3a3581fba0c1"), looks := false }, kinds := [], alts := [], laidByText := true, laidKinds := [.data, .data, .data, .data], laidTests := true, laidLooks := .later }
def VersionsBackCardSaid : Prop := Claim7.holds Tryz.pinned (.plain (OpenSpec.ofChange versionsBackSpec)) versionsBackCard

/-- THE TIED CARD OF 'unicodetextlaw17.VersionsRanges'. -/
def versionsRangesCard : Claim7 := { stood := { row := versionsRangesRow, standIns := [], harness := (true, "94394de7812e3b55d49c63aed8a0a5a87f25761bbbd2c656908a3a3581fba0c1"), looks := false }, kinds := [], alts := [], laidByText := true, laidKinds := [.data, .data, .data, .data], laidTests := true, laidLooks := .later }
def VersionsRangesCardSaid : Prop := Claim7.holds Tryz.pinned (.plain (OpenSpec.ofChange versionsRangesSpec)) versionsRangesCard

/-- THE TIED CARD OF 'unicodetextlaw17.VersionsPoints'. -/
def versionsPointsCard : Claim7 := { stood := { row := versionsPointsRow, standIns := [], harness := (true, "94394de7812e3b55d49c63aed8a0a5a87f25761bbbd2c656908a3a3581fba0c1"), looks := false }, kinds := [], alts := [], laidByText := true, laidKinds := [.data, .data, .data, .data], laidTests := true, laidLooks := .later }
def VersionsPointsCardSaid : Prop := Claim7.holds Tryz.pinned (.plain (OpenSpec.ofChange versionsPointsSpec)) versionsPointsCard

/-- THE TIED CARD OF 'unicodetextlaw10.PropertyGets'. -/
def propertyGetsCard : Claim7 := { stood := { row := propertyGetsRow, standIns := [], harness := (true, "94394de7812e3b55d49c63aed8a0a5a87f25761bbbd2c656908a3a3581fba0c1"), looks := false }, kinds := [], alts := [], laidByText := true, laidKinds := [.data, .data, .pinned], laidTests := true, laidLooks := .later }
def PropertyGetsCardSaid : Prop := Claim7.holds Tryz.pinned (.plain (OpenSpec.ofChange propertyGetsSpec)) propertyGetsCard

/-- THE TIED CARD OF 'unicodetextlaw10.PropertySets'. -/
def propertySetsCard : Claim7 := { stood := { row := propertySetsRow, standIns := [], harness := (true, "94394de7812e3b55d49c63aed8a0a5a87f25761bbbd2c656908a3a3581fba0c1"), looks := false }, kinds := [], alts := [], laidByText := true, laidKinds := [.data, .data, .pinned], laidTests := true, laidLooks := .later }
def PropertySetsCardSaid : Prop := Claim7.holds Tryz.pinned (.plain (OpenSpec.ofChange propertySetsSpec)) propertySetsCard

/-- THE TIED CARD OF 'unicodetextlaw10.PropertyDivides'. -/
def propertyDividesCard : Claim7 := { stood := { row := propertyDividesRow, standIns := [], harness := (true, "94394de7812e3b55d49c63aed8a0a5a87f25761bbbd2c656908a3a3581fba0c1"), looks := false }, kinds := [], alts := [], laidByText := true, laidKinds := [.data, .data, .pinned], laidTests := true, laidLooks := .later }
def PropertyDividesCardSaid : Prop := Claim7.holds Tryz.pinned (.plain (OpenSpec.ofChange propertyDividesSpec)) propertyDividesCard

/-- THE SECOND FORM's CARD OF 'unicodetextlaw17.VersionsCompares'. -/
def versionsComparesUptoCard : Claim7 := { stood := { row := versionsComparesUptoRow, standIns := [], harness := (true, "94394de7812e3b55d49c63aed8a0a5a87f25761bbbd2c656908a3a3581fba0c1"), looks := false }, kinds := [], alts := [], laidByText := true, laidKinds := [.data, .data, .data, .data], laidTests := true, laidLooks := .later }
def VersionsComparesUptoCardSaid : Prop := Claim7.holds Tryz.pinned (.plain (OpenSpec.upto versionsComparesSpec)) versionsComparesUptoCard

/-- THE SECOND FORM's CARD OF 'unicodetextlaw17.VersionsSame'. -/
def versionsSameUptoCard : Claim7 := { stood := { row := versionsSameUptoRow, standIns := [], harness := (true, "94394de7812e3b55d49c63aed8a0a5a87f25761bbbd2c656908a3a3581fba0c1"), looks := false }, kinds := [], alts := [], laidByText := true, laidKinds := [.data, .data, .data, .data], laidTests := true, laidLooks := .later }
def VersionsSameUptoCardSaid : Prop := Claim7.holds Tryz.pinned (.plain (OpenSpec.upto versionsSameSpec)) versionsSameUptoCard

/-- THE SECOND FORM's CARD OF 'unicodetextlaw17.VersionsBack'. -/
def versionsBackUptoCard : Claim7 := { stood := { row := versionsBackUptoRow, standIns := [], harness := (true, "94394de7812e3b55d49c63aed8a0a5a87f25761bbbd2c656908a3a3581fba0c1"), looks := false }, kinds := [], alts := [], laidByText := true, laidKinds := [.data, .data, .data, .data], laidTests := true, laidLooks := .later }
def VersionsBackUptoCardSaid : Prop := Claim7.holds Tryz.pinned (.plain (OpenSpec.upto versionsBackSpec)) versionsBackUptoCard

/-- THE SECOND FORM's CARD OF 'unicodetextlaw17.VersionsRanges'. -/
def versionsRangesUptoCard : Claim7 := { stood := { row := versionsRangesUptoRow, standIns := [], harness := (true, "94394de7812e3b55d49c63aed8a0a5a87f25761bbbd2c656908a3a3581fba0c1"), looks := false }, kinds := [], alts := [], laidByText := true, laidKinds := [.data, .data, .data, .data], laidTests := true, laidLooks := .later }
def VersionsRangesUptoCardSaid : Prop := Claim7.holds Tryz.pinned (.plain (OpenSpec.upto versionsRangesSpec)) versionsRangesUptoCard

/-- THE SECOND FORM's CARD OF 'unicodetextlaw17.VersionsPoints'. -/
def versionsPointsUptoCard : Claim7 := { stood := { row := versionsPointsUptoRow, standIns := [], harness := (true, "94394de7812e3b55d49c63aed8a0a5a87f25761bbbd2c656908a3a3581fba0c1"), looks := false }, kinds := [], alts := [], laidByText := true, laidKinds := [.data, .data, .data, .data], laidTests := true, laidLooks := .later }
def VersionsPointsUptoCardSaid : Prop := Claim7.holds Tryz.pinned (.plain (OpenSpec.upto versionsPointsSpec)) versionsPointsUptoCard

/-- THE SECOND FORM's CARD OF 'unicodetextlaw10.PropertyGets'. -/
def propertyGetsUptoCard : Claim7 := { stood := { row := propertyGetsUptoRow, standIns := [], harness := (true, "94394de7812e3b55d49c63aed8a0a5a87f25761bbbd2c656908a3a3581fba0c1"), looks := false }, kinds := [], alts := [], laidByText := true, laidKinds := [.data, .data, .pinned], laidTests := true, laidLooks := .later }
def PropertyGetsUptoCardSaid : Prop := Claim7.holds Tryz.pinned (.plain (OpenSpec.upto propertyGetsSpec)) propertyGetsUptoCard

/-- THE SECOND FORM's CARD OF 'unicodetextlaw10.PropertySets'. -/
def propertySetsUptoCard : Claim7 := { stood := { row := propertySetsUptoRow, standIns := [], harness := (true, "94394de7812e3b55d49c63aed8a0a5a87f25761bbbd2c656908a3a3581fba0c1"), looks := false }, kinds := [], alts := [], laidByText := true, laidKinds := [.data, .data, .pinned], laidTests := true, laidLooks := .later }
def PropertySetsUptoCardSaid : Prop := Claim7.holds Tryz.pinned (.plain (OpenSpec.upto propertySetsSpec)) propertySetsUptoCard

/-- THE SECOND FORM's CARD OF 'unicodetextlaw10.PropertyDivides'. -/
def propertyDividesUptoCard : Claim7 := { stood := { row := propertyDividesUptoRow, standIns := [], harness := (true, "94394de7812e3b55d49c63aed8a0a5a87f25761bbbd2c656908a3a3581fba0c1"), looks := false }, kinds := [], alts := [], laidByText := true, laidKinds := [.data, .data, .pinned], laidTests := true, laidLooks := .later }
def PropertyDividesUptoCardSaid : Prop := Claim7.holds Tryz.pinned (.plain (OpenSpec.upto propertyDividesSpec)) propertyDividesUptoCard
end Rows
end Go.Proofs.YtjfcfaiodbmodaaGreatDoor
