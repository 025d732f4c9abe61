/-
  DERIVED. GIVEN WITH THE SEED: THE CARDS: each row of YtlhocccopgiccaaGreatDoorRows.lean that lists a variable, with what it lists TIED to the program's text (the seventh form; the later family's looks); each row that meets fmt, with fmt's text TOLD by the authors' own Lean function (tested against real Go, not proved from fmt's source: count such statements apart). THE CARD IS WHAT COUNTS. Prove the row's statement (the work); the ties are given (YtlhocccopgiccaaGreatDoorTie.lean); close each card by the builder's one call (the guide's Derived/Test/ToyasCard.lean, 'card_holds'). Laid BY PROGRAM, IN A SANDBOX (cutbox-door.mjs). By AI agents, Wed Nov 11 2026. No macro, syntax, notation, axiom, sorry.
-/
import Derived.Test.YtlhocccopgiccaaGreatDoorRows
import GoSem.ClaimSeven
namespace Go.Proofs.YtlhocccopgiccaaGreatDoor
namespace Rows

/-- THE TIED CARD OF 'unicodetextlaw17.VersionsCompares'. -/
def versionsComparesCard : Claim7 := { stood := { row := versionsComparesRow, standIns := [], harness := (true, "1a3664c8124a7d9ddd159931bb37455bf8e5316ce64cc04bf1a2474492dde9cb"), looks := false }, kinds := [], alts := [], laidByText := true, laidKinds := [.data, .data, .data, .data], laidTests := true, laidLooks := .later }
def VersionsComparesCardSaid : Prop := Claim7.holds Tryz.pinned (.plain (OpenSpec.ofChange versionsComparesSpec)) versionsComparesCard

/-- THE TIED CARD OF 'unicodetextlaw17.VersionsAdditive'. -/
def versionsAdditiveCard : Claim7 := { stood := { row := versionsAdditiveRow, standIns := [], harness := (true, "1a3664c8124a7d9ddd159931bb37455bf8e5316ce64cc04bf1a2474492dde9cb"), looks := false }, kinds := [], alts := [], laidByText := true, laidKinds := [.data, .data, .data, .data], laidTests := true, laidLooks := .later }
def VersionsAdditiveCardSaid : Prop := Claim7.holds Tryz.pinned (.plain (OpenSpec.ofChange versionsAdditiveSpec)) versionsAdditiveCard

/-- THE TIED CARD OF 'unicodetextlaw17.VersionsTexts'. -/
def versionsTextsCard : Claim7 := { stood := { row := versionsTextsRow, standIns := [], harness := (true, "1a3664c8124a7d9ddd159931bb37455bf8e5316ce64cc04bf1a2474492dde9cb"), looks := false }, kinds := [], alts := [], laidByText := true, laidKinds := [.data, .data, .data, .data], laidTests := true, laidLooks := .later }
def VersionsTextsCardSaid : Prop := Claim7.holds Tryz.pinned (.plain (OpenSpec.ofChange versionsTextsSpec)) versionsTextsCard

/-- THE TIED CARD OF 'unicodetextlaw17.VersionsSame'. -/
def versionsSameCard : Claim7 := { stood := { row := versionsSameRow, standIns := [], harness := (true, "1a3664c8124a7d9ddd159931bb37455bf8e5316ce64cc04bf1a2474492dde9cb"), looks := false }, kinds := [], alts := [], laidByText := true, laidKinds := [.data, .data, .data, .data], laidTests := true, laidLooks := .later }
def VersionsSameCardSaid : Prop := Claim7.holds Tryz.pinned (.plain (OpenSpec.ofChange versionsSameSpec)) versionsSameCard

/-- THE TIED CARD OF 'unicodetextlaw17.VersionsBack'. -/
def versionsBackCard : Claim7 := { stood := { row := versionsBackRow, standIns := [], harness := (true, "1a3664c8124a7d9ddd159931bb37455bf8e5316ce64cc04bf1a2474492dde9cb"), looks := false }, kinds := [], alts := [], laidByText := true, laidKinds := [.data, .data, .data, .data], laidTests := true, laidLooks := .later }
def VersionsBackCardSaid : Prop := Claim7.holds Tryz.pinned (.plain (OpenSpec.ofChange versionsBackSpec)) versionsBackCard

/-- THE TIED CARD OF 'unicodetextlaw17.VersionsRanges'. -/
def versionsRangesCard : Claim7 := { stood := { row := versionsRangesRow, standIns := [], harness := (true, "1a3664c8124a7d9ddd159931bb37455bf8e5316ce64cc04bf1a2474492dde9cb"), looks := false }, kinds := [], alts := [], laidByText := true, laidKinds := [.data, .data, .data, .data], laidTests := true, laidLooks := .later }
def VersionsRangesCardSaid : Prop := Claim7.holds Tryz.pinned (.plain (OpenSpec.ofChange versionsRangesSpec)) versionsRangesCard

/-- THE TIED CARD OF 'unicodetextlaw17.VersionsPoints'. -/
def versionsPointsCard : Claim7 := { stood := { row := versionsPointsRow, standIns := [], harness := (true, "1a3664c8124a7d9ddd159931bb37455bf8e5316ce64cc04bf1a2474492dde9cb"), looks := false }, kinds := [], alts := [], laidByText := true, laidKinds := [.data, .data, .data, .data], laidTests := true, laidLooks := .later }
def VersionsPointsCardSaid : Prop := Claim7.holds Tryz.pinned (.plain (OpenSpec.ofChange versionsPointsSpec)) versionsPointsCard

/-- THE SECOND FORM's CARD OF 'unicodetextlaw17.VersionsCompares'. -/
def versionsComparesUptoCard : Claim7 := { stood := { row := versionsComparesUptoRow, standIns := [], harness := (true, "1a3664c8124a7d9ddd159931bb37455bf8e5316ce64cc04bf1a2474492dde9cb"), looks := false }, kinds := [], alts := [], laidByText := true, laidKinds := [.data, .data, .data, .data], laidTests := true, laidLooks := .later }
def VersionsComparesUptoCardSaid : Prop := Claim7.holds Tryz.pinned (.plain (OpenSpec.upto versionsComparesSpec)) versionsComparesUptoCard

/-- THE SECOND FORM's CARD OF 'unicodetextlaw17.VersionsAdditive'. -/
def versionsAdditiveUptoCard : Claim7 := { stood := { row := versionsAdditiveUptoRow, standIns := [], harness := (true, "1a3664c8124a7d9ddd159931bb37455bf8e5316ce64cc04bf1a2474492dde9cb"), looks := false }, kinds := [], alts := [], laidByText := true, laidKinds := [.data, .data, .data, .data], laidTests := true, laidLooks := .later }
def VersionsAdditiveUptoCardSaid : Prop := Claim7.holds Tryz.pinned (.plain (OpenSpec.upto versionsAdditiveSpec)) versionsAdditiveUptoCard

/-- THE SECOND FORM's CARD OF 'unicodetextlaw17.VersionsTexts'. -/
def versionsTextsUptoCard : Claim7 := { stood := { row := versionsTextsUptoRow, standIns := [], harness := (true, "1a3664c8124a7d9ddd159931bb37455bf8e5316ce64cc04bf1a2474492dde9cb"), looks := false }, kinds := [], alts := [], laidByText := true, laidKinds := [.data, .data, .data, .data], laidTests := true, laidLooks := .later }
def VersionsTextsUptoCardSaid : Prop := Claim7.holds Tryz.pinned (.plain (OpenSpec.upto versionsTextsSpec)) versionsTextsUptoCard

/-- THE SECOND FORM's CARD OF 'unicodetextlaw17.VersionsSame'. -/
def versionsSameUptoCard : Claim7 := { stood := { row := versionsSameUptoRow, standIns := [], harness := (true, "1a3664c8124a7d9ddd159931bb37455bf8e5316ce64cc04bf1a2474492dde9cb"), looks := false }, kinds := [], alts := [], laidByText := true, laidKinds := [.data, .data, .data, .data], laidTests := true, laidLooks := .later }
def VersionsSameUptoCardSaid : Prop := Claim7.holds Tryz.pinned (.plain (OpenSpec.upto versionsSameSpec)) versionsSameUptoCard

/-- THE SECOND FORM's CARD OF 'unicodetextlaw17.VersionsBack'. -/
def versionsBackUptoCard : Claim7 := { stood := { row := versionsBackUptoRow, standIns := [], harness := (true, "1a3664c8124a7d9ddd159931bb37455bf8e5316ce64cc04bf1a2474492dde9cb"), looks := false }, kinds := [], alts := [], laidByText := true, laidKinds := [.data, .data, .data, .data], laidTests := true, laidLooks := .later }
def VersionsBackUptoCardSaid : Prop := Claim7.holds Tryz.pinned (.plain (OpenSpec.upto versionsBackSpec)) versionsBackUptoCard

/-- THE SECOND FORM's CARD OF 'unicodetextlaw17.VersionsRanges'. -/
def versionsRangesUptoCard : Claim7 := { stood := { row := versionsRangesUptoRow, standIns := [], harness := (true, "1a3664c8124a7d9ddd159931bb37455bf8e5316ce64cc04bf1a2474492dde9cb"), looks := false }, kinds := [], alts := [], laidByText := true, laidKinds := [.data, .data, .data, .data], laidTests := true, laidLooks := .later }
def VersionsRangesUptoCardSaid : Prop := Claim7.holds Tryz.pinned (.plain (OpenSpec.upto versionsRangesSpec)) versionsRangesUptoCard

/-- THE SECOND FORM's CARD OF 'unicodetextlaw17.VersionsPoints'. -/
def versionsPointsUptoCard : Claim7 := { stood := { row := versionsPointsUptoRow, standIns := [], harness := (true, "1a3664c8124a7d9ddd159931bb37455bf8e5316ce64cc04bf1a2474492dde9cb"), looks := false }, kinds := [], alts := [], laidByText := true, laidKinds := [.data, .data, .data, .data], laidTests := true, laidLooks := .later }
def VersionsPointsUptoCardSaid : Prop := Claim7.holds Tryz.pinned (.plain (OpenSpec.upto versionsPointsSpec)) versionsPointsUptoCard
end Rows
end Go.Proofs.YtlhocccopgiccaaGreatDoor
