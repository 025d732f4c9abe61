/-
  DERIVED. GIVEN WITH THE SEED: THE CARDS: each row of YtcihhjjmcompkaaGreatDoorRows.lean that lists a variable, with what it lists TIED to the program's text (the seventh form; the later family's looks); each row that meets fmt, with fmt's text TOLD by the authors' own Lean function (tested against real Go, not proved from fmt's source: count such statements apart). THE CARD IS WHAT COUNTS. Prove the row's statement (the work); the ties are given (YtcihhjjmcompkaaGreatDoorTie.lean); close each card by the builder's one call (the guide's Derived/Test/ToyasCard.lean, 'card_holds'). Laid BY PROGRAM, IN A SANDBOX (cutbox-door.mjs). By AI agents, Wed Nov 11 2026. No macro, syntax, notation, axiom, sorry.
-/
import Derived.Test.YtcihhjjmcompkaaGreatDoorRows
import GoSem.ClaimSeven
namespace Go.Proofs.YtcihhjjmcompkaaGreatDoor
namespace Rows

/-- THE TIED CARD OF 'unicodetextlaw18.SetexprTexts'. -/
def setexprTextsCard : Claim7 := { stood := { row := setexprTextsRow, standIns := [], harness := (true, "58c5d4fd61106b8c74d9fa72c0edbe4a19742882cb6108591a476e0fab65308b"), looks := true }, kinds := [], alts := [], laidByText := true, laidKinds := [.data, .data, .pinned], laidTests := true, laidLooks := .later }
def SetexprTextsCardSaid : Prop := Claim7.holds Tryz.pinned (.plain (OpenSpec.ofChange setexprTextsSpec)) setexprTextsCard

/-- THE TIED CARD OF 'unicodetextlaw18.SetexprComplements'. -/
def setexprComplementsCard : Claim7 := { stood := { row := setexprComplementsRow, standIns := [], harness := (true, "58c5d4fd61106b8c74d9fa72c0edbe4a19742882cb6108591a476e0fab65308b"), looks := true }, kinds := [], alts := [], laidByText := true, laidKinds := [.data, .data, .pinned], laidTests := true, laidLooks := .later }
def SetexprComplementsCardSaid : Prop := Claim7.holds Tryz.pinned (.plain (OpenSpec.ofChange setexprComplementsSpec)) setexprComplementsCard

/-- THE TIED CARD OF 'unicodetextlaw18.SetexprOperates'. -/
def setexprOperatesCard : Claim7 := { stood := { row := setexprOperatesRow, standIns := [], harness := (true, "58c5d4fd61106b8c74d9fa72c0edbe4a19742882cb6108591a476e0fab65308b"), looks := true }, kinds := [], alts := [], laidByText := true, laidKinds := [.data, .data, .pinned], laidTests := true, laidLooks := .later }
def SetexprOperatesCardSaid : Prop := Claim7.holds Tryz.pinned (.plain (OpenSpec.ofChange setexprOperatesSpec)) setexprOperatesCard

/-- THE TIED CARD OF 'unicodetextlaw18.SetexprBegins'. -/
def setexprBeginsCard : Claim7 := { stood := { row := setexprBeginsRow, standIns := [], harness := (true, "58c5d4fd61106b8c74d9fa72c0edbe4a19742882cb6108591a476e0fab65308b"), looks := true }, kinds := [], alts := [], laidByText := true, laidKinds := [.data, .data, .pinned], laidTests := true, laidLooks := .later }
def SetexprBeginsCardSaid : Prop := Claim7.holds Tryz.pinned (.plain (OpenSpec.ofChange setexprBeginsSpec)) setexprBeginsCard

/-- THE TIED CARD OF 'unicodetextlaw18.SetexprClasses'. -/
def setexprClassesCard : Claim7 := { stood := { row := setexprClassesRow, standIns := [], harness := (true, "58c5d4fd61106b8c74d9fa72c0edbe4a19742882cb6108591a476e0fab65308b"), looks := true }, kinds := [], alts := [], laidByText := true, laidKinds := [.data, .data, .pinned], laidTests := true, laidLooks := .later }
def SetexprClassesCardSaid : Prop := Claim7.holds Tryz.pinned (.plain (OpenSpec.ofChange setexprClassesSpec)) setexprClassesCard

/-- THE TIED CARD OF 'unicodetextlaw18.SetexprLong'. -/
def setexprLongCard : Claim7 := { stood := { row := setexprLongRow, standIns := [], harness := (true, "58c5d4fd61106b8c74d9fa72c0edbe4a19742882cb6108591a476e0fab65308b"), looks := true }, kinds := [], alts := [], laidByText := true, laidKinds := [.data, .data, .pinned], laidTests := true, laidLooks := .later }
def SetexprLongCardSaid : Prop := Claim7.holds Tryz.pinned (.plain (OpenSpec.ofChange setexprLongSpec)) setexprLongCard

/-- THE TIED CARD OF 'unicodetextlaw50.TransruleParses'. -/
def transruleParsesCard : Claim7 := { stood := { row := transruleParsesRow, standIns := [], harness := (true, "58c5d4fd61106b8c74d9fa72c0edbe4a19742882cb6108591a476e0fab65308b"), looks := true }, kinds := [], alts := [], laidByText := true, laidKinds := [.data, .data, .data, .data, .data, .pinned, .pinned], laidTests := true, laidLooks := .later }
def TransruleParsesCardSaid : Prop := Claim7.holds Tryz.pinned (.plain (OpenSpec.ofChange transruleParsesSpec)) transruleParsesCard

/-- THE TIED CARD OF 'unicodetextlaw50.TransruleBack'. -/
def transruleBackCard : Claim7 := { stood := { row := transruleBackRow, standIns := [], harness := (true, "58c5d4fd61106b8c74d9fa72c0edbe4a19742882cb6108591a476e0fab65308b"), looks := true }, kinds := [], alts := [], laidByText := true, laidKinds := [.data, .data, .data, .data, .data, .pinned, .pinned], laidTests := true, laidLooks := .later }
def TransruleBackCardSaid : Prop := Claim7.holds Tryz.pinned (.plain (OpenSpec.ofChange transruleBackSpec)) transruleBackCard

/-- THE TIED CARD OF 'unicodetextlaw50.TransruleLines'. -/
def transruleLinesCard : Claim7 := { stood := { row := transruleLinesRow, standIns := [], harness := (true, "58c5d4fd61106b8c74d9fa72c0edbe4a19742882cb6108591a476e0fab65308b"), looks := true }, kinds := [], alts := [], laidByText := true, laidKinds := [.data, .data, .data, .data, .data, .pinned, .pinned], laidTests := true, laidLooks := .later }
def TransruleLinesCardSaid : Prop := Claim7.holds Tryz.pinned (.plain (OpenSpec.ofChange transruleLinesSpec)) transruleLinesCard

/-- THE TIED CARD OF 'unicodetextlaw50.TransruleClasses'. -/
def transruleClassesCard : Claim7 := { stood := { row := transruleClassesRow, standIns := [], harness := (true, "58c5d4fd61106b8c74d9fa72c0edbe4a19742882cb6108591a476e0fab65308b"), looks := true }, kinds := [], alts := [], laidByText := true, laidKinds := [.data, .data, .data, .data, .data, .pinned, .pinned], laidTests := true, laidLooks := .later }
def TransruleClassesCardSaid : Prop := Claim7.holds Tryz.pinned (.plain (OpenSpec.ofChange transruleClassesSpec)) transruleClassesCard

/-- THE TIED CARD OF 'unicodetextlaw50.TransruleAlike'. -/
def transruleAlikeCard : Claim7 := { stood := { row := transruleAlikeRow, standIns := [], harness := (true, "58c5d4fd61106b8c74d9fa72c0edbe4a19742882cb6108591a476e0fab65308b"), looks := true }, kinds := [], alts := [], laidByText := true, laidKinds := [.data, .data, .data, .data, .data, .pinned, .pinned], laidTests := true, laidLooks := .later }
def TransruleAlikeCardSaid : Prop := Claim7.holds Tryz.pinned (.plain (OpenSpec.ofChange transruleAlikeSpec)) transruleAlikeCard

/-- THE TIED CARD OF 'unicodetextlaw50.TransruleDivides'. -/
def transruleDividesCard : Claim7 := { stood := { row := transruleDividesRow, standIns := [], harness := (true, "58c5d4fd61106b8c74d9fa72c0edbe4a19742882cb6108591a476e0fab65308b"), looks := true }, kinds := [], alts := [], laidByText := true, laidKinds := [.data, .data, .data, .data, .data, .pinned, .pinned], laidTests := true, laidLooks := .later }
def TransruleDividesCardSaid : Prop := Claim7.holds Tryz.pinned (.plain (OpenSpec.ofChange transruleDividesSpec)) transruleDividesCard

/-- THE SECOND FORM's CARD OF 'unicodetextlaw18.SetexprTexts'. -/
def setexprTextsUptoCard : Claim7 := { stood := { row := setexprTextsUptoRow, standIns := [], harness := (true, "58c5d4fd61106b8c74d9fa72c0edbe4a19742882cb6108591a476e0fab65308b"), looks := true }, kinds := [], alts := [], laidByText := true, laidKinds := [.data, .data, .pinned], laidTests := true, laidLooks := .later }
def SetexprTextsUptoCardSaid : Prop := Claim7.holds Tryz.pinned (.plain (OpenSpec.upto setexprTextsSpec)) setexprTextsUptoCard

/-- THE SECOND FORM's CARD OF 'unicodetextlaw18.SetexprComplements'. -/
def setexprComplementsUptoCard : Claim7 := { stood := { row := setexprComplementsUptoRow, standIns := [], harness := (true, "58c5d4fd61106b8c74d9fa72c0edbe4a19742882cb6108591a476e0fab65308b"), looks := true }, kinds := [], alts := [], laidByText := true, laidKinds := [.data, .data, .pinned], laidTests := true, laidLooks := .later }
def SetexprComplementsUptoCardSaid : Prop := Claim7.holds Tryz.pinned (.plain (OpenSpec.upto setexprComplementsSpec)) setexprComplementsUptoCard

/-- THE SECOND FORM's CARD OF 'unicodetextlaw18.SetexprOperates'. -/
def setexprOperatesUptoCard : Claim7 := { stood := { row := setexprOperatesUptoRow, standIns := [], harness := (true, "58c5d4fd61106b8c74d9fa72c0edbe4a19742882cb6108591a476e0fab65308b"), looks := true }, kinds := [], alts := [], laidByText := true, laidKinds := [.data, .data, .pinned], laidTests := true, laidLooks := .later }
def SetexprOperatesUptoCardSaid : Prop := Claim7.holds Tryz.pinned (.plain (OpenSpec.upto setexprOperatesSpec)) setexprOperatesUptoCard

/-- THE SECOND FORM's CARD OF 'unicodetextlaw18.SetexprBegins'. -/
def setexprBeginsUptoCard : Claim7 := { stood := { row := setexprBeginsUptoRow, standIns := [], harness := (true, "58c5d4fd61106b8c74d9fa72c0edbe4a19742882cb6108591a476e0fab65308b"), looks := true }, kinds := [], alts := [], laidByText := true, laidKinds := [.data, .data, .pinned], laidTests := true, laidLooks := .later }
def SetexprBeginsUptoCardSaid : Prop := Claim7.holds Tryz.pinned (.plain (OpenSpec.upto setexprBeginsSpec)) setexprBeginsUptoCard

/-- THE SECOND FORM's CARD OF 'unicodetextlaw18.SetexprClasses'. -/
def setexprClassesUptoCard : Claim7 := { stood := { row := setexprClassesUptoRow, standIns := [], harness := (true, "58c5d4fd61106b8c74d9fa72c0edbe4a19742882cb6108591a476e0fab65308b"), looks := true }, kinds := [], alts := [], laidByText := true, laidKinds := [.data, .data, .pinned], laidTests := true, laidLooks := .later }
def SetexprClassesUptoCardSaid : Prop := Claim7.holds Tryz.pinned (.plain (OpenSpec.upto setexprClassesSpec)) setexprClassesUptoCard

/-- THE SECOND FORM's CARD OF 'unicodetextlaw18.SetexprLong'. -/
def setexprLongUptoCard : Claim7 := { stood := { row := setexprLongUptoRow, standIns := [], harness := (true, "58c5d4fd61106b8c74d9fa72c0edbe4a19742882cb6108591a476e0fab65308b"), looks := true }, kinds := [], alts := [], laidByText := true, laidKinds := [.data, .data, .pinned], laidTests := true, laidLooks := .later }
def SetexprLongUptoCardSaid : Prop := Claim7.holds Tryz.pinned (.plain (OpenSpec.upto setexprLongSpec)) setexprLongUptoCard

/-- THE SECOND FORM's CARD OF 'unicodetextlaw50.TransruleParses'. -/
def transruleParsesUptoCard : Claim7 := { stood := { row := transruleParsesUptoRow, standIns := [], harness := (true, "58c5d4fd61106b8c74d9fa72c0edbe4a19742882cb6108591a476e0fab65308b"), looks := true }, kinds := [], alts := [], laidByText := true, laidKinds := [.data, .data, .data, .data, .data, .pinned, .pinned], laidTests := true, laidLooks := .later }
def TransruleParsesUptoCardSaid : Prop := Claim7.holds Tryz.pinned (.plain (OpenSpec.upto transruleParsesSpec)) transruleParsesUptoCard

/-- THE SECOND FORM's CARD OF 'unicodetextlaw50.TransruleBack'. -/
def transruleBackUptoCard : Claim7 := { stood := { row := transruleBackUptoRow, standIns := [], harness := (true, "58c5d4fd61106b8c74d9fa72c0edbe4a19742882cb6108591a476e0fab65308b"), looks := true }, kinds := [], alts := [], laidByText := true, laidKinds := [.data, .data, .data, .data, .data, .pinned, .pinned], laidTests := true, laidLooks := .later }
def TransruleBackUptoCardSaid : Prop := Claim7.holds Tryz.pinned (.plain (OpenSpec.upto transruleBackSpec)) transruleBackUptoCard

/-- THE SECOND FORM's CARD OF 'unicodetextlaw50.TransruleLines'. -/
def transruleLinesUptoCard : Claim7 := { stood := { row := transruleLinesUptoRow, standIns := [], harness := (true, "58c5d4fd61106b8c74d9fa72c0edbe4a19742882cb6108591a476e0fab65308b"), looks := true }, kinds := [], alts := [], laidByText := true, laidKinds := [.data, .data, .data, .data, .data, .pinned, .pinned], laidTests := true, laidLooks := .later }
def TransruleLinesUptoCardSaid : Prop := Claim7.holds Tryz.pinned (.plain (OpenSpec.upto transruleLinesSpec)) transruleLinesUptoCard

/-- THE SECOND FORM's CARD OF 'unicodetextlaw50.TransruleClasses'. -/
def transruleClassesUptoCard : Claim7 := { stood := { row := transruleClassesUptoRow, standIns := [], harness := (true, "58c5d4fd61106b8c74d9fa72c0edbe4a19742882cb6108591a476e0fab65308b"), looks := true }, kinds := [], alts := [], laidByText := true, laidKinds := [.data, .data, .data, .data, .data, .pinned, .pinned], laidTests := true, laidLooks := .later }
def TransruleClassesUptoCardSaid : Prop := Claim7.holds Tryz.pinned (.plain (OpenSpec.upto transruleClassesSpec)) transruleClassesUptoCard

/-- THE SECOND FORM's CARD OF 'unicodetextlaw50.TransruleAlike'. -/
def transruleAlikeUptoCard : Claim7 := { stood := { row := transruleAlikeUptoRow, standIns := [], harness := (true, "58c5d4fd61106b8c74d9fa72c0edbe4a19742882cb6108591a476e0fab65308b"), looks := true }, kinds := [], alts := [], laidByText := true, laidKinds := [.data, .data, .data, .data, .data, .pinned, .pinned], laidTests := true, laidLooks := .later }
def TransruleAlikeUptoCardSaid : Prop := Claim7.holds Tryz.pinned (.plain (OpenSpec.upto transruleAlikeSpec)) transruleAlikeUptoCard

/-- THE SECOND FORM's CARD OF 'unicodetextlaw50.TransruleDivides'. -/
def transruleDividesUptoCard : Claim7 := { stood := { row := transruleDividesUptoRow, standIns := [], harness := (true, "58c5d4fd61106b8c74d9fa72c0edbe4a19742882cb6108591a476e0fab65308b"), looks := true }, kinds := [], alts := [], laidByText := true, laidKinds := [.data, .data, .data, .data, .data, .pinned, .pinned], laidTests := true, laidLooks := .later }
def TransruleDividesUptoCardSaid : Prop := Claim7.holds Tryz.pinned (.plain (OpenSpec.upto transruleDividesSpec)) transruleDividesUptoCard
end Rows
end Go.Proofs.YtcihhjjmcompkaaGreatDoor
