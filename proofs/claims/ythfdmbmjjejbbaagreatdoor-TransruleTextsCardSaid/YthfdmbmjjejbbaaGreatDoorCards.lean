/-
  DERIVED. GIVEN WITH THE SEED: THE CARDS: each row of YthfdmbmjjejbbaaGreatDoorRows.lean that lists a variable, with what it lists TIED to the program's text (the seventh form; the later family's looks); each row that meets fmt, with fmt's text TOLD by the authors' own Lean function (tested against real Go, not proved from fmt's source: count such statements apart). THE CARD IS WHAT COUNTS. Prove the row's statement (the work); the ties are given (YthfdmbmjjejbbaaGreatDoorTie.lean); close each card by the builder's one call (the guide's Derived/Test/ToyasCard.lean, 'card_holds'). Laid BY PROGRAM, IN A SANDBOX (cutbox-door.mjs). By AI agents, Wed Nov 11 2026. No macro, syntax, notation, axiom, sorry.
-/
import Derived.Test.YthfdmbmjjejbbaaGreatDoorRows
import GoSem.ClaimSeven
namespace Go.Proofs.YthfdmbmjjejbbaaGreatDoor
namespace Rows

/-- THE TIED CARD OF 'unicodetextlaw50.TransruleChecks'. -/
def transruleChecksCard : Claim7 := { stood := { row := transruleChecksRow, standIns := [], harness := (true, "51edcf8da5a25cc291f36dff2b200d18c01b984f4019dff7cd90b2aa76a3b63c"), looks := true }, kinds := [], alts := [], laidByText := true, laidKinds := [.data, .data, .data, .data, .data, .pinned, .pinned], laidTests := true, laidLooks := .later }
def TransruleChecksCardSaid : Prop := Claim7.holds Tryz.pinned (.plain (OpenSpec.ofChange transruleChecksSpec)) transruleChecksCard

/-- THE TIED CARD OF 'unicodetextlaw50.TransruleTexts'. -/
def transruleTextsCard : Claim7 := { stood := { row := transruleTextsRow, standIns := [], harness := (true, "51edcf8da5a25cc291f36dff2b200d18c01b984f4019dff7cd90b2aa76a3b63c"), looks := true }, kinds := [], alts := [], laidByText := true, laidKinds := [.data, .data, .data, .data, .data, .pinned, .pinned], laidTests := true, laidLooks := .later }
def TransruleTextsCardSaid : Prop := Claim7.holds Tryz.pinned (.plain (OpenSpec.ofChange transruleTextsSpec)) transruleTextsCard

/-- THE TIED CARD OF 'unicodetextlaw50.TransruleClasses'. -/
def transruleClassesCard : Claim7 := { stood := { row := transruleClassesRow, standIns := [], harness := (true, "51edcf8da5a25cc291f36dff2b200d18c01b984f4019dff7cd90b2aa76a3b63c"), looks := true }, kinds := [], alts := [], laidByText := true, laidKinds := [.data, .data, .data, .data, .data, .pinned, .pinned], laidTests := true, laidLooks := .later }
def TransruleClassesCardSaid : Prop := Claim7.holds Tryz.pinned (.plain (OpenSpec.ofChange transruleClassesSpec)) transruleClassesCard

/-- THE TIED CARD OF 'unicodetextlaw50.TransruleAlike'. -/
def transruleAlikeCard : Claim7 := { stood := { row := transruleAlikeRow, standIns := [], harness := (true, "51edcf8da5a25cc291f36dff2b200d18c01b984f4019dff7cd90b2aa76a3b63c"), looks := true }, kinds := [], alts := [], laidByText := true, laidKinds := [.data, .data, .data, .data, .data, .pinned, .pinned], laidTests := true, laidLooks := .later }
def TransruleAlikeCardSaid : Prop := Claim7.holds Tryz.pinned (.plain (OpenSpec.ofChange transruleAlikeSpec)) transruleAlikeCard

/-- THE TIED CARD OF 'unicodetextlaw50.TransruleDivides'. -/
def transruleDividesCard : Claim7 := { stood := { row := transruleDividesRow, standIns := [], harness := (true, "51edcf8da5a25cc291f36dff2b200d18c01b984f4019dff7cd90b2aa76a3b63c"), looks := true }, kinds := [], alts := [], laidByText := true, laidKinds := [.data, .data, .data, .data, .data, .pinned, .pinned], laidTests := true, laidLooks := .later }
def TransruleDividesCardSaid : Prop := Claim7.holds Tryz.pinned (.plain (OpenSpec.ofChange transruleDividesSpec)) transruleDividesCard

/-- THE SECOND FORM's CARD OF 'unicodetextlaw50.TransruleChecks'. -/
def transruleChecksUptoCard : Claim7 := { stood := { row := transruleChecksUptoRow, standIns := [], harness := (true, "51edcf8da5a25cc291f36dff2b200d18c01b984f4019dff7cd90b2aa76a3b63c"), looks := true }, kinds := [], alts := [], laidByText := true, laidKinds := [.data, .data, .data, .data, .data, .pinned, .pinned], laidTests := true, laidLooks := .later }
def TransruleChecksUptoCardSaid : Prop := Claim7.holds Tryz.pinned (.plain (OpenSpec.upto transruleChecksSpec)) transruleChecksUptoCard

/-- THE SECOND FORM's CARD OF 'unicodetextlaw50.TransruleTexts'. -/
def transruleTextsUptoCard : Claim7 := { stood := { row := transruleTextsUptoRow, standIns := [], harness := (true, "51edcf8da5a25cc291f36dff2b200d18c01b984f4019dff7cd90b2aa76a3b63c"), looks := true }, kinds := [], alts := [], laidByText := true, laidKinds := [.data, .data, .data, .data, .data, .pinned, .pinned], laidTests := true, laidLooks := .later }
def TransruleTextsUptoCardSaid : Prop := Claim7.holds Tryz.pinned (.plain (OpenSpec.upto transruleTextsSpec)) transruleTextsUptoCard

/-- THE SECOND FORM's CARD OF 'unicodetextlaw50.TransruleClasses'. -/
def transruleClassesUptoCard : Claim7 := { stood := { row := transruleClassesUptoRow, standIns := [], harness := (true, "51edcf8da5a25cc291f36dff2b200d18c01b984f4019dff7cd90b2aa76a3b63c"), looks := true }, kinds := [], alts := [], laidByText := true, laidKinds := [.data, .data, .data, .data, .data, .pinned, .pinned], laidTests := true, laidLooks := .later }
def TransruleClassesUptoCardSaid : Prop := Claim7.holds Tryz.pinned (.plain (OpenSpec.upto transruleClassesSpec)) transruleClassesUptoCard

/-- THE SECOND FORM's CARD OF 'unicodetextlaw50.TransruleAlike'. -/
def transruleAlikeUptoCard : Claim7 := { stood := { row := transruleAlikeUptoRow, standIns := [], harness := (true, "51edcf8da5a25cc291f36dff2b200d18c01b984f4019dff7cd90b2aa76a3b63c"), looks := true }, kinds := [], alts := [], laidByText := true, laidKinds := [.data, .data, .data, .data, .data, .pinned, .pinned], laidTests := true, laidLooks := .later }
def TransruleAlikeUptoCardSaid : Prop := Claim7.holds Tryz.pinned (.plain (OpenSpec.upto transruleAlikeSpec)) transruleAlikeUptoCard

/-- THE SECOND FORM's CARD OF 'unicodetextlaw50.TransruleDivides'. -/
def transruleDividesUptoCard : Claim7 := { stood := { row := transruleDividesUptoRow, standIns := [], harness := (true, "51edcf8da5a25cc291f36dff2b200d18c01b984f4019dff7cd90b2aa76a3b63c"), looks := true }, kinds := [], alts := [], laidByText := true, laidKinds := [.data, .data, .data, .data, .data, .pinned, .pinned], laidTests := true, laidLooks := .later }
def TransruleDividesUptoCardSaid : Prop := Claim7.holds Tryz.pinned (.plain (OpenSpec.upto transruleDividesSpec)) transruleDividesUptoCard
end Rows
end Go.Proofs.YthfdmbmjjejbbaaGreatDoor
