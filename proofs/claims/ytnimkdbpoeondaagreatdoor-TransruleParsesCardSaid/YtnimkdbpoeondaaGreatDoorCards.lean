/-
  DERIVED. GIVEN WITH THE SEED: THE CARDS: each row of YtnimkdbpoeondaaGreatDoorRows.lean that lists a variable, with what it lists TIED to the program's text (the seventh form; the later family's looks); each row that meets fmt, with fmt's text TOLD by the authors' own Lean function (tested against real Go, not proved from fmt's source: count such statements apart). THE CARD IS WHAT COUNTS. Prove the row's statement (the work); the ties are given (YtnimkdbpoeondaaGreatDoorTie.lean); close each card by the builder's one call (the guide's Derived/Test/ToyasCard.lean, 'card_holds'). Laid BY PROGRAM, IN A SANDBOX (cutbox-door.mjs). By AI agents, Wed Nov 11 2026. No macro, syntax, notation, axiom, sorry.
-/
import Derived.Test.YtnimkdbpoeondaaGreatDoorRows
import GoSem.ClaimSeven
namespace Go.Proofs.YtnimkdbpoeondaaGreatDoor
namespace Rows

/-- THE TIED CARD OF 'unicodetextlaw50.TransruleParses'. -/
def transruleParsesCard : Claim7 := { stood := { row := transruleParsesRow, standIns := [], harness := (true, "db8ce18c352091bbe6e5bf9d0c19049ae7b542d573368faf0cd869df8014bf08"), looks := true }, kinds := [], alts := [], laidByText := true, laidKinds := [.data, .data, .data, .data, .data, .pinned, .pinned], laidTests := true, laidLooks := .later }
def TransruleParsesCardSaid : Prop := Claim7.holds Tryz.pinned (.plain (OpenSpec.ofChange transruleParsesSpec)) transruleParsesCard

/-- THE SECOND FORM's CARD OF 'unicodetextlaw50.TransruleParses'. -/
def transruleParsesUptoCard : Claim7 := { stood := { row := transruleParsesUptoRow, standIns := [], harness := (true, "db8ce18c352091bbe6e5bf9d0c19049ae7b542d573368faf0cd869df8014bf08"), looks := true }, kinds := [], alts := [], laidByText := true, laidKinds := [.data, .data, .data, .data, .data, .pinned, .pinned], laidTests := true, laidLooks := .later }
def TransruleParsesUptoCardSaid : Prop := Claim7.holds Tryz.pinned (.plain (OpenSpec.upto transruleParsesSpec)) transruleParsesUptoCard
end Rows
end Go.Proofs.YtnimkdbpoeondaaGreatDoor
