/-
  DERIVED. GIVEN WITH THE SEED: THE CARDS: each row of YtfalaomjfkaphaaGreatDoorRows.lean that lists a variable, with what it lists TIED to the program's text (the seventh form; the later family's looks); each row that meets fmt, with fmt's text TOLD by the authors' own Lean function (tested against real Go, not proved from fmt's source: count such statements apart). THE CARD IS WHAT COUNTS. Prove the row's statement (the work); the ties are given (YtfalaomjfkaphaaGreatDoorTie.lean); close each card by the builder's one call (the guide's Derived/Test/ToyasCard.lean, 'card_holds'). Laid BY PROGRAM, IN A SANDBOX (cutbox-door.mjs). By AI agents, Wed Nov 11 2026. No macro, syntax, notation, axiom, sorry.
-/
import Derived.Test.YtfalaomjfkaphaaGreatDoorRows
import GoSem.ClaimSeven
namespace Go.Proofs.YtfalaomjfkaphaaGreatDoor
namespace Rows

/-- THE TIED CARD OF 'unicodetextlaw11.MappingParses'. -/
def mappingParsesCard : Claim7 := { stood := { row := mappingParsesRow, standIns := [], harness := (true, "dd7ce6020ae7e3f4a3602b5ad57097b07d5f2f2356ed8c1d6f24fdcf1620b2a7"), looks := false }, kinds := [], alts := [], laidByText := true, laidKinds := [.data, .data, .pinned], laidTests := true, laidLooks := .later }
def MappingParsesCardSaid : Prop := Claim7.holds Tryz.pinned (.plain (OpenSpec.ofChange mappingParsesSpec)) mappingParsesCard

/-- THE TIED CARD OF 'unicodetextlaw11.MappingBack'. -/
def mappingBackCard : Claim7 := { stood := { row := mappingBackRow, standIns := [], harness := (true, "dd7ce6020ae7e3f4a3602b5ad57097b07d5f2f2356ed8c1d6f24fdcf1620b2a7"), looks := false }, kinds := [], alts := [], laidByText := true, laidKinds := [.data, .data, .pinned], laidTests := true, laidLooks := .later }
def MappingBackCardSaid : Prop := Claim7.holds Tryz.pinned (.plain (OpenSpec.ofChange mappingBackSpec)) mappingBackCard

/-- THE SECOND FORM's CARD OF 'unicodetextlaw11.MappingParses'. -/
def mappingParsesUptoCard : Claim7 := { stood := { row := mappingParsesUptoRow, standIns := [], harness := (true, "dd7ce6020ae7e3f4a3602b5ad57097b07d5f2f2356ed8c1d6f24fdcf1620b2a7"), looks := false }, kinds := [], alts := [], laidByText := true, laidKinds := [.data, .data, .pinned], laidTests := true, laidLooks := .later }
def MappingParsesUptoCardSaid : Prop := Claim7.holds Tryz.pinned (.plain (OpenSpec.upto mappingParsesSpec)) mappingParsesUptoCard

/-- THE SECOND FORM's CARD OF 'unicodetextlaw11.MappingBack'. -/
def mappingBackUptoCard : Claim7 := { stood := { row := mappingBackUptoRow, standIns := [], harness := (true, "dd7ce6020ae7e3f4a3602b5ad57097b07d5f2f2356ed8c1d6f24fdcf1620b2a7"), looks := false }, kinds := [], alts := [], laidByText := true, laidKinds := [.data, .data, .pinned], laidTests := true, laidLooks := .later }
def MappingBackUptoCardSaid : Prop := Claim7.holds Tryz.pinned (.plain (OpenSpec.upto mappingBackSpec)) mappingBackUptoCard
end Rows
end Go.Proofs.YtfalaomjfkaphaaGreatDoor
