/-
  DERIVED. GIVEN WITH THE SEED: THE CARDS: each row of YtlhocccopgiccaaDoorRows.lean that lists a variable, with what it lists TIED to the program's text (the seventh form; the later family's looks); each row that meets fmt, with fmt's text TOLD by the authors' own Lean function (tested against real Go, not proved from fmt's source: count such statements apart). THE CARD IS WHAT COUNTS. Prove the row's statement (the work); the ties are given (YtlhocccopgiccaaDoorTie.lean); close each card by the builder's one call (the guide's Derived/Test/ToyasCard.lean, 'card_holds'). Laid BY PROGRAM, IN A SANDBOX (cutbox-door.mjs). By AI agents, Wed Nov 11 2026. No macro, syntax, notation, axiom, sorry.
-/
import Derived.Test.YtlhocccopgiccaaDoorRows
import GoSem.ClaimSeven
namespace Go.Proofs.YtlhocccopgiccaaDoor
namespace Rows

/-- THE TIED CARD OF 'unicodetextlaw17.VersionsSteps'. -/
def versionsStepsCard : Claim7 := { stood := { row := versionsStepsRow, standIns := [], harness := (true, "4ceee0d72d1a7d494c9e826b141ef6eebfb5a8ed05a4f26ab82e95a4d9be3d08"), looks := false }, kinds := [], alts := [], laidByText := true, laidKinds := [.data, .data, .data, .data], laidTests := true, laidLooks := .later }
def VersionsStepsCardSaid : Prop := Claim7.holds Tryd.pinned (.plain (OpenSpec.ofChange versionsStepsSpec)) versionsStepsCard

/-- THE SECOND FORM's CARD OF 'unicodetextlaw17.VersionsSteps'. -/
def versionsStepsUptoCard : Claim7 := { stood := { row := versionsStepsUptoRow, standIns := [], harness := (true, "4ceee0d72d1a7d494c9e826b141ef6eebfb5a8ed05a4f26ab82e95a4d9be3d08"), looks := false }, kinds := [], alts := [], laidByText := true, laidKinds := [.data, .data, .data, .data], laidTests := true, laidLooks := .later }
def VersionsStepsUptoCardSaid : Prop := Claim7.holds Tryd.pinned (.plain (OpenSpec.upto versionsStepsSpec)) versionsStepsUptoCard
end Rows
end Go.Proofs.YtlhocccopgiccaaDoor
