import Derived.Test.YthfdmbmjjejbbaaGreatDoorOp
set_option linter.unusedVariables false
set_option linter.unusedSimpArgs false
namespace Go.Proofs.YthfdmbmjjejbbaaGreatDoor
open Go Go.Sx Go.ChangeShapes Go.WideShapes Go.ChangeAt Go.RowKit
/-! What a row's facts ask of the program alone, each by itself: in one theorem the kernel runs out of memory. -/
theorem jfOut : laidOutB Tryz.prog = true := by kernel_rfl
theorem jfMaps : mapsRowed Tryz.prog = true := by kernel_rfl
theorem jfHeard : Program.stopsHeard Tryz.prog = true := by kernel_rfl
theorem jfEnter : Program.mayEnter Tryz.prog = true := by kernel_rfl
theorem jfLift : (Rows.transruleChecksRow.lifted == Tryz.prog.liftsFinal) = true := by kernel_rfl
theorem jfMake : (Tryz.prog.make == some Rows.transruleChecksRow.make) = true := by kernel_rfl
theorem and2 {a b : Bool} (h : a = true) (h' : b = true) : (a && b) = true := by rw [h, h']; rfl
end Go.Proofs.YthfdmbmjjejbbaaGreatDoor
