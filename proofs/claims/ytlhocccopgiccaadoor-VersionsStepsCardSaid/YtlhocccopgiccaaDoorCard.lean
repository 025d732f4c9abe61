/-
  VersionsSteps holds of the given program for every version and every list of changes: the tied card of the law's row. Conditions: none beyond the statement's own.
-/
import Derived.Test.YtlhocccopgiccaaDoorRow
namespace Go.Proofs.YtlhocccopgiccaaDoor
open Go

theorem versionsSteps_holds : Rows.VersionsStepsCardSaid :=
  Claim7.holds_tied_plain_at .later [] [.data, .data, .data, .data] true (true, "4ceee0d72d1a7d494c9e826b141ef6eebfb5a8ed05a4f26ab82e95a4d9be3d08") false
    row_holds (fun _ h => by cases h) (by kernel_rfl) (fun _ h => by cases h) versionsSteps_row_tie rfl ⟨rfl, rfl⟩ (by kernel_rfl) rfl
    (fun f fn hf hfn => by
      obtain rfl : f = 3 := Option.some.inj ((show Tryd.prog.funcNamed "unicodetext/unicodetextlaw17.VersionsSteps" = some 3 by kernel_rfl).symm.trans hf) |>.symm
      obtain rfl : fn = Tryd.f3 := (Option.some.inj (Tryd.func3.symm.trans hfn)).symm
      exact ⟨by kernel_rfl, fun j t ht => by
        rw [Tryd.params3] at ht
        have hm : t ∈ [23, 24] := by simpa using Array.mem_of_getElem? ht
        have hall : ([23, 24].all fun u => !Tryd.prog.wantsStandIn u) = true := by kernel_rfl
        exact (show Tryd.prog.wantsStandIn t = false by simpa using List.all_eq_true.1 hall t hm)⟩)
    (by kernel_rfl)
#print axioms versionsSteps_holds
end Go.Proofs.YtlhocccopgiccaaDoor
