/-
  VersionsTexts holds of the given program for every list of changes: the tied card of the law's row. Conditions: none beyond the statement's own.
-/
import Derived.Test.YtlhocccopgiccaaGreatDoorRowT
namespace Go.Proofs.YtlhocccopgiccaaGreatDoor
open Go

theorem versionsTexts_holds : Rows.VersionsTextsCardSaid :=
  Claim7.holds_tied_plain_at .later [] [.data, .data, .data, .data] true (true, "1a3664c8124a7d9ddd159931bb37455bf8e5316ce64cc04bf1a2474492dde9cb") false
    row_holds (fun _ h => by cases h) (by kernel_rfl) (fun _ h => by cases h) versionsTexts_row_tie rfl ⟨rfl, rfl⟩ (by kernel_rfl) rfl
    (fun f fn hf hfn => by
      obtain rfl : f = 5 := Option.some.inj ((show Tryz.prog.funcNamed "unicodetext/unicodetextlaw17.VersionsTexts" = some 5 by kernel_rfl).symm.trans hf) |>.symm
      obtain rfl : fn = Tryz.f5 := (Option.some.inj (Tryz.func5.symm.trans hfn)).symm
      exact ⟨by kernel_rfl, fun j t ht => by
        rw [Tryz.params5] at ht
        have hm : t ∈ [42] := by simpa using Array.mem_of_getElem? ht
        have hall : ([42].all fun u => !Tryz.prog.wantsStandIn u) = true := by kernel_rfl
        exact (show Tryz.prog.wantsStandIn t = false by simpa using List.all_eq_true.1 hall t hm)⟩)
    (by kernel_rfl)
#print axioms versionsTexts_holds
end Go.Proofs.YtlhocccopgiccaaGreatDoor
