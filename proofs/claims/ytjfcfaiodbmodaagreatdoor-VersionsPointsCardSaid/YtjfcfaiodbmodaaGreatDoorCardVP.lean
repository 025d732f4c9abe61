import Derived.Test.YtjfcfaiodbmodaaGreatDoorRowVP
set_option linter.unusedVariables false
set_option linter.unusedSimpArgs false
/-
  VersionsPoints holds of the given program for every database, database, number: the tied card of the law's row. Conditions: none beyond the statement's own.
-/
namespace Go.Proofs.YtjfcfaiodbmodaaGreatDoor
open Go

theorem versionsPoints_holds : Rows.VersionsPointsCardSaid :=
  Claim7.holds_tied_plain_at .later [] [.data, .data, .data, .data] true (true, "94394de7812e3b55d49c63aed8a0a5a87f25761bbbd2c656908a3a3581fba0c1") false
    rowVP_holds (fun _ h => by cases h) (by kernel_rfl) (fun _ h => by cases h) versionsPoints_row_tie rfl ⟨rfl, rfl⟩ (by kernel_rfl) rfl
    (fun f fn hf hfn => by
      obtain rfl : f = 7 := Option.some.inj ((show Tryz.prog.funcNamed "unicodetext/unicodetextlaw17.VersionsPoints" = some 7 by kernel_rfl).symm.trans hf) |>.symm
      obtain rfl : fn = Tryz.f7 := (Option.some.inj (Tryz.func7.symm.trans hfn)).symm
      exact ⟨by kernel_rfl, fun j t ht => by
        rw [Tryz.params7] at ht
        have hm : t ∈ [39, 39, 3] := by simpa using Array.mem_of_getElem? ht
        have hall : ([39, 39, 3].all fun u => !Tryz.prog.wantsStandIn u) = true := by kernel_rfl
        exact (show Tryz.prog.wantsStandIn t = false by simpa using List.all_eq_true.1 hall t hm)⟩)
    (by kernel_rfl)
#print axioms versionsPoints_holds
end Go.Proofs.YtjfcfaiodbmodaaGreatDoor
