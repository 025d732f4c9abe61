import Derived.Test.YtjfcfaiodbmodaaGreatDoorRowVS
set_option linter.unusedVariables false
set_option linter.unusedSimpArgs false
/-
  VersionsSame holds of the given program for every database, version: the tied card of the law's row. Conditions: none beyond the statement's own.
-/
namespace Go.Proofs.YtjfcfaiodbmodaaGreatDoor
open Go

theorem versionsSame_holds : Rows.VersionsSameCardSaid :=
  Claim7.holds_tied_plain_at .later [] [.data, .data, .data, .data] true (true, "94394de7812e3b55d49c63aed8a0a5a87f25761bbbd2c656908a3a3581fba0c1") false
    rowVS_holds (fun _ h => by cases h) (by kernel_rfl) (fun _ h => by cases h) versionsSame_row_tie rfl ⟨rfl, rfl⟩ (by kernel_rfl) rfl
    (fun f fn hf hfn => by
      obtain rfl : f = 4 := Option.some.inj ((show Tryz.prog.funcNamed "unicodetext/unicodetextlaw17.VersionsSame" = some 4 by kernel_rfl).symm.trans hf) |>.symm
      obtain rfl : fn = Tryz.f4 := (Option.some.inj (Tryz.func4.symm.trans hfn)).symm
      exact ⟨by kernel_rfl, fun j t ht => by
        rw [Tryz.params4] at ht
        have hm : t ∈ [39, 23] := by simpa using Array.mem_of_getElem? ht
        have hall : ([39, 23].all fun u => !Tryz.prog.wantsStandIn u) = true := by kernel_rfl
        exact (show Tryz.prog.wantsStandIn t = false by simpa using List.all_eq_true.1 hall t hm)⟩)
    (by kernel_rfl)
#print axioms versionsSame_holds
end Go.Proofs.YtjfcfaiodbmodaaGreatDoor
