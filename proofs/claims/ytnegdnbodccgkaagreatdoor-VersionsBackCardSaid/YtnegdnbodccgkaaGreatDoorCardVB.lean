import Derived.Test.YtnegdnbodccgkaaGreatDoorRowVB
set_option linter.unusedVariables false
set_option linter.unusedSimpArgs false
/-
  VersionsBack holds of the given program for every database, database: the tied card of the law's row. Conditions: none beyond the statement's own.
-/
namespace Go.Proofs.YtnegdnbodccgkaaGreatDoor
open Go

theorem cardVB_w : Rows.versionsBackRow.wfByText (OpenSpec.ofChange Rows.versionsBackSpec) = true := by kernel_rfl
theorem cardVB_m : Tryz.prog.mainIs = some ((true, "b51e56a30bc901be52aaec5961e83d822cee2a9bfd6ff7c63c66ef8a76d70f5d").1, (true, "b51e56a30bc901be52aaec5961e83d822cee2a9bfd6ff7c63c66ef8a76d70f5d").2.toList) := by kernel_rfl
theorem cardVB_l : false = Tryz.prog.looks [] := by kernel_rfl
theorem cardVB_f : Tryz.prog.funcNamed "unicodetext/unicodetextlaw17.VersionsBack" = some 3 := by kernel_rfl
theorem cardVB_s : ([39, 39].all fun u => !Tryz.prog.wantsStandIn u) = true := by kernel_rfl
theorem cardVB_g : false = Rows.versionsBackRow.goesBy Tryz.prog := by kernel_rfl
theorem versionsBack_holds : Rows.VersionsBackCardSaid :=
  Claim7.holds_tied_plain_at .later [] [.data, .data, .data, .data] true (true, "b51e56a30bc901be52aaec5961e83d822cee2a9bfd6ff7c63c66ef8a76d70f5d") false
    rowVB_holds (fun _ h => by cases h) cardVB_w (fun _ h => by cases h) versionsBack_row_tie rfl ⟨rfl, rfl⟩ cardVB_m rfl
    (fun f fn hf hfn => by
      obtain rfl : f = 3 := Option.some.inj (cardVB_f.symm.trans hf) |>.symm
      obtain rfl : fn = Tryz.f3 := (Option.some.inj (Tryz.func3.symm.trans hfn)).symm
      exact ⟨cardVB_l, fun j t ht => by
        rw [Tryz.params3] at ht
        have hm : t ∈ [39, 39] := by simpa using Array.mem_of_getElem? ht
        exact (show Tryz.prog.wantsStandIn t = false by simpa using List.all_eq_true.1 cardVB_s t hm)⟩)
    cardVB_g
#print axioms versionsBack_holds
end Go.Proofs.YtnegdnbodccgkaaGreatDoor
