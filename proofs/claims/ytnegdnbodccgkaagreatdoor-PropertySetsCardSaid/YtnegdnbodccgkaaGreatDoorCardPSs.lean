import Derived.Test.YtnegdnbodccgkaaGreatDoorRowPSs
set_option linter.unusedVariables false
set_option linter.unusedSimpArgs false
/-
  PropertySets holds of the given program for every property, number, number: the tied card of the law's row. Conditions: none beyond the statement's own.
-/
namespace Go.Proofs.YtnegdnbodccgkaaGreatDoor
open Go

theorem cardPSs_w : Rows.propertySetsRow.wfByText (OpenSpec.ofChange Rows.propertySetsSpec) = true := by kernel_rfl
theorem cardPSs_m : Tryz.prog.mainIs = some ((true, "b51e56a30bc901be52aaec5961e83d822cee2a9bfd6ff7c63c66ef8a76d70f5d").1, (true, "b51e56a30bc901be52aaec5961e83d822cee2a9bfd6ff7c63c66ef8a76d70f5d").2.toList) := by kernel_rfl
theorem cardPSs_l : false = Tryz.prog.looks [] := by kernel_rfl
theorem cardPSs_f : Tryz.prog.funcNamed "unicodetext/unicodetextlaw10.PropertySets" = some 8 := by kernel_rfl
theorem cardPSs_s : ([27, 3, 3].all fun u => !Tryz.prog.wantsStandIn u) = true := by kernel_rfl
theorem cardPSs_g : false = Rows.propertySetsRow.goesBy Tryz.prog := by kernel_rfl
theorem propertySets_holds : Rows.PropertySetsCardSaid :=
  Claim7.holds_tied_plain_at .later [] [.data, .data, .pinned] true (true, "b51e56a30bc901be52aaec5961e83d822cee2a9bfd6ff7c63c66ef8a76d70f5d") false
    rowPSs_holds (fun _ h => by cases h) cardPSs_w (fun _ h => by cases h) propertySets_row_tie rfl ⟨rfl, rfl⟩ cardPSs_m rfl
    (fun f fn hf hfn => by
      obtain rfl : f = 8 := Option.some.inj (cardPSs_f.symm.trans hf) |>.symm
      obtain rfl : fn = Tryz.f8 := (Option.some.inj (Tryz.func8.symm.trans hfn)).symm
      exact ⟨cardPSs_l, fun j t ht => by
        rw [Tryz.params8] at ht
        have hm : t ∈ [27, 3, 3] := by simpa using Array.mem_of_getElem? ht
        exact (show Tryz.prog.wantsStandIn t = false by simpa using List.all_eq_true.1 cardPSs_s t hm)⟩)
    cardPSs_g
#print axioms propertySets_holds
end Go.Proofs.YtnegdnbodccgkaaGreatDoor
