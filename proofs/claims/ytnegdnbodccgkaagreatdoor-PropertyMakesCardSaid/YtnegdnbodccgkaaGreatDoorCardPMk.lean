import Derived.Test.YtnegdnbodccgkaaGreatDoorRowPMk
set_option linter.unusedVariables false
set_option linter.unusedSimpArgs false
/-
  PropertyMakes holds of the given program for every list of names, list of spans: the tied card of the law's row. Conditions: none beyond the statement's own.
-/
namespace Go.Proofs.YtnegdnbodccgkaaGreatDoor
open Go

theorem cardPMk_w : Rows.propertyMakesRow.wfByText (OpenSpec.ofChange Rows.propertyMakesSpec) = true := by kernel_rfl
theorem cardPMk_m : Tryz.prog.mainIs = some ((true, "b51e56a30bc901be52aaec5961e83d822cee2a9bfd6ff7c63c66ef8a76d70f5d").1, (true, "b51e56a30bc901be52aaec5961e83d822cee2a9bfd6ff7c63c66ef8a76d70f5d").2.toList) := by kernel_rfl
theorem cardPMk_l : false = Tryz.prog.looks [] := by kernel_rfl
theorem cardPMk_f : Tryz.prog.funcNamed "unicodetext/unicodetextlaw10.PropertyMakes" = some 7 := by kernel_rfl
theorem cardPMk_s : ([24, 25].all fun u => !Tryz.prog.wantsStandIn u) = true := by kernel_rfl
theorem cardPMk_g : false = Rows.propertyMakesRow.goesBy Tryz.prog := by kernel_rfl
theorem propertyMakes_holds : Rows.PropertyMakesCardSaid :=
  Claim7.holds_tied_plain_at .later [] [.data, .data, .pinned] true (true, "b51e56a30bc901be52aaec5961e83d822cee2a9bfd6ff7c63c66ef8a76d70f5d") false
    rowPMk_holds (fun _ h => by cases h) cardPMk_w (fun _ h => by cases h) propertyMakes_row_tie rfl ⟨rfl, rfl⟩ cardPMk_m rfl
    (fun f fn hf hfn => by
      obtain rfl : f = 7 := Option.some.inj (cardPMk_f.symm.trans hf) |>.symm
      obtain rfl : fn = Tryz.f7 := (Option.some.inj (Tryz.func7.symm.trans hfn)).symm
      exact ⟨cardPMk_l, fun j t ht => by
        rw [Tryz.params7] at ht
        have hm : t ∈ [24, 25] := by simpa using Array.mem_of_getElem? ht
        exact (show Tryz.prog.wantsStandIn t = false by simpa using List.all_eq_true.1 cardPMk_s t hm)⟩)
    cardPMk_g
#print axioms propertyMakes_holds
end Go.Proofs.YtnegdnbodccgkaaGreatDoor
