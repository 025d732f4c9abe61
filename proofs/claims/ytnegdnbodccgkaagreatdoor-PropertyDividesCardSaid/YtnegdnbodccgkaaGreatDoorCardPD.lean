import Derived.Test.YtnegdnbodccgkaaGreatDoorRowPD
set_option linter.unusedVariables false
set_option linter.unusedSimpArgs false
/-
  PropertyDivides holds of the given program for every property, number: the tied card of the law's row. Conditions: none beyond the statement's own.
-/
namespace Go.Proofs.YtnegdnbodccgkaaGreatDoor
open Go

theorem cardPD_w : Rows.propertyDividesRow.wfByText (OpenSpec.ofChange Rows.propertyDividesSpec) = true := by kernel_rfl
theorem cardPD_m : Tryz.prog.mainIs = some ((true, "b51e56a30bc901be52aaec5961e83d822cee2a9bfd6ff7c63c66ef8a76d70f5d").1, (true, "b51e56a30bc901be52aaec5961e83d822cee2a9bfd6ff7c63c66ef8a76d70f5d").2.toList) := by kernel_rfl
theorem cardPD_l : false = Tryz.prog.looks [] := by kernel_rfl
theorem cardPD_f : Tryz.prog.funcNamed "unicodetext/unicodetextlaw10.PropertyDivides" = some 11 := by kernel_rfl
theorem cardPD_s : ([27, 3].all fun u => !Tryz.prog.wantsStandIn u) = true := by kernel_rfl
theorem cardPD_g : false = Rows.propertyDividesRow.goesBy Tryz.prog := by kernel_rfl
theorem propertyDivides_holds : Rows.PropertyDividesCardSaid :=
  Claim7.holds_tied_plain_at .later [] [.data, .data, .pinned] true (true, "b51e56a30bc901be52aaec5961e83d822cee2a9bfd6ff7c63c66ef8a76d70f5d") false
    rowPD_holds (fun _ h => by cases h) cardPD_w (fun _ h => by cases h) propertyDivides_row_tie rfl ⟨rfl, rfl⟩ cardPD_m rfl
    (fun f fn hf hfn => by
      obtain rfl : f = 11 := Option.some.inj (cardPD_f.symm.trans hf) |>.symm
      obtain rfl : fn = Tryz.f11 := (Option.some.inj (Tryz.func11.symm.trans hfn)).symm
      exact ⟨cardPD_l, fun j t ht => by
        rw [Tryz.params11] at ht
        have hm : t ∈ [27, 3] := by simpa using Array.mem_of_getElem? ht
        exact (show Tryz.prog.wantsStandIn t = false by simpa using List.all_eq_true.1 cardPD_s t hm)⟩)
    cardPD_g
#print axioms propertyDivides_holds
end Go.Proofs.YtnegdnbodccgkaaGreatDoor
