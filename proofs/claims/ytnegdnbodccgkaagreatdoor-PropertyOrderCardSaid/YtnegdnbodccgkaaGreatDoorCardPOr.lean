import Derived.Test.YtnegdnbodccgkaaGreatDoorRowPOr
set_option linter.unusedVariables false
set_option linter.unusedSimpArgs false
/-
  PropertyOrder holds of the given program for every list of names, list of spans, number: the tied card of the law's row. Conditions: none beyond the statement's own.
-/
namespace Go.Proofs.YtnegdnbodccgkaaGreatDoor
open Go

theorem cardPOr_w : Rows.propertyOrderRow.wfByText (OpenSpec.ofChange Rows.propertyOrderSpec) = true := by kernel_rfl
theorem cardPOr_m : Tryz.prog.mainIs = some ((true, "b51e56a30bc901be52aaec5961e83d822cee2a9bfd6ff7c63c66ef8a76d70f5d").1, (true, "b51e56a30bc901be52aaec5961e83d822cee2a9bfd6ff7c63c66ef8a76d70f5d").2.toList) := by kernel_rfl
theorem cardPOr_l : false = Tryz.prog.looks [] := by kernel_rfl
theorem cardPOr_f : Tryz.prog.funcNamed "unicodetext/unicodetextlaw10.PropertyOrder" = some 12 := by kernel_rfl
theorem cardPOr_s : ([24, 25, 3].all fun u => !Tryz.prog.wantsStandIn u) = true := by kernel_rfl
theorem cardPOr_g : false = Rows.propertyOrderRow.goesBy Tryz.prog := by kernel_rfl
theorem propertyOrder_holds : Rows.PropertyOrderCardSaid :=
  Claim7.holds_tied_plain_at .later [] [.data, .data, .pinned] true (true, "b51e56a30bc901be52aaec5961e83d822cee2a9bfd6ff7c63c66ef8a76d70f5d") false
    rowPOr_holds (fun _ h => by cases h) cardPOr_w (fun _ h => by cases h) propertyOrder_row_tie rfl ⟨rfl, rfl⟩ cardPOr_m rfl
    (fun f fn hf hfn => by
      obtain rfl : f = 12 := Option.some.inj (cardPOr_f.symm.trans hf) |>.symm
      obtain rfl : fn = Tryz.f12 := (Option.some.inj (Tryz.func12.symm.trans hfn)).symm
      exact ⟨cardPOr_l, fun j t ht => by
        rw [Tryz.params12] at ht
        have hm : t ∈ [24, 25, 3] := by simpa using Array.mem_of_getElem? ht
        exact (show Tryz.prog.wantsStandIn t = false by simpa using List.all_eq_true.1 cardPOr_s t hm)⟩)
    cardPOr_g
#print axioms propertyOrder_holds
end Go.Proofs.YtnegdnbodccgkaaGreatDoor
