import Derived.Test.YtnegdnbodccgkaaGreatDoorRowMMk
set_option linter.unusedVariables false
set_option linter.unusedSimpArgs false
/-
  MappingMakes holds of the given program for every list of mappings: the tied card of the law's row. Conditions: none beyond the statement's own.
-/
namespace Go.Proofs.YtnegdnbodccgkaaGreatDoor
open Go

theorem cardMMk_w : Rows.mappingMakesRow.wfByText (OpenSpec.ofChange Rows.mappingMakesSpec) = true := by kernel_rfl
theorem cardMMk_m : Tryz.prog.mainIs = some ((true, "b51e56a30bc901be52aaec5961e83d822cee2a9bfd6ff7c63c66ef8a76d70f5d").1, (true, "b51e56a30bc901be52aaec5961e83d822cee2a9bfd6ff7c63c66ef8a76d70f5d").2.toList) := by kernel_rfl
theorem cardMMk_l : false = Tryz.prog.looks [] := by kernel_rfl
theorem cardMMk_f : Tryz.prog.funcNamed "unicodetext/unicodetextlaw11.MappingMakes" = some 6 := by kernel_rfl
theorem cardMMk_s : ([28].all fun u => !Tryz.prog.wantsStandIn u) = true := by kernel_rfl
theorem cardMMk_g : false = Rows.mappingMakesRow.goesBy Tryz.prog := by kernel_rfl
theorem mappingMakes_holds : Rows.MappingMakesCardSaid :=
  Claim7.holds_tied_plain_at .later [] [.data, .data, .pinned] true (true, "b51e56a30bc901be52aaec5961e83d822cee2a9bfd6ff7c63c66ef8a76d70f5d") false
    rowMMk_holds (fun _ h => by cases h) cardMMk_w (fun _ h => by cases h) mappingMakes_row_tie rfl ⟨rfl, rfl⟩ cardMMk_m rfl
    (fun f fn hf hfn => by
      obtain rfl : f = 6 := Option.some.inj (cardMMk_f.symm.trans hf) |>.symm
      obtain rfl : fn = Tryz.f6 := (Option.some.inj (Tryz.func6.symm.trans hfn)).symm
      exact ⟨cardMMk_l, fun j t ht => by
        rw [Tryz.params6] at ht
        have hm : t ∈ [28] := by simpa using Array.mem_of_getElem? ht
        exact (show Tryz.prog.wantsStandIn t = false by simpa using List.all_eq_true.1 cardMMk_s t hm)⟩)
    cardMMk_g
#print axioms mappingMakes_holds
end Go.Proofs.YtnegdnbodccgkaaGreatDoor
