import Derived.Test.YtcihhjjmcompkaaGreatDoorRowTD
set_option linter.unusedVariables false
set_option linter.unusedSimpArgs false
/-
  TransruleDivides holds of the given program for every list of rules, number: the tied card of the law's row. Conditions: none beyond the statement's own.
-/
namespace Go.Proofs.YtcihhjjmcompkaaGreatDoor
open Go

theorem cardTD_w : Rows.transruleDividesRow.wfByText (OpenSpec.ofChange Rows.transruleDividesSpec) = true := by kernel_rfl
theorem cardTD_m : Tryz.prog.mainIs = some ((true, "58c5d4fd61106b8c74d9fa72c0edbe4a19742882cb6108591a476e0fab65308b").1, (true, "58c5d4fd61106b8c74d9fa72c0edbe4a19742882cb6108591a476e0fab65308b").2.toList) := by kernel_rfl
theorem cardTD_l : true = Tryz.prog.looks [] := by kernel_rfl
theorem cardTD_f : Tryz.prog.funcNamed "unicodetext/unicodetextlaw50.TransruleDivides" = some 14 := by kernel_rfl
theorem cardTD_s : ([63, 3].all fun u => !Tryz.prog.wantsStandIn u) = true := by kernel_rfl
theorem cardTD_g : false = Rows.transruleDividesRow.goesBy Tryz.prog := by kernel_rfl
theorem transruleDivides_holds : Rows.TransruleDividesCardSaid :=
  Claim7.holds_tied_plain_at .later [] [.data, .data, .data, .data, .data, .pinned, .pinned] true (true, "58c5d4fd61106b8c74d9fa72c0edbe4a19742882cb6108591a476e0fab65308b") true
    rowTD_holds (fun _ h => by cases h) cardTD_w (fun _ h => by cases h) transruleDivides_row_tie rfl ⟨rfl, rfl⟩ cardTD_m rfl
    (fun f fn hf hfn => by
      obtain rfl : f = 14 := Option.some.inj (cardTD_f.symm.trans hf) |>.symm
      obtain rfl : fn = Tryz.f14 := (Option.some.inj (Tryz.func14.symm.trans hfn)).symm
      exact ⟨cardTD_l, fun j t ht => by
        rw [Tryz.params14] at ht
        have hm : t ∈ [63, 3] := by simpa using Array.mem_of_getElem? ht
        exact (show Tryz.prog.wantsStandIn t = false by simpa using List.all_eq_true.1 cardTD_s t hm)⟩)
    cardTD_g
#print axioms transruleDivides_holds
end Go.Proofs.YtcihhjjmcompkaaGreatDoor
