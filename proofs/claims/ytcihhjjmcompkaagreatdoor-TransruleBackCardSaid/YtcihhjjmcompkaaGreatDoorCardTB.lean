import Derived.Test.YtcihhjjmcompkaaGreatDoorRowTB
set_option linter.unusedVariables false
set_option linter.unusedSimpArgs false
/-
  TransruleBack holds of the given program for every database, list of rules, string: the tied card of the law's row. Conditions: none beyond the statement's own.
-/
namespace Go.Proofs.YtcihhjjmcompkaaGreatDoor
open Go

theorem cardTB_w : Rows.transruleBackRow.wfByText (OpenSpec.ofChange Rows.transruleBackSpec) = true := by kernel_rfl
theorem cardTB_m : Tryz.prog.mainIs = some ((true, "58c5d4fd61106b8c74d9fa72c0edbe4a19742882cb6108591a476e0fab65308b").1, (true, "58c5d4fd61106b8c74d9fa72c0edbe4a19742882cb6108591a476e0fab65308b").2.toList) := by kernel_rfl
theorem cardTB_l : true = Tryz.prog.looks [] := by kernel_rfl
theorem cardTB_f : Tryz.prog.funcNamed "unicodetext/unicodetextlaw50.TransruleBack" = some 10 := by kernel_rfl
theorem cardTB_s : ([47, 63, 9].all fun u => !Tryz.prog.wantsStandIn u) = true := by kernel_rfl
theorem cardTB_g : false = Rows.transruleBackRow.goesBy Tryz.prog := by kernel_rfl
theorem transruleBack_holds : Rows.TransruleBackCardSaid :=
  Claim7.holds_tied_plain_at .later [] [.data, .data, .data, .data, .data, .pinned, .pinned] true (true, "58c5d4fd61106b8c74d9fa72c0edbe4a19742882cb6108591a476e0fab65308b") true
    rowTB_holds (fun _ h => by cases h) cardTB_w (fun _ h => by cases h) transruleBack_row_tie rfl ⟨rfl, rfl⟩ cardTB_m rfl
    (fun f fn hf hfn => by
      obtain rfl : f = 10 := Option.some.inj (cardTB_f.symm.trans hf) |>.symm
      obtain rfl : fn = Tryz.f10 := (Option.some.inj (Tryz.func10.symm.trans hfn)).symm
      exact ⟨cardTB_l, fun j t ht => by
        rw [Tryz.params10] at ht
        have hm : t ∈ [47, 63, 9] := by simpa using Array.mem_of_getElem? ht
        exact (show Tryz.prog.wantsStandIn t = false by simpa using List.all_eq_true.1 cardTB_s t hm)⟩)
    cardTB_g
#print axioms transruleBack_holds
end Go.Proofs.YtcihhjjmcompkaaGreatDoor
