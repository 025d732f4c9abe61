import Derived.Test.YtcihhjjmcompkaaGreatDoorRowTL
set_option linter.unusedVariables false
set_option linter.unusedSimpArgs false
/-
  TransruleLines holds of the given program for every database, string, string: the tied card of the law's row. Conditions: none beyond the statement's own.
-/
namespace Go.Proofs.YtcihhjjmcompkaaGreatDoor
open Go

theorem cardTL_w : Rows.transruleLinesRow.wfByText (OpenSpec.ofChange Rows.transruleLinesSpec) = true := by kernel_rfl
theorem cardTL_m : Tryz.prog.mainIs = some ((true, "58c5d4fd61106b8c74d9fa72c0edbe4a19742882cb6108591a476e0fab65308b").1, (true, "58c5d4fd61106b8c74d9fa72c0edbe4a19742882cb6108591a476e0fab65308b").2.toList) := by kernel_rfl
theorem cardTL_l : true = Tryz.prog.looks [] := by kernel_rfl
theorem cardTL_f : Tryz.prog.funcNamed "unicodetext/unicodetextlaw50.TransruleLines" = some 11 := by kernel_rfl
theorem cardTL_s : ([47, 9, 9].all fun u => !Tryz.prog.wantsStandIn u) = true := by kernel_rfl
theorem cardTL_g : false = Rows.transruleLinesRow.goesBy Tryz.prog := by kernel_rfl
theorem transruleLines_holds : Rows.TransruleLinesCardSaid :=
  Claim7.holds_tied_plain_at .later [] [.data, .data, .data, .data, .data, .pinned, .pinned] true (true, "58c5d4fd61106b8c74d9fa72c0edbe4a19742882cb6108591a476e0fab65308b") true
    rowTL_holds (fun _ h => by cases h) cardTL_w (fun _ h => by cases h) transruleLines_row_tie rfl ⟨rfl, rfl⟩ cardTL_m rfl
    (fun f fn hf hfn => by
      obtain rfl : f = 11 := Option.some.inj (cardTL_f.symm.trans hf) |>.symm
      obtain rfl : fn = Tryz.f11 := (Option.some.inj (Tryz.func11.symm.trans hfn)).symm
      exact ⟨cardTL_l, fun j t ht => by
        rw [Tryz.params11] at ht
        have hm : t ∈ [47, 9, 9] := by simpa using Array.mem_of_getElem? ht
        exact (show Tryz.prog.wantsStandIn t = false by simpa using List.all_eq_true.1 cardTL_s t hm)⟩)
    cardTL_g
#print axioms transruleLines_holds
end Go.Proofs.YtcihhjjmcompkaaGreatDoor
