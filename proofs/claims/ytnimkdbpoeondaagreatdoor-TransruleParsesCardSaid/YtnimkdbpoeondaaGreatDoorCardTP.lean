import Derived.Test.YtnimkdbpoeondaaGreatDoorRowTP
set_option linter.unusedVariables false
set_option linter.unusedSimpArgs false
/-
  TransruleParses holds of the given program for every database, string: the tied card of the law's row. Conditions: none beyond the statement's own.
-/
namespace Go.Proofs.YtnimkdbpoeondaaGreatDoor
open Go

theorem cardTP_w : Rows.transruleParsesRow.wfByText (OpenSpec.ofChange Rows.transruleParsesSpec) = true := by kernel_rfl
theorem cardTP_m : Tryz.prog.mainIs = some ((true, "db8ce18c352091bbe6e5bf9d0c19049ae7b542d573368faf0cd869df8014bf08").1, (true, "db8ce18c352091bbe6e5bf9d0c19049ae7b542d573368faf0cd869df8014bf08").2.toList) := by kernel_rfl
theorem cardTP_l : true = Tryz.prog.looks [] := by kernel_rfl
theorem cardTP_f : Tryz.prog.funcNamed "unicodetext/unicodetextlaw50.TransruleParses" = some 3 := by kernel_rfl
theorem cardTP_s : ([39, 9].all fun u => !Tryz.prog.wantsStandIn u) = true := by kernel_rfl
theorem cardTP_g : false = Rows.transruleParsesRow.goesBy Tryz.prog := by kernel_rfl
theorem transruleParses_holds : Rows.TransruleParsesCardSaid :=
  Claim7.holds_tied_plain_at .later [] [.data, .data, .data, .data, .data, .pinned, .pinned] true (true, "db8ce18c352091bbe6e5bf9d0c19049ae7b542d573368faf0cd869df8014bf08") true
    rowTP_holds (fun _ h => by cases h) cardTP_w (fun _ h => by cases h) transruleParses_row_tie rfl ⟨rfl, rfl⟩ cardTP_m rfl
    (fun f fn hf hfn => by
      obtain rfl : f = 3 := Option.some.inj (cardTP_f.symm.trans hf) |>.symm
      obtain rfl : fn = Tryz.f3 := (Option.some.inj (Tryz.func3.symm.trans hfn)).symm
      exact ⟨cardTP_l, fun j t ht => by
        rw [Tryz.params3] at ht
        have hm : t ∈ [39, 9] := by simpa using Array.mem_of_getElem? ht
        exact (show Tryz.prog.wantsStandIn t = false by simpa using List.all_eq_true.1 cardTP_s t hm)⟩)
    cardTP_g
#print axioms transruleParses_holds
end Go.Proofs.YtnimkdbpoeondaaGreatDoor
