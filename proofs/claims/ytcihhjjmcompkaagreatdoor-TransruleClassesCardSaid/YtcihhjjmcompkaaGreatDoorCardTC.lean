import Derived.Test.YtcihhjjmcompkaaGreatDoorRowTC
set_option linter.unusedVariables false
set_option linter.unusedSimpArgs false
/-
  TransruleClasses holds of the given program for every list of rules: the tied card of the law's row. Conditions: none beyond the statement's own.
-/
namespace Go.Proofs.YtcihhjjmcompkaaGreatDoor
open Go

theorem cardTC_w : Rows.transruleClassesRow.wfByText (OpenSpec.ofChange Rows.transruleClassesSpec) = true := by kernel_rfl
theorem cardTC_m : Tryz.prog.mainIs = some ((true, "58c5d4fd61106b8c74d9fa72c0edbe4a19742882cb6108591a476e0fab65308b").1, (true, "58c5d4fd61106b8c74d9fa72c0edbe4a19742882cb6108591a476e0fab65308b").2.toList) := by kernel_rfl
theorem cardTC_l : true = Tryz.prog.looks [] := by kernel_rfl
theorem cardTC_f : Tryz.prog.funcNamed "unicodetext/unicodetextlaw50.TransruleClasses" = some 12 := by kernel_rfl
theorem cardTC_s : ([63].all fun u => !Tryz.prog.wantsStandIn u) = true := by kernel_rfl
theorem cardTC_g : false = Rows.transruleClassesRow.goesBy Tryz.prog := by kernel_rfl
theorem transruleClasses_holds : Rows.TransruleClassesCardSaid :=
  Claim7.holds_tied_plain_at .later [] [.data, .data, .data, .data, .data, .pinned, .pinned] true (true, "58c5d4fd61106b8c74d9fa72c0edbe4a19742882cb6108591a476e0fab65308b") true
    rowTC_holds (fun _ h => by cases h) cardTC_w (fun _ h => by cases h) transruleClasses_row_tie rfl ⟨rfl, rfl⟩ cardTC_m rfl
    (fun f fn hf hfn => by
      obtain rfl : f = 12 := Option.some.inj (cardTC_f.symm.trans hf) |>.symm
      obtain rfl : fn = Tryz.f12 := (Option.some.inj (Tryz.func12.symm.trans hfn)).symm
      exact ⟨cardTC_l, fun j t ht => by
        rw [Tryz.params12] at ht
        have hm : t ∈ [63] := by simpa using Array.mem_of_getElem? ht
        exact (show Tryz.prog.wantsStandIn t = false by simpa using List.all_eq_true.1 cardTC_s t hm)⟩)
    cardTC_g
#print axioms transruleClasses_holds
end Go.Proofs.YtcihhjjmcompkaaGreatDoor
