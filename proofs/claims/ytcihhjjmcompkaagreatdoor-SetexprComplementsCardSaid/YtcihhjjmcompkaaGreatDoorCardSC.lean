import Derived.Test.YtcihhjjmcompkaaGreatDoorRowSC
set_option linter.unusedVariables false
set_option linter.unusedSimpArgs false
/-
  SetexprComplements holds of the given program for every string: the tied card of the law's row. Conditions: none beyond the statement's own.
-/
namespace Go.Proofs.YtcihhjjmcompkaaGreatDoor
open Go

theorem cardSC_w : Rows.setexprComplementsRow.wfByText (OpenSpec.ofChange Rows.setexprComplementsSpec) = true := by kernel_rfl
theorem cardSC_m : Tryz.prog.mainIs = some ((true, "58c5d4fd61106b8c74d9fa72c0edbe4a19742882cb6108591a476e0fab65308b").1, (true, "58c5d4fd61106b8c74d9fa72c0edbe4a19742882cb6108591a476e0fab65308b").2.toList) := by kernel_rfl
theorem cardSC_l : true = Tryz.prog.looks [] := by kernel_rfl
theorem cardSC_f : Tryz.prog.funcNamed "unicodetext/unicodetextlaw18.SetexprComplements" = some 4 := by kernel_rfl
theorem cardSC_s : ([9].all fun u => !Tryz.prog.wantsStandIn u) = true := by kernel_rfl
theorem cardSC_g : false = Rows.setexprComplementsRow.goesBy Tryz.prog := by kernel_rfl
theorem setexprComplements_holds : Rows.SetexprComplementsCardSaid :=
  Claim7.holds_tied_plain_at .later [] [.data, .data, .pinned] true (true, "58c5d4fd61106b8c74d9fa72c0edbe4a19742882cb6108591a476e0fab65308b") true
    rowSC_holds (fun _ h => by cases h) cardSC_w (fun _ h => by cases h) setexprComplements_row_tie rfl ⟨rfl, rfl⟩ cardSC_m rfl
    (fun f fn hf hfn => by
      obtain rfl : f = 4 := Option.some.inj (cardSC_f.symm.trans hf) |>.symm
      obtain rfl : fn = Tryz.f4 := (Option.some.inj (Tryz.func4.symm.trans hfn)).symm
      exact ⟨cardSC_l, fun j t ht => by
        rw [Tryz.params4] at ht
        have hm : t ∈ [9] := by simpa using Array.mem_of_getElem? ht
        exact (show Tryz.prog.wantsStandIn t = false by simpa using List.all_eq_true.1 cardSC_s t hm)⟩)
    cardSC_g
#print axioms setexprComplements_holds
end Go.Proofs.YtcihhjjmcompkaaGreatDoor
