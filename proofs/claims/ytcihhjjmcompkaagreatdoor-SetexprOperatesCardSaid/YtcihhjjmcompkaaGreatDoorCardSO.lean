import Derived.Test.YtcihhjjmcompkaaGreatDoorRowSO
set_option linter.unusedVariables false
set_option linter.unusedSimpArgs false
/-
  SetexprOperates holds of the given program for every string, string: the tied card of the law's row. Conditions: none beyond the statement's own.
-/
namespace Go.Proofs.YtcihhjjmcompkaaGreatDoor
open Go

theorem cardSO_w : Rows.setexprOperatesRow.wfByText (OpenSpec.ofChange Rows.setexprOperatesSpec) = true := by kernel_rfl
theorem cardSO_m : Tryz.prog.mainIs = some ((true, "58c5d4fd61106b8c74d9fa72c0edbe4a19742882cb6108591a476e0fab65308b").1, (true, "58c5d4fd61106b8c74d9fa72c0edbe4a19742882cb6108591a476e0fab65308b").2.toList) := by kernel_rfl
theorem cardSO_l : true = Tryz.prog.looks [] := by kernel_rfl
theorem cardSO_f : Tryz.prog.funcNamed "unicodetext/unicodetextlaw18.SetexprOperates" = some 5 := by kernel_rfl
theorem cardSO_s : ([9, 9].all fun u => !Tryz.prog.wantsStandIn u) = true := by kernel_rfl
theorem cardSO_g : false = Rows.setexprOperatesRow.goesBy Tryz.prog := by kernel_rfl
theorem setexprOperates_holds : Rows.SetexprOperatesCardSaid :=
  Claim7.holds_tied_plain_at .later [] [.data, .data, .pinned] true (true, "58c5d4fd61106b8c74d9fa72c0edbe4a19742882cb6108591a476e0fab65308b") true
    rowSO_holds (fun _ h => by cases h) cardSO_w (fun _ h => by cases h) setexprOperates_row_tie rfl ⟨rfl, rfl⟩ cardSO_m rfl
    (fun f fn hf hfn => by
      obtain rfl : f = 5 := Option.some.inj (cardSO_f.symm.trans hf) |>.symm
      obtain rfl : fn = Tryz.f5 := (Option.some.inj (Tryz.func5.symm.trans hfn)).symm
      exact ⟨cardSO_l, fun j t ht => by
        rw [Tryz.params5] at ht
        have hm : t ∈ [9, 9] := by simpa using Array.mem_of_getElem? ht
        exact (show Tryz.prog.wantsStandIn t = false by simpa using List.all_eq_true.1 cardSO_s t hm)⟩)
    cardSO_g
#print axioms setexprOperates_holds
end Go.Proofs.YtcihhjjmcompkaaGreatDoor
