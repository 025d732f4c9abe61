import Derived.Test.YtcihhjjmcompkaaGreatDoorRowST
set_option linter.unusedVariables false
set_option linter.unusedSimpArgs false
/-
  SetexprTexts holds of the given program for every set: the tied card of the law's row. Conditions: none beyond the statement's own.
-/
namespace Go.Proofs.YtcihhjjmcompkaaGreatDoor
open Go

theorem cardST_w : Rows.setexprTextsRow.wfByText (OpenSpec.ofChange Rows.setexprTextsSpec) = true := by kernel_rfl
theorem cardST_m : Tryz.prog.mainIs = some ((true, "58c5d4fd61106b8c74d9fa72c0edbe4a19742882cb6108591a476e0fab65308b").1, (true, "58c5d4fd61106b8c74d9fa72c0edbe4a19742882cb6108591a476e0fab65308b").2.toList) := by kernel_rfl
theorem cardST_l : true = Tryz.prog.looks [] := by kernel_rfl
theorem cardST_f : Tryz.prog.funcNamed "unicodetext/unicodetextlaw18.SetexprTexts" = some 3 := by kernel_rfl
theorem cardST_s : ([24].all fun u => !Tryz.prog.wantsStandIn u) = true := by kernel_rfl
theorem cardST_g : false = Rows.setexprTextsRow.goesBy Tryz.prog := by kernel_rfl
theorem setexprTexts_holds : Rows.SetexprTextsCardSaid :=
  Claim7.holds_tied_plain_at .later [] [.data, .data, .pinned] true (true, "58c5d4fd61106b8c74d9fa72c0edbe4a19742882cb6108591a476e0fab65308b") true
    rowST_holds (fun _ h => by cases h) cardST_w (fun _ h => by cases h) setexprTexts_row_tie rfl ⟨rfl, rfl⟩ cardST_m rfl
    (fun f fn hf hfn => by
      obtain rfl : f = 3 := Option.some.inj (cardST_f.symm.trans hf) |>.symm
      obtain rfl : fn = Tryz.f3 := (Option.some.inj (Tryz.func3.symm.trans hfn)).symm
      exact ⟨cardST_l, fun j t ht => by
        rw [Tryz.params3] at ht
        have hm : t ∈ [24] := by simpa using Array.mem_of_getElem? ht
        exact (show Tryz.prog.wantsStandIn t = false by simpa using List.all_eq_true.1 cardST_s t hm)⟩)
    cardST_g
#print axioms setexprTexts_holds
end Go.Proofs.YtcihhjjmcompkaaGreatDoor
