import Derived.Test.YtcihhjjmcompkaaGreatDoorRowSK
set_option linter.unusedVariables false
set_option linter.unusedSimpArgs false
/-
  SetexprClasses holds of the given program for every database, byte, byte: the tied card of the law's row. Conditions: none beyond the statement's own.
-/
namespace Go.Proofs.YtcihhjjmcompkaaGreatDoor
open Go

theorem cardSK_w : Rows.setexprClassesRow.wfByText (OpenSpec.ofChange Rows.setexprClassesSpec) = true := by kernel_rfl
theorem cardSK_m : Tryz.prog.mainIs = some ((true, "58c5d4fd61106b8c74d9fa72c0edbe4a19742882cb6108591a476e0fab65308b").1, (true, "58c5d4fd61106b8c74d9fa72c0edbe4a19742882cb6108591a476e0fab65308b").2.toList) := by kernel_rfl
theorem cardSK_l : true = Tryz.prog.looks [] := by kernel_rfl
theorem cardSK_f : Tryz.prog.funcNamed "unicodetext/unicodetextlaw18.SetexprClasses" = some 7 := by kernel_rfl
theorem cardSK_s : ([47, 5, 5].all fun u => !Tryz.prog.wantsStandIn u) = true := by kernel_rfl
theorem cardSK_g : false = Rows.setexprClassesRow.goesBy Tryz.prog := by kernel_rfl
theorem setexprClasses_holds : Rows.SetexprClassesCardSaid :=
  Claim7.holds_tied_plain_at .later [] [.data, .data, .pinned] true (true, "58c5d4fd61106b8c74d9fa72c0edbe4a19742882cb6108591a476e0fab65308b") true
    rowSK_holds (fun _ h => by cases h) cardSK_w (fun _ h => by cases h) setexprClasses_row_tie rfl ⟨rfl, rfl⟩ cardSK_m rfl
    (fun f fn hf hfn => by
      obtain rfl : f = 7 := Option.some.inj (cardSK_f.symm.trans hf) |>.symm
      obtain rfl : fn = Tryz.f7 := (Option.some.inj (Tryz.func7.symm.trans hfn)).symm
      exact ⟨cardSK_l, fun j t ht => by
        rw [Tryz.params7] at ht
        have hm : t ∈ [47, 5, 5] := by simpa using Array.mem_of_getElem? ht
        exact (show Tryz.prog.wantsStandIn t = false by simpa using List.all_eq_true.1 cardSK_s t hm)⟩)
    cardSK_g
#print axioms setexprClasses_holds
end Go.Proofs.YtcihhjjmcompkaaGreatDoor
