import Derived.Test.YtcihhjjmcompkaaGreatDoorRowSL
set_option linter.unusedVariables false
set_option linter.unusedSimpArgs false
/-
  SetexprLong holds of the given program for every byte: the tied card of the law's row. Conditions: none beyond the statement's own.
-/
namespace Go.Proofs.YtcihhjjmcompkaaGreatDoor
open Go

theorem cardSL_w : Rows.setexprLongRow.wfByText (OpenSpec.ofChange Rows.setexprLongSpec) = true := by kernel_rfl
theorem cardSL_m : Tryz.prog.mainIs = some ((true, "58c5d4fd61106b8c74d9fa72c0edbe4a19742882cb6108591a476e0fab65308b").1, (true, "58c5d4fd61106b8c74d9fa72c0edbe4a19742882cb6108591a476e0fab65308b").2.toList) := by kernel_rfl
theorem cardSL_l : true = Tryz.prog.looks [] := by kernel_rfl
theorem cardSL_f : Tryz.prog.funcNamed "unicodetext/unicodetextlaw18.SetexprLong" = some 8 := by kernel_rfl
theorem cardSL_s : ([5].all fun u => !Tryz.prog.wantsStandIn u) = true := by kernel_rfl
theorem cardSL_g : false = Rows.setexprLongRow.goesBy Tryz.prog := by kernel_rfl
theorem setexprLong_holds : Rows.SetexprLongCardSaid :=
  Claim7.holds_tied_plain_at .later [] [.data, .data, .pinned] true (true, "58c5d4fd61106b8c74d9fa72c0edbe4a19742882cb6108591a476e0fab65308b") true
    rowSL_holds (fun _ h => by cases h) cardSL_w (fun _ h => by cases h) setexprLong_row_tie rfl ⟨rfl, rfl⟩ cardSL_m rfl
    (fun f fn hf hfn => by
      obtain rfl : f = 8 := Option.some.inj (cardSL_f.symm.trans hf) |>.symm
      obtain rfl : fn = Tryz.f8 := (Option.some.inj (Tryz.func8.symm.trans hfn)).symm
      exact ⟨cardSL_l, fun j t ht => by
        rw [Tryz.params8] at ht
        have hm : t ∈ [5] := by simpa using Array.mem_of_getElem? ht
        exact (show Tryz.prog.wantsStandIn t = false by simpa using List.all_eq_true.1 cardSL_s t hm)⟩)
    cardSL_g
#print axioms setexprLong_holds
end Go.Proofs.YtcihhjjmcompkaaGreatDoor
