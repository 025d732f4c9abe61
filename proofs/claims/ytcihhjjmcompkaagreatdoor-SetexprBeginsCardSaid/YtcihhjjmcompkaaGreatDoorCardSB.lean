import Derived.Test.YtcihhjjmcompkaaGreatDoorRowSB
set_option linter.unusedVariables false
set_option linter.unusedSimpArgs false
/-
  SetexprBegins holds of the given program for every database, string: the tied card of the law's row. Conditions: none beyond the statement's own.
-/
namespace Go.Proofs.YtcihhjjmcompkaaGreatDoor
open Go

theorem cardSB_w : Rows.setexprBeginsRow.wfByText (OpenSpec.ofChange Rows.setexprBeginsSpec) = true := by kernel_rfl
theorem cardSB_m : Tryz.prog.mainIs = some ((true, "58c5d4fd61106b8c74d9fa72c0edbe4a19742882cb6108591a476e0fab65308b").1, (true, "58c5d4fd61106b8c74d9fa72c0edbe4a19742882cb6108591a476e0fab65308b").2.toList) := by kernel_rfl
theorem cardSB_l : true = Tryz.prog.looks [] := by kernel_rfl
theorem cardSB_f : Tryz.prog.funcNamed "unicodetext/unicodetextlaw18.SetexprBegins" = some 6 := by kernel_rfl
theorem cardSB_s : ([47, 9].all fun u => !Tryz.prog.wantsStandIn u) = true := by kernel_rfl
theorem cardSB_g : false = Rows.setexprBeginsRow.goesBy Tryz.prog := by kernel_rfl
theorem setexprBegins_holds : Rows.SetexprBeginsCardSaid :=
  Claim7.holds_tied_plain_at .later [] [.data, .data, .pinned] true (true, "58c5d4fd61106b8c74d9fa72c0edbe4a19742882cb6108591a476e0fab65308b") true
    rowSB_holds (fun _ h => by cases h) cardSB_w (fun _ h => by cases h) setexprBegins_row_tie rfl ⟨rfl, rfl⟩ cardSB_m rfl
    (fun f fn hf hfn => by
      obtain rfl : f = 6 := Option.some.inj (cardSB_f.symm.trans hf) |>.symm
      obtain rfl : fn = Tryz.f6 := (Option.some.inj (Tryz.func6.symm.trans hfn)).symm
      exact ⟨cardSB_l, fun j t ht => by
        rw [Tryz.params6] at ht
        have hm : t ∈ [47, 9] := by simpa using Array.mem_of_getElem? ht
        exact (show Tryz.prog.wantsStandIn t = false by simpa using List.all_eq_true.1 cardSB_s t hm)⟩)
    cardSB_g
#print axioms setexprBegins_holds
end Go.Proofs.YtcihhjjmcompkaaGreatDoor
