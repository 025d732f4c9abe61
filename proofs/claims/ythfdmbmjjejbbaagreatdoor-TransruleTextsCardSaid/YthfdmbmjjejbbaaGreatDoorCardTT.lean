import Derived.Test.YthfdmbmjjejbbaaGreatDoorRowTT
set_option linter.unusedVariables false
set_option linter.unusedSimpArgs false
/-
  TransruleTexts holds of the given program for every list of rules: the tied card of the law's row. Conditions: none beyond the statement's own.
-/
namespace Go.Proofs.YthfdmbmjjejbbaaGreatDoor
open Go

theorem cardTT_w : Rows.transruleTextsRow.wfByText (OpenSpec.ofChange Rows.transruleTextsSpec) = true := by kernel_rfl
theorem cardTT_m : Tryz.prog.mainIs = some ((true, "51edcf8da5a25cc291f36dff2b200d18c01b984f4019dff7cd90b2aa76a3b63c").1, (true, "51edcf8da5a25cc291f36dff2b200d18c01b984f4019dff7cd90b2aa76a3b63c").2.toList) := by kernel_rfl
theorem cardTT_l : true = Tryz.prog.looks [] := by kernel_rfl
theorem cardTT_f : Tryz.prog.funcNamed "unicodetext/unicodetextlaw50.TransruleTexts" = some 4 := by kernel_rfl
theorem cardTT_s : ([22].all fun u => !Tryz.prog.wantsStandIn u) = true := by kernel_rfl
theorem cardTT_g : false = Rows.transruleTextsRow.goesBy Tryz.prog := by kernel_rfl
theorem transruleTexts_holds : Rows.TransruleTextsCardSaid :=
  Claim7.holds_tied_plain_at .later [] [.data, .data, .data, .data, .data, .pinned, .pinned] true (true, "51edcf8da5a25cc291f36dff2b200d18c01b984f4019dff7cd90b2aa76a3b63c") true
    rowTT_holds (fun _ h => by cases h) cardTT_w (fun _ h => by cases h) transruleTexts_row_tie rfl ⟨rfl, rfl⟩ cardTT_m rfl
    (fun f fn hf hfn => by
      obtain rfl : f = 4 := Option.some.inj (cardTT_f.symm.trans hf) |>.symm
      obtain rfl : fn = Tryz.f4 := (Option.some.inj (Tryz.func4.symm.trans hfn)).symm
      exact ⟨cardTT_l, fun j t ht => by
        rw [Tryz.params4] at ht
        have hm : t ∈ [22] := by simpa using Array.mem_of_getElem? ht
        exact (show Tryz.prog.wantsStandIn t = false by simpa using List.all_eq_true.1 cardTT_s t hm)⟩)
    cardTT_g
#print axioms transruleTexts_holds
end Go.Proofs.YthfdmbmjjejbbaaGreatDoor
