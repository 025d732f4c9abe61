import Derived.Test.YtcihhjjmcompkaaGreatDoorRowTA
set_option linter.unusedVariables false
set_option linter.unusedSimpArgs false
/-
  TransruleAlike holds of the given program for every list of rules, number, number: the tied card of the law's row. Conditions: none beyond the statement's own.
-/
namespace Go.Proofs.YtcihhjjmcompkaaGreatDoor
open Go

theorem cardTA_w : Rows.transruleAlikeRow.wfByText (OpenSpec.ofChange Rows.transruleAlikeSpec) = true := by kernel_rfl
theorem cardTA_m : Tryz.prog.mainIs = some ((true, "58c5d4fd61106b8c74d9fa72c0edbe4a19742882cb6108591a476e0fab65308b").1, (true, "58c5d4fd61106b8c74d9fa72c0edbe4a19742882cb6108591a476e0fab65308b").2.toList) := by kernel_rfl
theorem cardTA_l : true = Tryz.prog.looks [] := by kernel_rfl
theorem cardTA_f : Tryz.prog.funcNamed "unicodetext/unicodetextlaw50.TransruleAlike" = some 13 := by kernel_rfl
theorem cardTA_s : ([63, 3, 3].all fun u => !Tryz.prog.wantsStandIn u) = true := by kernel_rfl
theorem cardTA_g : false = Rows.transruleAlikeRow.goesBy Tryz.prog := by kernel_rfl
theorem transruleAlike_holds : Rows.TransruleAlikeCardSaid :=
  Claim7.holds_tied_plain_at .later [] [.data, .data, .data, .data, .data, .pinned, .pinned] true (true, "58c5d4fd61106b8c74d9fa72c0edbe4a19742882cb6108591a476e0fab65308b") true
    rowTA_holds (fun _ h => by cases h) cardTA_w (fun _ h => by cases h) transruleAlike_row_tie rfl ⟨rfl, rfl⟩ cardTA_m rfl
    (fun f fn hf hfn => by
      obtain rfl : f = 13 := Option.some.inj (cardTA_f.symm.trans hf) |>.symm
      obtain rfl : fn = Tryz.f13 := (Option.some.inj (Tryz.func13.symm.trans hfn)).symm
      exact ⟨cardTA_l, fun j t ht => by
        rw [Tryz.params13] at ht
        have hm : t ∈ [63, 3, 3] := by simpa using Array.mem_of_getElem? ht
        exact (show Tryz.prog.wantsStandIn t = false by simpa using List.all_eq_true.1 cardTA_s t hm)⟩)
    cardTA_g
#print axioms transruleAlike_holds
end Go.Proofs.YtcihhjjmcompkaaGreatDoor
