import Derived.Test.YthfdmbmjjejbbaaGreatDoorRowTC
set_option linter.unusedVariables false
set_option linter.unusedSimpArgs false
/-
  TransruleChecks holds of the given program for every list of rules: the tied card of the law's row. Conditions: none beyond the statement's own.
-/
namespace Go.Proofs.YthfdmbmjjejbbaaGreatDoor
open Go

theorem cardTC_w : Rows.transruleChecksRow.wfByText (OpenSpec.ofChange Rows.transruleChecksSpec) = true := by kernel_rfl
theorem cardTC_m : Tryz.prog.mainIs = some ((true, "51edcf8da5a25cc291f36dff2b200d18c01b984f4019dff7cd90b2aa76a3b63c").1, (true, "51edcf8da5a25cc291f36dff2b200d18c01b984f4019dff7cd90b2aa76a3b63c").2.toList) := by kernel_rfl
theorem cardTC_l : true = Tryz.prog.looks [] := by kernel_rfl
theorem cardTC_f : Tryz.prog.funcNamed "unicodetext/unicodetextlaw50.TransruleChecks" = some 3 := by kernel_rfl
theorem cardTC_s : ([22].all fun u => !Tryz.prog.wantsStandIn u) = true := by kernel_rfl
theorem cardTC_g : false = Rows.transruleChecksRow.goesBy Tryz.prog := by kernel_rfl
theorem transruleChecks_holds : Rows.TransruleChecksCardSaid :=
  Claim7.holds_tied_plain_at .later [] [.data, .data, .data, .data, .data, .pinned, .pinned] true (true, "51edcf8da5a25cc291f36dff2b200d18c01b984f4019dff7cd90b2aa76a3b63c") true
    rowTC_holds (fun _ h => by cases h) cardTC_w (fun _ h => by cases h) transruleChecks_row_tie rfl ⟨rfl, rfl⟩ cardTC_m rfl
    (fun f fn hf hfn => by
      obtain rfl : f = 3 := Option.some.inj (cardTC_f.symm.trans hf) |>.symm
      obtain rfl : fn = Tryz.f3 := (Option.some.inj (Tryz.func3.symm.trans hfn)).symm
      exact ⟨cardTC_l, fun j t ht => by
        rw [Tryz.params3] at ht
        have hm : t ∈ [22] := by simpa using Array.mem_of_getElem? ht
        exact (show Tryz.prog.wantsStandIn t = false by simpa using List.all_eq_true.1 cardTC_s t hm)⟩)
    cardTC_g
#print axioms transruleChecks_holds
end Go.Proofs.YthfdmbmjjejbbaaGreatDoor
