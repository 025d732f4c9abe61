import Derived.Test.YtnccclpjcidmeaaGreatDoorRowTe
/-
  MappingTexts holds of the given program for every list of mappings: the tied card of the law's row. Conditions: none beyond the statement's own.
-/
namespace Go.Proofs.YtnccclpjcidmeaaGreatDoor
open Go

theorem mappingTexts_holds : Rows.MappingTextsCardSaid :=
  Claim7.holds_tied_plain_at .later [] [.data, .data, .pinned] true (true, "3b385023e9a01facb46d85818f20cd648077539157ba849438f32f68e279209f") false
    rowTe_holds (fun _ h => by cases h) (by kernel_rfl) (fun _ h => by cases h) mappingTexts_row_tie rfl ⟨rfl, rfl⟩ (by kernel_rfl) rfl
    (fun f fn hf hfn => by
      obtain rfl : f = 4 := Option.some.inj ((show Tryz.prog.funcNamed "unicodetext/unicodetextlaw11.MappingTexts" = some 4 by kernel_rfl).symm.trans hf) |>.symm
      obtain rfl : fn = Tryz.f4 := (Option.some.inj (Tryz.func4.symm.trans hfn)).symm
      exact ⟨by kernel_rfl, fun j t ht => by
        rw [Tryz.params4] at ht
        have hm : t ∈ [22] := by simpa using Array.mem_of_getElem? ht
        have hall : ([22].all fun u => !Tryz.prog.wantsStandIn u) = true := by kernel_rfl
        exact (show Tryz.prog.wantsStandIn t = false by simpa using List.all_eq_true.1 hall t hm)⟩)
    (by kernel_rfl)
#print axioms mappingTexts_holds
end Go.Proofs.YtnccclpjcidmeaaGreatDoor
