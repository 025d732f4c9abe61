import Derived.Test.YtimpmahlmfdccaaGreatDoorRowPG
/-
  PropertyGets holds of the given program for every property, number, string: the tied card of the law's row. Conditions: none beyond the statement's own.
-/
namespace Go.Proofs.YtimpmahlmfdccaaGreatDoor
open Go

theorem propertyGets_holds : Rows.PropertyGetsCardSaid :=
  Claim7.holds_tied_plain_at .later [] [.data, .data, .pinned] true (true, "94394de7812e3b55d49c63aed8a0a5a87f25761bbbd2c656908a3a3581fba0c1") false
    rowPG_holds (fun _ h => by cases h) (by kernel_rfl) (fun _ h => by cases h) propertyGets_row_tie rfl ⟨rfl, rfl⟩ (by kernel_rfl) rfl
    (fun f fn hf hfn => by
      obtain rfl : f = 8 := Option.some.inj ((show Tryz.prog.funcNamed "unicodetext/unicodetextlaw10.PropertyGets" = some 8 by kernel_rfl).symm.trans hf) |>.symm
      obtain rfl : fn = Tryz.f8 := (Option.some.inj (Tryz.func8.symm.trans hfn)).symm
      exact ⟨by kernel_rfl, fun j t ht => by
        rw [Tryz.params8] at ht
        have hm : t ∈ [27, 3, 9] := by simpa using Array.mem_of_getElem? ht
        have hall : ([27, 3, 9].all fun u => !Tryz.prog.wantsStandIn u) = true := by kernel_rfl
        exact (show Tryz.prog.wantsStandIn t = false by simpa using List.all_eq_true.1 hall t hm)⟩)
    (by kernel_rfl)
#print axioms propertyGets_holds
end Go.Proofs.YtimpmahlmfdccaaGreatDoor
