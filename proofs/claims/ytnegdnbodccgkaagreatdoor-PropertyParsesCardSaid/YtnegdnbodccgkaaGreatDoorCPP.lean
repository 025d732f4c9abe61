import Derived.Test.YtnegdnbodccgkaaGreatDoorRo10
import Derived.Test.YtnegdnbodccgkaaGreatDoorLTz
import Derived.Test.YtnegdnbodccgkaaGreatDoorJf
set_option linter.unusedVariables false
set_option linter.unusedSimpArgs false
namespace Go.Proofs.YtnegdnbodccgkaaGreatDoor
open Go Go.Sx Go.ChangeShapes Go.WideShapes Go.ChangeAt Go.RowKit
set_option maxRecDepth 100000 in
theorem liftedPPs (os : Os) (started : os.Started) (H : Type) (enc : TypeId × Value → H) :
    ReturnsInHanded {} Tryz.checked os 10 .any (fun w args => (Rows.propertyParsesSpec.pre enc Tryz.prog Tryz.f10 [] false w args ∧ laidMetH Tryz.prog Rows.propertyParsesRow.laid w) ∧ sizedMet enc Tryz.prog Tryz.f10 (OpenSpec.ofChange Rows.propertyParsesSpec) false w args)
      (Rows.propertyParsesSpec.post enc Tryz.prog Tryz.f10 false true false false) := by
  refine ret_shaped (C := Tryz.checked) (X := fun w _ => laidMetH Tryz.prog Rows.propertyParsesRow.laid w) (fun _ _ _ hh h => h.of_heap hh) own started (by kernel_rfl) Tryz.func10
    (ChangeSpec.witness_shaped (enc := enc) (C := Tryz.checked) (os := os) (X := fun w _ => laidMetH Tryz.prog Rows.propertyParsesRow.laid w) false (World.laidAll Tryz.prog os Rows.propertyParsesRow.laid) #[.string ⟨#[]⟩] 8 (World.laidAll_os _ _ _)
      (World.shaped_of_ZipB (by kernel_rfl) (by kernel_rfl)) (by kernel_rfl) (by kernel_rfl) (by kernel_rfl)
      (by rw [MakeChecks.laidMetH_plain _ _ _ (by kernel_rfl)]; exact laidMet_laidAll _ (by kernel_rfl) (by kernel_rfl))) ?_
  intro W base args ds gs before hval0 hW hL hsh
  have hval : ∀ (j : Nat) t v, Tryz.f10.params[j]? = some t → args[j]? = some v → Value.okWide Tryz.prog W .any base t v := hval0
  have hW' := hW
  obtain ⟨p, q, hA0, hV, rfl, hfz, hnd⟩ := hW
  have hA : DataW.TrodAll enc Tryz.prog W 0 (fun _ => true) true Tryz.f10.params.toList args.toList ds p := hA0
  rw [Tryz.params10] at hA hval
  obtain ⟨v1, d1, rfl, rfl, h1⟩ := trodAll_one hA
  obtain ⟨rfl, rfl⟩ := trodVars_none hV
  have hlt : ∀ x ∈ p, x.block < W.heap.size := fun x hx => by simpa using hW'.lt x (by simpa using hx)
  have hargs1 : ∀ (W' : World), Below W.heap.size W W' → DataW.Trod enc Tryz.prog W' 0 (fun b => decide (b < W.heap.size)) true 9 v1 d1 p :=
    fun W' hn => Below.trod laidOut (by kernel_rfl) (of_decide_eq_true (by kernel_rfl)) h1 hn (fun x hx => hlt x (by simp [hx]))
  obtain ⟨s0, rfl⟩ := okWide_string Tryz.underlying9 (hval 0 9 v1 rfl rfl)
  obtain ⟨mx, hm⟩ := max_of hsh
  have hin : RepL (memOf W) [] (ctLawPs.inp s0) #[.string s0].toList := RepL.cons (Rep.val _) RepL.nil
  have hcall := (lawPPs_ok (mx := mx)).2.2 s0 trivial (memOf W) W #[.string s0] (memOf_fits W) (gl_ok hL hm) hin 0
  refine (callsIn_wide.1 hcall).mono fun e W' hR => ?_
  obtain ⟨M', u, rfl, _, _, _, hu, hb⟩ := hR
  have hu' : u = .bool true := hu
  subst hu'
  simp only [List.append_nil] at hW'
  refine ⟨_, rfl, _, _, _, [], p, [], hW', ?_, ?_, rfl, hb.frame _, fun h => by cases h⟩
  · exact trodAll_mk1 (shut_bool Tryz.underlying4 true)
  · exact trodAll_mk1 (hargs1 _ hb)

theorem rowPPs_f : Tryz.prog.funcNamed Rows.propertyParsesRow.func = some 10 := by kernel_rfl
theorem rowPPs_c9 : (Rows.propertyParsesRow.inPlace == Tryz.prog.inPlace 10) = true := by kernel_rfl
theorem rowPPs_c10 : (Rows.propertyParsesRow.unfollowed == Tryz.prog.unfollowed 10) = true := by kernel_rfl
theorem rowPPs_c11 : (Rows.propertyParsesRow.recurses == Tryz.prog.recurses 10) = true := by kernel_rfl
theorem rowPPs_c12 : (Rows.propertyParsesRow.named == Tryz.prog.varsNamed 10) = true := by kernel_rfl
theorem rowPPs_c0 : Rows.propertyParsesRow.wf (OpenSpec.ofChange Rows.propertyParsesSpec) = true := by kernel_rfl
theorem rowPPs_c3 : Tryz.f10.params.all (Tryz.prog.readableRec ·) = true := by kernel_rfl
theorem rowPPs_c4 : namedTie Tryz.prog Rows.propertyParsesRow.named Rows.propertyParsesSpec.vars = true := by kernel_rfl
theorem rowPPs_c5 : (Rows.propertyParsesRow.stops == []) = true := by kernel_rfl
theorem rowPPs_c6 : (Tryz.prog.stops == []) = true := by kernel_rfl
theorem rowPPs_c7 : (Rows.propertyParsesRow.knobs == []) = true := by kernel_rfl
theorem rowPPs_c8 : (Tryz.prog.stopKnobs == []) = true := by kernel_rfl
theorem rowPPs_c13 : (Rows.propertyParsesRow.maps == (Tryz.f10.params.toList ++ Rows.propertyParsesSpec.plain.varTypes Tryz.prog).any (Tryz.prog.mapsRec ·)) = true := by kernel_rfl
theorem rowPPs_c14 : (Rows.propertyParsesRow.ifaces == (Tryz.f10.params.toList ++ Rows.propertyParsesSpec.plain.varTypes Tryz.prog).any (Tryz.prog.ifacesRec ·)) = true := by kernel_rfl
theorem rowPPs_c15 : (Rows.propertyParsesRow.mapsOut == Tryz.prog.mapsAmong Tryz.f10.resultTypes.toList) = true := by kernel_rfl
theorem rowPPs_c16 : (Rows.propertyParsesRow.loops == (Tryz.f10.params.toList ++ Rows.propertyParsesSpec.plain.varTypes Tryz.prog).any (Tryz.prog.loopsFrom ·)) = true := by kernel_rfl
theorem rowPPs_c17 : (Rows.propertyParsesRow.wideKeys == (Tryz.f10.params.toList ++ Rows.propertyParsesSpec.plain.varTypes Tryz.prog ++ Tryz.f10.resultTypes.toList).any (Tryz.prog.wideKeysFrom ·)) = true := by kernel_rfl
theorem rowPPs_c18 : Rows.propertyParsesSpec.vars.all (Tryz.prog.varReadable ·) = true := by kernel_rfl
theorem rowPPs_c19 : Tryz.f10.resultTypes.all (fun t => Tryz.prog.readableRec t && decide (t < Tryz.prog.types.size)) = true := by kernel_rfl
theorem rowPPs_c20 : (Rows.propertyParsesRow.ifacesOut == Tryz.f10.resultTypes.toList.any (Tryz.prog.ifacesRec ·)) = true := by kernel_rfl
theorem rowPPs_c21 : (Rows.propertyParsesRow.loopsOut == Tryz.f10.resultTypes.toList.any (Tryz.prog.loopsFrom ·)) = true := by kernel_rfl
theorem rowPPs_c22 : (Rows.propertyParsesRow.plainKeys == Tryz.prog.plainKeys) = true := by kernel_rfl
theorem rowPPs_c23 : Rows.propertyParsesRow.shortTexts.isNone = true := by kernel_rfl
theorem rowPPs_c26 : (Rows.propertyParsesRow.lifted == Tryz.prog.liftsFinal) = true := by rw [show Rows.propertyParsesRow.lifted = Rows.propertyMakesRow.lifted from by kernel_rfl]; exact jfLift
theorem rowPPs_c27 : (Tryz.prog.make == some Rows.propertyParsesRow.make) = true := by rw [show Rows.propertyParsesRow.make = Rows.propertyMakesRow.make from by kernel_rfl]; exact jfMake
theorem rowPPs_c29 : (Rows.propertyParsesRow.pinned == Rows.propertyParsesRow.pinnedBy) = true := by kernel_rfl
theorem rowPPs_c30 : (Rows.propertyParsesRow.veiled == (Tryz.f10.params.toList ++ Rows.propertyParsesSpec.plain.varTypes Tryz.prog ++ Tryz.f10.resultTypes.toList).any (Tryz.prog.veiledRec ·)) = true := by kernel_rfl
theorem rowPPs_c31 : Rows.propertyParsesRow.veiledFits Tryz.prog Tryz.f10.params.toList (Tryz.f10.params.toList ++ Rows.propertyParsesSpec.plain.varTypes Tryz.prog ++ Tryz.f10.resultTypes.toList) = true := by kernel_rfl
theorem rowPPs_c : joinedFacts Tryz.prog 10 Tryz.f10 Rows.propertyParsesSpec Rows.propertyParsesRow = true := and2 (and2 (and2 (and2 (and2 (and2 (and2 (and2 (and2 (and2 (and2 (and2 (and2 (and2 (and2 (and2 (and2 (and2 (and2 (and2 (and2 (and2 (and2 (and2 (and2 (and2 (and2 (and2 (and2 (and2 (and2 (rowPPs_c0) jfOut) jfMaps) rowPPs_c3) rowPPs_c4) rowPPs_c5) rowPPs_c6) rowPPs_c7) rowPPs_c8) rowPPs_c9) rowPPs_c10) rowPPs_c11) rowPPs_c12) rowPPs_c13) rowPPs_c14) rowPPs_c15) rowPPs_c16) rowPPs_c17) rowPPs_c18) rowPPs_c19) rowPPs_c20) rowPPs_c21) rowPPs_c22) rowPPs_c23) jfHeard) jfEnter) rowPPs_c26) rowPPs_c27) (by kernel_rfl)) rowPPs_c29) rowPPs_c30) rowPPs_c31
theorem rowPPs_i : Tryz.f10.isInstance Tryz.prog Rows.propertyParsesRow.origin Rows.propertyParsesRow.targs := of_decide_eq_true (by kernel_rfl)
theorem rowPPs_w : Tryz.f10.isWrapper Tryz.prog Rows.propertyParsesRow.wrapper Rows.propertyParsesRow.mainSum := by unfold Func.isWrapper; rw [if_neg (by decide +kernel)]; exact ⟨rfl, rfl⟩
theorem rowPPs_holds : Rows.PropertyParsesSaid :=
  OpenClaim.holds_of_wide 10 Tryz.f10 rfl rfl rfl rfl rfl rfl rfl ⟨rfl, rfl, rfl, rfl, rfl⟩ rfl rfl rfl rfl rfl rowPPs_f Tryz.func10 rowPPs_c rowPPs_i rowPPs_w
    (fun os started H enc _ => liftedPPs os started H enc)
end Go.Proofs.YtnegdnbodccgkaaGreatDoor

/-
  PropertyParses holds of the given program for every string: the tied card of the law's row. Conditions: none beyond the statement's own.
-/
namespace Go.Proofs.YtnegdnbodccgkaaGreatDoor
open Go

theorem cardPPs_w : Rows.propertyParsesRow.wfByText (OpenSpec.ofChange Rows.propertyParsesSpec) = true := by kernel_rfl
theorem cardPPs_m : Tryz.prog.mainIs = some ((true, "b51e56a30bc901be52aaec5961e83d822cee2a9bfd6ff7c63c66ef8a76d70f5d").1, (true, "b51e56a30bc901be52aaec5961e83d822cee2a9bfd6ff7c63c66ef8a76d70f5d").2.toList) := by kernel_rfl
theorem cardPPs_l : false = Tryz.prog.looks [] := by kernel_rfl
theorem cardPPs_f : Tryz.prog.funcNamed "unicodetext/unicodetextlaw10.PropertyParses" = some 10 := by kernel_rfl
theorem cardPPs_s : ([9].all fun u => !Tryz.prog.wantsStandIn u) = true := by kernel_rfl
theorem cardPPs_g : false = Rows.propertyParsesRow.goesBy Tryz.prog := by kernel_rfl
theorem propertyParses_holds : Rows.PropertyParsesCardSaid :=
  Claim7.holds_tied_plain_at .later [] [.data, .data, .pinned] true (true, "b51e56a30bc901be52aaec5961e83d822cee2a9bfd6ff7c63c66ef8a76d70f5d") false
    rowPPs_holds (fun _ h => by cases h) cardPPs_w (fun _ h => by cases h) propertyParses_row_tie rfl ⟨rfl, rfl⟩ cardPPs_m rfl
    (fun f fn hf hfn => by
      obtain rfl : f = 10 := Option.some.inj (cardPPs_f.symm.trans hf) |>.symm
      obtain rfl : fn = Tryz.f10 := (Option.some.inj (Tryz.func10.symm.trans hfn)).symm
      exact ⟨cardPPs_l, fun j t ht => by
        rw [Tryz.params10] at ht
        have hm : t ∈ [9] := by simpa using Array.mem_of_getElem? ht
        exact (show Tryz.prog.wantsStandIn t = false by simpa using List.all_eq_true.1 cardPPs_s t hm)⟩)
    cardPPs_g
#print axioms propertyParses_holds
end Go.Proofs.YtnegdnbodccgkaaGreatDoor
