import Derived.Test.YtnegdnbodccgkaaGreatDoorRo10
import Derived.Test.YtnegdnbodccgkaaGreatDoorLTz
import Derived.Test.YtnegdnbodccgkaaGreatDoorJf
set_option linter.unusedVariables false
set_option linter.unusedSimpArgs false
namespace Go.Proofs.YtnegdnbodccgkaaGreatDoor
open Go Go.Sx Go.ChangeShapes Go.WideShapes Go.ChangeAt Go.RowKit
set_option maxRecDepth 100000 in
theorem liftedPTx (os : Os) (started : os.Started) (H : Type) (enc : TypeId × Value → H) :
    ReturnsInHanded {} Tryz.checked os 9 .any (fun w args => (Rows.propertyTextsSpec.pre enc Tryz.prog Tryz.f9 [] false w args ∧ laidMetH Tryz.prog Rows.propertyTextsRow.laid w) ∧ sizedMet enc Tryz.prog Tryz.f9 (OpenSpec.ofChange Rows.propertyTextsSpec) false w args)
      (Rows.propertyTextsSpec.post enc Tryz.prog Tryz.f9 false true false false) := by
  refine ret_shaped (C := Tryz.checked) (X := fun w _ => laidMetH Tryz.prog Rows.propertyTextsRow.laid w) (fun _ _ _ hh h => h.of_heap hh) own started (by kernel_rfl) Tryz.func9
    (ChangeSpec.witness_shaped (enc := enc) (C := Tryz.checked) (os := os) (X := fun w _ => laidMetH Tryz.prog Rows.propertyTextsRow.laid w) false (World.laidAll Tryz.prog os Rows.propertyTextsRow.laid) #[.agg #[.slice none 0 0, .slice none 0 0]] 8 (World.laidAll_os _ _ _)
      (World.shaped_of_ZipB (by kernel_rfl) (by kernel_rfl)) (by kernel_rfl) (by kernel_rfl) (by kernel_rfl)
      (by rw [MakeChecks.laidMetH_plain _ _ _ (by kernel_rfl)]; exact laidMet_laidAll _ (by kernel_rfl) (by kernel_rfl))) ?_
  intro W base args ds gs before hval0 hW hL hsh
  have hval : ∀ (j : Nat) t v, Tryz.f9.params[j]? = some t → args[j]? = some v → Value.okWide Tryz.prog W .any base t v := hval0
  have hW' := hW
  obtain ⟨p, q, hA0, hV, rfl, hfz, hnd⟩ := hW
  have hA : DataW.TrodAll enc Tryz.prog W 0 (fun _ => true) true Tryz.f9.params.toList args.toList ds p := hA0
  rw [Tryz.params9] at hA hval
  obtain ⟨v1, d1, rfl, rfl, h1⟩ := trodAll_one hA
  obtain ⟨rfl, rfl⟩ := trodVars_none hV
  have hlt : ∀ x ∈ p, x.block < W.heap.size := fun x hx => by simpa using hW'.lt x (by simpa using hx)
  have hargs1 : ∀ (W' : World), Below W.heap.size W W' → DataW.Trod enc Tryz.prog W' 0 (fun b => decide (b < W.heap.size)) true 27 v1 d1 p :=
    fun W' hn => Below.trod laidOut (by kernel_rfl) (of_decide_eq_true (by kernel_rfl)) h1 hn (fun x hx => hlt x (by simp [hx]))
  obtain ⟨c0, ok0, hrep0⟩ := open_agg Tryz.underlying27 (hval 0 27 v1 rfl rfl) h1 opens_pr
  have hrep0 : Rep (memOf W) [] (prA c0) v1 := hrep0
  obtain ⟨mx, hm⟩ := max_of hsh
  have hin : RepL (memOf W) [] (ctLawPt.inp c0) #[v1].toList := RepL.cons hrep0 RepL.nil
  have hcall := (lawPTx_ok (mx := mx)).2.2 c0 trivial (memOf W) W #[v1] (memOf_fits W) (gl_ok hL hm) hin 0
  refine (callsIn_wide.1 hcall).mono fun e W' hR => ?_
  obtain ⟨M', u, rfl, _, _, _, hu, hb⟩ := hR
  have hu' : u = .bool true := hu
  subst hu'
  simp only [List.append_nil] at hW'
  refine ⟨_, rfl, _, _, _, [], p, [], hW', ?_, ?_, rfl, hb.frame _, fun h => by cases h⟩
  · exact trodAll_mk1 (shut_bool Tryz.underlying4 true)
  · exact trodAll_mk1 (hargs1 _ hb)

theorem rowPTx_f : Tryz.prog.funcNamed Rows.propertyTextsRow.func = some 9 := by kernel_rfl
theorem rowPTx_c9 : (Rows.propertyTextsRow.inPlace == Tryz.prog.inPlace 9) = true := by kernel_rfl
theorem rowPTx_c10 : (Rows.propertyTextsRow.unfollowed == Tryz.prog.unfollowed 9) = true := by kernel_rfl
theorem rowPTx_c11 : (Rows.propertyTextsRow.recurses == Tryz.prog.recurses 9) = true := by kernel_rfl
theorem rowPTx_c12 : (Rows.propertyTextsRow.named == Tryz.prog.varsNamed 9) = true := by kernel_rfl
theorem rowPTx_c0 : Rows.propertyTextsRow.wf (OpenSpec.ofChange Rows.propertyTextsSpec) = true := by kernel_rfl
theorem rowPTx_c3 : Tryz.f9.params.all (Tryz.prog.readableRec ·) = true := by kernel_rfl
theorem rowPTx_c4 : namedTie Tryz.prog Rows.propertyTextsRow.named Rows.propertyTextsSpec.vars = true := by kernel_rfl
theorem rowPTx_c5 : (Rows.propertyTextsRow.stops == []) = true := by kernel_rfl
theorem rowPTx_c6 : (Tryz.prog.stops == []) = true := by kernel_rfl
theorem rowPTx_c7 : (Rows.propertyTextsRow.knobs == []) = true := by kernel_rfl
theorem rowPTx_c8 : (Tryz.prog.stopKnobs == []) = true := by kernel_rfl
theorem rowPTx_c13 : (Rows.propertyTextsRow.maps == (Tryz.f9.params.toList ++ Rows.propertyTextsSpec.plain.varTypes Tryz.prog).any (Tryz.prog.mapsRec ·)) = true := by kernel_rfl
theorem rowPTx_c14 : (Rows.propertyTextsRow.ifaces == (Tryz.f9.params.toList ++ Rows.propertyTextsSpec.plain.varTypes Tryz.prog).any (Tryz.prog.ifacesRec ·)) = true := by kernel_rfl
theorem rowPTx_c15 : (Rows.propertyTextsRow.mapsOut == Tryz.prog.mapsAmong Tryz.f9.resultTypes.toList) = true := by kernel_rfl
theorem rowPTx_c16 : (Rows.propertyTextsRow.loops == (Tryz.f9.params.toList ++ Rows.propertyTextsSpec.plain.varTypes Tryz.prog).any (Tryz.prog.loopsFrom ·)) = true := by kernel_rfl
theorem rowPTx_c17 : (Rows.propertyTextsRow.wideKeys == (Tryz.f9.params.toList ++ Rows.propertyTextsSpec.plain.varTypes Tryz.prog ++ Tryz.f9.resultTypes.toList).any (Tryz.prog.wideKeysFrom ·)) = true := by kernel_rfl
theorem rowPTx_c18 : Rows.propertyTextsSpec.vars.all (Tryz.prog.varReadable ·) = true := by kernel_rfl
theorem rowPTx_c19 : Tryz.f9.resultTypes.all (fun t => Tryz.prog.readableRec t && decide (t < Tryz.prog.types.size)) = true := by kernel_rfl
theorem rowPTx_c20 : (Rows.propertyTextsRow.ifacesOut == Tryz.f9.resultTypes.toList.any (Tryz.prog.ifacesRec ·)) = true := by kernel_rfl
theorem rowPTx_c21 : (Rows.propertyTextsRow.loopsOut == Tryz.f9.resultTypes.toList.any (Tryz.prog.loopsFrom ·)) = true := by kernel_rfl
theorem rowPTx_c22 : (Rows.propertyTextsRow.plainKeys == Tryz.prog.plainKeys) = true := by kernel_rfl
theorem rowPTx_c23 : Rows.propertyTextsRow.shortTexts.isNone = true := by kernel_rfl
theorem rowPTx_c26 : (Rows.propertyTextsRow.lifted == Tryz.prog.liftsFinal) = true := by rw [show Rows.propertyTextsRow.lifted = Rows.propertyMakesRow.lifted from by kernel_rfl]; exact jfLift
theorem rowPTx_c27 : (Tryz.prog.make == some Rows.propertyTextsRow.make) = true := by rw [show Rows.propertyTextsRow.make = Rows.propertyMakesRow.make from by kernel_rfl]; exact jfMake
theorem rowPTx_c29 : (Rows.propertyTextsRow.pinned == Rows.propertyTextsRow.pinnedBy) = true := by kernel_rfl
theorem rowPTx_c30 : (Rows.propertyTextsRow.veiled == (Tryz.f9.params.toList ++ Rows.propertyTextsSpec.plain.varTypes Tryz.prog ++ Tryz.f9.resultTypes.toList).any (Tryz.prog.veiledRec ·)) = true := by kernel_rfl
theorem rowPTx_c31 : Rows.propertyTextsRow.veiledFits Tryz.prog Tryz.f9.params.toList (Tryz.f9.params.toList ++ Rows.propertyTextsSpec.plain.varTypes Tryz.prog ++ Tryz.f9.resultTypes.toList) = true := by kernel_rfl
theorem rowPTx_c : joinedFacts Tryz.prog 9 Tryz.f9 Rows.propertyTextsSpec Rows.propertyTextsRow = true := and2 (and2 (and2 (and2 (and2 (and2 (and2 (and2 (and2 (and2 (and2 (and2 (and2 (and2 (and2 (and2 (and2 (and2 (and2 (and2 (and2 (and2 (and2 (and2 (and2 (and2 (and2 (and2 (and2 (and2 (and2 (rowPTx_c0) jfOut) jfMaps) rowPTx_c3) rowPTx_c4) rowPTx_c5) rowPTx_c6) rowPTx_c7) rowPTx_c8) rowPTx_c9) rowPTx_c10) rowPTx_c11) rowPTx_c12) rowPTx_c13) rowPTx_c14) rowPTx_c15) rowPTx_c16) rowPTx_c17) rowPTx_c18) rowPTx_c19) rowPTx_c20) rowPTx_c21) rowPTx_c22) rowPTx_c23) jfHeard) jfEnter) rowPTx_c26) rowPTx_c27) (by kernel_rfl)) rowPTx_c29) rowPTx_c30) rowPTx_c31
theorem rowPTx_i : Tryz.f9.isInstance Tryz.prog Rows.propertyTextsRow.origin Rows.propertyTextsRow.targs := of_decide_eq_true (by kernel_rfl)
theorem rowPTx_w : Tryz.f9.isWrapper Tryz.prog Rows.propertyTextsRow.wrapper Rows.propertyTextsRow.mainSum := by unfold Func.isWrapper; rw [if_neg (by decide +kernel)]; exact ⟨rfl, rfl⟩
theorem rowPTx_holds : Rows.PropertyTextsSaid :=
  OpenClaim.holds_of_wide 9 Tryz.f9 rfl rfl rfl rfl rfl rfl rfl ⟨rfl, rfl, rfl, rfl, rfl⟩ rfl rfl rfl rfl rfl rowPTx_f Tryz.func9 rowPTx_c rowPTx_i rowPTx_w
    (fun os started H enc _ => liftedPTx os started H enc)
end Go.Proofs.YtnegdnbodccgkaaGreatDoor

/-
  PropertyTexts holds of the given program for every property: the tied card of the law's row. Conditions: none beyond the statement's own.
-/
namespace Go.Proofs.YtnegdnbodccgkaaGreatDoor
open Go

theorem cardPTx_w : Rows.propertyTextsRow.wfByText (OpenSpec.ofChange Rows.propertyTextsSpec) = true := by kernel_rfl
theorem cardPTx_m : Tryz.prog.mainIs = some ((true, "b51e56a30bc901be52aaec5961e83d822cee2a9bfd6ff7c63c66ef8a76d70f5d").1, (true, "b51e56a30bc901be52aaec5961e83d822cee2a9bfd6ff7c63c66ef8a76d70f5d").2.toList) := by kernel_rfl
theorem cardPTx_l : false = Tryz.prog.looks [] := by kernel_rfl
theorem cardPTx_f : Tryz.prog.funcNamed "unicodetext/unicodetextlaw10.PropertyTexts" = some 9 := by kernel_rfl
theorem cardPTx_s : ([27].all fun u => !Tryz.prog.wantsStandIn u) = true := by kernel_rfl
theorem cardPTx_g : false = Rows.propertyTextsRow.goesBy Tryz.prog := by kernel_rfl
theorem propertyTexts_holds : Rows.PropertyTextsCardSaid :=
  Claim7.holds_tied_plain_at .later [] [.data, .data, .pinned] true (true, "b51e56a30bc901be52aaec5961e83d822cee2a9bfd6ff7c63c66ef8a76d70f5d") false
    rowPTx_holds (fun _ h => by cases h) cardPTx_w (fun _ h => by cases h) propertyTexts_row_tie rfl ⟨rfl, rfl⟩ cardPTx_m rfl
    (fun f fn hf hfn => by
      obtain rfl : f = 9 := Option.some.inj (cardPTx_f.symm.trans hf) |>.symm
      obtain rfl : fn = Tryz.f9 := (Option.some.inj (Tryz.func9.symm.trans hfn)).symm
      exact ⟨cardPTx_l, fun j t ht => by
        rw [Tryz.params9] at ht
        have hm : t ∈ [27] := by simpa using Array.mem_of_getElem? ht
        exact (show Tryz.prog.wantsStandIn t = false by simpa using List.all_eq_true.1 cardPTx_s t hm)⟩)
    cardPTx_g
#print axioms propertyTexts_holds
end Go.Proofs.YtnegdnbodccgkaaGreatDoor
