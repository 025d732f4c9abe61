import Derived.Test.YtnegdnbodccgkaaGreatDoorRo11
import Derived.Test.YtnegdnbodccgkaaGreatDoorLMm
import Derived.Test.YtnegdnbodccgkaaGreatDoorJf
set_option linter.unusedVariables false
set_option linter.unusedSimpArgs false
namespace Go.Proofs.YtnegdnbodccgkaaGreatDoor
open Go Go.Sx Go.ChangeShapes Go.WideShapes Go.ChangeAt Go.RowKit
set_option maxRecDepth 100000 in
theorem liftedMMk (os : Os) (started : os.Started) (H : Type) (enc : TypeId × Value → H) :
    ReturnsInHanded {} Tryz.checked os 6 .any (fun w args => (Rows.mappingMakesSpec.pre enc Tryz.prog Tryz.f6 [] false w args ∧ laidMetH Tryz.prog Rows.mappingMakesRow.laid w) ∧ sizedMet enc Tryz.prog Tryz.f6 (OpenSpec.ofChange Rows.mappingMakesSpec) false w args)
      (Rows.mappingMakesSpec.post enc Tryz.prog Tryz.f6 false true false false) := by
  refine ret_shaped (C := Tryz.checked) (X := fun w _ => laidMetH Tryz.prog Rows.mappingMakesRow.laid w) (fun _ _ _ hh h => h.of_heap hh) own started (by kernel_rfl) Tryz.func6
    (ChangeSpec.witness_shaped (enc := enc) (C := Tryz.checked) (os := os) (X := fun w _ => laidMetH Tryz.prog Rows.mappingMakesRow.laid w) false (World.laidAll Tryz.prog os Rows.mappingMakesRow.laid) #[.slice none 0 0] 8 (World.laidAll_os _ _ _)
      (World.shaped_of_ZipB (by kernel_rfl) (by kernel_rfl)) (by kernel_rfl) (by kernel_rfl) (by kernel_rfl)
      (by rw [MakeChecks.laidMetH_plain _ _ _ (by kernel_rfl)]; exact laidMet_laidAll _ (by kernel_rfl) (by kernel_rfl))) ?_
  intro W base args ds gs before hval0 hW hL hsh
  have hval : ∀ (j : Nat) t v, Tryz.f6.params[j]? = some t → args[j]? = some v → Value.okWide Tryz.prog W .any base t v := hval0
  have hW' := hW
  obtain ⟨p, q, hA0, hV, rfl, hfz, hnd⟩ := hW
  have hA : DataW.TrodAll enc Tryz.prog W 0 (fun _ => true) true Tryz.f6.params.toList args.toList ds p := hA0
  rw [Tryz.params6] at hA hval
  obtain ⟨v1, d1, rfl, rfl, h1⟩ := trodAll_one hA
  obtain ⟨rfl, rfl⟩ := trodVars_none hV
  have hlt : ∀ x ∈ p, x.block < W.heap.size := fun x hx => by simpa using hW'.lt x (by simpa using hx)
  have hargs1 : ∀ (W' : World), Below W.heap.size W W' → DataW.Trod enc Tryz.prog W' 0 (fun b => decide (b < W.heap.size)) true 28 v1 d1 p :=
    fun W' hn => Below.trod laidOut (by kernel_rfl) (of_decide_eq_true (by kernel_rfl)) h1 hn (fun x hx => hlt x (by simp [hx]))
  obtain ⟨c0, ok0, hrep0⟩ := open_one (okWide_slice Tryz.underlying28 (hval 0 28 v1 rfl rfl)) h1 opens_mps
  have hrep0 : Rep (memOf W) [] (mpsD c0) v1 := hrep0
  obtain ⟨mx, hm⟩ := max_of hsh
  have hin : RepL (memOf W) [] (ctLawMm.inp c0) #[v1].toList := RepL.cons hrep0 RepL.nil
  have hcall := (lawMMk_ok (mx := mx)).2.2 c0 ok0 (memOf W) W #[v1] (memOf_fits W) (gl_ok hL hm) hin 0
  refine (callsIn_wide.1 hcall).mono fun e W' hR => ?_
  obtain ⟨M', u, rfl, _, _, _, hu, hb⟩ := hR
  have hu' : u = .bool true := hu
  subst hu'
  simp only [List.append_nil] at hW'
  refine ⟨_, rfl, _, _, _, [], p, [], hW', ?_, ?_, rfl, hb.frame _, fun h => by cases h⟩
  · exact trodAll_mk1 (shut_bool Tryz.underlying4 true)
  · exact trodAll_mk1 (hargs1 _ hb)

theorem rowMMk_f : Tryz.prog.funcNamed Rows.mappingMakesRow.func = some 6 := by kernel_rfl
theorem rowMMk_c9 : (Rows.mappingMakesRow.inPlace == Tryz.prog.inPlace 6) = true := by kernel_rfl
theorem rowMMk_c10 : (Rows.mappingMakesRow.unfollowed == Tryz.prog.unfollowed 6) = true := by kernel_rfl
theorem rowMMk_c11 : (Rows.mappingMakesRow.recurses == Tryz.prog.recurses 6) = true := by kernel_rfl
theorem rowMMk_c12 : (Rows.mappingMakesRow.named == Tryz.prog.varsNamed 6) = true := by kernel_rfl
theorem rowMMk_c0 : Rows.mappingMakesRow.wf (OpenSpec.ofChange Rows.mappingMakesSpec) = true := by kernel_rfl
theorem rowMMk_c3 : Tryz.f6.params.all (Tryz.prog.readableRec ·) = true := by kernel_rfl
theorem rowMMk_c4 : namedTie Tryz.prog Rows.mappingMakesRow.named Rows.mappingMakesSpec.vars = true := by kernel_rfl
theorem rowMMk_c5 : (Rows.mappingMakesRow.stops == []) = true := by kernel_rfl
theorem rowMMk_c6 : (Tryz.prog.stops == []) = true := by kernel_rfl
theorem rowMMk_c7 : (Rows.mappingMakesRow.knobs == []) = true := by kernel_rfl
theorem rowMMk_c8 : (Tryz.prog.stopKnobs == []) = true := by kernel_rfl
theorem rowMMk_c13 : (Rows.mappingMakesRow.maps == (Tryz.f6.params.toList ++ Rows.mappingMakesSpec.plain.varTypes Tryz.prog).any (Tryz.prog.mapsRec ·)) = true := by kernel_rfl
theorem rowMMk_c14 : (Rows.mappingMakesRow.ifaces == (Tryz.f6.params.toList ++ Rows.mappingMakesSpec.plain.varTypes Tryz.prog).any (Tryz.prog.ifacesRec ·)) = true := by kernel_rfl
theorem rowMMk_c15 : (Rows.mappingMakesRow.mapsOut == Tryz.prog.mapsAmong Tryz.f6.resultTypes.toList) = true := by kernel_rfl
theorem rowMMk_c16 : (Rows.mappingMakesRow.loops == (Tryz.f6.params.toList ++ Rows.mappingMakesSpec.plain.varTypes Tryz.prog).any (Tryz.prog.loopsFrom ·)) = true := by kernel_rfl
theorem rowMMk_c17 : (Rows.mappingMakesRow.wideKeys == (Tryz.f6.params.toList ++ Rows.mappingMakesSpec.plain.varTypes Tryz.prog ++ Tryz.f6.resultTypes.toList).any (Tryz.prog.wideKeysFrom ·)) = true := by kernel_rfl
theorem rowMMk_c18 : Rows.mappingMakesSpec.vars.all (Tryz.prog.varReadable ·) = true := by kernel_rfl
theorem rowMMk_c19 : Tryz.f6.resultTypes.all (fun t => Tryz.prog.readableRec t && decide (t < Tryz.prog.types.size)) = true := by kernel_rfl
theorem rowMMk_c20 : (Rows.mappingMakesRow.ifacesOut == Tryz.f6.resultTypes.toList.any (Tryz.prog.ifacesRec ·)) = true := by kernel_rfl
theorem rowMMk_c21 : (Rows.mappingMakesRow.loopsOut == Tryz.f6.resultTypes.toList.any (Tryz.prog.loopsFrom ·)) = true := by kernel_rfl
theorem rowMMk_c22 : (Rows.mappingMakesRow.plainKeys == Tryz.prog.plainKeys) = true := by kernel_rfl
theorem rowMMk_c23 : Rows.mappingMakesRow.shortTexts.isNone = true := by kernel_rfl
theorem rowMMk_c26 : (Rows.mappingMakesRow.lifted == Tryz.prog.liftsFinal) = true := by rw [show Rows.mappingMakesRow.lifted = Rows.propertyMakesRow.lifted from by kernel_rfl]; exact jfLift
theorem rowMMk_c27 : (Tryz.prog.make == some Rows.mappingMakesRow.make) = true := by rw [show Rows.mappingMakesRow.make = Rows.propertyMakesRow.make from by kernel_rfl]; exact jfMake
theorem rowMMk_c29 : (Rows.mappingMakesRow.pinned == Rows.mappingMakesRow.pinnedBy) = true := by kernel_rfl
theorem rowMMk_c30 : (Rows.mappingMakesRow.veiled == (Tryz.f6.params.toList ++ Rows.mappingMakesSpec.plain.varTypes Tryz.prog ++ Tryz.f6.resultTypes.toList).any (Tryz.prog.veiledRec ·)) = true := by kernel_rfl
theorem rowMMk_c31 : Rows.mappingMakesRow.veiledFits Tryz.prog Tryz.f6.params.toList (Tryz.f6.params.toList ++ Rows.mappingMakesSpec.plain.varTypes Tryz.prog ++ Tryz.f6.resultTypes.toList) = true := by kernel_rfl
theorem rowMMk_c : joinedFacts Tryz.prog 6 Tryz.f6 Rows.mappingMakesSpec Rows.mappingMakesRow = true := and2 (and2 (and2 (and2 (and2 (and2 (and2 (and2 (and2 (and2 (and2 (and2 (and2 (and2 (and2 (and2 (and2 (and2 (and2 (and2 (and2 (and2 (and2 (and2 (and2 (and2 (and2 (and2 (and2 (and2 (and2 (rowMMk_c0) jfOut) jfMaps) rowMMk_c3) rowMMk_c4) rowMMk_c5) rowMMk_c6) rowMMk_c7) rowMMk_c8) rowMMk_c9) rowMMk_c10) rowMMk_c11) rowMMk_c12) rowMMk_c13) rowMMk_c14) rowMMk_c15) rowMMk_c16) rowMMk_c17) rowMMk_c18) rowMMk_c19) rowMMk_c20) rowMMk_c21) rowMMk_c22) rowMMk_c23) jfHeard) jfEnter) rowMMk_c26) rowMMk_c27) (by kernel_rfl)) rowMMk_c29) rowMMk_c30) rowMMk_c31
theorem rowMMk_i : Tryz.f6.isInstance Tryz.prog Rows.mappingMakesRow.origin Rows.mappingMakesRow.targs := of_decide_eq_true (by kernel_rfl)
theorem rowMMk_w : Tryz.f6.isWrapper Tryz.prog Rows.mappingMakesRow.wrapper Rows.mappingMakesRow.mainSum := by unfold Func.isWrapper; rw [if_neg (by decide +kernel)]; exact ⟨rfl, rfl⟩
theorem rowMMk_holds : Rows.MappingMakesSaid :=
  OpenClaim.holds_of_wide 6 Tryz.f6 rfl rfl rfl rfl rfl rfl rfl ⟨rfl, rfl, rfl, rfl, rfl⟩ rfl rfl rfl rfl rfl rowMMk_f Tryz.func6 rowMMk_c rowMMk_i rowMMk_w
    (fun os started H enc _ => liftedMMk os started H enc)
end Go.Proofs.YtnegdnbodccgkaaGreatDoor
