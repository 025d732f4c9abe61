import Derived.Test.YtnegdnbodccgkaaGreatDoorRo10
import Derived.Test.YtnegdnbodccgkaaGreatDoorLPm
import Derived.Test.YtnegdnbodccgkaaGreatDoorJf
set_option linter.unusedVariables false
set_option linter.unusedSimpArgs false
namespace Go.Proofs.YtnegdnbodccgkaaGreatDoor
open Go Go.Sx Go.ChangeShapes Go.WideShapes Go.ChangeAt Go.RowKit
set_option maxRecDepth 100000 in
theorem liftedPMk (os : Os) (started : os.Started) (H : Type) (enc : TypeId × Value → H) :
    ReturnsInHanded {} Tryz.checked os 7 .any (fun w args => (Rows.propertyMakesSpec.pre enc Tryz.prog Tryz.f7 [] false w args ∧ laidMetH Tryz.prog Rows.propertyMakesRow.laid w) ∧ sizedMet enc Tryz.prog Tryz.f7 (OpenSpec.ofChange Rows.propertyMakesSpec) false w args)
      (Rows.propertyMakesSpec.post enc Tryz.prog Tryz.f7 false true false false) := by
  refine ret_shaped (C := Tryz.checked) (X := fun w _ => laidMetH Tryz.prog Rows.propertyMakesRow.laid w) (fun _ _ _ hh h => h.of_heap hh) own started (by kernel_rfl) Tryz.func7
    (ChangeSpec.witness_shaped (enc := enc) (C := Tryz.checked) (os := os) (X := fun w _ => laidMetH Tryz.prog Rows.propertyMakesRow.laid w) false (World.laidAll Tryz.prog os Rows.propertyMakesRow.laid) #[.slice none 0 0, .slice none 0 0] 8 (World.laidAll_os _ _ _)
      (World.shaped_of_ZipB (by kernel_rfl) (by kernel_rfl)) (by kernel_rfl) (by kernel_rfl) (by kernel_rfl)
      (by rw [MakeChecks.laidMetH_plain _ _ _ (by kernel_rfl)]; exact laidMet_laidAll _ (by kernel_rfl) (by kernel_rfl))) ?_
  intro W base args ds gs before hval0 hW hL hsh
  have hval : ∀ (j : Nat) t v, Tryz.f7.params[j]? = some t → args[j]? = some v → Value.okWide Tryz.prog W .any base t v := hval0
  have hW' := hW
  obtain ⟨p, q, hA0, hV, rfl, hfz, hnd⟩ := hW
  have hA : DataW.TrodAll enc Tryz.prog W 0 (fun _ => true) true Tryz.f7.params.toList args.toList ds p := hA0
  rw [Tryz.params7] at hA hval
  obtain ⟨v1, v2, d1, d2, p1, p2, rfl, rfl, rfl, h1, h2⟩ := trodAll_two hA
  obtain ⟨rfl, rfl⟩ := trodVars_none hV
  have hlt : ∀ x ∈ p1 ++ p2, x.block < W.heap.size := fun x hx => by simpa using hW'.lt x (by simpa using hx)
  have hargs1 : ∀ (W' : World), Below W.heap.size W W' → DataW.Trod enc Tryz.prog W' 0 (fun b => decide (b < W.heap.size)) true 24 v1 d1 p1 :=
    fun W' hn => Below.trod laidOut (by kernel_rfl) (of_decide_eq_true (by kernel_rfl)) h1 hn (fun x hx => hlt x (by simp [hx]))
  have hargs2 : ∀ (W' : World), Below W.heap.size W W' → DataW.Trod enc Tryz.prog W' 0 (fun b => decide (b < W.heap.size)) true 25 v2 d2 p2 :=
    fun W' hn => Below.trod laidOut (by kernel_rfl) (of_decide_eq_true (by kernel_rfl)) h2 hn (fun x hx => hlt x (by simp [hx]))
  obtain ⟨c0, ok0, hrep0⟩ := open_one (okWide_slice Tryz.underlying24 (hval 0 24 v1 rfl rfl)) h1 opens_strs
  have hrep0 : Rep (memOf W) [] (slD 1 strD c0) v1 := hrep0
  obtain ⟨c1, ok1, hrep1⟩ := open_one (okWide_slice Tryz.underlying25 (hval 1 25 v2 rfl rfl)) h2 opens_sps
  have hrep1 : Rep (memOf W) [] (spsD c1) v2 := hrep1
  obtain ⟨mx, hm⟩ := max_of hsh
  have hin : RepL (memOf W) [] (ctLawM.inp (c0, c1)) #[v1, v2].toList := RepL.cons hrep0 (RepL.cons hrep1 RepL.nil)
  have hcall := (lawPMk_ok (mx := mx)).2.2 (c0, c1) trivial (memOf W) W #[v1, v2] (memOf_fits W) (gl_ok hL hm) hin 0
  refine (callsIn_wide.1 hcall).mono fun e W' hR => ?_
  obtain ⟨M', u, rfl, _, _, _, hu, hb⟩ := hR
  have hu' : u = .bool true := hu
  subst hu'
  simp only [List.append_nil] at hW'
  refine ⟨_, rfl, _, _, _, [], p1 ++ p2, [], hW', ?_, ?_, rfl, hb.frame _, fun h => by cases h⟩
  · exact trodAll_mk1 (shut_bool Tryz.underlying4 true)
  · exact trodAll_mk2 (hargs1 _ hb) (hargs2 _ hb)

theorem rowPMk_f : Tryz.prog.funcNamed Rows.propertyMakesRow.func = some 7 := by kernel_rfl
theorem rowPMk_c9 : (Rows.propertyMakesRow.inPlace == Tryz.prog.inPlace 7) = true := by kernel_rfl
theorem rowPMk_c10 : (Rows.propertyMakesRow.unfollowed == Tryz.prog.unfollowed 7) = true := by kernel_rfl
theorem rowPMk_c11 : (Rows.propertyMakesRow.recurses == Tryz.prog.recurses 7) = true := by kernel_rfl
theorem rowPMk_c12 : (Rows.propertyMakesRow.named == Tryz.prog.varsNamed 7) = true := by kernel_rfl
theorem rowPMk_c0 : Rows.propertyMakesRow.wf (OpenSpec.ofChange Rows.propertyMakesSpec) = true := by kernel_rfl
theorem rowPMk_c3 : Tryz.f7.params.all (Tryz.prog.readableRec ·) = true := by kernel_rfl
theorem rowPMk_c4 : namedTie Tryz.prog Rows.propertyMakesRow.named Rows.propertyMakesSpec.vars = true := by kernel_rfl
theorem rowPMk_c5 : (Rows.propertyMakesRow.stops == []) = true := by kernel_rfl
theorem rowPMk_c6 : (Tryz.prog.stops == []) = true := by kernel_rfl
theorem rowPMk_c7 : (Rows.propertyMakesRow.knobs == []) = true := by kernel_rfl
theorem rowPMk_c8 : (Tryz.prog.stopKnobs == []) = true := by kernel_rfl
theorem rowPMk_c13 : (Rows.propertyMakesRow.maps == (Tryz.f7.params.toList ++ Rows.propertyMakesSpec.plain.varTypes Tryz.prog).any (Tryz.prog.mapsRec ·)) = true := by kernel_rfl
theorem rowPMk_c14 : (Rows.propertyMakesRow.ifaces == (Tryz.f7.params.toList ++ Rows.propertyMakesSpec.plain.varTypes Tryz.prog).any (Tryz.prog.ifacesRec ·)) = true := by kernel_rfl
theorem rowPMk_c15 : (Rows.propertyMakesRow.mapsOut == Tryz.prog.mapsAmong Tryz.f7.resultTypes.toList) = true := by kernel_rfl
theorem rowPMk_c16 : (Rows.propertyMakesRow.loops == (Tryz.f7.params.toList ++ Rows.propertyMakesSpec.plain.varTypes Tryz.prog).any (Tryz.prog.loopsFrom ·)) = true := by kernel_rfl
theorem rowPMk_c17 : (Rows.propertyMakesRow.wideKeys == (Tryz.f7.params.toList ++ Rows.propertyMakesSpec.plain.varTypes Tryz.prog ++ Tryz.f7.resultTypes.toList).any (Tryz.prog.wideKeysFrom ·)) = true := by kernel_rfl
theorem rowPMk_c18 : Rows.propertyMakesSpec.vars.all (Tryz.prog.varReadable ·) = true := by kernel_rfl
theorem rowPMk_c19 : Tryz.f7.resultTypes.all (fun t => Tryz.prog.readableRec t && decide (t < Tryz.prog.types.size)) = true := by kernel_rfl
theorem rowPMk_c20 : (Rows.propertyMakesRow.ifacesOut == Tryz.f7.resultTypes.toList.any (Tryz.prog.ifacesRec ·)) = true := by kernel_rfl
theorem rowPMk_c21 : (Rows.propertyMakesRow.loopsOut == Tryz.f7.resultTypes.toList.any (Tryz.prog.loopsFrom ·)) = true := by kernel_rfl
theorem rowPMk_c22 : (Rows.propertyMakesRow.plainKeys == Tryz.prog.plainKeys) = true := by kernel_rfl
theorem rowPMk_c23 : Rows.propertyMakesRow.shortTexts.isNone = true := by kernel_rfl
theorem rowPMk_c26 : (Rows.propertyMakesRow.lifted == Tryz.prog.liftsFinal) = true := by rw [show Rows.propertyMakesRow.lifted = Rows.propertyMakesRow.lifted from by kernel_rfl]; exact jfLift
theorem rowPMk_c27 : (Tryz.prog.make == some Rows.propertyMakesRow.make) = true := by rw [show Rows.propertyMakesRow.make = Rows.propertyMakesRow.make from by kernel_rfl]; exact jfMake
theorem rowPMk_c29 : (Rows.propertyMakesRow.pinned == Rows.propertyMakesRow.pinnedBy) = true := by kernel_rfl
theorem rowPMk_c30 : (Rows.propertyMakesRow.veiled == (Tryz.f7.params.toList ++ Rows.propertyMakesSpec.plain.varTypes Tryz.prog ++ Tryz.f7.resultTypes.toList).any (Tryz.prog.veiledRec ·)) = true := by kernel_rfl
theorem rowPMk_c31 : Rows.propertyMakesRow.veiledFits Tryz.prog Tryz.f7.params.toList (Tryz.f7.params.toList ++ Rows.propertyMakesSpec.plain.varTypes Tryz.prog ++ Tryz.f7.resultTypes.toList) = true := by kernel_rfl
theorem rowPMk_c : joinedFacts Tryz.prog 7 Tryz.f7 Rows.propertyMakesSpec Rows.propertyMakesRow = true := and2 (and2 (and2 (and2 (and2 (and2 (and2 (and2 (and2 (and2 (and2 (and2 (and2 (and2 (and2 (and2 (and2 (and2 (and2 (and2 (and2 (and2 (and2 (and2 (and2 (and2 (and2 (and2 (and2 (and2 (and2 (rowPMk_c0) jfOut) jfMaps) rowPMk_c3) rowPMk_c4) rowPMk_c5) rowPMk_c6) rowPMk_c7) rowPMk_c8) rowPMk_c9) rowPMk_c10) rowPMk_c11) rowPMk_c12) rowPMk_c13) rowPMk_c14) rowPMk_c15) rowPMk_c16) rowPMk_c17) rowPMk_c18) rowPMk_c19) rowPMk_c20) rowPMk_c21) rowPMk_c22) rowPMk_c23) jfHeard) jfEnter) rowPMk_c26) rowPMk_c27) (by kernel_rfl)) rowPMk_c29) rowPMk_c30) rowPMk_c31
theorem rowPMk_i : Tryz.f7.isInstance Tryz.prog Rows.propertyMakesRow.origin Rows.propertyMakesRow.targs := of_decide_eq_true (by kernel_rfl)
theorem rowPMk_w : Tryz.f7.isWrapper Tryz.prog Rows.propertyMakesRow.wrapper Rows.propertyMakesRow.mainSum := by unfold Func.isWrapper; rw [if_neg (by decide +kernel)]; exact ⟨rfl, rfl⟩
theorem rowPMk_holds : Rows.PropertyMakesSaid :=
  OpenClaim.holds_of_wide 7 Tryz.f7 rfl rfl rfl rfl rfl rfl rfl ⟨rfl, rfl, rfl, rfl, rfl⟩ rfl rfl rfl rfl rfl rowPMk_f Tryz.func7 rowPMk_c rowPMk_i rowPMk_w
    (fun os started H enc _ => liftedPMk os started H enc)
end Go.Proofs.YtnegdnbodccgkaaGreatDoor
