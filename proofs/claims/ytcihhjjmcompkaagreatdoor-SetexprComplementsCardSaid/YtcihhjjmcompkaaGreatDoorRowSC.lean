import Derived.Test.YtcihhjjmcompkaaGreatDoorRo18
import Derived.Test.YtcihhjjmcompkaaGreatDoorL18c
import Derived.Test.YtcihhjjmcompkaaGreatDoorOpz
set_option linter.unusedVariables false
set_option linter.unusedSimpArgs false
namespace Go.Proofs.YtcihhjjmcompkaaGreatDoor
open Go Go.Sx Go.ChangeShapes Go.WideShapes Go.ChangeAt Go.RowKit
set_option maxRecDepth 100000 in
theorem liftedSC (os : Os) (started : os.Started) (H : Type) (enc : TypeId × Value → H) :
    ReturnsInHanded {} Tryz.checked os 4 .any (fun w args => (Rows.setexprComplementsSpec.pre enc Tryz.prog Tryz.f4 [] false w args ∧ laidMetH Tryz.prog Rows.setexprComplementsRow.laid w) ∧ sizedMet enc Tryz.prog Tryz.f4 (OpenSpec.ofChange Rows.setexprComplementsSpec) false w args)
      (Rows.setexprComplementsSpec.post enc Tryz.prog Tryz.f4 false true false false) := by
  refine ret_shaped (C := Tryz.checked) (X := fun w _ => laidMetH Tryz.prog Rows.setexprComplementsRow.laid w) (fun _ _ _ hh h => h.of_heap hh) own started (by kernel_rfl) Tryz.func4
    (ChangeSpec.witness_shaped (enc := enc) (C := Tryz.checked) (os := os) (X := fun w _ => laidMetH Tryz.prog Rows.setexprComplementsRow.laid w) false (World.laidAll Tryz.prog os Rows.setexprComplementsRow.laid) #[.string ⟨#[]⟩] 8 (World.laidAll_os _ _ _)
      (World.shaped_of_ZipB (by kernel_rfl) (by kernel_rfl)) (by kernel_rfl) (by kernel_rfl) (by kernel_rfl)
      (by rw [MakeChecks.laidMetH_plain _ _ _ (by kernel_rfl)]; exact laidMet_laidAll _ (by kernel_rfl) (by kernel_rfl))) ?_
  intro W base args ds gs before hval0 hW hL hsh
  have hval : ∀ (j : Nat) t v, Tryz.f4.params[j]? = some t → args[j]? = some v → Value.okWide Tryz.prog W .any base t v := hval0
  have hW' := hW
  obtain ⟨p, q, hA0, hV, rfl, hfz, hnd⟩ := hW
  have hA : DataW.TrodAll enc Tryz.prog W 0 (fun _ => true) true Tryz.f4.params.toList args.toList ds p := hA0
  rw [Tryz.params4] at hA hval
  obtain ⟨v1, d1, rfl, rfl, h1⟩ := trodAll_one hA
  obtain ⟨rfl, rfl⟩ := trodVars_none hV
  have hlt : ∀ x ∈ p, x.block < W.heap.size := fun x hx => by simpa using hW'.lt x (by simpa using hx)
  have hargs1 : ∀ (W' : World), Below W.heap.size W W' → DataW.Trod enc Tryz.prog W' 0 (fun b => decide (b < W.heap.size)) true 9 v1 d1 p :=
    fun W' hn => Below.trod laidOut (by kernel_rfl) (of_decide_eq_true (by kernel_rfl)) h1 hn (fun x hx => hlt x (by simp [hx]))
  obtain ⟨s0, rfl⟩ := okWide_string Tryz.underlying9 (hval 0 9 v1 rfl rfl)
  obtain ⟨mx, hm⟩ := max_of hsh
  have hin : RepL (memOf W) [] (ctLaw18.inp s0) #[.string s0].toList := RepL.cons (Rep.val _) RepL.nil
  have hcall := (lawSC_ok (pb := false) (mx := mx)).2.2 s0 trivial (memOf W) W #[.string s0] (memOf_fits W) (gl_ok hL hm) hin 0
  refine (callsIn_wide.1 hcall).mono fun e W' hR => ?_
  obtain ⟨M', u, rfl, _, _, _, hu, hb⟩ := hR
  have hu' : u = .bool true := hu
  subst hu'
  simp only [List.append_nil] at hW'
  refine ⟨_, rfl, _, _, _, [], p, [], hW', ?_, ?_, rfl, hb.frame _, fun h => by cases h⟩
  · exact trodAll_mk1 (shut_bool Tryz.underlying4 true)
  · exact trodAll_mk1 (hargs1 _ hb)
theorem rowSC_f : Tryz.prog.funcNamed Rows.setexprComplementsRow.func = some 4 := by kernel_rfl
theorem rowSC_c9 : (Rows.setexprComplementsRow.inPlace == Tryz.prog.inPlace 4) = true := by kernel_rfl
theorem rowSC_c10 : (Rows.setexprComplementsRow.unfollowed == Tryz.prog.unfollowed 4) = true := by kernel_rfl
theorem rowSC_c11 : (Rows.setexprComplementsRow.recurses == Tryz.prog.recurses 4) = true := by kernel_rfl
theorem rowSC_c12 : (Rows.setexprComplementsRow.named == Tryz.prog.varsNamed 4) = true := by kernel_rfl
theorem rowSC_c0 : Rows.setexprComplementsRow.wf (OpenSpec.ofChange Rows.setexprComplementsSpec) = true := by kernel_rfl
theorem rowSC_c3 : Tryz.f4.params.all (Tryz.prog.readableRec ·) = true := by kernel_rfl
theorem rowSC_c4 : namedTie Tryz.prog Rows.setexprComplementsRow.named Rows.setexprComplementsSpec.vars = true := by kernel_rfl
theorem rowSC_c5 : (Rows.setexprComplementsRow.stops == []) = true := by kernel_rfl
theorem rowSC_c6 : (Tryz.prog.stops == []) = true := by kernel_rfl
theorem rowSC_c7 : (Rows.setexprComplementsRow.knobs == []) = true := by kernel_rfl
theorem rowSC_c8 : (Tryz.prog.stopKnobs == []) = true := by kernel_rfl
theorem rowSC_c13 : (Rows.setexprComplementsRow.maps == (Tryz.f4.params.toList ++ Rows.setexprComplementsSpec.plain.varTypes Tryz.prog).any (Tryz.prog.mapsRec ·)) = true := by kernel_rfl
theorem rowSC_c14 : (Rows.setexprComplementsRow.ifaces == (Tryz.f4.params.toList ++ Rows.setexprComplementsSpec.plain.varTypes Tryz.prog).any (Tryz.prog.ifacesRec ·)) = true := by kernel_rfl
theorem rowSC_c15 : (Rows.setexprComplementsRow.mapsOut == Tryz.prog.mapsAmong Tryz.f4.resultTypes.toList) = true := by kernel_rfl
theorem rowSC_c16 : (Rows.setexprComplementsRow.loops == (Tryz.f4.params.toList ++ Rows.setexprComplementsSpec.plain.varTypes Tryz.prog).any (Tryz.prog.loopsFrom ·)) = true := by kernel_rfl
theorem rowSC_c17 : (Rows.setexprComplementsRow.wideKeys == (Tryz.f4.params.toList ++ Rows.setexprComplementsSpec.plain.varTypes Tryz.prog ++ Tryz.f4.resultTypes.toList).any (Tryz.prog.wideKeysFrom ·)) = true := by kernel_rfl
theorem rowSC_c18 : Rows.setexprComplementsSpec.vars.all (Tryz.prog.varReadable ·) = true := by kernel_rfl
theorem rowSC_c19 : Tryz.f4.resultTypes.all (fun t => Tryz.prog.readableRec t && decide (t < Tryz.prog.types.size)) = true := by kernel_rfl
theorem rowSC_c20 : (Rows.setexprComplementsRow.ifacesOut == Tryz.f4.resultTypes.toList.any (Tryz.prog.ifacesRec ·)) = true := by kernel_rfl
theorem rowSC_c21 : (Rows.setexprComplementsRow.loopsOut == Tryz.f4.resultTypes.toList.any (Tryz.prog.loopsFrom ·)) = true := by kernel_rfl
theorem rowSC_c22 : (Rows.setexprComplementsRow.plainKeys == Tryz.prog.plainKeys) = true := by kernel_rfl
theorem rowSC_c23 : Rows.setexprComplementsRow.shortTexts.isNone = true := by kernel_rfl
theorem rowSC_c26 : (Rows.setexprComplementsRow.lifted == Tryz.prog.liftsFinal) = true := by rw [show Rows.setexprComplementsRow.lifted = Rows.setexprTextsRow.lifted from by kernel_rfl]; exact jfLift
theorem rowSC_c27 : (Tryz.prog.make == some Rows.setexprComplementsRow.make) = true := by rw [show Rows.setexprComplementsRow.make = Rows.setexprTextsRow.make from by kernel_rfl]; exact jfMake
theorem rowSC_c29 : (Rows.setexprComplementsRow.pinned == Rows.setexprComplementsRow.pinnedBy) = true := by kernel_rfl
theorem rowSC_c30 : (Rows.setexprComplementsRow.veiled == (Tryz.f4.params.toList ++ Rows.setexprComplementsSpec.plain.varTypes Tryz.prog ++ Tryz.f4.resultTypes.toList).any (Tryz.prog.veiledRec ·)) = true := by kernel_rfl
theorem rowSC_c31 : Rows.setexprComplementsRow.veiledFits Tryz.prog Tryz.f4.params.toList (Tryz.f4.params.toList ++ Rows.setexprComplementsSpec.plain.varTypes Tryz.prog ++ Tryz.f4.resultTypes.toList) = true := by kernel_rfl
theorem rowSC_c : joinedFacts Tryz.prog 4 Tryz.f4 Rows.setexprComplementsSpec Rows.setexprComplementsRow = true := and2 (and2 (and2 (and2 (and2 (and2 (and2 (and2 (and2 (and2 (and2 (and2 (and2 (and2 (and2 (and2 (and2 (and2 (and2 (and2 (and2 (and2 (and2 (and2 (and2 (and2 (and2 (and2 (and2 (and2 (and2 (rowSC_c0) jfOut) jfMaps) rowSC_c3) rowSC_c4) rowSC_c5) rowSC_c6) rowSC_c7) rowSC_c8) rowSC_c9) rowSC_c10) rowSC_c11) rowSC_c12) rowSC_c13) rowSC_c14) rowSC_c15) rowSC_c16) rowSC_c17) rowSC_c18) rowSC_c19) rowSC_c20) rowSC_c21) rowSC_c22) rowSC_c23) jfHeard) jfEnter) rowSC_c26) rowSC_c27) (by kernel_rfl)) rowSC_c29) rowSC_c30) rowSC_c31
theorem rowSC_i : Tryz.f4.isInstance Tryz.prog Rows.setexprComplementsRow.origin Rows.setexprComplementsRow.targs := of_decide_eq_true (by kernel_rfl)
theorem rowSC_w : Tryz.f4.isWrapper Tryz.prog Rows.setexprComplementsRow.wrapper Rows.setexprComplementsRow.mainSum := by unfold Func.isWrapper; rw [if_neg (by decide +kernel)]; exact ⟨rfl, rfl⟩
theorem rowSC_holds : Rows.SetexprComplementsSaid :=
  OpenClaim.holds_of_wide 4 Tryz.f4 rfl rfl rfl rfl rfl rfl rfl ⟨rfl, rfl, rfl, rfl, rfl⟩ rfl rfl rfl rfl rfl rowSC_f Tryz.func4 rowSC_c rowSC_i rowSC_w
    (fun os started H enc _ => liftedSC os started H enc)
end Go.Proofs.YtcihhjjmcompkaaGreatDoor
