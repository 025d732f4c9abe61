import Derived.Test.YtcihhjjmcompkaaGreatDoorRo18
import Derived.Test.YtcihhjjmcompkaaGreatDoorL18t
import Derived.Test.YtcihhjjmcompkaaGreatDoorOpz
set_option linter.unusedVariables false
set_option linter.unusedSimpArgs false
namespace Go.Proofs.YtcihhjjmcompkaaGreatDoor
open Go Go.Sx Go.ChangeShapes Go.WideShapes Go.ChangeAt Go.RowKit
set_option maxRecDepth 100000 in
theorem liftedST (os : Os) (started : os.Started) (H : Type) (enc : TypeId × Value → H) :
    ReturnsInHanded {} Tryz.checked os 3 .any (fun w args => (Rows.setexprTextsSpec.pre enc Tryz.prog Tryz.f3 [] false w args ∧ laidMetH Tryz.prog Rows.setexprTextsRow.laid w) ∧ sizedMet enc Tryz.prog Tryz.f3 (OpenSpec.ofChange Rows.setexprTextsSpec) false w args)
      (Rows.setexprTextsSpec.post enc Tryz.prog Tryz.f3 false true false false) := by
  refine ret_shaped (C := Tryz.checked) (X := fun w _ => laidMetH Tryz.prog Rows.setexprTextsRow.laid w) (fun _ _ _ hh h => h.of_heap hh) own started (by kernel_rfl) Tryz.func3
    (ChangeSpec.witness_shaped (enc := enc) (C := Tryz.checked) (os := os) (X := fun w _ => laidMetH Tryz.prog Rows.setexprTextsRow.laid w) false (World.laidAll Tryz.prog os Rows.setexprTextsRow.laid) #[.agg #[.slice none 0 0]] 8 (World.laidAll_os _ _ _)
      (World.shaped_of_ZipB (by kernel_rfl) (by kernel_rfl)) (by kernel_rfl) (by kernel_rfl) (by kernel_rfl)
      (by rw [MakeChecks.laidMetH_plain _ _ _ (by kernel_rfl)]; exact laidMet_laidAll _ (by kernel_rfl) (by kernel_rfl))) ?_
  intro W base args ds gs before hval0 hW hL hsh
  have hval : ∀ (j : Nat) t v, Tryz.f3.params[j]? = some t → args[j]? = some v → Value.okWide Tryz.prog W .any base t v := hval0
  have hW' := hW
  obtain ⟨p, q, hA0, hV, rfl, hfz, hnd⟩ := hW
  have hA : DataW.TrodAll enc Tryz.prog W 0 (fun _ => true) true Tryz.f3.params.toList args.toList ds p := hA0
  rw [Tryz.params3] at hA hval
  obtain ⟨v1, d1, rfl, rfl, h1⟩ := trodAll_one hA
  obtain ⟨rfl, rfl⟩ := trodVars_none hV
  have hlt : ∀ x ∈ p, x.block < W.heap.size := fun x hx => by simpa using hW'.lt x (by simpa using hx)
  have hargs1 : ∀ (W' : World), Below W.heap.size W W' → DataW.Trod enc Tryz.prog W' 0 (fun b => decide (b < W.heap.size)) true 24 v1 d1 p :=
    fun W' hn => Below.trod laidOut (by kernel_rfl) (of_decide_eq_true (by kernel_rfl)) h1 hn (fun x hx => hlt x (by simp [hx]))
  obtain ⟨c0, ok0, hrep0⟩ := open_agg Tryz.underlying24 (hval 0 24 v1 rfl rfl) h1 opens_set1
  have hrep0 : Rep (memOf W) [] (setD c0) v1 := hrep0
  obtain ⟨mx, hm⟩ := max_of hsh
  have hin : RepL (memOf W) [] (ctLaw18S.inp c0) #[v1].toList := RepL.cons hrep0 RepL.nil
  have hcall := (lawST_ok (pb := false) (mx := mx)).2.2 c0 trivial (memOf W) W #[v1] (memOf_fits W) (gl_ok hL hm) hin 0
  refine (callsIn_wide.1 hcall).mono fun e W' hR => ?_
  obtain ⟨M', u, rfl, _, _, _, hu, hb⟩ := hR
  have hu' : u = .bool true := hu
  subst hu'
  simp only [List.append_nil] at hW'
  refine ⟨_, rfl, _, _, _, [], p, [], hW', ?_, ?_, rfl, hb.frame _, fun h => by cases h⟩
  · exact trodAll_mk1 (shut_bool Tryz.underlying4 true)
  · exact trodAll_mk1 (hargs1 _ hb)

theorem rowST_f : Tryz.prog.funcNamed Rows.setexprTextsRow.func = some 3 := by kernel_rfl
theorem rowST_c9 : (Rows.setexprTextsRow.inPlace == Tryz.prog.inPlace 3) = true := by kernel_rfl
theorem rowST_c10 : (Rows.setexprTextsRow.unfollowed == Tryz.prog.unfollowed 3) = true := by kernel_rfl
theorem rowST_c11 : (Rows.setexprTextsRow.recurses == Tryz.prog.recurses 3) = true := by kernel_rfl
theorem rowST_c12 : (Rows.setexprTextsRow.named == Tryz.prog.varsNamed 3) = true := by kernel_rfl
theorem rowST_c0 : Rows.setexprTextsRow.wf (OpenSpec.ofChange Rows.setexprTextsSpec) = true := by kernel_rfl
theorem rowST_c3 : Tryz.f3.params.all (Tryz.prog.readableRec ·) = true := by kernel_rfl
theorem rowST_c4 : namedTie Tryz.prog Rows.setexprTextsRow.named Rows.setexprTextsSpec.vars = true := by kernel_rfl
theorem rowST_c5 : (Rows.setexprTextsRow.stops == []) = true := by kernel_rfl
theorem rowST_c6 : (Tryz.prog.stops == []) = true := by kernel_rfl
theorem rowST_c7 : (Rows.setexprTextsRow.knobs == []) = true := by kernel_rfl
theorem rowST_c8 : (Tryz.prog.stopKnobs == []) = true := by kernel_rfl
theorem rowST_c13 : (Rows.setexprTextsRow.maps == (Tryz.f3.params.toList ++ Rows.setexprTextsSpec.plain.varTypes Tryz.prog).any (Tryz.prog.mapsRec ·)) = true := by kernel_rfl
theorem rowST_c14 : (Rows.setexprTextsRow.ifaces == (Tryz.f3.params.toList ++ Rows.setexprTextsSpec.plain.varTypes Tryz.prog).any (Tryz.prog.ifacesRec ·)) = true := by kernel_rfl
theorem rowST_c15 : (Rows.setexprTextsRow.mapsOut == Tryz.prog.mapsAmong Tryz.f3.resultTypes.toList) = true := by kernel_rfl
theorem rowST_c16 : (Rows.setexprTextsRow.loops == (Tryz.f3.params.toList ++ Rows.setexprTextsSpec.plain.varTypes Tryz.prog).any (Tryz.prog.loopsFrom ·)) = true := by kernel_rfl
theorem rowST_c17 : (Rows.setexprTextsRow.wideKeys == (Tryz.f3.params.toList ++ Rows.setexprTextsSpec.plain.varTypes Tryz.prog ++ Tryz.f3.resultTypes.toList).any (Tryz.prog.wideKeysFrom ·)) = true := by kernel_rfl
theorem rowST_c18 : Rows.setexprTextsSpec.vars.all (Tryz.prog.varReadable ·) = true := by kernel_rfl
theorem rowST_c19 : Tryz.f3.resultTypes.all (fun t => Tryz.prog.readableRec t && decide (t < Tryz.prog.types.size)) = true := by kernel_rfl
theorem rowST_c20 : (Rows.setexprTextsRow.ifacesOut == Tryz.f3.resultTypes.toList.any (Tryz.prog.ifacesRec ·)) = true := by kernel_rfl
theorem rowST_c21 : (Rows.setexprTextsRow.loopsOut == Tryz.f3.resultTypes.toList.any (Tryz.prog.loopsFrom ·)) = true := by kernel_rfl
theorem rowST_c22 : (Rows.setexprTextsRow.plainKeys == Tryz.prog.plainKeys) = true := by kernel_rfl
theorem rowST_c23 : Rows.setexprTextsRow.shortTexts.isNone = true := by kernel_rfl
theorem rowST_c26 : (Rows.setexprTextsRow.lifted == Tryz.prog.liftsFinal) = true := by rw [show Rows.setexprTextsRow.lifted = Rows.setexprTextsRow.lifted from by kernel_rfl]; exact jfLift
theorem rowST_c27 : (Tryz.prog.make == some Rows.setexprTextsRow.make) = true := by rw [show Rows.setexprTextsRow.make = Rows.setexprTextsRow.make from by kernel_rfl]; exact jfMake
theorem rowST_c29 : (Rows.setexprTextsRow.pinned == Rows.setexprTextsRow.pinnedBy) = true := by kernel_rfl
theorem rowST_c30 : (Rows.setexprTextsRow.veiled == (Tryz.f3.params.toList ++ Rows.setexprTextsSpec.plain.varTypes Tryz.prog ++ Tryz.f3.resultTypes.toList).any (Tryz.prog.veiledRec ·)) = true := by kernel_rfl
theorem rowST_c31 : Rows.setexprTextsRow.veiledFits Tryz.prog Tryz.f3.params.toList (Tryz.f3.params.toList ++ Rows.setexprTextsSpec.plain.varTypes Tryz.prog ++ Tryz.f3.resultTypes.toList) = true := by kernel_rfl
theorem rowST_c : joinedFacts Tryz.prog 3 Tryz.f3 Rows.setexprTextsSpec Rows.setexprTextsRow = true := and2 (and2 (and2 (and2 (and2 (and2 (and2 (and2 (and2 (and2 (and2 (and2 (and2 (and2 (and2 (and2 (and2 (and2 (and2 (and2 (and2 (and2 (and2 (and2 (and2 (and2 (and2 (and2 (and2 (and2 (and2 (rowST_c0) jfOut) jfMaps) rowST_c3) rowST_c4) rowST_c5) rowST_c6) rowST_c7) rowST_c8) rowST_c9) rowST_c10) rowST_c11) rowST_c12) rowST_c13) rowST_c14) rowST_c15) rowST_c16) rowST_c17) rowST_c18) rowST_c19) rowST_c20) rowST_c21) rowST_c22) rowST_c23) jfHeard) jfEnter) rowST_c26) rowST_c27) (by kernel_rfl)) rowST_c29) rowST_c30) rowST_c31
theorem rowST_i : Tryz.f3.isInstance Tryz.prog Rows.setexprTextsRow.origin Rows.setexprTextsRow.targs := of_decide_eq_true (by kernel_rfl)
theorem rowST_w : Tryz.f3.isWrapper Tryz.prog Rows.setexprTextsRow.wrapper Rows.setexprTextsRow.mainSum := by unfold Func.isWrapper; rw [if_neg (by decide +kernel)]; exact ⟨rfl, rfl⟩
theorem rowST_holds : Rows.SetexprTextsSaid :=
  OpenClaim.holds_of_wide 3 Tryz.f3 rfl rfl rfl rfl rfl rfl rfl ⟨rfl, rfl, rfl, rfl, rfl⟩ rfl rfl rfl rfl rfl rowST_f Tryz.func3 rowST_c rowST_i rowST_w
    (fun os started H enc _ => liftedST os started H enc)
end Go.Proofs.YtcihhjjmcompkaaGreatDoor
