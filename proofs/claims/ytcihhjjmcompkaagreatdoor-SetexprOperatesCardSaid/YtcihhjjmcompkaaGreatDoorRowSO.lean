import Derived.Test.YtcihhjjmcompkaaGreatDoorRo18
import Derived.Test.YtcihhjjmcompkaaGreatDoorL18o
import Derived.Test.YtcihhjjmcompkaaGreatDoorOpz
set_option linter.unusedVariables false
set_option linter.unusedSimpArgs false
namespace Go.Proofs.YtcihhjjmcompkaaGreatDoor
open Go Go.Sx Go.ChangeShapes Go.WideShapes Go.ChangeAt Go.RowKit
set_option maxRecDepth 100000 in
theorem liftedSO (os : Os) (started : os.Started) (H : Type) (enc : TypeId × Value → H) :
    ReturnsInHanded {} Tryz.checked os 5 .any (fun w args => (Rows.setexprOperatesSpec.pre enc Tryz.prog Tryz.f5 [] false w args ∧ laidMetH Tryz.prog Rows.setexprOperatesRow.laid w) ∧ sizedMet enc Tryz.prog Tryz.f5 (OpenSpec.ofChange Rows.setexprOperatesSpec) false w args)
      (Rows.setexprOperatesSpec.post enc Tryz.prog Tryz.f5 false true false false) := by
  refine ret_shaped (C := Tryz.checked) (X := fun w _ => laidMetH Tryz.prog Rows.setexprOperatesRow.laid w) (fun _ _ _ hh h => h.of_heap hh) own started (by kernel_rfl) Tryz.func5
    (ChangeSpec.witness_shaped (enc := enc) (C := Tryz.checked) (os := os) (X := fun w _ => laidMetH Tryz.prog Rows.setexprOperatesRow.laid w) false (World.laidAll Tryz.prog os Rows.setexprOperatesRow.laid) #[.string ⟨#[]⟩, .string ⟨#[]⟩] 8 (World.laidAll_os _ _ _)
      (World.shaped_of_ZipB (by kernel_rfl) (by kernel_rfl)) (by kernel_rfl) (by kernel_rfl) (by kernel_rfl)
      (by rw [MakeChecks.laidMetH_plain _ _ _ (by kernel_rfl)]; exact laidMet_laidAll _ (by kernel_rfl) (by kernel_rfl))) ?_
  intro W base args ds gs before hval0 hW hL hsh
  have hval : ∀ (j : Nat) t v, Tryz.f5.params[j]? = some t → args[j]? = some v → Value.okWide Tryz.prog W .any base t v := hval0
  have hW' := hW
  obtain ⟨p, q, hA0, hV, rfl, hfz, hnd⟩ := hW
  have hA : DataW.TrodAll enc Tryz.prog W 0 (fun _ => true) true Tryz.f5.params.toList args.toList ds p := hA0
  rw [Tryz.params5] at hA hval
  obtain ⟨v1, v2, d1, d2, p1, p2, rfl, rfl, rfl, h1, h2⟩ := trodAll_two hA
  obtain ⟨rfl, rfl⟩ := trodVars_none hV
  have hlt : ∀ x ∈ p1 ++ p2, x.block < W.heap.size := fun x hx => by simpa using hW'.lt x (by simpa using hx)
  have hargs1 : ∀ (W' : World), Below W.heap.size W W' → DataW.Trod enc Tryz.prog W' 0 (fun b => decide (b < W.heap.size)) true 9 v1 d1 p1 :=
    fun W' hn => Below.trod laidOut (by kernel_rfl) (of_decide_eq_true (by kernel_rfl)) h1 hn (fun x hx => hlt x (by simp [hx]))
  have hargs2 : ∀ (W' : World), Below W.heap.size W W' → DataW.Trod enc Tryz.prog W' 0 (fun b => decide (b < W.heap.size)) true 9 v2 d2 p2 :=
    fun W' hn => Below.trod laidOut (by kernel_rfl) (of_decide_eq_true (by kernel_rfl)) h2 hn (fun x hx => hlt x (by simp [hx]))
  obtain ⟨s0, rfl⟩ := okWide_string Tryz.underlying9 (hval 0 9 v1 rfl rfl)
  obtain ⟨s1, rfl⟩ := okWide_string Tryz.underlying9 (hval 1 9 v2 rfl rfl)
  obtain ⟨mx, hm⟩ := max_of hsh
  have hin : RepL (memOf W) [] (ctLaw18O.inp (s0, s1)) #[.string s0, .string s1].toList := RepL.cons (Rep.val _) (RepL.cons (Rep.val _) RepL.nil)
  have hcall := (lawSO_ok (pb := false) (mx := mx)).2.2 (s0, s1) trivial (memOf W) W #[.string s0, .string s1] (memOf_fits W) (gl_ok hL hm) hin 0
  refine (callsIn_wide.1 hcall).mono fun e W' hR => ?_
  obtain ⟨M', u, rfl, _, _, _, hu, hb⟩ := hR
  have hu' : u = .bool true := hu
  subst hu'
  simp only [List.append_nil] at hW'
  refine ⟨_, rfl, _, _, _, [], p1 ++ p2, [], hW', ?_, ?_, rfl, hb.frame _, fun h => by cases h⟩
  · exact trodAll_mk1 (shut_bool Tryz.underlying4 true)
  · exact trodAll_mk2 (hargs1 _ hb) (hargs2 _ hb)
theorem rowSO_f : Tryz.prog.funcNamed Rows.setexprOperatesRow.func = some 5 := by kernel_rfl
theorem rowSO_c9 : (Rows.setexprOperatesRow.inPlace == Tryz.prog.inPlace 5) = true := by kernel_rfl
theorem rowSO_c10 : (Rows.setexprOperatesRow.unfollowed == Tryz.prog.unfollowed 5) = true := by kernel_rfl
theorem rowSO_c11 : (Rows.setexprOperatesRow.recurses == Tryz.prog.recurses 5) = true := by kernel_rfl
theorem rowSO_c12 : (Rows.setexprOperatesRow.named == Tryz.prog.varsNamed 5) = true := by kernel_rfl
theorem rowSO_c0 : Rows.setexprOperatesRow.wf (OpenSpec.ofChange Rows.setexprOperatesSpec) = true := by kernel_rfl
theorem rowSO_c3 : Tryz.f5.params.all (Tryz.prog.readableRec ·) = true := by kernel_rfl
theorem rowSO_c4 : namedTie Tryz.prog Rows.setexprOperatesRow.named Rows.setexprOperatesSpec.vars = true := by kernel_rfl
theorem rowSO_c5 : (Rows.setexprOperatesRow.stops == []) = true := by kernel_rfl
theorem rowSO_c6 : (Tryz.prog.stops == []) = true := by kernel_rfl
theorem rowSO_c7 : (Rows.setexprOperatesRow.knobs == []) = true := by kernel_rfl
theorem rowSO_c8 : (Tryz.prog.stopKnobs == []) = true := by kernel_rfl
theorem rowSO_c13 : (Rows.setexprOperatesRow.maps == (Tryz.f5.params.toList ++ Rows.setexprOperatesSpec.plain.varTypes Tryz.prog).any (Tryz.prog.mapsRec ·)) = true := by kernel_rfl
theorem rowSO_c14 : (Rows.setexprOperatesRow.ifaces == (Tryz.f5.params.toList ++ Rows.setexprOperatesSpec.plain.varTypes Tryz.prog).any (Tryz.prog.ifacesRec ·)) = true := by kernel_rfl
theorem rowSO_c15 : (Rows.setexprOperatesRow.mapsOut == Tryz.prog.mapsAmong Tryz.f5.resultTypes.toList) = true := by kernel_rfl
theorem rowSO_c16 : (Rows.setexprOperatesRow.loops == (Tryz.f5.params.toList ++ Rows.setexprOperatesSpec.plain.varTypes Tryz.prog).any (Tryz.prog.loopsFrom ·)) = true := by kernel_rfl
theorem rowSO_c17 : (Rows.setexprOperatesRow.wideKeys == (Tryz.f5.params.toList ++ Rows.setexprOperatesSpec.plain.varTypes Tryz.prog ++ Tryz.f5.resultTypes.toList).any (Tryz.prog.wideKeysFrom ·)) = true := by kernel_rfl
theorem rowSO_c18 : Rows.setexprOperatesSpec.vars.all (Tryz.prog.varReadable ·) = true := by kernel_rfl
theorem rowSO_c19 : Tryz.f5.resultTypes.all (fun t => Tryz.prog.readableRec t && decide (t < Tryz.prog.types.size)) = true := by kernel_rfl
theorem rowSO_c20 : (Rows.setexprOperatesRow.ifacesOut == Tryz.f5.resultTypes.toList.any (Tryz.prog.ifacesRec ·)) = true := by kernel_rfl
theorem rowSO_c21 : (Rows.setexprOperatesRow.loopsOut == Tryz.f5.resultTypes.toList.any (Tryz.prog.loopsFrom ·)) = true := by kernel_rfl
theorem rowSO_c22 : (Rows.setexprOperatesRow.plainKeys == Tryz.prog.plainKeys) = true := by kernel_rfl
theorem rowSO_c23 : Rows.setexprOperatesRow.shortTexts.isNone = true := by kernel_rfl
theorem rowSO_c26 : (Rows.setexprOperatesRow.lifted == Tryz.prog.liftsFinal) = true := by rw [show Rows.setexprOperatesRow.lifted = Rows.setexprTextsRow.lifted from by kernel_rfl]; exact jfLift
theorem rowSO_c27 : (Tryz.prog.make == some Rows.setexprOperatesRow.make) = true := by rw [show Rows.setexprOperatesRow.make = Rows.setexprTextsRow.make from by kernel_rfl]; exact jfMake
theorem rowSO_c29 : (Rows.setexprOperatesRow.pinned == Rows.setexprOperatesRow.pinnedBy) = true := by kernel_rfl
theorem rowSO_c30 : (Rows.setexprOperatesRow.veiled == (Tryz.f5.params.toList ++ Rows.setexprOperatesSpec.plain.varTypes Tryz.prog ++ Tryz.f5.resultTypes.toList).any (Tryz.prog.veiledRec ·)) = true := by kernel_rfl
theorem rowSO_c31 : Rows.setexprOperatesRow.veiledFits Tryz.prog Tryz.f5.params.toList (Tryz.f5.params.toList ++ Rows.setexprOperatesSpec.plain.varTypes Tryz.prog ++ Tryz.f5.resultTypes.toList) = true := by kernel_rfl
theorem rowSO_c : joinedFacts Tryz.prog 5 Tryz.f5 Rows.setexprOperatesSpec Rows.setexprOperatesRow = true := and2 (and2 (and2 (and2 (and2 (and2 (and2 (and2 (and2 (and2 (and2 (and2 (and2 (and2 (and2 (and2 (and2 (and2 (and2 (and2 (and2 (and2 (and2 (and2 (and2 (and2 (and2 (and2 (and2 (and2 (and2 (rowSO_c0) jfOut) jfMaps) rowSO_c3) rowSO_c4) rowSO_c5) rowSO_c6) rowSO_c7) rowSO_c8) rowSO_c9) rowSO_c10) rowSO_c11) rowSO_c12) rowSO_c13) rowSO_c14) rowSO_c15) rowSO_c16) rowSO_c17) rowSO_c18) rowSO_c19) rowSO_c20) rowSO_c21) rowSO_c22) rowSO_c23) jfHeard) jfEnter) rowSO_c26) rowSO_c27) (by kernel_rfl)) rowSO_c29) rowSO_c30) rowSO_c31
theorem rowSO_i : Tryz.f5.isInstance Tryz.prog Rows.setexprOperatesRow.origin Rows.setexprOperatesRow.targs := of_decide_eq_true (by kernel_rfl)
theorem rowSO_w : Tryz.f5.isWrapper Tryz.prog Rows.setexprOperatesRow.wrapper Rows.setexprOperatesRow.mainSum := by unfold Func.isWrapper; rw [if_neg (by decide +kernel)]; exact ⟨rfl, rfl⟩
theorem rowSO_holds : Rows.SetexprOperatesSaid :=
  OpenClaim.holds_of_wide 5 Tryz.f5 rfl rfl rfl rfl rfl rfl rfl ⟨rfl, rfl, rfl, rfl, rfl⟩ rfl rfl rfl rfl rfl rowSO_f Tryz.func5 rowSO_c rowSO_i rowSO_w
    (fun os started H enc _ => liftedSO os started H enc)
end Go.Proofs.YtcihhjjmcompkaaGreatDoor
