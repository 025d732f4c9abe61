import Derived.Test.YthfdmbmjjejbbaaGreatDoorRo50
import Derived.Test.YthfdmbmjjejbbaaGreatDoorLTt
import Derived.Test.YthfdmbmjjejbbaaGreatDoorJf
set_option linter.unusedVariables false
set_option linter.unusedSimpArgs false
namespace Go.Proofs.YthfdmbmjjejbbaaGreatDoor
open Go Go.Sx Go.ChangeShapes Go.WideShapes Go.ChangeAt Go.RowKit
set_option maxRecDepth 100000 in
theorem liftedTT (os : Os) (started : os.Started) (H : Type) (enc : TypeId × Value → H) :
    ReturnsInHanded {} Tryz.checked os 4 .any (fun w args => (Rows.transruleTextsSpec.pre enc Tryz.prog Tryz.f4 [] false w args ∧ laidMetH Tryz.prog Rows.transruleTextsRow.laid w) ∧ sizedMet enc Tryz.prog Tryz.f4 (OpenSpec.ofChange Rows.transruleTextsSpec) false w args)
      (Rows.transruleTextsSpec.post enc Tryz.prog Tryz.f4 false true false false) := by
  refine ret_shaped (C := Tryz.checked) (X := fun w _ => laidMetH Tryz.prog Rows.transruleTextsRow.laid w) (fun _ _ _ hh h => h.of_heap hh) own started (by kernel_rfl) Tryz.func4
    (ChangeSpec.witness_shaped (enc := enc) (C := Tryz.checked) (os := os) (X := fun w _ => laidMetH Tryz.prog Rows.transruleTextsRow.laid w) false (World.laidAll Tryz.prog os Rows.transruleTextsRow.laid) #[.slice none 0 0] 8 (World.laidAll_os _ _ _)
      (World.shaped_of_ZipB (by kernel_rfl) (by kernel_rfl)) (by kernel_rfl) (by kernel_rfl) (by kernel_rfl)
      (by rw [MakeChecks.laidMetH_plain _ _ _ (by kernel_rfl)]; exact laidMet_laidAll _ (by kernel_rfl) (by kernel_rfl))) ?_
  intro W base args ds gs before hval0 hW hL hsh
  have hval : ∀ (j : Nat) t v, Tryz.f4.params[j]? = some t → args[j]? = some v → Value.okWide Tryz.prog W .any base t v := hval0
  have hW' := hW
  obtain ⟨p, q, hA0, hV, rfl, hfz, hnd⟩ := hW
  have hA : DataW.TrodAll enc Tryz.prog W 0 (fun _ => true) true Tryz.f4.params.toList args.toList ds p := hA0
  rw [Tryz.params4] at hA hval
  obtain ⟨v1, d1, rfl, rfl, h1⟩ := trodAll_one hA
  obtain ⟨rfl, rfl⟩ := trodVars_none hV
  have hlt : ∀ x ∈ p, x.block < W.heap.size := fun x hx => by simpa using hW'.lt x (by simpa using hx)
  have hargs1 : ∀ (W' : World), Below W.heap.size W W' → DataW.Trod enc Tryz.prog W' 0 (fun b => decide (b < W.heap.size)) true 22 v1 d1 p :=
    fun W' hn => Below.trod laidOut (by kernel_rfl) (of_decide_eq_true (by kernel_rfl)) h1 hn (fun x hx => hlt x (by simp [hx]))
  obtain ⟨c0, ok0, hrep0⟩ := open_one (okWide_slice Tryz.underlying22 (hval 0 22 v1 rfl rfl)) h1 opens_tls
  have hrep0 : Rep (memOf W) [] (tlsD c0) v1 := hrep0
  obtain ⟨mx, hm⟩ := max_of hsh
  have hin : RepL (memOf W) [] (ctLawT.inp c0) #[v1].toList := RepL.cons hrep0 RepL.nil
  have hcall := (lawTT_ok (mx := mx)).2.2 c0 trivial (memOf W) W #[v1] (memOf_fits W) (gl_ok hL hm) hin 0
  refine (callsIn_wide.1 hcall).mono fun e W' hR => ?_
  obtain ⟨M', u, rfl, _, _, _, hu, hb⟩ := hR
  have hu' : u = .bool true := hu
  subst hu'
  simp only [List.append_nil] at hW'
  refine ⟨_, rfl, _, _, _, [], p, [], hW', ?_, ?_, rfl, hb.frame _, fun h => by cases h⟩
  · exact trodAll_mk1 (shut_bool Tryz.underlying4 true)
  · exact trodAll_mk1 (hargs1 _ hb)

theorem rowTT_f : Tryz.prog.funcNamed Rows.transruleTextsRow.func = some 4 := by kernel_rfl
theorem rowTT_c9 : (Rows.transruleTextsRow.inPlace == Tryz.prog.inPlace 4) = true := by kernel_rfl
theorem rowTT_c10 : (Rows.transruleTextsRow.unfollowed == Tryz.prog.unfollowed 4) = true := by kernel_rfl
theorem rowTT_c11 : (Rows.transruleTextsRow.recurses == Tryz.prog.recurses 4) = true := by kernel_rfl
theorem rowTT_c12 : (Rows.transruleTextsRow.named == Tryz.prog.varsNamed 4) = true := by kernel_rfl
theorem rowTT_c0 : Rows.transruleTextsRow.wf (OpenSpec.ofChange Rows.transruleTextsSpec) = true := by kernel_rfl
theorem rowTT_c3 : Tryz.f4.params.all (Tryz.prog.readableRec ·) = true := by kernel_rfl
theorem rowTT_c4 : namedTie Tryz.prog Rows.transruleTextsRow.named Rows.transruleTextsSpec.vars = true := by kernel_rfl
theorem rowTT_c5 : (Rows.transruleTextsRow.stops == []) = true := by kernel_rfl
theorem rowTT_c6 : (Tryz.prog.stops == []) = true := by kernel_rfl
theorem rowTT_c7 : (Rows.transruleTextsRow.knobs == []) = true := by kernel_rfl
theorem rowTT_c8 : (Tryz.prog.stopKnobs == []) = true := by kernel_rfl
theorem rowTT_c13 : (Rows.transruleTextsRow.maps == (Tryz.f4.params.toList ++ Rows.transruleTextsSpec.plain.varTypes Tryz.prog).any (Tryz.prog.mapsRec ·)) = true := by kernel_rfl
theorem rowTT_c14 : (Rows.transruleTextsRow.ifaces == (Tryz.f4.params.toList ++ Rows.transruleTextsSpec.plain.varTypes Tryz.prog).any (Tryz.prog.ifacesRec ·)) = true := by kernel_rfl
theorem rowTT_c15 : (Rows.transruleTextsRow.mapsOut == Tryz.prog.mapsAmong Tryz.f4.resultTypes.toList) = true := by kernel_rfl
theorem rowTT_c16 : (Rows.transruleTextsRow.loops == (Tryz.f4.params.toList ++ Rows.transruleTextsSpec.plain.varTypes Tryz.prog).any (Tryz.prog.loopsFrom ·)) = true := by kernel_rfl
theorem rowTT_c17 : (Rows.transruleTextsRow.wideKeys == (Tryz.f4.params.toList ++ Rows.transruleTextsSpec.plain.varTypes Tryz.prog ++ Tryz.f4.resultTypes.toList).any (Tryz.prog.wideKeysFrom ·)) = true := by kernel_rfl
theorem rowTT_c18 : Rows.transruleTextsSpec.vars.all (Tryz.prog.varReadable ·) = true := by kernel_rfl
theorem rowTT_c19 : Tryz.f4.resultTypes.all (fun t => Tryz.prog.readableRec t && decide (t < Tryz.prog.types.size)) = true := by kernel_rfl
theorem rowTT_c20 : (Rows.transruleTextsRow.ifacesOut == Tryz.f4.resultTypes.toList.any (Tryz.prog.ifacesRec ·)) = true := by kernel_rfl
theorem rowTT_c21 : (Rows.transruleTextsRow.loopsOut == Tryz.f4.resultTypes.toList.any (Tryz.prog.loopsFrom ·)) = true := by kernel_rfl
theorem rowTT_c22 : (Rows.transruleTextsRow.plainKeys == Tryz.prog.plainKeys) = true := by kernel_rfl
theorem rowTT_c23 : Rows.transruleTextsRow.shortTexts.isNone = true := by kernel_rfl
theorem rowTT_c26 : (Rows.transruleTextsRow.lifted == Tryz.prog.liftsFinal) = true := by rw [show Rows.transruleTextsRow.lifted = Rows.transruleChecksRow.lifted from by kernel_rfl]; exact jfLift
theorem rowTT_c27 : (Tryz.prog.make == some Rows.transruleTextsRow.make) = true := by rw [show Rows.transruleTextsRow.make = Rows.transruleChecksRow.make from by kernel_rfl]; exact jfMake
theorem rowTT_c29 : (Rows.transruleTextsRow.pinned == Rows.transruleTextsRow.pinnedBy) = true := by kernel_rfl
theorem rowTT_c30 : (Rows.transruleTextsRow.veiled == (Tryz.f4.params.toList ++ Rows.transruleTextsSpec.plain.varTypes Tryz.prog ++ Tryz.f4.resultTypes.toList).any (Tryz.prog.veiledRec ·)) = true := by kernel_rfl
theorem rowTT_c31 : Rows.transruleTextsRow.veiledFits Tryz.prog Tryz.f4.params.toList (Tryz.f4.params.toList ++ Rows.transruleTextsSpec.plain.varTypes Tryz.prog ++ Tryz.f4.resultTypes.toList) = true := by kernel_rfl
theorem rowTT_c : joinedFacts Tryz.prog 4 Tryz.f4 Rows.transruleTextsSpec Rows.transruleTextsRow = true := and2 (and2 (and2 (and2 (and2 (and2 (and2 (and2 (and2 (and2 (and2 (and2 (and2 (and2 (and2 (and2 (and2 (and2 (and2 (and2 (and2 (and2 (and2 (and2 (and2 (and2 (and2 (and2 (and2 (and2 (and2 (rowTT_c0) jfOut) jfMaps) rowTT_c3) rowTT_c4) rowTT_c5) rowTT_c6) rowTT_c7) rowTT_c8) rowTT_c9) rowTT_c10) rowTT_c11) rowTT_c12) rowTT_c13) rowTT_c14) rowTT_c15) rowTT_c16) rowTT_c17) rowTT_c18) rowTT_c19) rowTT_c20) rowTT_c21) rowTT_c22) rowTT_c23) jfHeard) jfEnter) rowTT_c26) rowTT_c27) (by kernel_rfl)) rowTT_c29) rowTT_c30) rowTT_c31
theorem rowTT_i : Tryz.f4.isInstance Tryz.prog Rows.transruleTextsRow.origin Rows.transruleTextsRow.targs := of_decide_eq_true (by kernel_rfl)
theorem rowTT_w : Tryz.f4.isWrapper Tryz.prog Rows.transruleTextsRow.wrapper Rows.transruleTextsRow.mainSum := by unfold Func.isWrapper; rw [if_neg (by decide +kernel)]; exact ⟨rfl, rfl⟩
theorem rowTT_holds : Rows.TransruleTextsSaid :=
  OpenClaim.holds_of_wide 4 Tryz.f4 rfl rfl rfl rfl rfl rfl rfl ⟨rfl, rfl, rfl, rfl, rfl⟩ rfl rfl rfl rfl rfl rowTT_f Tryz.func4 rowTT_c rowTT_i rowTT_w
    (fun os started H enc _ => liftedTT os started H enc)
end Go.Proofs.YthfdmbmjjejbbaaGreatDoor
