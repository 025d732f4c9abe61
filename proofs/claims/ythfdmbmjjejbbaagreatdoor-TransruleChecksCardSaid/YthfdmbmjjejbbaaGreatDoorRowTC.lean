import Derived.Test.YthfdmbmjjejbbaaGreatDoorRo50
import Derived.Test.YthfdmbmjjejbbaaGreatDoorLTc
import Derived.Test.YthfdmbmjjejbbaaGreatDoorJf
set_option linter.unusedVariables false
set_option linter.unusedSimpArgs false
namespace Go.Proofs.YthfdmbmjjejbbaaGreatDoor
open Go Go.Sx Go.ChangeShapes Go.WideShapes Go.ChangeAt Go.RowKit
set_option maxRecDepth 100000 in
theorem liftedTC (os : Os) (started : os.Started) (H : Type) (enc : TypeId × Value → H) :
    ReturnsInHanded {} Tryz.checked os 3 .any (fun w args => (Rows.transruleChecksSpec.pre enc Tryz.prog Tryz.f3 [] false w args ∧ laidMetH Tryz.prog Rows.transruleChecksRow.laid w) ∧ sizedMet enc Tryz.prog Tryz.f3 (OpenSpec.ofChange Rows.transruleChecksSpec) false w args)
      (Rows.transruleChecksSpec.post enc Tryz.prog Tryz.f3 false true false false) := by
  refine ret_shaped (C := Tryz.checked) (X := fun w _ => laidMetH Tryz.prog Rows.transruleChecksRow.laid w) (fun _ _ _ hh h => h.of_heap hh) own started (by kernel_rfl) Tryz.func3
    (ChangeSpec.witness_shaped (enc := enc) (C := Tryz.checked) (os := os) (X := fun w _ => laidMetH Tryz.prog Rows.transruleChecksRow.laid w) false (World.laidAll Tryz.prog os Rows.transruleChecksRow.laid) #[.slice none 0 0] 8 (World.laidAll_os _ _ _)
      (World.shaped_of_ZipB (by kernel_rfl) (by kernel_rfl)) (by kernel_rfl) (by kernel_rfl) (by kernel_rfl)
      (by rw [MakeChecks.laidMetH_plain _ _ _ (by kernel_rfl)]; exact laidMet_laidAll _ (by kernel_rfl) (by kernel_rfl))) ?_
  intro W base args ds gs before hval0 hW hL hsh
  have hval : ∀ (j : Nat) t v, Tryz.f3.params[j]? = some t → args[j]? = some v → Value.okWide Tryz.prog W .any base t v := hval0
  have hW' := hW
  obtain ⟨p, q, hA0, hV, rfl, hfz, hnd⟩ := hW
  have hA : DataW.TrodAll enc Tryz.prog W 0 (fun _ => true) true Tryz.f3.params.toList args.toList ds p := hA0
  rw [Tryz.params3] at hA hval
  obtain ⟨v1, d1, rfl, rfl, h1⟩ := trodAll_one hA
  obtain ⟨rfl, rfl⟩ := trodVars_none hV
  have hlt : ∀ x ∈ p, x.block < W.heap.size := fun x hx => by simpa using hW'.lt x (by simpa using hx)
  have hargs1 : ∀ (W' : World), Below W.heap.size W W' → DataW.Trod enc Tryz.prog W' 0 (fun b => decide (b < W.heap.size)) true 22 v1 d1 p :=
    fun W' hn => Below.trod laidOut (by kernel_rfl) (of_decide_eq_true (by kernel_rfl)) h1 hn (fun x hx => hlt x (by simp [hx]))
  obtain ⟨c0, ok0, hrep0⟩ := open_one (okWide_slice Tryz.underlying22 (hval 0 22 v1 rfl rfl)) h1 opens_tls
  have hrep0 : Rep (memOf W) [] (tlsD c0) v1 := hrep0
  obtain ⟨mx, hm⟩ := max_of hsh
  have hin : RepL (memOf W) [] (ctLawT.inp c0) #[v1].toList := RepL.cons hrep0 RepL.nil
  have hcall := (lawTC_ok (mx := mx)).2.2 c0 trivial (memOf W) W #[v1] (memOf_fits W) (gl_ok hL hm) hin 0
  refine (callsIn_wide.1 hcall).mono fun e W' hR => ?_
  obtain ⟨M', u, rfl, _, _, _, hu, hb⟩ := hR
  have hu' : u = .bool true := hu
  subst hu'
  simp only [List.append_nil] at hW'
  refine ⟨_, rfl, _, _, _, [], p, [], hW', ?_, ?_, rfl, hb.frame _, fun h => by cases h⟩
  · exact trodAll_mk1 (shut_bool Tryz.underlying4 true)
  · exact trodAll_mk1 (hargs1 _ hb)

theorem rowTC_f : Tryz.prog.funcNamed Rows.transruleChecksRow.func = some 3 := by kernel_rfl
theorem rowTC_c9 : (Rows.transruleChecksRow.inPlace == Tryz.prog.inPlace 3) = true := by kernel_rfl
theorem rowTC_c10 : (Rows.transruleChecksRow.unfollowed == Tryz.prog.unfollowed 3) = true := by kernel_rfl
theorem rowTC_c11 : (Rows.transruleChecksRow.recurses == Tryz.prog.recurses 3) = true := by kernel_rfl
theorem rowTC_c12 : (Rows.transruleChecksRow.named == Tryz.prog.varsNamed 3) = true := by kernel_rfl
theorem rowTC_c0 : Rows.transruleChecksRow.wf (OpenSpec.ofChange Rows.transruleChecksSpec) = true := by kernel_rfl
theorem rowTC_c3 : Tryz.f3.params.all (Tryz.prog.readableRec ·) = true := by kernel_rfl
theorem rowTC_c4 : namedTie Tryz.prog Rows.transruleChecksRow.named Rows.transruleChecksSpec.vars = true := by kernel_rfl
theorem rowTC_c5 : (Rows.transruleChecksRow.stops == []) = true := by kernel_rfl
theorem rowTC_c6 : (Tryz.prog.stops == []) = true := by kernel_rfl
theorem rowTC_c7 : (Rows.transruleChecksRow.knobs == []) = true := by kernel_rfl
theorem rowTC_c8 : (Tryz.prog.stopKnobs == []) = true := by kernel_rfl
theorem rowTC_c13 : (Rows.transruleChecksRow.maps == (Tryz.f3.params.toList ++ Rows.transruleChecksSpec.plain.varTypes Tryz.prog).any (Tryz.prog.mapsRec ·)) = true := by kernel_rfl
theorem rowTC_c14 : (Rows.transruleChecksRow.ifaces == (Tryz.f3.params.toList ++ Rows.transruleChecksSpec.plain.varTypes Tryz.prog).any (Tryz.prog.ifacesRec ·)) = true := by kernel_rfl
theorem rowTC_c15 : (Rows.transruleChecksRow.mapsOut == Tryz.prog.mapsAmong Tryz.f3.resultTypes.toList) = true := by kernel_rfl
theorem rowTC_c16 : (Rows.transruleChecksRow.loops == (Tryz.f3.params.toList ++ Rows.transruleChecksSpec.plain.varTypes Tryz.prog).any (Tryz.prog.loopsFrom ·)) = true := by kernel_rfl
theorem rowTC_c17 : (Rows.transruleChecksRow.wideKeys == (Tryz.f3.params.toList ++ Rows.transruleChecksSpec.plain.varTypes Tryz.prog ++ Tryz.f3.resultTypes.toList).any (Tryz.prog.wideKeysFrom ·)) = true := by kernel_rfl
theorem rowTC_c18 : Rows.transruleChecksSpec.vars.all (Tryz.prog.varReadable ·) = true := by kernel_rfl
theorem rowTC_c19 : Tryz.f3.resultTypes.all (fun t => Tryz.prog.readableRec t && decide (t < Tryz.prog.types.size)) = true := by kernel_rfl
theorem rowTC_c20 : (Rows.transruleChecksRow.ifacesOut == Tryz.f3.resultTypes.toList.any (Tryz.prog.ifacesRec ·)) = true := by kernel_rfl
theorem rowTC_c21 : (Rows.transruleChecksRow.loopsOut == Tryz.f3.resultTypes.toList.any (Tryz.prog.loopsFrom ·)) = true := by kernel_rfl
theorem rowTC_c22 : (Rows.transruleChecksRow.plainKeys == Tryz.prog.plainKeys) = true := by kernel_rfl
theorem rowTC_c23 : Rows.transruleChecksRow.shortTexts.isNone = true := by kernel_rfl
theorem rowTC_c26 : (Rows.transruleChecksRow.lifted == Tryz.prog.liftsFinal) = true := by rw [show Rows.transruleChecksRow.lifted = Rows.transruleChecksRow.lifted from by kernel_rfl]; exact jfLift
theorem rowTC_c27 : (Tryz.prog.make == some Rows.transruleChecksRow.make) = true := by rw [show Rows.transruleChecksRow.make = Rows.transruleChecksRow.make from by kernel_rfl]; exact jfMake
theorem rowTC_c29 : (Rows.transruleChecksRow.pinned == Rows.transruleChecksRow.pinnedBy) = true := by kernel_rfl
theorem rowTC_c30 : (Rows.transruleChecksRow.veiled == (Tryz.f3.params.toList ++ Rows.transruleChecksSpec.plain.varTypes Tryz.prog ++ Tryz.f3.resultTypes.toList).any (Tryz.prog.veiledRec ·)) = true := by kernel_rfl
theorem rowTC_c31 : Rows.transruleChecksRow.veiledFits Tryz.prog Tryz.f3.params.toList (Tryz.f3.params.toList ++ Rows.transruleChecksSpec.plain.varTypes Tryz.prog ++ Tryz.f3.resultTypes.toList) = true := by kernel_rfl
theorem rowTC_c : joinedFacts Tryz.prog 3 Tryz.f3 Rows.transruleChecksSpec Rows.transruleChecksRow = true := and2 (and2 (and2 (and2 (and2 (and2 (and2 (and2 (and2 (and2 (and2 (and2 (and2 (and2 (and2 (and2 (and2 (and2 (and2 (and2 (and2 (and2 (and2 (and2 (and2 (and2 (and2 (and2 (and2 (and2 (and2 (rowTC_c0) jfOut) jfMaps) rowTC_c3) rowTC_c4) rowTC_c5) rowTC_c6) rowTC_c7) rowTC_c8) rowTC_c9) rowTC_c10) rowTC_c11) rowTC_c12) rowTC_c13) rowTC_c14) rowTC_c15) rowTC_c16) rowTC_c17) rowTC_c18) rowTC_c19) rowTC_c20) rowTC_c21) rowTC_c22) rowTC_c23) jfHeard) jfEnter) rowTC_c26) rowTC_c27) (by kernel_rfl)) rowTC_c29) rowTC_c30) rowTC_c31
theorem rowTC_i : Tryz.f3.isInstance Tryz.prog Rows.transruleChecksRow.origin Rows.transruleChecksRow.targs := of_decide_eq_true (by kernel_rfl)
theorem rowTC_w : Tryz.f3.isWrapper Tryz.prog Rows.transruleChecksRow.wrapper Rows.transruleChecksRow.mainSum := by unfold Func.isWrapper; rw [if_neg (by decide +kernel)]; exact ⟨rfl, rfl⟩
theorem rowTC_holds : Rows.TransruleChecksSaid :=
  OpenClaim.holds_of_wide 3 Tryz.f3 rfl rfl rfl rfl rfl rfl rfl ⟨rfl, rfl, rfl, rfl, rfl⟩ rfl rfl rfl rfl rfl rowTC_f Tryz.func3 rowTC_c rowTC_i rowTC_w
    (fun os started H enc _ => liftedTC os started H enc)
end Go.Proofs.YthfdmbmjjejbbaaGreatDoor
