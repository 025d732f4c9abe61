import Derived.Test.YtnegdnbodccgkaaGreatDoorRo10
import Derived.Test.YtnegdnbodccgkaaGreatDoorLPd
import Derived.Test.YtnegdnbodccgkaaGreatDoorJf
set_option linter.unusedVariables false
set_option linter.unusedSimpArgs false
namespace Go.Proofs.YtnegdnbodccgkaaGreatDoor
open Go Go.Sx Go.ChangeShapes Go.WideShapes Go.ChangeAt Go.RowKit
set_option maxRecDepth 100000 in
theorem liftedPD (os : Os) (started : os.Started) (H : Type) (enc : TypeId × Value → H) :
    ReturnsInHanded {} Tryz.checked os 11 .any (fun w args => (Rows.propertyDividesSpec.pre enc Tryz.prog Tryz.f11 [] false w args ∧ laidMetH Tryz.prog Rows.propertyDividesRow.laid w) ∧ sizedMet enc Tryz.prog Tryz.f11 (OpenSpec.ofChange Rows.propertyDividesSpec) false w args)
      (Rows.propertyDividesSpec.post enc Tryz.prog Tryz.f11 false true false false) := by
  refine ret_shaped (C := Tryz.checked) (X := fun w _ => laidMetH Tryz.prog Rows.propertyDividesRow.laid w) (fun _ _ _ hh h => h.of_heap hh) own started (by kernel_rfl) Tryz.func11
    (ChangeSpec.witness_shaped (enc := enc) (C := Tryz.checked) (os := os) (X := fun w _ => laidMetH Tryz.prog Rows.propertyDividesRow.laid w) false (World.laidAll Tryz.prog os Rows.propertyDividesRow.laid) #[.agg #[.slice none 0 0, .slice none 0 0], .int .i64 0] 8 (World.laidAll_os _ _ _)
      (World.shaped_of_ZipB (by kernel_rfl) (by kernel_rfl)) (by kernel_rfl) (by kernel_rfl) (by kernel_rfl)
      (by rw [MakeChecks.laidMetH_plain _ _ _ (by kernel_rfl)]; exact laidMet_laidAll _ (by kernel_rfl) (by kernel_rfl))) ?_
  intro W base args ds gs before hval0 hW hL hsh
  have hval : ∀ (j : Nat) t v, Tryz.f11.params[j]? = some t → args[j]? = some v → Value.okWide Tryz.prog W .any base t v := hval0
  have hW' := hW
  obtain ⟨p, q, hA0, hV, rfl, hfz, hnd⟩ := hW
  have hA : DataW.TrodAll enc Tryz.prog W 0 (fun _ => true) true Tryz.f11.params.toList args.toList ds p := hA0
  rw [Tryz.params11] at hA hval
  obtain ⟨v1, v2, d1, d2, p1, p2, rfl, rfl, rfl, h1, h2⟩ := trodAll_two hA
  obtain ⟨rfl, rfl⟩ := trodVars_none hV
  have hlt : ∀ x ∈ p1 ++ p2, x.block < W.heap.size := fun x hx => by simpa using hW'.lt x (by simpa using hx)
  have hargs1 : ∀ (W' : World), Below W.heap.size W W' → DataW.Trod enc Tryz.prog W' 0 (fun b => decide (b < W.heap.size)) true 27 v1 d1 p1 :=
    fun W' hn => Below.trod laidOut (by kernel_rfl) (of_decide_eq_true (by kernel_rfl)) h1 hn (fun x hx => hlt x (by simp [hx]))
  have hargs2 : ∀ (W' : World), Below W.heap.size W W' → DataW.Trod enc Tryz.prog W' 0 (fun b => decide (b < W.heap.size)) true 3 v2 d2 p2 :=
    fun W' hn => Below.trod laidOut (by kernel_rfl) (of_decide_eq_true (by kernel_rfl)) h2 hn (fun x hx => hlt x (by simp [hx]))
  obtain ⟨c0, ok0, hrep0⟩ := open_agg Tryz.underlying27 (hval 0 27 v1 rfl rfl) h1 opens_pr
  have hrep0 : Rep (memOf W) [] (prA c0) v1 := hrep0
  obtain ⟨n1, rfl⟩ := okWide_int Tryz.underlying3 (hval 1 3 v2 rfl rfl)
  obtain ⟨mx, hm⟩ := max_of hsh
  have hin : RepL (memOf W) [] (ctLawD.inp (c0, n1)) #[v1, .int .i64 n1].toList := RepL.cons hrep0 (RepL.cons (Rep.val _) RepL.nil)
  have hcall := (lawPDiv_ok (mx := mx)).2.2 (c0, n1) trivial (memOf W) W #[v1, .int .i64 n1] (memOf_fits W) (gl_ok hL hm) hin 0
  refine (callsIn_wide.1 hcall).mono fun e W' hR => ?_
  obtain ⟨M', u, rfl, _, _, _, hu, hb⟩ := hR
  have hu' : u = .bool true := hu
  subst hu'
  simp only [List.append_nil] at hW'
  refine ⟨_, rfl, _, _, _, [], p1 ++ p2, [], hW', ?_, ?_, rfl, hb.frame _, fun h => by cases h⟩
  · exact trodAll_mk1 (shut_bool Tryz.underlying4 true)
  · exact trodAll_mk2 (hargs1 _ hb) (hargs2 _ hb)

theorem rowPD_f : Tryz.prog.funcNamed Rows.propertyDividesRow.func = some 11 := by kernel_rfl
theorem rowPD_c9 : (Rows.propertyDividesRow.inPlace == Tryz.prog.inPlace 11) = true := by kernel_rfl
theorem rowPD_c10 : (Rows.propertyDividesRow.unfollowed == Tryz.prog.unfollowed 11) = true := by kernel_rfl
theorem rowPD_c11 : (Rows.propertyDividesRow.recurses == Tryz.prog.recurses 11) = true := by kernel_rfl
theorem rowPD_c12 : (Rows.propertyDividesRow.named == Tryz.prog.varsNamed 11) = true := by kernel_rfl
theorem rowPD_c0 : Rows.propertyDividesRow.wf (OpenSpec.ofChange Rows.propertyDividesSpec) = true := by kernel_rfl
theorem rowPD_c3 : Tryz.f11.params.all (Tryz.prog.readableRec ·) = true := by kernel_rfl
theorem rowPD_c4 : namedTie Tryz.prog Rows.propertyDividesRow.named Rows.propertyDividesSpec.vars = true := by kernel_rfl
theorem rowPD_c5 : (Rows.propertyDividesRow.stops == []) = true := by kernel_rfl
theorem rowPD_c6 : (Tryz.prog.stops == []) = true := by kernel_rfl
theorem rowPD_c7 : (Rows.propertyDividesRow.knobs == []) = true := by kernel_rfl
theorem rowPD_c8 : (Tryz.prog.stopKnobs == []) = true := by kernel_rfl
theorem rowPD_c13 : (Rows.propertyDividesRow.maps == (Tryz.f11.params.toList ++ Rows.propertyDividesSpec.plain.varTypes Tryz.prog).any (Tryz.prog.mapsRec ·)) = true := by kernel_rfl
theorem rowPD_c14 : (Rows.propertyDividesRow.ifaces == (Tryz.f11.params.toList ++ Rows.propertyDividesSpec.plain.varTypes Tryz.prog).any (Tryz.prog.ifacesRec ·)) = true := by kernel_rfl
theorem rowPD_c15 : (Rows.propertyDividesRow.mapsOut == Tryz.prog.mapsAmong Tryz.f11.resultTypes.toList) = true := by kernel_rfl
theorem rowPD_c16 : (Rows.propertyDividesRow.loops == (Tryz.f11.params.toList ++ Rows.propertyDividesSpec.plain.varTypes Tryz.prog).any (Tryz.prog.loopsFrom ·)) = true := by kernel_rfl
theorem rowPD_c17 : (Rows.propertyDividesRow.wideKeys == (Tryz.f11.params.toList ++ Rows.propertyDividesSpec.plain.varTypes Tryz.prog ++ Tryz.f11.resultTypes.toList).any (Tryz.prog.wideKeysFrom ·)) = true := by kernel_rfl
theorem rowPD_c18 : Rows.propertyDividesSpec.vars.all (Tryz.prog.varReadable ·) = true := by kernel_rfl
theorem rowPD_c19 : Tryz.f11.resultTypes.all (fun t => Tryz.prog.readableRec t && decide (t < Tryz.prog.types.size)) = true := by kernel_rfl
theorem rowPD_c20 : (Rows.propertyDividesRow.ifacesOut == Tryz.f11.resultTypes.toList.any (Tryz.prog.ifacesRec ·)) = true := by kernel_rfl
theorem rowPD_c21 : (Rows.propertyDividesRow.loopsOut == Tryz.f11.resultTypes.toList.any (Tryz.prog.loopsFrom ·)) = true := by kernel_rfl
theorem rowPD_c22 : (Rows.propertyDividesRow.plainKeys == Tryz.prog.plainKeys) = true := by kernel_rfl
theorem rowPD_c23 : Rows.propertyDividesRow.shortTexts.isNone = true := by kernel_rfl
theorem rowPD_c26 : (Rows.propertyDividesRow.lifted == Tryz.prog.liftsFinal) = true := by rw [show Rows.propertyDividesRow.lifted = Rows.propertyMakesRow.lifted from by kernel_rfl]; exact jfLift
theorem rowPD_c27 : (Tryz.prog.make == some Rows.propertyDividesRow.make) = true := by rw [show Rows.propertyDividesRow.make = Rows.propertyMakesRow.make from by kernel_rfl]; exact jfMake
theorem rowPD_c29 : (Rows.propertyDividesRow.pinned == Rows.propertyDividesRow.pinnedBy) = true := by kernel_rfl
theorem rowPD_c30 : (Rows.propertyDividesRow.veiled == (Tryz.f11.params.toList ++ Rows.propertyDividesSpec.plain.varTypes Tryz.prog ++ Tryz.f11.resultTypes.toList).any (Tryz.prog.veiledRec ·)) = true := by kernel_rfl
theorem rowPD_c31 : Rows.propertyDividesRow.veiledFits Tryz.prog Tryz.f11.params.toList (Tryz.f11.params.toList ++ Rows.propertyDividesSpec.plain.varTypes Tryz.prog ++ Tryz.f11.resultTypes.toList) = true := by kernel_rfl
theorem rowPD_c : joinedFacts Tryz.prog 11 Tryz.f11 Rows.propertyDividesSpec Rows.propertyDividesRow = true := and2 (and2 (and2 (and2 (and2 (and2 (and2 (and2 (and2 (and2 (and2 (and2 (and2 (and2 (and2 (and2 (and2 (and2 (and2 (and2 (and2 (and2 (and2 (and2 (and2 (and2 (and2 (and2 (and2 (and2 (and2 (rowPD_c0) jfOut) jfMaps) rowPD_c3) rowPD_c4) rowPD_c5) rowPD_c6) rowPD_c7) rowPD_c8) rowPD_c9) rowPD_c10) rowPD_c11) rowPD_c12) rowPD_c13) rowPD_c14) rowPD_c15) rowPD_c16) rowPD_c17) rowPD_c18) rowPD_c19) rowPD_c20) rowPD_c21) rowPD_c22) rowPD_c23) jfHeard) jfEnter) rowPD_c26) rowPD_c27) (by kernel_rfl)) rowPD_c29) rowPD_c30) rowPD_c31
theorem rowPD_i : Tryz.f11.isInstance Tryz.prog Rows.propertyDividesRow.origin Rows.propertyDividesRow.targs := of_decide_eq_true (by kernel_rfl)
theorem rowPD_w : Tryz.f11.isWrapper Tryz.prog Rows.propertyDividesRow.wrapper Rows.propertyDividesRow.mainSum := by unfold Func.isWrapper; rw [if_neg (by decide +kernel)]; exact ⟨rfl, rfl⟩
theorem rowPD_holds : Rows.PropertyDividesSaid :=
  OpenClaim.holds_of_wide 11 Tryz.f11 rfl rfl rfl rfl rfl rfl rfl ⟨rfl, rfl, rfl, rfl, rfl⟩ rfl rfl rfl rfl rfl rowPD_f Tryz.func11 rowPD_c rowPD_i rowPD_w
    (fun os started H enc _ => liftedPD os started H enc)
end Go.Proofs.YtnegdnbodccgkaaGreatDoor
