import Derived.Test.YtnegdnbodccgkaaGreatDoorRo10
import Derived.Test.YtnegdnbodccgkaaGreatDoorLPs
import Derived.Test.YtnegdnbodccgkaaGreatDoorJf
set_option linter.unusedVariables false
set_option linter.unusedSimpArgs false
namespace Go.Proofs.YtnegdnbodccgkaaGreatDoor
open Go Go.Sx Go.ChangeShapes Go.WideShapes Go.ChangeAt Go.RowKit
set_option maxRecDepth 100000 in
theorem liftedPSs (os : Os) (started : os.Started) (H : Type) (enc : TypeId × Value → H) :
    ReturnsInHanded {} Tryz.checked os 8 .any (fun w args => (Rows.propertySetsSpec.pre enc Tryz.prog Tryz.f8 [] false w args ∧ laidMetH Tryz.prog Rows.propertySetsRow.laid w) ∧ sizedMet enc Tryz.prog Tryz.f8 (OpenSpec.ofChange Rows.propertySetsSpec) false w args)
      (Rows.propertySetsSpec.post enc Tryz.prog Tryz.f8 false true false false) := by
  refine ret_shaped (C := Tryz.checked) (X := fun w _ => laidMetH Tryz.prog Rows.propertySetsRow.laid w) (fun _ _ _ hh h => h.of_heap hh) own started (by kernel_rfl) Tryz.func8
    (ChangeSpec.witness_shaped (enc := enc) (C := Tryz.checked) (os := os) (X := fun w _ => laidMetH Tryz.prog Rows.propertySetsRow.laid w) false (World.laidAll Tryz.prog os Rows.propertySetsRow.laid) #[.agg #[.slice none 0 0, .slice none 0 0], .int .i64 0, .int .i64 0] 8 (World.laidAll_os _ _ _)
      (World.shaped_of_ZipB (by kernel_rfl) (by kernel_rfl)) (by kernel_rfl) (by kernel_rfl) (by kernel_rfl)
      (by rw [MakeChecks.laidMetH_plain _ _ _ (by kernel_rfl)]; exact laidMet_laidAll _ (by kernel_rfl) (by kernel_rfl))) ?_
  intro W base args ds gs before hval0 hW hL hsh
  have hval : ∀ (j : Nat) t v, Tryz.f8.params[j]? = some t → args[j]? = some v → Value.okWide Tryz.prog W .any base t v := hval0
  have hW' := hW
  obtain ⟨p, q, hA0, hV, rfl, hfz, hnd⟩ := hW
  have hA : DataW.TrodAll enc Tryz.prog W 0 (fun _ => true) true Tryz.f8.params.toList args.toList ds p := hA0
  rw [Tryz.params8] at hA hval
  obtain ⟨v1, v2, v3, d1, d2, d3, p1, p2, p3, rfl, rfl, rfl, h1, h2, h3⟩ := trodAll_three hA
  obtain ⟨rfl, rfl⟩ := trodVars_none hV
  have hlt : ∀ x ∈ p1 ++ p2 ++ p3, x.block < W.heap.size := fun x hx => by simpa using hW'.lt x (by simpa using hx)
  have hargs1 : ∀ (W' : World), Below W.heap.size W W' → DataW.Trod enc Tryz.prog W' 0 (fun b => decide (b < W.heap.size)) true 27 v1 d1 p1 :=
    fun W' hn => Below.trod laidOut (by kernel_rfl) (of_decide_eq_true (by kernel_rfl)) h1 hn (fun x hx => hlt x (by simp [hx]))
  have hargs2 : ∀ (W' : World), Below W.heap.size W W' → DataW.Trod enc Tryz.prog W' 0 (fun b => decide (b < W.heap.size)) true 3 v2 d2 p2 :=
    fun W' hn => Below.trod laidOut (by kernel_rfl) (of_decide_eq_true (by kernel_rfl)) h2 hn (fun x hx => hlt x (by simp [hx]))
  have hargs3 : ∀ (W' : World), Below W.heap.size W W' → DataW.Trod enc Tryz.prog W' 0 (fun b => decide (b < W.heap.size)) true 3 v3 d3 p3 :=
    fun W' hn => Below.trod laidOut (by kernel_rfl) (of_decide_eq_true (by kernel_rfl)) h3 hn (fun x hx => hlt x (by simp [hx]))
  obtain ⟨c0, ok0, hrep0⟩ := open_agg Tryz.underlying27 (hval 0 27 v1 rfl rfl) h1 opens_pr
  have hrep0 : Rep (memOf W) [] (prA c0) v1 := hrep0
  obtain ⟨n1, rfl⟩ := okWide_int Tryz.underlying3 (hval 1 3 v2 rfl rfl)
  obtain ⟨n2, rfl⟩ := okWide_int Tryz.underlying3 (hval 2 3 v3 rfl rfl)
  obtain ⟨mx, hm⟩ := max_of hsh
  have hin : RepL (memOf W) [] (ctLawSs.inp (c0, n1, n2)) #[v1, .int .i64 n1, .int .i64 n2].toList := RepL.cons hrep0 (RepL.cons (Rep.val _) (RepL.cons (Rep.val _) RepL.nil))
  have hcall := (lawPSet_ok (mx := mx)).2.2 (c0, n1, n2) trivial (memOf W) W #[v1, .int .i64 n1, .int .i64 n2] (memOf_fits W) (gl_ok hL hm) hin 0
  refine (callsIn_wide.1 hcall).mono fun e W' hR => ?_
  obtain ⟨M', u, rfl, _, _, _, hu, hb⟩ := hR
  have hu' : u = .bool true := hu
  subst hu'
  simp only [List.append_nil] at hW'
  refine ⟨_, rfl, _, _, _, [], p1 ++ p2 ++ p3, [], hW', ?_, ?_, rfl, hb.frame _, fun h => by cases h⟩
  · exact trodAll_mk1 (shut_bool Tryz.underlying4 true)
  · rw [List.append_assoc]; exact trodAll_mk3 (hargs1 _ hb) (hargs2 _ hb) (hargs3 _ hb)

theorem rowPSs_f : Tryz.prog.funcNamed Rows.propertySetsRow.func = some 8 := by kernel_rfl
theorem rowPSs_c9 : (Rows.propertySetsRow.inPlace == Tryz.prog.inPlace 8) = true := by kernel_rfl
theorem rowPSs_c10 : (Rows.propertySetsRow.unfollowed == Tryz.prog.unfollowed 8) = true := by kernel_rfl
theorem rowPSs_c11 : (Rows.propertySetsRow.recurses == Tryz.prog.recurses 8) = true := by kernel_rfl
theorem rowPSs_c12 : (Rows.propertySetsRow.named == Tryz.prog.varsNamed 8) = true := by kernel_rfl
theorem rowPSs_c0 : Rows.propertySetsRow.wf (OpenSpec.ofChange Rows.propertySetsSpec) = true := by kernel_rfl
theorem rowPSs_c3 : Tryz.f8.params.all (Tryz.prog.readableRec ·) = true := by kernel_rfl
theorem rowPSs_c4 : namedTie Tryz.prog Rows.propertySetsRow.named Rows.propertySetsSpec.vars = true := by kernel_rfl
theorem rowPSs_c5 : (Rows.propertySetsRow.stops == []) = true := by kernel_rfl
theorem rowPSs_c6 : (Tryz.prog.stops == []) = true := by kernel_rfl
theorem rowPSs_c7 : (Rows.propertySetsRow.knobs == []) = true := by kernel_rfl
theorem rowPSs_c8 : (Tryz.prog.stopKnobs == []) = true := by kernel_rfl
theorem rowPSs_c13 : (Rows.propertySetsRow.maps == (Tryz.f8.params.toList ++ Rows.propertySetsSpec.plain.varTypes Tryz.prog).any (Tryz.prog.mapsRec ·)) = true := by kernel_rfl
theorem rowPSs_c14 : (Rows.propertySetsRow.ifaces == (Tryz.f8.params.toList ++ Rows.propertySetsSpec.plain.varTypes Tryz.prog).any (Tryz.prog.ifacesRec ·)) = true := by kernel_rfl
theorem rowPSs_c15 : (Rows.propertySetsRow.mapsOut == Tryz.prog.mapsAmong Tryz.f8.resultTypes.toList) = true := by kernel_rfl
theorem rowPSs_c16 : (Rows.propertySetsRow.loops == (Tryz.f8.params.toList ++ Rows.propertySetsSpec.plain.varTypes Tryz.prog).any (Tryz.prog.loopsFrom ·)) = true := by kernel_rfl
theorem rowPSs_c17 : (Rows.propertySetsRow.wideKeys == (Tryz.f8.params.toList ++ Rows.propertySetsSpec.plain.varTypes Tryz.prog ++ Tryz.f8.resultTypes.toList).any (Tryz.prog.wideKeysFrom ·)) = true := by kernel_rfl
theorem rowPSs_c18 : Rows.propertySetsSpec.vars.all (Tryz.prog.varReadable ·) = true := by kernel_rfl
theorem rowPSs_c19 : Tryz.f8.resultTypes.all (fun t => Tryz.prog.readableRec t && decide (t < Tryz.prog.types.size)) = true := by kernel_rfl
theorem rowPSs_c20 : (Rows.propertySetsRow.ifacesOut == Tryz.f8.resultTypes.toList.any (Tryz.prog.ifacesRec ·)) = true := by kernel_rfl
theorem rowPSs_c21 : (Rows.propertySetsRow.loopsOut == Tryz.f8.resultTypes.toList.any (Tryz.prog.loopsFrom ·)) = true := by kernel_rfl
theorem rowPSs_c22 : (Rows.propertySetsRow.plainKeys == Tryz.prog.plainKeys) = true := by kernel_rfl
theorem rowPSs_c23 : Rows.propertySetsRow.shortTexts.isNone = true := by kernel_rfl
theorem rowPSs_c26 : (Rows.propertySetsRow.lifted == Tryz.prog.liftsFinal) = true := by rw [show Rows.propertySetsRow.lifted = Rows.propertyMakesRow.lifted from by kernel_rfl]; exact jfLift
theorem rowPSs_c27 : (Tryz.prog.make == some Rows.propertySetsRow.make) = true := by rw [show Rows.propertySetsRow.make = Rows.propertyMakesRow.make from by kernel_rfl]; exact jfMake
theorem rowPSs_c29 : (Rows.propertySetsRow.pinned == Rows.propertySetsRow.pinnedBy) = true := by kernel_rfl
theorem rowPSs_c30 : (Rows.propertySetsRow.veiled == (Tryz.f8.params.toList ++ Rows.propertySetsSpec.plain.varTypes Tryz.prog ++ Tryz.f8.resultTypes.toList).any (Tryz.prog.veiledRec ·)) = true := by kernel_rfl
theorem rowPSs_c31 : Rows.propertySetsRow.veiledFits Tryz.prog Tryz.f8.params.toList (Tryz.f8.params.toList ++ Rows.propertySetsSpec.plain.varTypes Tryz.prog ++ Tryz.f8.resultTypes.toList) = true := by kernel_rfl
theorem rowPSs_c : joinedFacts Tryz.prog 8 Tryz.f8 Rows.propertySetsSpec Rows.propertySetsRow = true := and2 (and2 (and2 (and2 (and2 (and2 (and2 (and2 (and2 (and2 (and2 (and2 (and2 (and2 (and2 (and2 (and2 (and2 (and2 (and2 (and2 (and2 (and2 (and2 (and2 (and2 (and2 (and2 (and2 (and2 (and2 (rowPSs_c0) jfOut) jfMaps) rowPSs_c3) rowPSs_c4) rowPSs_c5) rowPSs_c6) rowPSs_c7) rowPSs_c8) rowPSs_c9) rowPSs_c10) rowPSs_c11) rowPSs_c12) rowPSs_c13) rowPSs_c14) rowPSs_c15) rowPSs_c16) rowPSs_c17) rowPSs_c18) rowPSs_c19) rowPSs_c20) rowPSs_c21) rowPSs_c22) rowPSs_c23) jfHeard) jfEnter) rowPSs_c26) rowPSs_c27) (by kernel_rfl)) rowPSs_c29) rowPSs_c30) rowPSs_c31
theorem rowPSs_i : Tryz.f8.isInstance Tryz.prog Rows.propertySetsRow.origin Rows.propertySetsRow.targs := of_decide_eq_true (by kernel_rfl)
theorem rowPSs_w : Tryz.f8.isWrapper Tryz.prog Rows.propertySetsRow.wrapper Rows.propertySetsRow.mainSum := by unfold Func.isWrapper; rw [if_neg (by decide +kernel)]; exact ⟨rfl, rfl⟩
theorem rowPSs_holds : Rows.PropertySetsSaid :=
  OpenClaim.holds_of_wide 8 Tryz.f8 rfl rfl rfl rfl rfl rfl rfl ⟨rfl, rfl, rfl, rfl, rfl⟩ rfl rfl rfl rfl rfl rowPSs_f Tryz.func8 rowPSs_c rowPSs_i rowPSs_w
    (fun os started H enc _ => liftedPSs os started H enc)
end Go.Proofs.YtnegdnbodccgkaaGreatDoor
