import Derived.Test.YtnegdnbodccgkaaGreatDoorRo10
import Derived.Test.YtnegdnbodccgkaaGreatDoorLPz
import Derived.Test.YtnegdnbodccgkaaGreatDoorJf
set_option linter.unusedVariables false
set_option linter.unusedSimpArgs false
namespace Go.Proofs.YtnegdnbodccgkaaGreatDoor
open Go Go.Sx Go.ChangeShapes Go.WideShapes Go.ChangeAt Go.RowKit
set_option maxRecDepth 100000 in
theorem liftedPOr (os : Os) (started : os.Started) (H : Type) (enc : TypeId × Value → H) :
    ReturnsInHanded {} Tryz.checked os 12 .any (fun w args => (Rows.propertyOrderSpec.pre enc Tryz.prog Tryz.f12 [] false w args ∧ laidMetH Tryz.prog Rows.propertyOrderRow.laid w) ∧ sizedMet enc Tryz.prog Tryz.f12 (OpenSpec.ofChange Rows.propertyOrderSpec) false w args)
      (Rows.propertyOrderSpec.post enc Tryz.prog Tryz.f12 false true false false) := by
  refine ret_shaped (C := Tryz.checked) (X := fun w _ => laidMetH Tryz.prog Rows.propertyOrderRow.laid w) (fun _ _ _ hh h => h.of_heap hh) own started (by kernel_rfl) Tryz.func12
    (ChangeSpec.witness_shaped (enc := enc) (C := Tryz.checked) (os := os) (X := fun w _ => laidMetH Tryz.prog Rows.propertyOrderRow.laid w) false (World.laidAll Tryz.prog os Rows.propertyOrderRow.laid) #[.slice none 0 0, .slice none 0 0, .int .i64 0] 8 (World.laidAll_os _ _ _)
      (World.shaped_of_ZipB (by kernel_rfl) (by kernel_rfl)) (by kernel_rfl) (by kernel_rfl) (by kernel_rfl)
      (by rw [MakeChecks.laidMetH_plain _ _ _ (by kernel_rfl)]; exact laidMet_laidAll _ (by kernel_rfl) (by kernel_rfl))) ?_
  intro W base args ds gs before hval0 hW hL hsh
  have hval : ∀ (j : Nat) t v, Tryz.f12.params[j]? = some t → args[j]? = some v → Value.okWide Tryz.prog W .any base t v := hval0
  have hW' := hW
  obtain ⟨p, q, hA0, hV, rfl, hfz, hnd⟩ := hW
  have hA : DataW.TrodAll enc Tryz.prog W 0 (fun _ => true) true Tryz.f12.params.toList args.toList ds p := hA0
  rw [Tryz.params12] at hA hval
  obtain ⟨v1, v2, v3, d1, d2, d3, p1, p2, p3, rfl, rfl, rfl, h1, h2, h3⟩ := trodAll_three hA
  obtain ⟨rfl, rfl⟩ := trodVars_none hV
  have hlt : ∀ x ∈ p1 ++ p2 ++ p3, x.block < W.heap.size := fun x hx => by simpa using hW'.lt x (by simpa using hx)
  have hargs1 : ∀ (W' : World), Below W.heap.size W W' → DataW.Trod enc Tryz.prog W' 0 (fun b => decide (b < W.heap.size)) true 24 v1 d1 p1 :=
    fun W' hn => Below.trod laidOut (by kernel_rfl) (of_decide_eq_true (by kernel_rfl)) h1 hn (fun x hx => hlt x (by simp [hx]))
  have hargs2 : ∀ (W' : World), Below W.heap.size W W' → DataW.Trod enc Tryz.prog W' 0 (fun b => decide (b < W.heap.size)) true 25 v2 d2 p2 :=
    fun W' hn => Below.trod laidOut (by kernel_rfl) (of_decide_eq_true (by kernel_rfl)) h2 hn (fun x hx => hlt x (by simp [hx]))
  have hargs3 : ∀ (W' : World), Below W.heap.size W W' → DataW.Trod enc Tryz.prog W' 0 (fun b => decide (b < W.heap.size)) true 3 v3 d3 p3 :=
    fun W' hn => Below.trod laidOut (by kernel_rfl) (of_decide_eq_true (by kernel_rfl)) h3 hn (fun x hx => hlt x (by simp [hx]))
  obtain ⟨c0, ok0, hrep0⟩ := open_one (okWide_slice Tryz.underlying24 (hval 0 24 v1 rfl rfl)) h1 opens_strs
  have hrep0 : Rep (memOf W) [] (slD 1 strD c0) v1 := hrep0
  obtain ⟨c1, ok1, hrep1⟩ := open_one (okWide_slice Tryz.underlying25 (hval 1 25 v2 rfl rfl)) h2 opens_sps
  have hrep1 : Rep (memOf W) [] (spsD c1) v2 := hrep1
  obtain ⟨n2, rfl⟩ := okWide_int Tryz.underlying3 (hval 2 3 v3 rfl rfl)
  obtain ⟨mx, hm⟩ := max_of hsh
  have hin : RepL (memOf W) [] (ctLawO.inp (c0, c1, n2)) #[v1, v2, .int .i64 n2].toList := RepL.cons hrep0 (RepL.cons hrep1 (RepL.cons (Rep.val _) RepL.nil))
  have hcall := (lawPOr_ok (mx := mx)).2.2 (c0, c1, n2) trivial (memOf W) W #[v1, v2, .int .i64 n2] (memOf_fits W) (gl_ok hL hm) hin 0
  refine (callsIn_wide.1 hcall).mono fun e W' hR => ?_
  obtain ⟨M', u, rfl, _, _, _, hu, hb⟩ := hR
  have hu' : u = .bool true := hu
  subst hu'
  simp only [List.append_nil] at hW'
  refine ⟨_, rfl, _, _, _, [], p1 ++ p2 ++ p3, [], hW', ?_, ?_, rfl, hb.frame _, fun h => by cases h⟩
  · exact trodAll_mk1 (shut_bool Tryz.underlying4 true)
  · rw [List.append_assoc]; exact trodAll_mk3 (hargs1 _ hb) (hargs2 _ hb) (hargs3 _ hb)

theorem rowPOr_f : Tryz.prog.funcNamed Rows.propertyOrderRow.func = some 12 := by kernel_rfl
theorem rowPOr_c9 : (Rows.propertyOrderRow.inPlace == Tryz.prog.inPlace 12) = true := by kernel_rfl
theorem rowPOr_c10 : (Rows.propertyOrderRow.unfollowed == Tryz.prog.unfollowed 12) = true := by kernel_rfl
theorem rowPOr_c11 : (Rows.propertyOrderRow.recurses == Tryz.prog.recurses 12) = true := by kernel_rfl
theorem rowPOr_c12 : (Rows.propertyOrderRow.named == Tryz.prog.varsNamed 12) = true := by kernel_rfl
theorem rowPOr_c0 : Rows.propertyOrderRow.wf (OpenSpec.ofChange Rows.propertyOrderSpec) = true := by kernel_rfl
theorem rowPOr_c3 : Tryz.f12.params.all (Tryz.prog.readableRec ·) = true := by kernel_rfl
theorem rowPOr_c4 : namedTie Tryz.prog Rows.propertyOrderRow.named Rows.propertyOrderSpec.vars = true := by kernel_rfl
theorem rowPOr_c5 : (Rows.propertyOrderRow.stops == []) = true := by kernel_rfl
theorem rowPOr_c6 : (Tryz.prog.stops == []) = true := by kernel_rfl
theorem rowPOr_c7 : (Rows.propertyOrderRow.knobs == []) = true := by kernel_rfl
theorem rowPOr_c8 : (Tryz.prog.stopKnobs == []) = true := by kernel_rfl
theorem rowPOr_c13 : (Rows.propertyOrderRow.maps == (Tryz.f12.params.toList ++ Rows.propertyOrderSpec.plain.varTypes Tryz.prog).any (Tryz.prog.mapsRec ·)) = true := by kernel_rfl
theorem rowPOr_c14 : (Rows.propertyOrderRow.ifaces == (Tryz.f12.params.toList ++ Rows.propertyOrderSpec.plain.varTypes Tryz.prog).any (Tryz.prog.ifacesRec ·)) = true := by kernel_rfl
theorem rowPOr_c15 : (Rows.propertyOrderRow.mapsOut == Tryz.prog.mapsAmong Tryz.f12.resultTypes.toList) = true := by kernel_rfl
theorem rowPOr_c16 : (Rows.propertyOrderRow.loops == (Tryz.f12.params.toList ++ Rows.propertyOrderSpec.plain.varTypes Tryz.prog).any (Tryz.prog.loopsFrom ·)) = true := by kernel_rfl
theorem rowPOr_c17 : (Rows.propertyOrderRow.wideKeys == (Tryz.f12.params.toList ++ Rows.propertyOrderSpec.plain.varTypes Tryz.prog ++ Tryz.f12.resultTypes.toList).any (Tryz.prog.wideKeysFrom ·)) = true := by kernel_rfl
theorem rowPOr_c18 : Rows.propertyOrderSpec.vars.all (Tryz.prog.varReadable ·) = true := by kernel_rfl
theorem rowPOr_c19 : Tryz.f12.resultTypes.all (fun t => Tryz.prog.readableRec t && decide (t < Tryz.prog.types.size)) = true := by kernel_rfl
theorem rowPOr_c20 : (Rows.propertyOrderRow.ifacesOut == Tryz.f12.resultTypes.toList.any (Tryz.prog.ifacesRec ·)) = true := by kernel_rfl
theorem rowPOr_c21 : (Rows.propertyOrderRow.loopsOut == Tryz.f12.resultTypes.toList.any (Tryz.prog.loopsFrom ·)) = true := by kernel_rfl
theorem rowPOr_c22 : (Rows.propertyOrderRow.plainKeys == Tryz.prog.plainKeys) = true := by kernel_rfl
theorem rowPOr_c23 : Rows.propertyOrderRow.shortTexts.isNone = true := by kernel_rfl
theorem rowPOr_c26 : (Rows.propertyOrderRow.lifted == Tryz.prog.liftsFinal) = true := by rw [show Rows.propertyOrderRow.lifted = Rows.propertyMakesRow.lifted from by kernel_rfl]; exact jfLift
theorem rowPOr_c27 : (Tryz.prog.make == some Rows.propertyOrderRow.make) = true := by rw [show Rows.propertyOrderRow.make = Rows.propertyMakesRow.make from by kernel_rfl]; exact jfMake
theorem rowPOr_c29 : (Rows.propertyOrderRow.pinned == Rows.propertyOrderRow.pinnedBy) = true := by kernel_rfl
theorem rowPOr_c30 : (Rows.propertyOrderRow.veiled == (Tryz.f12.params.toList ++ Rows.propertyOrderSpec.plain.varTypes Tryz.prog ++ Tryz.f12.resultTypes.toList).any (Tryz.prog.veiledRec ·)) = true := by kernel_rfl
theorem rowPOr_c31 : Rows.propertyOrderRow.veiledFits Tryz.prog Tryz.f12.params.toList (Tryz.f12.params.toList ++ Rows.propertyOrderSpec.plain.varTypes Tryz.prog ++ Tryz.f12.resultTypes.toList) = true := by kernel_rfl
theorem rowPOr_c : joinedFacts Tryz.prog 12 Tryz.f12 Rows.propertyOrderSpec Rows.propertyOrderRow = true := and2 (and2 (and2 (and2 (and2 (and2 (and2 (and2 (and2 (and2 (and2 (and2 (and2 (and2 (and2 (and2 (and2 (and2 (and2 (and2 (and2 (and2 (and2 (and2 (and2 (and2 (and2 (and2 (and2 (and2 (and2 (rowPOr_c0) jfOut) jfMaps) rowPOr_c3) rowPOr_c4) rowPOr_c5) rowPOr_c6) rowPOr_c7) rowPOr_c8) rowPOr_c9) rowPOr_c10) rowPOr_c11) rowPOr_c12) rowPOr_c13) rowPOr_c14) rowPOr_c15) rowPOr_c16) rowPOr_c17) rowPOr_c18) rowPOr_c19) rowPOr_c20) rowPOr_c21) rowPOr_c22) rowPOr_c23) jfHeard) jfEnter) rowPOr_c26) rowPOr_c27) (by kernel_rfl)) rowPOr_c29) rowPOr_c30) rowPOr_c31
theorem rowPOr_i : Tryz.f12.isInstance Tryz.prog Rows.propertyOrderRow.origin Rows.propertyOrderRow.targs := of_decide_eq_true (by kernel_rfl)
theorem rowPOr_w : Tryz.f12.isWrapper Tryz.prog Rows.propertyOrderRow.wrapper Rows.propertyOrderRow.mainSum := by unfold Func.isWrapper; rw [if_neg (by decide +kernel)]; exact ⟨rfl, rfl⟩
theorem rowPOr_holds : Rows.PropertyOrderSaid :=
  OpenClaim.holds_of_wide 12 Tryz.f12 rfl rfl rfl rfl rfl rfl rfl ⟨rfl, rfl, rfl, rfl, rfl⟩ rfl rfl rfl rfl rfl rowPOr_f Tryz.func12 rowPOr_c rowPOr_i rowPOr_w
    (fun os started H enc _ => liftedPOr os started H enc)
end Go.Proofs.YtnegdnbodccgkaaGreatDoor
