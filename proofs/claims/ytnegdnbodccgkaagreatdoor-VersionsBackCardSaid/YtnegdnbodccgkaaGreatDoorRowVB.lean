import Derived.Test.YtnegdnbodccgkaaGreatDoorRo17
import Derived.Test.YtnegdnbodccgkaaGreatDoorLVB
import Derived.Test.YtnegdnbodccgkaaGreatDoorJf
set_option linter.unusedVariables false
set_option linter.unusedSimpArgs false
namespace Go.Proofs.YtnegdnbodccgkaaGreatDoor
open Go Go.Sx Go.ChangeShapes Go.WideShapes Go.ChangeAt Go.RowKit
set_option maxRecDepth 100000 in
theorem liftedVB (os : Os) (started : os.Started) (H : Type) (enc : TypeId × Value → H) :
    ReturnsInHanded {} Tryz.checked os 3 .any (fun w args => (Rows.versionsBackSpec.pre enc Tryz.prog Tryz.f3 [] false w args ∧ laidMetH Tryz.prog Rows.versionsBackRow.laid w) ∧ sizedMet enc Tryz.prog Tryz.f3 (OpenSpec.ofChange Rows.versionsBackSpec) false w args)
      (Rows.versionsBackSpec.post enc Tryz.prog Tryz.f3 false true false false) := by
  refine ret_shaped (C := Tryz.checked) (X := fun w _ => laidMetH Tryz.prog Rows.versionsBackRow.laid w) (fun _ _ _ hh h => h.of_heap hh) own started (by kernel_rfl) Tryz.func3
    (ChangeSpec.witness_shaped (enc := enc) (C := Tryz.checked) (os := os) (X := fun w _ => laidMetH Tryz.prog Rows.versionsBackRow.laid w) false (World.laidAll Tryz.prog os Rows.versionsBackRow.laid) #[.agg #[.int .i64 0, .int .i64 0, .slice none 0 0, .slice none 0 0, .slice none 0 0, .slice none 0 0, .slice none 0 0, .slice none 0 0, .slice none 0 0, .slice none 0 0, .slice none 0 0, .slice none 0 0, .slice none 0 0, .slice none 0 0, .slice none 0 0, .slice none 0 0, .slice none 0 0, .slice none 0 0, .slice none 0 0, .slice none 0 0, .slice none 0 0, .slice none 0 0, .slice none 0 0, .slice none 0 0, .slice none 0 0, .slice none 0 0, .slice none 0 0, .slice none 0 0, .slice none 0 0], .agg #[.int .i64 0, .int .i64 0, .slice none 0 0, .slice none 0 0, .slice none 0 0, .slice none 0 0, .slice none 0 0, .slice none 0 0, .slice none 0 0, .slice none 0 0, .slice none 0 0, .slice none 0 0, .slice none 0 0, .slice none 0 0, .slice none 0 0, .slice none 0 0, .slice none 0 0, .slice none 0 0, .slice none 0 0, .slice none 0 0, .slice none 0 0, .slice none 0 0, .slice none 0 0, .slice none 0 0, .slice none 0 0, .slice none 0 0, .slice none 0 0, .slice none 0 0, .slice none 0 0]] 8 (World.laidAll_os _ _ _)
      (World.shaped_of_ZipB (by kernel_rfl) (by kernel_rfl)) (by kernel_rfl) (by kernel_rfl) (by kernel_rfl)
      (by rw [MakeChecks.laidMetH_plain _ _ _ (by kernel_rfl)]; exact laidMet_laidAll _ (by kernel_rfl) (by kernel_rfl))) ?_
  intro W base args ds gs before hval0 hW hL hsh
  have hval : ∀ (j : Nat) t v, Tryz.f3.params[j]? = some t → args[j]? = some v → Value.okWide Tryz.prog W .any base t v := hval0
  have hW' := hW
  obtain ⟨p, q, hA0, hV, rfl, hfz, hnd⟩ := hW
  have hA : DataW.TrodAll enc Tryz.prog W 0 (fun _ => true) true Tryz.f3.params.toList args.toList ds p := hA0
  rw [Tryz.params3] at hA hval
  obtain ⟨v1, v2, d1, d2, p1, p2, rfl, rfl, rfl, h1, h2⟩ := trodAll_two hA
  obtain ⟨rfl, rfl⟩ := trodVars_none hV
  have hlt : ∀ x ∈ p1 ++ p2, x.block < W.heap.size := fun x hx => by simpa using hW'.lt x (by simpa using hx)
  have hargs1 : ∀ (W' : World), Below W.heap.size W W' → DataW.Trod enc Tryz.prog W' 0 (fun b => decide (b < W.heap.size)) true 39 v1 d1 p1 :=
    fun W' hn => Below.trod laidOut (by kernel_rfl) (of_decide_eq_true (by kernel_rfl)) h1 hn (fun x hx => hlt x (by simp [hx]))
  have hargs2 : ∀ (W' : World), Below W.heap.size W W' → DataW.Trod enc Tryz.prog W' 0 (fun b => decide (b < W.heap.size)) true 39 v2 d2 p2 :=
    fun W' hn => Below.trod laidOut (by kernel_rfl) (of_decide_eq_true (by kernel_rfl)) h2 hn (fun x hx => hlt x (by simp [hx]))
  obtain ⟨c0, ok0, hrep0⟩ := open_agg Tryz.underlying39 (hval 0 39 v1 rfl rfl) h1 opens_db
  have hrep0 : Rep (memOf W) [] (dbA c0) v1 := hrep0
  obtain ⟨c1, ok1, hrep1⟩ := open_agg Tryz.underlying39 (hval 1 39 v2 rfl rfl) h2 opens_db
  have hrep1 : Rep (memOf W) [] (dbA c1) v2 := hrep1
  obtain ⟨mx, hm⟩ := max_of hsh
  have hin : RepL (memOf W) [] (ctLaw2.inp (c0, c1)) #[v1, v2].toList := RepL.cons hrep0 (RepL.cons hrep1 RepL.nil)
  have hcall := (lawVB_ok (mx := mx)).2.2 (c0, c1) ⟨ok0, ok1⟩ (memOf W) W #[v1, v2] (memOf_fits W) (gl_ok hL hm) hin 0
  refine (callsIn_wide.1 hcall).mono fun e W' hR => ?_
  obtain ⟨M', u, rfl, _, _, _, hu, hb⟩ := hR
  have hu' : u = .bool true := hu
  subst hu'
  simp only [List.append_nil] at hW'
  refine ⟨_, rfl, _, _, _, [], p1 ++ p2, [], hW', ?_, ?_, rfl, hb.frame _, fun h => by cases h⟩
  · exact trodAll_mk1 (shut_bool Tryz.underlying4 true)
  · exact trodAll_mk2 (hargs1 _ hb) (hargs2 _ hb)

theorem rowVB_f : Tryz.prog.funcNamed Rows.versionsBackRow.func = some 3 := by kernel_rfl
theorem rowVB_c9 : (Rows.versionsBackRow.inPlace == Tryz.prog.inPlace 3) = true := by kernel_rfl
theorem rowVB_c10 : (Rows.versionsBackRow.unfollowed == Tryz.prog.unfollowed 3) = true := by kernel_rfl
theorem rowVB_c11 : (Rows.versionsBackRow.recurses == Tryz.prog.recurses 3) = true := by kernel_rfl
theorem rowVB_c12 : (Rows.versionsBackRow.named == Tryz.prog.varsNamed 3) = true := by kernel_rfl
theorem rowVB_c0 : Rows.versionsBackRow.wf (OpenSpec.ofChange Rows.versionsBackSpec) = true := by kernel_rfl
theorem rowVB_c3 : Tryz.f3.params.all (Tryz.prog.readableRec ·) = true := by kernel_rfl
theorem rowVB_c4 : namedTie Tryz.prog Rows.versionsBackRow.named Rows.versionsBackSpec.vars = true := by kernel_rfl
theorem rowVB_c5 : (Rows.versionsBackRow.stops == []) = true := by kernel_rfl
theorem rowVB_c6 : (Tryz.prog.stops == []) = true := by kernel_rfl
theorem rowVB_c7 : (Rows.versionsBackRow.knobs == []) = true := by kernel_rfl
theorem rowVB_c8 : (Tryz.prog.stopKnobs == []) = true := by kernel_rfl
theorem rowVB_c13 : (Rows.versionsBackRow.maps == (Tryz.f3.params.toList ++ Rows.versionsBackSpec.plain.varTypes Tryz.prog).any (Tryz.prog.mapsRec ·)) = true := by kernel_rfl
theorem rowVB_c14 : (Rows.versionsBackRow.ifaces == (Tryz.f3.params.toList ++ Rows.versionsBackSpec.plain.varTypes Tryz.prog).any (Tryz.prog.ifacesRec ·)) = true := by kernel_rfl
theorem rowVB_c15 : (Rows.versionsBackRow.mapsOut == Tryz.prog.mapsAmong Tryz.f3.resultTypes.toList) = true := by kernel_rfl
theorem rowVB_c16 : (Rows.versionsBackRow.loops == (Tryz.f3.params.toList ++ Rows.versionsBackSpec.plain.varTypes Tryz.prog).any (Tryz.prog.loopsFrom ·)) = true := by kernel_rfl
theorem rowVB_c17 : (Rows.versionsBackRow.wideKeys == (Tryz.f3.params.toList ++ Rows.versionsBackSpec.plain.varTypes Tryz.prog ++ Tryz.f3.resultTypes.toList).any (Tryz.prog.wideKeysFrom ·)) = true := by kernel_rfl
theorem rowVB_c18 : Rows.versionsBackSpec.vars.all (Tryz.prog.varReadable ·) = true := by kernel_rfl
theorem rowVB_c19 : Tryz.f3.resultTypes.all (fun t => Tryz.prog.readableRec t && decide (t < Tryz.prog.types.size)) = true := by kernel_rfl
theorem rowVB_c20 : (Rows.versionsBackRow.ifacesOut == Tryz.f3.resultTypes.toList.any (Tryz.prog.ifacesRec ·)) = true := by kernel_rfl
theorem rowVB_c21 : (Rows.versionsBackRow.loopsOut == Tryz.f3.resultTypes.toList.any (Tryz.prog.loopsFrom ·)) = true := by kernel_rfl
theorem rowVB_c22 : (Rows.versionsBackRow.plainKeys == Tryz.prog.plainKeys) = true := by kernel_rfl
theorem rowVB_c23 : Rows.versionsBackRow.shortTexts.isNone = true := by kernel_rfl
theorem rowVB_c26 : (Rows.versionsBackRow.lifted == Tryz.prog.liftsFinal) = true := by rw [show Rows.versionsBackRow.lifted = Rows.propertyMakesRow.lifted from by kernel_rfl]; exact jfLift
theorem rowVB_c27 : (Tryz.prog.make == some Rows.versionsBackRow.make) = true := by rw [show Rows.versionsBackRow.make = Rows.propertyMakesRow.make from by kernel_rfl]; exact jfMake
theorem rowVB_c29 : (Rows.versionsBackRow.pinned == Rows.versionsBackRow.pinnedBy) = true := by kernel_rfl
theorem rowVB_c30 : (Rows.versionsBackRow.veiled == (Tryz.f3.params.toList ++ Rows.versionsBackSpec.plain.varTypes Tryz.prog ++ Tryz.f3.resultTypes.toList).any (Tryz.prog.veiledRec ·)) = true := by kernel_rfl
theorem rowVB_c31 : Rows.versionsBackRow.veiledFits Tryz.prog Tryz.f3.params.toList (Tryz.f3.params.toList ++ Rows.versionsBackSpec.plain.varTypes Tryz.prog ++ Tryz.f3.resultTypes.toList) = true := by kernel_rfl
theorem rowVB_c : joinedFacts Tryz.prog 3 Tryz.f3 Rows.versionsBackSpec Rows.versionsBackRow = true := and2 (and2 (and2 (and2 (and2 (and2 (and2 (and2 (and2 (and2 (and2 (and2 (and2 (and2 (and2 (and2 (and2 (and2 (and2 (and2 (and2 (and2 (and2 (and2 (and2 (and2 (and2 (and2 (and2 (and2 (and2 (rowVB_c0) jfOut) jfMaps) rowVB_c3) rowVB_c4) rowVB_c5) rowVB_c6) rowVB_c7) rowVB_c8) rowVB_c9) rowVB_c10) rowVB_c11) rowVB_c12) rowVB_c13) rowVB_c14) rowVB_c15) rowVB_c16) rowVB_c17) rowVB_c18) rowVB_c19) rowVB_c20) rowVB_c21) rowVB_c22) rowVB_c23) jfHeard) jfEnter) rowVB_c26) rowVB_c27) (by kernel_rfl)) rowVB_c29) rowVB_c30) rowVB_c31
theorem rowVB_i : Tryz.f3.isInstance Tryz.prog Rows.versionsBackRow.origin Rows.versionsBackRow.targs := of_decide_eq_true (by kernel_rfl)
theorem rowVB_w : Tryz.f3.isWrapper Tryz.prog Rows.versionsBackRow.wrapper Rows.versionsBackRow.mainSum := by unfold Func.isWrapper; rw [if_neg (by decide +kernel)]; exact ⟨rfl, rfl⟩
theorem rowVB_holds : Rows.VersionsBackSaid :=
  OpenClaim.holds_of_wide 3 Tryz.f3 rfl rfl rfl rfl rfl rfl rfl ⟨rfl, rfl, rfl, rfl, rfl⟩ rfl rfl rfl rfl rfl rowVB_f Tryz.func3 rowVB_c rowVB_i rowVB_w
    (fun os started H enc _ => liftedVB os started H enc)
end Go.Proofs.YtnegdnbodccgkaaGreatDoor
