import Derived.Test.YtcihhjjmcompkaaGreatDoorRo18
import Derived.Test.YtcihhjjmcompkaaGreatDoorL18b
import Derived.Test.YtcihhjjmcompkaaGreatDoorOpz
set_option linter.unusedVariables false
set_option linter.unusedSimpArgs false
namespace Go.Proofs.YtcihhjjmcompkaaGreatDoor
open Go Go.Sx Go.ChangeShapes Go.WideShapes Go.ChangeAt Go.RowKit
set_option maxRecDepth 100000 in
theorem liftedSB (os : Os) (started : os.Started) (H : Type) (enc : TypeId × Value → H) :
  ReturnsInHanded {} Tryz.checked os 6 .any (fun w args => (Rows.setexprBeginsSpec.pre enc Tryz.prog Tryz.f6 [] false w args ∧ laidMetH Tryz.prog Rows.setexprBeginsRow.laid w) ∧ sizedMet enc Tryz.prog Tryz.f6 (OpenSpec.ofChange Rows.setexprBeginsSpec) false w args)
   (Rows.setexprBeginsSpec.post enc Tryz.prog Tryz.f6 false true false false) := by
 refine ret_shaped (C := Tryz.checked) (X := fun w _ => laidMetH Tryz.prog Rows.setexprBeginsRow.laid w) (fun _ _ _ hh h => h.of_heap hh) own started (by kernel_rfl) Tryz.func6
  (ChangeSpec.witness_shaped (enc := enc) (C := Tryz.checked) (os := os) (X := fun w _ => laidMetH Tryz.prog Rows.setexprBeginsRow.laid w) false (World.laidAll Tryz.prog os Rows.setexprBeginsRow.laid) #[.agg #[.int .i64 0, .int .i64 0, .slice none 0 0, .slice none 0 0, .slice none 0 0, .slice none 0 0, .slice none 0 0, .slice none 0 0, .slice none 0 0, .slice none 0 0, .slice none 0 0, .slice none 0 0, .slice none 0 0, .slice none 0 0, .slice none 0 0, .slice none 0 0, .slice none 0 0, .slice none 0 0, .slice none 0 0, .slice none 0 0, .slice none 0 0, .slice none 0 0, .slice none 0 0, .slice none 0 0, .slice none 0 0, .slice none 0 0, .slice none 0 0, .slice none 0 0, .slice none 0 0], .string ⟨#[]⟩] 8 (World.laidAll_os _ _ _)
    (World.shaped_of_ZipB (by kernel_rfl) (by kernel_rfl)) (by kernel_rfl) (by kernel_rfl) (by kernel_rfl)
    (by rw [MakeChecks.laidMetH_plain _ _ _ (by kernel_rfl)]; exact laidMet_laidAll _ (by kernel_rfl) (by kernel_rfl))) ?_
 intro W base args ds gs before hval0 hW hL hsh
 have hval : ∀ (j : Nat) t v, Tryz.f6.params[j]? = some t → args[j]? = some v → Value.okWide Tryz.prog W .any base t v := hval0
 have hW' := hW
 obtain ⟨p, q, hA0, hV, rfl, hfz, hnd⟩ := hW
 have hA : DataW.TrodAll enc Tryz.prog W 0 (fun _ => true) true Tryz.f6.params.toList args.toList ds p := hA0
 rw [Tryz.params6] at hA hval
 obtain ⟨v1, v2, d1, d2, p1, p2, rfl, rfl, rfl, h1, h2⟩ := trodAll_two hA
 obtain ⟨rfl, rfl⟩ := trodVars_none hV
 have hlt : ∀ x ∈ p1 ++ p2, x.block < W.heap.size := fun x hx => by simpa using hW'.lt x (by simpa using hx)
 have hargs1 : ∀ (W' : World), Below W.heap.size W W' → DataW.Trod enc Tryz.prog W' 0 (fun b => decide (b < W.heap.size)) true 47 v1 d1 p1 :=
  fun W' hn => Below.trod laidOut (by kernel_rfl) (of_decide_eq_true (by kernel_rfl)) h1 hn (fun x hx => hlt x (by simp [hx]))
 have hargs2 : ∀ (W' : World), Below W.heap.size W W' → DataW.Trod enc Tryz.prog W' 0 (fun b => decide (b < W.heap.size)) true 9 v2 d2 p2 :=
  fun W' hn => Below.trod laidOut (by kernel_rfl) (of_decide_eq_true (by kernel_rfl)) h2 hn (fun x hx => hlt x (by simp [hx]))
 obtain ⟨c0, ok0, hrep0⟩ := open_agg Tryz.underlying47 (hval 0 47 v1 rfl rfl) h1 opens_db
 have hrep0 : Rep (memOf W) [] (dbA c0) v1 := hrep0
 obtain ⟨s1, rfl⟩ := okWide_string Tryz.underlying9 (hval 1 9 v2 rfl rfl)
 obtain ⟨mx, hm⟩ := max_of hsh
 have hin : RepL (memOf W) [] (ctLaw18B.inp (c0, s1)) #[v1, .string s1].toList := RepL.cons hrep0 (RepL.cons (Rep.val _) RepL.nil)
 have hcall := (lawSB_ok (pb := false) (mx := mx)).2.2 (c0, s1) ok0 (memOf W) W #[v1, .string s1] (memOf_fits W) (gl_ok hL hm) hin 0
 refine (callsIn_wide.1 hcall).mono fun e W' hR => ?_
 obtain ⟨M', u, rfl, _, _, _, hu, hb⟩ := hR
 have hu' : u = .bool true := hu
 subst hu'
 simp only [List.append_nil] at hW'
 refine ⟨_, rfl, _, _, _, [], p1 ++ p2, [], hW', ?_, ?_, rfl, hb.frame _, fun h => by cases h⟩
 ·exact trodAll_mk1 (shut_bool Tryz.underlying4 true)
 ·exact trodAll_mk2 (hargs1 _ hb) (hargs2 _ hb)
theorem rowSB_f : Tryz.prog.funcNamed Rows.setexprBeginsRow.func = some 6 := by kernel_rfl
theorem rowSB_c9 : (Rows.setexprBeginsRow.inPlace == Tryz.prog.inPlace 6) = true := by kernel_rfl
theorem rowSB_c10 : (Rows.setexprBeginsRow.unfollowed == Tryz.prog.unfollowed 6) = true := by kernel_rfl
theorem rowSB_c11 : (Rows.setexprBeginsRow.recurses == Tryz.prog.recurses 6) = true := by kernel_rfl
theorem rowSB_c12 : (Rows.setexprBeginsRow.named == Tryz.prog.varsNamed 6) = true := by kernel_rfl
theorem rowSB_c0 : Rows.setexprBeginsRow.wf (OpenSpec.ofChange Rows.setexprBeginsSpec) = true := by kernel_rfl
theorem rowSB_c3 : Tryz.f6.params.all (Tryz.prog.readableRec ·) = true := by kernel_rfl
theorem rowSB_c4 : namedTie Tryz.prog Rows.setexprBeginsRow.named Rows.setexprBeginsSpec.vars = true := by kernel_rfl
theorem rowSB_c5 : (Rows.setexprBeginsRow.stops == []) = true := by kernel_rfl
theorem rowSB_c6 : (Tryz.prog.stops == []) = true := by kernel_rfl
theorem rowSB_c7 : (Rows.setexprBeginsRow.knobs == []) = true := by kernel_rfl
theorem rowSB_c8 : (Tryz.prog.stopKnobs == []) = true := by kernel_rfl
theorem rowSB_c13 : (Rows.setexprBeginsRow.maps == (Tryz.f6.params.toList ++ Rows.setexprBeginsSpec.plain.varTypes Tryz.prog).any (Tryz.prog.mapsRec ·)) = true := by kernel_rfl
theorem rowSB_c14 : (Rows.setexprBeginsRow.ifaces == (Tryz.f6.params.toList ++ Rows.setexprBeginsSpec.plain.varTypes Tryz.prog).any (Tryz.prog.ifacesRec ·)) = true := by kernel_rfl
theorem rowSB_c15 : (Rows.setexprBeginsRow.mapsOut == Tryz.prog.mapsAmong Tryz.f6.resultTypes.toList) = true := by kernel_rfl
theorem rowSB_c16 : (Rows.setexprBeginsRow.loops == (Tryz.f6.params.toList ++ Rows.setexprBeginsSpec.plain.varTypes Tryz.prog).any (Tryz.prog.loopsFrom ·)) = true := by kernel_rfl
theorem rowSB_c17 : (Rows.setexprBeginsRow.wideKeys == (Tryz.f6.params.toList ++ Rows.setexprBeginsSpec.plain.varTypes Tryz.prog ++ Tryz.f6.resultTypes.toList).any (Tryz.prog.wideKeysFrom ·)) = true := by kernel_rfl
theorem rowSB_c18 : Rows.setexprBeginsSpec.vars.all (Tryz.prog.varReadable ·) = true := by kernel_rfl
theorem rowSB_c19 : Tryz.f6.resultTypes.all (fun t => Tryz.prog.readableRec t && decide (t < Tryz.prog.types.size)) = true := by kernel_rfl
theorem rowSB_c20 : (Rows.setexprBeginsRow.ifacesOut == Tryz.f6.resultTypes.toList.any (Tryz.prog.ifacesRec ·)) = true := by kernel_rfl
theorem rowSB_c21 : (Rows.setexprBeginsRow.loopsOut == Tryz.f6.resultTypes.toList.any (Tryz.prog.loopsFrom ·)) = true := by kernel_rfl
theorem rowSB_c22 : (Rows.setexprBeginsRow.plainKeys == Tryz.prog.plainKeys) = true := by kernel_rfl
theorem rowSB_c23 : Rows.setexprBeginsRow.shortTexts.isNone = true := by kernel_rfl
theorem rowSB_c26 : (Rows.setexprBeginsRow.lifted == Tryz.prog.liftsFinal) = true := by rw [show Rows.setexprBeginsRow.lifted = Rows.setexprTextsRow.lifted from by kernel_rfl]; exact jfLift
theorem rowSB_c27 : (Tryz.prog.make == some Rows.setexprBeginsRow.make) = true := by rw [show Rows.setexprBeginsRow.make = Rows.setexprTextsRow.make from by kernel_rfl]; exact jfMake
theorem rowSB_c29 : (Rows.setexprBeginsRow.pinned == Rows.setexprBeginsRow.pinnedBy) = true := by kernel_rfl
theorem rowSB_c30 : (Rows.setexprBeginsRow.veiled == (Tryz.f6.params.toList ++ Rows.setexprBeginsSpec.plain.varTypes Tryz.prog ++ Tryz.f6.resultTypes.toList).any (Tryz.prog.veiledRec ·)) = true := by kernel_rfl
theorem rowSB_c31 : Rows.setexprBeginsRow.veiledFits Tryz.prog Tryz.f6.params.toList (Tryz.f6.params.toList ++ Rows.setexprBeginsSpec.plain.varTypes Tryz.prog ++ Tryz.f6.resultTypes.toList) = true := by kernel_rfl
theorem rowSB_c : joinedFacts Tryz.prog 6 Tryz.f6 Rows.setexprBeginsSpec Rows.setexprBeginsRow = true := and2 (and2 (and2 (and2 (and2 (and2 (and2 (and2 (and2 (and2 (and2 (and2 (and2 (and2 (and2 (and2 (and2 (and2 (and2 (and2 (and2 (and2 (and2 (and2 (and2 (and2 (and2 (and2 (and2 (and2 (and2 (rowSB_c0) jfOut) jfMaps) rowSB_c3) rowSB_c4) rowSB_c5) rowSB_c6) rowSB_c7) rowSB_c8) rowSB_c9) rowSB_c10) rowSB_c11) rowSB_c12) rowSB_c13) rowSB_c14) rowSB_c15) rowSB_c16) rowSB_c17) rowSB_c18) rowSB_c19) rowSB_c20) rowSB_c21) rowSB_c22) rowSB_c23) jfHeard) jfEnter) rowSB_c26) rowSB_c27) (by kernel_rfl)) rowSB_c29) rowSB_c30) rowSB_c31
theorem rowSB_i : Tryz.f6.isInstance Tryz.prog Rows.setexprBeginsRow.origin Rows.setexprBeginsRow.targs := of_decide_eq_true (by kernel_rfl)
theorem rowSB_w : Tryz.f6.isWrapper Tryz.prog Rows.setexprBeginsRow.wrapper Rows.setexprBeginsRow.mainSum := by unfold Func.isWrapper; rw [if_neg (by decide +kernel)]; exact ⟨rfl, rfl⟩
theorem rowSB_holds : Rows.SetexprBeginsSaid :=
 OpenClaim.holds_of_wide 6 Tryz.f6 rfl rfl rfl rfl rfl rfl rfl ⟨rfl, rfl, rfl, rfl, rfl⟩ rfl rfl rfl rfl rfl rowSB_f Tryz.func6 rowSB_c rowSB_i rowSB_w
  (fun os started H enc _ => liftedSB os started H enc)
end Go.Proofs.YtcihhjjmcompkaaGreatDoor
