import Derived.Test.YtcihhjjmcompkaaGreatDoorRo51
import Derived.Test.YtcihhjjmcompkaaGreatDoorY8z
import Derived.Test.YtcihhjjmcompkaaGreatDoorOpz
set_option linter.unusedVariables false
set_option linter.unusedSimpArgs false
namespace Go.Proofs.YtcihhjjmcompkaaGreatDoor
open Go Go.Sx Go.ChangeShapes Go.WideShapes Go.ChangeAt Go.RowKit
set_option maxRecDepth 100000 in
theorem liftedTL (os : Os) (started : os.Started) (H : Type) (enc : TypeId × Value → H) :
  ReturnsInHanded {} Tryz.checked os 11 .any (fun w args => (Rows.transruleLinesSpec.pre enc Tryz.prog Tryz.f11 [] false w args ∧ laidMetH Tryz.prog Rows.transruleLinesRow.laid w) ∧ sizedMet enc Tryz.prog Tryz.f11 (OpenSpec.ofChange Rows.transruleLinesSpec) false w args)
   (Rows.transruleLinesSpec.post enc Tryz.prog Tryz.f11 false true false false) := by
 refine ret_shaped (C := Tryz.checked) (X := fun w _ => laidMetH Tryz.prog Rows.transruleLinesRow.laid w) (fun _ _ _ hh h => h.of_heap hh) own started (by kernel_rfl) Tryz.func11
  (ChangeSpec.witness_shaped (enc := enc) (C := Tryz.checked) (os := os) (X := fun w _ => laidMetH Tryz.prog Rows.transruleLinesRow.laid w) false (World.laidAll Tryz.prog os Rows.transruleLinesRow.laid) #[.agg #[.int .i64 0, .int .i64 0, .slice none 0 0, .slice none 0 0, .slice none 0 0, .slice none 0 0, .slice none 0 0, .slice none 0 0, .slice none 0 0, .slice none 0 0, .slice none 0 0, .slice none 0 0, .slice none 0 0, .slice none 0 0, .slice none 0 0, .slice none 0 0, .slice none 0 0, .slice none 0 0, .slice none 0 0, .slice none 0 0, .slice none 0 0, .slice none 0 0, .slice none 0 0, .slice none 0 0, .slice none 0 0, .slice none 0 0, .slice none 0 0, .slice none 0 0, .slice none 0 0], .string ⟨#[]⟩, .string ⟨#[]⟩] 8 (World.laidAll_os _ _ _)
    (World.shaped_of_ZipB (by kernel_rfl) (by kernel_rfl)) (by kernel_rfl) (by kernel_rfl) (by kernel_rfl)
    (by rw [MakeChecks.laidMetH_plain _ _ _ (by kernel_rfl)]; exact laidMet_laidAll _ (by kernel_rfl) (by kernel_rfl))) ?_
 intro W base args ds gs before hval0 hW hL hsh
 have hval : ∀ (j : Nat) t v, Tryz.f11.params[j]? = some t → args[j]? = some v → Value.okWide Tryz.prog W .any base t v := hval0
 have hW' := hW
 obtain ⟨p, q, hA0, hV, rfl, hfz, hnd⟩ := hW
 have hA : DataW.TrodAll enc Tryz.prog W 0 (fun _ => true) true Tryz.f11.params.toList args.toList ds p := hA0
 rw [Tryz.params11] at hA hval
 obtain ⟨v1, v2, v3, d1, d2, d3, p1, p2, p3, rfl, rfl, rfl, h1, h2, h3⟩ := trodAll_three hA
 obtain ⟨rfl, rfl⟩ := trodVars_none hV
 have hlt : ∀ x ∈ p1 ++ p2 ++ p3, x.block < W.heap.size := fun x hx => by simpa using hW'.lt x (by simpa using hx)
 have hargs1 : ∀ (W' : World), Below W.heap.size W W' → DataW.Trod enc Tryz.prog W' 0 (fun b => decide (b < W.heap.size)) true 47 v1 d1 p1 :=
  fun W' hn => Below.trod laidOut (by kernel_rfl) (of_decide_eq_true (by kernel_rfl)) h1 hn (fun x hx => hlt x (by simp [hx]))
 have hargs2 : ∀ (W' : World), Below W.heap.size W W' → DataW.Trod enc Tryz.prog W' 0 (fun b => decide (b < W.heap.size)) true 9 v2 d2 p2 :=
  fun W' hn => Below.trod laidOut (by kernel_rfl) (of_decide_eq_true (by kernel_rfl)) h2 hn (fun x hx => hlt x (by simp [hx]))
 have hargs3 : ∀ (W' : World), Below W.heap.size W W' → DataW.Trod enc Tryz.prog W' 0 (fun b => decide (b < W.heap.size)) true 9 v3 d3 p3 :=
  fun W' hn => Below.trod laidOut (by kernel_rfl) (of_decide_eq_true (by kernel_rfl)) h3 hn (fun x hx => hlt x (by simp [hx]))
 obtain ⟨c0, ok0, hrep0⟩ := open_agg Tryz.underlying47 (hval 0 47 v1 rfl rfl) h1 opens_db
 have hrep0 : Rep (memOf W) [] (dbA c0) v1 := hrep0
 obtain ⟨s1, rfl⟩ := okWide_string Tryz.underlying9 (hval 1 9 v2 rfl rfl)
 obtain ⟨s2, rfl⟩ := okWide_string Tryz.underlying9 (hval 2 9 v3 rfl rfl)
 obtain ⟨mx, hm⟩ := max_of hsh
 have hin : RepL (memOf W) [] (ctLaw50L.inp (c0, s1, s2)) #[v1, .string s1, .string s2].toList := RepL.cons hrep0 (RepL.cons (Rep.val _) (RepL.cons (Rep.val _) RepL.nil))
 have hcall := (lawTL_ok (mx := mx)).2.2 (c0, s1, s2) ok0 (memOf W) W #[v1, .string s1, .string s2] (memOf_fits W) (gl_ok hL hm) hin 0
 refine (callsIn_wide.1 hcall).mono fun e W' hR => ?_
 obtain ⟨M', u, rfl, _, _, _, hu, hb⟩ := hR
 have hu' : u = .bool true := hu
 subst hu'
 simp only [List.append_nil] at hW'
 refine ⟨_, rfl, _, _, _, [], p1 ++ p2 ++ p3, [], hW', ?_, ?_, rfl, hb.frame _, fun h => by cases h⟩
 ·exact trodAll_mk1 (shut_bool Tryz.underlying4 true)
 ·rw [List.append_assoc]; exact trodAll_mk3 (hargs1 _ hb) (hargs2 _ hb) (hargs3 _ hb)
theorem rowTL_f : Tryz.prog.funcNamed Rows.transruleLinesRow.func = some 11 := by kernel_rfl
theorem rowTL_c9 : (Rows.transruleLinesRow.inPlace == Tryz.prog.inPlace 11) = true := by kernel_rfl
theorem rowTL_c10 : (Rows.transruleLinesRow.unfollowed == Tryz.prog.unfollowed 11) = true := by kernel_rfl
theorem rowTL_c11 : (Rows.transruleLinesRow.recurses == Tryz.prog.recurses 11) = true := by kernel_rfl
theorem rowTL_c12 : (Rows.transruleLinesRow.named == Tryz.prog.varsNamed 11) = true := by kernel_rfl
theorem rowTL_c0 : Rows.transruleLinesRow.wf (OpenSpec.ofChange Rows.transruleLinesSpec) = true := by kernel_rfl
theorem rowTL_c3 : Tryz.f11.params.all (Tryz.prog.readableRec ·) = true := by kernel_rfl
theorem rowTL_c4 : namedTie Tryz.prog Rows.transruleLinesRow.named Rows.transruleLinesSpec.vars = true := by kernel_rfl
theorem rowTL_c5 : (Rows.transruleLinesRow.stops == []) = true := by kernel_rfl
theorem rowTL_c6 : (Tryz.prog.stops == []) = true := by kernel_rfl
theorem rowTL_c7 : (Rows.transruleLinesRow.knobs == []) = true := by kernel_rfl
theorem rowTL_c8 : (Tryz.prog.stopKnobs == []) = true := by kernel_rfl
theorem rowTL_c13 : (Rows.transruleLinesRow.maps == (Tryz.f11.params.toList ++ Rows.transruleLinesSpec.plain.varTypes Tryz.prog).any (Tryz.prog.mapsRec ·)) = true := by kernel_rfl
theorem rowTL_c14 : (Rows.transruleLinesRow.ifaces == (Tryz.f11.params.toList ++ Rows.transruleLinesSpec.plain.varTypes Tryz.prog).any (Tryz.prog.ifacesRec ·)) = true := by kernel_rfl
theorem rowTL_c15 : (Rows.transruleLinesRow.mapsOut == Tryz.prog.mapsAmong Tryz.f11.resultTypes.toList) = true := by kernel_rfl
theorem rowTL_c16 : (Rows.transruleLinesRow.loops == (Tryz.f11.params.toList ++ Rows.transruleLinesSpec.plain.varTypes Tryz.prog).any (Tryz.prog.loopsFrom ·)) = true := by kernel_rfl
theorem rowTL_c17 : (Rows.transruleLinesRow.wideKeys == (Tryz.f11.params.toList ++ Rows.transruleLinesSpec.plain.varTypes Tryz.prog ++ Tryz.f11.resultTypes.toList).any (Tryz.prog.wideKeysFrom ·)) = true := by kernel_rfl
theorem rowTL_c18 : Rows.transruleLinesSpec.vars.all (Tryz.prog.varReadable ·) = true := by kernel_rfl
theorem rowTL_c19 : Tryz.f11.resultTypes.all (fun t => Tryz.prog.readableRec t && decide (t < Tryz.prog.types.size)) = true := by kernel_rfl
theorem rowTL_c20 : (Rows.transruleLinesRow.ifacesOut == Tryz.f11.resultTypes.toList.any (Tryz.prog.ifacesRec ·)) = true := by kernel_rfl
theorem rowTL_c21 : (Rows.transruleLinesRow.loopsOut == Tryz.f11.resultTypes.toList.any (Tryz.prog.loopsFrom ·)) = true := by kernel_rfl
theorem rowTL_c22 : (Rows.transruleLinesRow.plainKeys == Tryz.prog.plainKeys) = true := by kernel_rfl
theorem rowTL_c23 : Rows.transruleLinesRow.shortTexts.isNone = true := by kernel_rfl
theorem rowTL_c26 : (Rows.transruleLinesRow.lifted == Tryz.prog.liftsFinal) = true := by rw [show Rows.transruleLinesRow.lifted = Rows.setexprTextsRow.lifted from by kernel_rfl]; exact jfLift
theorem rowTL_c27 : (Tryz.prog.make == some Rows.transruleLinesRow.make) = true := by rw [show Rows.transruleLinesRow.make = Rows.setexprTextsRow.make from by kernel_rfl]; exact jfMake
theorem rowTL_c29 : (Rows.transruleLinesRow.pinned == Rows.transruleLinesRow.pinnedBy) = true := by kernel_rfl
theorem rowTL_c30 : (Rows.transruleLinesRow.veiled == (Tryz.f11.params.toList ++ Rows.transruleLinesSpec.plain.varTypes Tryz.prog ++ Tryz.f11.resultTypes.toList).any (Tryz.prog.veiledRec ·)) = true := by kernel_rfl
theorem rowTL_c31 : Rows.transruleLinesRow.veiledFits Tryz.prog Tryz.f11.params.toList (Tryz.f11.params.toList ++ Rows.transruleLinesSpec.plain.varTypes Tryz.prog ++ Tryz.f11.resultTypes.toList) = true := by kernel_rfl
theorem rowTL_c : joinedFacts Tryz.prog 11 Tryz.f11 Rows.transruleLinesSpec Rows.transruleLinesRow = true := and2 (and2 (and2 (and2 (and2 (and2 (and2 (and2 (and2 (and2 (and2 (and2 (and2 (and2 (and2 (and2 (and2 (and2 (and2 (and2 (and2 (and2 (and2 (and2 (and2 (and2 (and2 (and2 (and2 (and2 (and2 (rowTL_c0) jfOut) jfMaps) rowTL_c3) rowTL_c4) rowTL_c5) rowTL_c6) rowTL_c7) rowTL_c8) rowTL_c9) rowTL_c10) rowTL_c11) rowTL_c12) rowTL_c13) rowTL_c14) rowTL_c15) rowTL_c16) rowTL_c17) rowTL_c18) rowTL_c19) rowTL_c20) rowTL_c21) rowTL_c22) rowTL_c23) jfHeard) jfEnter) rowTL_c26) rowTL_c27) (by kernel_rfl)) rowTL_c29) rowTL_c30) rowTL_c31
theorem rowTL_i : Tryz.f11.isInstance Tryz.prog Rows.transruleLinesRow.origin Rows.transruleLinesRow.targs := of_decide_eq_true (by kernel_rfl)
theorem rowTL_w : Tryz.f11.isWrapper Tryz.prog Rows.transruleLinesRow.wrapper Rows.transruleLinesRow.mainSum := by unfold Func.isWrapper; rw [if_neg (by decide +kernel)]; exact ⟨rfl, rfl⟩
theorem rowTL_holds : Rows.TransruleLinesSaid :=
 OpenClaim.holds_of_wide 11 Tryz.f11 rfl rfl rfl rfl rfl rfl rfl ⟨rfl, rfl, rfl, rfl, rfl⟩ rfl rfl rfl rfl rfl rowTL_f Tryz.func11 rowTL_c rowTL_i rowTL_w
  (fun os started H enc _ => liftedTL os started H enc)
end Go.Proofs.YtcihhjjmcompkaaGreatDoor
