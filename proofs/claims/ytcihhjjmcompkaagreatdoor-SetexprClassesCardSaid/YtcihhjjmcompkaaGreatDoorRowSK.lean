import Derived.Test.YtcihhjjmcompkaaGreatDoorRo18
import Derived.Test.YtcihhjjmcompkaaGreatDoorL18k
import Derived.Test.YtcihhjjmcompkaaGreatDoorOpz
set_option linter.unusedVariables false
set_option linter.unusedSimpArgs false
namespace Go.Proofs.YtcihhjjmcompkaaGreatDoor
open Go Go.Sx Go.ChangeShapes Go.WideShapes Go.ChangeAt Go.RowKit
set_option maxRecDepth 100000 in
theorem liftedSK (os : Os) (started : os.Started) (H : Type) (enc : TypeId × Value → H) :
  ReturnsInHanded {} Tryz.checked os 7 .any (fun w args => (Rows.setexprClassesSpec.pre enc Tryz.prog Tryz.f7 [] false w args ∧ laidMetH Tryz.prog Rows.setexprClassesRow.laid w) ∧ sizedMet enc Tryz.prog Tryz.f7 (OpenSpec.ofChange Rows.setexprClassesSpec) false w args)
   (Rows.setexprClassesSpec.post enc Tryz.prog Tryz.f7 false true false false) := by
 refine ret_shaped (C := Tryz.checked) (X := fun w _ => laidMetH Tryz.prog Rows.setexprClassesRow.laid w) (fun _ _ _ hh h => h.of_heap hh) own started (by kernel_rfl) Tryz.func7
  (ChangeSpec.witness_shaped (enc := enc) (C := Tryz.checked) (os := os) (X := fun w _ => laidMetH Tryz.prog Rows.setexprClassesRow.laid w) false (World.laidAll Tryz.prog os Rows.setexprClassesRow.laid) #[.agg #[.int .i64 0, .int .i64 0, .slice none 0 0, .slice none 0 0, .slice none 0 0, .slice none 0 0, .slice none 0 0, .slice none 0 0, .slice none 0 0, .slice none 0 0, .slice none 0 0, .slice none 0 0, .slice none 0 0, .slice none 0 0, .slice none 0 0, .slice none 0 0, .slice none 0 0, .slice none 0 0, .slice none 0 0, .slice none 0 0, .slice none 0 0, .slice none 0 0, .slice none 0 0, .slice none 0 0, .slice none 0 0, .slice none 0 0, .slice none 0 0, .slice none 0 0, .slice none 0 0], .int .u8 0, .int .u8 0] 8 (World.laidAll_os _ _ _)
    (World.shaped_of_ZipB (by kernel_rfl) (by kernel_rfl)) (by kernel_rfl) (by kernel_rfl) (by kernel_rfl)
    (by rw [MakeChecks.laidMetH_plain _ _ _ (by kernel_rfl)]; exact laidMet_laidAll _ (by kernel_rfl) (by kernel_rfl))) ?_
 intro W base args ds gs before hval0 hW hL hsh
 have hval : ∀ (j : Nat) t v, Tryz.f7.params[j]? = some t → args[j]? = some v → Value.okWide Tryz.prog W .any base t v := hval0
 have hW' := hW
 obtain ⟨p, q, hA0, hV, rfl, hfz, hnd⟩ := hW
 have hA : DataW.TrodAll enc Tryz.prog W 0 (fun _ => true) true Tryz.f7.params.toList args.toList ds p := hA0
 rw [Tryz.params7] at hA hval
 obtain ⟨v1, v2, v3, d1, d2, d3, p1, p2, p3, rfl, rfl, rfl, h1, h2, h3⟩ := trodAll_three hA
 obtain ⟨rfl, rfl⟩ := trodVars_none hV
 have hlt : ∀ x ∈ p1 ++ p2 ++ p3, x.block < W.heap.size := fun x hx => by simpa using hW'.lt x (by simpa using hx)
 have hargs1 : ∀ (W' : World), Below W.heap.size W W' → DataW.Trod enc Tryz.prog W' 0 (fun b => decide (b < W.heap.size)) true 47 v1 d1 p1 :=
  fun W' hn => Below.trod laidOut (by kernel_rfl) (of_decide_eq_true (by kernel_rfl)) h1 hn (fun x hx => hlt x (by simp [hx]))
 have hargs2 : ∀ (W' : World), Below W.heap.size W W' → DataW.Trod enc Tryz.prog W' 0 (fun b => decide (b < W.heap.size)) true 5 v2 d2 p2 :=
  fun W' hn => Below.trod laidOut (by kernel_rfl) (of_decide_eq_true (by kernel_rfl)) h2 hn (fun x hx => hlt x (by simp [hx]))
 have hargs3 : ∀ (W' : World), Below W.heap.size W W' → DataW.Trod enc Tryz.prog W' 0 (fun b => decide (b < W.heap.size)) true 5 v3 d3 p3 :=
  fun W' hn => Below.trod laidOut (by kernel_rfl) (of_decide_eq_true (by kernel_rfl)) h3 hn (fun x hx => hlt x (by simp [hx]))
 obtain ⟨c0, ok0, hrep0⟩ := open_agg Tryz.underlying47 (hval 0 47 v1 rfl rfl) h1 opens_db
 have hrep0 : Rep (memOf W) [] (dbA c0) v1 := hrep0
 obtain ⟨n1, rfl, ok1⟩ := okWide_u8 Tryz.underlying5 (hval 1 5 v2 rfl rfl)
 obtain ⟨n2, rfl, ok2⟩ := okWide_u8 Tryz.underlying5 (hval 2 5 v3 rfl rfl)
 obtain ⟨mx, hm⟩ := max_of hsh
 have hin : RepL (memOf W) [] (ctLaw18K.inp (c0, n1, n2)) #[v1, .int .u8 n1, .int .u8 n2].toList := RepL.cons hrep0 (RepL.cons (Rep.val _) (RepL.cons (Rep.val _) RepL.nil))
 have hcall := (lawSK_ok (pb := false) (mx := mx)).2.2 (c0, n1, n2) ⟨ok0, ok1, ok2⟩ (memOf W) W #[v1, .int .u8 n1, .int .u8 n2] (memOf_fits W) (gl_ok hL hm) hin 0
 refine (callsIn_wide.1 hcall).mono fun e W' hR => ?_
 obtain ⟨M', u, rfl, _, _, _, hu, hb⟩ := hR
 have hu' : u = .bool true := hu
 subst hu'
 simp only [List.append_nil] at hW'
 refine ⟨_, rfl, _, _, _, [], p1 ++ p2 ++ p3, [], hW', ?_, ?_, rfl, hb.frame _, fun h => by cases h⟩
 ·exact trodAll_mk1 (shut_bool Tryz.underlying4 true)
 ·rw [List.append_assoc]; exact trodAll_mk3 (hargs1 _ hb) (hargs2 _ hb) (hargs3 _ hb)
theorem rowSK_f : Tryz.prog.funcNamed Rows.setexprClassesRow.func = some 7 := by kernel_rfl
theorem rowSK_c9 : (Rows.setexprClassesRow.inPlace == Tryz.prog.inPlace 7) = true := by kernel_rfl
theorem rowSK_c10 : (Rows.setexprClassesRow.unfollowed == Tryz.prog.unfollowed 7) = true := by kernel_rfl
theorem rowSK_c11 : (Rows.setexprClassesRow.recurses == Tryz.prog.recurses 7) = true := by kernel_rfl
theorem rowSK_c12 : (Rows.setexprClassesRow.named == Tryz.prog.varsNamed 7) = true := by kernel_rfl
theorem rowSK_c0 : Rows.setexprClassesRow.wf (OpenSpec.ofChange Rows.setexprClassesSpec) = true := by kernel_rfl
theorem rowSK_c3 : Tryz.f7.params.all (Tryz.prog.readableRec ·) = true := by kernel_rfl
theorem rowSK_c4 : namedTie Tryz.prog Rows.setexprClassesRow.named Rows.setexprClassesSpec.vars = true := by kernel_rfl
theorem rowSK_c5 : (Rows.setexprClassesRow.stops == []) = true := by kernel_rfl
theorem rowSK_c6 : (Tryz.prog.stops == []) = true := by kernel_rfl
theorem rowSK_c7 : (Rows.setexprClassesRow.knobs == []) = true := by kernel_rfl
theorem rowSK_c8 : (Tryz.prog.stopKnobs == []) = true := by kernel_rfl
theorem rowSK_c13 : (Rows.setexprClassesRow.maps == (Tryz.f7.params.toList ++ Rows.setexprClassesSpec.plain.varTypes Tryz.prog).any (Tryz.prog.mapsRec ·)) = true := by kernel_rfl
theorem rowSK_c14 : (Rows.setexprClassesRow.ifaces == (Tryz.f7.params.toList ++ Rows.setexprClassesSpec.plain.varTypes Tryz.prog).any (Tryz.prog.ifacesRec ·)) = true := by kernel_rfl
theorem rowSK_c15 : (Rows.setexprClassesRow.mapsOut == Tryz.prog.mapsAmong Tryz.f7.resultTypes.toList) = true := by kernel_rfl
theorem rowSK_c16 : (Rows.setexprClassesRow.loops == (Tryz.f7.params.toList ++ Rows.setexprClassesSpec.plain.varTypes Tryz.prog).any (Tryz.prog.loopsFrom ·)) = true := by kernel_rfl
theorem rowSK_c17 : (Rows.setexprClassesRow.wideKeys == (Tryz.f7.params.toList ++ Rows.setexprClassesSpec.plain.varTypes Tryz.prog ++ Tryz.f7.resultTypes.toList).any (Tryz.prog.wideKeysFrom ·)) = true := by kernel_rfl
theorem rowSK_c18 : Rows.setexprClassesSpec.vars.all (Tryz.prog.varReadable ·) = true := by kernel_rfl
theorem rowSK_c19 : Tryz.f7.resultTypes.all (fun t => Tryz.prog.readableRec t && decide (t < Tryz.prog.types.size)) = true := by kernel_rfl
theorem rowSK_c20 : (Rows.setexprClassesRow.ifacesOut == Tryz.f7.resultTypes.toList.any (Tryz.prog.ifacesRec ·)) = true := by kernel_rfl
theorem rowSK_c21 : (Rows.setexprClassesRow.loopsOut == Tryz.f7.resultTypes.toList.any (Tryz.prog.loopsFrom ·)) = true := by kernel_rfl
theorem rowSK_c22 : (Rows.setexprClassesRow.plainKeys == Tryz.prog.plainKeys) = true := by kernel_rfl
theorem rowSK_c23 : Rows.setexprClassesRow.shortTexts.isNone = true := by kernel_rfl
theorem rowSK_c26 : (Rows.setexprClassesRow.lifted == Tryz.prog.liftsFinal) = true := by rw [show Rows.setexprClassesRow.lifted = Rows.setexprTextsRow.lifted from by kernel_rfl]; exact jfLift
theorem rowSK_c27 : (Tryz.prog.make == some Rows.setexprClassesRow.make) = true := by rw [show Rows.setexprClassesRow.make = Rows.setexprTextsRow.make from by kernel_rfl]; exact jfMake
theorem rowSK_c29 : (Rows.setexprClassesRow.pinned == Rows.setexprClassesRow.pinnedBy) = true := by kernel_rfl
theorem rowSK_c30 : (Rows.setexprClassesRow.veiled == (Tryz.f7.params.toList ++ Rows.setexprClassesSpec.plain.varTypes Tryz.prog ++ Tryz.f7.resultTypes.toList).any (Tryz.prog.veiledRec ·)) = true := by kernel_rfl
theorem rowSK_c31 : Rows.setexprClassesRow.veiledFits Tryz.prog Tryz.f7.params.toList (Tryz.f7.params.toList ++ Rows.setexprClassesSpec.plain.varTypes Tryz.prog ++ Tryz.f7.resultTypes.toList) = true := by kernel_rfl
theorem rowSK_c : joinedFacts Tryz.prog 7 Tryz.f7 Rows.setexprClassesSpec Rows.setexprClassesRow = true := and2 (and2 (and2 (and2 (and2 (and2 (and2 (and2 (and2 (and2 (and2 (and2 (and2 (and2 (and2 (and2 (and2 (and2 (and2 (and2 (and2 (and2 (and2 (and2 (and2 (and2 (and2 (and2 (and2 (and2 (and2 (rowSK_c0) jfOut) jfMaps) rowSK_c3) rowSK_c4) rowSK_c5) rowSK_c6) rowSK_c7) rowSK_c8) rowSK_c9) rowSK_c10) rowSK_c11) rowSK_c12) rowSK_c13) rowSK_c14) rowSK_c15) rowSK_c16) rowSK_c17) rowSK_c18) rowSK_c19) rowSK_c20) rowSK_c21) rowSK_c22) rowSK_c23) jfHeard) jfEnter) rowSK_c26) rowSK_c27) (by kernel_rfl)) rowSK_c29) rowSK_c30) rowSK_c31
theorem rowSK_i : Tryz.f7.isInstance Tryz.prog Rows.setexprClassesRow.origin Rows.setexprClassesRow.targs := of_decide_eq_true (by kernel_rfl)
theorem rowSK_w : Tryz.f7.isWrapper Tryz.prog Rows.setexprClassesRow.wrapper Rows.setexprClassesRow.mainSum := by unfold Func.isWrapper; rw [if_neg (by decide +kernel)]; exact ⟨rfl, rfl⟩
theorem rowSK_holds : Rows.SetexprClassesSaid :=
 OpenClaim.holds_of_wide 7 Tryz.f7 rfl rfl rfl rfl rfl rfl rfl ⟨rfl, rfl, rfl, rfl, rfl⟩ rfl rfl rfl rfl rfl rowSK_f Tryz.func7 rowSK_c rowSK_i rowSK_w
  (fun os started H enc _ => liftedSK os started H enc)
end Go.Proofs.YtcihhjjmcompkaaGreatDoor
