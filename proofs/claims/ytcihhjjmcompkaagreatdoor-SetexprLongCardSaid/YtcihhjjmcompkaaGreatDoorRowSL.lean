import Derived.Test.YtcihhjjmcompkaaGreatDoorRo18
import Derived.Test.YtcihhjjmcompkaaGreatDoorL18l
import Derived.Test.YtcihhjjmcompkaaGreatDoorOpz
set_option linter.unusedVariables false
set_option linter.unusedSimpArgs false
namespace Go.Proofs.YtcihhjjmcompkaaGreatDoor
open Go Go.Sx Go.ChangeShapes Go.WideShapes Go.ChangeAt Go.RowKit
set_option maxRecDepth 100000 in
theorem liftedSL (os : Os) (started : os.Started) (H : Type) (enc : TypeId × Value → H) :
  ReturnsInHanded {} Tryz.checked os 8 .any (fun w args => (Rows.setexprLongSpec.pre enc Tryz.prog Tryz.f8 [] false w args ∧ laidMetH Tryz.prog Rows.setexprLongRow.laid w) ∧ sizedMet enc Tryz.prog Tryz.f8 (OpenSpec.ofChange Rows.setexprLongSpec) false w args)
   (Rows.setexprLongSpec.post enc Tryz.prog Tryz.f8 false true false false) := by
 refine ret_shaped (C := Tryz.checked) (X := fun w _ => laidMetH Tryz.prog Rows.setexprLongRow.laid w) (fun _ _ _ hh h => h.of_heap hh) own started (by kernel_rfl) Tryz.func8
  (ChangeSpec.witness_shaped (enc := enc) (C := Tryz.checked) (os := os) (X := fun w _ => laidMetH Tryz.prog Rows.setexprLongRow.laid w) false (World.laidAll Tryz.prog os Rows.setexprLongRow.laid) #[.int .u8 0] 8 (World.laidAll_os _ _ _)
    (World.shaped_of_ZipB (by kernel_rfl) (by kernel_rfl)) (by kernel_rfl) (by kernel_rfl) (by kernel_rfl)
    (by rw [MakeChecks.laidMetH_plain _ _ _ (by kernel_rfl)]; exact laidMet_laidAll _ (by kernel_rfl) (by kernel_rfl))) ?_
 intro W base args ds gs before hval0 hW hL hsh
 have hval : ∀ (j : Nat) t v, Tryz.f8.params[j]? = some t → args[j]? = some v → Value.okWide Tryz.prog W .any base t v := hval0
 have hW' := hW
 obtain ⟨p, q, hA0, hV, rfl, hfz, hnd⟩ := hW
 have hA : DataW.TrodAll enc Tryz.prog W 0 (fun _ => true) true Tryz.f8.params.toList args.toList ds p := hA0
 rw [Tryz.params8] at hA hval
 obtain ⟨v1, d1, rfl, rfl, h1⟩ := trodAll_one hA
 obtain ⟨rfl, rfl⟩ := trodVars_none hV
 have hlt : ∀ x ∈ p, x.block < W.heap.size := fun x hx => by simpa using hW'.lt x (by simpa using hx)
 have hargs1 : ∀ (W' : World), Below W.heap.size W W' → DataW.Trod enc Tryz.prog W' 0 (fun b => decide (b < W.heap.size)) true 5 v1 d1 p :=
  fun W' hn => Below.trod laidOut (by kernel_rfl) (of_decide_eq_true (by kernel_rfl)) h1 hn (fun x hx => hlt x (by simp [hx]))
 obtain ⟨n0, rfl, ok0⟩ := okWide_u8 Tryz.underlying5 (hval 0 5 v1 rfl rfl)
 obtain ⟨mx, hm⟩ := max_of hsh
 have hin : RepL (memOf W) [] (ctLaw18L.inp n0) #[.int .u8 n0].toList := RepL.cons (Rep.val _) RepL.nil
 have hcall := (lawSL_ok (pb := false) (mx := mx)).2.2 n0 ok0 (memOf W) W #[.int .u8 n0] (memOf_fits W) (gl_ok hL hm) hin 0
 refine (callsIn_wide.1 hcall).mono fun e W' hR => ?_
 obtain ⟨M', u, rfl, _, _, _, hu, hb⟩ := hR
 have hu' : u = .bool true := hu
 subst hu'
 simp only [List.append_nil] at hW'
 refine ⟨_, rfl, _, _, _, [], p, [], hW', ?_, ?_, rfl, hb.frame _, fun h => by cases h⟩
 ·exact trodAll_mk1 (shut_bool Tryz.underlying4 true)
 ·exact trodAll_mk1 (hargs1 _ hb)
theorem rowSL_f : Tryz.prog.funcNamed Rows.setexprLongRow.func = some 8 := by kernel_rfl
theorem rowSL_c9 : (Rows.setexprLongRow.inPlace == Tryz.prog.inPlace 8) = true := by kernel_rfl
theorem rowSL_c10 : (Rows.setexprLongRow.unfollowed == Tryz.prog.unfollowed 8) = true := by kernel_rfl
theorem rowSL_c11 : (Rows.setexprLongRow.recurses == Tryz.prog.recurses 8) = true := by kernel_rfl
theorem rowSL_c12 : (Rows.setexprLongRow.named == Tryz.prog.varsNamed 8) = true := by kernel_rfl
theorem rowSL_c0 : Rows.setexprLongRow.wf (OpenSpec.ofChange Rows.setexprLongSpec) = true := by kernel_rfl
theorem rowSL_c3 : Tryz.f8.params.all (Tryz.prog.readableRec ·) = true := by kernel_rfl
theorem rowSL_c4 : namedTie Tryz.prog Rows.setexprLongRow.named Rows.setexprLongSpec.vars = true := by kernel_rfl
theorem rowSL_c5 : (Rows.setexprLongRow.stops == []) = true := by kernel_rfl
theorem rowSL_c6 : (Tryz.prog.stops == []) = true := by kernel_rfl
theorem rowSL_c7 : (Rows.setexprLongRow.knobs == []) = true := by kernel_rfl
theorem rowSL_c8 : (Tryz.prog.stopKnobs == []) = true := by kernel_rfl
theorem rowSL_c13 : (Rows.setexprLongRow.maps == (Tryz.f8.params.toList ++ Rows.setexprLongSpec.plain.varTypes Tryz.prog).any (Tryz.prog.mapsRec ·)) = true := by kernel_rfl
theorem rowSL_c14 : (Rows.setexprLongRow.ifaces == (Tryz.f8.params.toList ++ Rows.setexprLongSpec.plain.varTypes Tryz.prog).any (Tryz.prog.ifacesRec ·)) = true := by kernel_rfl
theorem rowSL_c15 : (Rows.setexprLongRow.mapsOut == Tryz.prog.mapsAmong Tryz.f8.resultTypes.toList) = true := by kernel_rfl
theorem rowSL_c16 : (Rows.setexprLongRow.loops == (Tryz.f8.params.toList ++ Rows.setexprLongSpec.plain.varTypes Tryz.prog).any (Tryz.prog.loopsFrom ·)) = true := by kernel_rfl
theorem rowSL_c17 : (Rows.setexprLongRow.wideKeys == (Tryz.f8.params.toList ++ Rows.setexprLongSpec.plain.varTypes Tryz.prog ++ Tryz.f8.resultTypes.toList).any (Tryz.prog.wideKeysFrom ·)) = true := by kernel_rfl
theorem rowSL_c18 : Rows.setexprLongSpec.vars.all (Tryz.prog.varReadable ·) = true := by kernel_rfl
theorem rowSL_c19 : Tryz.f8.resultTypes.all (fun t => Tryz.prog.readableRec t && decide (t < Tryz.prog.types.size)) = true := by kernel_rfl
theorem rowSL_c20 : (Rows.setexprLongRow.ifacesOut == Tryz.f8.resultTypes.toList.any (Tryz.prog.ifacesRec ·)) = true := by kernel_rfl
theorem rowSL_c21 : (Rows.setexprLongRow.loopsOut == Tryz.f8.resultTypes.toList.any (Tryz.prog.loopsFrom ·)) = true := by kernel_rfl
theorem rowSL_c22 : (Rows.setexprLongRow.plainKeys == Tryz.prog.plainKeys) = true := by kernel_rfl
theorem rowSL_c23 : Rows.setexprLongRow.shortTexts.isNone = true := by kernel_rfl
theorem rowSL_c26 : (Rows.setexprLongRow.lifted == Tryz.prog.liftsFinal) = true := by rw [show Rows.setexprLongRow.lifted = Rows.setexprTextsRow.lifted from by kernel_rfl]; exact jfLift
theorem rowSL_c27 : (Tryz.prog.make == some Rows.setexprLongRow.make) = true := by rw [show Rows.setexprLongRow.make = Rows.setexprTextsRow.make from by kernel_rfl]; exact jfMake
theorem rowSL_c29 : (Rows.setexprLongRow.pinned == Rows.setexprLongRow.pinnedBy) = true := by kernel_rfl
theorem rowSL_c30 : (Rows.setexprLongRow.veiled == (Tryz.f8.params.toList ++ Rows.setexprLongSpec.plain.varTypes Tryz.prog ++ Tryz.f8.resultTypes.toList).any (Tryz.prog.veiledRec ·)) = true := by kernel_rfl
theorem rowSL_c31 : Rows.setexprLongRow.veiledFits Tryz.prog Tryz.f8.params.toList (Tryz.f8.params.toList ++ Rows.setexprLongSpec.plain.varTypes Tryz.prog ++ Tryz.f8.resultTypes.toList) = true := by kernel_rfl
theorem rowSL_c : joinedFacts Tryz.prog 8 Tryz.f8 Rows.setexprLongSpec Rows.setexprLongRow = true := and2 (and2 (and2 (and2 (and2 (and2 (and2 (and2 (and2 (and2 (and2 (and2 (and2 (and2 (and2 (and2 (and2 (and2 (and2 (and2 (and2 (and2 (and2 (and2 (and2 (and2 (and2 (and2 (and2 (and2 (and2 (rowSL_c0) jfOut) jfMaps) rowSL_c3) rowSL_c4) rowSL_c5) rowSL_c6) rowSL_c7) rowSL_c8) rowSL_c9) rowSL_c10) rowSL_c11) rowSL_c12) rowSL_c13) rowSL_c14) rowSL_c15) rowSL_c16) rowSL_c17) rowSL_c18) rowSL_c19) rowSL_c20) rowSL_c21) rowSL_c22) rowSL_c23) jfHeard) jfEnter) rowSL_c26) rowSL_c27) (by kernel_rfl)) rowSL_c29) rowSL_c30) rowSL_c31
theorem rowSL_i : Tryz.f8.isInstance Tryz.prog Rows.setexprLongRow.origin Rows.setexprLongRow.targs := of_decide_eq_true (by kernel_rfl)
theorem rowSL_w : Tryz.f8.isWrapper Tryz.prog Rows.setexprLongRow.wrapper Rows.setexprLongRow.mainSum := by unfold Func.isWrapper; rw [if_neg (by decide +kernel)]; exact ⟨rfl, rfl⟩
theorem rowSL_holds : Rows.SetexprLongSaid :=
 OpenClaim.holds_of_wide 8 Tryz.f8 rfl rfl rfl rfl rfl rfl rfl ⟨rfl, rfl, rfl, rfl, rfl⟩ rfl rfl rfl rfl rfl rowSL_f Tryz.func8 rowSL_c rowSL_i rowSL_w
  (fun os started H enc _ => liftedSL os started H enc)
end Go.Proofs.YtcihhjjmcompkaaGreatDoor
