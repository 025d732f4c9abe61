import Derived.Test.YtfalaomjfkaphaaGreatDoorRo11
import Derived.Test.YtfalaomjfkaphaaGreatDoorLMp
import Derived.Test.YtfalaomjfkaphaaGreatDoorJf
set_option linter.unusedVariables false
set_option linter.unusedSimpArgs false
namespace Go.Proofs.YtfalaomjfkaphaaGreatDoor
open Go Go.Sx Go.ChangeShapes Go.WideShapes Go.ChangeAt Go.RowKit
set_option maxRecDepth 100000 in
theorem liftedMPs (os : Os) (started : os.Started) (H : Type) (enc : TypeId × Value → H) :
    ReturnsInHanded {} Tryz.checked os 3 .any (fun w args => (Rows.mappingParsesSpec.pre enc Tryz.prog Tryz.f3 [] false w args ∧ laidMetH Tryz.prog Rows.mappingParsesRow.laid w) ∧ sizedMet enc Tryz.prog Tryz.f3 (OpenSpec.ofChange Rows.mappingParsesSpec) false w args)
      (Rows.mappingParsesSpec.post enc Tryz.prog Tryz.f3 false true false false) := by
  refine ret_shaped (C := Tryz.checked) (X := fun w _ => laidMetH Tryz.prog Rows.mappingParsesRow.laid w) (fun _ _ _ hh h => h.of_heap hh) own started (by kernel_rfl) Tryz.func3
    (ChangeSpec.witness_shaped (enc := enc) (C := Tryz.checked) (os := os) (X := fun w _ => laidMetH Tryz.prog Rows.mappingParsesRow.laid w) false (World.laidAll Tryz.prog os Rows.mappingParsesRow.laid) #[.string ⟨#[]⟩] 8 (World.laidAll_os _ _ _)
      (World.shaped_of_ZipB (by kernel_rfl) (by kernel_rfl)) (by kernel_rfl) (by kernel_rfl) (by kernel_rfl)
      (by rw [MakeChecks.laidMetH_plain _ _ _ (by kernel_rfl)]; exact laidMet_laidAll _ (by kernel_rfl) (by kernel_rfl))) ?_
  intro W base args ds gs before hval0 hW hL hsh
  have hval : ∀ (j : Nat) t v, Tryz.f3.params[j]? = some t → args[j]? = some v → Value.okWide Tryz.prog W .any base t v := hval0
  have hW' := hW
  obtain ⟨p, q, hA0, hV, rfl, hfz, hnd⟩ := hW
  have hA : DataW.TrodAll enc Tryz.prog W 0 (fun _ => true) true Tryz.f3.params.toList args.toList ds p := hA0
  rw [Tryz.params3] at hA hval
  obtain ⟨v1, d1, rfl, rfl, h1⟩ := trodAll_one hA
  obtain ⟨rfl, rfl⟩ := trodVars_none hV
  have hlt : ∀ x ∈ p, x.block < W.heap.size := fun x hx => by simpa using hW'.lt x (by simpa using hx)
  have hargs1 : ∀ (W' : World), Below W.heap.size W W' → DataW.Trod enc Tryz.prog W' 0 (fun b => decide (b < W.heap.size)) true 9 v1 d1 p :=
    fun W' hn => Below.trod laidOut (by kernel_rfl) (of_decide_eq_true (by kernel_rfl)) h1 hn (fun x hx => hlt x (by simp [hx]))
  obtain ⟨s0, rfl⟩ := okWide_string Tryz.underlying9 (hval 0 9 v1 rfl rfl)
  obtain ⟨mx, hm⟩ := max_of hsh
  have hin : RepL (memOf W) [] (ctLawMp.inp s0) #[.string s0].toList := RepL.cons (Rep.val _) RepL.nil
  have hcall := (lawMPs_ok (mx := mx)).2.2 s0 trivial (memOf W) W #[.string s0] (memOf_fits W) (gl_ok hL hm) hin 0
  refine (callsIn_wide.1 hcall).mono fun e W' hR => ?_
  obtain ⟨M', u, rfl, _, _, _, hu, hb⟩ := hR
  have hu' : u = .bool true := hu
  subst hu'
  simp only [List.append_nil] at hW'
  refine ⟨_, rfl, _, _, _, [], p, [], hW', ?_, ?_, rfl, hb.frame _, fun h => by cases h⟩
  · exact trodAll_mk1 (shut_bool Tryz.underlying4 true)
  · exact trodAll_mk1 (hargs1 _ hb)

theorem rowMPs_f : Tryz.prog.funcNamed Rows.mappingParsesRow.func = some 3 := by kernel_rfl
theorem rowMPs_c9 : (Rows.mappingParsesRow.inPlace == Tryz.prog.inPlace 3) = true := by kernel_rfl
theorem rowMPs_c10 : (Rows.mappingParsesRow.unfollowed == Tryz.prog.unfollowed 3) = true := by kernel_rfl
theorem rowMPs_c11 : (Rows.mappingParsesRow.recurses == Tryz.prog.recurses 3) = true := by kernel_rfl
theorem rowMPs_c12 : (Rows.mappingParsesRow.named == Tryz.prog.varsNamed 3) = true := by kernel_rfl
theorem rowMPs_c0 : Rows.mappingParsesRow.wf (OpenSpec.ofChange Rows.mappingParsesSpec) = true := by kernel_rfl
theorem rowMPs_c3 : Tryz.f3.params.all (Tryz.prog.readableRec ·) = true := by kernel_rfl
theorem rowMPs_c4 : namedTie Tryz.prog Rows.mappingParsesRow.named Rows.mappingParsesSpec.vars = true := by kernel_rfl
theorem rowMPs_c5 : (Rows.mappingParsesRow.stops == []) = true := by kernel_rfl
theorem rowMPs_c6 : (Tryz.prog.stops == []) = true := by kernel_rfl
theorem rowMPs_c7 : (Rows.mappingParsesRow.knobs == []) = true := by kernel_rfl
theorem rowMPs_c8 : (Tryz.prog.stopKnobs == []) = true := by kernel_rfl
theorem rowMPs_c13 : (Rows.mappingParsesRow.maps == (Tryz.f3.params.toList ++ Rows.mappingParsesSpec.plain.varTypes Tryz.prog).any (Tryz.prog.mapsRec ·)) = true := by kernel_rfl
theorem rowMPs_c14 : (Rows.mappingParsesRow.ifaces == (Tryz.f3.params.toList ++ Rows.mappingParsesSpec.plain.varTypes Tryz.prog).any (Tryz.prog.ifacesRec ·)) = true := by kernel_rfl
theorem rowMPs_c15 : (Rows.mappingParsesRow.mapsOut == Tryz.prog.mapsAmong Tryz.f3.resultTypes.toList) = true := by kernel_rfl
theorem rowMPs_c16 : (Rows.mappingParsesRow.loops == (Tryz.f3.params.toList ++ Rows.mappingParsesSpec.plain.varTypes Tryz.prog).any (Tryz.prog.loopsFrom ·)) = true := by kernel_rfl
theorem rowMPs_c17 : (Rows.mappingParsesRow.wideKeys == (Tryz.f3.params.toList ++ Rows.mappingParsesSpec.plain.varTypes Tryz.prog ++ Tryz.f3.resultTypes.toList).any (Tryz.prog.wideKeysFrom ·)) = true := by kernel_rfl
theorem rowMPs_c18 : Rows.mappingParsesSpec.vars.all (Tryz.prog.varReadable ·) = true := by kernel_rfl
theorem rowMPs_c19 : Tryz.f3.resultTypes.all (fun t => Tryz.prog.readableRec t && decide (t < Tryz.prog.types.size)) = true := by kernel_rfl
theorem rowMPs_c20 : (Rows.mappingParsesRow.ifacesOut == Tryz.f3.resultTypes.toList.any (Tryz.prog.ifacesRec ·)) = true := by kernel_rfl
theorem rowMPs_c21 : (Rows.mappingParsesRow.loopsOut == Tryz.f3.resultTypes.toList.any (Tryz.prog.loopsFrom ·)) = true := by kernel_rfl
theorem rowMPs_c22 : (Rows.mappingParsesRow.plainKeys == Tryz.prog.plainKeys) = true := by kernel_rfl
theorem rowMPs_c23 : Rows.mappingParsesRow.shortTexts.isNone = true := by kernel_rfl
theorem rowMPs_c26 : (Rows.mappingParsesRow.lifted == Tryz.prog.liftsFinal) = true := by rw [show Rows.mappingParsesRow.lifted = Rows.mappingParsesRow.lifted from by kernel_rfl]; exact jfLift
theorem rowMPs_c27 : (Tryz.prog.make == some Rows.mappingParsesRow.make) = true := by rw [show Rows.mappingParsesRow.make = Rows.mappingParsesRow.make from by kernel_rfl]; exact jfMake
theorem rowMPs_c29 : (Rows.mappingParsesRow.pinned == Rows.mappingParsesRow.pinnedBy) = true := by kernel_rfl
theorem rowMPs_c30 : (Rows.mappingParsesRow.veiled == (Tryz.f3.params.toList ++ Rows.mappingParsesSpec.plain.varTypes Tryz.prog ++ Tryz.f3.resultTypes.toList).any (Tryz.prog.veiledRec ·)) = true := by kernel_rfl
theorem rowMPs_c31 : Rows.mappingParsesRow.veiledFits Tryz.prog Tryz.f3.params.toList (Tryz.f3.params.toList ++ Rows.mappingParsesSpec.plain.varTypes Tryz.prog ++ Tryz.f3.resultTypes.toList) = true := by kernel_rfl
theorem rowMPs_c : joinedFacts Tryz.prog 3 Tryz.f3 Rows.mappingParsesSpec Rows.mappingParsesRow = true := and2 (and2 (and2 (and2 (and2 (and2 (and2 (and2 (and2 (and2 (and2 (and2 (and2 (and2 (and2 (and2 (and2 (and2 (and2 (and2 (and2 (and2 (and2 (and2 (and2 (and2 (and2 (and2 (and2 (and2 (and2 (rowMPs_c0) jfOut) jfMaps) rowMPs_c3) rowMPs_c4) rowMPs_c5) rowMPs_c6) rowMPs_c7) rowMPs_c8) rowMPs_c9) rowMPs_c10) rowMPs_c11) rowMPs_c12) rowMPs_c13) rowMPs_c14) rowMPs_c15) rowMPs_c16) rowMPs_c17) rowMPs_c18) rowMPs_c19) rowMPs_c20) rowMPs_c21) rowMPs_c22) rowMPs_c23) jfHeard) jfEnter) rowMPs_c26) rowMPs_c27) (by kernel_rfl)) rowMPs_c29) rowMPs_c30) rowMPs_c31
theorem rowMPs_i : Tryz.f3.isInstance Tryz.prog Rows.mappingParsesRow.origin Rows.mappingParsesRow.targs := of_decide_eq_true (by kernel_rfl)
theorem rowMPs_w : Tryz.f3.isWrapper Tryz.prog Rows.mappingParsesRow.wrapper Rows.mappingParsesRow.mainSum := by unfold Func.isWrapper; rw [if_neg (by decide +kernel)]; exact ⟨rfl, rfl⟩
theorem rowMPs_holds : Rows.MappingParsesSaid :=
  OpenClaim.holds_of_wide 3 Tryz.f3 rfl rfl rfl rfl rfl rfl rfl ⟨rfl, rfl, rfl, rfl, rfl⟩ rfl rfl rfl rfl rfl rowMPs_f Tryz.func3 rowMPs_c rowMPs_i rowMPs_w
    (fun os started H enc _ => liftedMPs os started H enc)
end Go.Proofs.YtfalaomjfkaphaaGreatDoor

/-
  MappingParses holds of the given program for every string: the tied card of the law's row. Conditions: none beyond the statement's own.
-/
namespace Go.Proofs.YtfalaomjfkaphaaGreatDoor
open Go

theorem cardMPs_w : Rows.mappingParsesRow.wfByText (OpenSpec.ofChange Rows.mappingParsesSpec) = true := by kernel_rfl
theorem cardMPs_m : Tryz.prog.mainIs = some ((true, "dd7ce6020ae7e3f4a3602b5ad57097b07d5f2f2356ed8c1d6f24fdcf1620b2a7").1, (true, "dd7ce6020ae7e3f4a3602b5ad57097b07d5f2f2356ed8c1d6f24fdcf1620b2a7").2.toList) := by kernel_rfl
theorem cardMPs_l : false = Tryz.prog.looks [] := by kernel_rfl
theorem cardMPs_f : Tryz.prog.funcNamed "unicodetext/unicodetextlaw11.MappingParses" = some 3 := by kernel_rfl
theorem cardMPs_s : ([9].all fun u => !Tryz.prog.wantsStandIn u) = true := by kernel_rfl
theorem cardMPs_g : false = Rows.mappingParsesRow.goesBy Tryz.prog := by kernel_rfl
theorem mappingParses_holds : Rows.MappingParsesCardSaid :=
  Claim7.holds_tied_plain_at .later [] [.data, .data, .pinned] true (true, "dd7ce6020ae7e3f4a3602b5ad57097b07d5f2f2356ed8c1d6f24fdcf1620b2a7") false
    rowMPs_holds (fun _ h => by cases h) cardMPs_w (fun _ h => by cases h) mappingParses_row_tie rfl ⟨rfl, rfl⟩ cardMPs_m rfl
    (fun f fn hf hfn => by
      obtain rfl : f = 3 := Option.some.inj (cardMPs_f.symm.trans hf) |>.symm
      obtain rfl : fn = Tryz.f3 := (Option.some.inj (Tryz.func3.symm.trans hfn)).symm
      exact ⟨cardMPs_l, fun j t ht => by
        rw [Tryz.params3] at ht
        have hm : t ∈ [9] := by simpa using Array.mem_of_getElem? ht
        exact (show Tryz.prog.wantsStandIn t = false by simpa using List.all_eq_true.1 cardMPs_s t hm)⟩)
    cardMPs_g
#print axioms mappingParses_holds
end Go.Proofs.YtfalaomjfkaphaaGreatDoor
