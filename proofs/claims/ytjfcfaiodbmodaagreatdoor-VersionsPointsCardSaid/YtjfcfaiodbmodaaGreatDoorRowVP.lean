import Derived.Test.YtjfcfaiodbmodaaGreatDoorRo17
import Derived.Test.YtjfcfaiodbmodaaGreatDoorLVP
set_option linter.unusedVariables false
set_option linter.unusedSimpArgs false
namespace Go.Proofs.YtjfcfaiodbmodaaGreatDoor
open Go Go.Sx Go.ChangeShapes Go.WideShapes Go.ChangeAt Go.RowKit
set_option maxRecDepth 100000 in
theorem liftedVP (os : Os) (started : os.Started) (H : Type) (enc : TypeId × Value → H) :
    ReturnsInHanded {} Tryz.checked os 7 .any (fun w args => (Rows.versionsPointsSpec.pre enc Tryz.prog Tryz.f7 [] false w args ∧ laidMetH Tryz.prog Rows.versionsPointsRow.laid w) ∧ sizedMet enc Tryz.prog Tryz.f7 (OpenSpec.ofChange Rows.versionsPointsSpec) false w args)
      (Rows.versionsPointsSpec.post enc Tryz.prog Tryz.f7 false true false false) := by
  refine ret_shaped (C := Tryz.checked) (X := fun w _ => laidMetH Tryz.prog Rows.versionsPointsRow.laid w) (fun _ _ _ hh h => h.of_heap hh) own started (by kernel_rfl) Tryz.func7
    (ChangeSpec.witness_shaped (enc := enc) (C := Tryz.checked) (os := os) (X := fun w _ => laidMetH Tryz.prog Rows.versionsPointsRow.laid w) false (World.laidAll Tryz.prog os Rows.versionsPointsRow.laid) #[.agg #[.int .i64 0, .int .i64 0, .slice none 0 0, .slice none 0 0, .slice none 0 0, .slice none 0 0, .slice none 0 0, .slice none 0 0, .slice none 0 0, .slice none 0 0, .slice none 0 0, .slice none 0 0, .slice none 0 0, .slice none 0 0, .slice none 0 0, .slice none 0 0, .slice none 0 0, .slice none 0 0, .slice none 0 0, .slice none 0 0, .slice none 0 0, .slice none 0 0, .slice none 0 0, .slice none 0 0, .slice none 0 0, .slice none 0 0, .slice none 0 0, .slice none 0 0, .slice none 0 0], .agg #[.int .i64 0, .int .i64 0, .slice none 0 0, .slice none 0 0, .slice none 0 0, .slice none 0 0, .slice none 0 0, .slice none 0 0, .slice none 0 0, .slice none 0 0, .slice none 0 0, .slice none 0 0, .slice none 0 0, .slice none 0 0, .slice none 0 0, .slice none 0 0, .slice none 0 0, .slice none 0 0, .slice none 0 0, .slice none 0 0, .slice none 0 0, .slice none 0 0, .slice none 0 0, .slice none 0 0, .slice none 0 0, .slice none 0 0, .slice none 0 0, .slice none 0 0, .slice none 0 0], .int .i64 0] 8 (World.laidAll_os _ _ _)
      (World.shaped_of_ZipB (by kernel_rfl) (by kernel_rfl)) (by kernel_rfl) (by kernel_rfl) (by kernel_rfl)
      (by rw [MakeChecks.laidMetH_plain _ _ _ (by kernel_rfl)]; exact laidMet_laidAll _ (by kernel_rfl) (by kernel_rfl))) ?_
  intro W base args ds gs before hval0 hW hL hsh
  have hval : ∀ (j : Nat) t v, Tryz.f7.params[j]? = some t → args[j]? = some v → Value.okWide Tryz.prog W .any base t v := hval0
  have hW' := hW
  obtain ⟨p, q, hA0, hV, rfl, hfz, hnd⟩ := hW
  have hA : DataW.TrodAll enc Tryz.prog W 0 (fun _ => true) true Tryz.f7.params.toList args.toList ds p := hA0
  rw [Tryz.params7] at hA hval
  obtain ⟨v1, v2, v3, d1, d2, d3, p1, p2, p3, rfl, rfl, rfl, h1, h2, h3⟩ := trodAll_three hA
  obtain ⟨rfl, rfl⟩ := trodVars_none hV
  have hlt : ∀ x ∈ p1 ++ p2 ++ p3, x.block < W.heap.size := fun x hx => by simpa using hW'.lt x (by simpa using hx)
  have hargs1 : ∀ (W' : World), Below W.heap.size W W' → DataW.Trod enc Tryz.prog W' 0 (fun b => decide (b < W.heap.size)) true 39 v1 d1 p1 :=
    fun W' hn => Below.trod laidOut (by kernel_rfl) (of_decide_eq_true (by kernel_rfl)) h1 hn (fun x hx => hlt x (by simp [hx]))
  have hargs2 : ∀ (W' : World), Below W.heap.size W W' → DataW.Trod enc Tryz.prog W' 0 (fun b => decide (b < W.heap.size)) true 39 v2 d2 p2 :=
    fun W' hn => Below.trod laidOut (by kernel_rfl) (of_decide_eq_true (by kernel_rfl)) h2 hn (fun x hx => hlt x (by simp [hx]))
  have hargs3 : ∀ (W' : World), Below W.heap.size W W' → DataW.Trod enc Tryz.prog W' 0 (fun b => decide (b < W.heap.size)) true 3 v3 d3 p3 :=
    fun W' hn => Below.trod laidOut (by kernel_rfl) (of_decide_eq_true (by kernel_rfl)) h3 hn (fun x hx => hlt x (by simp [hx]))
  obtain ⟨c0, ok0, hrep0⟩ := open_agg Tryz.underlying39 (hval 0 39 v1 rfl rfl) h1 opens_db
  have hrep0 : Rep (memOf W) [] (dbA c0) v1 := hrep0
  obtain ⟨c1, ok1, hrep1⟩ := open_agg Tryz.underlying39 (hval 1 39 v2 rfl rfl) h2 opens_db
  have hrep1 : Rep (memOf W) [] (dbA c1) v2 := hrep1
  obtain ⟨n2, rfl⟩ := okWide_int Tryz.underlying3 (hval 2 3 v3 rfl rfl)
  obtain ⟨mx, hm⟩ := max_of hsh
  have hin : RepL (memOf W) [] (ctLaw3.inp (c0, c1, n2)) #[v1, v2, .int .i64 n2].toList := RepL.cons hrep0 (RepL.cons hrep1 (RepL.cons (Rep.val _) RepL.nil))
  have hcall := (lawVP_ok (mx := mx)).2.2 (c0, c1, n2) ⟨ok0, ok1⟩ (memOf W) W #[v1, v2, .int .i64 n2] (memOf_fits W) (gl_ok hL hm) hin 0
  refine (callsIn_wide.1 hcall).mono fun e W' hR => ?_
  obtain ⟨M', u, rfl, _, _, _, hu, hb⟩ := hR
  have hu' : u = .bool true := hu
  subst hu'
  simp only [List.append_nil] at hW'
  refine ⟨_, rfl, _, _, _, [], p1 ++ p2 ++ p3, [], hW', ?_, ?_, rfl, hb.frame _, fun h => by cases h⟩
  · exact trodAll_mk1 (shut_bool Tryz.underlying4 true)
  · rw [List.append_assoc]; exact trodAll_mk3 (hargs1 _ hb) (hargs2 _ hb) (hargs3 _ hb)

theorem rowVP_f : Tryz.prog.funcNamed Rows.versionsPointsRow.func = some 7 := by kernel_rfl
theorem rowVP_c : joinedFacts Tryz.prog 7 Tryz.f7 Rows.versionsPointsSpec Rows.versionsPointsRow = true := by kernel_rfl
theorem rowVP_i : Tryz.f7.isInstance Tryz.prog Rows.versionsPointsRow.origin Rows.versionsPointsRow.targs := of_decide_eq_true (by kernel_rfl)
theorem rowVP_w : Tryz.f7.isWrapper Tryz.prog Rows.versionsPointsRow.wrapper Rows.versionsPointsRow.mainSum := by unfold Func.isWrapper; first | (rw [if_pos (by decide +kernel)]; kernel_rfl) | (rw [if_neg (by decide +kernel)]; exact ⟨rfl, rfl⟩)
theorem rowVP_holds : Rows.VersionsPointsSaid :=
  OpenClaim.holds_of_wide 7 Tryz.f7 rfl rfl rfl rfl rfl rfl rfl ⟨rfl, rfl, rfl, rfl, rfl⟩ rfl rfl rfl rfl rfl rowVP_f Tryz.func7 rowVP_c rowVP_i rowVP_w
    (fun os started H enc _ => liftedVP os started H enc)
end Go.Proofs.YtjfcfaiodbmodaaGreatDoor
