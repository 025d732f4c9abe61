import Derived.Test.YtnccclpjcidmeaaGreatDoorRowC
import Derived.Test.YtnccclpjcidmeaaGreatDoorA4
namespace Go.Proofs.YtnccclpjcidmeaaGreatDoor
open Go Go.Sx Go.ChangeShapes Go.WideShapes Go.ChangeAt Go.RowKit

set_option maxRecDepth 100000 in
theorem liftedJ (os : Os) (started : os.Started) (H : Type) (enc : TypeId × Value → H) :
    ReturnsInHanded {} Tryz.checked os 8 .any (fun w args => (Rows.mappingJoinsSpec.pre enc Tryz.prog Tryz.f8 [] false w args ∧ laidMetH Tryz.prog Rows.mappingJoinsRow.laid w) ∧ sizedMet enc Tryz.prog Tryz.f8 (OpenSpec.ofChange Rows.mappingJoinsSpec) false w args)
      (Rows.mappingJoinsSpec.post enc Tryz.prog Tryz.f8 false true false false) := by
  refine ret_shaped (C := Tryz.checked) (X := fun w _ => laidMetH Tryz.prog Rows.mappingJoinsRow.laid w) (fun _ _ _ hh h => h.of_heap hh) own started (by kernel_rfl) Tryz.func8
    (ChangeSpec.witness_shaped (enc := enc) (C := Tryz.checked) (os := os) (X := fun w _ => laidMetH Tryz.prog Rows.mappingJoinsRow.laid w) false (World.laidAll Tryz.prog os Rows.mappingJoinsRow.laid) #[.slice none 0 0, .string ⟨#[]⟩, .agg #[.slice none 0 0, .slice none 0 0]] 8 (World.laidAll_os _ _ _)
      (World.shaped_of_ZipB (by kernel_rfl) (by kernel_rfl)) (by kernel_rfl) (by kernel_rfl) (by kernel_rfl)
      (by rw [MakeChecks.laidMetH_plain _ _ _ (by kernel_rfl)]; exact laidMet_laidAll _ (by kernel_rfl) (by kernel_rfl))) ?_
  intro W base args ds gs before hval0 hW hL hsh
  have hval : ∀ (j : Nat) t v, Tryz.f8.params[j]? = some t → args[j]? = some v → Value.okWide Tryz.prog W .any base t v := hval0
  have hW' := hW
  obtain ⟨p, q, hA0, hV, rfl, hfz, hnd⟩ := hW
  have hA : DataW.TrodAll enc Tryz.prog W 0 (fun _ => true) true Tryz.f8.params.toList args.toList ds p := hA0
  rw [Tryz.params8] at hA hval
  obtain ⟨v1, v2, v3, d1, d2, d3, p1, p2, p3, rfl, rfl, rfl, h1, h2, h3⟩ := trodAll_three hA
  obtain ⟨rfl, rfl⟩ := trodVars_none hV
  have hlt : ∀ x ∈ p1 ++ p2 ++ p3, x.block < W.heap.size := fun x hx => by simpa using hW'.lt x (by simpa using hx)
  have hargs1 : ∀ (W' : World), Below W.heap.size W W' → DataW.Trod enc Tryz.prog W' 0 (fun b => decide (b < W.heap.size)) true 22 v1 d1 p1 :=
    fun W' hn => Below.trod laidOut (by kernel_rfl) (of_decide_eq_true (by kernel_rfl)) h1 hn (fun x hx => hlt x (by simp [hx]))
  have hargs2 : ∀ (W' : World), Below W.heap.size W W' → DataW.Trod enc Tryz.prog W' 0 (fun b => decide (b < W.heap.size)) true 9 v2 d2 p2 :=
    fun W' hn => Below.trod laidOut (by kernel_rfl) (of_decide_eq_true (by kernel_rfl)) h2 hn (fun x hx => hlt x (by simp [hx]))
  have hargs3 : ∀ (W' : World), Below W.heap.size W W' → DataW.Trod enc Tryz.prog W' 0 (fun b => decide (b < W.heap.size)) true 42 v3 d3 p3 :=
    fun W' hn => Below.trod laidOut (by kernel_rfl) (of_decide_eq_true (by kernel_rfl)) h3 hn (fun x hx => hlt x (by simp [hx]))
  obtain ⟨l, hl, hrep⟩ := open_mappings (okWide_slice Tryz.underlying22 (hval 0 22 v1 rfl rfl)) h1
  obtain ⟨tag, rfl⟩ := okWide_string Tryz.underlying9 (hval 1 9 v2 rfl rfl)
  have hrep3 : ∃ ta tb : List Int, Rep (memOf W) [] (.ag [slD 1 intD ta, slD 1 intD tb]) v3 := by
    have hv := hval 2 42 v3 rfl rfl
    obtain ⟨cs, rfl⟩ : ∃ cs, v3 = .agg cs := by
      simp only [Value.okWide, Tryz.underlying42] at hv
      cases v3 <;> simp_all
    obtain ⟨fuel, hf⟩ := h3
    have hf : DataW.trod enc Tryz.prog W 0 (fun _ => true) true fuel 42 cs.toList = some _ := hf
    obtain ⟨xs, m, _, hx, hlen, hn, hel⟩ := DataW.trod_array Tryz.underlying42 hf
    have c37 : Tryz.prog.cellsOf 37 = 1 := by kernel_rfl
    have c42 : Tryz.prog.cellsOf 42 = 2 := by kernel_rfl
    have get : ∀ j, j < 2 → ∃ (t : List Int) (v : Value), cs.toList[j]? = some v ∧ Rep (memOf W) [] (slD 1 intD t) v := by
      intro j hj
      have he := hel j hj
      obtain ⟨y, hy⟩ : ∃ y, xs[j]? = some y := ⟨xs[j]'(by omega), List.getElem?_eq_getElem _⟩
      rw [hy, c37, Nat.mul_one] at he
      obtain ⟨t, v, e, _, _, r⟩ := open_ints he
      exact ⟨t, v, one_of e, r⟩
    obtain ⟨ta, va, ga, ra⟩ := get 0 (by omega)
    obtain ⟨tb, vb, gb, rb⟩ := get 1 (by omega)
    refine ⟨ta, tb, ?_⟩
    simp only [Rep]
    refine ⟨cs, rfl, ?_⟩
    have hl2 : cs.toList.length = 2 := by first | (rw [hlen, c42]) | (rw [hn, c42]) | omega
    have : cs.toList = [va, vb] := by
      match h : cs.toList, hl2 with
      | [x, y], _ => rw [h] at ga gb; simp at ga gb; rw [ga, gb]
    rw [this]
    exact RepL.cons ra (RepL.cons rb RepL.nil)
  obtain ⟨ta, tb, hrep3⟩ := hrep3
  obtain ⟨mx, hm⟩ := max_of hsh
  have hin : RepL (memOf W) [] (ctLawJo.inp (l, tag, ta, tb)) #[v1, .string tag, v3].toList := RepL.cons hrep (RepL.cons (Rep.val _) (RepL.cons hrep3 RepL.nil))
  have hcall := (lawJoins_ok (mx := mx)).2.2 (l, tag, ta, tb) hl (memOf W) W #[v1, .string tag, v3] (memOf_fits W) (gl_ok hL hm) hin 0
  refine (callsIn_wide.1 hcall).mono fun e W' hR => ?_
  obtain ⟨M', u, rfl, _, _, _, hu, hb⟩ := hR
  have hu' : u = .bool true := hu
  subst hu'
  simp only [List.append_nil] at hW'
  refine ⟨_, rfl, _, _, _, [], p1 ++ p2 ++ p3, [], hW', ?_, ?_, rfl, hb.frame _, fun h => by cases h⟩
  · exact trodAll_mk1 (shut_bool Tryz.underlying4 true)
  · rw [List.append_assoc]; exact trodAll_mk3 (hargs1 _ hb) (hargs2 _ hb) (hargs3 _ hb)

theorem rowJ_holds : Rows.MappingJoinsSaid :=
  OpenClaim.holds_of_wide 8 Tryz.f8 rfl rfl rfl rfl rfl rfl rfl ⟨rfl, rfl, rfl, rfl, rfl⟩ rfl rfl rfl rfl rfl (by kernel_rfl) Tryz.func8 (by kernel_rfl)
    (of_decide_eq_true (by kernel_rfl)) (by unfold Func.isWrapper; first | (rw [if_pos (by decide +kernel)]; kernel_rfl) | (rw [if_neg (by decide +kernel)]; exact ⟨rfl, rfl⟩))
    (fun os started H enc _ => liftedJ os started H enc)
end Go.Proofs.YtnccclpjcidmeaaGreatDoor
