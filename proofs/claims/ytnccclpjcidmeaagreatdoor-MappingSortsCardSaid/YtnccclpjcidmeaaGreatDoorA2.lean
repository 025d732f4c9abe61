import Derived.Test.YtnccclpjcidmeaaGreatDoorA1
namespace Go.Proofs
open Go Go.Sx
variable {mx : Int}

def oneA (vl : List Mp) (tag : ByteArray) (c : Int) : List Int := (findM vl c tag).getD [c]
def acc (vl : List Mp) (tag : ByteArray) (text : List Int) : Nat → List Int
  | 0 => []
  | k + 1 => acc vl tag text k ++ oneA vl tag (text.getD k default)
noncomputable def ctApply : Ct := { ι := List Mp × ByteArray × List Int, inp := fun x => [mpsD x.1, .v (.string x.2.1), slD 1 intD x.2.2], out := fun x => slD 1 intD (acc (validL x.1) x.2.1 x.2.2 x.2.2.length), pre := fun x => smallB x.1 = true ∧ x.2.2.length ≤ 100 }
theorem validL_or (l : List Mp) : validL l = [] ∨ validL l = l := by
  unfold validL
  cases checkE l != 0 <;> simp
theorem validL_to {l : List Mp} (h : smallB l = true) : (validL l).length ≤ 20 ∧ ∀ k, k < (validL l).length → ((validL l).getD k default).to.length ≤ 65 := by
  obtain ⟨h1, h2⟩ := small_facts h
  rcases validL_or l with e | e
  · rw [e]; simp
  · rw [e]; exact ⟨h1, fun k hk => (h2 k hk).1⟩
theorem find_to {vl : List Mp} (h : ∀ k, k < vl.length → (vl.getD k default).to.length ≤ 65) {c : Int} {tag : ByteArray} {to : List Int} (hf : findM vl c tag = some to) : to.length ≤ 65 := by
  simp only [findM, Option.map_eq_some_iff] at hf
  obtain ⟨m, hm, rfl⟩ := hf
  obtain ⟨i, hi, rfl⟩ := List.getElem_of_mem (List.mem_of_find?_eq_some hm)
  have := h i hi
  simpa [List.getD_eq_getElem?_getD, hi] using this
theorem oneA_len {vl : List Mp} (h : ∀ k, k < vl.length → (vl.getD k default).to.length ≤ 65) (tag : ByteArray) (c : Int) : (oneA vl tag c).length ≤ 65 := by
  unfold oneA
  cases hf : findM vl c tag with
  | none => simp
  | some to => exact find_to h hf
theorem acc_len {vl : List Mp} (h : ∀ k, k < vl.length → (vl.getD k default).to.length ≤ 65) (tag : ByteArray) (text : List Int) : ∀ k, (acc vl tag text k).length ≤ 65 * k
  | 0 => by simp [acc]
  | k + 1 => by
    have h1 := acc_len h tag text k
    have h2 := oneA_len h tag (text.getD k default)
    simp only [acc, List.length_append]
    omega
theorem cat_eq (a b : List Int) (i j : Nat) (h : i < a.length + b.length) : catF a.length (fun i j => intD (a.getD i default) j) (fun i j => intD (b.getD i default) j) i j = intD ((a ++ b).getD i default) j := by
  unfold catF
  split
  · rename_i hi
    simp [List.getD_eq_getElem?_getD, List.getElem?_append_left hi]
  · rename_i hi
    simp [List.getD_eq_getElem?_getD, List.getElem?_append_right (show a.length ≤ i by omega)]
def oneF (c : Int) (i j : Nat) : D := (([.v (.int .i64 c)] : List D)[i * 1 + j]?).getD .junk
theorem oneF_eq (c : Int) {i j : Nat} (hi : i < 1) (hj : j < 1) : oneF c i j = intD (([c] : List Int).getD i default) j := by
  have : i = 0 := by omega
  have : j = 0 := by omega
  subst_vars; rfl
theorem cat_one (a : List Int) (c : Int) (i j : Nat) (h : i < a.length + 1) (hj : j < 1) : catF a.length (fun i j => intD (a.getD i default) j) (oneF c) i j = intD ((a ++ [c]).getD i default) j := by
  rw [← cat_eq a [c] i j (by simpa using h)]
  unfold catF
  split
  · rfl
  · exact oneF_eq c (by omega) hj
def rowD (a : List Int) : Own := .row 3 1 a.length fun i j => intD (a.getD i default) j

def rSt (vl : List Mp) (tag : ByteArray) (text : List Int) : Nat → St
  | 0 => ⟨[(0, mpsD vl), (1, .v (.string tag)), (2, slD 1 intD text), (7, .v (.slice none 0 0)), (8, .v (.int .i64 0))], [], []⟩
  | k + 1 => ⟨[(0, mpsD vl), (1, .v (.string tag)), (2, slD 1 intD text), (7, .row 0), (8, .v (.int .i64 ((k + 1 : Nat) : Int)))], [rowD (acc vl tag text (k + 1))], []⟩

noncomputable def Γa : Ctx := fun f => match f with
  | 53 => some (.pure ctValidL)
  | 54 => some (.pure ctFind)
  | 14 => some (.pure ctCheck)
  | 37 => some (.pure ctKeyOf)
  | _ => none
theorem Γa_ok : CtxOk Tryz.prog (GlT mx) Γa := by
  intro f h hh
  simp only [Γa] at hh
  split at hh <;> simp at hh <;> subst hh
  · exact rvalidL_ok
  · exact rfind_ok
  · exact check_ok
  · exact keyOf_ok

set_option maxHeartbeats 2000000 in
theorem rapply_ok : Sound Tryz.prog (GlT mx) 26 ctApply := by
  refine sound_by (cc := false) Γa_ok Tryz.T_ok Tryz.mixed Tryz.func26 rfl (by kernel_rfl) (fun _ => rfl) (fun _ _ => by show 3 ≤ 41; decide) ?_
  intro ((l : List Mp), (tag : ByteArray), (text : List Int)) ⟨(hs : smallB l = true), (ht : text.length ≤ 100)⟩
  obtain ⟨hv20, hv65⟩ := validL_to hs
  have hal := acc_len hv65 tag text
  repeat first | refine wk1 ?_ | refine wk2 ?_ | refine wk3 ?_
  refine ⟨l, EntL.refl _, small_fit hs, ?_⟩
  repeat first | refine wk1 ?_ | refine wk2 ?_ | refine wk3 ?_
  refine ⟨0, Nat, rSt (validL l) tag text, fun k => k ≤ text.length, fun k => text.length - k, fun _ => Nat.zero_le _, ⟨0, Nat.zero_le _, StLe.of (by repeat' (first | exact trivial | exact Ent.refl _ | exact rfl | refine And.intro ?_ ?_)) trivial⟩, ?_⟩
  intro k hk
  match k, hk with
  | 0, hk =>
    repeat first | refine wk1 ?_ | refine wk2 ?_ | refine wk3 ?_
    refine And.intro (fun h => ?_) (fun h => ?_)
    · have h : 0 < text.length := by have h' := of_decide_eq_true h; omega
      have h1 := oneA_len hv65 tag (text.getD 0 default)
      repeat first | refine wk1 ?_ | refine wk2 ?_ | refine wk3 ?_
      refine And.intro (by omega) ?_
      repeat first | refine wk1 ?_ | refine wk2 ?_ | refine wk3 ?_
      refine ⟨(validL l, (text.getD 0 default), tag), EntL.refl _, ⟨by show (validL l).length ≤ _; omega, hv65⟩, ?_⟩
      repeat first | refine wk1 ?_ | refine wk2 ?_ | refine wk3 ?_
      refine And.intro (fun h3 => ?_) (fun h3 => ?_)
      · have h3 : (findM (validL l) (text.getD 0 default) tag).isSome = true := h3
        have e1 : oneA (validL l) tag (text.getD 0 default) = (findM (validL l) (text.getD 0 default) tag).getD [] := by
          obtain ⟨to, hto⟩ := Option.isSome_iff_exists.1 h3
          simp only [oneA, hto, Option.getD_some]
        rw [e1] at h1
        repeat first | refine wk1 ?_ | refine wk2 ?_ | refine wk3 ?_
        refine And.intro (by show ((findM (validL l) (text.getD 0 default) tag).getD []).length ≤ _; omega) (And.intro (by show ((findM (validL l) (text.getD 0 default) tag).getD []).length * 8 ≤ _; omega) ?_)
        repeat first | refine wk1 ?_ | refine wk2 ?_ | refine wk3 ?_
        refine And.intro ⟨by decide, by decide⟩ ?_
        repeat first | refine wk1 ?_ | refine wk2 ?_ | refine wk3 ?_
        refine ⟨1, (show 1 ≤ text.length by omega), (show text.length - 1 < text.length - 0 by omega), StLe.ren [0] (by repeat' (first | exact trivial | exact Ent.refl _ | exact rfl | refine And.intro ?_ ?_)) ⟨⟨rfl, rfl, ?_, fun i hi j hj => ?_⟩, trivial⟩ (by decide)⟩
        · show ((findM (validL l) (text.getD 0 default) tag).getD []).length = (acc (validL l) tag text 1).length
          simp only [acc, e1, List.nil_append]
        · show Ent (intD (((findM (validL l) (text.getD 0 default) tag).getD []).getD i default) j) (intD ((acc (validL l) tag text 1).getD i default) j)
          simp only [acc, e1, List.nil_append]
          exact Ent.refl _
      · have h3 : (findM (validL l) (text.getD 0 default) tag).isSome = false := h3
        have e1 : oneA (validL l) tag (text.getD 0 default) = [(text.getD 0 default)] := by
          have : (findM (validL l) (text.getD 0 default) tag) = none := by simpa using h3
          simp only [oneA, this, Option.getD_none]
        repeat first | refine wk1 ?_ | refine wk2 ?_ | refine wk3 ?_
        refine And.intro (by omega) ?_
        repeat first | refine wk1 ?_ | refine wk2 ?_ | refine wk3 ?_
        refine And.intro (by decide) (And.intro (by decide) ?_)
        repeat first | refine wk1 ?_ | refine wk2 ?_ | refine wk3 ?_
        refine And.intro ⟨by decide, by decide⟩ ?_
        repeat first | refine wk1 ?_ | refine wk2 ?_ | refine wk3 ?_
        refine ⟨1, (show 1 ≤ text.length by omega), (show text.length - 1 < text.length - 0 by omega), StLe.ren [0] (by repeat' (first | exact trivial | exact Ent.refl _ | exact rfl | refine And.intro ?_ ?_)) ⟨⟨rfl, rfl, ?_, fun i hi j hj => ?_⟩, trivial⟩ (by decide)⟩
        · show 1 = (acc (validL l) tag text 1).length
          simp only [acc, e1, List.nil_append, List.length_singleton]
        · show Ent (oneF (text.getD 0 default) i j) (intD ((acc (validL l) tag text 1).getD i default) j)
          simp only [acc, e1, List.nil_append]
          rw [oneF_eq _ hi hj]
          exact Ent.refl _
    · have h : text.length = 0 := by have h' := of_decide_eq_false h; omega
      repeat first | refine wk1 ?_ | refine wk2 ?_ | refine wk3 ?_
      refine EntR.of rfl ?_
      show Ent _ (slD 1 intD (acc (validL l) tag text text.length))
      rw [h]
      exact Ent.nil
  | k + 1, hk =>
    repeat first | refine wk1 ?_ | refine wk2 ?_ | refine wk3 ?_
    refine And.intro (fun h => ?_) (fun h => ?_)
    · have h : (k + 1) < text.length := by have h' := of_decide_eq_true h; omega
      have h1 := oneA_len hv65 tag (text.getD (k + 1) default)
      have h2 := hal (k + 1)
      repeat first | refine wk1 ?_ | refine wk2 ?_ | refine wk3 ?_
      refine And.intro (by omega) ?_
      repeat first | refine wk1 ?_ | refine wk2 ?_ | refine wk3 ?_
      refine ⟨(validL l, (text.getD (k + 1) default), tag), EntL.refl _, ⟨by show (validL l).length ≤ _; omega, hv65⟩, ?_⟩
      repeat first | refine wk1 ?_ | refine wk2 ?_ | refine wk3 ?_
      refine And.intro (fun h3 => ?_) (fun h3 => ?_)
      · have h3 : (findM (validL l) (text.getD (k + 1) default) tag).isSome = true := h3
        have e1 : oneA (validL l) tag (text.getD (k + 1) default) = (findM (validL l) (text.getD (k + 1) default) tag).getD [] := by
          obtain ⟨to, hto⟩ := Option.isSome_iff_exists.1 h3
          simp only [oneA, hto, Option.getD_some]
        rw [e1] at h1
        repeat first | refine wk1 ?_ | refine wk2 ?_ | refine wk3 ?_
        refine And.intro (by show (acc (validL l) tag text (k + 1)).length + ((findM (validL l) (text.getD (k + 1) default) tag).getD []).length ≤ _; omega) (And.intro (by show ((acc (validL l) tag text (k + 1)).length + ((findM (validL l) (text.getD (k + 1) default) tag).getD []).length) * 8 ≤ _; omega) ?_)
        repeat first | refine wk1 ?_ | refine wk2 ?_ | refine wk3 ?_
        refine And.intro (show fitsI64 (((k + 1 : Nat) : Int) + 1) from ⟨by omega, by omega⟩) ?_
        repeat first | refine wk1 ?_ | refine wk2 ?_ | refine wk3 ?_
        refine ⟨k + 2, (show k + 2 ≤ text.length by omega), (show text.length - (k + 2) < text.length - (k + 1) by omega), StLe.ren [1] (by repeat' (first | exact trivial | exact Ent.refl _ | exact rfl | refine And.intro ?_ ?_)) ⟨⟨rfl, rfl, ?_, fun i hi j hj => ?_⟩, trivial⟩ (by decide)⟩
        · show (acc (validL l) tag text (k + 1)).length + ((findM (validL l) (text.getD (k + 1) default) tag).getD []).length = (acc (validL l) tag text (k + 2)).length
          rw [show acc (validL l) tag text (k + 2) = (acc (validL l) tag text (k + 1)) ++ oneA (validL l) tag (text.getD (k + 1) default) from rfl, e1, List.length_append]
        · show Ent (catF (acc (validL l) tag text (k + 1)).length (fun i j => intD ((acc (validL l) tag text (k + 1)).getD i default) j) (fun i j => intD (((findM (validL l) (text.getD (k + 1) default) tag).getD []).getD i default) j) i j) (intD ((acc (validL l) tag text (k + 2)).getD i default) j)
          rw [show acc (validL l) tag text (k + 2) = (acc (validL l) tag text (k + 1)) ++ oneA (validL l) tag (text.getD (k + 1) default) from rfl, e1, cat_eq _ _ _ _ hi]
          exact Ent.refl _
      · have h3 : (findM (validL l) (text.getD (k + 1) default) tag).isSome = false := h3
        have e1 : oneA (validL l) tag (text.getD (k + 1) default) = [(text.getD (k + 1) default)] := by
          have : (findM (validL l) (text.getD (k + 1) default) tag) = none := by simpa using h3
          simp only [oneA, this, Option.getD_none]
        repeat first | refine wk1 ?_ | refine wk2 ?_ | refine wk3 ?_
        refine And.intro (by omega) ?_
        repeat first | refine wk1 ?_ | refine wk2 ?_ | refine wk3 ?_
        refine And.intro (by show (acc (validL l) tag text (k + 1)).length + 1 ≤ _; omega) (And.intro (by show ((acc (validL l) tag text (k + 1)).length + 1) * 8 ≤ _; omega) ?_)
        repeat first | refine wk1 ?_ | refine wk2 ?_ | refine wk3 ?_
        refine And.intro (show fitsI64 (((k + 1 : Nat) : Int) + 1) from ⟨by omega, by omega⟩) ?_
        repeat first | refine wk1 ?_ | refine wk2 ?_ | refine wk3 ?_
        refine ⟨k + 2, (show k + 2 ≤ text.length by omega), (show text.length - (k + 2) < text.length - (k + 1) by omega), StLe.ren [1] (by repeat' (first | exact trivial | exact Ent.refl _ | exact rfl | refine And.intro ?_ ?_)) ⟨⟨rfl, rfl, ?_, fun i hi j hj => ?_⟩, trivial⟩ (by decide)⟩
        · show (acc (validL l) tag text (k + 1)).length + 1 = (acc (validL l) tag text (k + 2)).length
          rw [show acc (validL l) tag text (k + 2) = (acc (validL l) tag text (k + 1)) ++ oneA (validL l) tag (text.getD (k + 1) default) from rfl, e1, List.length_append, List.length_singleton]
        · show Ent (catF (acc (validL l) tag text (k + 1)).length (fun i j => intD ((acc (validL l) tag text (k + 1)).getD i default) j) (oneF (text.getD (k + 1) default)) i j) (intD ((acc (validL l) tag text (k + 2)).getD i default) j)
          rw [show acc (validL l) tag text (k + 2) = (acc (validL l) tag text (k + 1)) ++ oneA (validL l) tag (text.getD (k + 1) default) from rfl, e1, cat_one _ _ _ _ hi hj]
          exact Ent.refl _
    · have h : text.length = k + 1 := by have h' := of_decide_eq_false h; have hk' : k + 1 ≤ text.length := hk; omega
      repeat first | refine wk1 ?_ | refine wk2 ?_ | refine wk3 ?_
      refine EntR.of rfl ?_
      show Ent _ (slD 1 intD (acc (validL l) tag text text.length))
      rw [h]
      exact Ent.refl _
end Go.Proofs
