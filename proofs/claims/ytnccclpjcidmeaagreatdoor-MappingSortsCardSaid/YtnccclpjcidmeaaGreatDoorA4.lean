import Derived.Test.YtnccclpjcidmeaaGreatDoorA3
namespace Go.Proofs
open Go Go.Sx
variable {mx : Int}
noncomputable def Γb : Ctx := fun f => match f with
  | 16 => some (.pure ctAlive)
  | 23 => some (.pure ctFew)
  | 24 => some (.pure ctEqualL)
  | 25 => some (.pure ctApply)
  | 26 => some (.pure ctApply)
  | _ => none
theorem Γb_ok : CtxOk Tryz.prog (GlT mx) Γb := by
  intro f h hh
  simp only [Γb] at hh
  split at hh <;> simp at hh <;> subst hh
  · exact alive_ok mx
  · exact few_ok
  · exact requal_ok
  · exact apply_ok
  · exact rapply_ok
def ctLawAp : Ct := { ι := List Mp × ByteArray × List Int, inp := fun x => [mpsD x.1, .v (.string x.2.1), slD 1 intD x.2.2], out := fun _ => .v (.bool true), pre := fun x => x.1.length ≤ 9223372036854775807 }
theorem fewB_iff {l : List Mp} {t : List Int} (h : fewB l t = true) : smallB l = true ∧ t.length ≤ 40 := by
  unfold fewB at h
  cases hs : smallB l with
  | false => rw [hs] at h; simp at h
  | true => rw [hs] at h; simp at h; exact ⟨rfl, by omega⟩
set_option maxHeartbeats 1000000 in
theorem lawApplies_ok : Sound Tryz.prog (GlT mx) 7 ctLawAp := by
  refine sound_by (cc := false) Γb_ok Tryz.T_ok Tryz.mixed Tryz.func7 rfl (by kernel_rfl) (fun _ => rfl) (fun _ _ => by show 3 ≤ 29; decide) ?_
  intro ((l : List Mp), (tag : ByteArray), (text : List Int)) (hl : l.length ≤ 9223372036854775807)
  repeat first | refine wk1 ?_ | refine wk2 ?_ | refine wk3 ?_
  refine ⟨(l, text), EntL.refl _, hl, ?_⟩
  repeat first | refine wk1 ?_ | refine wk2 ?_ | refine wk3 ?_
  refine And.intro (fun h => ?_) (fun h => ?_)
  · repeat first | refine wk1 ?_ | refine wk2 ?_ | refine wk3 ?_
    refine ⟨(), EntL.refl _, trivial, ?_⟩
    repeat first | refine wk1 ?_ | refine wk2 ?_ | refine wk3 ?_
    exact EntR.bool rfl
  have h : (bif !(fewB l text) then true else decide ((tag.size : Int) > 40)) = false := h
  have hf : fewB l text = true := by
    cases hx : fewB l text with
    | true => rfl
    | false => rw [hx] at h; simp at h
  obtain ⟨hs, ht⟩ := fewB_iff hf
  have hal := acc_len (validL_to hs).2 tag text text.length
  repeat first | refine wk1 ?_ | refine wk2 ?_ | refine wk3 ?_
  refine ⟨(l, tag, text), EntL.refl _, ⟨hs, by show text.length ≤ 100; omega⟩, ?_⟩
  repeat first | refine wk1 ?_ | refine wk2 ?_ | refine wk3 ?_
  refine ⟨(l, tag, text), EntL.refl _, ⟨hs, by show text.length ≤ 100; omega⟩, ?_⟩
  repeat first | refine wk1 ?_ | refine wk2 ?_ | refine wk3 ?_
  refine ⟨(acc (validL l) tag text text.length, acc (validL l) tag text text.length), EntL.refl _, ⟨by show (acc (validL l) tag text text.length).length ≤ _; omega, by show (acc (validL l) tag text text.length).length ≤ _; omega⟩, ?_⟩
  repeat first | refine wk1 ?_ | refine wk2 ?_ | refine wk3 ?_
  refine ⟨(), EntL.refl _, fun _ => trivial, ?_⟩
  repeat first | refine wk1 ?_ | refine wk2 ?_ | refine wk3 ?_
  refine EntR.bool ?_
  simp

/-! concatenation -/
theorem acc_append (vl : List Mp) (tag : ByteArray) (a b : List Int) : ∀ k, k ≤ b.length → acc vl tag (a ++ b) (a.length + k) = acc vl tag a a.length ++ acc vl tag b k
  | 0, _ => by
    have h : ∀ j, j ≤ a.length → acc vl tag (a ++ b) j = acc vl tag a j := by
      intro j
      induction j with
      | zero => intro _; rfl
      | succ j ih =>
        intro hj
        have e : (a ++ b).getD j default = a.getD j default := by simp [List.getD_eq_getElem?_getD, List.getElem?_append_left (show j < a.length by omega)]
        simp only [acc, ih (by omega), e]
    simp [acc, h a.length (Nat.le_refl _)]
  | k + 1, hk => by
    have ih := acc_append vl tag a b k (by omega)
    have e : (a ++ b).getD (a.length + k) default = b.getD k default := by simp [List.getD_eq_getElem?_getD, List.getElem?_append_right]
    rw [show a.length + (k + 1) = (a.length + k) + 1 from rfl]
    simp only [acc, ih, e, List.append_assoc]
def ctLawJo : Ct := { ι := List Mp × ByteArray × List Int × List Int, inp := fun x => [mpsD x.1, .v (.string x.2.1), .ag [slD 1 intD x.2.2.1, slD 1 intD x.2.2.2]], out := fun _ => .v (.bool true), pre := fun x => x.1.length ≤ 9223372036854775807 }
theorem cat0 (a : List Int) (f : Nat → Nat → D) (i j : Nat) : catF 0 f (fun i j => intD (a.getD i default) j) i j = intD (a.getD i default) j := by simp [catF]
theorem cat0b (a b : List Int) (f : Nat → Nat → D) (i j : Nat) (h : i < 0 + a.length + b.length) : catF (0 + a.length) (catF 0 f (fun i j => intD (a.getD i default) j)) (fun i j => intD (b.getD i default) j) i j = intD ((a ++ b).getD i default) j := by
  rw [← cat_eq a b i j (by omega)]
  rw [Nat.zero_add]
  unfold catF
  split
  · simp
  · rfl
theorem ent_cat (a b : List Int) (f : Nat → Nat → D) : Ent (.sl 1 (0 + a.length + b.length) (catF (0 + a.length) (catF 0 f (fun i j => intD (a.getD i default) j)) (fun i j => intD (b.getD i default) j))) (slD 1 intD (a ++ b)) :=
  Ent.sl (by simp) fun i hi j _ => Ent.of_eq (cat0b a b f i j hi)
set_option maxHeartbeats 2000000 in
theorem lawJoins_ok : Sound Tryz.prog (GlT mx) 8 ctLawJo := by
  refine sound_by (cc := false) Γb_ok Tryz.T_ok Tryz.mixed Tryz.func8 rfl (by kernel_rfl) (fun _ => rfl) (fun _ _ => by show 3 ≤ 48; decide) ?_
  intro ((l : List Mp), (tag : ByteArray), (a : List Int), (b : List Int)) (hl : l.length ≤ 9223372036854775807)
  repeat first | refine wk1 ?_ | refine wk2 ?_ | refine wk3 ?_
  refine And.intro (by kernel_rfl) ?_
  repeat first | refine wk1 ?_ | refine wk2 ?_ | refine wk3 ?_
  refine And.intro (fun _ => ⟨by decide, by decide⟩) ?_
  repeat first | refine wk1 ?_ | refine wk2 ?_ | refine wk3 ?_
  refine And.intro (fun _ => ⟨by decide, by decide⟩) ?_
  repeat first | refine wk1 ?_ | refine wk2 ?_ | refine wk3 ?_
  refine ⟨(l, a), EntL.refl _, hl, ?_⟩
  repeat first | refine wk1 ?_ | refine wk2 ?_ | refine wk3 ?_
  refine ⟨([], b), EntL.cons Ent.nil (EntL.refl _), fun _ => by show (0 : Nat) ≤ _; omega, ?_⟩
  repeat first | refine wk1 ?_ | refine wk2 ?_ | refine wk3 ?_
  refine And.intro (fun h => ?_) (fun h => ?_)
  · repeat first | refine wk1 ?_ | refine wk2 ?_ | refine wk3 ?_
    refine ⟨(), EntL.refl _, trivial, ?_⟩
    repeat first | refine wk1 ?_ | refine wk2 ?_ | refine wk3 ?_
    exact EntR.bool rfl
  have h : (bif !(fewB l a) then true else !(fewB [] b)) = false := h
  have hf : fewB l a = true := by
    cases hx : fewB l a with
    | true => rfl
    | false => rw [hx] at h; simp at h
  have hg : fewB [] b = true := by
    rw [hf] at h; simpa using h
  obtain ⟨hs, ha⟩ := fewB_iff hf
  obtain ⟨_, hb⟩ := fewB_iff hg
  have h1 := acc_len (validL_to hs).2 tag a a.length
  have h2 := acc_len (validL_to hs).2 tag b b.length
  have hab : (a ++ b).length ≤ 80 := by simp; omega
  have h3 := acc_len (validL_to hs).2 tag (a ++ b) (a ++ b).length
  have hcat : acc (validL l) tag (a ++ b) (a ++ b).length = acc (validL l) tag a a.length ++ acc (validL l) tag b b.length := by
    rw [List.length_append]; exact acc_append _ _ _ _ _ (Nat.le_refl _)
  repeat first | refine wk1 ?_ | refine wk2 ?_ | refine wk3 ?_
  refine And.intro (by show 0 + a.length ≤ _; omega) (And.intro (by show (0 + a.length) * 8 ≤ _; omega) ?_)
  repeat first | refine wk1 ?_ | refine wk2 ?_ | refine wk3 ?_
  refine And.intro (by show 0 + a.length + b.length ≤ _; omega) (And.intro (by show (0 + a.length + b.length) * 8 ≤ _; omega) ?_)
  repeat first | refine wk1 ?_ | refine wk2 ?_ | refine wk3 ?_
  refine ⟨(l, tag, a ++ b), EntL.cons (Ent.refl _) (EntL.cons (Ent.refl _) (EntL.cons (ent_cat a b _) EntL.nil)), ⟨hs, by show (a ++ b).length ≤ 100; omega⟩, ?_⟩
  repeat first | refine wk1 ?_ | refine wk2 ?_ | refine wk3 ?_
  refine ⟨(l, tag, a), EntL.refl _, ⟨hs, by show a.length ≤ 100; omega⟩, ?_⟩
  repeat first | refine wk1 ?_ | refine wk2 ?_ | refine wk3 ?_
  refine And.intro (by show 0 + (acc (validL l) tag a a.length).length ≤ _; omega) (And.intro (by show (0 + (acc (validL l) tag a a.length).length) * 8 ≤ _; omega) ?_)
  repeat first | refine wk1 ?_ | refine wk2 ?_ | refine wk3 ?_
  refine ⟨(l, tag, b), EntL.refl _, ⟨hs, by show b.length ≤ 100; omega⟩, ?_⟩
  repeat first | refine wk1 ?_ | refine wk2 ?_ | refine wk3 ?_
  refine And.intro (by show 0 + (acc (validL l) tag a a.length).length + (acc (validL l) tag b b.length).length ≤ _; omega) (And.intro (by show (0 + (acc (validL l) tag a a.length).length + (acc (validL l) tag b b.length).length) * 8 ≤ _; omega) ?_)
  repeat first | refine wk1 ?_ | refine wk2 ?_ | refine wk3 ?_
  refine ⟨(acc (validL l) tag (a ++ b) (a ++ b).length, acc (validL l) tag a a.length ++ acc (validL l) tag b b.length), EntL.cons (Ent.refl _) (EntL.cons (ent_cat _ _ _) EntL.nil), ⟨by show (acc (validL l) tag (a ++ b) (a ++ b).length).length ≤ _; omega, by show (acc (validL l) tag a a.length ++ acc (validL l) tag b b.length).length ≤ _; rw [List.length_append]; omega⟩, ?_⟩
  repeat first | refine wk1 ?_ | refine wk2 ?_ | refine wk3 ?_
  refine ⟨(), EntL.refl _, fun _ => trivial, ?_⟩
  repeat first | refine wk1 ?_ | refine wk2 ?_ | refine wk3 ?_
  refine EntR.bool ?_
  rw [hcat]
  simp
#print axioms lawApplies_ok
#print axioms lawJoins_ok
end Go.Proofs
