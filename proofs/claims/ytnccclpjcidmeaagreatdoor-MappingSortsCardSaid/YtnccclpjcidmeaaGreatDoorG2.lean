import Derived.Test.YtnccclpjcidmeaaGreatDoorG1
namespace Go.Proofs
open Go Go.Sx
variable {mx : Int}
noncomputable def Γgb : Ctx := fun f => match f with
  | 13 => some (.pure ctSmall)
  | 16 => some (.pure ctAlive)
  | 24 => some (.pure ctEqualL)
  | 27 => some (.pure ctGet)
  | 28 => some (.pure ctGetR)
  | 30 => some (.pure ctFrom)
  | 31 => some (.pure ctFrom)
  | 29 => some (.pure ctSameS)
  | 32 => some (.pure ctHas)
  | 25 => some (.pure ctApply)
  | _ => none
theorem Γgb_ok : CtxOk Tryz.prog (GlT mx) Γgb := by
  intro f h hh
  simp only [Γgb] at hh
  split at hh <;> simp at hh <;> subst hh
  · exact rsmall_ok
  · exact alive_ok mx
  · exact requal_ok
  · exact mGet_ok
  · exact rGet_ok
  · exact mFrom_ok
  · exact rFrom_ok
  · exact r2Same_ok
  · exact cpHas_ok
  · exact apply_ok
def ctLawGe : Ct := { ι := List Mp × Int × ByteArray, inp := fun x => [mpsD x.1, .v (.int .i64 x.2.1), .v (.string x.2.2)], out := fun _ => .v (.bool true), pre := fun x => x.1.length ≤ 9223372036854775807 }
theorem fromL_len {l : List Mp} (hs : smallB l = true) (tag : ByteArray) : (fromL l tag).length ≤ 20 := by
  have h1 := fromK_len (validL l) tag (validL l).length
  obtain ⟨h2, _⟩ := validL_to hs
  unfold fromL; omega
theorem ins_len : ∀ {l : List Rg} {r : Rg}, (ins r l).length ≤ l.length + 1
  | [], r => by simp [ins]
  | s :: t, r => by
    simp only [ins]
    split
    · simp
    · split
      · have := ins_len (l := t) (r := r); simp; omega
      · have := ins_len (l := t) (r := (min r.1 s.1, max r.2 s.2)); simp; omega
theorem canon_len : ∀ (l : List Rg), (canon l).length ≤ l.length
  | [] => by simp [canon]
  | r :: l => by
    have h1 := canon_len l
    have h2 := ins_len (l := canon l) (r := clipR r)
    simp only [canon]
    split <;> simp <;> omega
theorem some_len {l : List Mp} (hs : smallB l = true) {c : Int} {tag : ByteArray} {to : List Int} (h : findM (validL l) c tag = some to) : to.length ≤ 65 := find_to (validL_to hs).2 h
set_option maxHeartbeats 2000000 in
theorem lawGets_ok : Sound Tryz.prog (GlT mx) 9 ctLawGe := by
  refine sound_by (cc := true) Γgb_ok Tryz.T_ok Tryz.mixed Tryz.func9 rfl (by kernel_rfl) (fun _ => rfl) (fun _ _ => by show 3 ≤ 54; decide) ?_
  intro ((l : List Mp), (c : Int), (tag : ByteArray)) (hl : l.length ≤ 9223372036854775807)
  repeat first | refine wk1 ?_ | refine wk2 ?_ | refine wk3 ?_ | refine wt1 ?_ | refine wt2 ?_ | refine wt3 ?_ | refine wt4 ?_ | refine wn1 ?_ | refine wn2 ?_ | refine wn3 ?_ | refine wn4 ?_ | refine wn5 ?_
  refine ⟨l, EntL.refl _, hl, ?_⟩
  rw [show ctSmall.out l = .v (.bool (smallB l)) from rfl]
  repeat first | refine wk1 ?_ | refine wk2 ?_ | refine wk3 ?_ | refine wt1 ?_ | refine wt2 ?_ | refine wt3 ?_ | refine wt4 ?_ | refine wn1 ?_ | refine wn2 ?_ | refine wn3 ?_ | refine wn4 ?_ | refine wn5 ?_
  generalize hs : smallB l = sm
  cases sm with
  | false =>
    repeat first | refine wk1 ?_ | refine wk2 ?_ | refine wk3 ?_ | refine wt1 ?_ | refine wt2 ?_ | refine wt3 ?_ | refine wt4 ?_ | refine wn1 ?_ | refine wn2 ?_ | refine wn3 ?_ | refine wn4 ?_ | refine wn5 ?_
    refine ⟨(), EntL.refl _, trivial, ?_⟩
    repeat first | refine wk1 ?_ | refine wk2 ?_ | refine wk3 ?_ | refine wt1 ?_ | refine wt2 ?_ | refine wt3 ?_ | refine wt4 ?_ | refine wn1 ?_ | refine wn2 ?_ | refine wn3 ?_ | refine wn4 ?_ | refine wn5 ?_
    exact EntR.bool rfl
  | true =>
    repeat first | refine wk1 ?_ | refine wk2 ?_ | refine wk3 ?_ | refine wt1 ?_ | refine wt2 ?_ | refine wt3 ?_ | refine wt4 ?_ | refine wn1 ?_ | refine wn2 ?_ | refine wn3 ?_ | refine wn4 ?_ | refine wn5 ?_
    refine And.intro (fun h => ?_) (fun h => ?_)
    · repeat first | refine wk1 ?_ | refine wk2 ?_ | refine wk3 ?_ | refine wt1 ?_ | refine wt2 ?_ | refine wt3 ?_ | refine wt4 ?_ | refine wn1 ?_ | refine wn2 ?_ | refine wn3 ?_ | refine wn4 ?_ | refine wn5 ?_
      refine ⟨(), EntL.refl _, trivial, ?_⟩
      repeat first | refine wk1 ?_ | refine wk2 ?_ | refine wk3 ?_ | refine wt1 ?_ | refine wt2 ?_ | refine wt3 ?_ | refine wt4 ?_ | refine wn1 ?_ | refine wn2 ?_ | refine wn3 ?_ | refine wn4 ?_ | refine wn5 ?_
      exact EntR.bool rfl
    have hcl := canon_len (fromL l tag)
    have hfl := fromL_len hs tag
    repeat first | refine wk1 ?_ | refine wk2 ?_ | refine wk3 ?_ | refine wt1 ?_ | refine wt2 ?_ | refine wt3 ?_ | refine wt4 ?_ | refine wn1 ?_ | refine wn2 ?_ | refine wn3 ?_ | refine wn4 ?_ | refine wn5 ?_
    refine ⟨(l, c, tag), EntL.refl _, hs, ?_⟩
    rw [show ctGet.out (l, c, tag) = getD' (findM (validL l) c tag) from rfl]
    cases hr : findM (validL l) c tag with
    | none =>
      repeat first | refine wk1 ?_ | refine wk2 ?_ | refine wk3 ?_ | refine wt1 ?_ | refine wt2 ?_ | refine wt3 ?_ | refine wt4 ?_ | refine wn1 ?_ | refine wn2 ?_ | refine wn3 ?_ | refine wn4 ?_ | refine wn5 ?_
      refine ⟨(l, c, tag), EntL.refl _, hs, ?_⟩
      rw [show ctGetR.out (l, c, tag) = findD (findM (validL l) c tag) from rfl, hr]
      repeat first | refine wk1 ?_ | refine wk2 ?_ | refine wk3 ?_ | refine wt1 ?_ | refine wt2 ?_ | refine wt3 ?_ | refine wt4 ?_ | refine wn1 ?_ | refine wn2 ?_ | refine wn3 ?_ | refine wn4 ?_ | refine wn5 ?_
      refine ⟨([], []), EntL.cons Ent.nil (EntL.refl _), ⟨by decide, by decide⟩, ?_⟩
      repeat first | refine wk1 ?_ | refine wk2 ?_ | refine wk3 ?_ | refine wt1 ?_ | refine wt2 ?_ | refine wt3 ?_ | refine wt4 ?_ | refine wn1 ?_ | refine wn2 ?_ | refine wn3 ?_ | refine wn4 ?_ | refine wn5 ?_
      refine ⟨(l, tag), EntL.refl _, hs, ?_⟩
      repeat first | refine wk1 ?_ | refine wk2 ?_ | refine wk3 ?_ | refine wt1 ?_ | refine wt2 ?_ | refine wt3 ?_ | refine wt4 ?_ | refine wn1 ?_ | refine wn2 ?_ | refine wn3 ?_ | refine wn4 ?_ | refine wn5 ?_
      refine ⟨(l, tag), EntL.refl _, hs, ?_⟩
      repeat first | refine wk1 ?_ | refine wk2 ?_ | refine wk3 ?_ | refine wt1 ?_ | refine wt2 ?_ | refine wt3 ?_ | refine wt4 ?_ | refine wn1 ?_ | refine wn2 ?_ | refine wn3 ?_ | refine wn4 ?_ | refine wn5 ?_
      refine ⟨(canon (fromL l tag), canon (fromL l tag)), EntL.refl _, ⟨show (canon (fromL l tag)).length ≤ 1000000 by omega, show (canon (fromL l tag)).length ≤ 1000000 by omega⟩, ?_⟩
      rw [show ctSameS.out (canon (fromL l tag), canon (fromL l tag)) = .v (.bool true) from by simp [ctSameS]]
      repeat first | refine wk1 ?_ | refine wk2 ?_ | refine wk3 ?_ | refine wt1 ?_ | refine wt2 ?_ | refine wt3 ?_ | refine wt4 ?_ | refine wn1 ?_ | refine wn2 ?_ | refine wn3 ?_ | refine wn4 ?_ | refine wn5 ?_
      refine ⟨(), EntL.refl _, trivial, ?_⟩
      repeat first | refine wk1 ?_ | refine wk2 ?_ | refine wk3 ?_ | refine wt1 ?_ | refine wt2 ?_ | refine wt3 ?_ | refine wt4 ?_ | refine wn1 ?_ | refine wn2 ?_ | refine wn3 ?_ | refine wn4 ?_ | refine wn5 ?_
      exact EntR.bool rfl
    | some to =>
      have hto := some_len hs hr
      repeat first | refine wk1 ?_ | refine wk2 ?_ | refine wk3 ?_ | refine wt1 ?_ | refine wt2 ?_ | refine wt3 ?_ | refine wt4 ?_ | refine wn1 ?_ | refine wn2 ?_ | refine wn3 ?_ | refine wn4 ?_ | refine wn5 ?_
      refine ⟨(l, c, tag), EntL.refl _, hs, ?_⟩
      rw [show ctGetR.out (l, c, tag) = findD (findM (validL l) c tag) from rfl, hr]
      repeat first | refine wk1 ?_ | refine wk2 ?_ | refine wk3 ?_ | refine wt1 ?_ | refine wt2 ?_ | refine wt3 ?_ | refine wt4 ?_ | refine wn1 ?_ | refine wn2 ?_ | refine wn3 ?_ | refine wn4 ?_ | refine wn5 ?_
      refine ⟨(to, to), EntL.refl _, ⟨show to.length ≤ _ by omega, show to.length ≤ _ by omega⟩, ?_⟩
      rw [show ctEqualL.out (to, to) = .v (.bool true) from by simp [ctEqualL]]
      repeat first | refine wk1 ?_ | refine wk2 ?_ | refine wk3 ?_ | refine wt1 ?_ | refine wt2 ?_ | refine wt3 ?_ | refine wt4 ?_ | refine wn1 ?_ | refine wn2 ?_ | refine wn3 ?_ | refine wn4 ?_ | refine wn5 ?_
      refine ⟨(l, tag), EntL.refl _, hs, ?_⟩
      repeat first | refine wk1 ?_ | refine wk2 ?_ | refine wk3 ?_ | refine wt1 ?_ | refine wt2 ?_ | refine wt3 ?_ | refine wt4 ?_ | refine wn1 ?_ | refine wn2 ?_ | refine wn3 ?_ | refine wn4 ?_ | refine wn5 ?_
      refine ⟨(l, tag), EntL.refl _, hs, ?_⟩
      repeat first | refine wk1 ?_ | refine wk2 ?_ | refine wk3 ?_ | refine wt1 ?_ | refine wt2 ?_ | refine wt3 ?_ | refine wt4 ?_ | refine wn1 ?_ | refine wn2 ?_ | refine wn3 ?_ | refine wn4 ?_ | refine wn5 ?_
      refine ⟨(canon (fromL l tag), canon (fromL l tag)), EntL.refl _, ⟨show (canon (fromL l tag)).length ≤ 1000000 by omega, show (canon (fromL l tag)).length ≤ 1000000 by omega⟩, ?_⟩
      rw [show ctSameS.out (canon (fromL l tag), canon (fromL l tag)) = .v (.bool true) from by simp [ctSameS]]
      repeat first | refine wk1 ?_ | refine wk2 ?_ | refine wk3 ?_ | refine wt1 ?_ | refine wt2 ?_ | refine wt3 ?_ | refine wt4 ?_ | refine wn1 ?_ | refine wn2 ?_ | refine wn3 ?_ | refine wn4 ?_ | refine wn5 ?_
      refine ⟨(), EntL.refl _, trivial, ?_⟩
      repeat first | refine wk1 ?_ | refine wk2 ?_ | refine wk3 ?_ | refine wt1 ?_ | refine wt2 ?_ | refine wt3 ?_ | refine wt4 ?_ | refine wn1 ?_ | refine wn2 ?_ | refine wn3 ?_ | refine wn4 ?_ | refine wn5 ?_
      exact EntR.bool rfl
theorem find_iff {v : List Mp} {c : Int} {tag : ByteArray} : (findM v c tag).isSome = true ↔ ∃ j, j < v.length ∧ (v.getD j default).frm = c ∧ (v.getD j default).tag = tag := by
  have hh : ∀ m : Mp, hitB m c tag = true ↔ m.frm = c ∧ m.tag = tag := fun m => by
    rw [← hit_key]; simp [keyK]; constructor
    · rintro ⟨h1, h2⟩; exact ⟨h1.symm, h2.symm⟩
    · rintro ⟨h1, h2⟩; exact ⟨h1.symm, h2.symm⟩
  constructor
  · intro h
    obtain ⟨to, hto⟩ := Option.isSome_iff_exists.1 h
    simp only [findM, Option.map_eq_some_iff] at hto
    obtain ⟨m, hm, _⟩ := hto
    have h1 := List.find?_some hm
    obtain ⟨i, hi, rfl⟩ := List.getElem_of_mem (List.mem_of_find?_eq_some hm)
    have e : v.getD i default = v[i] := by simp [List.getD_eq_getElem?_getD, hi]
    exact ⟨i, hi, by rw [e]; exact (hh _).1 h1⟩
  · rintro ⟨j, hj, h1⟩
    cases hf : findM v c tag with
    | some to => rfl
    | none =>
      simp only [findM, Option.map_eq_none_iff, List.find?_eq_none] at hf
      have e : v.getD j default = v[j] := by simp [List.getD_eq_getElem?_getD, hj]
      rw [e] at h1
      exact absurd ((hh _).2 h1) (hf _ (List.getElem_mem _))
theorem from_has {l : List Mp} (c : Int) (tag : ByteArray) : hasB (canon (fromL l tag)) c = (findM (validL l) c tag).isSome := by
  rw [Bool.eq_iff_iff, hasB_iff, find_iff, canon_mem]
  have key : inR (fromL l tag) c ↔ ∃ j, j < (validL l).length ∧ ((validL l).getD j default).frm = c ∧ ((validL l).getD j default).tag = tag := by
    unfold inR fromL
    constructor
    · rintro ⟨r, hr, h1⟩
      obtain ⟨j, hj, ht, rfl⟩ := (fromK_mem _ _ _).1 hr
      exact ⟨j, hj, by simp only at h1; omega, ht⟩
    · rintro ⟨j, hj, h1, ht⟩
      exact ⟨_, (fromK_mem _ _ _).2 ⟨j, hj, ht, rfl⟩, by simp only; omega⟩
  rw [key]
  constructor
  · rintro ⟨_, _, h⟩; exact h
  · rintro ⟨j, hj, h1, h2⟩
    have hv : 0 ≤ c ∧ c ≤ 1114111 := by
      by_cases hc : checkE l = 0
      · have e : validL l = l := by simp [validL, hc]
        rw [e] at hj h1
        rw [← h1]; exact (valid_asc hc).2 j hj
      · have e : validL l = [] := by
          have : (checkE l != 0) = true := by simpa using hc
          simp [validL, this]
        rw [e] at hj; simp at hj
    exact ⟨hv, hv, j, hj, h1, h2⟩
set_option maxHeartbeats 2000000 in
theorem lawPoints_ok : Sound Tryz.prog (GlT mx) 10 ctLawGe := by
  refine sound_by (cc := true) Γgb_ok Tryz.T_ok Tryz.mixed Tryz.func10 rfl (by kernel_rfl) (fun _ => rfl) (fun _ _ => by show 3 ≤ 47; decide) ?_
  intro ((l : List Mp), (c : Int), (tag : ByteArray)) (hl : l.length ≤ 9223372036854775807)
  repeat first | refine wk1 ?_ | refine wk2 ?_ | refine wk3 ?_ | refine wt1 ?_ | refine wt2 ?_ | refine wt3 ?_ | refine wt4 ?_ | refine wn1 ?_ | refine wn2 ?_ | refine wn3 ?_ | refine wn4 ?_ | refine wn5 ?_
  refine ⟨l, EntL.refl _, hl, ?_⟩
  rw [show ctSmall.out l = .v (.bool (smallB l)) from rfl]
  repeat first | refine wk1 ?_ | refine wk2 ?_ | refine wk3 ?_ | refine wt1 ?_ | refine wt2 ?_ | refine wt3 ?_ | refine wt4 ?_ | refine wn1 ?_ | refine wn2 ?_ | refine wn3 ?_ | refine wn4 ?_ | refine wn5 ?_
  refine And.intro (fun h => ?_) (fun h => ?_)
  · repeat first | refine wk1 ?_ | refine wk2 ?_ | refine wk3 ?_ | refine wt1 ?_ | refine wt2 ?_ | refine wt3 ?_ | refine wt4 ?_ | refine wn1 ?_ | refine wn2 ?_ | refine wn3 ?_ | refine wn4 ?_ | refine wn5 ?_
    refine ⟨(), EntL.refl _, trivial, ?_⟩
    repeat first | refine wk1 ?_ | refine wk2 ?_ | refine wk3 ?_ | refine wt1 ?_ | refine wt2 ?_ | refine wt3 ?_ | refine wt4 ?_ | refine wn1 ?_ | refine wn2 ?_ | refine wn3 ?_ | refine wn4 ?_ | refine wn5 ?_
    exact EntR.bool rfl
  have hs : smallB l = true := by simpa using h
  have hcl := canon_len (fromL l tag)
  have hfl := fromL_len hs tag
  have hacc : acc (validL l) tag [c] 1 = oneA (validL l) tag c := by simp [acc]
  have hhas := from_has (l := l) c tag
  repeat first | refine wk1 ?_ | refine wk2 ?_ | refine wk3 ?_ | refine wt1 ?_ | refine wt2 ?_ | refine wt3 ?_ | refine wt4 ?_ | refine wn1 ?_ | refine wn2 ?_ | refine wn3 ?_ | refine wn4 ?_ | refine wn5 ?_
  refine ⟨(l, c, tag), EntL.refl _, hs, ?_⟩
  rw [show ctGet.out (l, c, tag) = getD' (findM (validL l) c tag) from rfl]
  cases hr : findM (validL l) c tag with
  | none =>
    rw [hr] at hhas
    have ho : oneA (validL l) tag c = [c] := by simp [oneA, hr]
    repeat first | refine wk1 ?_ | refine wk2 ?_ | refine wk3 ?_ | refine wt1 ?_ | refine wt2 ?_ | refine wt3 ?_ | refine wt4 ?_ | refine wn1 ?_ | refine wn2 ?_ | refine wn3 ?_ | refine wn4 ?_ | refine wn5 ?_
    refine ⟨(l, tag, [c]), EntL.cons (Ent.refl _) (EntL.cons (Ent.refl _) (EntL.cons (Ent.sl rfl fun i hi j hj => Ent.of_eq (oneF_eq c hi hj)) EntL.nil)), ⟨hs, by show ([c] : List Int).length ≤ 100; simp⟩, ?_⟩
    rw [show ctApply.out (l, tag, [c]) = slD 1 intD [c] from by show slD 1 intD (acc (validL l) tag [c] 1) = _; rw [hacc, ho]]
    repeat first | refine wk1 ?_ | refine wk2 ?_ | refine wk3 ?_ | refine wt1 ?_ | refine wt2 ?_ | refine wt3 ?_ | refine wt4 ?_ | refine wn1 ?_ | refine wn2 ?_ | refine wn3 ?_ | refine wn4 ?_ | refine wn5 ?_
    refine ⟨([c], [c]), EntL.cons (Ent.refl _) (EntL.cons (Ent.sl rfl fun i hi j hj => Ent.of_eq (oneF_eq c hi hj)) EntL.nil), ⟨by show ([c] : List Int).length ≤ _; simp, by show ([c] : List Int).length ≤ _; simp⟩, ?_⟩
    rw [show ctEqualL.out ([c], [c]) = .v (.bool true) from by simp [ctEqualL]]
    repeat first | refine wk1 ?_ | refine wk2 ?_ | refine wk3 ?_ | refine wt1 ?_ | refine wt2 ?_ | refine wt3 ?_ | refine wt4 ?_ | refine wn1 ?_ | refine wn2 ?_ | refine wn3 ?_ | refine wn4 ?_ | refine wn5 ?_
    refine ⟨(l, tag), EntL.refl _, hs, ?_⟩
    repeat first | refine wk1 ?_ | refine wk2 ?_ | refine wk3 ?_ | refine wt1 ?_ | refine wt2 ?_ | refine wt3 ?_ | refine wt4 ?_ | refine wn1 ?_ | refine wn2 ?_ | refine wn3 ?_ | refine wn4 ?_ | refine wn5 ?_
    refine ⟨(canon (fromL l tag), c), EntL.refl _, (show (canon (fromL l tag)).length ≤ 1000000 by omega), ?_⟩
    rw [show ctHas.out (canon (fromL l tag), c) = .v (.bool false) from by show D.v (.bool (hasB (canon (fromL l tag)) c)) = _; rw [hhas]; rfl]
    repeat first | refine wk1 ?_ | refine wk2 ?_ | refine wk3 ?_ | refine wt1 ?_ | refine wt2 ?_ | refine wt3 ?_ | refine wt4 ?_ | refine wn1 ?_ | refine wn2 ?_ | refine wn3 ?_ | refine wn4 ?_ | refine wn5 ?_
    refine ⟨(), EntL.refl _, trivial, ?_⟩
    repeat first | refine wk1 ?_ | refine wk2 ?_ | refine wk3 ?_ | refine wt1 ?_ | refine wt2 ?_ | refine wt3 ?_ | refine wt4 ?_ | refine wn1 ?_ | refine wn2 ?_ | refine wn3 ?_ | refine wn4 ?_ | refine wn5 ?_
    exact EntR.bool rfl
  | some to =>
    rw [hr] at hhas
    have hto := some_len hs hr
    have ho : oneA (validL l) tag c = to := by simp [oneA, hr]
    repeat first | refine wk1 ?_ | refine wk2 ?_ | refine wk3 ?_ | refine wt1 ?_ | refine wt2 ?_ | refine wt3 ?_ | refine wt4 ?_ | refine wn1 ?_ | refine wn2 ?_ | refine wn3 ?_ | refine wn4 ?_ | refine wn5 ?_
    refine ⟨(l, tag, [c]), EntL.cons (Ent.refl _) (EntL.cons (Ent.refl _) (EntL.cons (Ent.sl rfl fun i hi j hj => Ent.of_eq (oneF_eq c hi hj)) EntL.nil)), ⟨hs, by show ([c] : List Int).length ≤ 100; simp⟩, ?_⟩
    rw [show ctApply.out (l, tag, [c]) = slD 1 intD to from by show slD 1 intD (acc (validL l) tag [c] 1) = _; rw [hacc, ho]]
    repeat first | refine wk1 ?_ | refine wk2 ?_ | refine wk3 ?_ | refine wt1 ?_ | refine wt2 ?_ | refine wt3 ?_ | refine wt4 ?_ | refine wn1 ?_ | refine wn2 ?_ | refine wn3 ?_ | refine wn4 ?_ | refine wn5 ?_
    refine ⟨(to, to), EntL.refl _, ⟨show to.length ≤ _ by omega, show to.length ≤ _ by omega⟩, ?_⟩
    rw [show ctEqualL.out (to, to) = .v (.bool true) from by simp [ctEqualL]]
    repeat first | refine wk1 ?_ | refine wk2 ?_ | refine wk3 ?_ | refine wt1 ?_ | refine wt2 ?_ | refine wt3 ?_ | refine wt4 ?_ | refine wn1 ?_ | refine wn2 ?_ | refine wn3 ?_ | refine wn4 ?_ | refine wn5 ?_
    refine ⟨(l, tag), EntL.refl _, hs, ?_⟩
    repeat first | refine wk1 ?_ | refine wk2 ?_ | refine wk3 ?_ | refine wt1 ?_ | refine wt2 ?_ | refine wt3 ?_ | refine wt4 ?_ | refine wn1 ?_ | refine wn2 ?_ | refine wn3 ?_ | refine wn4 ?_ | refine wn5 ?_
    refine ⟨(canon (fromL l tag), c), EntL.refl _, (show (canon (fromL l tag)).length ≤ 1000000 by omega), ?_⟩
    rw [show ctHas.out (canon (fromL l tag), c) = .v (.bool true) from by show D.v (.bool (hasB (canon (fromL l tag)) c)) = _; rw [hhas]; rfl]
    repeat first | refine wk1 ?_ | refine wk2 ?_ | refine wk3 ?_ | refine wt1 ?_ | refine wt2 ?_ | refine wt3 ?_ | refine wt4 ?_ | refine wn1 ?_ | refine wn2 ?_ | refine wn3 ?_ | refine wn4 ?_ | refine wn5 ?_
    refine ⟨(), EntL.refl _, trivial, ?_⟩
    repeat first | refine wk1 ?_ | refine wk2 ?_ | refine wk3 ?_ | refine wt1 ?_ | refine wt2 ?_ | refine wt3 ?_ | refine wt4 ?_ | refine wn1 ?_ | refine wn2 ?_ | refine wn3 ?_ | refine wn4 ?_ | refine wn5 ?_
    exact EntR.bool rfl
#print axioms lawGets_ok
#print axioms lawPoints_ok
end Go.Proofs
