import Derived.Test.YtnccclpjcidmeaaGreatDoorS2
namespace Go.Proofs
open Go Go.Sx
variable {mx : Int}
noncomputable def Γsf : Ctx := fun f => match f with
  | 13 => some (.pure ctSmall)
  | 16 => some (.pure ctAlive)
  | 24 => some (.pure ctEqualL)
  | 27 => some (.pure ctGet)
  | 33 => some (.pure ctMakeM)
  | 22 => some (.pure ctSameM)
  | 14 => some (.pure ctCheck)
  | _ => none
theorem Γsf_ok : CtxOk Tryz.prog (GlT mx) Γsf := by
  intro f h hh
  simp only [Γsf] at hh
  split at hh <;> simp at hh <;> subst hh
  · exact rsmall_ok
  · exact alive_ok mx
  · exact requal_ok
  · exact mGet_ok
  · exact mMake_ok
  · exact rSameM_ok
  · exact check_ok
theorem same_pre {a b : List Mp} (ha : smallB a = true) (hb : smallB b = true) : ctSameM.pre (a, b) := by
  obtain ⟨h1, h2⟩ := small_facts ha
  obtain ⟨h3, h4⟩ := small_facts hb
  exact ⟨show a.length ≤ 1000000 by omega, show b.length ≤ 1000000 by omega, fun k hk => by have := (h2 k hk).1; show (a.getD k default).to.length ≤ 1000000; omega, fun k hk => by have := (h4 k hk).1; show (b.getD k default).to.length ≤ 1000000; omega⟩
set_option maxHeartbeats 4000000 in
theorem lawSorts_ok : Sound Tryz.prog (GlT mx) 12 ctLawC := by
  refine sound_by (cc := true) Γsf_ok Tryz.T_ok Tryz.mixed Tryz.func12 rfl (by kernel_rfl) (fun _ => rfl) (fun _ _ => by show 1 ≤ 102; decide) ?_
  intro (l : List Mp) (hl : l.length ≤ 9223372036854775807)
  repeat first | refine wk1 ?_ | refine wk2 ?_ | refine wk3 ?_ | refine wt1 ?_ | refine wt2 ?_ | refine wt3 ?_ | refine wt4 ?_ | refine wn1 ?_ | refine wn2 ?_ | refine wn3 ?_ | refine wn4 ?_ | refine wn5 ?_
  refine ⟨l, EntL.refl _, hl, ?_⟩
  rw [show ctSmall.out l = .v (.bool (smallB l)) from rfl]
  repeat first | refine wk1 ?_ | refine wk2 ?_ | refine wk3 ?_ | refine wt1 ?_ | refine wt2 ?_ | refine wt3 ?_ | refine wt4 ?_ | refine wn1 ?_ | refine wn2 ?_ | refine wn3 ?_ | refine wn4 ?_ | refine wn5 ?_
  refine And.intro (fun h => ?_) (fun h => ?_)
  · repeat first | refine wk1 ?_ | refine wk2 ?_ | refine wk3 ?_ | refine wt1 ?_ | refine wt2 ?_ | refine wt3 ?_ | refine wt4 ?_ | refine wn1 ?_ | refine wn2 ?_ | refine wn3 ?_ | refine wn4 ?_ | refine wn5 ?_
    refine ⟨(), EntL.refl _, trivial, ?_⟩
    repeat first | refine wk1 ?_ | refine wk2 ?_ | refine wk3 ?_ | refine wt1 ?_ | refine wt2 ?_ | refine wt3 ?_ | refine wt4 ?_ | refine wn1 ?_ | refine wn2 ?_ | refine wn3 ?_ | refine wn4 ?_ | refine wn5 ?_
    exact EntR.bool rfl
  have hs : smallB l = true := by simpa using h
  have hsm : smallB (sortM l) = true := small_perm sortM_perm hs
  obtain ⟨hl20, hto⟩ := small_facts hs
  repeat first | refine wk1 ?_ | refine wk2 ?_ | refine wk3 ?_ | refine wt1 ?_ | refine wt2 ?_ | refine wt3 ?_ | refine wt4 ?_ | refine wn1 ?_ | refine wn2 ?_ | refine wn3 ?_ | refine wn4 ?_ | refine wn5 ?_
  refine ⟨l, EntL.refl _, hs, ?_⟩
  by_cases hc : checkE (sortM l) = 0
  · rw [show ctMakeM.out l = .tu [mpsD (sortM l), .v (.int .i64 0)] from if_pos hc]
    have hlen : (sortM l).length = l.length := sortM_len
    have hm2 : ctMakeM.out (sortM l) = .tu [mpsD (sortM l), .v (.int .i64 0)] := by
      show makeD (sortM l) = _
      rw [makeD, sort_twice hc, if_pos hc]
    have hck : ctCheck.out (sortM l) = .v (.int .i64 0) := by show D.v (.int .i64 (checkE (sortM l))) = _; rw [hc]
    have hfs := fun k hk => find_sort hc (k := k) hk
    have hord := check_order hc
    have hsame : ctSameM.out (sortM l, sortM l) = .v (.bool true) := by show D.v (.bool (eqMs (sortM l) (sortM l))) = _; rw [eqMs_iff.2 rfl]
    repeat first | refine wk1 ?_ | refine wk2 ?_ | refine wk3 ?_ | refine wt1 ?_ | refine wt2 ?_ | refine wt3 ?_ | refine wt4 ?_ | refine wn1 ?_ | refine wn2 ?_ | refine wn3 ?_ | refine wn4 ?_ | refine wn5 ?_
    refine ⟨sortM l, EntL.refl _, hsm, ?_⟩
    rw [hm2]
    repeat first | refine wk1 ?_ | refine wk2 ?_ | refine wk3 ?_ | refine wt1 ?_ | refine wt2 ?_ | refine wt3 ?_ | refine wt4 ?_ | refine wn1 ?_ | refine wn2 ?_ | refine wn3 ?_ | refine wn4 ?_ | refine wn5 ?_
    generalize hp : (((sortM l).length : Int) != (l.length : Int)) = p
    cases p with
    | true => rw [hlen] at hp; simp at hp
    | false =>
      repeat first | refine wk1 ?_ | refine wk2 ?_ | refine wk3 ?_ | refine wt1 ?_ | refine wt2 ?_ | refine wt3 ?_ | refine wt4 ?_ | refine wn1 ?_ | refine wn2 ?_ | refine wn3 ?_ | refine wn4 ?_ | refine wn5 ?_
      refine ⟨sortM l, EntL.refl _, small_fit hsm, ?_⟩
      rw [hck]
      repeat first | refine wk1 ?_ | refine wk2 ?_ | refine wk3 ?_ | refine wt1 ?_ | refine wt2 ?_ | refine wt3 ?_ | refine wt4 ?_ | refine wn1 ?_ | refine wn2 ?_ | refine wn3 ?_ | refine wn4 ?_ | refine wn5 ?_
      refine ⟨(sortM l, sortM l), EntL.refl _, same_pre hsm hsm, ?_⟩
      rw [hsame]
      repeat first | refine wk1 ?_ | refine wk2 ?_ | refine wk3 ?_ | refine wt1 ?_ | refine wt2 ?_ | refine wt3 ?_ | refine wt4 ?_ | refine wn1 ?_ | refine wn2 ?_ | refine wn3 ?_ | refine wn4 ?_ | refine wn5 ?_
      refine ⟨0, Nat, fun k => ⟨[(0, mpsD l), (3, mpsD (sortM l)), (7, .v (.int .i64 k))], [], []⟩, fun k => k ≤ l.length, fun k => l.length - k, fun _ => Nat.zero_le _, ⟨0, Nat.zero_le _, StLe.ren [] (by repeat' (first | exact trivial | exact Ent.refl _ | exact rfl | exact Ent.int (by omega) | refine And.intro ?_ ?_)) trivial (by decide)⟩, ?_⟩
      intro k hk
      have hk : k ≤ l.length := hk
      repeat first | refine wk1 ?_ | refine wk2 ?_ | refine wk3 ?_ | refine wt1 ?_ | refine wt2 ?_ | refine wt3 ?_ | refine wt4 ?_ | refine wn1 ?_ | refine wn2 ?_ | refine wn3 ?_ | refine wn4 ?_ | refine wn5 ?_
      refine And.intro (fun h1 => ?_) (fun h1 => ?_)
      · have h1 : k < l.length := by have := of_decide_eq_true h1; omega
        have h65 := (hto k h1).1
        repeat first | refine wk1 ?_ | refine wk2 ?_ | refine wk3 ?_ | refine wt1 ?_ | refine wt2 ?_ | refine wt3 ?_ | refine wt4 ?_ | refine wn1 ?_ | refine wn2 ?_ | refine wn3 ?_ | refine wn4 ?_ | refine wn5 ?_
        refine ⟨(sortM l, (l.getD k default).frm, (l.getD k default).tag), EntL.refl _, fun _ => hsm, ?_⟩
        rw [show ctGet.out (sortM l, (l.getD k default).frm, (l.getD k default).tag) = .tu [slD 1 intD (l.getD k default).to, .v (.bool true)] from by show getD' (findM (validL (sortM l)) (l.getD k default).frm (l.getD k default).tag) = _; rw [hfs k h1]; rfl]
        repeat first | refine wk1 ?_ | refine wk2 ?_ | refine wk3 ?_ | refine wt1 ?_ | refine wt2 ?_ | refine wt3 ?_ | refine wt4 ?_ | refine wn1 ?_ | refine wn2 ?_ | refine wn3 ?_ | refine wn4 ?_ | refine wn5 ?_
        refine ⟨((l.getD k default).to, (l.getD k default).to), EntL.refl _, ⟨by show (l.getD k default).to.length ≤ _; omega, by show (l.getD k default).to.length ≤ _; omega⟩, ?_⟩
        rw [show ctEqualL.out ((l.getD k default).to, (l.getD k default).to) = .v (.bool true) from by simp only [ctEqualL, decide_true]]
        repeat first | refine wk1 ?_ | refine wk2 ?_ | refine wk3 ?_ | refine wt1 ?_ | refine wt2 ?_ | refine wt3 ?_ | refine wt4 ?_ | refine wn1 ?_ | refine wn2 ?_ | refine wn3 ?_ | refine wn4 ?_ | refine wn5 ?_
        exact ⟨k + 1, (show k + 1 ≤ l.length by omega), (show l.length - (k + 1) < l.length - k by omega), StLe.ren [] (by repeat' (first | exact trivial | exact Ent.refl _ | exact rfl | exact Ent.int (by omega) | refine And.intro ?_ ?_)) trivial (by decide)⟩
      · repeat first | refine wk1 ?_ | refine wk2 ?_ | refine wk3 ?_ | refine wt1 ?_ | refine wt2 ?_ | refine wt3 ?_ | refine wt4 ?_ | refine wn1 ?_ | refine wn2 ?_ | refine wn3 ?_ | refine wn4 ?_ | refine wn5 ?_
        refine ⟨l, EntL.refl _, small_fit hs, ?_⟩
        rw [show ctCheck.out l = .v (.int .i64 (checkE l)) from rfl]
        repeat first | refine wk1 ?_ | refine wk2 ?_ | refine wk3 ?_ | refine wt1 ?_ | refine wt2 ?_ | refine wt3 ?_ | refine wt4 ?_ | refine wn1 ?_ | refine wn2 ?_ | refine wn3 ?_ | refine wn4 ?_ | refine wn5 ?_
        refine ⟨(l, sortM l), EntL.refl _, same_pre hs hsm, ?_⟩
        rw [show ctSameM.out (l, sortM l) = .v (.bool (eqMs l (sortM l))) from rfl]
        have hfin : ((checkE l == 4) == !eqMs l (sortM l)) = true := by
          by_cases e : l = sortM l
          · have h4 : ¬ checkE l = 4 := fun hh => hord.1 hh e
            rw [eqMs_iff.2 e]
            have : (checkE l == 4) = false := by simpa using h4
            rw [this]; rfl
          · have h4 := hord.2 e
            rw [eqMs_no e, h4]; rfl
        generalize hb : eqMs l (sortM l) = b at hfin ⊢
        repeat first | refine wk1 ?_ | refine wk2 ?_ | refine wk3 ?_ | refine wt1 ?_ | refine wt2 ?_ | refine wt3 ?_ | refine wt4 ?_ | refine wn1 ?_ | refine wn2 ?_ | refine wn3 ?_ | refine wn4 ?_ | refine wn5 ?_
        generalize hb2 : (checkE l == 4) = b2 at hfin ⊢
        repeat first | refine wk1 ?_ | refine wk2 ?_ | refine wk3 ?_ | refine wt1 ?_ | refine wt2 ?_ | refine wt3 ?_ | refine wt4 ?_ | refine wn1 ?_ | refine wn2 ?_ | refine wn3 ?_ | refine wn4 ?_ | refine wn5 ?_
        generalize hb3 : (b2 == !b) = b3 at hfin ⊢
        subst hfin
        repeat first | refine wk1 ?_ | refine wk2 ?_ | refine wk3 ?_ | refine wt1 ?_ | refine wt2 ?_ | refine wt3 ?_ | refine wt4 ?_ | refine wn1 ?_ | refine wn2 ?_ | refine wn3 ?_ | refine wn4 ?_ | refine wn5 ?_
        refine ⟨(), EntL.refl _, trivial, ?_⟩
        repeat first | refine wk1 ?_ | refine wk2 ?_ | refine wk3 ?_ | refine wt1 ?_ | refine wt2 ?_ | refine wt3 ?_ | refine wt4 ?_ | refine wn1 ?_ | refine wn2 ?_ | refine wn3 ?_ | refine wn4 ?_ | refine wn5 ?_
        exact EntR.bool rfl
  · have hb := sort_bad hc
    rw [show ctMakeM.out l = .tu [nilV, .v (.int .i64 (checkE l))] from by show makeD l = _; rw [makeD, if_neg hc, hb]]
    rw [hb] at hc
    repeat first | refine wk1 ?_ | refine wk2 ?_ | refine wk3 ?_ | refine wt1 ?_ | refine wt2 ?_ | refine wt3 ?_ | refine wt4 ?_ | refine wn1 ?_ | refine wn2 ?_ | refine wn3 ?_ | refine wn4 ?_ | refine wn5 ?_
    refine And.intro (fun _ => ?_) (fun h1 => ?_)
    · repeat first | refine wk1 ?_ | refine wk2 ?_ | refine wk3 ?_ | refine wt1 ?_ | refine wt2 ?_ | refine wt3 ?_ | refine wt4 ?_ | refine wn1 ?_ | refine wn2 ?_ | refine wn3 ?_ | refine wn4 ?_ | refine wn5 ?_
      refine ⟨l, EntL.refl _, small_fit hs, ?_⟩
      rw [show ctCheck.out l = .v (.int .i64 (checkE l)) from rfl]
      repeat first | refine wk1 ?_ | refine wk2 ?_ | refine wk3 ?_ | refine wt1 ?_ | refine wt2 ?_ | refine wt3 ?_ | refine wt4 ?_ | refine wn1 ?_ | refine wn2 ?_ | refine wn3 ?_ | refine wn4 ?_ | refine wn5 ?_
      generalize hp : (checkE l == checkE l) = p
      cases p with
      | false => simp at hp
      | true =>
        repeat first | refine wk1 ?_ | refine wk2 ?_ | refine wk3 ?_ | refine wt1 ?_ | refine wt2 ?_ | refine wt3 ?_ | refine wt4 ?_ | refine wn1 ?_ | refine wn2 ?_ | refine wn3 ?_ | refine wn4 ?_ | refine wn5 ?_
        refine ⟨(), EntL.refl _, trivial, ?_⟩
        repeat first | refine wk1 ?_ | refine wk2 ?_ | refine wk3 ?_ | refine wt1 ?_ | refine wt2 ?_ | refine wt3 ?_ | refine wt4 ?_ | refine wn1 ?_ | refine wn2 ?_ | refine wn3 ?_ | refine wn4 ?_ | refine wn5 ?_
        exact EntR.bool rfl
    · have h1 : (checkE l != 0) = false := h1
      exact absurd (by simpa using h1) hc
#print axioms lawSorts_ok
end Go.Proofs
