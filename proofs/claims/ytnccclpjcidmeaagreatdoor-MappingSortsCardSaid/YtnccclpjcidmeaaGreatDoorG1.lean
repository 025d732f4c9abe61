import Derived.Test.YtnccclpjcidmeaaGreatDoorC2
import Derived.Test.YtnccclpjcidmeaaGreatDoorA4
namespace Go.Proofs
open Go Go.Sx
variable {mx : Int}

/-! slices.Clone of numbers -/
def ctCloneI : Ct := { ι := List Int, inp := fun l => [slD 1 intD l], out := fun l => slD 1 intD l, pre := fun l => l.length ≤ 1000000000 }
theorem cloneI_ok : Sound Tryz.prog (GlT mx) 47 ctCloneI := by
  refine sound_by (cc := true) Γ0_ok Tryz.T_ok Tryz.mixed Tryz.func47 rfl (by kernel_rfl) (fun _ => rfl) (fun _ _ => by show 1 ≤ 8; decide) ?_
  intro (l : List Int) (hl : l.length ≤ 1000000000)
  repeat first | refine wk1 ?_ | refine wk2 ?_ | refine wk3 ?_ | refine wt1 ?_ | refine wt2 ?_ | refine wt3 ?_ | refine wt4 ?_ | refine wn1 ?_ | refine wn2 ?_ | refine wn3 ?_ | refine wn4 ?_ | refine wn5 ?_
  intro q hq
  repeat first | refine wk1 ?_ | refine wk2 ?_ | refine wk3 ?_ | refine wt1 ?_ | refine wt2 ?_ | refine wt3 ?_ | refine wt4 ?_ | refine wn1 ?_ | refine wn2 ?_ | refine wn3 ?_ | refine wn4 ?_ | refine wn5 ?_
  refine And.intro (fun h => ?_) (fun h => ?_)
  · have hq : l.length = 0 := hq (by simpa using h)
    have e : l = [] := List.length_eq_zero_iff.1 hq
    subst e
    repeat first | refine wk1 ?_ | refine wk2 ?_ | refine wk3 ?_ | refine wt1 ?_ | refine wt2 ?_ | refine wt3 ?_ | refine wt4 ?_ | refine wn1 ?_ | refine wn2 ?_ | refine wn3 ?_ | refine wn4 ?_ | refine wn5 ?_
    exact EntR.of rfl Ent.nil
  · repeat first | refine wk1 ?_ | refine wk2 ?_ | refine wk3 ?_ | refine wt1 ?_ | refine wt2 ?_ | refine wt3 ?_ | refine wt4 ?_ | refine wn1 ?_ | refine wn2 ?_ | refine wn3 ?_ | refine wn4 ?_ | refine wn5 ?_
    refine And.intro (show 0 + l.length ≤ _ by omega) (And.intro (show (0 + l.length) * 8 ≤ _ by omega) ?_)
    repeat first | refine wk1 ?_ | refine wk2 ?_ | refine wk3 ?_ | refine wt1 ?_ | refine wt2 ?_ | refine wt3 ?_ | refine wt4 ?_ | refine wn1 ?_ | refine wn2 ?_ | refine wn3 ?_ | refine wn4 ?_ | refine wn5 ?_
    refine EntR.of rfl (Ent.sl (show 0 + l.length = l.length by omega) fun i hi j hj => Ent.of_eq ?_)
    exact cat0 l _ i j

/-! Get -/
def getD' : Option (List Int) → D
  | none => .tu [nilV, .v (.bool false)]
  | some to => .tu [slD 1 intD to, .v (.bool true)]
theorem getD'_pd (r : Option (List Int)) : pd (getD' r) = true := by cases r <;> rfl
theorem hit_of (m : Mp) (c : Int) (tag : ByteArray) : (decide (m.frm = c) && (@decide (m.tag = tag) (baDec _ _) && true)) = hitB m c tag := by
  unfold hitB eqB
  by_cases h : m.frm = c
  · simp [h]
  · have h2 : (m.frm == c) = false := by simpa using h
    rw [h2]; simp [h]
noncomputable def ctGet : Ct := { ι := List Mp × Int × ByteArray, inp := fun x => [mpsD x.1, .v (.int .i64 x.2.1), .v (.string x.2.2)], out := fun x => getD' (findM (validL x.1) x.2.1 x.2.2), pre := fun x => smallB x.1 = true }
noncomputable def Γga : Ctx := fun f => match f with
  | 14 => some (.pure ctCheck)
  | 37 => some (.pure ctKeyOf)
  | 47 => some (.pure ctCloneI)
  | 53 => some (.pure ctValidL)
  | 54 => some (.pure ctFind)
  | 55 => some (.pure ctMake)
  | 56 => some (.pure ctMakeR)
  | _ => none
theorem Γga_ok : CtxOk Tryz.prog (GlT mx) Γga := by
  intro f h hh
  simp only [Γga] at hh
  split at hh <;> simp at hh <;> subst hh
  · exact check_ok
  · exact keyOf_ok
  · exact cloneI_ok
  · exact rvalidL_ok
  · exact rfind_ok
  · exact cpMake_ok
  · exact r2Make_ok
set_option maxHeartbeats 1000000 in
theorem mGet_ok : Sound Tryz.prog (GlT mx) 27 ctGet := by
  refine sound_by (cc := true) Γga_ok Tryz.T_ok Tryz.mixed Tryz.func27 rfl (by kernel_rfl) (fun _ => rfl) (fun _ _ => by show 3 ≤ 31; decide) ?_
  intro ((l : List Mp), (c : Int), (tag : ByteArray)) (hs : smallB l = true)
  obtain ⟨hl20, hsm⟩ := small_facts hs
  repeat first | refine wk1 ?_ | refine wk2 ?_ | refine wk3 ?_ | refine wt1 ?_ | refine wt2 ?_ | refine wt3 ?_ | refine wt4 ?_ | refine wn1 ?_ | refine wn2 ?_ | refine wn3 ?_ | refine wn4 ?_ | refine wn5 ?_
  refine ⟨l, EntL.refl _, small_fit hs, ?_⟩
  repeat first | refine wk1 ?_ | refine wk2 ?_ | refine wk3 ?_ | refine wt1 ?_ | refine wt2 ?_ | refine wt3 ?_ | refine wt4 ?_ | refine wn1 ?_ | refine wn2 ?_ | refine wn3 ?_ | refine wn4 ?_ | refine wn5 ?_
  refine And.intro (fun hc => ?_) (fun hc => ?_)
  · have hc : (checkE l != 0) = true := hc
    have hv : validL l = [] := by simp only [validL, hc, cond_true]
    repeat first | refine wk1 ?_ | refine wk2 ?_ | refine wk3 ?_ | refine wt1 ?_ | refine wt2 ?_ | refine wt3 ?_ | refine wt4 ?_ | refine wn1 ?_ | refine wn2 ?_ | refine wn3 ?_ | refine wn4 ?_ | refine wn5 ?_
    refine EntR.of (getD'_pd _) ?_
    show Ent _ (getD' (findM (validL l) c tag))
    rw [hv]
    exact Ent.refl _
  have hc : (checkE l != 0) = false := hc
  have hv : validL l = l := by simp only [validL, hc, cond_false]
  repeat first | refine wk1 ?_ | refine wk2 ?_ | refine wk3 ?_ | refine wt1 ?_ | refine wt2 ?_ | refine wt3 ?_ | refine wt4 ?_ | refine wn1 ?_ | refine wn2 ?_ | refine wn3 ?_ | refine wn4 ?_ | refine wn5 ?_
  refine ⟨0, Nat, fun k => ⟨[(8, .own 0 0), (17, mpsD l), (18, .v (.int .i64 l.length)), (19, .v (.int .i64 k))], [.cells 60 [.v (.int .i64 c), .v (.string tag)]], []⟩, fun k => k ≤ l.length ∧ ∀ j, j < k → hitB (l.getD j default) c tag = false, fun k => l.length - k, fun _ => Nat.zero_le _, ⟨0, ⟨Nat.zero_le _, fun j hj => by omega⟩, StLe.ren [0] (by repeat' (first | exact trivial | exact Ent.refl _ | exact rfl | exact Ent.int (by omega) | refine And.intro ?_ ?_)) ⟨⟨rfl, EntL.refl _, rfl⟩, trivial⟩ (by decide)⟩, ?_⟩
  rintro k ⟨hk, hd⟩
  repeat first | refine wk1 ?_ | refine wk2 ?_ | refine wk3 ?_ | refine wt1 ?_ | refine wt2 ?_ | refine wt3 ?_ | refine wt4 ?_ | refine wn1 ?_ | refine wn2 ?_ | refine wn3 ?_ | refine wn4 ?_ | refine wn5 ?_
  refine And.intro (fun h => ?_) (fun h => ?_)
  · have h : k < l.length := by have := of_decide_eq_true h; omega
    have h65 := (hsm k h).1
    repeat first | refine wk1 ?_ | refine wk2 ?_ | refine wk3 ?_ | refine wt1 ?_ | refine wt2 ?_ | refine wt3 ?_ | refine wt4 ?_ | refine wn1 ?_ | refine wn2 ?_ | refine wn3 ?_ | refine wn4 ?_ | refine wn5 ?_
    refine ⟨l.getD k default, EntL.refl _, fun _ => trivial, ?_⟩
    repeat first | refine wk1 ?_ | refine wk2 ?_ | refine wk3 ?_ | refine wt1 ?_ | refine wt2 ?_ | refine wt3 ?_ | refine wt4 ?_ | refine wn1 ?_ | refine wn2 ?_ | refine wn3 ?_ | refine wn4 ?_ | refine wn5 ?_
    refine And.intro (fun h1 => ?_) (fun h1 => ?_)
    · have h1 := (hit_of (l.getD k default) c tag).symm.trans h1
      repeat first | refine wk1 ?_ | refine wk2 ?_ | refine wk3 ?_ | refine wt1 ?_ | refine wt2 ?_ | refine wt3 ?_ | refine wt4 ?_ | refine wn1 ?_ | refine wn2 ?_ | refine wn3 ?_ | refine wn4 ?_ | refine wn5 ?_
      refine ⟨(l.getD k default).to, EntL.refl _, (show (l.getD k default).to.length ≤ 1000000000 by omega), ?_⟩
      repeat first | refine wk1 ?_ | refine wk2 ?_ | refine wk3 ?_ | refine wt1 ?_ | refine wt2 ?_ | refine wt3 ?_ | refine wt4 ?_ | refine wn1 ?_ | refine wn2 ?_ | refine wn3 ?_ | refine wn4 ?_ | refine wn5 ?_
      refine EntR.of (getD'_pd _) ?_
      show Ent _ (getD' (findM (validL l) c tag))
      rw [hv, find_at h hd h1]
      exact Ent.refl _
    · have h1 := (hit_of (l.getD k default) c tag).symm.trans h1
      repeat first | refine wk1 ?_ | refine wk2 ?_ | refine wk3 ?_ | refine wt1 ?_ | refine wt2 ?_ | refine wt3 ?_ | refine wt4 ?_ | refine wn1 ?_ | refine wn2 ?_ | refine wn3 ?_ | refine wn4 ?_ | refine wn5 ?_
      exact ⟨k + 1, ⟨by omega, next_of hd h1⟩, (show l.length - (k + 1) < l.length - k by omega), StLe.ren [0] (by repeat' (first | exact trivial | exact Ent.refl _ | exact rfl | exact Ent.int (by omega) | refine And.intro ?_ ?_)) ⟨⟨rfl, EntL.refl _, rfl⟩, trivial⟩ (by decide)⟩
  · have h : k = l.length := by have := of_decide_eq_false h; omega
    subst h
    repeat first | refine wk1 ?_ | refine wk2 ?_ | refine wk3 ?_ | refine wt1 ?_ | refine wt2 ?_ | refine wt3 ?_ | refine wt4 ?_ | refine wn1 ?_ | refine wn2 ?_ | refine wn3 ?_ | refine wn4 ?_ | refine wn5 ?_
    refine EntR.of (getD'_pd _) ?_
    show Ent _ (getD' (findM (validL l) c tag))
    rw [hv, find_no hd]
    exact Ent.refl _
noncomputable def ctGetR : Ct := { ι := List Mp × Int × ByteArray, inp := fun x => [mpsD x.1, .v (.int .i64 x.2.1), .v (.string x.2.2)], out := fun x => findD (findM (validL x.1) x.2.1 x.2.2), pre := fun x => smallB x.1 = true }
theorem rGet_ok : Sound Tryz.prog (GlT mx) 28 ctGetR := by
  refine sound_by (cc := true) Γga_ok Tryz.T_ok Tryz.mixed Tryz.func28 rfl (by kernel_rfl) (fun _ => rfl) (fun _ _ => by show 3 ≤ 15; decide) ?_
  intro ((l : List Mp), (c : Int), (tag : ByteArray)) (hs : smallB l = true)
  obtain ⟨hv20, hv65⟩ := validL_to hs
  repeat first | refine wk1 ?_ | refine wk2 ?_ | refine wk3 ?_ | refine wt1 ?_ | refine wt2 ?_ | refine wt3 ?_ | refine wt4 ?_ | refine wn1 ?_ | refine wn2 ?_ | refine wn3 ?_ | refine wn4 ?_ | refine wn5 ?_
  refine ⟨l, EntL.refl _, small_fit hs, ?_⟩
  repeat first | refine wk1 ?_ | refine wk2 ?_ | refine wk3 ?_ | refine wt1 ?_ | refine wt2 ?_ | refine wt3 ?_ | refine wt4 ?_ | refine wn1 ?_ | refine wn2 ?_ | refine wn3 ?_ | refine wn4 ?_ | refine wn5 ?_
  refine ⟨(validL l, c, tag), EntL.refl _, ⟨by show (validL l).length ≤ _; omega, hv65⟩, ?_⟩
  repeat first | refine wk1 ?_ | refine wk2 ?_ | refine wk3 ?_ | refine wt1 ?_ | refine wt2 ?_ | refine wt3 ?_ | refine wt4 ?_ | refine wn1 ?_ | refine wn2 ?_ | refine wn3 ?_ | refine wn4 ?_ | refine wn5 ?_
  exact EntR.of rfl (Ent.refl _)

/-! From -/
def fromK (l : List Mp) (tag : ByteArray) : Nat → List Rg
  | 0 => []
  | k + 1 => bif eqB (l.getD k default).tag tag then fromK l tag k ++ [((l.getD k default).frm, (l.getD k default).frm)] else fromK l tag k
noncomputable def fromL (l : List Mp) (tag : ByteArray) : List Rg := fromK (validL l) tag (validL l).length
theorem fromK_len (l : List Mp) (tag : ByteArray) : ∀ k, (fromK l tag k).length ≤ k
  | 0 => by simp [fromK]
  | k + 1 => by
    have := fromK_len l tag k
    simp only [fromK]
    cases eqB (l.getD k default).tag tag <;> simp <;> omega
theorem fromK_mem (l : List Mp) (tag : ByteArray) {r : Rg} : ∀ k, r ∈ fromK l tag k ↔ ∃ j, j < k ∧ (l.getD j default).tag = tag ∧ r = ((l.getD j default).frm, (l.getD j default).frm)
  | 0 => by simp [fromK]
  | k + 1 => by
    simp only [fromK]
    have ih := fromK_mem l tag (r := r) k
    cases he : eqB (l.getD k default).tag tag with
    | true =>
      have he := eqB_iff.1 he
      simp only [cond_true, List.mem_append, List.mem_singleton]
      rw [ih]
      constructor
      · rintro (⟨j, h1, h2⟩ | h)
        · exact ⟨j, by omega, h2⟩
        · exact ⟨k, by omega, he, h⟩
      · rintro ⟨j, h1, h2, h3⟩
        by_cases e : j = k
        · subst e; exact .inr h3
        · exact .inl ⟨j, by omega, h2, h3⟩
    | false =>
      have he : ¬ (l.getD k default).tag = tag := fun e => by rw [eqB_iff.2 e] at he; cases he
      simp only [cond_false]
      rw [ih]
      constructor
      · rintro ⟨j, h1, h2⟩; exact ⟨j, by omega, h2⟩
      · rintro ⟨j, h1, h2, h3⟩
        by_cases e : j = k
        · subst e; exact absurd h2 he
        · exact ⟨j, by omega, h2, h3⟩
theorem valid_asc {l : List Mp} (h : checkE l = 0) : ascK l l.length = true ∧ ∀ k, k < l.length → 0 ≤ (l.getD k default).frm ∧ (l.getD k default).frm ≤ 1114111 := by
  unfold checkE at h
  cases hp : (partsE l == 0) with
  | false =>
    rw [hp] at h
    simp only [cond_false] at h
    rw [h] at hp; simp at hp
  | true =>
    rw [hp] at h
    simp only [cond_true] at h
    refine ⟨?_, fun k hk => ?_⟩
    · cases ha : ascK l l.length with
      | true => rfl
      | false =>
        rw [ha] at h
        cases hd : dupB l <;> rw [hd] at h <;> simp at h
    · have hp : partsE l = 0 := eq_of_beq hp
      unfold partsE at hp
      cases hc : l.all codesB with
      | true =>
        have := all_get hc hk
        simp only [codesB, Bool.and_eq_true] at this
        exact validB_iff.1 this.2
      | false =>
        rw [hc] at hp; simp at hp
theorem fromK_asc {l : List Mp} (h : ascK l l.length = true) (tag : ByteArray) : ∀ k, k ≤ l.length → AscTo rgLt (fromK l tag k) (fromK l tag k).length
  | 0, _ => fun p q h1 h2 => by simp [fromK] at h2
  | k + 1, hk => by
    have ih := fromK_asc h tag k (by omega)
    have hmem := fun r => fromK_mem l tag (r := r) k
    simp only [fromK]
    cases he : eqB (l.getD k default).tag tag with
    | false => exact ih
    | true =>
      simp only [cond_true]
      intro p q hpq hq
      simp only [List.length_append, List.length_singleton] at hq
      rw [getD_snoc, getD_snoc]
      rcases Nat.lt_or_ge q (fromK l tag k).length with h1 | h1
      · rw [if_pos h1, if_pos (by omega)]; exact ih p q hpq h1
      · have : q = (fromK l tag k).length := by omega
        subst this
        rw [if_neg (by omega), if_pos rfl, if_pos hpq]
        obtain ⟨j, hj, _, e⟩ := (hmem _).1 (getD_mem hpq)
        rw [e, rgLt_no]
        have := lessB_iff.1 (asc_less h hj (show k < l.length by omega))
        simp only
        omega
theorem from_mk {l : List Mp} (hs : smallB l = true) (h : checkE l = 0) (tag : ByteArray) : mkOk (fromK l tag l.length) := by
  obtain ⟨hl20, _⟩ := small_facts hs
  have hlen := fromK_len l tag l.length
  obtain ⟨ha, hv⟩ := valid_asc h
  refine ⟨by omega, .inr ⟨fun r hr => ?_, fromK_asc ha tag _ (Nat.le_refl _)⟩⟩
  obtain ⟨j, hj, _, e⟩ := (fromK_mem l tag _).1 hr
  rw [e]
  exact hv j hj
noncomputable def ctFrom : Ct := { ι := List Mp × ByteArray, inp := fun x => [mpsD x.1, .v (.string x.2)], out := fun x => setD (canon (fromL x.1 x.2)), pre := fun x => smallB x.1 = true }
set_option maxHeartbeats 2000000 in
theorem mFrom_ok : Sound Tryz.prog (GlT mx) 30 ctFrom := by
  refine sound_by (cc := true) Γga_ok Tryz.T_ok Tryz.mixed Tryz.func30 rfl (by kernel_rfl) (fun _ => rfl) (fun _ _ => by show 2 ≤ 33; decide) ?_
  intro ((l : List Mp), (tag : ByteArray)) (hs : smallB l = true)
  obtain ⟨hl20, hsm⟩ := small_facts hs
  repeat first | refine wk1 ?_ | refine wk2 ?_ | refine wk3 ?_ | refine wt1 ?_ | refine wt2 ?_ | refine wt3 ?_ | refine wt4 ?_ | refine wn1 ?_ | refine wn2 ?_ | refine wn3 ?_ | refine wn4 ?_ | refine wn5 ?_
  refine ⟨l, EntL.refl _, small_fit hs, ?_⟩
  repeat first | refine wk1 ?_ | refine wk2 ?_ | refine wk3 ?_ | refine wt1 ?_ | refine wt2 ?_ | refine wt3 ?_ | refine wt4 ?_ | refine wn1 ?_ | refine wn2 ?_ | refine wn3 ?_ | refine wn4 ?_ | refine wn5 ?_
  refine And.intro (fun hc => ?_) (fun hc => ?_)
  · have hc : (checkE l != 0) = true := hc
    have hv : validL l = [] := by simp only [validL, hc, cond_true]
    repeat first | refine wk1 ?_ | refine wk2 ?_ | refine wk3 ?_ | refine wt1 ?_ | refine wt2 ?_ | refine wt3 ?_ | refine wt4 ?_ | refine wn1 ?_ | refine wn2 ?_ | refine wn3 ?_ | refine wn4 ?_ | refine wn5 ?_
    refine EntR.of rfl ?_
    show Ent _ (setD (canon (fromL l tag)))
    simp only [fromL, hv]
    exact Ent.ag (EntL.cons Ent.nil (EntL.refl _))
  have hc : (checkE l != 0) = false := hc
  have hv : validL l = l := by simp only [validL, hc, cond_false]
  have hc0 : checkE l = 0 := by simpa using hc
  repeat first | refine wk1 ?_ | refine wk2 ?_ | refine wk3 ?_ | refine wt1 ?_ | refine wt2 ?_ | refine wt3 ?_ | refine wt4 ?_ | refine wn1 ?_ | refine wn2 ?_ | refine wn3 ?_ | refine wn4 ?_ | refine wn5 ?_
  refine ⟨0, Nat, fun k => ⟨[(1, .v (.string tag)), (4, .own 0 0), (5, .row 1), (12, mpsD l), (13, .v (.int .i64 l.length)), (14, .v (.int .i64 k))], owR (fromK l tag k), []⟩, fun k => k ≤ l.length, fun k => l.length - k, fun _ => Nat.zero_le _, ⟨0, Nat.zero_le _, StLe.trans (StLe.nilRow (t := 5) 89 2 (fun _ _ => .junk) rfl) (StLe.ren [0, 1] (by repeat' (first | exact trivial | exact Ent.refl _ | exact rfl | exact Ent.int (by omega) | refine And.intro ?_ ?_)) ⟨own_set0, own_nil, trivial⟩ (by decide))⟩, ?_⟩
  intro k hk
  have hk : k ≤ l.length := hk
  have hfl := fromK_len l tag k
  repeat first | refine wk1 ?_ | refine wk2 ?_ | refine wk3 ?_ | refine wt1 ?_ | refine wt2 ?_ | refine wt3 ?_ | refine wt4 ?_ | refine wn1 ?_ | refine wn2 ?_ | refine wn3 ?_ | refine wn4 ?_ | refine wn5 ?_
  refine And.intro (fun h => ?_) (fun h => ?_)
  · have h : k < l.length := by have := of_decide_eq_true h; omega
    repeat first | refine wk1 ?_ | refine wk2 ?_ | refine wk3 ?_ | refine wt1 ?_ | refine wt2 ?_ | refine wt3 ?_ | refine wt4 ?_ | refine wn1 ?_ | refine wn2 ?_ | refine wn3 ?_ | refine wn4 ?_ | refine wn5 ?_
    refine And.intro (fun h1 => ?_) (fun h1 => ?_)
    · have h1 : eqB (l.getD k default).tag tag = true := h1
      have e : fromK l tag (k + 1) = fromK l tag k ++ [((l.getD k default).frm, (l.getD k default).frm)] := by simp only [fromK, h1, cond_true]
      repeat first | refine wk1 ?_ | refine wk2 ?_ | refine wk3 ?_ | refine wt1 ?_ | refine wt2 ?_ | refine wt3 ?_ | refine wt4 ?_ | refine wn1 ?_ | refine wn2 ?_ | refine wn3 ?_ | refine wn4 ?_ | refine wn5 ?_
      exact ⟨k + 1, (show k + 1 ≤ l.length by omega), (show l.length - (k + 1) < l.length - k by omega), StLe.ren [0, 3] (by repeat' (first | exact trivial | exact Ent.refl _ | exact rfl | exact Ent.int (by omega) | refine And.intro ?_ ?_)) ⟨own_set0, by rw [e]; exact own_app (fun j hj => by match j, hj with | 0, _ => exact Ent.refl _ | 1, _ => exact Ent.refl _), trivial⟩ (by decide)⟩
    · have h1 : eqB (l.getD k default).tag tag = false := h1
      have e : fromK l tag (k + 1) = fromK l tag k := by simp only [fromK, h1, cond_false]
      repeat first | refine wk1 ?_ | refine wk2 ?_ | refine wk3 ?_ | refine wt1 ?_ | refine wt2 ?_ | refine wt3 ?_ | refine wt4 ?_ | refine wn1 ?_ | refine wn2 ?_ | refine wn3 ?_ | refine wn4 ?_ | refine wn5 ?_
      exact ⟨k + 1, (show k + 1 ≤ l.length by omega), (show l.length - (k + 1) < l.length - k by omega), StLe.ren [0, 1] (by repeat' (first | exact trivial | exact Ent.refl _ | exact rfl | exact Ent.int (by omega) | refine And.intro ?_ ?_)) ⟨own_set0, own_eq e.symm, trivial⟩ (by decide)⟩
  · have h : k = l.length := by have := of_decide_eq_false h; omega
    subst h
    repeat first | refine wk1 ?_ | refine wk2 ?_ | refine wk3 ?_ | refine wt1 ?_ | refine wt2 ?_ | refine wt3 ?_ | refine wt4 ?_ | refine wn1 ?_ | refine wn2 ?_ | refine wn3 ?_ | refine wn4 ?_ | refine wn5 ?_
    refine ⟨fromK l tag l.length, EntL.refl _, from_mk hs hc0 tag, ?_⟩
    repeat first | refine wk1 ?_ | refine wk2 ?_ | refine wk3 ?_ | refine wt1 ?_ | refine wt2 ?_ | refine wt3 ?_ | refine wt4 ?_ | refine wn1 ?_ | refine wn2 ?_ | refine wn3 ?_ | refine wn4 ?_ | refine wn5 ?_
    refine EntR.of rfl ?_
    show Ent _ (setD (canon (fromL l tag)))
    simp only [fromL, hv]
    exact Ent.refl _
set_option maxHeartbeats 2000000 in
theorem rFrom_ok : Sound Tryz.prog (GlT mx) 31 ctFrom := by
  refine sound_by (cc := true) Γga_ok Tryz.T_ok Tryz.mixed Tryz.func31 rfl (by kernel_rfl) (fun _ => rfl) (fun _ _ => by show 2 ≤ 38; decide) ?_
  intro ((l : List Mp), (tag : ByteArray)) (hs : smallB l = true)
  obtain ⟨hv20, _⟩ := validL_to hs
  repeat first | refine wk1 ?_ | refine wk2 ?_ | refine wk3 ?_ | refine wt1 ?_ | refine wt2 ?_ | refine wt3 ?_ | refine wt4 ?_ | refine wn1 ?_ | refine wn2 ?_ | refine wn3 ?_ | refine wn4 ?_ | refine wn5 ?_
  refine ⟨l, EntL.refl _, small_fit hs, ?_⟩
  rw [show ctValidL.out l = mpsD (validL l) from rfl]
  have hfin : fromL l tag = fromK (validL l) tag (validL l).length := rfl
  generalize validL l = v at hv20 hfin ⊢
  repeat first | refine wk1 ?_ | refine wk2 ?_ | refine wk3 ?_ | refine wt1 ?_ | refine wt2 ?_ | refine wt3 ?_ | refine wt4 ?_ | refine wn1 ?_ | refine wn2 ?_ | refine wn3 ?_ | refine wn4 ?_ | refine wn5 ?_
  refine ⟨0, Nat, fun k => ⟨[(0, mpsD v), (1, .v (.string tag)), (4, .own 0 0), (5, .row 1), (6, .v (.int .i64 k))], owR (fromK v tag k), []⟩, fun k => k ≤ v.length, fun k => v.length - k, fun _ => Nat.zero_le _, ⟨0, Nat.zero_le _, StLe.trans (StLe.nilRow (t := 5) 89 2 (fun _ _ => .junk) rfl) (StLe.ren [0, 1] (by repeat' (first | exact trivial | exact Ent.refl _ | exact rfl | exact Ent.int (by omega) | refine And.intro ?_ ?_)) ⟨own_set0, own_nil, trivial⟩ (by decide))⟩, ?_⟩
  intro k hk
  have hk : k ≤ v.length := hk
  have hfl := fromK_len v tag k
  repeat first | refine wk1 ?_ | refine wk2 ?_ | refine wk3 ?_ | refine wt1 ?_ | refine wt2 ?_ | refine wt3 ?_ | refine wt4 ?_ | refine wn1 ?_ | refine wn2 ?_ | refine wn3 ?_ | refine wn4 ?_ | refine wn5 ?_
  refine And.intro (fun h => ?_) (fun h => ?_)
  · have h : k < v.length := by have := of_decide_eq_true h; omega
    repeat first | refine wk1 ?_ | refine wk2 ?_ | refine wk3 ?_ | refine wt1 ?_ | refine wt2 ?_ | refine wt3 ?_ | refine wt4 ?_ | refine wn1 ?_ | refine wn2 ?_ | refine wn3 ?_ | refine wn4 ?_ | refine wn5 ?_
    refine And.intro (fun h1 => ?_) (fun h1 => ?_)
    · have h1 : eqB (v.getD k default).tag tag = true := h1
      have e : fromK v tag (k + 1) = fromK v tag k ++ [((v.getD k default).frm, (v.getD k default).frm)] := by simp only [fromK, h1, cond_true]
      repeat first | refine wk1 ?_ | refine wk2 ?_ | refine wk3 ?_ | refine wt1 ?_ | refine wt2 ?_ | refine wt3 ?_ | refine wt4 ?_ | refine wn1 ?_ | refine wn2 ?_ | refine wn3 ?_ | refine wn4 ?_ | refine wn5 ?_
      exact ⟨k + 1, (show k + 1 ≤ v.length by omega), (show v.length - (k + 1) < v.length - k by omega), StLe.ren [0, 2] (by repeat' (first | exact trivial | exact Ent.refl _ | exact rfl | exact Ent.int (by omega) | refine And.intro ?_ ?_)) ⟨own_set0, by rw [e]; exact own_app (fun j hj => by match j, hj with | 0, _ => exact Ent.refl _ | 1, _ => exact Ent.refl _), trivial⟩ (by decide)⟩
    · have h1 : eqB (v.getD k default).tag tag = false := h1
      have e : fromK v tag (k + 1) = fromK v tag k := by simp only [fromK, h1, cond_false]
      repeat first | refine wk1 ?_ | refine wk2 ?_ | refine wk3 ?_ | refine wt1 ?_ | refine wt2 ?_ | refine wt3 ?_ | refine wt4 ?_ | refine wn1 ?_ | refine wn2 ?_ | refine wn3 ?_ | refine wn4 ?_ | refine wn5 ?_
      exact ⟨k + 1, (show k + 1 ≤ v.length by omega), (show v.length - (k + 1) < v.length - k by omega), StLe.ren [0, 1] (by repeat' (first | exact trivial | exact Ent.refl _ | exact rfl | exact Ent.int (by omega) | refine And.intro ?_ ?_)) ⟨own_set0, own_eq e.symm, trivial⟩ (by decide)⟩
  · have h : k = v.length := by have := of_decide_eq_false h; omega
    subst h
    repeat first | refine wk1 ?_ | refine wk2 ?_ | refine wk3 ?_ | refine wt1 ?_ | refine wt2 ?_ | refine wt3 ?_ | refine wt4 ?_ | refine wn1 ?_ | refine wn2 ?_ | refine wn3 ?_ | refine wn4 ?_ | refine wn5 ?_
    refine ⟨fromK v tag v.length, EntL.refl _, (show (fromK v tag v.length).length ≤ 10000 by omega), ?_⟩
    repeat first | refine wk1 ?_ | refine wk2 ?_ | refine wk3 ?_ | refine wt1 ?_ | refine wt2 ?_ | refine wt3 ?_ | refine wt4 ?_ | refine wn1 ?_ | refine wn2 ?_ | refine wn3 ?_ | refine wn4 ?_ | refine wn5 ?_
    refine EntR.of rfl ?_
    show Ent _ (setD (canon (fromL l tag)))
    rw [hfin]
    exact Ent.refl _
end Go.Proofs
