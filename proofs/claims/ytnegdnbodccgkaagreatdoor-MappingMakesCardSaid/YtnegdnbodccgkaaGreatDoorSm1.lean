import Derived.Test.YtnegdnbodccgkaaGreatDoorMz
import Derived.Test.YtnegdnbodccgkaaGreatDoorC2
set_option linter.unusedVariables false
set_option linter.unusedSimpArgs false
namespace Go.Proofs
open Go Go.Sx
variable {mx : Int} {pb : Bool}

theorem cat0 (a : List Int) (f : Nat → Nat → D) (i j : Nat) : catF 0 f (fun i j => intD (a.getD i default) j) i j = intD (a.getD i default) j := by simp [catF]
/-! slices.Clone of numbers -/
def ctCloneI : Ct := { ι := List Int, inp := fun l => [slD 1 intD l], out := fun l => slD 1 intD l, pre := fun l => l.length ≤ 1000000000 }
theorem cloneI_ok : Sound Tryz.prog (GlT mx pb) 54 ctCloneI := by
  refine sound_by (cc := true) Γ0_ok Tryz.T_ok Tryz.mixed Tryz.func54 rfl (by kernel_rfl) (fun _ => rfl) (fun _ _ => by show 1 ≤ 8; decide) ?_
  intro (l : List Int) (hl : l.length ≤ 1000000000)
  refine gA ?_
  intro q hq
  refine gA ?_
  refine And.intro (fun h => ?_) (fun h => ?_)
  · have hq : l.length = 0 := hq (by simpa using h)
    have e : l = [] := List.length_eq_zero_iff.1 hq
    subst e
    refine gA ?_
    exact EntR.of rfl Ent.nil
  · refine gA ?_
    refine And.intro (show 0 + l.length ≤ _ by omega) (And.intro (show (0 + l.length) * 8 ≤ _ by omega) ?_)
    refine gA ?_
    refine EntR.of rfl (Ent.sl (show 0 + l.length = l.length by omega) fun i hi j hj => Ent.of_eq ?_)
    exact cat0 l _ i j

/-! insertion sort of mappings -/
def owM (L : List Mp) : List Own := [rowL 86 3 mpD L]
def ltM (a b : Mp) : Bool := decide (cmpM a b < 0)
theorem ltM_less {a b : Mp} : ltM a b = lessB a b := by
  have := cmpM_less (a := a) (b := b)
  unfold ltM
  by_cases h : cmpM a b < 0
  · have h1 : decide (cmpM a b ≥ 0) = false := by simp; omega
    rw [h1] at this
    cases hl : lessB a b with
    | true => simp [h]
    | false => rw [hl] at this; simp at this
  · have h1 : decide (cmpM a b ≥ 0) = true := by simp; omega
    rw [h1] at this
    cases hl : lessB a b with
    | true => rw [hl] at this; simp at this
    | false => simp [h]
def Γsa : Ctx := fun f => match f with
  | 57 => some (.pure ctCompare)
  | _ => none
theorem Γsa_ok : CtxOk Tryz.prog (GlT mx pb) Γsa := by
  intro f h hh
  simp only [Γsa] at hh
  split at hh <;> simp at hh <;> subst hh
  exact compare_ok
noncomputable def cInsM : Code := (Tryz.f169.body).getD .skip
noncomputable def cStabM : Code := (Tryz.f137.body).getD .skip
noncomputable def cSSortM : Code := (Tryz.f65.body).getD .skip
theorem StLe.one {tm tm' : List (Nat × D)} {ow ow' : List Own} (h1 : renT [0] tm tm') (h2 : renO [0] ow [0] ow') : StLe 1 ⟨tm, ow, []⟩ ⟨tm', ow', []⟩ :=
  StLe.renm [0] h1 h2 (by decide) (by decide) (by simp)
set_option maxHeartbeats 1000000 in
theorem insM_in {Y : Ys} {L : List Mp} {k : D → List Own → Prop} (hn : L.length ≤ 1000000) (hk : k (.tu []) (owM (outerS ltM L (L.length - 1)))) :
    inlW true Γsa Tryz.T (GlT mx pb) Tryz.f169 cInsM Y [.row 0, .v (.int .i64 0), .v (.int .i64 L.length), .fn 57 []] (owM L) k := by
  refine ⟨by show 4 ≤ 53; decide, ?_⟩
  refine gA ?_
  refine ⟨0, Nat, fun i => ⟨[(0, .row 0), (1, .v (.int .i64 0)), (2, .v (.int .i64 L.length)), (3, .fn 57 []), (8, .v (.int .i64 i))], owM (outerS ltM L (i - 1)), []⟩, fun i => 1 ≤ i ∧ i ≤ max 1 L.length, fun i => L.length - i, fun _ => Nat.le_refl _, ⟨1, ⟨Nat.le_refl _, by omega⟩, StLe.one tmS ⟨own_refl, trivial⟩⟩, ?_⟩
  rintro i ⟨hi1, hi2⟩
  refine gA ?_
  refine And.intro (fun h => ?_) (fun h => ?_)
  · have h : i < L.length := by have := of_decide_eq_true h; omega
    refine gA ?_
    refine ⟨0, Nat × List Mp, fun | (j, X) => ⟨[(0, .row 0), (1, .v (.int .i64 0)), (2, .v (.int .i64 L.length)), (3, .fn 57 []), (8, .v (.int .i64 i)), (9, .v (.int .i64 j))], owM X, []⟩, fun | (j, X) => j ≤ i ∧ X.length = L.length ∧ innerS ltM X j = outerS ltM L i, fun x => x.1, fun _ => Nat.le_refl _, ⟨(i, outerS ltM L (i - 1)), ⟨Nat.le_refl _, outerS_length _, ?_⟩, StLe.one tmS ⟨own_refl, trivial⟩⟩, ?_⟩
    · obtain ⟨i', rfl⟩ : ∃ i', i = i' + 1 := ⟨i - 1, by omega⟩
      rfl
    rintro ⟨j, X⟩ ⟨hj, hX, hin⟩
    refine gA ?_
    generalize hp : decide ((j : Int) > 0) = p
    cases p with
    | true =>
      have hp : 0 < j := by have := of_decide_eq_true hp; omega
      refine gA ?_
      refine ⟨(X.getD j default, X.getD ((j : Int) - 1).toNat default), EntL.refl _, trivial, ?_⟩
      refine gA ?_
      refine And.intro (fun hlt => ?_) (fun hlt => ?_)
      · have hlt : ltM (X.getD j default) (X.getD (j - 1) default) = true := by rw [← toNat_pred]; exact hlt
        have e0 : innerS ltM (swp X (j - 1)) (j - 1) = outerS ltM L i := by
          obtain ⟨j', rfl⟩ : ∃ j', j = j' + 1 := ⟨j - 1, by omega⟩
          have hin : innerS ltM X (j' + 1) = outerS ltM L i := hin
          exact (if_pos hlt).symm.trans hin
        refine gA ?_
        exact ⟨(j - 1, swp X (j - 1)), ⟨by show j - 1 ≤ i; omega, by rw [← hX]; exact swp_length, e0⟩, by show j - 1 < j; omega, StLe.one tmS ⟨by rw [← toNat_pred]; exact own_swap (by show j = ((j : Int) - 1).toNat + 1; omega) (by show j < X.length; omega) (fun q hq => by match q, hq with | 0, _ => rfl | 1, _ => rfl | 2, _ => rfl) (fun q hq => by match q, hq with | 0, _ => rfl | 1, _ => rfl | 2, _ => rfl), trivial⟩⟩
      · have hlt : ltM (X.getD j default) (X.getD (j - 1) default) = false := by rw [← toNat_pred]; exact hlt
        have e0 : X = outerS ltM L i := by
          obtain ⟨j', rfl⟩ : ∃ j', j = j' + 1 := ⟨j - 1, by omega⟩
          have hin : innerS ltM X (j' + 1) = outerS ltM L i := hin
          exact (if_neg (fun hh => Bool.noConfusion (hlt.symm.trans hh))).symm.trans hin
        refine gA ?_
        exact ⟨i + 1, ⟨by omega, by omega⟩, by show L.length - (i + 1) < L.length - i; omega, StLe.one tmS ⟨own_eq e0, trivial⟩⟩
    | false =>
      have hp : j = 0 := by have := of_decide_eq_false hp; omega
      subst hp
      refine gA ?_
      exact ⟨i + 1, ⟨by omega, by omega⟩, by show L.length - (i + 1) < L.length - i; omega, StLe.one tmS ⟨own_eq hin, trivial⟩⟩
  · have h : ¬ i < L.length := by have := of_decide_eq_false h; omega
    have e : i - 1 = L.length - 1 := by omega
    have hk' : k (.tu []) (owM (outerS ltM L (i - 1))) := by rw [e]; exact hk
    refine gA ?_
    exact hk'
theorem insM_nop {Y : Ys} {L : List Mp} {k : D → List Own → Prop} {a : Int} (ha : 0 ≤ a ∧ a ≤ 1000000) (hk : k (.tu []) (owM L)) :
    inlW true Γsa Tryz.T (GlT mx pb) Tryz.f169 cInsM Y [.row 0, .v (.int .i64 a), .v (.int .i64 a), .fn 57 []] (owM L) k := by
  refine ⟨by show 4 ≤ 53; decide, ?_⟩
  refine gA ?_
  refine ⟨2, ?_⟩
  refine gA ?_
  refine And.intro (fun h => absurd (of_decide_eq_true h) (by omega)) (fun _ => ?_)
  refine gA ?_
  exact hk
noncomputable def Γsb (mx : Int) (pb : Bool) : Ctx := fun f => match f with
  | 169 => some (.gen (inlW true Γsa Tryz.T (GlT mx pb) Tryz.f169 cInsM))
  | _ => none
theorem Γsb_ok : CtxOk Tryz.prog (GlT mx pb) (Γsb mx pb) := by
  intro f h hh
  simp only [Γsb] at hh
  split at hh <;> simp at hh <;> subst hh
  exact soundT_inlW Γsa_ok Tryz.T_ok Tryz.mixed Tryz.func169 rfl (by kernel_rfl)
set_option maxHeartbeats 1000000 in
theorem stabM_in {Y : Ys} {L : List Mp} {k : D → List Own → Prop} (hn : L.length ≤ 20) (hk : k (.tu []) (owM (outerS ltM L (L.length - 1)))) :
    inlW true (Γsb mx pb) Tryz.T (GlT mx pb) Tryz.f137 cStabM Y [.row 0, .v (.int .i64 L.length), .fn 57 []] (owM L) k := by
  refine ⟨by show 3 ≤ 63; decide, ?_⟩
  refine gA ?_
  refine ⟨4, ?_⟩
  refine gA ?_
  refine And.intro (fun h => ?_) (fun h => ?_)
  · have h : L.length = 20 := by have := of_decide_eq_true h; omega
    have e20 : (20 : Int) = (L.length : Int) := by omega
    refine gA ?_
    rw [e20]
    refine insM_in (by omega) ?_
    refine gA ?_
    refine And.intro (fun h => absurd (of_decide_eq_true h) (by omega)) (fun _ => ?_)
    refine gA ?_
    refine insM_nop (by omega) ?_
    refine gA ?_
    refine ⟨2, ?_⟩
    refine gA ?_
    refine And.intro (fun h => absurd (of_decide_eq_true h) (by omega)) (fun _ => ?_)
    refine gA ?_
    exact hk
  · refine gA ?_
    refine insM_in (by omega) ?_
    refine gA ?_
    refine ⟨2, ?_⟩
    refine gA ?_
    refine And.intro (fun h => absurd (of_decide_eq_true h) (by omega)) (fun _ => ?_)
    refine gA ?_
    exact hk
noncomputable def Γsc (mx : Int) (pb : Bool) : Ctx := fun f => match f with
  | 137 => some (.gen (inlW true (Γsb mx pb) Tryz.T (GlT mx pb) Tryz.f137 cStabM))
  | _ => none
theorem Γsc_ok : CtxOk Tryz.prog (GlT mx pb) (Γsc mx pb) := by
  intro f h hh
  simp only [Γsc] at hh
  split at hh <;> simp at hh <;> subst hh
  exact soundT_inlW Γsb_ok Tryz.T_ok Tryz.mixed Tryz.func137 rfl (by kernel_rfl)
theorem ssortM_in {Y : Ys} {L : List Mp} {k : D → List Own → Prop} (hn : L.length ≤ 20) (hk : k (.tu []) (owM (outerS ltM L (L.length - 1)))) :
    inlW true (Γsc mx pb) Tryz.T (GlT mx pb) Tryz.f65 cSSortM Y [.row 0, .fn 57 []] (owM L) k := by
  refine ⟨by show 2 ≤ 9; decide, ?_⟩
  refine gA ?_
  refine stabM_in hn ?_
  refine gA ?_
  exact hk

/-! mapping.Make -/
def sortM (l : List Mp) : List Mp := outerS ltM l (l.length - 1)
noncomputable def makeD (l : List Mp) : D := if checkE (sortM l) = 0 then .tu [mpsD (sortM l), .v (.int .i64 0)] else .tu [nilV, .v (.int .i64 (checkE (sortM l)))]
noncomputable def ctMakeM : Ct := { ι := List Mp, inp := fun l => [mpsD l], out := makeD, pre := fun l => smallB l = true }
noncomputable def Γsd (mx : Int) (pb : Bool) : Ctx := fun f => match f with
  | 65 => some (.gen (inlW true (Γsc mx pb) Tryz.T (GlT mx pb) Tryz.f65 cSSortM))
  | 54 => some (.pure ctCloneI)
  | 23 => some (.pure ctCheck)
  | _ => none
theorem Γsd_ok : CtxOk Tryz.prog (GlT mx pb) (Γsd mx pb) := by
  intro f h hh
  simp only [Γsd] at hh
  split at hh <;> simp at hh <;> subst hh
  · exact soundT_inlW Γsc_ok Tryz.T_ok Tryz.mixed Tryz.func65 rfl (by kernel_rfl)
  · exact cloneI_ok
  · exact check_ok
theorem sortM_perm {l : List Mp} : (sortM l).Perm l := by
  unfold sortM
  rcases Nat.eq_zero_or_pos l.length with h | h
  · rw [h]; exact List.Perm.refl _
  · exact outerS_perm ltM (by omega)
theorem sortM_len {l : List Mp} : (sortM l).length = l.length := outerS_length _
theorem small_perm {l m : List Mp} (h : l.Perm m) (hs : smallB m = true) : smallB l = true := by
  obtain ⟨h1, h2⟩ := small_facts hs
  have hl := h.length_eq
  have hall : ∀ x ∈ m, shortM x = true := by
    simp only [smallB, Bool.and_eq_true, List.all_eq_true] at hs
    intro x hx
    exact hs.1 x (by rw [List.take_of_length_le (by omega)]; exact hx)
  simp only [smallB, Bool.and_eq_true, List.all_eq_true, decide_eq_true_eq]
  exact ⟨fun x hx => hall x (h.mem_iff.1 (List.mem_of_mem_take hx)), by omega⟩
theorem makeD_pd (l : List Mp) : pd (makeD l) = true := by unfold makeD; split <;> rfl
set_option maxHeartbeats 2000000 in
theorem mMake_ok : Sound Tryz.prog (GlT mx pb) 24 ctMakeM := by
  refine sound_by (cc := true) Γsd_ok Tryz.T_ok Tryz.mixed Tryz.func24 rfl (by kernel_rfl) (fun _ => rfl) (fun _ _ => by show 1 ≤ 34; decide) ?_
  intro (l : List Mp) (hs : smallB l = true)
  obtain ⟨hl20, hsm⟩ := small_facts hs
  refine gA ?_
  refine ⟨0, Nat, fun k => ⟨[(4, .row 0), (8, mpsD l), (9, .v (.int .i64 l.length)), (10, .v (.int .i64 k))], owM (l.take k), []⟩, fun k => k ≤ l.length, fun k => l.length - k, fun _ => Nat.zero_le _, ⟨0, Nat.zero_le _, StLe.trans (StLe.nilRow (t := 4) 86 3 (fun _ _ => .junk) rfl) (StLe.ren [0] tmS ⟨own_nil, trivial⟩ (by decide))⟩, ?_⟩
  intro k hk
  have hk : k ≤ l.length := hk
  have htl : (l.take k).length = k := by rw [List.length_take]; omega
  refine gA ?_
  refine And.intro (fun h => ?_) (fun h => ?_)
  · have h : k < l.length := by have := of_decide_eq_true h; omega
    have h65 := (hsm k h).1
    refine gA ?_
    refine ⟨(l.getD k default).to, EntL.refl _, fun _ => (show (l.getD k default).to.length ≤ 1000000000 by omega), ?_⟩
    refine gA ?_
    exact ⟨k + 1, (show k + 1 ≤ l.length by omega), (show l.length - (k + 1) < l.length - k by omega), StLe.ren [2] tmS ⟨by rw [take_at h]; exact own_app (fun j hj => by match j, hj with | 0, _ => exact Ent.refl _ | 1, _ => exact Ent.refl _ | 2, _ => exact Ent.refl _), trivial⟩ (by decide)⟩
  · have h : k = l.length := by have := of_decide_eq_false h; omega
    subst h
    rw [List.take_length] at htl ⊢
    refine gA ?_
    refine ssortM_in hl20 ?_
    refine gA ?_
    refine ⟨sortM l, EntL.refl _, small_fit (small_perm sortM_perm hs), ?_⟩
    refine gA ?_
    refine And.intro (fun hc => ?_) (fun hc => ?_)
    · have hc : ¬ checkE (sortM l) = 0 := by
        have hc : (checkE (sortM l) != 0) = true := hc
        simpa using hc
      refine gA ?_
      refine EntR.of (makeD_pd l) ?_
      show Ent _ (makeD l)
      rw [makeD, if_neg hc]
      exact Ent.refl _
    · have hc : checkE (sortM l) = 0 := by
        have hc : (checkE (sortM l) != 0) = false := hc
        simpa using hc
      refine gA ?_
      refine EntR.of (makeD_pd l) ?_
      show Ent _ (makeD l)
      rw [makeD, if_pos hc]
      exact Ent.refl _
end Go.Proofs
