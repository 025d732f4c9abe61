import Derived.Test.YthfdmbmjjejbbaaGreatDoorC2
set_option linter.unusedVariables false
set_option linter.unusedSimpArgs false
namespace Go.Proofs
open Go Go.Sx
variable {mx : Int} {pb : Bool}

/-! cpset.Has -/
set_option maxHeartbeats 1000000 in
theorem cpHas_ok : Sound Tryz.prog (GlT mx pb) 20 ctHas := by
  refine sound_by (cc := false) Γrv_ok Tryz.T_ok Tryz.mixed Tryz.func20 rfl (by kernel_rfl) (fun _ => rfl) (fun _ _ => by show 2 ≤ 28; decide) ?_
  intro ((l : List Rg), (c : Int)) (hl : l.length ≤ 1000000)
  refine gA ?_
  refine ⟨c, EntL.refl _, trivial, ?_⟩
  refine gA ?_
  refine And.intro (fun h => ?_) (fun h => ?_)
  · have h : ¬ (0 ≤ c ∧ c ≤ 1114111) := fun hh => by
      have h : (!validB c) = true := h
      rw [validB_iff.2 hh] at h; cases h
    refine gA ?_
    refine EntR.bool ?_
    show false = hasB l c
    rw [eq_comm, ← Bool.not_eq_true, hasB_iff]
    exact fun hh => h hh.1
  · have hc : 0 ≤ c ∧ c ≤ 1114111 := validB_iff.1 (by
      have h : (!validB c) = false := h
      simpa using h)
    refine gA ?_
    refine ⟨0, Nat, fun k => ⟨[(1, .v (.int .i64 c)), (11, rgsD l), (12, .v (.int .i64 l.length)), (13, .v (.int .i64 k))], [], []⟩, fun k => k ≤ l.length ∧ ∀ j, j < k → ¬ ((l.getD j default).1 ≤ c ∧ c ≤ (l.getD j default).2), fun k => l.length - k, fun _ => Nat.zero_le _, ⟨0, ⟨Nat.zero_le _, fun j hj => by omega⟩, StLe.ren [] tmS trivial (by decide)⟩, ?_⟩
    rintro k ⟨hk, hd⟩
    refine gA ?_
    refine And.intro (fun h => ?_) (fun h => ?_)
    · have h : k < l.length := by have := of_decide_eq_true h; omega
      refine gA ?_
      refine And.intro (fun h1 => ?_) (fun h1 => ?_)
      · have h1 : (l.getD k default).1 ≤ c ∧ c ≤ (l.getD k default).2 := bif_dec.1 h1
        refine gA ?_
        exact EntR.bool (has_at h hc h1).symm
      · have h1 : ¬ ((l.getD k default).1 ≤ c ∧ c ≤ (l.getD k default).2) := bif_no.1 h1
        refine gA ?_
        exact ⟨k + 1, ⟨by omega, next_at hd h1⟩, (show l.length - (k + 1) < l.length - k by omega), StLe.ren [] tmS trivial (by decide)⟩
    · have h : k = l.length := by have := of_decide_eq_false h; omega
      subst h
      refine gA ?_
      exact EntR.bool (has_no hd).symm
end Go.Proofs
