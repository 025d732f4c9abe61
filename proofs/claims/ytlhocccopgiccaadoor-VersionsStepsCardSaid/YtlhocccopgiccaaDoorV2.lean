import Derived.Test.YtlhocccopgiccaaDoorV1
namespace Go.Proofs
open Go Go.Sx

/-! VersionsSteps, given alive. -/
def ctAlive : Ct := { ι := Unit, inp := fun _ => [], out := fun _ => .v (.bool true), pre := fun _ => True }
def Γ2 : Ctx := fun f => match f with
  | 4 => some (.pure ctFew)
  | 5 => some (.pure ctAlive)
  | 6 => some (.pure ctNext)
  | 7 => some (.pure ctAdditive)
  | _ => none
theorem Γ2_ok (ha : Sound Tryd.prog GlT 5 ctAlive) : CtxOk Tryd.prog GlT Γ2 := by
  intro f h hh
  simp only [Γ2] at hh
  split at hh <;> simp at hh <;> subst hh
  · exact few_ok
  · exact ha
  · exact next_ok
  · exact additive_ok

def ctSteps : Ct := { ι := Int × Int × List Change, inp := fun x => [verD (x.1, x.2.1), slD 5 chD x.2.2], out := fun _ => .v (.bool true), pre := fun x => x.2.2.length ≤ 9223372036854775807 ∧ fitsI64 x.1 ∧ fitsI64 x.2.1 }

theorem steps_ok (ha : Sound Tryd.prog GlT 5 ctAlive) : Sound Tryd.prog GlT 3 ctSteps := by
  refine sound_of (cc := false) (Γ2_ok ha) Tryd.T_ok Tryd.mixed Tryd.func3 rfl (by kernel_rfl) (fun _ => rfl) (fun _ _ => by show 2 ≤ 74; decide) ?_
  rintro ⟨a, b, l⟩ ⟨(hl : l.length ≤ 9223372036854775807), (hfa : fitsI64 a), (hfb : fitsI64 b)⟩
  refine ⟨l, EntL.refl _, hl, ?_⟩
  refine And.intro (fun h1 => ?_) (fun h1 => ?_)
  · refine ⟨(), EntL.refl _, trivial, ?_⟩
    exact EntR.bool rfl
  refine ⟨(a, b, l), EntL.refl _, hl, ?_⟩
  refine And.intro (fun h2 => ?_) (fun h2 => ?_)
  · have h2 : (nextE a b l != 0) = true := h2
    refine ⟨(), EntL.refl _, fun _ => trivial, ?_⟩
    refine EntR.bool ?_
    have e : nextV a b l = none := by
      cases hn : nextV a b l with
      | none => rfl
      | some v => simp [nextE, hn] at h2
    simp [nextE, nextP, e]
  · have h2 : (nextE a b l != 0) = false := h2
    obtain ⟨v, e⟩ : ∃ v, nextV a b l = some v := by
      cases hn : nextV a b l with
      | none => simp [nextE, hn] at h2
      | some v => exact ⟨v, rfl⟩
    have ep : nextP a b l = v := by simp [nextP, e]
    refine And.intro ?_ ?_
    · decide
    have hv : v = (if l.length = 0 then (a, b) else if additive l then (a, b + 1) else (a + 1, 0)) ∧ permB a b = true ∧ permB v.1 v.2 = true := by
      unfold nextV at e
      by_cases hp : permB a b = false
      · simp [hp] at e
      · rw [if_neg hp] at e
        generalize (if l.length = 0 then (a, b) else if additive l then (a, b + 1) else (a + 1, 0) : Int × Int) = q at e ⊢
        by_cases hq : permB q.1 q.2 = true
        · simp [hq] at e
          subst e
          exact ⟨rfl, by simpa using hp, hq⟩
        · simp [hq] at e
    obtain ⟨hv, hp, hq⟩ := hv
    have hb : 0 ≤ a ∧ a ≤ 9999 ∧ 0 ≤ b ∧ b ≤ 9999 := by simp [permB] at hp; omega
    refine And.intro (fun _ => show fitsI64 (b + 1) from ⟨by omega, by omega⟩) ?_
    have v1 : (nextP a b l).1 = v.1 := by rw [ep]
    have v2 : (nextP a b l).2 = v.2 := by rw [ep]
    refine And.intro (fun h3 => ?_) (fun h3 => ?_)
    · have h3 : l.length = 0 := by simpa using h3
      refine ⟨(), EntL.refl _, fun _ => trivial, EntR.bool ?_⟩
      rw [v1, v2, hv, if_pos h3]
      simp
    · have h3 : ¬ l.length = 0 := by simpa using h3
      rw [if_neg h3] at hv
      refine ⟨l, EntL.refl _, hl, And.intro (fun h4 => ?_) (fun h4 => ?_)⟩
      · have h4 : additive l = true := h4
        refine ⟨(), EntL.refl _, fun _ => trivial, EntR.bool ?_⟩
        rw [v1, v2, hv, if_pos h4]
        simp
      · have h4 : additive l = false := h4
        refine And.intro (show fitsI64 (a + 1) from ⟨by omega, by omega⟩) ?_
        refine ⟨(), EntL.refl _, fun _ => trivial, EntR.bool ?_⟩
        rw [v1, v2, hv, if_neg (by simp [h4])]
        simp
end Go.Proofs
