import Derived.Test.YtnegdnbodccgkaaGreatDoorMi
import Derived.Test.YtnegdnbodccgkaaGreatDoorRw11
set_option linter.unusedVariables false
set_option linter.unusedSimpArgs false
namespace Go.Proofs
open Go Go.Sx
variable {mx : Int} {pb : Bool}

/-! the law of chapter 11: Makes -/
def ctLawMm : Ct := { ι := List Mp, inp := fun l => [mpsD l], out := fun _ => .v (.bool true), pre := fun l => l.length ≤ 9223372036854775807 }
noncomputable def mkL (l : List Mp) : List Mp := if checkE (sortM l) = 0 then sortM l else []
noncomputable def ctMkM : Ct := { ι := List Mp, inp := fun l => [mpsD l], out := fun l => .tu [mpsD (mkL l), .v (.int .i64 (checkE (sortM l)))], pre := fun l => smallB l = true }
theorem mkM_ent (l : List Mp) : Ent (ctMakeM.out l) (ctMkM.out l) := by
  show Ent (makeD l) (D.tu [mpsD (mkL l), .v (.int .i64 (checkE (sortM l)))])
  unfold makeD mkL
  by_cases h : checkE (sortM l) = 0
  · rw [if_pos h, if_pos h, h]; exact Ent.refl _
  · rw [if_neg h, if_neg h]; exact Ent.tu2 Ent.nil (Ent.refl _)
theorem mk_sound {f : FuncId} (h : Sound Tryz.prog (GlT mx pb) f ctMakeM) : Sound Tryz.prog (GlT mx pb) f ctMkM := by
  refine ⟨h.1, fun l => h.2.1 l, fun l hx M w us hf hg hr n => ?_⟩
  have := h.2.2 l hx M w us hf hg hr n
  refine this.mono fun e W' hR => ?_
  obtain ⟨M', u, he, a, b, c, hu, hb⟩ := hR
  exact ⟨M', u, he, a, b, c, mkM_ent l _ _ _ hu, hb⟩
theorem mMk_ok : Sound Tryz.prog (GlT mx pb) 24 ctMkM := mk_sound mMake_ok
theorem rMk_ok : Sound Tryz.prog (GlT mx pb) 25 ctMkM := mk_sound rMakeM_ok
noncomputable def Γlmm (mx : Int) : Ctx := fun f => match f with
  | 21 => some (.pure ctSmall)
  | 17 => some (.pure ctAlive)
  | 24 => some (.pure ctMkM)
  | 25 => some (.pure ctMkM)
  | 20 => some (.pure ctSameM)
  | _ => none
theorem Γlmm_ok {mx : Int} : CtxOk Tryz.prog (GlT mx false) (Γlmm mx) := by
  intro f h hh
  simp only [Γlmm] at hh
  split at hh <;> simp at hh <;> subst hh
  · exact rsmall_ok
  · exact alive11_ok mx
  · exact mMk_ok
  · exact rMk_ok
  · exact rSameM_ok
set_option maxHeartbeats 4000000 in
theorem lawMMk_ok {mx : Int} : Sound Tryz.prog (GlT mx false) 6 ctLawMm := by
  refine sound_by (cc := true) Γlmm_ok Tryz.T_ok Tryz.mixed Tryz.func6 rfl (by kernel_rfl) (fun _ => rfl) (fun _ _ => by show 1 ≤ 32; decide) ?_
  intro (l : List Mp) (hl : l.length ≤ 9223372036854775807)
  have p1 : ctSmall.pre l := hl
  rcases Bool.eq_false_or_eq_true (smallB l) with hs | hs
  · obtain ⟨hl20, hto⟩ := small_facts hs
    have p2 : ctMkM.pre l := hs
    have hk : (mkL l).length ≤ 20 ∧ ∀ k, k < (mkL l).length → ((mkL l).getD k default).to.length ≤ 65 := by
      unfold mkL
      split
      · obtain ⟨h1, h2⟩ := small_facts (small_perm sortM_perm hs)
        exact ⟨h1, fun k hk => (h2 k hk).1⟩
      · exact ⟨by simp, fun k hk => absurd hk (by simp)⟩
    have p3 : ctSameM.pre (mkL l, mkL l) := ⟨(by show (mkL l).length ≤ 1000000; omega), (by show (mkL l).length ≤ 1000000; omega), fun k h => (by have := hk.2 k h; show ((mkL l).getD k default).to.length ≤ 1000000; omega), fun k h => (by have := hk.2 k h; show ((mkL l).getD k default).to.length ≤ 1000000; omega)⟩
    have e2 : eqMs (mkL l) (mkL l) = true := eqMs_iff.2 rfl
    repeat' (first | refine gl ?_ | (refine br (fun q_ => ?_) (fun q_ => ?_) <;> try simp only [Int.toNat_natCast, Nat.mul_one, Nat.add_zero] at q_) | (refine brF (fun q_ => ?_) (fun q_ => ?_) <;> try simp only [Int.toNat_natCast, Nat.mul_one, Nat.add_zero] at q_))
    all_goals first
      | exact EntR.bool rfl
      | (exfalso; omega)
      | (exfalso
         have q : eqMs (mkL l) (mkL l) = false := by assumption
         rw [e2] at q
         exact Bool.noConfusion q)
      | (exfalso; simp at q_; done)
      | trace_state
  · repeat' (first | refine gl ?_ | (refine br (fun q_ => ?_) (fun q_ => ?_) <;> try simp only [Int.toNat_natCast, Nat.mul_one, Nat.add_zero] at q_) | (refine brF (fun q_ => ?_) (fun q_ => ?_) <;> try simp only [Int.toNat_natCast, Nat.mul_one, Nat.add_zero] at q_))
    exact EntR.bool rfl
#print axioms lawMMk_ok
end Go.Proofs
