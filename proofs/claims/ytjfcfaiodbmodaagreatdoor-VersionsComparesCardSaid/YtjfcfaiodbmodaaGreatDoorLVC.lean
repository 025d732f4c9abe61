import Derived.Test.YtjfcfaiodbmodaaGreatDoorLVz
import Derived.Test.YtjfcfaiodbmodaaGreatDoorFr
set_option linter.unusedVariables false
set_option linter.unusedSimpArgs false
namespace Go.Proofs
open Go Go.Sx
variable {mx : Int} {pb : Bool}

/-! the law of chapter 17: Compares -/
def ctSameC : Ct := { ι := List Ch, inp := fun l => [chsD l, chsD l], out := fun _ => .v (.bool true), pre := fun l => l.length ≤ 1000000000 }
set_option maxHeartbeats 4000000 in
theorem rSameC_ok : Sound Tryz.prog (GlT mx pb) 15 ctSameC := by
  refine sound_by (cc := true) Γ0_ok Tryz.T_ok Tryz.mixed Tryz.func15 rfl (by kernel_rfl) (fun _ => rfl) (fun _ _ => by show 2 ≤ 26; decide) ?_
  intro (l : List Ch) (hl : l.length ≤ 1000000000)
  repeat' (first | refine gl ?_ | (refine br (fun q_ => ?_) (fun q_ => ?_) <;> try simp only [Int.toNat_natCast, Nat.mul_one, Nat.add_zero] at q_) | (refine brF (fun q_ => ?_) (fun q_ => ?_) <;> try simp only [Int.toNat_natCast, Nat.mul_one, Nat.add_zero] at q_))
  refine ⟨0, Nat, fun i => ⟨[(0, chsD l), (1, chsD l), (5, .v (.int .i64 i))], [], []⟩, fun i => i ≤ l.length, fun i => l.length - i, fun _ => Nat.zero_le _, ⟨0, Nat.zero_le _, StLe.ren [] tmS trivial (by decide)⟩, ?_⟩
  intro i (hi : i ≤ l.length)
  by_cases hlt : i < l.length
  · repeat' (first | refine gl ?_ | (refine br (fun q_ => ?_) (fun q_ => ?_) <;> try simp only [Int.toNat_natCast, Nat.mul_one, Nat.add_zero] at q_) | (refine brF (fun q_ => ?_) (fun q_ => ?_) <;> try simp only [Int.toNat_natCast, Nat.mul_one, Nat.add_zero] at q_))
    · exfalso
      simp at q_
    · exact ⟨i + 1, (by show i + 1 ≤ _; omega), (by show _ - (i + 1) < _ - i; omega), StLe.ren [] tmS trivial (by decide)⟩
  · repeat' (first | refine gl ?_ | (refine br (fun q_ => ?_) (fun q_ => ?_) <;> try simp only [Int.toNat_natCast, Nat.mul_one, Nat.add_zero] at q_) | (refine brF (fun q_ => ?_) (fun q_ => ?_) <;> try simp only [Int.toNat_natCast, Nat.mul_one, Nat.add_zero] at q_))
    exact EntR.bool rfl
noncomputable def Γlc : Ctx := fun f => match f with
  | 11 => some (.pure ctSml2)
  | 12 => some (.pure ctAlive)
  | 13 => some (.pure ctVCmp)
  | 14 => some (.pure ctVCmp)
  | 15 => some (.pure ctSameC)
  | _ => none
theorem Γlc_ok {mx : Int} : CtxOk Tryz.prog (GlT mx true) Γlc := by
  intro f h hh
  simp only [Γlc] at hh
  split at hh <;> simp at hh <;> subst hh
  · exact rSml2_ok
  · exact alive_ok mx
  · exact pCompare_ok
  · exact rCompare_ok
  · exact rSameC_ok
set_option maxHeartbeats 4000000 in
theorem lawVC_ok {mx : Int} : Sound Tryz.prog (GlT mx true) 3 ctLaw2 := by
  refine sound_by (cc := true) Γlc_ok Tryz.T_ok Tryz.mixed Tryz.func3 rfl (by kernel_rfl) (fun _ => rfl) (fun _ _ => by show 2 ≤ 37; decide) ?_
  rintro ⟨(a : Db), (b : Db)⟩ ⟨(ha : fitDb a), (hb : fitDb b)⟩
  have p0 : ctSml2.pre (a, b) := ⟨ha, hb⟩
  rcases Bool.eq_false_or_eq_true (smDb a && smDb b) with h | h
  · have hs := Bool.and_eq_true_iff.1 h
    have p1 : ctVCmp.pre (a, b) := ⟨smDb_iff.1 hs.1, smDb_iff.1 hs.2⟩
    have p2 : ctSameC.pre (cmpL a b) := (by have := cmpL_len a b; show (cmpL a b).length ≤ 1000000000; omega)
    repeat' (first | refine gl ?_ | (refine br (fun q_ => ?_) (fun q_ => ?_) <;> try simp only [Int.toNat_natCast, Nat.mul_one, Nat.add_zero] at q_) | (refine brF (fun q_ => ?_) (fun q_ => ?_) <;> try simp only [Int.toNat_natCast, Nat.mul_one, Nat.add_zero] at q_))
    exact EntR.bool rfl
  · have hn : smDb a = false ∨ smDb b = false := by cases h1 : smDb a <;> cases h2 : smDb b <;> simp_all
    repeat' (first | refine gl ?_ | (refine br (fun q_ => ?_) (fun q_ => ?_) <;> try simp only [Int.toNat_natCast, Nat.mul_one, Nat.add_zero] at q_) | (refine brF (fun q_ => ?_) (fun q_ => ?_) <;> try simp only [Int.toNat_natCast, Nat.mul_one, Nat.add_zero] at q_))
    exact EntR.bool rfl
#print axioms lawVC_ok

end Go.Proofs
