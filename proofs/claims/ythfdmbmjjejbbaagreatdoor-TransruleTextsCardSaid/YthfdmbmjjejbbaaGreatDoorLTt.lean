import Derived.Test.YthfdmbmjjejbbaaGreatDoorTx6
import Derived.Test.YthfdmbmjjejbbaaGreatDoorLTc
set_option linter.unusedVariables false
set_option linter.unusedSimpArgs false
namespace Go.Proofs
open Go Go.Sx
variable {mx : Int} {pb : Bool}

/-! the laws of chapter 50: Texts -/
noncomputable def Γltt (mx : Int) : Ctx := fun f => match f with
  | 8 => some (.pure ctSmL)
  | 11 => some (.pure ctAlive)
  | 12 => some (.pure ctTxt)
  | 13 => some (.pure ctTxt)
  | _ => none
theorem Γltt_ok {mx : Int} : CtxOk Tryz.prog (GlT mx true) (Γltt mx) := by
  intro f h hh
  simp only [Γltt] at hh
  split at hh <;> simp at hh <;> subst hh
  · exact rSmL_ok
  · exact alive50_ok mx
  · exact pTxt_ok
  · exact rTxt_ok
set_option maxHeartbeats 4000000 in
theorem lawTT_ok {mx : Int} : Sound Tryz.prog (GlT mx true) 4 ctLawT := by
  refine sound_by (cc := true) Γltt_ok Tryz.T_ok Tryz.mixed Tryz.func4 rfl (by kernel_rfl) (fun _ => rfl) (fun _ _ => by show 1 ≤ 32; decide) ?_
  intro (l : List Tl) _
  rcases Bool.eq_false_or_eq_true (smLB l) with hs | hs
  · have p1 : ctTxt.pre l := smLB_iff.1 hs
    repeat' (first | refine gl ?_ | (refine br (fun q_ => ?_) (fun q_ => ?_) <;> try simp only [Int.toNat_natCast, Nat.mul_one, Nat.add_zero] at q_) | (refine brF (fun q_ => ?_) (fun q_ => ?_) <;> try simp only [Int.toNat_natCast, Nat.mul_one, Nat.add_zero] at q_))
    all_goals first
      | exact EntR.bool rfl
      | (exfalso; omega)
  · repeat' (first | refine gl ?_ | (refine br (fun q_ => ?_) (fun q_ => ?_) <;> try simp only [Int.toNat_natCast, Nat.mul_one, Nat.add_zero] at q_) | (refine brF (fun q_ => ?_) (fun q_ => ?_) <;> try simp only [Int.toNat_natCast, Nat.mul_one, Nat.add_zero] at q_))
    all_goals first
      | exact EntR.bool rfl
      | (exfalso; omega)
#print axioms lawTT_ok
end Go.Proofs
