import Derived.Test.YthfdmbmjjejbbaaGreatDoorTr1
import Derived.Test.YthfdmbmjjejbbaaGreatDoorTr2
import Derived.Test.YthfdmbmjjejbbaaGreatDoorRz
set_option linter.unusedVariables false
set_option linter.unusedSimpArgs false
namespace Go.Proofs
open Go Go.Sx
variable {mx : Int} {pb : Bool}

/-! the laws of chapter 50: Checks -/
def ctLawT : Ct := { ι := List Tl, inp := fun l => [tlsD l], out := fun _ => .v (.bool true), pre := fun _ => True }
noncomputable def Γltc (mx : Int) : Ctx := fun f => match f with
  | 8 => some (.pure ctSmL)
  | 11 => some (.pure ctAlive)
  | 9 => some (.pure ctChkE)
  | 10 => some (.pure ctChkE)
  | _ => none
theorem Γltc_ok {mx : Int} : CtxOk Tryz.prog (GlT mx true) (Γltc mx) := by
  intro f h hh
  simp only [Γltc] at hh
  split at hh <;> simp at hh <;> subst hh
  · exact rSmL_ok
  · exact alive50_ok mx
  · exact pChk_ok
  · exact rChk_ok
set_option maxHeartbeats 4000000 in
theorem lawTC_ok {mx : Int} : Sound Tryz.prog (GlT mx true) 3 ctLawT := by
  refine sound_by (cc := true) Γltc_ok Tryz.T_ok Tryz.mixed Tryz.func3 rfl (by kernel_rfl) (fun _ => rfl) (fun _ _ => by show 1 ≤ 16; decide) ?_
  intro (l : List Tl) _
  rcases Bool.eq_false_or_eq_true (smLB l) with hs | hs
  · have p1 : ctChkE.pre l := smLB_iff.1 hs
    repeat' (first | refine gl ?_ | (refine br (fun q_ => ?_) (fun q_ => ?_) <;> try simp only [Int.toNat_natCast, Nat.mul_one, Nat.add_zero] at q_) | (refine brF (fun q_ => ?_) (fun q_ => ?_) <;> try simp only [Int.toNat_natCast, Nat.mul_one, Nat.add_zero] at q_))
    all_goals first
      | exact EntR.bool rfl
      | (exfalso; omega)
  · repeat' (first | refine gl ?_ | (refine br (fun q_ => ?_) (fun q_ => ?_) <;> try simp only [Int.toNat_natCast, Nat.mul_one, Nat.add_zero] at q_) | (refine brF (fun q_ => ?_) (fun q_ => ?_) <;> try simp only [Int.toNat_natCast, Nat.mul_one, Nat.add_zero] at q_))
    all_goals first
      | exact EntR.bool rfl
      | (exfalso; omega)
#print axioms lawTC_ok
end Go.Proofs
