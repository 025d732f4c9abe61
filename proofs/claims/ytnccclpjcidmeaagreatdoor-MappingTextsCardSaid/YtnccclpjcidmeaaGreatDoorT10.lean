import Derived.Test.YtnccclpjcidmeaaGreatDoorT9
import Derived.Test.YtnccclpjcidmeaaGreatDoorL1
namespace Go.Proofs
open Go Go.Sx
variable {mx : Int}
noncomputable def Γlw : Ctx := fun f => match f with
  | 13 => some (.pure ctSmall)
  | 16 => some (.pure ctAlive)
  | 17 => some (.pure ctMtT)
  | 18 => some (.pure ctMtT)
  | _ => none
theorem Γlw_ok : CtxOk Tryz.prog (GlT mx) Γlw := by
  intro f h hh
  simp only [Γlw] at hh
  split at hh <;> simp at hh <;> subst hh
  · exact rsmall_ok
  · exact (alive_ok mx)
  · exact mText_ok
  · exact rText_ok
set_option maxHeartbeats 4000000 in
theorem lawTexts_ok : Sound Tryz.prog (GlT mx) 4 ctLawC := by
  refine sound_by (cc := true) Γlw_ok Tryz.T_ok Tryz.mixed Tryz.func4 rfl (by kernel_rfl) (fun _ => rfl) (fun _ _ => by show 1 ≤ 32; decide) ?_
  intro (l : List Mp) (hl : l.length ≤ 9223372036854775807)
  rcases Bool.eq_false_or_eq_true (smallB l) with h | h
  · have p1 : ctMtT.pre l := small_fitS h
    repeat' (first | refine wk1 ?_ | refine wk2 ?_ | refine wk3 ?_ | refine wt1 ?_ | refine wt2 ?_ | refine wt3 ?_ | refine wt4 ?_ | refine wca _ (EntL.refl _) ?_ | refine wcb _ (EntL.refl _) ?_ | refine wca () (EntL.refl _) ?_ | refine wcb () (EntL.refl _) ?_ | refine bt0 ?_ | refine bt1 ?_ | refine bt2 ?_ | refine bt3 ?_ | refine bt4 ?_ | refine wn1 ?_ | refine wn2 ?_ | refine wnb ?_ | refine wa ?_ | refine wn5 ?_ | refine br (fun _ => ?_) (fun _ => ?_) | refine brF (fun _ => ?_) (fun _ => ?_))
    exact EntR.bool rfl
  · repeat' (first | refine wk1 ?_ | refine wk2 ?_ | refine wk3 ?_ | refine wt1 ?_ | refine wt2 ?_ | refine wt3 ?_ | refine wt4 ?_ | refine wca _ (EntL.refl _) ?_ | refine wcb _ (EntL.refl _) ?_ | refine wca () (EntL.refl _) ?_ | refine wcb () (EntL.refl _) ?_ | refine bt0 ?_ | refine bt1 ?_ | refine bt2 ?_ | refine bt3 ?_ | refine bt4 ?_ | refine wn1 ?_ | refine wn2 ?_ | refine wnb ?_ | refine wa ?_ | refine wn5 ?_ | refine br (fun _ => ?_) (fun _ => ?_) | refine brF (fun _ => ?_) (fun _ => ?_))
    exact EntR.bool rfl
#print axioms lawTexts_ok
end Go.Proofs
