import Derived.Test.YtnccclpjcidmeaaGreatDoorM3
import Derived.Test.YtnccclpjcidmeaaGreatDoorRb
namespace Go.Proofs
open Go Go.Sx
variable {mx : Int}
def ctAlive : Ct := { ι := Unit, inp := fun _ => [], out := fun _ => .v (.bool true), pre := fun _ => True }
noncomputable def Γl : Ctx := fun f => match f with
  | 13 => some (.pure ctSmall)
  | 14 => some (.pure ctCheck)
  | 15 => some (.pure ctCheck)
  | 16 => some (.pure ctAlive)
  | _ => none
theorem Γl_ok : CtxOk Tryz.prog (GlT mx) Γl := by
  intro f h hh
  simp only [Γl] at hh
  split at hh <;> simp at hh <;> subst hh
  · exact rsmall_ok
  · exact check_ok
  · exact rcheck_ok
  · exact alive_ok mx
def ctLawC : Ct := { ι := List Mp, inp := fun l => [mpsD l], out := fun _ => .v (.bool true), pre := fun l => l.length ≤ 9223372036854775807 }
set_option maxHeartbeats 600000 in
theorem lawChecks_ok : Sound Tryz.prog (GlT mx) 3 ctLawC := by
  refine sound_by (cc := false) Γl_ok Tryz.T_ok Tryz.mixed Tryz.func3 rfl (by kernel_rfl) (fun _ => rfl) (fun _ _ => by show 1 ≤ 16; decide) ?_
  intro (l : List Mp) (hl : l.length ≤ 9223372036854775807)
  repeat first | refine wk1 ?_ | refine wk2 ?_ | refine wk3 ?_
  refine ⟨l, EntL.refl _, hl, ?_⟩
  repeat first | refine wk1 ?_ | refine wk2 ?_ | refine wk3 ?_
  refine ⟨l, EntL.refl _, fun h => small_fit (show smallB l = true by simpa using h), ?_⟩
  repeat first | refine wk1 ?_ | refine wk2 ?_ | refine wk3 ?_
  refine ⟨l, EntL.refl _, fun h => small_fit (show smallB l = true by simpa using h), ?_⟩
  repeat first | refine wk1 ?_ | refine wk2 ?_ | refine wk3 ?_
  refine ⟨(), EntL.refl _, fun _ => trivial, ?_⟩
  repeat first | refine wk1 ?_ | refine wk2 ?_ | refine wk3 ?_
  refine EntR.bool ?_
  simp
#print axioms lawChecks_ok
end Go.Proofs
