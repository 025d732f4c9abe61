import Derived.Test.YthfdmbmjjejbbaaGreatDoorRa0
import Derived.Test.YthfdmbmjjejbbaaGreatDoorSxZ
set_option linter.unusedVariables false
set_option linter.unusedSimpArgs false
namespace Go.Proofs
open Go Go.Sx
variable {mx : Int} {pb : Bool}

/-! deferred closures that ask recover: where nothing fell they do nothing -/
theorem Γ0n_ok : CtxOk Tryz.prog (fun _ => none) Γ0 := fun f h hh => by simp [Γ0] at hh
theorem quietR : DQuiet Tryz.prog 86 := by
  refine dquiet_of (cc := true) Γ0n_ok Tryz.T_ok Tryz.mixed Tryz.func86 (by kernel_rfl) rfl rfl rfl (by decide) (by decide) ?_
  exact And.intro (fun h => Bool.noConfusion h) (fun _ => And.intro rfl trivial)
#print axioms quietR
theorem quietE : DQuiet Tryz.prog 179 := by
  refine dquiet_of (cc := true) Γ0n_ok Tryz.T_ok Tryz.mixed Tryz.func179 (by kernel_rfl) rfl rfl rfl (by decide) (by decide) ?_
  exact And.intro (fun h => Bool.noConfusion h) (fun _ => And.intro rfl trivial)
#print axioms quietE
end Go.Proofs
