import Derived.Test.YthfdmbmjjejbbaaGreatDoorGc
set_option linter.unusedVariables false
set_option linter.unusedSimpArgs false
namespace Go.Proofs
open Go Go.Sx
variable {mx : Int} {pb : Bool}
/-! strings.Builder, walked in place -/
def Γbc : Ctx := fun f => match f with
  | 91 => some (.ext sameG)
  | _ => none
theorem Γbc_ok : CtxOk Tryz.prog (GlT mx pb) Γbc := by
  intro f h hh
  simp only [Γbc] at hh
  split at hh <;> simp at hh <;> subst hh
  exact same_ok
noncomputable def cCopy : Code := (Tryz.f55.body).getD .skip
noncomputable def cWStr : Code := (Tryz.f26.body).getD .skip
noncomputable def cWByte : Code := (Tryz.f96.body).getD .skip
noncomputable def cBStr : Code := (Tryz.f30.body).getD .skip
noncomputable def Γbw (mx : Int) (pb : Bool) : Ctx := fun f => match f with
  | 55 => some (.gen (inlW true Γbc Tryz.T (GlT mx pb) Tryz.f55 cCopy))
  | _ => none
theorem Γbw_ok : CtxOk Tryz.prog (GlT mx pb) (Γbw mx pb) := by
  intro f h hh
  simp only [Γbw] at hh
  split at hh <;> simp at hh <;> subst hh
  exact soundT_inlW Γbc_ok Tryz.T_ok Tryz.mixed Tryz.func55 rfl (by kernel_rfl)
end Go.Proofs
