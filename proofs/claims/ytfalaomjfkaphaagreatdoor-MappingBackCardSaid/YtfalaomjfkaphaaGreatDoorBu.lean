import Derived.Test.YtfalaomjfkaphaaGreatDoorGc
set_option linter.unusedVariables false
set_option linter.unusedSimpArgs false
namespace Go.Proofs
open Go Go.Sx
variable {mx : Int} {pb : Bool}
/-! strings.Builder, walked in place -/
def Γbc : Ctx := fun f => match f with
  | 102 => some (.ext sameG)
  | _ => none
theorem Γbc_ok : CtxOk Tryz.prog (GlT mx pb) Γbc := by
  intro f h hh
  simp only [Γbc] at hh
  split at hh <;> simp at hh <;> subst hh
  exact same_ok
noncomputable def cCopy : Code := (Tryz.f78.body).getD .skip
noncomputable def cWStr : Code := (Tryz.f49.body).getD .skip
noncomputable def cWByte : Code := (Tryz.f48.body).getD .skip
noncomputable def cBStr : Code := (Tryz.f50.body).getD .skip
noncomputable def Γbw (mx : Int) (pb : Bool) : Ctx := fun f => match f with
  | 78 => some (.gen (inlW true Γbc Tryz.T (GlT mx pb) Tryz.f78 cCopy))
  | _ => none
theorem Γbw_ok : CtxOk Tryz.prog (GlT mx pb) (Γbw mx pb) := by
  intro f h hh
  simp only [Γbw] at hh
  split at hh <;> simp at hh <;> subst hh
  exact soundT_inlW Γbc_ok Tryz.T_ok Tryz.mixed Tryz.func78 rfl (by kernel_rfl)
end Go.Proofs
