import Derived.Test.YtcihhjjmcompkaaGreatDoorRa0
import Derived.Test.YtcihhjjmcompkaaGreatDoorE8
set_option linter.unusedVariables false
set_option linter.unusedSimpArgs false
namespace Go.Proofs
open Go Go.Sx
variable {mx:Int}{pb:Bool}
theorem Γ0n_ok:CtxOk Tryz.prog (fun _=>none) Γ0:=fun f h hh=>by simp[Γ0] at hh
theorem quietR:DQuiet Tryz.prog 120:=by
 refine dquiet_of (cc:=true) Γ0n_ok Tryz.T_ok Tryz.mixed Tryz.func120 (by kernel_rfl) rfl rfl rfl (by decide) (by decide) ?_
 exact And.intro (fun h=>Bool.noConfusion h) (fun _=>And.intro rfl trivial)
theorem quietE:DQuiet Tryz.prog 53:=by
 refine dquiet_of (cc:=true) Γ0n_ok Tryz.T_ok Tryz.mixed Tryz.func53 (by kernel_rfl) rfl rfl rfl (by decide) (by decide) ?_
 exact And.intro (fun h=>Bool.noConfusion h) (fun _=>And.intro rfl trivial)
end Go.Proofs
