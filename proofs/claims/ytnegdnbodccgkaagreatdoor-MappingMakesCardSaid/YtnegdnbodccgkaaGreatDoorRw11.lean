import Derived.Test.YtnegdnbodccgkaaGreatDoorRz
set_option linter.unusedVariables false
set_option linter.unusedSimpArgs false
namespace Go.Proofs
open Go Go.Sx
theorem aliveRun11 (mx : Int) : isV (callV (runX mx false) (runC (runX mx false) 900) 17 []) = true := by kernel_rfl
theorem alive11_ok (mx : Int) : Sound Tryz.prog (GlT mx false) 17 ctAlive := run_sound (runX_ok mx false) (isV_of (aliveRun11 mx))
#print axioms alive11_ok
end Go.Proofs
