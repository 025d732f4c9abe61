import Derived.Test.YtnegdnbodccgkaaGreatDoorRz
set_option linter.unusedVariables false
set_option linter.unusedSimpArgs false
namespace Go.Proofs
open Go Go.Sx
theorem aliveRun (mx : Int) : isV (callV (runX mx true) (runC (runX mx true) 500) 14 []) = true := by kernel_rfl
theorem alive_ok (mx : Int) : Sound Tryz.prog (GlT mx true) 14 ctAlive := run_sound (runX_ok mx true) (isV_of (aliveRun mx))
#print axioms alive_ok
end Go.Proofs
