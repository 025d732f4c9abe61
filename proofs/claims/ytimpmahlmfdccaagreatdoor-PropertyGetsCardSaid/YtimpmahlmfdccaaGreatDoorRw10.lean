import Derived.Test.YtimpmahlmfdccaaGreatDoorRunT
namespace Go.Proofs
open Go Go.Sx
theorem awakeRun (mx : Int) : isV (callV (runX mx false) (runC (runX mx false) 500) 26 []) = true := by kernel_rfl
theorem awake_ok (mx : Int) : Sound Tryz.prog (GlT mx false) 26 ctAlive := run_sound (runX_ok mx false) (isV_of (awakeRun mx))
#print axioms awake_ok
end Go.Proofs
