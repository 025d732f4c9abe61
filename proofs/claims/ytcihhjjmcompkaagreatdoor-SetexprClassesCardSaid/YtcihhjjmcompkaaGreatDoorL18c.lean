import Derived.Test.YtcihhjjmcompkaaGreatDoorL18
import Derived.Test.YtcihhjjmcompkaaGreatDoorXl4
import Derived.Test.YtcihhjjmcompkaaGreatDoorUz
set_option linter.unusedVariables false
set_option linter.unusedSimpArgs false
namespace Go.Proofs
open Go Go.Sx
variable {mx : Int} {pb : Bool}
theorem Whole.len {d : Db} {s : ByteArray} {h : OkS d s} {L : List Rg} {q : PX} (w : Whole d s h L q) : L.length ≤ 6 * s.size := by
 have h1 := w.w.len
 have h2 := nbk_le (s := s) q.1.k
 have h3 := blP_le q
 have h4 := w.e
 have h5 : (blP (pst0 d s h)).1.s = s := rfl
 rw [h5] at h1
 omega
end Go.Proofs
