import Derived.Test.YtcihhjjmcompkaaGreatDoorLz
set_option linter.unusedVariables false
set_option linter.unusedSimpArgs false
namespace Go.Proofs
open Go Go.Sx
variable {mx : Int} {pb : Bool}
theorem whole_of {d : Db} {s : ByteArray} {h : OkS d s} {L : List Rg} {q : PX} (h91 : pkV (blP (pst0 d s h)).1 = 91) (r : runGrp 17 (blP (pst0 d s h)) = .ok L q) (e : (blP q).1.k = s.size) : Whole d s h L q := ⟨h91, r, e, runGrp_went 17 _ _ _ h91 r⟩
def fullR : List Rg := [(0, 1114111)]
theorem endG_t {L : List Rg} (h : Canon L) : endG true [] L = combL fullR L 3 := by
 unfold endG
 rw [if_pos rfl, canon_id h, or_nilL h]
 rfl
theorem endG_f {L : List Rg} (h : Canon L) : endG false [] L = L := by
 unfold endG
 rw [if_neg (by decide), canon_id h, or_nilL h]
end Go.Proofs
