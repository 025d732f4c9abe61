import Derived.Test.YtimpmahlmfdccaaGreatDoorGn
import Derived.WalkSmall
namespace Go.Proofs
open Go Go.Sx Go.RowKit
variable {mx : Int} {pb : Bool}

/-! strings.Cut -/
def cutA (s sep : ByteArray) : ByteArray := listB (Lib.cut s.data.toList sep.data.toList).1
def cutZ (s sep : ByteArray) : ByteArray := listB (Lib.cut s.data.toList sep.data.toList).2.1
def cutF (s sep : ByteArray) : Bool := (Lib.cut s.data.toList sep.data.toList).2.2
def ctCutS : Ct := { ι := ByteArray × ByteArray, inp := fun x => [.v (.string x.1), .v (.string x.2)], out := fun x => .tu [.v (.string (cutA x.1 x.2)), .v (.string (cutZ x.1 x.2)), .v (.bool (cutF x.1 x.2))], pre := fun x => x.1.size < 4294967281 }
theorem tu3 {M : Mem} {E : List Value} {x y z : Value} : Rep M E (.tu [.v x, .v y, .v z]) (.tuple #[x, y, z]) := by
  simp only [Rep]
  refine ⟨_, rfl, ?_⟩
  simp only [RepL, Rep]
  exact ⟨_, _, rfl, rfl, _, _, rfl, rfl, _, _, rfl, rfl, rfl⟩
theorem tu2 {M : Mem} {E : List Value} {x y : Value} : Rep M E (.tu [.v x, .v y]) (.tuple #[x, y]) := by
  simp only [Rep]
  refine ⟨_, rfl, ?_⟩
  simp only [RepL, Rep]
  exact ⟨_, _, rfl, rfl, _, _, rfl, rfl, rfl⟩
theorem cutS_ok : Sound Tryz.prog (GlT mx pb) 126 ctCutS := by
  refine sound_calls Tryz.func126 (by kernel_rfl) (by kernel_rfl) (fun _ => rfl) fun x hs M w us hfit hG hr => ?_
  have := two_vals hr
  subst this
  refine (Any.strings_Cut Tryz.lays145 x.1 x.2 mx w hs (gl_cell hfit hG rfl)).mono ?_
  rintro e w' ⟨rfl, n, rfl⟩
  exact ⟨_, rfl, tu3, below_drewN (Below.refl _ _) n⟩

end Go.Proofs
