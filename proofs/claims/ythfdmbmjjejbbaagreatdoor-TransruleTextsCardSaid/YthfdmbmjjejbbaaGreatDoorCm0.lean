import Derived.Test.YthfdmbmjjejbbaaGreatDoorCmP
import Derived.Test.YthfdmbmjjejbbaaGreatDoorUz
set_option linter.unusedVariables false
set_option linter.unusedSimpArgs false
namespace Go.Proofs
open Go Go.Sx
variable {mx : Int} {pb : Bool}

/-! cpset.combine: states -/
def owC2 (A B : List Rg) (i j : Nat) (out : List Rg) : List Own := [.cells 40 [nilV], .cells 38 [rgsD A], .cells 3 [.v (.int .i64 i)], .cells 38 [rgsD B], .cells 3 [.v (.int .i64 j)], rowL 42 2 rgD out]
def sCa (A B : List Rg) (lo : Int) (i j : Nat) (out : List Rg) : St := ⟨[(0, .v (.int .i64 lo)), (1, .own 2 0), (2, .own 1 0)], owC2 A B i j out, []⟩
def sCb (A B : List Rg) (lo : Int) (i j : Nat) (out : List Rg) : St := ⟨[(0, .v (.int .i64 lo)), (1, .own 4 0), (2, .own 3 0)], owC2 A B i j out, []⟩
end Go.Proofs
