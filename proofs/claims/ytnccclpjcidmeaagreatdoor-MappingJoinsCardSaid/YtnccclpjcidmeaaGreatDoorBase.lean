import Derived.Test.YtnccclpjcidmeaaGreatDoorSxQ
namespace Go.Proofs
open Go Go.Sx
def digitsD : D := .pt 16 fun j => .v (.int .u8 (([48,49,50,51,52,53,54,55,56,57,65,66,67,68,69,70] : List Int).getD j 0))
/-- The variables that are told: the digits, and bytealg.MaxLen, which is any number. -/
def GlT (mx : Int) : Nat → Option D := fun g => if g = 0 then some digitsD else if g = 1 then some (.pt 1 fun _ => .v (.int .i64 mx)) else none
end Go.Proofs
