import Derived.Test.YtnccclpjcidmeaaGreatDoorBase
import Derived.Lib.Bytealg
namespace Go.Proofs
open Go Go.Sx

/-! functions without a text, and what a run is told of others -/
def idxL : List UInt8 → UInt8 → Int → Int
  | [], _, _ => -1
  | b :: l, c, k => match b == c with | true => k | false => idxL l c (k + 1)
def idxB (s : ByteArray) (c : Int) : Int := idxL s.data.toList c.toNat.toUInt8 0
def cntB (s : ByteArray) (c : Int) : Int := ((Lib.countByte s.data.toList c.toNat.toUInt8 : Nat) : Int)
def sameG : List D → Option D
  | [d] => some d
  | _ => none
def idxG : List D → Option D
  | [.v (.string s), .v (.int .u8 c)] => some (.v (.int .i64 (idxB s c)))
  | _ => none
def cntG : List D → Option D
  | [.v (.string s), .v (.int .u8 c)] => some (.v (.int .i64 (cntB s c)))
  | _ => none
def extT (f : Nat) (ds : List D) : Option D := if f = 121 then sameG ds else if f = 179 then idxG ds else if f = 182 then cntG ds else none
def dots : ByteArray := ⟨#[46, 46]⟩
def sA : ByteArray := ⟨#[48, 48, 67, 53]⟩
def sB : ByteArray := ⟨#[70, 66, 48, 49]⟩
def sC : ByteArray := ⟨#[48, 48, 52, 49, 46, 46, 48, 48, 52, 51]⟩
def eqB0 (s x : ByteArray) : Bool := @decide (s = x) (baDec s x)
def idx2 : List D → Option D
  | [.v (.string s), .v (.string t)] => if eqB0 t dots then (if eqB0 s sA then some (.v (.int .i64 (-1))) else if eqB0 s sB then some (.v (.int .i64 (-1))) else if eqB0 s sC then some (.v (.int .i64 4)) else none) else none
  | _ => none
def sumT (f : Nat) (ds : List D) : Option D := if f = 159 then idx2 ds else none
def offT : List Nat := [0, 1, 48, 69, 70, 71, 72, 82, 91, 92, 98, 104, 120, 121, 126, 127, 132, 152, 155, 171, 179, 182, 183, 184, 185, 186, 187, 188, 189, 190, 191, 192, 193, 194, 195, 196, 197, 198, 199, 200, 201, 202, 203, 204]
noncomputable def runX (mx : Int) : Env := { T := Tryz.T, Gl := GlT mx, fn := fun f => Tryz.prog.funcs[f]?, pf := fun f => decide (f < 206) && !(offT.contains f), same := fun f => f == 121 || f == 179 || f == 182, ext := extT, sum := sumT }
def isV : Option D → Bool | some (.v (.bool true)) => true | _ => false
theorem isV_of {o : Option D} (h : isV o = true) : o = some (.v (.bool true)) := by
  unfold isV at h
  split at h
  · rfl
  · simp at h
end Go.Proofs
