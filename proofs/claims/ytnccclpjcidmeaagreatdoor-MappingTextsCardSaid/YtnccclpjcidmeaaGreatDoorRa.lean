import Derived.Test.YtnccclpjcidmeaaGreatDoorSxQ
import Derived.Lib.Bytealg
import Derived.Test.YtnccclpjcidmeaaGreatDoorE6
import Derived.Test.YtnccclpjcidmeaaGreatDoorE7
namespace Go.Proofs
open Go Go.Sx
def digitsD : D := .pt 16 fun j => .v (.int .u8 (([48,49,50,51,52,53,54,55,56,57,65,66,67,68,69,70] : List Int).getD j 0))
/-- The variables that are told: the digits, and bytealg.MaxLen, which is any number. -/
def GlT (mx : Int) : Nat → Option D := fun g => if g = 0 then some digitsD else if g = 1 then some (.pt 1 fun _ => .v (.int .i64 mx)) else none
end Go.Proofs

namespace Go.Proofs
open Go Go.Sx

/-! functions without a text, and what a run is told of others -/
def idxL : List UInt8 → UInt8 → Int → Int
  | [], _, _ => -1
  | b :: l, c, k => match b == c with | true => k | false => idxL l c (k + 1)
def idxB (s : ByteArray) (c : Int) : Int := idxL s.data.toList c.toNat.toUInt8 0
def cntB (s : ByteArray) (c : Int) : Int := ((Lib.countByte s.data.toList c.toNat.toUInt8 : Nat) : Int)
def sameG : List D → Option D
  | [d] => some d
  | _ => none
def idxG : List D → Option D
  | [.v (.string s), .v (.int .u8 c)] => some (.v (.int .i64 (idxB s c)))
  | _ => none
def cntG : List D → Option D
  | [.v (.string s), .v (.int .u8 c)] => some (.v (.int .i64 (cntB s c)))
  | _ => none
def extT (f : Nat) (ds : List D) : Option D := if f = 121 then sameG ds else if f = 179 then idxG ds else if f = 182 then cntG ds else none
def dots : ByteArray := ⟨#[46, 46]⟩
def sA : ByteArray := ⟨#[48, 48, 67, 53]⟩
def sB : ByteArray := ⟨#[70, 66, 48, 49]⟩
def sC : ByteArray := ⟨#[48, 48, 52, 49, 46, 46, 48, 48, 52, 51]⟩
def eqB0 (s x : ByteArray) : Bool := @decide (s = x) (baDec s x)
def idx2 : List D → Option D
  | [.v (.string s), .v (.string t)] => if eqB0 t dots then (if eqB0 s sA then some (.v (.int .i64 (-1))) else if eqB0 s sB then some (.v (.int .i64 (-1))) else if eqB0 s sC then some (.v (.int .i64 4)) else none) else none
  | _ => none
def sumT (f : Nat) (ds : List D) : Option D := if f = 159 then idx2 ds else none
def offT : List Nat := [0, 1, 48, 69, 70, 71, 72, 82, 91, 92, 98, 104, 120, 121, 126, 127, 132, 152, 155, 171, 179, 182, 183, 184, 185, 186, 187, 188, 189, 190, 191, 192, 193, 194, 195, 196, 197, 198, 199, 200, 201, 202, 203, 204]
noncomputable def runX (mx : Int) : Env := { T := Tryz.T, Gl := GlT mx, fn := fun f => Tryz.prog.funcs[f]?, pf := fun f => decide (f < 206) && !(offT.contains f), same := fun f => f == 121 || f == 179 || f == 182, ext := extT, sum := sumT }
def isV : Option D → Bool | some (.v (.bool true)) => true | _ => false
theorem isV_of {o : Option D} (h : isV o = true) : o = some (.v (.bool true)) := by
  unfold isV at h
  split at h
  · rfl
  · simp at h
end Go.Proofs

namespace Go.Proofs
open Go Go.Sx
variable {mx : Int}

theorem Tryz.mixed : Tryz.prog.follows .mixedOrders = true := by kernel_rfl
def Γ0 : Ctx := fun _ => none
theorem Γ0_ok : CtxOk Tryz.prog (GlT mx) Γ0 := fun f h hh => by simp [Γ0] at hh

theorem run_mark {P : Program} {w : World} {m} : Sem.run P (Sem.mark m (Sem.pure ())) w = .ok () w := rfl

theorem same_ok : SoundS Tryz.prog (GlT mx) 121 sameG := by
  intro ds d hg M E us w _ _ hr
  unfold sameG at hg
  split at hg <;> simp at hg
  subst hg
  simp only [RepL] at hr
  obtain ⟨u, r, hus, hu, rfl⟩ := hr
  have : us = #[u] := by apply Array.ext'; simpa using hus
  subst this
  refine ⟨u, ?_, hu⟩
  have hf : Tryz.prog.funcs[121]? = some Tryz.f121 := by kernel_rfl
  have h1 : (Tryz.f121.name == "runtime.NumGoroutine") = false := by kernel_rfl
  have h2 : Tryz.f121.body.isNone = true := by kernel_rfl
  have h3 : Extern.findNext Tryz.f121 = none := by kernel_rfl
  have h4 : Extern.find Tryz.f121 = some Extern.AbiNoEscape.same := by kernel_rfl
  have h5 : (Extern.AbiNoEscape.same #[u]).run Tryz.prog w = .ok u w := rfl
  have h6 : ∀ m, Sem.run Tryz.prog (Sem.mark m (Sem.pure ())) w = .ok () w := fun _ => rfl
  simp only [callFunc, Sem.run_bind, run_program, Result.andThen_ok, hf, h1, h2, h3, h4]
  simp [h5, h6, mark]

theorem two_args {M : Mem} {E : List Value} {x y : Value} {us : Array Value} (h : RepL M E [.v x, .v y] us.toList) : us = #[x, y] := by
  simp only [RepL, Rep] at h
  obtain ⟨u, r, h1, rfl, v, r', rfl, rfl, rfl⟩ := h
  apply Array.ext'; simpa using h1

theorem idxL_eq (c : UInt8) : ∀ (l : List UInt8) (k : Int), 0 ≤ k → idxL l c k = if Lib.indexByte l c = -1 then -1 else Lib.indexByte l c + k
  | [], k, _ => by simp [idxL, Lib.indexByte]
  | b :: l, k, hk => by
    have ih := idxL_eq c l (k + 1) (by omega)
    have hge := Lib.indexByte_ge l c
    simp only [idxL, Lib.indexByte]
    by_cases hb : (b == c) = true
    · simp only [hb, if_true]
      simp
    · have hb' : (b == c) = false := by simpa using hb
      simp only [hb', Bool.false_eq_true, if_false]
      rw [ih]
      by_cases h1 : Lib.indexByte l c = -1
      · simp [h1]
      · have h2 : (Lib.indexByte l c == -1) = false := by simpa using h1
        simp only [h1, h2, if_false, Bool.false_eq_true]
        have h3 : ¬ (Lib.indexByte l c + 1 = -1) := by omega
        simp only [h3, if_false]
        omega
theorem idxB_eq (s : ByteArray) (c : Int) : Lib.indexByte s.data.toList c.toNat.toUInt8 = idxB s c := by
  rw [idxB, idxL_eq _ _ _ (Int.le_refl _)]
  split
  · assumption
  · omega
theorem idx_ok : SoundS Tryz.prog (GlT mx) 179 idxG := by
  intro ds d hg M E us w _ _ hr
  unfold idxG at hg
  split at hg <;> simp at hg
  rename_i s c
  subst hg
  have := two_args hr
  subst this
  refine ⟨_, ?_, Rep.val _⟩
  have hf : Tryz.prog.funcs[179]? = some Tryz.f179 := by kernel_rfl
  have h1 : (Tryz.f179.name == "runtime.NumGoroutine") = false := by kernel_rfl
  have h2 : Tryz.f179.body.isNone = true := by kernel_rfl
  have h3 : Extern.findNext Tryz.f179 = none := by kernel_rfl
  have h4 : Extern.find Tryz.f179 = some Extern.BytealgIndexByte.indexByte := by kernel_rfl
  have h5 : (Extern.BytealgIndexByte.indexByte #[.string s, .int .u8 c]).run Tryz.prog w = .ok (.int .i64 (idxB s c)) w := by rw [← idxB_eq]; exact Lib.run_indexByteString s c w
  have h6 : ∀ m, Sem.run Tryz.prog (Sem.mark m (Sem.pure ())) w = .ok () w := fun _ => rfl
  simp only [callFunc, Sem.run_bind, run_program, Result.andThen_ok, hf, h1, h2, h3, h4]
  simp [h5, h6, mark]

theorem cnt_ok : SoundS Tryz.prog (GlT mx) 182 cntG := by
  intro ds d hg M E us w _ _ hr
  unfold cntG at hg
  split at hg <;> simp at hg
  rename_i s c
  subst hg
  have := two_args hr
  subst this
  refine ⟨_, ?_, Rep.val _⟩
  have hf : Tryz.prog.funcs[182]? = some Tryz.f182 := by kernel_rfl
  have h1 : (Tryz.f182.name == "runtime.NumGoroutine") = false := by kernel_rfl
  have h2 : Tryz.f182.body.isNone = true := by kernel_rfl
  have h3 : Extern.findNext Tryz.f182 = none := by kernel_rfl
  have h4 : Extern.find Tryz.f182 = some Extern.BytealgCount.count := by kernel_rfl
  have h5 : (Extern.BytealgCount.count #[.string s, .int .u8 c]).run Tryz.prog w = .ok (.int .i64 (cntB s c)) w := Lib.run_countString s c w
  have h6 : ∀ m, Sem.run Tryz.prog (Sem.mark m (Sem.pure ())) w = .ok () w := fun _ => rfl
  simp only [callFunc, Sem.run_bind, run_program, Result.andThen_ok, hf, h1, h2, h3, h4]
  simp [h5, h6, mark]
end Go.Proofs
