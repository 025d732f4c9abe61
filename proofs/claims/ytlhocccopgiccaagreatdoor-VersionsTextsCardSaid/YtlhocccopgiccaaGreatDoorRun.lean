import Derived.Test.YtlhocccopgiccaaGreatDoorSxQ
import Derived.Test.YtlhocccopgiccaaGreatDoorSxU
namespace Go.Proofs
open Go Go.Sx
def digitsD : D := .pt 16 fun j => .v (.int .u8 (([48,49,50,51,52,53,54,55,56,57,65,66,67,68,69,70] : List Int).getD j 0))
def GlT : Nat → Option D := fun g => if g = 0 then some digitsD else none
def offT : List Nat := [0, 1, 35, 37, 47, 61, 62, 63, 66, 78, 79, 90, 96, 113, 119, 125, 128, 129, 130, 131, 132, 133, 134, 135, 136, 137, 138, 139, 140, 141, 142, 143, 144, 145, 146, 147, 148, 149, 150, 151, 152, 153, 154, 155, 166, 167, 168, 171, 173, 175, 190, 191, 192, 193, 194, 195, 196]
noncomputable def runX : Env := { T := Tryz.T, Gl := GlT, fn := fun f => Tryz.prog.funcs[f]?, pf := fun f => decide (f < 198) && !(offT.contains f), same := fun f => f == 90 }
def isV : Option D → Bool | some (.v (.bool true)) => true | _ => false
theorem isV_of {o : Option D} (h : isV o = true) : o = some (.v (.bool true)) := by
  unfold isV at h
  split at h
  · rfl
  · simp at h
def okNames (P : Program) : Nat → Bool
  | 0 => true
  | n + 1 => (match P.funcs[n]? with | some fn => !(fn.name == "runtime.NumGoroutine") | none => true) && okNames P n
def okPures (P : Program) (off : List Nat) : Nat → Bool
  | 0 => true
  | n + 1 => (match P.funcs[n]? with | some fn => fn.body.isSome || off.contains n | none => false) && okPures P off n
theorem okNames_of {P : Program} : ∀ {n f : Nat} {fn : Func}, okNames P n = true → f < n → P.funcs[f]? = some fn → (fn.name == "runtime.NumGoroutine") = false
  | 0, f, fn, _, h, _ => by omega
  | n + 1, f, fn, ho, h, hf => by
    simp only [okNames, Bool.and_eq_true] at ho
    by_cases hfn : f = n
    · subst hfn; have := ho.1; rw [hf] at this; simpa using this
    · exact okNames_of ho.2 (by omega) hf
theorem okPures_of {P : Program} {off : List Nat} : ∀ {n f : Nat}, okPures P off n = true → f < n → off.contains f = false → ∃ fn, P.funcs[f]? = some fn ∧ fn.body.isSome = true
  | 0, f, _, h, _ => by omega
  | n + 1, f, ho, h, hf => by
    simp only [okPures, Bool.and_eq_true] at ho
    by_cases hfn : f = n
    · subst hfn
      have := ho.1
      cases hx : P.funcs[f]? with
      | none => rw [hx] at this; simp at this
      | some fn => rw [hx] at this; simp only [hf, Bool.or_false] at this; exact ⟨fn, rfl, this⟩
    · exact okPures_of ho.2 (by omega) hf
theorem names_ok : okNames Tryz.prog 198 = true := by kernel_rfl
theorem pures_ok : okPures Tryz.prog offT 198 = true := by kernel_rfl
theorem size_ok : Tryz.prog.funcs.size = 198 := by kernel_rfl
theorem same_ok : SoundS Tryz.prog 90 := by
  intro w x
  have hf : Tryz.prog.funcs[90]? = some Tryz.f90 := by kernel_rfl
  have h1 : (Tryz.f90.name == "runtime.NumGoroutine") = false := by kernel_rfl
  have h2 : Tryz.f90.body.isNone = true := by kernel_rfl
  have h3 : Extern.findNext Tryz.f90 = none := by kernel_rfl
  have h4 : Extern.find Tryz.f90 = some Extern.AbiNoEscape.same := by kernel_rfl
  have h5 : (Extern.AbiNoEscape.same #[x]).run Tryz.prog w = .ok x w := rfl
  simp only [callFunc, Sem.run_bind, run_program, Result.andThen_ok, hf, h1, h2, h3, h4]
  have h6 : ∀ m, Sem.run Tryz.prog (Sem.mark m (Sem.pure ())) w = .ok () w := fun _ => rfl
  simp [h5, h6, mark]
theorem runX_ok : EnvOk Tryz.prog runX where
  types := Tryz.T_ok
  mixed := by kernel_rfl
  funcs := fun f fn h => h
  names := fun f fn h => okNames_of names_ok (by have := (Array.getElem?_eq_some_iff.1 h).1; rw [size_ok] at this; exact this) h
  pures := fun f h _ => by
    simp only [runX, Bool.and_eq_true, decide_eq_true_eq, Bool.not_eq_true'] at h
    exact okPures_of pures_ok h.1 h.2
  sames := fun f h => by
    have : f = 90 := by simpa [runX] using h
    subst this; exact same_ok
theorem aliveRun : isV (callV runX (runC runX 500) 11 []) = true := by kernel_rfl
theorem alive_ok : Sound Tryz.prog GlT 11 ⟨Unit, fun _ => [], fun _ => .v (.bool true), fun _ => True⟩ := run_sound runX_ok (isV_of aliveRun)
end Go.Proofs
