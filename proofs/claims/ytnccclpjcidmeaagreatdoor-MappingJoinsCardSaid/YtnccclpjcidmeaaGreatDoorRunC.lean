import Derived.Test.YtnccclpjcidmeaaGreatDoorRunB
namespace Go.Proofs
open Go Go.Sx
def okNames (P : Program) : Nat → Bool
  | 0 => true
  | n + 1 => (match P.funcs[n]? with | some fn => !(fn.name == "runtime.NumGoroutine") | none => true) && okNames P n
def okPures (P : Program) (off : List Nat) : Nat → Bool
  | 0 => true
  | n + 1 => (match P.funcs[n]? with | some fn => fn.body.isSome || off.contains n | none => false) && okPures P off n
theorem okNames_of {P : Program} : ∀ {n f : Nat} {fn : Func}, okNames P n = true → f < n → P.funcs[f]? = some fn → (fn.name == "runtime.NumGoroutine") = false
  | 0, f, fn, _, h, _ => by omega
  | n + 1, f, fn, ho, h, hf => by
    simp only [okNames, Bool.and_eq_true] at ho
    by_cases hfn : f = n
    · subst hfn; have := ho.1; rw [hf] at this; simpa using this
    · exact okNames_of ho.2 (by omega) hf
theorem okPures_of {P : Program} {off : List Nat} : ∀ {n f : Nat}, okPures P off n = true → f < n → off.contains f = false → ∃ fn, P.funcs[f]? = some fn ∧ fn.body.isSome = true
  | 0, f, _, h, _ => by omega
  | n + 1, f, ho, h, hf => by
    simp only [okPures, Bool.and_eq_true] at ho
    by_cases hfn : f = n
    · subst hfn
      have := ho.1
      cases hx : P.funcs[f]? with
      | none => rw [hx] at this; simp at this
      | some fn => rw [hx] at this; simp only [hf, Bool.or_false] at this; exact ⟨fn, rfl, this⟩
    · exact okPures_of ho.2 (by omega) hf
theorem names_ok : okNames Tryz.prog 206 = true := by kernel_rfl
theorem pures_ok : okPures Tryz.prog offT 206 = true := by kernel_rfl
theorem size_ok : Tryz.prog.funcs.size = 206 := by kernel_rfl
theorem runX_ok (mx : Int) : EnvOk Tryz.prog (runX mx) where
  types := Tryz.T_ok
  mixed := Tryz.mixed
  funcs := fun f fn h => h
  names := fun f fn h => okNames_of names_ok (by have := (Array.getElem?_eq_some_iff.1 h).1; rw [size_ok] at this; exact this) h
  pures := fun f h _ => by
    simp only [runX, Bool.and_eq_true, decide_eq_true_eq, Bool.not_eq_true'] at h
    exact okPures_of pures_ok h.1 h.2
  sames := fun f h => by
    have h : f = 121 ∨ f = 179 ∨ f = 182 := by
      simp only [runX, Bool.or_eq_true, beq_iff_eq] at h
      rcases h with (h | h) | h
      · exact .inl h
      · exact .inr (.inl h)
      · exact .inr (.inr h)
    rcases h with rfl | rfl | rfl
    · exact same_ok
    · exact idx_ok
    · exact cnt_ok
  sums := fun f ds d h => sums_ok f ds d h
theorem aliveRun (mx : Int) : isV (callV (runX mx) (runC (runX mx) 500) 16 []) = true := by kernel_rfl
theorem alive_ok (mx : Int) : Sound Tryz.prog (GlT mx) 16 ⟨Unit, fun _ => [], fun _ => .v (.bool true), fun _ => True⟩ := run_sound (runX_ok mx) (isV_of (aliveRun mx))
#print axioms alive_ok
end Go.Proofs
