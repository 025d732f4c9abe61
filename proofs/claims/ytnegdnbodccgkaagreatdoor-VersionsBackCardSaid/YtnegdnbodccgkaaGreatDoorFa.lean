import Derived.Test.YtnegdnbodccgkaaGreatDoorRz
import Derived.Test.YtnegdnbodccgkaaGreatDoorVv
set_option linter.unusedVariables false
set_option linter.unusedSimpArgs false
namespace Go.Proofs
open Go Go.Sx

/-! numerals of class values -/
def isS (o : Option D) (t : ByteArray) : Bool := match o with | some (.v (.string s)) => eqB s t | _ => false
theorem isS_of {o : Option D} {t : ByteArray} (h : isS o t = true) : o = some (.v (.string t)) := by
  unfold isS at h
  split at h
  · rw [eqB_iff.1 h]
  · simp at h
def allK (p : Nat → Bool) : Nat → Bool
  | 0 => true
  | k + 1 => p k && allK p k
theorem allK_get {p : Nat → Bool} : ∀ {n k : Nat}, allK p n = true → k < n → p k = true
  | 0, _, _, h => by omega
  | n + 1, k, h, hk => by
    simp only [allK, Bool.and_eq_true] at h
    by_cases e : k = n
    · subst e; exact h.1
    · exact allK_get h.2 (by omega)
def ctDec : Ct := { ι := Int, inp := fun n => [.v (.int .i64 n)], out := fun n => .v (.string (decB n)), pre := fun n => 0 ≤ n ∧ n ≤ 254 }
theorem itoaRun (mx : Int) : allK (fun n => isS (callV (runX mx true) (runC (runX mx true) 500) 162 [.v (.int .i64 (n : Int))]) (decB n)) 255 = true := by kernel_rfl
set_option maxRecDepth 100000 in
theorem itoa_ok {mx : Int} : Sound Tryz.prog (GlT mx true) 162 ctDec := by
  have key : ∀ n : Nat, n < 255 → Sound Tryz.prog (GlT mx true) 162 ⟨Unit, fun _ => [.v (.int .i64 (n : Int))], fun _ => .v (.string (decB n)), fun _ => True⟩ := fun n hn => run_sound (runX_ok mx true) (isS_of (allK_get (itoaRun mx) hn))
  refine ⟨(key 0 (by decide)).1, fun _ => rfl, fun (n : Int) ⟨(h0 : 0 ≤ n), (h1 : n ≤ 254)⟩ => ?_⟩
  obtain ⟨k, rfl⟩ : ∃ k : Nat, n = k := ⟨n.toNat, by omega⟩
  exact (key k (by omega)).2.2 () trivial
end Go.Proofs
