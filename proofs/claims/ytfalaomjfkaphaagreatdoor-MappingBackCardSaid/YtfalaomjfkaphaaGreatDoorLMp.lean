import Derived.Test.YtfalaomjfkaphaaGreatDoorMpQ
import Derived.Test.YtfalaomjfkaphaaGreatDoorMpW
import Derived.Test.YtfalaomjfkaphaaGreatDoorRz
set_option linter.unusedVariables false
set_option linter.unusedSimpArgs false
namespace Go.Proofs
open Go Go.Sx
variable {mx : Int} {pb : Bool}

/-! the law of chapter 11: Parses -/
noncomputable def Γlmp (mx : Int) : Ctx := fun f => match f with
  | 5 => some (.pure ctWide)
  | 6 => some (.pure ctAlive)
  | 7 => some (.pure ctMpP)
  | 8 => some (.pure ctMpP)
  | 9 => some (.pure ctSameM)
  | _ => none
theorem Γlmp_ok {mx : Int} : CtxOk Tryz.prog (GlT mx false) (Γlmp mx) := by
  intro f h hh
  simp only [Γlmp] at hh
  split at hh <;> simp at hh <;> subst hh
  · exact rWide_ok
  · exact alive11_ok mx
  · exact mParse_ok
  · exact rParse11_ok
  · exact rSameM_ok
theorem same_pre {l m : List Mp} (h1 : l.length ≤ 100000) (h2 : m.length ≤ 100000) (h3 : ∀ x ∈ l, x.to.length ≤ 1000) (h4 : ∀ x ∈ m, x.to.length ≤ 1000) : ctSameM.pre (l, m) :=
  ⟨(by show l.length ≤ 1000000; omega), (by show m.length ≤ 1000000; omega), fun k h => (by have := h3 _ (mem_getD h); show (l.getD k default).to.length ≤ 1000000; omega), fun k h => (by have := h4 _ (mem_getD h); show (m.getD k default).to.length ≤ 1000000; omega)⟩
def ctLawMp : Ct := { ι := ByteArray, inp := fun s => [.v (.string s)], out := fun _ => .v (.bool true), pre := fun _ => True }
set_option maxHeartbeats 8000000 in
theorem lawMPs_ok {mx : Int} : Sound Tryz.prog (GlT mx false) 3 ctLawMp := by
  refine sound_by (cc := true) Γlmp_ok Tryz.T_ok Tryz.mixed Tryz.func3 rfl (by kernel_rfl) (fun _ => rfl) (fun _ _ => by show 1 ≤ 41; decide) ?_
  intro (s : ByteArray) _
  have p1 : ctMpP.pre s := trivial
  by_cases ha : s.size > 800 ∧ s.size ≤ 65536
  · obtain ⟨ha1, ha2⟩ := ha
    repeat' (first | refine gl ?_ | (refine br (fun q_ => ?_) (fun q_ => ?_) <;> try simp only [Int.toNat_natCast, Nat.mul_one, Nat.add_zero] at q_) | (refine brF (fun q_ => ?_) (fun q_ => ?_) <;> try simp only [Int.toNat_natCast, Nat.mul_one, Nat.add_zero] at q_))
    all_goals first
      | exact EntR.bool rfl
      | (exfalso; omega)
      | trace_state
  have p2 : ctWide.pre (s, 2000) := trivial
  rcases Bool.eq_false_or_eq_true (wdB s 2000) with hw | hw
  · repeat' (first | refine gl ?_ | (refine br (fun q_ => ?_) (fun q_ => ?_) <;> try simp only [Int.toNat_natCast, Nat.mul_one, Nat.add_zero] at q_) | (refine brF (fun q_ => ?_) (fun q_ => ?_) <;> try simp only [Int.toNat_natCast, Nat.mul_one, Nat.add_zero] at q_))
    all_goals first
      | exact EntR.bool rfl
      | (exfalso; omega)
      | (refine ⟨(s, 2000), EntL.refl _, trivial, ?_⟩
         rw [show ctWide.out (s, 2000) = .v (.bool true) from congrArg (fun b => D.v (.bool b)) hw]
         repeat' (first | refine gl ?_ | (refine br (fun q_ => ?_) (fun q_ => ?_) <;> try simp only [Int.toNat_natCast, Nat.mul_one, Nat.add_zero] at q_) | (refine brF (fun q_ => ?_) (fun q_ => ?_) <;> try simp only [Int.toNat_natCast, Nat.mul_one, Nat.add_zero] at q_))
         all_goals first
           | exact EntR.bool rfl
           | (exfalso; omega)
           | trace_state)
      | trace_state
  · have hl := mp_few s (m := 2000) (by decide) (of_decide_eq_false hw)
    have he : ∀ x ∈ (mpO s).1, x.to.length ≤ 1000 := fun x hx => by have := (mp_elem hx).1; omega
    have p3 : ctSameM.pre ((mpO s).1, (mpO s).1) := same_pre (by omega) (by omega) he he
    have e2 : eqMs (mpO s).1 (mpO s).1 = true := eqMs_iff.2 rfl
    repeat' (first | refine gl ?_ | (refine br (fun q_ => ?_) (fun q_ => ?_) <;> try simp only [Int.toNat_natCast, Nat.mul_one, Nat.add_zero] at q_) | (refine brF (fun q_ => ?_) (fun q_ => ?_) <;> try simp only [Int.toNat_natCast, Nat.mul_one, Nat.add_zero] at q_))
    all_goals first
      | exact EntR.bool rfl
      | (exfalso; omega)
      | (refine ⟨(s, 2000), EntL.refl _, trivial, ?_⟩
         rw [show ctWide.out (s, 2000) = .v (.bool false) from congrArg (fun b => D.v (.bool b)) hw]
         repeat' (first | refine gl ?_ | (refine br (fun q_ => ?_) (fun q_ => ?_) <;> try simp only [Int.toNat_natCast, Nat.mul_one, Nat.add_zero] at q_) | (refine brF (fun q_ => ?_) (fun q_ => ?_) <;> try simp only [Int.toNat_natCast, Nat.mul_one, Nat.add_zero] at q_))
         all_goals first
           | exact EntR.bool rfl
           | (exfalso; omega)
           | (exfalso
              have q : ¬True ∨ ¬True ∨ true = false := by assumption
              simp at q
              done)
           | (exfalso
              have q : eqMs (mpO s).1 (mpO s).1 = false := by assumption
              rw [e2] at q
              exact Bool.noConfusion q)
           | trace_state)
      | trace_state
#print axioms lawMPs_ok
end Go.Proofs
