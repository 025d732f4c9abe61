import Derived.Test.YtnegdnbodccgkaaGreatDoorLPd
set_option linter.unusedVariables false
set_option linter.unusedSimpArgs false
namespace Go.Proofs
open Go Go.Sx
variable {mx : Int} {pb : Bool}

/-! the law of chapter 10: Sets -/
def ctLawSs : Ct := { ι := Pr × Int × Int, inp := fun x => [prA x.1, .v (.int .i64 x.2.1), .v (.int .i64 x.2.2)], out := fun _ => .v (.bool true), pre := fun _ => True }
noncomputable def Γls (mx : Int) : Ctx := fun f => match f with
  | 31 => some (.pure (ctFewP 20))
  | 26 => some (.pure ctAlive)
  | 32 => some (.pure ctSetV)
  | 34 => some (.pure ctSetV)
  | 33 => some (.pure ctSameS)
  | 35 => some (.pure ctAndS)
  | _ => none
theorem Γls_ok {mx : Int} : CtxOk Tryz.prog (GlT mx false) (Γls mx) := by
  intro f h hh
  simp only [Γls] at hh
  split at hh <;> simp at hh <;> subst hh
  · exact rFewP_ok 20
  · exact awake_ok mx
  · exact pSetV_ok
  · exact rSetV_ok
  · exact r2Same_ok
  · exact rAnd_ok
set_option maxHeartbeats 4000000 in
theorem lawPSet_ok {mx : Int} : Sound Tryz.prog (GlT mx false) 8 ctLawSs := by
  refine sound_by (cc := true) Γls_ok Tryz.T_ok Tryz.mixed Tryz.func8 rfl (by kernel_rfl) (fun _ => rfl) (fun _ _ => by show 3 ≤ 39; decide) ?_
  rintro ⟨(p : Pr), (a : Int), (b : Int)⟩ _
  rcases Bool.eq_false_or_eq_true (fewP p 20) with h | h
  · have hl := (fewP_iff.1 h).2
    have hs : p.spans.length ≤ 1000 := by omega
    have ps : ∀ v, ctSetV.pre (p, v) := fun _ => hs
    have hla := setV_len a hs
    have hlb := setV_len b hs
    repeat (first | refine wk1 ?_ | refine wk2 ?_ | refine wk3 ?_ | refine wt1 ?_ | refine wt2 ?_ | refine wt3 ?_ | refine wt4 ?_ | refine wca p (EntL.refl _) ?_ | refine bt1 ?_ | refine bt2 ?_ | refine bt3 ?_ | refine bt4 ?_)
    refine .inr ⟨.stage [0, 1, 2, 3, 4, 5] (.alt 6 [0, 1, 2, 3, 4, 5] (.stage [] (.alt 7 [0, 1, 2, 3, 4, 5] (.stage [] (.alt 8 [] (.stage [] (.alt 9 [] (.done []) .nil)) .nil)) .nil)) (.alt 7 [0, 1, 2, 3, 4, 5] (.stage [] (.alt 6 [0, 1, 2, 3, 4, 5] (.stage [] (.alt 8 [] (.stage [] (.alt 9 [] (.done []) .nil)) .nil)) .nil)) .nil)), by decide +kernel, ?_⟩
    refine ⟨(p, a), EntL.refl _, fun _ => ps a, ?_⟩
    refine ⟨(p, b), EntL.refl _, fun _ => ps b, ?_⟩
    refine And.intro rfl (And.intro rfl (And.intro ⟨(p, a), EntL.refl _, fun _ => ps a, rfl⟩ (And.intro rfl (And.intro rfl (And.intro ⟨(p, b), EntL.refl _, fun _ => ps b, rfl⟩ ?_)))))
    refine And.intro ?_ ?_
    all_goals refine And.intro rfl (And.intro rfl (And.intro ⟨(p, a), EntL.refl _, fun _ => ps a, rfl⟩ (And.intro rfl (And.intro rfl (And.intro ⟨(p, b), EntL.refl _, fun _ => ps b, rfl⟩ ?_)))))
    all_goals refine And.intro rfl (And.intro rfl (And.intro ⟨(p, a), EntL.refl _, fun _ => ps a, rfl⟩ (And.intro rfl (And.intro rfl (And.intro ⟨(p, b), EntL.refl _, fun _ => ps b, rfl⟩ ?_)))))
    all_goals repeat' (first | refine gl ?_ | (refine br (fun q_ => ?_) (fun q_ => ?_) <;> try simp only [Int.toNat_natCast, Nat.mul_one, Nat.add_zero] at q_) | (refine brF (fun q_ => ?_) (fun q_ => ?_) <;> try simp only [Int.toNat_natCast, Nat.mul_one, Nat.add_zero] at q_))
    all_goals refine ⟨(p, a), EntL.refl _, fun _ => ps a, ?_⟩
    all_goals repeat' (first | refine gl ?_ | (refine br (fun q_ => ?_) (fun q_ => ?_) <;> try simp only [Int.toNat_natCast, Nat.mul_one, Nat.add_zero] at q_) | (refine brF (fun q_ => ?_) (fun q_ => ?_) <;> try simp only [Int.toNat_natCast, Nat.mul_one, Nat.add_zero] at q_))
    all_goals refine ⟨(setV p a, setV p a), EntL.refl _, fun _ => ⟨Nat.le_trans hla (by decide), Nat.le_trans hla (by decide)⟩, ?_⟩
    all_goals rw [show ctSameS.out (setV p a, setV p a) = .v (.bool true) from congrArg (fun b => D.v (.bool b)) (decide_eq_true rfl)]
    all_goals by_cases hab : a = b
    all_goals repeat' (first | refine gl ?_ | (refine br (fun q_ => ?_) (fun q_ => ?_) <;> try simp only [Int.toNat_natCast, Nat.mul_one, Nat.add_zero] at q_) | (refine brF (fun q_ => ?_) (fun q_ => ?_) <;> try simp only [Int.toNat_natCast, Nat.mul_one, Nat.add_zero] at q_))
    all_goals first
      | exact EntR.bool rfl
      | refine ⟨(setV p a, setV p b), EntL.refl _, ⟨Nat.le_trans hla (by decide), Nat.le_trans hlb (by decide)⟩, ?_⟩
    all_goals rw [show ctAndS.out (setV p a, setV p b) = setD [] from congrArg setD (sets_apart p hab)]
    all_goals repeat' (first | refine gl ?_ | (refine br (fun q_ => ?_) (fun q_ => ?_) <;> try simp only [Int.toNat_natCast, Nat.mul_one, Nat.add_zero] at q_) | (refine brF (fun q_ => ?_) (fun q_ => ?_) <;> try simp only [Int.toNat_natCast, Nat.mul_one, Nat.add_zero] at q_))
    all_goals exact EntR.bool rfl
  · repeat' (first | refine gl ?_ | (refine br (fun q_ => ?_) (fun q_ => ?_) <;> try simp only [Int.toNat_natCast, Nat.mul_one, Nat.add_zero] at q_) | (refine brF (fun q_ => ?_) (fun q_ => ?_) <;> try simp only [Int.toNat_natCast, Nat.mul_one, Nat.add_zero] at q_))
    exact EntR.bool rfl
#print axioms lawPSet_ok
end Go.Proofs
