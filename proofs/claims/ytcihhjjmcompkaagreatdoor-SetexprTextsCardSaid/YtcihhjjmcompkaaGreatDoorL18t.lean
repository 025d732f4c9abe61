import Derived.Test.YtcihhjjmcompkaaGreatDoorL18
import Derived.Test.YtcihhjjmcompkaaGreatDoorXl6
import Derived.Test.YtcihhjjmcompkaaGreatDoorCvz
set_option linter.unusedVariables false
set_option linter.unusedSimpArgs false
namespace Go.Proofs
open Go Go.Sx
variable {mx : Int} {pb : Bool}

/-! SetexprTexts: the law -/
def ctLaw18S : Ct := { ι := List Rg, inp := fun l => [setD l], out := fun _ => .v (.bool true), pre := fun _ => True }
noncomputable def Γlt (mx : Int) (pb : Bool) : Ctx := fun f => match f with
  | 15 => some (.pure ctSm2)
  | 17 => some (.pure ctSetTx)
  | 19 => some (.pure ctSetTx)
  | 18 => some (.pure ctPrs)
  | 20 => some (.pure ctSameS)
  | 21 => some (.pure ctMakeR)
  | 16 => some (.pure ctAl)
  | _ => none
theorem Γlt_ok : CtxOk Tryz.prog (GlT mx pb) (Γlt mx pb) := by
  intro f h hh
  simp only [Γlt] at hh
  split at hh <;> simp at hh <;> subst hh
  · exact r2Small_ok
  · exact pSetTx_ok
  · exact rSetTx_ok
  · exact prsC_ok
  · exact r2Same_ok
  · exact r2Make_ok
  · exact al_ok
set_option maxHeartbeats 4000000 in
theorem lawST_ok : Sound Tryz.prog (GlT mx pb) 3 ctLaw18S := by
  refine sound_by (cc := true) Γlt_ok Tryz.T_ok Tryz.mixed Tryz.func3 rfl (by kernel_rfl) (fun _ => rfl) (fun _ _ => by show 1 ≤ 37; decide) ?_
  intro (l : List Rg) _
  have a0 : ctAl.pre () := trivial
  by_cases hl : l.length ≤ 12
  · have p1 : ctSetTx.pre l := hl
    have p2 : ctMakeR.pre l := (by show l.length ≤ 10000; omega)
    have hc := canon_len l
    have p3 : ctSameS.pre (canon l, canon l) := ⟨(by show (canon l).length ≤ 1000000; omega), (by show (canon l).length ≤ 1000000; omega)⟩
    have e3 : ctSameS.out (canon l, canon l) = .v (.bool true) := congrArg (fun b => D.v (.bool b)) (decide_eq_true rfl)
    repeat' (first | refine gl ?_ | (refine br (fun q_ => ?_) (fun q_ => ?_) <;> try simp only [Int.toNat_natCast, Nat.mul_one, Nat.add_zero] at q_) | (refine brF (fun q_ => ?_) (fun q_ => ?_) <;> try simp only [Int.toNat_natCast, Nat.mul_one, Nat.add_zero] at q_))
    refine ⟨(zdb, setTx l), zdb_ent (EntL.refl _), zdb_sm, ?_⟩
    rw [prs_out (prs_tx zdb_sm hl)]
    repeat' (first | refine gl ?_ | (refine br (fun q_ => ?_) (fun q_ => ?_) <;> try simp only [Int.toNat_natCast, Nat.mul_one, Nat.add_zero] at q_) | (refine brF (fun q_ => ?_) (fun q_ => ?_) <;> try simp only [Int.toNat_natCast, Nat.mul_one, Nat.add_zero] at q_))
    exact EntR.bool rfl
  · repeat' (first | refine gl ?_ | (refine br (fun q_ => ?_) (fun q_ => ?_) <;> try simp only [Int.toNat_natCast, Nat.mul_one, Nat.add_zero] at q_) | (refine brF (fun q_ => ?_) (fun q_ => ?_) <;> try simp only [Int.toNat_natCast, Nat.mul_one, Nat.add_zero] at q_))
    exact EntR.bool rfl
end Go.Proofs
