import Derived.Test.YtnegdnbodccgkaaGreatDoorFs
import Derived.Test.YtnegdnbodccgkaaGreatDoorRw17
set_option linter.unusedVariables false
set_option linter.unusedSimpArgs false
namespace Go.Proofs
open Go Go.Sx
variable {mx : Int} {pb : Bool}

/-! the laws of chapter 17: Same, Back -/
noncomputable def ctSml2 : Ct := { ι := Db × Db, inp := fun x => [dbA x.1, dbA x.2], out := fun x => .v (.bool (smDb x.1 && smDb x.2)), pre := fun x => fitDb x.1 ∧ fitDb x.2 }
noncomputable def Γsm2 (mx : Int) (pb : Bool) : Ctx := fun f => match f with
  | 42 => some (.pure ctSmDb)
  | _ => none
theorem Γsm2_ok : CtxOk Tryz.prog (GlT mx pb) (Γsm2 mx pb) := by
  intro f h hh
  simp only [Γsm2] at hh
  split at hh <;> simp at hh <;> subst hh
  · exact rSmDb_ok
set_option maxHeartbeats 4000000 in
theorem rSml2_ok : Sound Tryz.prog (GlT mx pb) 13 ctSml2 := by
  refine sound_by (cc := true) Γsm2_ok Tryz.T_ok Tryz.mixed Tryz.func13 rfl (by kernel_rfl) (fun _ => rfl) (fun _ _ => by show 2 ≤ 11; decide) ?_
  rintro ⟨(a : Db), (b : Db)⟩ ⟨(ha : fitDb a), (hb : fitDb b)⟩
  have p1 : ctSmDb.pre a := ha
  have p2 : ctSmDb.pre b := hb
  rcases Bool.eq_false_or_eq_true (smDb a) with h | h
  · repeat' (first | refine gl ?_ | (refine br (fun q_ => ?_) (fun q_ => ?_) <;> try simp only [Int.toNat_natCast, Nat.mul_one, Nat.add_zero] at q_) | (refine brF (fun q_ => ?_) (fun q_ => ?_) <;> try simp only [Int.toNat_natCast, Nat.mul_one, Nat.add_zero] at q_))
    exact EntR.bool (show smDb b = (smDb a && smDb b) by rw [h]; rfl)
  · repeat' (first | refine gl ?_ | (refine br (fun q_ => ?_) (fun q_ => ?_) <;> try simp only [Int.toNat_natCast, Nat.mul_one, Nat.add_zero] at q_) | (refine brF (fun q_ => ?_) (fun q_ => ?_) <;> try simp only [Int.toNat_natCast, Nat.mul_one, Nat.add_zero] at q_))
    exact EntR.bool (show false = (smDb a && smDb b) by rw [h]; rfl)
theorem cmpL_len (a b : Db) : (cmpL a b).length ≤ 30000000 := by
  by_cases h : cmpE a b = 0
  · have := chsTo_len a b 20
    rw [cmpL_ok h]
    omega
  · rw [cmpL_no h]
    exact Nat.zero_le _
def ctLaw2 : Ct := { ι := Db × Db, inp := fun x => [dbA x.1, dbA x.2], out := fun _ => .v (.bool true), pre := fun x => fitDb x.1 ∧ fitDb x.2 }
noncomputable def Γlv : Ctx := fun f => match f with
  | 13 => some (.pure ctSml2)
  | 14 => some (.pure ctAlive)
  | 15 => some (.pure ctVCmp)
  | 42 => some (.pure ctSmDb)
  | 47 => some (.pure ctDbE)
  | _ => none
theorem Γlv_ok {mx : Int} : CtxOk Tryz.prog (GlT mx true) Γlv := by
  intro f h hh
  simp only [Γlv] at hh
  split at hh <;> simp at hh <;> subst hh
  · exact rSml2_ok
  · exact alive_ok mx
  · exact pCompare_ok
  · exact rSmDb_ok
  · exact pDbE_ok
end Go.Proofs

namespace Go.Proofs
open Go Go.Sx
variable {mx : Int} {pb : Bool}

/-! Compare of a database with itself -/
def verA (x : Int × Int) : D := .ag [.v (.int .i64 x.1), .v (.int .i64 x.2)]
def withV (a : Db) (v : Int × Int) : Db := ⟨v.1, v.2, a.prs, a.cls, a.sts, a.mps⟩
theorem chsTo_nil {a b : Db} (h : ∀ k, k < 20 → partOf b k = partOf a k) : ∀ k, k ≤ 20 → chsTo a b k = []
  | 0, _ => rfl
  | k + 1, hk => by
    rw [chsTo, chsTo_nil h k (by omega), chK, h k (by omega)]
    exact chU_same _ _ _
theorem cmpL_nil {a b : Db} (h : ∀ k, k < 20 → partOf b k = partOf a k) : cmpL a b = [] := by
  by_cases e : cmpE a b = 0
  · rw [cmpL_ok e, chsTo_nil h 20 (Nat.le_refl _)]
  · exact cmpL_no e
theorem part_withV (a : Db) (v : Int × Int) (k : Nat) : partOf (withV a v) k = partOf a k := by
  unfold partOf; split <;> rfl
def ctLawS : Ct := { ι := Db × (Int × Int), inp := fun x => [dbA x.1, verA x.2], out := fun _ => .v (.bool true), pre := fun x => fitDb x.1 }
end Go.Proofs
