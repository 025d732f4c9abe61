import Derived.Test.YtjfcfaiodbmodaaGreatDoorFc0
import Derived.Test.YtjfcfaiodbmodaaGreatDoorFbz
import Derived.Test.YtjfcfaiodbmodaaGreatDoorQ6
import Derived.Test.YtjfcfaiodbmodaaGreatDoorEa
set_option linter.unusedVariables false
set_option linter.unusedSimpArgs false
namespace Go.Proofs
open Go Go.Sx
variable {mx : Int} {pb : Bool}

/-! databases without error -/
def ctRMaps : Ct := { ι := Db × Nat, inp := fun x => [dbA x.1, .v (.string (nmK x.2))], out := fun x => .tu [mpsD (mpOf (partOf x.1 x.2)), .v (.bool (isMp (partOf x.1 x.2)))], pre := fun x => x.2 < 20 }
set_option maxHeartbeats 16000000 in
theorem rMaps_ok : Sound Tryz.prog (GlT mx pb) 118 ctRMaps := by
  refine sound_by (cc := true) Γ0_ok Tryz.T_ok Tryz.mixed Tryz.func118 rfl (by kernel_rfl) (fun _ => rfl) (fun _ _ => by show 2 ≤ 36; decide) ?_
  rintro ⟨(d : Db), (k : Nat)⟩ (hk : k < 20)
  match k, hk with
  | 0, _ =>
    repeat' (first | refine gl ?_ | (refine br (fun q_ => ?_) (fun q_ => ?_) <;> try simp only [Int.toNat_natCast, Nat.mul_one, Nat.add_zero] at q_) | (refine brF (fun q_ => ?_) (fun q_ => ?_) <;> try simp only [Int.toNat_natCast, Nat.mul_one, Nat.add_zero] at q_))
    first | exact EntR.of rfl (Ent.refl _) | exact EntR.of rfl (Ent.tu2 Ent.nil (Ent.refl _))
  | 1, _ =>
    repeat' (first | refine gl ?_ | (refine br (fun q_ => ?_) (fun q_ => ?_) <;> try simp only [Int.toNat_natCast, Nat.mul_one, Nat.add_zero] at q_) | (refine brF (fun q_ => ?_) (fun q_ => ?_) <;> try simp only [Int.toNat_natCast, Nat.mul_one, Nat.add_zero] at q_))
    first | exact EntR.of rfl (Ent.refl _) | exact EntR.of rfl (Ent.tu2 Ent.nil (Ent.refl _))
  | 2, _ =>
    repeat' (first | refine gl ?_ | (refine br (fun q_ => ?_) (fun q_ => ?_) <;> try simp only [Int.toNat_natCast, Nat.mul_one, Nat.add_zero] at q_) | (refine brF (fun q_ => ?_) (fun q_ => ?_) <;> try simp only [Int.toNat_natCast, Nat.mul_one, Nat.add_zero] at q_))
    first | exact EntR.of rfl (Ent.refl _) | exact EntR.of rfl (Ent.tu2 Ent.nil (Ent.refl _))
  | 3, _ =>
    repeat' (first | refine gl ?_ | (refine br (fun q_ => ?_) (fun q_ => ?_) <;> try simp only [Int.toNat_natCast, Nat.mul_one, Nat.add_zero] at q_) | (refine brF (fun q_ => ?_) (fun q_ => ?_) <;> try simp only [Int.toNat_natCast, Nat.mul_one, Nat.add_zero] at q_))
    first | exact EntR.of rfl (Ent.refl _) | exact EntR.of rfl (Ent.tu2 Ent.nil (Ent.refl _))
  | 4, _ =>
    repeat' (first | refine gl ?_ | (refine br (fun q_ => ?_) (fun q_ => ?_) <;> try simp only [Int.toNat_natCast, Nat.mul_one, Nat.add_zero] at q_) | (refine brF (fun q_ => ?_) (fun q_ => ?_) <;> try simp only [Int.toNat_natCast, Nat.mul_one, Nat.add_zero] at q_))
    first | exact EntR.of rfl (Ent.refl _) | exact EntR.of rfl (Ent.tu2 Ent.nil (Ent.refl _))
  | 5, _ =>
    repeat' (first | refine gl ?_ | (refine br (fun q_ => ?_) (fun q_ => ?_) <;> try simp only [Int.toNat_natCast, Nat.mul_one, Nat.add_zero] at q_) | (refine brF (fun q_ => ?_) (fun q_ => ?_) <;> try simp only [Int.toNat_natCast, Nat.mul_one, Nat.add_zero] at q_))
    first | exact EntR.of rfl (Ent.refl _) | exact EntR.of rfl (Ent.tu2 Ent.nil (Ent.refl _))
  | 6, _ =>
    repeat' (first | refine gl ?_ | (refine br (fun q_ => ?_) (fun q_ => ?_) <;> try simp only [Int.toNat_natCast, Nat.mul_one, Nat.add_zero] at q_) | (refine brF (fun q_ => ?_) (fun q_ => ?_) <;> try simp only [Int.toNat_natCast, Nat.mul_one, Nat.add_zero] at q_))
    first | exact EntR.of rfl (Ent.refl _) | exact EntR.of rfl (Ent.tu2 Ent.nil (Ent.refl _))
  | 7, _ =>
    repeat' (first | refine gl ?_ | (refine br (fun q_ => ?_) (fun q_ => ?_) <;> try simp only [Int.toNat_natCast, Nat.mul_one, Nat.add_zero] at q_) | (refine brF (fun q_ => ?_) (fun q_ => ?_) <;> try simp only [Int.toNat_natCast, Nat.mul_one, Nat.add_zero] at q_))
    first | exact EntR.of rfl (Ent.refl _) | exact EntR.of rfl (Ent.tu2 Ent.nil (Ent.refl _))
  | 8, _ =>
    repeat' (first | refine gl ?_ | (refine br (fun q_ => ?_) (fun q_ => ?_) <;> try simp only [Int.toNat_natCast, Nat.mul_one, Nat.add_zero] at q_) | (refine brF (fun q_ => ?_) (fun q_ => ?_) <;> try simp only [Int.toNat_natCast, Nat.mul_one, Nat.add_zero] at q_))
    first | exact EntR.of rfl (Ent.refl _) | exact EntR.of rfl (Ent.tu2 Ent.nil (Ent.refl _))
  | 9, _ =>
    repeat' (first | refine gl ?_ | (refine br (fun q_ => ?_) (fun q_ => ?_) <;> try simp only [Int.toNat_natCast, Nat.mul_one, Nat.add_zero] at q_) | (refine brF (fun q_ => ?_) (fun q_ => ?_) <;> try simp only [Int.toNat_natCast, Nat.mul_one, Nat.add_zero] at q_))
    first | exact EntR.of rfl (Ent.refl _) | exact EntR.of rfl (Ent.tu2 Ent.nil (Ent.refl _))
  | 10, _ =>
    repeat' (first | refine gl ?_ | (refine br (fun q_ => ?_) (fun q_ => ?_) <;> try simp only [Int.toNat_natCast, Nat.mul_one, Nat.add_zero] at q_) | (refine brF (fun q_ => ?_) (fun q_ => ?_) <;> try simp only [Int.toNat_natCast, Nat.mul_one, Nat.add_zero] at q_))
    first | exact EntR.of rfl (Ent.refl _) | exact EntR.of rfl (Ent.tu2 Ent.nil (Ent.refl _))
  | 11, _ =>
    repeat' (first | refine gl ?_ | (refine br (fun q_ => ?_) (fun q_ => ?_) <;> try simp only [Int.toNat_natCast, Nat.mul_one, Nat.add_zero] at q_) | (refine brF (fun q_ => ?_) (fun q_ => ?_) <;> try simp only [Int.toNat_natCast, Nat.mul_one, Nat.add_zero] at q_))
    first | exact EntR.of rfl (Ent.refl _) | exact EntR.of rfl (Ent.tu2 Ent.nil (Ent.refl _))
  | 12, _ =>
    repeat' (first | refine gl ?_ | (refine br (fun q_ => ?_) (fun q_ => ?_) <;> try simp only [Int.toNat_natCast, Nat.mul_one, Nat.add_zero] at q_) | (refine brF (fun q_ => ?_) (fun q_ => ?_) <;> try simp only [Int.toNat_natCast, Nat.mul_one, Nat.add_zero] at q_))
    first | exact EntR.of rfl (Ent.refl _) | exact EntR.of rfl (Ent.tu2 Ent.nil (Ent.refl _))
  | 13, _ =>
    repeat' (first | refine gl ?_ | (refine br (fun q_ => ?_) (fun q_ => ?_) <;> try simp only [Int.toNat_natCast, Nat.mul_one, Nat.add_zero] at q_) | (refine brF (fun q_ => ?_) (fun q_ => ?_) <;> try simp only [Int.toNat_natCast, Nat.mul_one, Nat.add_zero] at q_))
    first | exact EntR.of rfl (Ent.refl _) | exact EntR.of rfl (Ent.tu2 Ent.nil (Ent.refl _))
  | 14, _ =>
    repeat' (first | refine gl ?_ | (refine br (fun q_ => ?_) (fun q_ => ?_) <;> try simp only [Int.toNat_natCast, Nat.mul_one, Nat.add_zero] at q_) | (refine brF (fun q_ => ?_) (fun q_ => ?_) <;> try simp only [Int.toNat_natCast, Nat.mul_one, Nat.add_zero] at q_))
    first | exact EntR.of rfl (Ent.refl _) | exact EntR.of rfl (Ent.tu2 Ent.nil (Ent.refl _))
  | 15, _ =>
    repeat' (first | refine gl ?_ | (refine br (fun q_ => ?_) (fun q_ => ?_) <;> try simp only [Int.toNat_natCast, Nat.mul_one, Nat.add_zero] at q_) | (refine brF (fun q_ => ?_) (fun q_ => ?_) <;> try simp only [Int.toNat_natCast, Nat.mul_one, Nat.add_zero] at q_))
    first | exact EntR.of rfl (Ent.refl _) | exact EntR.of rfl (Ent.tu2 Ent.nil (Ent.refl _))
  | 16, _ =>
    repeat' (first | refine gl ?_ | (refine br (fun q_ => ?_) (fun q_ => ?_) <;> try simp only [Int.toNat_natCast, Nat.mul_one, Nat.add_zero] at q_) | (refine brF (fun q_ => ?_) (fun q_ => ?_) <;> try simp only [Int.toNat_natCast, Nat.mul_one, Nat.add_zero] at q_))
    first | exact EntR.of rfl (Ent.refl _) | exact EntR.of rfl (Ent.tu2 Ent.nil (Ent.refl _))
  | 17, _ =>
    repeat' (first | refine gl ?_ | (refine br (fun q_ => ?_) (fun q_ => ?_) <;> try simp only [Int.toNat_natCast, Nat.mul_one, Nat.add_zero] at q_) | (refine brF (fun q_ => ?_) (fun q_ => ?_) <;> try simp only [Int.toNat_natCast, Nat.mul_one, Nat.add_zero] at q_))
    first | exact EntR.of rfl (Ent.refl _) | exact EntR.of rfl (Ent.tu2 Ent.nil (Ent.refl _))
  | 18, _ =>
    repeat' (first | refine gl ?_ | (refine br (fun q_ => ?_) (fun q_ => ?_) <;> try simp only [Int.toNat_natCast, Nat.mul_one, Nat.add_zero] at q_) | (refine brF (fun q_ => ?_) (fun q_ => ?_) <;> try simp only [Int.toNat_natCast, Nat.mul_one, Nat.add_zero] at q_))
    first | exact EntR.of rfl (Ent.refl _) | exact EntR.of rfl (Ent.tu2 Ent.nil (Ent.refl _))
  | 19, _ =>
    repeat' (first | refine gl ?_ | (refine br (fun q_ => ?_) (fun q_ => ?_) <;> try simp only [Int.toNat_natCast, Nat.mul_one, Nat.add_zero] at q_) | (refine brF (fun q_ => ?_) (fun q_ => ?_) <;> try simp only [Int.toNat_natCast, Nat.mul_one, Nat.add_zero] at q_))
    first | exact EntR.of rfl (Ent.refl _) | exact EntR.of rfl (Ent.tu2 Ent.nil (Ent.refl _))
  | k0 + 20, h => exact absurd (show k0 + 20 < 20 from h) (by omega)
def ctRSetF : Ct := { ι := Db × Nat, inp := fun x => [dbA x.1, .v (.string (nmK x.2))], out := fun x => .tu [setD (stOf (partOf x.1 x.2)), .v (.bool (isSt (partOf x.1 x.2)))], pre := fun x => x.2 < 20 }
set_option maxHeartbeats 16000000 in
theorem rSetF_ok : Sound Tryz.prog (GlT mx pb) 119 ctRSetF := by
  refine sound_by (cc := true) Γ0_ok Tryz.T_ok Tryz.mixed Tryz.func119 rfl (by kernel_rfl) (fun _ => rfl) (fun _ _ => by show 2 ≤ 38; decide) ?_
  rintro ⟨(d : Db), (k : Nat)⟩ (hk : k < 20)
  match k, hk with
  | 0, _ =>
    repeat' (first | refine gl ?_ | (refine br (fun q_ => ?_) (fun q_ => ?_) <;> try simp only [Int.toNat_natCast, Nat.mul_one, Nat.add_zero] at q_) | (refine brF (fun q_ => ?_) (fun q_ => ?_) <;> try simp only [Int.toNat_natCast, Nat.mul_one, Nat.add_zero] at q_))
    first | exact EntR.of rfl (Ent.refl _) | exact EntR.of rfl (Ent.tu2 (Ent.ag (EntL.cons Ent.nil (EntL.refl _))) (Ent.refl _))
  | 1, _ =>
    repeat' (first | refine gl ?_ | (refine br (fun q_ => ?_) (fun q_ => ?_) <;> try simp only [Int.toNat_natCast, Nat.mul_one, Nat.add_zero] at q_) | (refine brF (fun q_ => ?_) (fun q_ => ?_) <;> try simp only [Int.toNat_natCast, Nat.mul_one, Nat.add_zero] at q_))
    first | exact EntR.of rfl (Ent.refl _) | exact EntR.of rfl (Ent.tu2 (Ent.ag (EntL.cons Ent.nil (EntL.refl _))) (Ent.refl _))
  | 2, _ =>
    repeat' (first | refine gl ?_ | (refine br (fun q_ => ?_) (fun q_ => ?_) <;> try simp only [Int.toNat_natCast, Nat.mul_one, Nat.add_zero] at q_) | (refine brF (fun q_ => ?_) (fun q_ => ?_) <;> try simp only [Int.toNat_natCast, Nat.mul_one, Nat.add_zero] at q_))
    first | exact EntR.of rfl (Ent.refl _) | exact EntR.of rfl (Ent.tu2 (Ent.ag (EntL.cons Ent.nil (EntL.refl _))) (Ent.refl _))
  | 3, _ =>
    repeat' (first | refine gl ?_ | (refine br (fun q_ => ?_) (fun q_ => ?_) <;> try simp only [Int.toNat_natCast, Nat.mul_one, Nat.add_zero] at q_) | (refine brF (fun q_ => ?_) (fun q_ => ?_) <;> try simp only [Int.toNat_natCast, Nat.mul_one, Nat.add_zero] at q_))
    first | exact EntR.of rfl (Ent.refl _) | exact EntR.of rfl (Ent.tu2 (Ent.ag (EntL.cons Ent.nil (EntL.refl _))) (Ent.refl _))
  | 4, _ =>
    repeat' (first | refine gl ?_ | (refine br (fun q_ => ?_) (fun q_ => ?_) <;> try simp only [Int.toNat_natCast, Nat.mul_one, Nat.add_zero] at q_) | (refine brF (fun q_ => ?_) (fun q_ => ?_) <;> try simp only [Int.toNat_natCast, Nat.mul_one, Nat.add_zero] at q_))
    first | exact EntR.of rfl (Ent.refl _) | exact EntR.of rfl (Ent.tu2 (Ent.ag (EntL.cons Ent.nil (EntL.refl _))) (Ent.refl _))
  | 5, _ =>
    repeat' (first | refine gl ?_ | (refine br (fun q_ => ?_) (fun q_ => ?_) <;> try simp only [Int.toNat_natCast, Nat.mul_one, Nat.add_zero] at q_) | (refine brF (fun q_ => ?_) (fun q_ => ?_) <;> try simp only [Int.toNat_natCast, Nat.mul_one, Nat.add_zero] at q_))
    first | exact EntR.of rfl (Ent.refl _) | exact EntR.of rfl (Ent.tu2 (Ent.ag (EntL.cons Ent.nil (EntL.refl _))) (Ent.refl _))
  | 6, _ =>
    repeat' (first | refine gl ?_ | (refine br (fun q_ => ?_) (fun q_ => ?_) <;> try simp only [Int.toNat_natCast, Nat.mul_one, Nat.add_zero] at q_) | (refine brF (fun q_ => ?_) (fun q_ => ?_) <;> try simp only [Int.toNat_natCast, Nat.mul_one, Nat.add_zero] at q_))
    first | exact EntR.of rfl (Ent.refl _) | exact EntR.of rfl (Ent.tu2 (Ent.ag (EntL.cons Ent.nil (EntL.refl _))) (Ent.refl _))
  | 7, _ =>
    repeat' (first | refine gl ?_ | (refine br (fun q_ => ?_) (fun q_ => ?_) <;> try simp only [Int.toNat_natCast, Nat.mul_one, Nat.add_zero] at q_) | (refine brF (fun q_ => ?_) (fun q_ => ?_) <;> try simp only [Int.toNat_natCast, Nat.mul_one, Nat.add_zero] at q_))
    first | exact EntR.of rfl (Ent.refl _) | exact EntR.of rfl (Ent.tu2 (Ent.ag (EntL.cons Ent.nil (EntL.refl _))) (Ent.refl _))
  | 8, _ =>
    repeat' (first | refine gl ?_ | (refine br (fun q_ => ?_) (fun q_ => ?_) <;> try simp only [Int.toNat_natCast, Nat.mul_one, Nat.add_zero] at q_) | (refine brF (fun q_ => ?_) (fun q_ => ?_) <;> try simp only [Int.toNat_natCast, Nat.mul_one, Nat.add_zero] at q_))
    first | exact EntR.of rfl (Ent.refl _) | exact EntR.of rfl (Ent.tu2 (Ent.ag (EntL.cons Ent.nil (EntL.refl _))) (Ent.refl _))
  | 9, _ =>
    repeat' (first | refine gl ?_ | (refine br (fun q_ => ?_) (fun q_ => ?_) <;> try simp only [Int.toNat_natCast, Nat.mul_one, Nat.add_zero] at q_) | (refine brF (fun q_ => ?_) (fun q_ => ?_) <;> try simp only [Int.toNat_natCast, Nat.mul_one, Nat.add_zero] at q_))
    first | exact EntR.of rfl (Ent.refl _) | exact EntR.of rfl (Ent.tu2 (Ent.ag (EntL.cons Ent.nil (EntL.refl _))) (Ent.refl _))
  | 10, _ =>
    repeat' (first | refine gl ?_ | (refine br (fun q_ => ?_) (fun q_ => ?_) <;> try simp only [Int.toNat_natCast, Nat.mul_one, Nat.add_zero] at q_) | (refine brF (fun q_ => ?_) (fun q_ => ?_) <;> try simp only [Int.toNat_natCast, Nat.mul_one, Nat.add_zero] at q_))
    first | exact EntR.of rfl (Ent.refl _) | exact EntR.of rfl (Ent.tu2 (Ent.ag (EntL.cons Ent.nil (EntL.refl _))) (Ent.refl _))
  | 11, _ =>
    repeat' (first | refine gl ?_ | (refine br (fun q_ => ?_) (fun q_ => ?_) <;> try simp only [Int.toNat_natCast, Nat.mul_one, Nat.add_zero] at q_) | (refine brF (fun q_ => ?_) (fun q_ => ?_) <;> try simp only [Int.toNat_natCast, Nat.mul_one, Nat.add_zero] at q_))
    first | exact EntR.of rfl (Ent.refl _) | exact EntR.of rfl (Ent.tu2 (Ent.ag (EntL.cons Ent.nil (EntL.refl _))) (Ent.refl _))
  | 12, _ =>
    repeat' (first | refine gl ?_ | (refine br (fun q_ => ?_) (fun q_ => ?_) <;> try simp only [Int.toNat_natCast, Nat.mul_one, Nat.add_zero] at q_) | (refine brF (fun q_ => ?_) (fun q_ => ?_) <;> try simp only [Int.toNat_natCast, Nat.mul_one, Nat.add_zero] at q_))
    first | exact EntR.of rfl (Ent.refl _) | exact EntR.of rfl (Ent.tu2 (Ent.ag (EntL.cons Ent.nil (EntL.refl _))) (Ent.refl _))
  | 13, _ =>
    repeat' (first | refine gl ?_ | (refine br (fun q_ => ?_) (fun q_ => ?_) <;> try simp only [Int.toNat_natCast, Nat.mul_one, Nat.add_zero] at q_) | (refine brF (fun q_ => ?_) (fun q_ => ?_) <;> try simp only [Int.toNat_natCast, Nat.mul_one, Nat.add_zero] at q_))
    first | exact EntR.of rfl (Ent.refl _) | exact EntR.of rfl (Ent.tu2 (Ent.ag (EntL.cons Ent.nil (EntL.refl _))) (Ent.refl _))
  | 14, _ =>
    repeat' (first | refine gl ?_ | (refine br (fun q_ => ?_) (fun q_ => ?_) <;> try simp only [Int.toNat_natCast, Nat.mul_one, Nat.add_zero] at q_) | (refine brF (fun q_ => ?_) (fun q_ => ?_) <;> try simp only [Int.toNat_natCast, Nat.mul_one, Nat.add_zero] at q_))
    first | exact EntR.of rfl (Ent.refl _) | exact EntR.of rfl (Ent.tu2 (Ent.ag (EntL.cons Ent.nil (EntL.refl _))) (Ent.refl _))
  | 15, _ =>
    repeat' (first | refine gl ?_ | (refine br (fun q_ => ?_) (fun q_ => ?_) <;> try simp only [Int.toNat_natCast, Nat.mul_one, Nat.add_zero] at q_) | (refine brF (fun q_ => ?_) (fun q_ => ?_) <;> try simp only [Int.toNat_natCast, Nat.mul_one, Nat.add_zero] at q_))
    first | exact EntR.of rfl (Ent.refl _) | exact EntR.of rfl (Ent.tu2 (Ent.ag (EntL.cons Ent.nil (EntL.refl _))) (Ent.refl _))
  | 16, _ =>
    repeat' (first | refine gl ?_ | (refine br (fun q_ => ?_) (fun q_ => ?_) <;> try simp only [Int.toNat_natCast, Nat.mul_one, Nat.add_zero] at q_) | (refine brF (fun q_ => ?_) (fun q_ => ?_) <;> try simp only [Int.toNat_natCast, Nat.mul_one, Nat.add_zero] at q_))
    first | exact EntR.of rfl (Ent.refl _) | exact EntR.of rfl (Ent.tu2 (Ent.ag (EntL.cons Ent.nil (EntL.refl _))) (Ent.refl _))
  | 17, _ =>
    repeat' (first | refine gl ?_ | (refine br (fun q_ => ?_) (fun q_ => ?_) <;> try simp only [Int.toNat_natCast, Nat.mul_one, Nat.add_zero] at q_) | (refine brF (fun q_ => ?_) (fun q_ => ?_) <;> try simp only [Int.toNat_natCast, Nat.mul_one, Nat.add_zero] at q_))
    first | exact EntR.of rfl (Ent.refl _) | exact EntR.of rfl (Ent.tu2 (Ent.ag (EntL.cons Ent.nil (EntL.refl _))) (Ent.refl _))
  | 18, _ =>
    repeat' (first | refine gl ?_ | (refine br (fun q_ => ?_) (fun q_ => ?_) <;> try simp only [Int.toNat_natCast, Nat.mul_one, Nat.add_zero] at q_) | (refine brF (fun q_ => ?_) (fun q_ => ?_) <;> try simp only [Int.toNat_natCast, Nat.mul_one, Nat.add_zero] at q_))
    first | exact EntR.of rfl (Ent.refl _) | exact EntR.of rfl (Ent.tu2 (Ent.ag (EntL.cons Ent.nil (EntL.refl _))) (Ent.refl _))
  | 19, _ =>
    repeat' (first | refine gl ?_ | (refine br (fun q_ => ?_) (fun q_ => ?_) <;> try simp only [Int.toNat_natCast, Nat.mul_one, Nat.add_zero] at q_) | (refine brF (fun q_ => ?_) (fun q_ => ?_) <;> try simp only [Int.toNat_natCast, Nat.mul_one, Nat.add_zero] at q_))
    first | exact EntR.of rfl (Ent.refl _) | exact EntR.of rfl (Ent.tu2 (Ent.ag (EntL.cons Ent.nil (EntL.refl _))) (Ent.refl _))
  | k0 + 20, h => exact absurd (show k0 + 20 < 20 from h) (by omega)
def ctRNames : Ct := { ι := Unit, inp := fun _ => [], out := fun _ => slD 1 strD namesL, pre := fun _ => True }
set_option maxHeartbeats 1000000 in
theorem rNamesF_ok : Sound Tryz.prog (GlT mx pb) 45 ctRNames := by
  refine sound_by (cc := true) Γfl_ok Tryz.T_ok Tryz.mixed Tryz.func45 rfl (by kernel_rfl) (fun _ => rfl) (fun _ _ => by show 0 ≤ 3; decide) ?_
  intro (u : Unit) _
  have hlen := filesL_len
  repeat' (first | refine gl ?_ | (refine br (fun q_ => ?_) (fun q_ => ?_) <;> try simp only [Int.toNat_natCast, Nat.mul_one, Nat.add_zero] at q_) | (refine brF (fun q_ => ?_) (fun q_ => ?_) <;> try simp only [Int.toNat_natCast, Nat.mul_one, Nat.add_zero] at q_))
  refine EntR.of rfl (Ent.sl rfl fun i hi j hj => Ent.of_eq ?_)
  show strD (filesL.getD ((1 : Int).toNat + i) default) j = strD (namesL.getD i default) j
  rw [names_nm, nmK, show (1 : Int).toNat = 1 from rfl, Nat.add_comm]
def ctRPropF : Ct := { ι := Db × Nat, inp := fun x => [dbA x.1, .v (.string (nmK x.2))], out := fun x => prA (x.1.prs x.2), pre := fun x => x.2 < 7 }
def Γrpf : Ctx := fun f => match f with
  | 45 => some (.pure ctRNames)
  | 47 => some (.pure ctPropI)
  | _ => none
theorem Γrpf_ok : CtxOk Tryz.prog (GlT mx pb) Γrpf := by
  intro f h hh
  simp only [Γrpf] at hh
  split at hh <;> simp at hh <;> subst hh
  · exact rNamesF_ok
  · exact rProp_ok
set_option maxHeartbeats 4000000 in
theorem rPropF_ok : Sound Tryz.prog (GlT mx pb) 120 ctRPropF := by
  refine sound_by (cc := true) Γrpf_ok Tryz.T_ok Tryz.mixed Tryz.func120 rfl (by kernel_rfl) (fun _ => rfl) (fun _ _ => by show 2 ≤ 19; decide) ?_
  rintro ⟨(d : Db), (k : Nat)⟩ (hk : k < 7)
  have hlen : namesL.length = 20 := rfl
  repeat' (first | refine gl ?_ | (refine br (fun q_ => ?_) (fun q_ => ?_) <;> try simp only [Int.toNat_natCast, Nat.mul_one, Nat.add_zero] at q_) | (refine brF (fun q_ => ?_) (fun q_ => ?_) <;> try simp only [Int.toNat_natCast, Nat.mul_one, Nat.add_zero] at q_))
  refine ⟨0, Nat, fun j => ⟨[(1, .v (.string (nmK k))), (2, .own 0 0), (4, .own 1 0), (5, slD 1 strD namesL), (6, .v (.int .i64 j))], [.cells 39 (dbL d), .cells 27 [.v (.slice none 0 0), .v (.slice none 0 0)]], []⟩, fun j => j ≤ k, fun j => k - j, fun _ => Nat.zero_le _, ⟨0, Nat.zero_le _, StLe.ren [0, 1] tmS ⟨⟨rfl, EntL.refl _, rfl⟩, ⟨rfl, EntL.refl _, rfl⟩, trivial⟩ (by decide)⟩, ?_⟩
  intro j (hj : j ≤ k)
  have p1 : ctPropI.pre (d, (j : Int)) := ⟨by show 0 ≤ (j : Int); omega, by show (j : Int) < 7; omega⟩
  repeat' (first | refine gl ?_ | (refine br (fun q_ => ?_) (fun q_ => ?_) <;> try simp only [Int.toNat_natCast, Nat.mul_one, Nat.add_zero] at q_) | (refine brF (fun q_ => ?_) (fun q_ => ?_) <;> try simp only [Int.toNat_natCast, Nat.mul_one, Nat.add_zero] at q_))
  · rw [names_nm] at q_
    have hjk : j ≠ k := fun e => q_ (by rw [e])
    exact ⟨j + 1, (by show j + 1 ≤ k; omega), (by show k - (j + 1) < k - j; omega), StLe.ren [0, 1] tmS ⟨⟨rfl, EntL.refl _, rfl⟩, ⟨rfl, EntL.refl _, rfl⟩, trivial⟩ (by decide)⟩
  · rw [names_nm] at q_
    have hjk : j = k := nm_inj j (by omega) k (by omega) q_
    subst hjk
    exact EntR.of rfl (Ent.refl _)

/-! what the reference gives a code point -/
def szOk (s : ByteArray) (k : Nat) : Prop := s.size ≤ k * 600
def tgInv (l : List Mp) (c : Int) (x : Nat × ByteArray × Bool) : Prop := x.1 ≤ l.length ∧ szOk x.2.1 x.1 ∧ tgtK l c x.1 = x.2
theorem tg_mk {l : List Mp} {c : Int} {k : Nat} {s : ByteArray} {b : Bool} (h1 : k ≤ l.length) (h2 : s.size ≤ k * 600) (h3 : tgtK l c k = (s, b)) : tgInv l c (k, s, b) := ⟨h1, h2, h3⟩
theorem tg_sz {a b c n k : Nat} (h1 : a ≤ k * 600) (h2 : b ≤ 40) (h3 : c ≤ 7 * n) (h4 : n ≤ 65) : a + 1 + b + 1 + c ≤ (k + 1) * 600 := by
  rw [Nat.add_mul]; omega
theorem tg_sz' {a b c n k : Nat} (h1 : a ≤ k * 600) (h2 : b ≤ 40) (h3 : c ≤ 7 * n) (h4 : n ≤ 65) : a + b + 1 + c ≤ (k + 1) * 600 := by
  rw [Nat.add_mul]; omega
def Γtg : Ctx := fun f => match f with
  | 149 => some (.pure ctCdV)
  | _ => none
theorem Γtg_ok : CtxOk Tryz.prog (GlT mx pb) Γtg := by
  intro f h hh
  simp only [Γtg] at hh
  split at hh <;> simp at hh <;> subst hh
  · exact rCdV_ok
set_option maxHeartbeats 4000000 in
theorem rTgt_ok : Sound Tryz.prog (GlT mx pb) 122 ctTgt := by
  refine sound_by (cc := true) Γtg_ok Tryz.T_ok Tryz.mixed Tryz.func122 rfl (by kernel_rfl) (fun _ => rfl) (fun _ _ => by show 2 ≤ 46; decide) ?_
  rintro ⟨(l : List Mp), (c : Int)⟩ ⟨(hl : l.length ≤ 20), hv⟩
  have hv : ∀ k, k < l.length → allV (l.getD k default).to = true ∧ (l.getD k default).to.length ≤ 65 ∧ (l.getD k default).tag.size ≤ 40 := hv
  repeat' (first | refine gl ?_ | (refine br (fun q_ => ?_) (fun q_ => ?_) <;> try simp only [Int.toNat_natCast, Nat.mul_one, Nat.add_zero] at q_) | (refine brF (fun q_ => ?_) (fun q_ => ?_) <;> try simp only [Int.toNat_natCast, Nat.mul_one, Nat.add_zero] at q_))
  refine ⟨0, Nat × ByteArray × Bool, fun | (k, s, b) => ⟨[(0, mpsD l), (1, .v (.int .i64 c)), (5, .v (.string s)), (6, .v (.bool b)), (7, .v (.int .i64 k))], [], []⟩, tgInv l c, fun x => l.length - x.1, fun _ => Nat.zero_le _, ⟨(0, ⟨#[]⟩, false), tg_mk (Nat.zero_le _) (Nat.zero_le _) rfl, StLe.ren [] tmS trivial (by decide)⟩, ?_⟩
  rintro ⟨k, s, b⟩ ⟨hk, hsz, hst⟩
  have hk : k ≤ l.length := hk
  have hsz : s.size ≤ k * 600 := hsz
  have hst : tgtK l c k = (s, b) := hst
  by_cases hlt : k < l.length
  · obtain ⟨h1, h2, h3⟩ := hv k hlt
    have p1 : ctCdV.pre (l.getD k default).to := ⟨by omega, h1⟩
    have hcs : (codesS (l.getD k default).to).size ≤ 7 * (l.getD k default).to.length := codesK_size _ _
    have hnext : tgtK l c (k + 1) = tgtS c (s, b) (l.getD k default) := by rw [tgtK, hst]
    have hb1 : barS.size = 1 := rfl
    have hb2 : gtS.size = 1 := rfl
    repeat' (first | refine gl ?_ | (refine br (fun q_ => ?_) (fun q_ => ?_) <;> try simp only [Int.toNat_natCast, Nat.mul_one, Nat.add_zero] at q_) | (refine brF (fun q_ => ?_) (fun q_ => ?_) <;> try simp only [Int.toNat_natCast, Nat.mul_one, Nat.add_zero] at q_))
    · have e1 : tgtK l c (k + 1) = (s, b) := by rw [hnext, tgtS, if_neg q_]
      have e2 : s.size ≤ (k + 1) * 600 := Nat.le_trans hsz (Nat.mul_le_mul_right 600 (Nat.le_succ k))
      exact ⟨(k + 1, s, b), tg_mk (by omega) e2 e1, (by show _ - (k + 1) < _ - k; omega), StLe.ren [] tmS trivial (by decide)⟩
    · rename_i hf
      have e1 : tgtK l c (k + 1) = (bcat (bcat (bcat (bcat s barS) (l.getD k default).tag) gtS) (codesS (l.getD k default).to), true) := by rw [hnext, tgtS, if_pos hf, if_pos q_]
      have e2 : (bcat (bcat (bcat (bcat s barS) (l.getD k default).tag) gtS) (codesS (l.getD k default).to)).size ≤ (k + 1) * 600 := by
        simp only [bcat_size', hb1, hb2]
        exact tg_sz hsz h3 hcs h2
      exact ⟨(k + 1, bcat (bcat (bcat (bcat s barS) (l.getD k default).tag) gtS) (codesS (l.getD k default).to), true), tg_mk (by omega) e2 e1, (by show _ - (k + 1) < _ - k; omega), StLe.ren [] tmS trivial (by decide)⟩
    · rename_i hf
      have e1 : tgtK l c (k + 1) = (bcat (bcat (bcat s (l.getD k default).tag) gtS) (codesS (l.getD k default).to), true) := by rw [hnext, tgtS, if_pos hf, if_neg (show ¬ b = true by rw [q_]; decide)]
      have e2 : (bcat (bcat (bcat s (l.getD k default).tag) gtS) (codesS (l.getD k default).to)).size ≤ (k + 1) * 600 := by
        simp only [bcat_size', hb1, hb2]
        exact tg_sz' hsz h3 hcs h2
      exact ⟨(k + 1, bcat (bcat (bcat s (l.getD k default).tag) gtS) (codesS (l.getD k default).to), true), tg_mk (by omega) e2 e1, (by show _ - (k + 1) < _ - k; omega), StLe.ren [] tmS trivial (by decide)⟩
  · repeat' (first | refine gl ?_ | (refine br (fun q_ => ?_) (fun q_ => ?_) <;> try simp only [Int.toNat_natCast, Nat.mul_one, Nat.add_zero] at q_) | (refine brF (fun q_ => ?_) (fun q_ => ?_) <;> try simp only [Int.toNat_natCast, Nat.mul_one, Nat.add_zero] at q_))
    have e : k = l.length := by omega
    subst e
    exact EntR.str (by show s = (tgtK l c l.length).1; rw [hst])
def Γdc : Ctx := fun f => match f with
  | 148 => some (.pure ctDec)
  | _ => none
theorem Γdc_ok {mx : Int} : CtxOk Tryz.prog (GlT mx true) Γdc := by
  intro f h hh
  simp only [Γdc] at hh
  split at hh <;> simp at hh <;> subst hh
  exact dec_ok
set_option maxHeartbeats 4000000 in
theorem rClsV_ok {mx : Int} : Sound Tryz.prog (GlT mx true) 121 ctClsV := by
  refine sound_by (cc := true) Γdc_ok Tryz.T_ok Tryz.mixed Tryz.func121 rfl (by kernel_rfl) (fun _ => rfl) (fun _ _ => by show 2 ≤ 34; decide) ?_
  rintro ⟨(l : List Sp), (c : Int)⟩ ⟨(hl : l.length ≤ 1000), hv⟩
  have hv : ∀ k, k < l.length → 0 ≤ (l.getD k default).val ∧ (l.getD k default).val ≤ 254 := hv
  repeat' (first | refine gl ?_ | (refine br (fun q_ => ?_) (fun q_ => ?_) <;> try simp only [Int.toNat_natCast, Nat.mul_one, Nat.add_zero] at q_) | (refine brF (fun q_ => ?_) (fun q_ => ?_) <;> try simp only [Int.toNat_natCast, Nat.mul_one, Nat.add_zero] at q_))
  refine ⟨0, Nat, fun k => ⟨[(0, spsD l), (1, .v (.int .i64 c)), (5, .v (.int .i64 k))], [], []⟩, fun k => k ≤ l.length ∧ ∀ j, j < k → ¬ ((l.getD j default).lo ≤ c ∧ c ≤ (l.getD j default).hi), fun k => l.length - k, fun _ => Nat.zero_le _, ⟨0, ⟨Nat.zero_le _, fun j hj => by omega⟩, StLe.ren [] tmS trivial (by decide)⟩, ?_⟩
  rintro k ⟨hk, hd⟩
  by_cases hlt : k < l.length
  · have p1 : ctDec.pre (l.getD k default).val := hv k hlt
    repeat' (first | refine gl ?_ | (refine br (fun q_ => ?_) (fun q_ => ?_) <;> try simp only [Int.toNat_natCast, Nat.mul_one, Nat.add_zero] at q_) | (refine brF (fun q_ => ?_) (fun q_ => ?_) <;> try simp only [Int.toNat_natCast, Nat.mul_one, Nat.add_zero] at q_))
    all_goals first
      | exact EntR.str (by rw [valL_at hlt hd ⟨by omega, by omega⟩]; rfl)
      | exact ⟨k + 1, ⟨by omega, next_of hd (by omega)⟩, (by show _ - (k + 1) < _ - k; omega), StLe.ren [] tmS trivial (by decide)⟩
  · repeat' (first | refine gl ?_ | (refine br (fun q_ => ?_) (fun q_ => ?_) <;> try simp only [Int.toNat_natCast, Nat.mul_one, Nat.add_zero] at q_) | (refine brF (fun q_ => ?_) (fun q_ => ?_) <;> try simp only [Int.toNat_natCast, Nat.mul_one, Nat.add_zero] at q_))
    exact EntR.str (by rw [valL_no fun j hj => hd j (by omega)]; rfl)
def ctYes : Ct := { ι := Bool, inp := fun b => [.v (.bool b)], out := fun b => .v (.string (yesB b)), pre := fun _ => True }
theorem rYes_ok : Sound Tryz.prog (GlT mx pb) 123 ctYes := by
  refine sound_by (cc := true) Γ0_ok Tryz.T_ok Tryz.mixed Tryz.func123 rfl (by kernel_rfl) (fun _ => rfl) (fun _ _ => by show 1 ≤ 4; decide) ?_
  intro (b : Bool) _
  repeat' (first | refine gl ?_ | (refine br (fun q_ => ?_) (fun q_ => ?_) <;> try simp only [Int.toNat_natCast, Nat.mul_one, Nat.add_zero] at q_) | (refine brF (fun q_ => ?_) (fun q_ => ?_) <;> try simp only [Int.toNat_natCast, Nat.mul_one, Nat.add_zero] at q_))
  · exact EntR.str (by rw [q_]; rfl)
  · exact EntR.str (by rw [q_]; rfl)
end Go.Proofs
