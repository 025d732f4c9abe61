import Derived.Test.YtcihhjjmcompkaaGreatDoorC2
import Derived.Test.YtcihhjjmcompkaaGreatDoorSoz
import Derived.Test.YtcihhjjmcompkaaGreatDoorP1
import Derived.Test.YtcihhjjmcompkaaGreatDoorGc
set_option linter.unusedVariables false
set_option linter.unusedSimpArgs false
namespace Go.Proofs
open Go Go.Sx
variable {mx : Int} {pb : Bool}
end Go.Proofs
namespace Go.Proofs
open Go Go.Sx
variable {mx : Int} {pb : Bool}
theorem canon_len12 {l : List Rg} (h : l.length ≤ 12) : (canon l).length ≤ 1000 := by
  have := canon_len l
  omega
def ctVs : Ct := { ι := List Rg, inp := fun l => [setD l], out := fun l => .v (.bool (decide (canon l = l))), pre := fun l => l.length ≤ 12 }
noncomputable def Γvp (mx : Int) (pb : Bool) : Ctx := fun f => match f with
  | 50 => some (.pure ctMake)
  | _ => none
theorem Γvp_ok : CtxOk Tryz.prog (GlT mx pb) (Γvp mx pb) := by
  intro f h hh
  simp only [Γvp] at hh
  split at hh <;> simp at hh <;> subst hh
  · exact cpMake_ok
set_option maxHeartbeats 4000000 in
theorem pVs_ok : Sound Tryz.prog (GlT mx pb) 44 ctVs := by
  refine sound_by (cc := true) Γvp_ok Tryz.T_ok Tryz.mixed Tryz.func44 rfl (by kernel_rfl) (fun _ => rfl) (fun _ _ => by show 1 ≤ 32; decide) ?_
  intro (l : List Rg) (hl : l.length ≤ 12)
  have p1 : ctMake.pre l := ⟨by omega, .inl hl⟩
  have hc := canon_len12 hl
  repeat' (first | refine gl ?_ | (refine br (fun q_ => ?_) (fun q_ => ?_) <;> try simp only [Int.toNat_natCast, Nat.mul_one, Nat.add_zero] at q_) | (refine brF (fun q_ => ?_) (fun q_ => ?_) <;> try simp only [Int.toNat_natCast, Nat.mul_one, Nat.add_zero] at q_))
  · exact EntR.bool (decide_eq_false fun e => q_ (by rw [e])).symm
  have hle : (canon l).length = l.length := by omega
  refine ⟨0, Nat, fun k => ⟨[(1, .own 0 0), (17, rgsD (canon l)), (18, .v (.int .i64 (canon l).length)), (19, .v (.int .i64 k))], [.cells 24 [rgsD l]], []⟩, fun k => k ≤ (canon l).length ∧ ∀ j, j < k → (canon l).getD j default = l.getD j default, fun k => (canon l).length - k, fun _ => Nat.zero_le _, ⟨0, ⟨Nat.zero_le _, fun j hj => by omega⟩, StLe.ren [0] tmS ⟨⟨rfl, EntL.refl _, rfl⟩, trivial⟩ (by decide)⟩, ?_⟩
  rintro k ⟨hk, hd⟩
  by_cases hlt : k < (canon l).length
  · repeat' (first | refine gl ?_ | (refine br (fun q_ => ?_) (fun q_ => ?_) <;> try simp only [Int.toNat_natCast, Nat.mul_one, Nat.add_zero] at q_) | (refine brF (fun q_ => ?_) (fun q_ => ?_) <;> try simp only [Int.toNat_natCast, Nat.mul_one, Nat.add_zero] at q_))
    · refine EntR.bool (decide_eq_false fun e => ?_).symm
      rw [e] at q_
      simp at q_
    · exact ⟨k + 1, ⟨by omega, next_of hd (Prod.ext q_.1 q_.2.1)⟩, (by show _ - (k + 1) < _ - k; omega), StLe.ren [0] tmS ⟨⟨rfl, EntL.refl _, rfl⟩, trivial⟩ (by decide)⟩
  · repeat' (first | refine gl ?_ | (refine br (fun q_ => ?_) (fun q_ => ?_) <;> try simp only [Int.toNat_natCast, Nat.mul_one, Nat.add_zero] at q_) | (refine brF (fun q_ => ?_) (fun q_ => ?_) <;> try simp only [Int.toNat_natCast, Nat.mul_one, Nat.add_zero] at q_))
    exact EntR.bool (decide_eq_true (eq_of_getD hle fun j hj => hd j (by omega))).symm
end Go.Proofs
namespace Go.Proofs
open Go Go.Sx
variable {mx : Int} {pb : Bool}
structure Tl where
  bef : List (List Rg)
  mat : List (List Rg)
  aft : List (List Rg)
  res : List Rg
instance : Inhabited Tl := ⟨⟨[], [], [], []⟩⟩
def okS (s : List Rg) : Prop := canon s = s ∧ ¬ s.length = 0
instance (s : List Rg) : Decidable (okS s) := inferInstanceAs (Decidable (_ ∧ _))
def szT (x : Tl) : Prop := 1 ≤ x.mat.length ∧ x.mat.length ≤ 8 ∧ x.bef.length ≤ 8 ∧ x.aft.length ≤ 8 ∧ x.res.length ≤ 16
instance (x : Tl) : Decidable (szT x) := inferInstanceAs (Decidable (_ ∧ _))
def pcOk (n : Nat) (p : Rg) : Prop := (p.2 = 0 ∧ validB p.1 = true) ∨ (p.1 = 0 ∧ 1 ≤ p.2 ∧ p.2 ≤ n)
instance (n : Nat) (p : Rg) : Decidable (pcOk n p) := inferInstanceAs (Decidable (_ ∨ _))
end Go.Proofs
