import Derived.Test.YtcihhjjmcompkaaGreatDoorSh
import Derived.Test.YtcihhjjmcompkaaGreatDoorEa
import Derived.Test.YtcihhjjmcompkaaGreatDoorBz
import Derived.Test.YtcihhjjmcompkaaGreatDoorC2
import Derived.Test.YtcihhjjmcompkaaGreatDoorC1
import Derived.WalkSmall
set_option linter.unusedVariables false
set_option linter.unusedSimpArgs false
namespace Go.Proofs
open Go Go.Sx Go.RowKit
variable {mx : Int} {pb : Bool}
def blanks : ByteArray := ⟨#[32, 9, 13]⟩
def stops : ByteArray := ⟨#[59, 35, 10]⟩
def strD (x : ByteArray) : Nat → D
  | 0 => .v (.string x)
  | _ => .junk
instance : Inhabited ByteArray := ⟨⟨#[]⟩⟩
end Go.Proofs
namespace Go.Proofs
open Go Go.Sx
variable {mx : Int} {pb : Bool}
theorem size_nil {x : ByteArray} (h : x.data.toList = []) : x = ⟨#[]⟩ := by
  rcases x with ⟨⟨l⟩⟩
  simp at h
  subst h
  rfl
theorem ent_sl1 {α : Type} [Inhabited α] {sz : Nat} {enc : α → Nat → D} {a : α} {f : Nat → Nat → D} (h : ∀ j, j < sz → Ent (f 0 j) (enc a j)) : Ent (.sl sz 1 f) (slD sz enc [a]) := Ent.sl rfl fun i hi j hj => by
  have : i = 0 := by omega
  subst this
  exact h j hj
theorem lt1 {p : Nat → Prop} (h : p 0) : ∀ j, j < 1 → p j := fun j hj => by
  have : j = 0 := by omega
  subst this
  exact h
end Go.Proofs
namespace Go.Proofs
open Go Go.Sx Go.RowKit
variable {mx : Int} {pb : Bool}
theorem tu2 {M : Mem} {E : List Value} {x y : Value} : Rep M E (.tu [.v x, .v y]) (.tuple #[x, y]) := by
  simp only [Rep]
  refine ⟨_, rfl, ?_⟩
  simp only [RepL, Rep]
  exact ⟨_, _, rfl, rfl, _, _, rfl, rfl, rfl⟩
end Go.Proofs
namespace Go.Proofs
open Go Go.Sx
variable {mx : Int} {pb : Bool}
end Go.Proofs
namespace Go.Proofs
open Go Go.Sx
variable {mx : Int} {pb : Bool}
end Go.Proofs
namespace Go.Proofs
open Go Go.Sx Go.RowKit
variable {mx : Int} {pb : Bool}
end Go.Proofs
namespace Go.Proofs
open Go Go.Sx
variable {mx : Int} {pb : Bool}
def Γbc : Ctx := fun f => match f with
  | 139 => some (.ext sameG)
  | _ => none
theorem Γbc_ok : CtxOk Tryz.prog (GlT mx pb) Γbc := by
  intro f h hh
  simp only [Γbc] at hh
  split at hh <;> simp at hh <;> subst hh
  exact same_ok
noncomputable def cCopy : Code := (Tryz.f92.body).getD .skip
noncomputable def cWStr : Code := (Tryz.f49.body).getD .skip
noncomputable def cBStr : Code := (Tryz.f52.body).getD .skip
noncomputable def Γbw (mx : Int) (pb : Bool) : Ctx := fun f => match f with
  | 92 => some (.gen (inlW true Γbc Tryz.T (GlT mx pb) Tryz.f92 cCopy))
  | _ => none
theorem Γbw_ok : CtxOk Tryz.prog (GlT mx pb) (Γbw mx pb) := by
  intro f h hh
  simp only [Γbw] at hh
  split at hh <;> simp at hh <;> subst hh
  exact soundT_inlW Γbc_ok Tryz.T_ok Tryz.mixed Tryz.func92 rfl (by kernel_rfl)
end Go.Proofs
namespace Go.Proofs
open Go Go.Sx
variable {mx : Int} {pb : Bool}
def hpB (s t : ByteArray) : Bool := decide (t.size ≤ s.size) && eqB (bcut s 0 t.size) t
def ctHP : Ct := { ι := ByteArray × ByteArray, inp := fun x => [.v (.string x.1), .v (.string x.2)], out := fun x => .v (.bool (hpB x.1 x.2)), pre := fun _ => True }
set_option maxHeartbeats 1000000 in
theorem slHP_ok : Sound Tryz.prog (GlT mx pb) 206 ctHP := by
  refine sound_by (cc := true) Γ0_ok Tryz.T_ok Tryz.mixed Tryz.func206 rfl (by kernel_rfl) (fun _ => rfl) (fun _ _ => by show 2 ≤ 18; decide) ?_
  rintro ⟨(s : ByteArray), (t : ByteArray)⟩ _
  repeat' (first | refine gl ?_ | (refine br (fun q_ => ?_) (fun q_ => ?_) <;> try simp only [Int.toNat_natCast, Nat.mul_one, Nat.add_zero] at q_) | (refine brF (fun q_ => ?_) (fun q_ => ?_) <;> try simp only [Int.toNat_natCast, Nat.mul_one, Nat.add_zero] at q_))
  · refine entR_eq ?_ rfl
    show D.v (.bool (eqB (bcut s 0 ((t.size : Int)).toNat) t)) = D.v (.bool (hpB s t))
    unfold hpB
    rw [decide_eq_true (show t.size ≤ s.size by omega), Bool.true_and]
    rfl
  · refine entR_eq ?_ rfl
    show D.v (.bool false) = D.v (.bool (hpB s t))
    unfold hpB
    rw [decide_eq_false (show ¬ t.size ≤ s.size by omega), Bool.false_and]
def Γhp : Ctx := fun f => match f with
  | 206 => some (.pure ctHP)
  | _ => none
theorem Γhp_ok : CtxOk Tryz.prog (GlT mx pb) Γhp := by
  intro f h hh
  simp only [Γhp] at hh
  split at hh <;> simp at hh <;> subst hh
  · exact slHP_ok
theorem stHP_ok : Sound Tryz.prog (GlT mx pb) 148 ctHP := by
  refine sound_by (cc := true) Γhp_ok Tryz.T_ok Tryz.mixed Tryz.func148 rfl (by kernel_rfl) (fun _ => rfl) (fun _ _ => by show 2 ≤ 8; decide) ?_
  rintro ⟨(s : ByteArray), (t : ByteArray)⟩ _
  have pp : ctHP.pre (s, t) := trivial
  repeat' (first | refine gl ?_ | (refine br (fun q_ => ?_) (fun q_ => ?_) <;> try simp only [Int.toNat_natCast, Nat.mul_one, Nat.add_zero] at q_) | (refine brF (fun q_ => ?_) (fun q_ => ?_) <;> try simp only [Int.toNat_natCast, Nat.mul_one, Nat.add_zero] at q_))
  exact EntR.of rfl (Ent.refl _)
end Go.Proofs
