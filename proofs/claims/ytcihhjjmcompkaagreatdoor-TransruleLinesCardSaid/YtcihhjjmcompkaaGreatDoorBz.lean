import Derived.Test.YtcihhjjmcompkaaGreatDoorRa0
import Derived.Test.YtcihhjjmcompkaaGreatDoorE6
set_option linter.unusedVariables false
set_option linter.unusedSimpArgs false
namespace Go.Proofs
open Go Go.Sx
variable {mx : Int} {pb : Bool}
def slD {α : Type} [Inhabited α] (sz : Nat) (enc : α → Nat → D) (l : List α) : D := .sl sz l.length fun i j => enc (l.getD i default) j
def eqB (s x : ByteArray) : Bool := @decide (s = x) (baDec s x)
theorem eqB_iff {s x : ByteArray} : eqB s x = true ↔ s = x := by
 unfold eqB
 exact @decide_eq_true_iff _ (baDec s x)
theorem all_of {α : Type} [Inhabited α] {p : α → Bool} {l : List α} {k : Nat} (hk : k = l.length) (hd : ∀ j, j < k → p (l.getD j default) = true) : l.all p = true := by
 subst hk
 rw [List.all_eq_true]
 intro c hc
 obtain ⟨i, hi, rfl⟩ := List.getElem_of_mem hc
 have := hd i hi
 simpa [List.getD_eq_getElem?_getD, hi] using this
theorem not_all {α : Type} [Inhabited α] {p : α → Bool} {l : List α} {k : Nat} (hk : k < l.length) (hd : p (l.getD k default) = false) : l.all p = false := by
 rw [List.all_eq_false]
 refine ⟨l[k], List.getElem_mem _, ?_⟩
 simp [List.getD_eq_getElem?_getD, hk] at hd
 simp [hd]
def intD (x : Int) : Nat → D
 | 0 => .v (.int .i64 x)
 | _ => .junk
def validB (c : Int) : Bool := bif decide (c ≥ 0) then decide (c ≤ 1114111) else false
theorem validB_iff {c : Int} : validB c = true ↔ 0 ≤ c ∧ c ≤ 1114111 := by
 unfold validB
 by_cases h : c ≥ 0 <;> simp [h] <;> omega
def ctValid : Ct := { ι := Int, inp := fun c => [.v (.int .i64 c)], out := fun c => .v (.bool (validB c)), pre := fun _ => True }
theorem valid_ok : Sound Tryz.prog (GlT mx pb) 90 ctValid := by
 refine sound_by (cc := false) Γ0_ok Tryz.T_ok Tryz.mixed Tryz.func90 rfl (by kernel_rfl) (fun _ => rfl) (fun _ _ => by show 1 ≤ 9; decide) ?_
 intro (c : Int) _
 refine gO ?_
 exact EntR.bool rfl
theorem rvalid_ok : Sound Tryz.prog (GlT mx pb) 91 ctValid := by
 refine sound_by (cc := false) Γ0_ok Tryz.T_ok Tryz.mixed Tryz.func91 rfl (by kernel_rfl) (fun _ => rfl) (fun _ _ => by show 1 ≤ 9; decide) ?_
 intro (c : Int) _
 refine gO ?_
 exact EntR.bool rfl
def nameC (b : Int) : Bool := (decide (b ≥ 65) && decide (b ≤ 90)) || (decide (b ≥ 97) && decide (b ≤ 122)) || (decide (b ≥ 48) && decide (b ≤ 57)) || (b == 95)
def isNameB (s : ByteArray) : Bool := decide (1 ≤ s.size) && decide (s.size ≤ 32) && (List.range s.size).all fun i => nameC (bAt s i)
def ctName : Ct := { ι := ByteArray, inp := fun s => [.v (.string s)], out := fun s => .v (.bool (isNameB s)), pre := fun s => s.size ≤ 9223372036854775807 }
theorem name_no {s : ByteArray} {k : Nat} (hk : k < s.size) (h : nameC (bAt s k) = false) : isNameB s = false := by
 have : ((List.range s.size).all fun i => nameC (bAt s i)) = false := by
  rw [List.all_eq_false]
  exact ⟨k, by simpa using hk, by simp [h]⟩
 simp [isNameB, this]
theorem name_yes {s : ByteArray} (h : ∀ j, j < s.size → nameC (bAt s j) = true) : isNameB s = (decide (1 ≤ s.size) && decide (s.size ≤ 32)) := by
 have : ((List.range s.size).all fun i => nameC (bAt s i)) = true := by
  rw [List.all_eq_true]
  intro i hi
  exact h i (by simpa using hi)
 simp [isNameB, this]
theorem next_of {p : Nat → Prop} {k : Nat} (h : ∀ j, j < k → p j) (hk : p k) : ∀ j, j < k + 1 → p j := by
 intro j hj
 by_cases hjk : j = k
 ·subst hjk; exact hk
 ·exact h j (by omega)
theorem empty_iff {s : ByteArray} : eqB s ⟨#[]⟩ = true ↔ s.size = 0 := by
 rw [eqB_iff]
 constructor
 ·rintro rfl; rfl
 ·intro h
  cases s with
  | mk a => simp [ByteArray.size] at h; subst h; rfl
end Go.Proofs
namespace Go.Proofs
open Go Go.Sx
variable {mx : Int} {pb : Bool}
def ctNanI : Ct := { ι := Int, inp := fun c => [.v (.int .i64 c)], out := fun _ => .v (.bool false), pre := fun _ => True }
theorem nanI_ok : Sound Tryz.prog (GlT mx pb) 141 ctNanI := by
 refine sound_by (cc := false) Γ0_ok Tryz.T_ok Tryz.mixed Tryz.func141 rfl (by kernel_rfl) (fun _ => rfl) (fun _ _ => by show 1 ≤ 6; decide) ?_
 intro (c : Int) _
 refine gO ?_
 refine EntR.bool ?_
 simp
def cmpI (a b : Int) : Int := if a < b then -1 else if a > b then 1 else 0
def ctCmpI : Ct := { ι := Int × Int, inp := fun x => [.v (.int .i64 x.1), .v (.int .i64 x.2)], out := fun x => .v (.int .i64 (cmpI x.1 x.2)), pre := fun _ => True }
def Γn1 : Ctx := fun f => match f with
 | 141 => some (.pure ctNanI)
 | _ => none
theorem Γn1_ok : CtxOk Tryz.prog (GlT mx pb) Γn1 := by
 intro f h hh
 simp only [Γn1] at hh
 split at hh <;> simp at hh <;> subst hh
 ·exact nanI_ok
theorem cmpI_ok : Sound Tryz.prog (GlT mx pb) 96 ctCmpI := by
 refine sound_by (cc := false) Γn1_ok Tryz.T_ok Tryz.mixed Tryz.func96 rfl (by kernel_rfl) (fun _ => rfl) (fun _ _ => by show 2 ≤ 20; decide) ?_
 intro ((a : Int), (b : Int)) _
 refine gO ?_
 refine ⟨a, EntL.refl _, trivial, ?_⟩
 refine gO ?_
 refine ⟨b, EntL.refl _, trivial, ?_⟩
 refine gO ?_
 refine And.intro (fun h => Bool.noConfusion (show false = true from h)) (fun _ => ?_)
 refine gO ?_
 refine And.intro (fun h => Bool.noConfusion (show false = true from h)) (fun _ => ?_)
 refine gO ?_
 refine And.intro (fun h => ?_) (fun h => ?_)
 ·have h : a < b := by simpa using h
  refine gO ?_
  exact EntR.int (by simp [cmpI, h])
 have h : ¬ a < b := by simpa using h
 refine gO ?_
 refine And.intro (fun h1 => ?_) (fun h1 => ?_)
 ·have h1 : a > b := by simpa using h1
  refine gO ?_
  exact EntR.int (by simp [cmpI, h, h1])
 have h1 : ¬ a > b := by simpa using h1
 refine gO ?_
 exact EntR.int (by simp [cmpI, h, h1])
def orF (a b : Int) (i j : Nat) : D := (([.v (.int .i64 a), .v (.int .i64 b)] : List D)[i * 1 + j]?).getD .junk
def ctOr : Ct := { ι := Int × Int, inp := fun x => [.sl 1 2 (orF x.1 x.2)], out := fun x => .v (.int .i64 (if x.1 = 0 then x.2 else x.1)), pre := fun _ => True }
theorem or_ok : Sound Tryz.prog (GlT mx pb) 95 ctOr := by
 refine sound_by (cc := false) Γ0_ok Tryz.T_ok Tryz.mixed Tryz.func95 rfl (by kernel_rfl) (fun _ => rfl) (fun _ _ => by show 1 ≤ 18; decide) ?_
 intro ((a : Int), (b : Int)) _
 refine gO ?_
 refine ⟨4, ?_⟩
 refine gO ?_
 refine And.intro (fun _ => ?_) (fun h => Bool.noConfusion (show true = false from h))
 refine gO ?_
 refine And.intro ⟨by decide, by decide⟩ ?_
 refine gO ?_
 refine And.intro (fun h => ?_) (fun h => ?_)
 ·have h : (a != 0) = true := h
  refine gO ?_
  exact EntR.int (by simp at h; simp [h])
 have h : (a != 0) = false := h
 have h : a = 0 := by simpa using h
 refine gO ?_
 refine And.intro ⟨by decide, by decide⟩ ?_
 refine gO ?_
 refine And.intro (fun _ => ?_) (fun h => Bool.noConfusion (show true = false from h))
 refine gO ?_
 refine And.intro ⟨by decide, by decide⟩ ?_
 refine gO ?_
 refine And.intro (fun h1 => ?_) (fun h1 => ?_)
 ·have h1 : (b != 0) = true := h1
  refine gO ?_
  exact EntR.int (by simp [h])
 have h1 : (b != 0) = false := h1
 have h1 : b = 0 := by simpa using h1
 refine gO ?_
 refine And.intro ⟨by decide, by decide⟩ ?_
 refine gO ?_
 refine And.intro (fun h => Bool.noConfusion (show false = true from h)) (fun _ => ?_)
 refine gO ?_
 exact EntR.int (by simp [h, h1])
end Go.Proofs
namespace Go.Proofs
open Go Go.Sx
variable {mx : Int} {pb : Bool}
def digI (c : Int) : Int := ([48,49,50,51,52,53,54,55,56,57,65,66,67,68,69,70] : List Int).getD ((c % 16).toNat * 1 + 0) 0
def dig (c : Int) : UInt8 := UInt8.ofNat (digI c).toNat
def dv : Nat → Int → Int
 | 0, c => c
 | k + 1, c => dv k c / 16
def tail : Nat → Int → List UInt8
 | 0, _ => []
 | k + 1, c => dig (dv k c) :: tail k c
end Go.Proofs
