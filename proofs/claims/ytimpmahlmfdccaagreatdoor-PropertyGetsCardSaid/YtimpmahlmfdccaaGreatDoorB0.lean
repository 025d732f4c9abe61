import Derived.Test.YtimpmahlmfdccaaGreatDoorRa0
import Derived.Test.YtimpmahlmfdccaaGreatDoorE6
namespace Go.Proofs
open Go Go.Sx
variable {mx : Int} {pb : Bool}

def slD {α : Type} [Inhabited α] (sz : Nat) (enc : α → Nat → D) (l : List α) : D := .sl sz l.length fun i j => enc (l.getD i default) j
def eqB (s x : ByteArray) : Bool := @decide (s = x) (baDec s x)
theorem eqB_iff {s x : ByteArray} : eqB s x = true ↔ s = x := by
  unfold eqB
  exact @decide_eq_true_iff _ (baDec s x)

/-! lists -/
theorem all_of {α : Type} [Inhabited α] {p : α → Bool} {l : List α} {k : Nat} (hk : k = l.length) (hd : ∀ j, j < k → p (l.getD j default) = true) : l.all p = true := by
  subst hk
  rw [List.all_eq_true]
  intro c hc
  obtain ⟨i, hi, rfl⟩ := List.getElem_of_mem hc
  have := hd i hi
  simpa [List.getD_eq_getElem?_getD, hi] using this
theorem not_all {α : Type} [Inhabited α] {p : α → Bool} {l : List α} {k : Nat} (hk : k < l.length) (hd : p (l.getD k default) = false) : l.all p = false := by
  rw [List.all_eq_false]
  refine ⟨l[k], List.getElem_mem _, ?_⟩
  simp [List.getD_eq_getElem?_getD, hk] at hd
  simp [hd]
theorem all_get {α : Type} [Inhabited α] {p : α → Bool} {l : List α} (h : l.all p = true) {k : Nat} (hk : k < l.length) : p (l.getD k default) = true := by
  rw [List.all_eq_true] at h
  have := h l[k] (List.getElem_mem _)
  simpa [List.getD_eq_getElem?_getD, hk] using this

def intD (x : Int) : Nat → D
  | 0 => .v (.int .i64 x)
  | _ => .junk
/-! numbers -/
def validB (c : Int) : Bool := bif decide (c ≥ 0) then decide (c ≤ 1114111) else false
theorem validB_iff {c : Int} : validB c = true ↔ 0 ≤ c ∧ c ≤ 1114111 := by
  unfold validB
  by_cases h : c ≥ 0 <;> simp [h] <;> omega
def ctValid : Ct := { ι := Int, inp := fun c => [.v (.int .i64 c)], out := fun c => .v (.bool (validB c)), pre := fun _ => True }
theorem valid_ok : Sound Tryz.prog (GlT mx pb) 60 ctValid := by
  refine sound_by (cc := false) Γ0_ok Tryz.T_ok Tryz.mixed Tryz.func60 rfl (by kernel_rfl) (fun _ => rfl) (fun _ _ => by show 1 ≤ 9; decide) ?_
  intro (c : Int) _
  repeat first | refine wk1 ?_ | refine wk2 ?_ | refine wk3 ?_
  exact EntR.bool rfl
theorem rvalid_ok : Sound Tryz.prog (GlT mx pb) 76 ctValid := by
  refine sound_by (cc := false) Γ0_ok Tryz.T_ok Tryz.mixed Tryz.func76 rfl (by kernel_rfl) (fun _ => rfl) (fun _ _ => by show 1 ≤ 9; decide) ?_
  intro (c : Int) _
  repeat first | refine wk1 ?_ | refine wk2 ?_ | refine wk3 ?_
  exact EntR.bool rfl

/-! names -/
def nameC (b : Int) : Bool := (decide (b ≥ 65) && decide (b ≤ 90)) || (decide (b ≥ 97) && decide (b ≤ 122)) || (decide (b ≥ 48) && decide (b ≤ 57)) || (b == 95)
def isNameB (s : ByteArray) : Bool := decide (1 ≤ s.size) && decide (s.size ≤ 32) && (List.range s.size).all fun i => nameC (bAt s i)
def ctName : Ct := { ι := ByteArray, inp := fun s => [.v (.string s)], out := fun s => .v (.bool (isNameB s)), pre := fun s => s.size ≤ 9223372036854775807 }
theorem name_no {s : ByteArray} {k : Nat} (hk : k < s.size) (h : nameC (bAt s k) = false) : isNameB s = false := by
  have : ((List.range s.size).all fun i => nameC (bAt s i)) = false := by
    rw [List.all_eq_false]
    exact ⟨k, by simpa using hk, by simp [h]⟩
  simp [isNameB, this]
theorem name_yes {s : ByteArray} (h : ∀ j, j < s.size → nameC (bAt s j) = true) : isNameB s = (decide (1 ≤ s.size) && decide (s.size ≤ 32)) := by
  have : ((List.range s.size).all fun i => nameC (bAt s i)) = true := by
    rw [List.all_eq_true]
    intro i hi
    exact h i (by simpa using hi)
  simp [isNameB, this]
theorem next_of {p : Nat → Prop} {k : Nat} (h : ∀ j, j < k → p j) (hk : p k) : ∀ j, j < k + 1 → p j := by
  intro j hj
  by_cases hjk : j = k
  · subst hjk; exact hk
  · exact h j (by omega)
theorem empty_iff {s : ByteArray} : eqB s ⟨#[]⟩ = true ↔ s.size = 0 := by
  rw [eqB_iff]
  constructor
  · rintro rfl; rfl
  · intro h
    cases s with
    | mk a => simp [ByteArray.size] at h; subst h; rfl

end Go.Proofs
