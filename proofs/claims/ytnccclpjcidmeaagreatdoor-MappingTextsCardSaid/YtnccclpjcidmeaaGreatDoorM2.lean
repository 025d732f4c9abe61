import Derived.Test.YtnccclpjcidmeaaGreatDoorM1
namespace Go.Proofs
open Go Go.Sx
variable {mx : Int}

/-! codes, twice -/
def codesB (m : Mp) : Bool := m.to.all validB && validB m.frm
def fitM (m : Mp) : Prop := m.to.length ≤ 9223372036854775807 ∧ m.tag.size ≤ 9223372036854775807
def fitL (l : List Mp) : Prop := l.length ≤ 9223372036854775807 ∧ ∀ k, k < l.length → fitM (l.getD k default)
def ctCodes : Ct := { ι := Mp, inp := fun m => [mpA m], out := fun m => .v (.bool (codesB m)), pre := fitM }
set_option maxHeartbeats 1000000 in
theorem rcodes_ok : Sound Tryz.prog (GlT mx) 63 ctCodes := by
  refine sound_by (cc := false) Γm_ok Tryz.T_ok Tryz.mixed Tryz.func63 rfl (by kernel_rfl) (fun _ => rfl) (fun _ _ => by show 1 ≤ 21; decide) ?_
  intro (m : Mp) (hm : fitM m)
  have hl := hm.1
  repeat first | refine wk1 ?_ | refine wk2 ?_ | refine wk3 ?_
  refine ⟨0, Nat, fun k => ⟨[(1, .own 0 0), (3, .v (.int .i64 k))], [.cells 56 [mpD m 0, mpD m 1, mpD m 2]], []⟩, fun k => k ≤ m.to.length ∧ ∀ j, j < k → validB (m.to.getD j default) = true, fun k => m.to.length - k, fun _ => Nat.zero_le _, ⟨0, ⟨Nat.zero_le _, fun j hj => by omega⟩, StLe.of (by repeat' (first | exact trivial | exact Ent.refl _ | exact rfl | refine And.intro ?_ ?_)) (by repeat' (first | exact trivial | exact EntL.refl _ | exact rfl | refine And.intro ?_ ?_))⟩, ?_⟩
  rintro k ⟨hk, hd⟩
  repeat first | refine wk1 ?_ | refine wk2 ?_ | refine wk3 ?_
  refine And.intro (fun h => ?_) (fun h => ?_)
  · have h : k < m.to.length := by simpa using h
    repeat first | refine wk1 ?_ | refine wk2 ?_ | refine wk3 ?_
    refine And.intro (by omega) ?_
    repeat first | refine wk1 ?_ | refine wk2 ?_ | refine wk3 ?_
    refine ⟨m.to.getD k default, EntL.refl _, trivial, ?_⟩
    repeat first | refine wk1 ?_ | refine wk2 ?_ | refine wk3 ?_
    refine And.intro (fun h1 => ?_) (fun h1 => ?_)
    · have h1 : (!validB (m.to.getD k default)) = true := h1
      repeat first | refine wk1 ?_ | refine wk2 ?_ | refine wk3 ?_
      refine EntR.bool ?_
      have h2 := not_all (p := validB) h (by simpa using h1)
      simp [codesB, h2]
    · have h1 : (!validB (m.to.getD k default)) = false := h1
      repeat first | refine wk1 ?_ | refine wk2 ?_ | refine wk3 ?_
      refine And.intro (show fitsI64 ((k : Int) + 1) from ⟨by omega, by omega⟩) ?_
      repeat first | refine wk1 ?_ | refine wk2 ?_ | refine wk3 ?_
      exact ⟨k + 1, ⟨by omega, next_of hd (by simpa using h1)⟩, (show m.to.length - (k + 1) < m.to.length - k by omega), StLe.of (by repeat' (first | exact trivial | exact Ent.refl _ | exact rfl | refine And.intro ?_ ?_)) (by repeat' (first | exact trivial | exact EntL.refl _ | exact rfl | refine And.intro ?_ ?_))⟩
  · have h : k = m.to.length := by simp at h; omega
    repeat first | refine wk1 ?_ | refine wk2 ?_ | refine wk3 ?_
    refine ⟨m.frm, EntL.refl _, trivial, ?_⟩
    repeat first | refine wk1 ?_ | refine wk2 ?_ | refine wk3 ?_
    refine EntR.bool ?_
    have h2 := all_of (p := validB) h hd
    simp [codesB, h2]

def sameK (a b : Mp) : Bool := bif a.frm == b.frm then eqB a.tag b.tag else false
theorem sameK_iff {a b : Mp} : sameK a b = true ↔ a.frm = b.frm ∧ a.tag = b.tag := by
  unfold sameK
  by_cases h : a.frm = b.frm
  · simp [h, eqB_iff]
  · have : (a.frm == b.frm) = false := by simpa using h
    simp [this, h]
/-- Two mappings with one key. -/
def Dup (l : List Mp) (i j : Nat) : Prop := j < i ∧ i < l.length ∧ sameK (l.getD i default) (l.getD j default) = true
open Classical in
noncomputable def dupB (l : List Mp) : Bool := decide (∃ i j, Dup l i j)
theorem dup_yes {l : List Mp} {i j : Nat} (h : Dup l i j) : dupB l = true := by simp only [dupB, decide_eq_true_eq]; exact ⟨i, j, h⟩
theorem dup_no {l : List Mp} (h : ∀ i j, ¬ Dup l i j) : dupB l = false := by simp only [dupB, decide_eq_false_iff_not]; rintro ⟨i, j, hd⟩; exact h i j hd
noncomputable def ctTwice : Ct := { ι := List Mp, inp := fun l => [mpsD l], out := fun l => .v (.bool (dupB l)), pre := fitL }
set_option maxHeartbeats 1000000 in
theorem rtwice_ok : Sound Tryz.prog (GlT mx) 65 ctTwice := by
  refine sound_by (cc := false) Γ0_ok Tryz.T_ok Tryz.mixed Tryz.func65 rfl (by kernel_rfl) (fun _ => rfl) (fun _ _ => by show 1 ≤ 40; decide) ?_
  intro (l : List Mp) (hl : fitL l)
  have hl := hl.1
  repeat first | refine wk1 ?_ | refine wk2 ?_ | refine wk3 ?_
  refine ⟨0, Nat, fun k => ⟨[(0, mpsD l), (3, .v (.int .i64 k))], [], []⟩, fun k => k ≤ l.length ∧ ∀ i j, i < k → ¬ Dup l i j, fun k => l.length - k, fun _ => Nat.zero_le _, ⟨0, ⟨Nat.zero_le _, fun i j hj => by omega⟩, StLe.of (by repeat' (first | exact trivial | exact Ent.refl _ | exact rfl | refine And.intro ?_ ?_)) trivial⟩, ?_⟩
  rintro k ⟨hk, hd⟩
  repeat first | refine wk1 ?_ | refine wk2 ?_ | refine wk3 ?_
  refine And.intro (fun h => ?_) (fun h => ?_)
  · have h : k < l.length := by simpa using h
    repeat first | refine wk1 ?_ | refine wk2 ?_ | refine wk3 ?_
    refine ⟨0, Nat, fun q => ⟨[(0, mpsD l), (3, .v (.int .i64 k)), (4, .v (.int .i64 q))], [], []⟩, fun q => q ≤ k ∧ ∀ j, j < q → ¬ Dup l k j, fun q => k - q, fun _ => Nat.zero_le _, ⟨0, ⟨Nat.zero_le _, fun j hj => by omega⟩, StLe.of (by repeat' (first | exact trivial | exact Ent.refl _ | exact rfl | refine And.intro ?_ ?_)) trivial⟩, ?_⟩
    rintro q ⟨hq, hdq⟩
    repeat first | refine wk1 ?_ | refine wk2 ?_ | refine wk3 ?_
    refine And.intro (fun h1 => ?_) (fun h1 => ?_)
    · have h1 : q < k := by simpa using h1
      repeat first | refine wk1 ?_ | refine wk2 ?_ | refine wk3 ?_
      refine And.intro (by kernel_rfl) ?_
      repeat first | refine wk1 ?_ | refine wk2 ?_ | refine wk3 ?_
      refine And.intro (fun _ => by omega) ?_
      repeat first | refine wk1 ?_ | refine wk2 ?_ | refine wk3 ?_
      refine And.intro (fun _ => by omega) ?_
      repeat first | refine wk1 ?_ | refine wk2 ?_ | refine wk3 ?_
      refine And.intro (fun _ => by omega) ?_
      repeat first | refine wk1 ?_ | refine wk2 ?_ | refine wk3 ?_
      refine And.intro (fun _ => by omega) ?_
      repeat first | refine wk1 ?_ | refine wk2 ?_ | refine wk3 ?_
      refine And.intro (fun h2 => ?_) (fun h2 => ?_)
      · have h2 : sameK (l.getD k default) (l.getD q default) = true := h2
        repeat first | refine wk1 ?_ | refine wk2 ?_ | refine wk3 ?_
        exact EntR.bool (dup_yes ⟨h1, h, h2⟩).symm
      · have h2 : sameK (l.getD k default) (l.getD q default) = false := h2
        repeat first | refine wk1 ?_ | refine wk2 ?_ | refine wk3 ?_
        refine And.intro (show fitsI64 ((q : Int) + 1) from ⟨by omega, by omega⟩) ?_
        repeat first | refine wk1 ?_ | refine wk2 ?_ | refine wk3 ?_
        exact ⟨q + 1, ⟨by omega, next_of hdq (fun hdd => by rw [hdd.2.2] at h2; simp at h2)⟩, (show k - (q + 1) < k - q by omega), StLe.of (by repeat' (first | exact trivial | exact Ent.refl _ | exact rfl | refine And.intro ?_ ?_)) trivial⟩
    · have h1 : q = k := by simp at h1; omega
      subst h1
      repeat first | refine wk1 ?_ | refine wk2 ?_ | refine wk3 ?_
      refine And.intro (show fitsI64 ((q : Int) + 1) from ⟨by omega, by omega⟩) ?_
      repeat first | refine wk1 ?_ | refine wk2 ?_ | refine wk3 ?_
      refine ⟨q + 1, ⟨by omega, fun i j hi hdd => ?_⟩, (show l.length - (q + 1) < l.length - q by omega), StLe.of (by repeat' (first | exact trivial | exact Ent.refl _ | exact rfl | refine And.intro ?_ ?_)) trivial⟩
      by_cases hiq : i = q
      · subst hiq; exact hdq j hdd.1 hdd
      · exact hd i j (by omega) hdd
  · have h : k = l.length := by simp at h; omega
    repeat first | refine wk1 ?_ | refine wk2 ?_ | refine wk3 ?_
    exact EntR.bool (dup_no fun i j hdd => hd i j (by have := hdd.2.1; omega) hdd).symm

/-! the first error of the parts -/
def sizeB (m : Mp) : Bool := decide (m.to.length ≤ 64)
def tagB (m : Mp) : Bool := eqB m.tag ⟨#[]⟩ || isNameB m.tag
def partsE (l : List Mp) : Int := bif l.all codesB then (bif l.all sizeB then (bif l.all tagB then 0 else 6) else 2) else 1
def ctParts : Ct := { ι := List Mp, inp := fun l => [mpsD l], out := fun l => .v (.int .i64 (partsE l)), pre := fitL }
def Γp : Ctx := fun f => match f with
  | 57 => some (.pure ctValid)
  | 59 => some (.pure ctName)
  | _ => none
theorem Γp_ok : CtxOk Tryz.prog (GlT mx) Γp := by
  intro f h hh
  simp only [Γp] at hh
  split at hh <;> simp at hh <;> subst hh
  · exact valid_ok
  · exact isName_ok

set_option maxHeartbeats 2000000 in
theorem parts_ok : Sound Tryz.prog (GlT mx) 35 ctParts := by
  refine sound_by (cc := false) Γp_ok Tryz.T_ok Tryz.mixed Tryz.func35 rfl (by kernel_rfl) (fun _ => rfl) (fun _ _ => by show 1 ≤ 60; decide) ?_
  intro (l : List Mp) (hl : fitL l)
  have hfm := hl.2
  have hl := hl.1
  repeat first | refine wk1 ?_ | refine wk2 ?_ | refine wk3 ?_
  refine ⟨0, Nat, fun k => ⟨[(0, mpsD l), (11, mpsD l), (12, .v (.int .i64 l.length)), (13, .v (.int .i64 k))], [], []⟩, fun k => k ≤ l.length ∧ ∀ j, j < k → codesB (l.getD j default) = true, fun k => l.length - k, fun _ => Nat.zero_le _, ⟨0, ⟨Nat.zero_le _, fun j hj => by omega⟩, StLe.of (by repeat' (first | exact trivial | exact Ent.refl _ | exact rfl | refine And.intro ?_ ?_)) trivial⟩, ?_⟩
  rintro k ⟨hk, hd⟩
  repeat first | refine wk1 ?_ | refine wk2 ?_ | refine wk3 ?_
  refine And.intro (fun h => ?_) (fun h => ?_)
  · have h : k < l.length := by simpa using h
    have hto := (hfm k h).1
    repeat first | refine wk1 ?_ | refine wk2 ?_ | refine wk3 ?_
    refine And.intro (by omega) ?_
    repeat first | refine wk1 ?_ | refine wk2 ?_ | refine wk3 ?_
    refine ⟨(l.getD k default).frm, EntL.refl _, trivial, ?_⟩
    repeat first | refine wk1 ?_ | refine wk2 ?_ | refine wk3 ?_
    refine And.intro (fun h1 => ?_) (fun h1 => ?_)
    · have h1 : (!validB (l.getD k default).frm) = true := h1
      repeat first | refine wk1 ?_ | refine wk2 ?_ | refine wk3 ?_
      refine EntR.int ?_
      have h2 := not_all (p := codesB) h (by simp at h1; simp [codesB, h1])
      simp [partsE, h2]
    have h1 : (!validB (l.getD k default).frm) = false := h1
    repeat first | refine wk1 ?_ | refine wk2 ?_ | refine wk3 ?_
    refine ⟨0, Nat, fun q => ⟨[(0, mpsD l), (11, mpsD l), (12, .v (.int .i64 l.length)), (13, .v (.int .i64 k)), (22, slD 1 intD (l.getD k default).to), (23, .v (.int .i64 (l.getD k default).to.length)), (24, .v (.int .i64 q))], [], []⟩, fun q => q ≤ (l.getD k default).to.length ∧ ∀ j, j < q → validB ((l.getD k default).to.getD j default) = true, fun q => (l.getD k default).to.length - q, fun _ => Nat.zero_le _, ⟨0, ⟨Nat.zero_le _, fun j hj => by omega⟩, StLe.of (by repeat' (first | exact trivial | exact Ent.refl _ | exact rfl | refine And.intro ?_ ?_)) trivial⟩, ?_⟩
    rintro q ⟨hq, hdq⟩
    repeat first | refine wk1 ?_ | refine wk2 ?_ | refine wk3 ?_
    refine And.intro (fun h2 => ?_) (fun h2 => ?_)
    · have h2 : (q : Int) < ((l.getD k default).to.length : Int) := of_decide_eq_true h2
      have h2 : q < (l.getD k default).to.length := by omega
      repeat first | refine wk1 ?_ | refine wk2 ?_ | refine wk3 ?_
      refine And.intro (by omega) ?_
      repeat first | refine wk1 ?_ | refine wk2 ?_ | refine wk3 ?_
      refine ⟨(l.getD k default).to.getD q default, EntL.refl _, trivial, ?_⟩
      repeat first | refine wk1 ?_ | refine wk2 ?_ | refine wk3 ?_
      refine And.intro (fun h3 => ?_) (fun h3 => ?_)
      · have h3 : (!validB ((l.getD k default).to.getD q default)) = true := h3
        repeat first | refine wk1 ?_ | refine wk2 ?_ | refine wk3 ?_
        refine EntR.int ?_
        have h4 := not_all (p := validB) h2 (by simpa using h3)
        have h5 := not_all (p := codesB) h (by simp only [codesB, h4, Bool.false_and])
        simp [partsE, h5]
      · have h3 : (!validB ((l.getD k default).to.getD q default)) = false := h3
        repeat first | refine wk1 ?_ | refine wk2 ?_ | refine wk3 ?_
        refine And.intro (show fitsI64 ((q : Int) + 1) from ⟨by omega, by omega⟩) ?_
        repeat first | refine wk1 ?_ | refine wk2 ?_ | refine wk3 ?_
        exact ⟨q + 1, ⟨by omega, next_of hdq (by simpa using h3)⟩, (show (l.getD k default).to.length - (q + 1) < (l.getD k default).to.length - q by omega), StLe.of (by repeat' (first | exact trivial | exact Ent.refl _ | exact rfl | refine And.intro ?_ ?_)) trivial⟩
    · have h2 : ¬ (q : Int) < ((l.getD k default).to.length : Int) := of_decide_eq_false h2
      have h2 : q = (l.getD k default).to.length := by omega
      repeat first | refine wk1 ?_ | refine wk2 ?_ | refine wk3 ?_
      refine And.intro (show fitsI64 ((k : Int) + 1) from ⟨by omega, by omega⟩) ?_
      repeat first | refine wk1 ?_ | refine wk2 ?_ | refine wk3 ?_
      refine ⟨k + 1, ⟨by omega, next_of hd ?_⟩, (show l.length - (k + 1) < l.length - k by omega), StLe.of (by repeat' (first | exact trivial | exact Ent.refl _ | exact rfl | refine And.intro ?_ ?_)) trivial⟩
      have h4 := all_of (p := validB) h2 hdq
      simp only [Bool.not_eq_false'] at h1
      simp only [codesB, h4, h1, Bool.and_self]
  have h : k = l.length := by simp at h; omega
  have hA := all_of (p := codesB) h hd
  repeat first | refine wk1 ?_ | refine wk2 ?_ | refine wk3 ?_
  refine ⟨0, Nat, fun k => ⟨[(0, mpsD l), (33, mpsD l), (34, .v (.int .i64 l.length)), (35, .v (.int .i64 k))], [], []⟩, fun k => k ≤ l.length ∧ ∀ j, j < k → sizeB (l.getD j default) = true, fun k => l.length - k, fun _ => Nat.zero_le _, ⟨0, ⟨Nat.zero_le _, fun j hj => by omega⟩, StLe.of (by repeat' (first | exact trivial | exact Ent.refl _ | exact rfl | refine And.intro ?_ ?_)) trivial⟩, ?_⟩
  rintro k ⟨hk, hd⟩
  repeat first | refine wk1 ?_ | refine wk2 ?_ | refine wk3 ?_
  refine And.intro (fun h => ?_) (fun h => ?_)
  · have h : k < l.length := by simpa using h
    repeat first | refine wk1 ?_ | refine wk2 ?_ | refine wk3 ?_
    refine And.intro (by omega) ?_
    repeat first | refine wk1 ?_ | refine wk2 ?_ | refine wk3 ?_
    refine And.intro (fun h1 => ?_) (fun h1 => ?_)
    · have h1 : ((l.getD k default).to.length : Int) > 64 := of_decide_eq_true h1
      repeat first | refine wk1 ?_ | refine wk2 ?_ | refine wk3 ?_
      refine EntR.int ?_
      have h2 := not_all (p := sizeB) h (by simp only [sizeB, decide_eq_false_iff_not]; omega)
      simp [partsE, hA, h2]
    · have h1 : ¬ ((l.getD k default).to.length : Int) > 64 := of_decide_eq_false h1
      repeat first | refine wk1 ?_ | refine wk2 ?_ | refine wk3 ?_
      refine And.intro (show fitsI64 ((k : Int) + 1) from ⟨by omega, by omega⟩) ?_
      repeat first | refine wk1 ?_ | refine wk2 ?_ | refine wk3 ?_
      exact ⟨k + 1, ⟨by omega, next_of hd (by simp only [sizeB, decide_eq_true_eq]; omega)⟩, (show l.length - (k + 1) < l.length - k by omega), StLe.of (by repeat' (first | exact trivial | exact Ent.refl _ | exact rfl | refine And.intro ?_ ?_)) trivial⟩
  have h : k = l.length := by simp at h; omega
  have hB := all_of (p := sizeB) h hd
  repeat first | refine wk1 ?_ | refine wk2 ?_ | refine wk3 ?_
  refine ⟨0, Nat, fun k => ⟨[(0, mpsD l), (44, mpsD l), (45, .v (.int .i64 l.length)), (46, .v (.int .i64 k))], [], []⟩, fun k => k ≤ l.length ∧ ∀ j, j < k → tagB (l.getD j default) = true, fun k => l.length - k, fun _ => Nat.zero_le _, ⟨0, ⟨Nat.zero_le _, fun j hj => by omega⟩, StLe.of (by repeat' (first | exact trivial | exact Ent.refl _ | exact rfl | refine And.intro ?_ ?_)) trivial⟩, ?_⟩
  rintro k ⟨hk, hd⟩
  repeat first | refine wk1 ?_ | refine wk2 ?_ | refine wk3 ?_
  refine And.intro (fun h => ?_) (fun h => ?_)
  · have h : k < l.length := by simpa using h
    repeat first | refine wk1 ?_ | refine wk2 ?_ | refine wk3 ?_
    refine And.intro (by omega) ?_
    repeat first | refine wk1 ?_ | refine wk2 ?_ | refine wk3 ?_
    refine ⟨(l.getD k default).tag, EntL.refl _, fun _ => (hfm k h).2, ?_⟩
    repeat first | refine wk1 ?_ | refine wk2 ?_ | refine wk3 ?_
    refine And.intro (fun h1 => ?_) (fun h1 => ?_)
    · have h1 : (bif !(eqB (l.getD k default).tag ⟨#[]⟩) then !(isNameB (l.getD k default).tag) else false) = true := h1
      repeat first | refine wk1 ?_ | refine wk2 ?_ | refine wk3 ?_
      refine EntR.int ?_
      have h2 := not_all (p := tagB) h (by
        simp only [tagB]
        revert h1
        generalize eqB (l.getD k default).tag ⟨#[]⟩ = x
        generalize isNameB (l.getD k default).tag = y
        cases x <;> cases y <;> simp)
      simp [partsE, hA, hB, h2]
    · have h1 : (bif !(eqB (l.getD k default).tag ⟨#[]⟩) then !(isNameB (l.getD k default).tag) else false) = false := h1
      repeat first | refine wk1 ?_ | refine wk2 ?_ | refine wk3 ?_
      refine And.intro (show fitsI64 ((k : Int) + 1) from ⟨by omega, by omega⟩) ?_
      repeat first | refine wk1 ?_ | refine wk2 ?_ | refine wk3 ?_
      refine ⟨k + 1, ⟨by omega, next_of hd ?_⟩, (show l.length - (k + 1) < l.length - k by omega), StLe.of (by repeat' (first | exact trivial | exact Ent.refl _ | exact rfl | refine And.intro ?_ ?_)) trivial⟩
      simp only [tagB]
      revert h1
      generalize eqB (l.getD k default).tag ⟨#[]⟩ = x
      generalize isNameB (l.getD k default).tag = y
      cases x <;> cases y <;> simp
  have h : k = l.length := by simp at h; omega
  have hC := all_of (p := tagB) h hd
  repeat first | refine wk1 ?_ | refine wk2 ?_ | refine wk3 ?_
  exact EntR.int (by simp [partsE, hA, hB, hC])
end Go.Proofs
