import Derived.Test.YtnccclpjcidmeaaGreatDoorM2
namespace Go.Proofs
open Go Go.Sx
variable {mx : Int}

noncomputable def unsortedE (l : List Mp) : Int := bif partsE l == 0 then (bif dupB l then 5 else 0) else partsE l
noncomputable def ctUnsorted : Ct := { ι := List Mp, inp := fun l => [mpsD l], out := fun l => .v (.int .i64 (unsortedE l)), pre := fitL }
noncomputable def Γu : Ctx := fun f => match f with
  | 63 => some (.pure ctCodes)
  | 64 => some (.pure ctName)
  | 65 => some (.pure ctTwice)
  | _ => none
theorem Γu_ok : CtxOk Tryz.prog (GlT mx) Γu := by
  intro f h hh
  simp only [Γu] at hh
  split at hh <;> simp at hh <;> subst hh
  · exact rcodes_ok
  · exact rname_ok
  · exact rtwice_ok

set_option maxHeartbeats 2000000 in
theorem runsorted_ok : Sound Tryz.prog (GlT mx) 38 ctUnsorted := by
  refine sound_by (cc := false) Γu_ok Tryz.T_ok Tryz.mixed Tryz.func38 rfl (by kernel_rfl) (fun _ => rfl) (fun _ _ => by show 1 ≤ 54; decide) ?_
  intro (l : List Mp) (hl0 : fitL l)
  have hfm := hl0.2
  have hl := hl0.1
  repeat first | refine wk1 ?_ | refine wk2 ?_ | refine wk3 ?_
  refine ⟨0, Nat, fun k => ⟨[(0, mpsD l), (3, .v (.int .i64 k))], [], []⟩, fun k => k ≤ l.length ∧ ∀ j, j < k → codesB (l.getD j default) = true, fun k => l.length - k, fun _ => Nat.zero_le _, ⟨0, ⟨Nat.zero_le _, fun j hj => by omega⟩, StLe.of (by repeat' (first | exact trivial | exact Ent.refl _ | exact rfl | refine And.intro ?_ ?_)) trivial⟩, ?_⟩
  rintro k ⟨hk, hd⟩
  repeat first | refine wk1 ?_ | refine wk2 ?_ | refine wk3 ?_
  refine And.intro (fun h => ?_) (fun h => ?_)
  · have h : k < l.length := by simpa using h
    repeat first | refine wk1 ?_ | refine wk2 ?_ | refine wk3 ?_
    refine And.intro (by omega) ?_
    repeat first | refine wk1 ?_ | refine wk2 ?_ | refine wk3 ?_
    refine ⟨l.getD k default, EntL.refl _, hfm k h, ?_⟩
    repeat first | refine wk1 ?_ | refine wk2 ?_ | refine wk3 ?_
    refine And.intro (fun h1 => ?_) (fun h1 => ?_)
    · have h1 : (!codesB (l.getD k default)) = true := h1
      repeat first | refine wk1 ?_ | refine wk2 ?_ | refine wk3 ?_
      refine EntR.int ?_
      have h2 := not_all (p := codesB) h (by simpa using h1)
      simp [unsortedE, partsE, h2]
    · have h1 : (!codesB (l.getD k default)) = false := h1
      repeat first | refine wk1 ?_ | refine wk2 ?_ | refine wk3 ?_
      refine And.intro (show fitsI64 ((k : Int) + 1) from ⟨by omega, by omega⟩) ?_
      repeat first | refine wk1 ?_ | refine wk2 ?_ | refine wk3 ?_
      exact ⟨k + 1, ⟨by omega, next_of hd (by simpa using h1)⟩, (show l.length - (k + 1) < l.length - k by omega), StLe.of (by repeat' (first | exact trivial | exact Ent.refl _ | exact rfl | refine And.intro ?_ ?_)) trivial⟩
  have h : k = l.length := by simp at h; omega
  have hA := all_of (p := codesB) h hd
  repeat first | refine wk1 ?_ | refine wk2 ?_ | refine wk3 ?_
  refine ⟨0, Nat, fun k => ⟨[(0, mpsD l), (4, .v (.int .i64 k))], [], []⟩, fun k => k ≤ l.length ∧ ∀ j, j < k → sizeB (l.getD j default) = true, fun k => l.length - k, fun _ => Nat.zero_le _, ⟨0, ⟨Nat.zero_le _, fun j hj => by omega⟩, StLe.of (by repeat' (first | exact trivial | exact Ent.refl _ | exact rfl | refine And.intro ?_ ?_)) trivial⟩, ?_⟩
  rintro k ⟨hk, hd⟩
  repeat first | refine wk1 ?_ | refine wk2 ?_ | refine wk3 ?_
  refine And.intro (fun h => ?_) (fun h => ?_)
  · have h : k < l.length := by simpa using h
    repeat first | refine wk1 ?_ | refine wk2 ?_ | refine wk3 ?_
    refine And.intro (by omega) ?_
    repeat first | refine wk1 ?_ | refine wk2 ?_ | refine wk3 ?_
    refine And.intro (fun h1 => ?_) (fun h1 => ?_)
    · have h1 : ((l.getD k default).to.length : Int) > 64 := of_decide_eq_true h1
      repeat first | refine wk1 ?_ | refine wk2 ?_ | refine wk3 ?_
      refine EntR.int ?_
      have h2 := not_all (p := sizeB) h (by simp only [sizeB, decide_eq_false_iff_not]; omega)
      simp [unsortedE, partsE, hA, h2]
    · have h1 : ¬ ((l.getD k default).to.length : Int) > 64 := of_decide_eq_false h1
      repeat first | refine wk1 ?_ | refine wk2 ?_ | refine wk3 ?_
      refine And.intro (show fitsI64 ((k : Int) + 1) from ⟨by omega, by omega⟩) ?_
      repeat first | refine wk1 ?_ | refine wk2 ?_ | refine wk3 ?_
      exact ⟨k + 1, ⟨by omega, next_of hd (by simp only [sizeB, decide_eq_true_eq]; omega)⟩, (show l.length - (k + 1) < l.length - k by omega), StLe.of (by repeat' (first | exact trivial | exact Ent.refl _ | exact rfl | refine And.intro ?_ ?_)) trivial⟩
  have h : k = l.length := by simp at h; omega
  have hB := all_of (p := sizeB) h hd
  repeat first | refine wk1 ?_ | refine wk2 ?_ | refine wk3 ?_
  refine ⟨0, Nat, fun k => ⟨[(0, mpsD l), (5, .v (.int .i64 k))], [], []⟩, fun k => k ≤ l.length ∧ ∀ j, j < k → tagB (l.getD j default) = true, fun k => l.length - k, fun _ => Nat.zero_le _, ⟨0, ⟨Nat.zero_le _, fun j hj => by omega⟩, StLe.of (by repeat' (first | exact trivial | exact Ent.refl _ | exact rfl | refine And.intro ?_ ?_)) trivial⟩, ?_⟩
  rintro k ⟨hk, hd⟩
  repeat first | refine wk1 ?_ | refine wk2 ?_ | refine wk3 ?_
  refine And.intro (fun h => ?_) (fun h => ?_)
  · have h : k < l.length := by simpa using h
    repeat first | refine wk1 ?_ | refine wk2 ?_ | refine wk3 ?_
    refine And.intro (by omega) ?_
    repeat first | refine wk1 ?_ | refine wk2 ?_ | refine wk3 ?_
    refine And.intro (fun _ => by omega) ?_
    repeat first | refine wk1 ?_ | refine wk2 ?_ | refine wk3 ?_
    refine ⟨(l.getD k default).tag, EntL.refl _, fun _ => (hfm k h).2, ?_⟩
    repeat first | refine wk1 ?_ | refine wk2 ?_ | refine wk3 ?_
    refine And.intro (fun h1 => ?_) (fun h1 => ?_)
    · have h1 : (bif !(eqB (l.getD k default).tag ⟨#[]⟩) then !(isNameB (l.getD k default).tag) else false) = true := h1
      repeat first | refine wk1 ?_ | refine wk2 ?_ | refine wk3 ?_
      refine EntR.int ?_
      have h2 := not_all (p := tagB) h (by
        simp only [tagB]
        revert h1
        generalize eqB (l.getD k default).tag ⟨#[]⟩ = x
        generalize isNameB (l.getD k default).tag = y
        cases x <;> cases y <;> simp)
      simp [unsortedE, partsE, hA, hB, h2]
    · have h1 : (bif !(eqB (l.getD k default).tag ⟨#[]⟩) then !(isNameB (l.getD k default).tag) else false) = false := h1
      repeat first | refine wk1 ?_ | refine wk2 ?_ | refine wk3 ?_
      refine And.intro (show fitsI64 ((k : Int) + 1) from ⟨by omega, by omega⟩) ?_
      repeat first | refine wk1 ?_ | refine wk2 ?_ | refine wk3 ?_
      refine ⟨k + 1, ⟨by omega, next_of hd ?_⟩, (show l.length - (k + 1) < l.length - k by omega), StLe.of (by repeat' (first | exact trivial | exact Ent.refl _ | exact rfl | refine And.intro ?_ ?_)) trivial⟩
      simp only [tagB]
      revert h1
      generalize eqB (l.getD k default).tag ⟨#[]⟩ = x
      generalize isNameB (l.getD k default).tag = y
      cases x <;> cases y <;> simp
  have h : k = l.length := by simp at h; omega
  have hC := all_of (p := tagB) h hd
  have h0 : partsE l = 0 := by simp [partsE, hA, hB, hC]
  repeat first | refine wk1 ?_ | refine wk2 ?_ | refine wk3 ?_
  refine ⟨l, EntL.refl _, hl0, ?_⟩
  repeat first | refine wk1 ?_ | refine wk2 ?_ | refine wk3 ?_
  refine And.intro (fun h1 => ?_) (fun h1 => ?_)
  · have h1 : dupB l = true := h1
    repeat first | refine wk1 ?_ | refine wk2 ?_ | refine wk3 ?_
    exact EntR.int (by simp [unsortedE, h0, h1])
  · have h1 : dupB l = false := h1
    repeat first | refine wk1 ?_ | refine wk2 ?_ | refine wk3 ?_
    exact EntR.int (by simp [unsortedE, h0, h1])

/-! ascending -/
def ascK (l : List Mp) : Nat → Bool
  | 0 => true
  | 1 => true
  | k + 2 => ascK l (k + 1) && lessB (l.getD k default) (l.getD (k + 1) default)
theorem ascK_mono {l : List Mp} : ∀ {n k : Nat}, ascK l n = true → k ≤ n → ascK l k = true
  | 0, k, h, hk => by have : k = 0 := by omega
                      subst this; exact h
  | 1, k, h, hk => by
    have : k = 0 ∨ k = 1 := by omega
    rcases this with rfl | rfl <;> rfl
  | n + 2, k, h, hk => by
    by_cases hkn : k = n + 2
    · subst hkn; exact h
    · simp only [ascK, Bool.and_eq_true] at h
      exact ascK_mono h.1 (by omega)
theorem ascK_step {l : List Mp} {n k : Nat} (h : ascK l n = true) (hk : k + 1 < n) : lessB (l.getD k default) (l.getD (k + 1) default) = true := by
  have := ascK_mono h (k := k + 2) (by omega)
  simp only [ascK, Bool.and_eq_true] at this
  exact this.2

theorem less_irrefl : ∀ x : List UInt8, Op.bytesLess x x = false
  | [] => rfl
  | a :: x => by simp [Op.bytesLess, less_irrefl x]
theorem less_trans : ∀ {x y z : List UInt8}, Op.bytesLess x y = true → Op.bytesLess y z = true → Op.bytesLess x z = true
  | [], [], z, h, _ => by simp [Op.bytesLess] at h
  | [], b :: y, [], _, h => by simp [Op.bytesLess] at h
  | [], b :: y, c :: z, _, _ => rfl
  | a :: x, [], z, h, _ => by simp [Op.bytesLess] at h
  | a :: x, b :: y, [], _, h => by simp [Op.bytesLess] at h
  | a :: x, b :: y, c :: z, h, h' => by
    simp only [Op.bytesLess, Bool.or_eq_true, decide_eq_true_eq, Bool.and_eq_true, beq_iff_eq] at h h' ⊢
    rcases h with h | ⟨rfl, h⟩
    · rcases h' with h' | ⟨rfl, h'⟩
      · left; exact UInt8.lt_trans h h'
      · left; exact h
    · rcases h' with h' | ⟨rfl, h'⟩
      · left; exact h'
      · right; exact ⟨rfl, less_trans h h'⟩
theorem lessB_iff {a b : Mp} : lessB a b = true ↔ a.frm < b.frm ∨ (a.frm = b.frm ∧ lessS a.tag b.tag = true) := by
  unfold lessB
  by_cases h : a.frm < b.frm
  · simp [h]
  · by_cases h1 : a.frm = b.frm
    · simp [h1]
    · have : (a.frm == b.frm) = false := by simpa using h1
      simp [h, this, h1]
theorem lessB_trans {a b c : Mp} (h : lessB a b = true) (h' : lessB b c = true) : lessB a c = true := by
  rw [lessB_iff] at *
  rcases h with h | ⟨h, h1⟩
  · rcases h' with h' | ⟨h', _⟩
    · left; omega
    · left; omega
  · rcases h' with h' | ⟨h', h2⟩
    · left; omega
    · right; exact ⟨by omega, less_trans h1 h2⟩
theorem asc_less {l : List Mp} (h : ascK l l.length = true) : ∀ {i j : Nat}, j < i → i < l.length → lessB (l.getD j default) (l.getD i default) = true
  | 0, j, hj, _ => by omega
  | i + 1, j, hj, hi => by
    have h1 := ascK_step h (k := i) (by omega)
    by_cases hji : j = i
    · subst hji; exact h1
    · exact lessB_trans (asc_less h (by omega) (by omega)) h1
theorem asc_nodup {l : List Mp} (h : ascK l l.length = true) : dupB l = false := by
  refine dup_no fun i j hd => ?_
  have h1 := asc_less h hd.1 hd.2.1
  obtain ⟨e1, e2⟩ := sameK_iff.1 hd.2.2
  rw [lessB_iff, ← e1, ← e2] at h1
  rcases h1 with h1 | ⟨_, h1⟩
  · omega
  · simp [lessS, less_irrefl] at h1

/-! Check -/
noncomputable def checkE (l : List Mp) : Int := bif partsE l == 0 then (bif ascK l l.length then 0 else (bif dupB l then 5 else 4)) else partsE l
noncomputable def ctCheck : Ct := { ι := List Mp, inp := fun l => [mpsD l], out := fun l => .v (.int .i64 (checkE l)), pre := fitL }
theorem cmpM_less {a b : Mp} : decide (cmpM a b ≥ 0) = !lessB a b := by
  have hS : ∀ x y : ByteArray, decide (cmpS x y ≥ 0) = !lessS x y := by
    intro x y
    unfold cmpS
    split
    · rename_i h; simp [h]
    · rename_i h
      simp only [Bool.not_eq_true] at h
      rw [h]
      split <;> simp
  have hI : cmpI a.frm b.frm = 0 ↔ a.frm = b.frm := by
    unfold cmpI
    split
    · constructor
      · intro h; simp at h
      · omega
    · split
      · constructor
        · intro h; simp at h
        · omega
      · constructor
        · intro; omega
        · intro; rfl
  unfold cmpM lessB
  by_cases h : a.frm = b.frm
  · rw [if_pos (hI.2 h), hS]
    have h1 : ¬ a.frm < b.frm := by omega
    have h2 : (a.frm == b.frm) = true := by simpa using h
    simp [h1, h2]
  · rw [if_neg (fun e => h (hI.1 e))]
    have h2 : (a.frm == b.frm) = false := by simpa using h
    unfold cmpI
    by_cases h1 : a.frm < b.frm
    · simp [h1]
    · have h3 : a.frm > b.frm := by omega
      simp [h1, h2, h3]

def keyK (m : Mp) : KV := .st [.i .i64 m.frm, .s m.tag]
def seenF (l : List Mp) : Nat → KV → Option D
  | 0 => fun _ => none
  | k + 1 => fun k' => if k' = keyK (l.getD k default) then some (.v (.bool true)) else seenF l k k'
theorem seen_some {l : List Mp} {key : KV} {d : D} : ∀ {k : Nat}, seenF l k key = some d → d = .v (.bool true) ∧ ∃ j, j < k ∧ key = keyK (l.getD j default)
  | 0, h => by simp [seenF] at h
  | k + 1, h => by
    simp only [seenF] at h
    split at h
    · rename_i hk
      simp at h
      exact ⟨h.symm, k, by omega, hk⟩
    · obtain ⟨h1, j, h2, h3⟩ := seen_some h
      exact ⟨h1, j, by omega, h3⟩
theorem seen_none {l : List Mp} {key : KV} : ∀ {k : Nat}, seenF l k key = none → ∀ j, j < k → key ≠ keyK (l.getD j default)
  | 0, _, j, hj => by omega
  | k + 1, h, j, hj => by
    simp only [seenF] at h
    split at h
    · simp at h
    · rename_i hk
      by_cases hjk : j = k
      · subst hjk; exact hk
      · exact seen_none h j (by omega)
theorem keyK_iff {a b : Mp} : keyK a = keyK b ↔ sameK a b = true := by
  rw [sameK_iff]
  simp [keyK]

noncomputable def Γk : Ctx := fun f => match f with
  | 35 => some (.pure ctParts)
  | 36 => some (.pure ctCompare)
  | 37 => some (.pure ctKeyOf)
  | 38 => some (.pure ctUnsorted)
  | 39 => some (.pure ctBefore)
  | _ => none
theorem Γk_ok : CtxOk Tryz.prog (GlT mx) Γk := by
  intro f h hh
  simp only [Γk] at hh
  split at hh <;> simp at hh <;> subst hh
  · exact parts_ok
  · exact compare_ok
  · exact keyOf_ok
  · exact runsorted_ok
  · exact rbefore_ok

set_option maxHeartbeats 2000000 in
theorem check_ok : Sound Tryz.prog (GlT mx) 14 ctCheck := by
  refine sound_by (cc := false) Γk_ok Tryz.T_ok Tryz.mixed Tryz.func14 rfl (by kernel_rfl) (fun _ => rfl) (fun _ _ => by show 1 ≤ 47; decide) ?_
  intro (l : List Mp) (hl0 : fitL l)
  have hl := hl0.1
  repeat first | refine wk1 ?_ | refine wk2 ?_ | refine wk3 ?_
  refine ⟨l, EntL.refl _, hl0, ?_⟩
  repeat first | refine wk1 ?_ | refine wk2 ?_ | refine wk3 ?_
  refine And.intro (fun h => ?_) (fun h => ?_)
  · have h : (partsE l != 0) = true := h
    repeat first | refine wk1 ?_ | refine wk2 ?_ | refine wk3 ?_
    refine EntR.int ?_
    have h : (partsE l == 0) = false := by simpa [bne] using h
    simp [checkE, h]
  have h : (partsE l != 0) = false := h
  have h0 : (partsE l == 0) = true := by simpa [bne] using h
  repeat first | refine wk1 ?_ | refine wk2 ?_ | refine wk3 ?_
  refine ⟨0, Nat, fun k => ⟨[(0, mpsD l), (4, .v (.bool (ascK l (k + 1)))), (5, .v (.int .i64 ((k + 1 : Nat) : Int)))], [], []⟩, fun k => k = 0 ∨ k + 1 ≤ l.length, fun k => l.length - k, fun _ => Nat.zero_le _, ⟨0, .inl rfl, StLe.of (by repeat' (first | exact trivial | exact Ent.refl _ | exact rfl | refine And.intro ?_ ?_)) trivial⟩, ?_⟩
  intro k hk
  repeat first | refine wk1 ?_ | refine wk2 ?_ | refine wk3 ?_
  refine And.intro (fun h => ?_) (fun h => ?_)
  · have h : k + 1 < l.length := by simp at h; omega
    repeat first | refine wk1 ?_ | refine wk2 ?_ | refine wk3 ?_
    refine And.intro (by kernel_rfl) ?_
    repeat first | refine wk1 ?_ | refine wk2 ?_ | refine wk3 ?_
    refine And.intro (fun _ => show fitsI64 (((k + 1 : Nat) : Int) - 1) from ⟨by omega, by omega⟩) ?_
    repeat first | refine wk1 ?_ | refine wk2 ?_ | refine wk3 ?_
    refine And.intro (fun _ => by omega) ?_
    repeat first | refine wk1 ?_ | refine wk2 ?_ | refine wk3 ?_
    refine And.intro (fun _ => by omega) ?_
    repeat first | refine wk1 ?_ | refine wk2 ?_ | refine wk3 ?_
    refine ⟨(l.getD k default, l.getD (k + 1) default), ?_, fun _ => trivial, ?_⟩
    · have : (((k + 1 : Nat) : Int) - 1).toNat = k := by omega
      show EntL [mpA (l.getD (((k + 1 : Nat) : Int) - 1).toNat default), mpA (l.getD (k + 1) default)] _
      rw [this]
      exact EntL.refl _
    repeat first | refine wk1 ?_ | refine wk2 ?_ | refine wk3 ?_
    refine And.intro (fun h1 => ?_) (fun h1 => ?_)
    · have h1 : decide (cmpM (l.getD k default) (l.getD (k + 1) default) ≥ 0) = true := h1
      rw [cmpM_less] at h1
      repeat first | refine wk1 ?_ | refine wk2 ?_ | refine wk3 ?_
      refine And.intro (show fitsI64 (((k + 1 : Nat) : Int) + 1) from ⟨by omega, by omega⟩) ?_
      repeat first | refine wk1 ?_ | refine wk2 ?_ | refine wk3 ?_
      refine ⟨k + 1, .inr (by omega), (show l.length - (k + 1) < l.length - k by omega), StLe.of ⟨Ent.refl _, rfl, Ent.v ?_, rfl, Ent.refl _, rfl, trivial⟩ trivial⟩
      simp only [Bool.not_eq_true'] at h1
      simp only [ascK, h1, Bool.and_false]
    · have h1 : decide (cmpM (l.getD k default) (l.getD (k + 1) default) ≥ 0) = false := h1
      rw [cmpM_less] at h1
      repeat first | refine wk1 ?_ | refine wk2 ?_ | refine wk3 ?_
      refine And.intro (show fitsI64 (((k + 1 : Nat) : Int) + 1) from ⟨by omega, by omega⟩) ?_
      repeat first | refine wk1 ?_ | refine wk2 ?_ | refine wk3 ?_
      refine ⟨k + 1, .inr (by omega), (show l.length - (k + 1) < l.length - k by omega), StLe.of ⟨Ent.refl _, rfl, Ent.v ?_, rfl, Ent.refl _, rfl, trivial⟩ trivial⟩
      simp only [Bool.not_eq_false'] at h1
      simp only [ascK, h1, Bool.and_true]
  have hasc : ascK l (k + 1) = ascK l l.length := by
    have h : ¬ k + 1 < l.length := by simp at h; omega
    rcases hk with rfl | hk
    · have : l.length = 0 ∨ l.length = 1 := by omega
      rcases this with e | e <;> rw [e] <;> rfl
    · have : k + 1 = l.length := by omega
      rw [this]
  repeat first | refine wk1 ?_ | refine wk2 ?_ | refine wk3 ?_
  refine And.intro (fun h1 => ?_) (fun h1 => ?_)
  · have h1 : ascK l (k + 1) = true := h1
    repeat first | refine wk1 ?_ | refine wk2 ?_ | refine wk3 ?_
    exact EntR.int (by simp [checkE, h0, ← hasc, h1])
  have h1 : ascK l (k + 1) = false := h1
  rw [hasc] at h1
  repeat first | refine wk1 ?_ | refine wk2 ?_ | refine wk3 ?_
  refine ⟨0, Nat, fun k => ⟨[(6, .mp 0), (33, mpsD l), (34, .v (.int .i64 l.length)), (35, .v (.int .i64 k))], [.map 60 4 (.st [0, 1]) (seenF l k)], []⟩, fun k => k ≤ l.length ∧ ∀ i j, i < k → ¬ Dup l i j, fun k => l.length - k, fun _ => Nat.zero_le _, ⟨0, ⟨Nat.zero_le _, fun i j hj => by omega⟩, StLe.ren [0] (by repeat' (first | exact trivial | exact Ent.refl _ | exact rfl | refine And.intro ?_ ?_)) ⟨⟨rfl, rfl, rfl, fun _ => trivial⟩, trivial⟩ (by decide)⟩, ?_⟩
  rintro k ⟨hk, hd⟩
  repeat first | refine wk1 ?_ | refine wk2 ?_ | refine wk3 ?_
  refine And.intro (fun h => ?_) (fun h => ?_)
  · have h : k < l.length := by simpa using h
    repeat first | refine wk1 ?_ | refine wk2 ?_ | refine wk3 ?_
    refine And.intro (by omega) ?_
    repeat first | refine wk1 ?_ | refine wk2 ?_ | refine wk3 ?_
    refine ⟨l.getD k default, EntL.refl _, trivial, ?_⟩
    repeat first | refine wk1 ?_ | refine wk2 ?_ | refine wk3 ?_
    refine And.intro (fun d hf => ?_) (fun hf => ?_)
    · have hf : seenF l k (keyK (l.getD k default)) = some d := hf
      obtain ⟨rfl, j, hj, hjk⟩ := seen_some hf
      repeat first | refine wk1 ?_ | refine wk2 ?_ | refine wk3 ?_
      refine And.intro (fun _ => ?_) (fun h => Bool.noConfusion (show true = false from h))
      repeat first | refine wk1 ?_ | refine wk2 ?_ | refine wk3 ?_
      have hdup := dup_yes (l := l) (i := k) (j := j) ⟨hj, h, keyK_iff.1 hjk⟩
      exact EntR.int (by simp [checkE, h0, h1, hdup])
    · have hf : seenF l k (keyK (l.getD k default)) = none := hf
      have hno := seen_none hf
      repeat first | refine wk1 ?_ | refine wk2 ?_ | refine wk3 ?_
      refine And.intro (fun h => Bool.noConfusion (show false = true from h)) (fun _ => ?_)
      repeat first | refine wk1 ?_ | refine wk2 ?_ | refine wk3 ?_
      refine ⟨l.getD k default, EntL.refl _, trivial, ?_⟩
      repeat first | refine wk1 ?_ | refine wk2 ?_ | refine wk3 ?_
      refine And.intro (show fitsI64 ((k : Int) + 1) from ⟨by omega, by omega⟩) ?_
      repeat first | refine wk1 ?_ | refine wk2 ?_ | refine wk3 ?_
      refine ⟨k + 1, ⟨by omega, fun i j hi hdd => ?_⟩, (show l.length - (k + 1) < l.length - k by omega), StLe.ren [0] (by repeat' (first | exact trivial | exact Ent.refl _ | exact rfl | refine And.intro ?_ ?_)) ⟨⟨rfl, rfl, rfl, fun key => ?_⟩, trivial⟩ (by decide)⟩
      · by_cases hik : i = k
        · subst hik
          exact hno j hdd.1 (keyK_iff.2 hdd.2.2)
        · exact hd i j (by omega) hdd
      · show OptRen [0] (seenF l (k + 1) key) (seenF l (k + 1) key)
        cases hs : seenF l (k + 1) key with
        | none => trivial
        | some d =>
          obtain ⟨rfl, _⟩ := seen_some hs
          exact ⟨Ent.refl _, rfl⟩
  · have h : k = l.length := by simp at h; omega
    repeat first | refine wk1 ?_ | refine wk2 ?_ | refine wk3 ?_
    have hdup := dup_no (l := l) fun i j hdd => hd i j (by have := hdd.2.1; omega) hdd
    exact EntR.int (by simp [checkE, h0, h1, hdup])

set_option maxHeartbeats 2000000 in
theorem rcheck_ok : Sound Tryz.prog (GlT mx) 15 ctCheck := by
  refine sound_by (cc := false) Γk_ok Tryz.T_ok Tryz.mixed Tryz.func15 rfl (by kernel_rfl) (fun _ => rfl) (fun _ _ => by show 1 ≤ 27; decide) ?_
  intro (l : List Mp) (hl0 : fitL l)
  have hl := hl0.1
  repeat first | refine wk1 ?_ | refine wk2 ?_ | refine wk3 ?_
  refine ⟨l, EntL.refl _, hl0, ?_⟩
  repeat first | refine wk1 ?_ | refine wk2 ?_ | refine wk3 ?_
  refine And.intro (fun h => ?_) (fun h => ?_)
  · have h : (unsortedE l != 0) = true := h
    repeat first | refine wk1 ?_ | refine wk2 ?_ | refine wk3 ?_
    refine EntR.int ?_
    by_cases h0 : (partsE l == 0) = true
    · simp only [unsortedE, h0, cond_true] at h ⊢
      cases hdup : dupB l with
      | false => rw [hdup] at h; simp at h
      | true =>
        have hasc : ascK l l.length = false := by
          cases ha : ascK l l.length with
          | false => rfl
          | true => rw [asc_nodup ha] at hdup; simp at hdup
        simp [checkE, h0, hasc, hdup]
    · simp only [Bool.not_eq_true] at h0
      simp [unsortedE, checkE, h0]
  have h : (unsortedE l != 0) = false := h
  have h0 : (partsE l == 0) = true ∧ dupB l = false := by
    by_cases h0 : (partsE l == 0) = true
    · refine ⟨h0, ?_⟩
      simp only [unsortedE, h0, cond_true] at h
      cases hdup : dupB l with
      | false => rfl
      | true => rw [hdup] at h; simp at h
    · simp only [Bool.not_eq_true] at h0
      have h2 : (partsE l != 0) = false := by simpa [unsortedE, h0] using h
      simp [bne, h0] at h2
  repeat first | refine wk1 ?_ | refine wk2 ?_ | refine wk3 ?_
  refine ⟨0, Nat, fun k => ⟨[(0, mpsD l), (4, .v (.int .i64 ((k + 1 : Nat) : Int)))], [], []⟩, fun k => (k = 0 ∨ k + 1 ≤ l.length) ∧ ascK l (k + 1) = true, fun k => l.length - k, fun _ => Nat.zero_le _, ⟨0, ⟨.inl rfl, rfl⟩, StLe.of (by repeat' (first | exact trivial | exact Ent.refl _ | exact rfl | refine And.intro ?_ ?_)) trivial⟩, ?_⟩
  rintro k ⟨hk, ha⟩
  repeat first | refine wk1 ?_ | refine wk2 ?_ | refine wk3 ?_
  refine And.intro (fun h => ?_) (fun h => ?_)
  · have h : k + 1 < l.length := by simp at h; omega
    repeat first | refine wk1 ?_ | refine wk2 ?_ | refine wk3 ?_
    refine And.intro (by kernel_rfl) ?_
    repeat first | refine wk1 ?_ | refine wk2 ?_ | refine wk3 ?_
    refine And.intro (fun _ => show fitsI64 (((k + 1 : Nat) : Int) - 1) from ⟨by omega, by omega⟩) ?_
    repeat first | refine wk1 ?_ | refine wk2 ?_ | refine wk3 ?_
    refine And.intro (fun _ => by omega) ?_
    repeat first | refine wk1 ?_ | refine wk2 ?_ | refine wk3 ?_
    refine And.intro (fun _ => by omega) ?_
    repeat first | refine wk1 ?_ | refine wk2 ?_ | refine wk3 ?_
    refine ⟨(l.getD k default, l.getD (k + 1) default), ?_, fun _ => trivial, ?_⟩
    · have : (((k + 1 : Nat) : Int) - 1).toNat = k := by omega
      show EntL [mpA (l.getD (((k + 1 : Nat) : Int) - 1).toNat default), mpA (l.getD (k + 1) default)] _
      rw [this]
      exact EntL.refl _
    repeat first | refine wk1 ?_ | refine wk2 ?_ | refine wk3 ?_
    refine And.intro (fun h1 => ?_) (fun h1 => ?_)
    · have h1 : (!lessB (l.getD k default) (l.getD (k + 1) default)) = true := h1
      repeat first | refine wk1 ?_ | refine wk2 ?_ | refine wk3 ?_
      refine EntR.int ?_
      have hasc : ascK l l.length = false := by
        cases hx : ascK l l.length with
        | false => rfl
        | true => rw [ascK_step hx h] at h1; simp at h1
      simp [checkE, h0.1, hasc, h0.2]
    · have h1 : (!lessB (l.getD k default) (l.getD (k + 1) default)) = false := h1
      repeat first | refine wk1 ?_ | refine wk2 ?_ | refine wk3 ?_
      refine And.intro (show fitsI64 (((k + 1 : Nat) : Int) + 1) from ⟨by omega, by omega⟩) ?_
      repeat first | refine wk1 ?_ | refine wk2 ?_ | refine wk3 ?_
      refine ⟨k + 1, ⟨.inr (by omega), ?_⟩, (show l.length - (k + 1) < l.length - k by omega), StLe.of (by repeat' (first | exact trivial | exact Ent.refl _ | exact rfl | refine And.intro ?_ ?_)) trivial⟩
      simp only [Bool.not_eq_false'] at h1
      simp only [ascK, ha, h1, Bool.and_self]
  · have hasc : ascK l l.length = true := by
      have h : ¬ k + 1 < l.length := by simp at h; omega
      rcases hk with rfl | hk
      · have : l.length = 0 ∨ l.length = 1 := by omega
        rcases this with e | e <;> rw [e] <;> rfl
      · have : k + 1 = l.length := by omega
        rw [← this]; exact ha
    repeat first | refine wk1 ?_ | refine wk2 ?_ | refine wk3 ?_
    exact EntR.int (by simp [checkE, h0.1, hasc])

/-! Small -/
def shortM (m : Mp) : Bool := !(bif decide ((m.to.length : Int) > 65) then true else decide ((m.tag.size : Int) > 40))
def smallB (l : List Mp) : Bool := (l.take 30).all shortM && decide (l.length ≤ 20)
def ctSmall : Ct := { ι := List Mp, inp := fun l => [mpsD l], out := fun l => .v (.bool (smallB l)), pre := fun l => l.length ≤ 9223372036854775807 }
theorem small_facts {l : List Mp} (h : smallB l = true) : l.length ≤ 20 ∧ ∀ k, k < l.length → (l.getD k default).to.length ≤ 65 ∧ (l.getD k default).tag.size ≤ 40 := by
  simp only [smallB, Bool.and_eq_true, decide_eq_true_eq, List.all_eq_true] at h
  refine ⟨h.2, fun k hk => ?_⟩
  have h2 := h.2
  have := h.1 l[k] (by rw [List.mem_take_iff_getElem]; exact ⟨k, by omega, rfl⟩)
  have e : l.getD k default = l[k] := by simp [List.getD_eq_getElem?_getD, hk]
  rw [e]
  simp only [shortM] at this
  by_cases h1 : (l[k].to.length : Int) > 65
  · simp [h1] at this
  · simp [h1] at this
    omega
theorem small_fit {l : List Mp} (h : smallB l = true) : fitL l := by
  obtain ⟨h1, h2⟩ := small_facts h
  refine ⟨by omega, fun k hk => ?_⟩
  have := h2 k hk
  exact ⟨by omega, by omega⟩
set_option maxHeartbeats 1000000 in
theorem rsmall_ok : Sound Tryz.prog (GlT mx) 13 ctSmall := by
  refine sound_by (cc := false) Γ0_ok Tryz.T_ok Tryz.mixed Tryz.func13 rfl (by kernel_rfl) (fun _ => rfl) (fun _ _ => by show 1 ≤ 33; decide) ?_
  intro (l : List Mp) (hl : l.length ≤ 9223372036854775807)
  repeat first | refine wk1 ?_ | refine wk2 ?_ | refine wk3 ?_
  refine ⟨0, Nat, fun k => ⟨[(0, mpsD l), (3, .v (.int .i64 k))], [], []⟩, fun k => k ≤ l.length ∧ k ≤ 30 ∧ ∀ j, j < k → shortM (l.getD j default) = true, fun k => l.length - k, fun _ => Nat.zero_le _, ⟨0, ⟨Nat.zero_le _, Nat.zero_le _, fun j hj => by omega⟩, StLe.of (by repeat' (first | exact trivial | exact Ent.refl _ | exact rfl | refine And.intro ?_ ?_)) trivial⟩, ?_⟩
  rintro k ⟨hk, hk3, hd⟩
  repeat first | refine wk1 ?_ | refine wk2 ?_ | refine wk3 ?_
  refine And.intro (fun h => ?_) (fun h => ?_)
  · have h : k < l.length ∧ (k : Int) < 30 := by simpa using h
    obtain ⟨h, h3⟩ := h
    repeat first | refine wk1 ?_ | refine wk2 ?_ | refine wk3 ?_
    refine And.intro (by omega) ?_
    repeat first | refine wk1 ?_ | refine wk2 ?_ | refine wk3 ?_
    refine And.intro (fun _ => by omega) ?_
    repeat first | refine wk1 ?_ | refine wk2 ?_ | refine wk3 ?_
    refine And.intro (fun h1 => ?_) (fun h1 => ?_)
    · have h1 : (bif decide (((l.getD k default).to.length : Int) > 65) then true else decide (((l.getD k default).tag.size : Int) > 40)) = true := h1
      repeat first | refine wk1 ?_ | refine wk2 ?_ | refine wk3 ?_
      refine EntR.bool ?_
      have h2 : (l.take 30).all shortM = false := by
        rw [List.all_eq_false]
        refine ⟨l[k], by rw [List.mem_take_iff_getElem]; exact ⟨k, by omega, rfl⟩, ?_⟩
        have e : l.getD k default = l[k] := by simp [List.getD_eq_getElem?_getD, h]
        rw [e] at h1
        simp [shortM, h1]
      simp [smallB, h2]
    · have h1 : (bif decide (((l.getD k default).to.length : Int) > 65) then true else decide (((l.getD k default).tag.size : Int) > 40)) = false := h1
      repeat first | refine wk1 ?_ | refine wk2 ?_ | refine wk3 ?_
      refine And.intro (show fitsI64 ((k : Int) + 1) from ⟨by omega, by omega⟩) ?_
      repeat first | refine wk1 ?_ | refine wk2 ?_ | refine wk3 ?_
      exact ⟨k + 1, ⟨by omega, by omega, next_of hd (by simp only [shortM, h1, Bool.not_false])⟩, (show l.length - (k + 1) < l.length - k by omega), StLe.of (by repeat' (first | exact trivial | exact Ent.refl _ | exact rfl | refine And.intro ?_ ?_)) trivial⟩
  · have h : k = l.length ∨ k = 30 := by
      by_cases h1 : k = l.length
      · exact .inl h1
      · have : k < l.length := by omega
        simp [this] at h
        right; omega
    repeat first | refine wk1 ?_ | refine wk2 ?_ | refine wk3 ?_
    refine EntR.bool ?_
    have h2 : (l.take 30).all shortM = true := by
      rw [List.all_eq_true]
      intro c hc
      rw [List.mem_take_iff_getElem] at hc
      obtain ⟨i, hi, rfl⟩ := hc
      have := hd i (by omega)
      simpa [List.getD_eq_getElem?_getD, show i < l.length by omega] using this
    simp only [smallB, h2, Bool.true_and]
    show decide ((l.length : Int) ≤ 20) = _
    rw [decide_eq_decide]
    omega
end Go.Proofs
