import Derived.Test.YtnegdnbodccgkaaGreatDoorGc
set_option linter.unusedVariables false
set_option linter.unusedSimpArgs false
namespace Go.Proofs
open Go Go.Sx
variable {mx : Int} {pb : Bool}

/-! names -/
theorem nameC_t {b : Int} (h : (65 ≤ b ∧ b ≤ 90) ∨ (97 ≤ b ∧ b ≤ 122) ∨ (48 ≤ b ∧ b ≤ 57) ∨ b = 95) : nameC b = true := by
  simp only [nameC, Bool.or_eq_true, Bool.and_eq_true, decide_eq_true_eq, beq_iff_eq]
  omega
theorem nameC_f {b : Int} (h : ¬ ((65 ≤ b ∧ b ≤ 90) ∨ (97 ≤ b ∧ b ≤ 122) ∨ (48 ≤ b ∧ b ≤ 57) ∨ b = 95)) : nameC b = false := by
  rw [← Bool.not_eq_true]
  simp only [nameC, Bool.or_eq_true, Bool.and_eq_true, decide_eq_true_eq, beq_iff_eq]
  omega
theorem name_short {s : ByteArray} (h : s.size < 1 ∨ 32 < s.size) : isNameB s = false := by
  unfold isNameB
  rcases h with h | h
  · rw [decide_eq_false (show ¬ 1 ≤ s.size by omega)]; rfl
  · rw [decide_eq_false (show ¬ s.size ≤ 32 by omega), Bool.and_false]; rfl
theorem name_all {s : ByteArray} (h1 : 1 ≤ s.size) (h2 : s.size ≤ 32) (h : ∀ j, j < s.size → nameC (bAt s j) = true) : isNameB s = true := by
  rw [name_yes h, decide_eq_true h1, decide_eq_true h2]; rfl
def ctNm : Ct := { ι := ByteArray, inp := fun s => [.v (.string s)], out := fun s => .v (.bool (isNameB s)), pre := fun _ => True }
set_option maxHeartbeats 4000000 in
theorem pName_ok : Sound Tryz.prog (GlT mx pb) 140 ctNm := by
  refine sound_by (cc := true) Γ0_ok Tryz.T_ok Tryz.mixed Tryz.func140 rfl (by kernel_rfl) (fun _ => rfl) (fun _ _ => by show 1 ≤ 51; decide) ?_
  intro (s : ByteArray) _
  repeat' (first | refine gw ?_ | (refine br (fun q_ => ?_) (fun q_ => ?_) <;> try simp only [Int.toNat_natCast, Nat.mul_one, Nat.add_zero] at q_) | (refine brF (fun q_ => ?_) (fun q_ => ?_) <;> try simp only [Int.toNat_natCast, Nat.mul_one, Nat.add_zero] at q_))
  · exact EntR.bool (name_short (.inr (by omega))).symm
  · rename_i h0
    have h1 : 1 ≤ s.size := by
      rcases Nat.eq_zero_or_pos s.size with h | h
      · exact absurd (size_nil (List.length_eq_zero_iff.1 h)) h0
      · exact h
    refine ⟨0, Nat, fun k => ⟨[(0, .v (.string s)), (14, .v (.int .i64 s.size)), (15, .v (.int .i64 k))], [], []⟩, fun k => k ≤ s.size ∧ ∀ j, j < k → nameC (bAt s j) = true, fun k => s.size - k, fun _ => Nat.zero_le _, ⟨0, ⟨Nat.zero_le _, fun j hj => by omega⟩, StLe.ren [] tmS trivial (by decide)⟩, ?_⟩
    rintro k ⟨hk, hd⟩
    by_cases hlt : k < s.size
    · repeat' (first | refine gw ?_ | (refine br (fun q_ => ?_) (fun q_ => ?_) <;> try simp only [Int.toNat_natCast, Nat.mul_one, Nat.add_zero] at q_) | (refine brF (fun q_ => ?_) (fun q_ => ?_) <;> try simp only [Int.toNat_natCast, Nat.mul_one, Nat.add_zero] at q_))
      all_goals first
        | (exfalso; omega)
        | exact EntR.bool (name_no hlt (nameC_f (by omega))).symm
        | exact ⟨k + 1, ⟨by omega, next_of hd (nameC_t (by omega))⟩, (by show s.size - (k + 1) < s.size - k; omega), StLe.ren [] tmS trivial (by decide)⟩
    · repeat' (first | refine gw ?_ | (refine br (fun q_ => ?_) (fun q_ => ?_) <;> try simp only [Int.toNat_natCast, Nat.mul_one, Nat.add_zero] at q_) | (refine brF (fun q_ => ?_) (fun q_ => ?_) <;> try simp only [Int.toNat_natCast, Nat.mul_one, Nat.add_zero] at q_))
      exact EntR.bool (name_all h1 (by omega) (fun j hj => hd j (by omega))).symm
  · exact EntR.bool (name_short (.inl (by have := congrArg ByteArray.size q_; rw [this]; decide))).symm
set_option maxHeartbeats 4000000 in
theorem rNamed_ok : Sound Tryz.prog (GlT mx pb) 145 ctNm := by
  refine sound_by (cc := true) Γ0_ok Tryz.T_ok Tryz.mixed Tryz.func145 rfl (by kernel_rfl) (fun _ => rfl) (fun _ _ => by show 1 ≤ 49; decide) ?_
  intro (s : ByteArray) _
  repeat' (first | refine gw ?_ | (refine br (fun q_ => ?_) (fun q_ => ?_) <;> try simp only [Int.toNat_natCast, Nat.mul_one, Nat.add_zero] at q_) | (refine brF (fun q_ => ?_) (fun q_ => ?_) <;> try simp only [Int.toNat_natCast, Nat.mul_one, Nat.add_zero] at q_))
  · exact EntR.bool (name_short (.inr (by omega))).symm
  · refine ⟨0, Nat, fun k => ⟨[(0, .v (.string s)), (3, .v (.int .i64 k))], [], []⟩, fun k => k ≤ s.size ∧ ∀ j, j < k → nameC (bAt s j) = true, fun k => s.size - k, fun _ => Nat.zero_le _, ⟨0, ⟨Nat.zero_le _, fun j hj => by omega⟩, StLe.ren [] tmS trivial (by decide)⟩, ?_⟩
    rintro k ⟨hk, hd⟩
    by_cases hlt : k < s.size
    · repeat' (first | refine gw ?_ | (refine br (fun q_ => ?_) (fun q_ => ?_) <;> try simp only [Int.toNat_natCast, Nat.mul_one, Nat.add_zero] at q_) | (refine brF (fun q_ => ?_) (fun q_ => ?_) <;> try simp only [Int.toNat_natCast, Nat.mul_one, Nat.add_zero] at q_))
      all_goals first
        | (exfalso; omega)
        | exact EntR.bool (name_no hlt (nameC_f (by omega))).symm
        | exact ⟨k + 1, ⟨by omega, next_of hd (nameC_t (by omega))⟩, (by show s.size - (k + 1) < s.size - k; omega), StLe.ren [] tmS trivial (by decide)⟩
    · repeat' (first | refine gw ?_ | (refine br (fun q_ => ?_) (fun q_ => ?_) <;> try simp only [Int.toNat_natCast, Nat.mul_one, Nat.add_zero] at q_) | (refine brF (fun q_ => ?_) (fun q_ => ?_) <;> try simp only [Int.toNat_natCast, Nat.mul_one, Nat.add_zero] at q_))
      exact EntR.bool (name_all (by omega) (by omega) (fun j hj => hd j (by omega))).symm
  · exact EntR.bool (name_short (.inl (by omega))).symm
end Go.Proofs
