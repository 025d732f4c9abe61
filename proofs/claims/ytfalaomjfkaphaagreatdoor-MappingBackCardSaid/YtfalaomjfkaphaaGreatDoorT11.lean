import Derived.Test.YtfalaomjfkaphaaGreatDoorT8
set_option linter.unusedVariables false
set_option linter.unusedSimpArgs false
namespace Go.Proofs
open Go Go.Sx
variable {mx : Int} {pb : Bool}

/-! digits and numbers of code points -/
def dvalI (b : Int) : Int := if 48 ≤ b ∧ b ≤ 57 then b - 48 else if 65 ≤ b ∧ b ≤ 70 then b - 55 else -1
theorem dvalI_le (b : Int) : -1 ≤ dvalI b ∧ dvalI b ≤ 15 := by unfold dvalI; split <;> (try split) <;> omega
def ctDval : Ct := { ι := Int, inp := fun b => [.v (.int .u8 b)], out := fun b => .v (.int .i64 (dvalI b)), pre := fun _ => True }
def dgT : List Int := [48, 49, 50, 51, 52, 53, 54, 55, 56, 57, 65, 66, 67, 68, 69, 70]
theorem dgT_at {k : Nat} (hk : k < 16) : dvalI (dgT.getD k 0) = k := by
  have h : ∀ i : Fin 16, dvalI (dgT.getD i.1 0) = (i.1 : Int) := by decide
  exact h ⟨k, hk⟩
theorem dgT_no {b : Int} (h : ∀ j, j < 16 → ¬ dgT.getD j 0 = b) : dvalI b = -1 := by
  have h0 : ¬ (48 : Int) = b := h 0 (by decide)
  have h1 : ¬ (49 : Int) = b := h 1 (by decide)
  have h2 : ¬ (50 : Int) = b := h 2 (by decide)
  have h3 : ¬ (51 : Int) = b := h 3 (by decide)
  have h4 : ¬ (52 : Int) = b := h 4 (by decide)
  have h5 : ¬ (53 : Int) = b := h 5 (by decide)
  have h6 : ¬ (54 : Int) = b := h 6 (by decide)
  have h7 : ¬ (55 : Int) = b := h 7 (by decide)
  have h8 : ¬ (56 : Int) = b := h 8 (by decide)
  have h9 : ¬ (57 : Int) = b := h 9 (by decide)
  have hA : ¬ (65 : Int) = b := h 10 (by decide)
  have hB : ¬ (66 : Int) = b := h 11 (by decide)
  have hC : ¬ (67 : Int) = b := h 12 (by decide)
  have hD : ¬ (68 : Int) = b := h 13 (by decide)
  have hE : ¬ (69 : Int) = b := h 14 (by decide)
  have hF : ¬ (70 : Int) = b := h 15 (by decide)
  unfold dvalI
  rw [if_neg (by omega), if_neg (by omega)]
def dgB : ByteArray := ⟨#[48, 49, 50, 51, 52, 53, 54, 55, 56, 57, 65, 66, 67, 68, 69, 70]⟩
theorem dgB_at {k : Nat} (hk : k < 16) : bAt dgB k = dgT.getD k 0 := by
  have h : ∀ i : Fin 16, bAt dgB i.1 = dgT.getD i.1 0 := by decide
  exact h ⟨k, hk⟩
set_option maxHeartbeats 4000000 in
theorem value_ok : Sound Tryz.prog (GlT mx pb) 110 ctDval := by
  refine sound_by (cc := true) Γ0_ok Tryz.T_ok Tryz.mixed Tryz.func110 rfl (by kernel_rfl) (fun _ => rfl) (fun _ _ => by show 1 ≤ 14; decide) ?_
  intro (b : Int) _
  repeat' (first | refine gw ?_ | (refine br (fun q_ => ?_) (fun q_ => ?_) <;> try simp only [Int.toNat_natCast, Nat.mul_one, Nat.add_zero] at q_) | (refine brF (fun q_ => ?_) (fun q_ => ?_) <;> try simp only [Int.toNat_natCast, Nat.mul_one, Nat.add_zero] at q_))
  refine ⟨0, Nat, fun k => ⟨[(0, .v (.int .u8 b)), (4, .v (.int .i64 k))], [], []⟩, fun k => k ≤ 16 ∧ ∀ j, j < k → ¬ dgT.getD j 0 = b, fun k => 16 - k, fun _ => Nat.zero_le _, ⟨0, ⟨Nat.zero_le _, fun j hj => by omega⟩, StLe.ren [] tmS trivial (by decide)⟩, ?_⟩
  rintro k ⟨hk, hd⟩
  by_cases hlt : k < 16
  · repeat' (first | refine gw ?_ | (refine br (fun q_ => ?_) (fun q_ => ?_) <;> try simp only [Int.toNat_natCast, Nat.mul_one, Nat.add_zero] at q_) | (refine brF (fun q_ => ?_) (fun q_ => ?_) <;> try simp only [Int.toNat_natCast, Nat.mul_one, Nat.add_zero] at q_))
    · exact EntR.int (by rw [← q_]; exact (dgT_at hlt).symm)
    · exact ⟨k + 1, ⟨by omega, next_of hd q_⟩, (show 16 - (k + 1) < 16 - k by omega), StLe.ren [] tmS trivial (by decide)⟩
  · repeat' (first | refine gw ?_ | (refine br (fun q_ => ?_) (fun q_ => ?_) <;> try simp only [Int.toNat_natCast, Nat.mul_one, Nat.add_zero] at q_) | (refine brF (fun q_ => ?_) (fun q_ => ?_) <;> try simp only [Int.toNat_natCast, Nat.mul_one, Nat.add_zero] at q_))
    exact EntR.int (dgT_no (fun j hj => hd j (by omega))).symm
set_option maxHeartbeats 4000000 in
theorem rdigit_ok : Sound Tryz.prog (GlT mx pb) 81 ctDval := by
  refine sound_by (cc := true) Γ0_ok Tryz.T_ok Tryz.mixed Tryz.func81 rfl (by kernel_rfl) (fun _ => rfl) (fun _ _ => by show 1 ≤ 13; decide) ?_
  intro (b : Int) _
  repeat' (first | refine gw ?_ | (refine br (fun q_ => ?_) (fun q_ => ?_) <;> try simp only [Int.toNat_natCast, Nat.mul_one, Nat.add_zero] at q_) | (refine brF (fun q_ => ?_) (fun q_ => ?_) <;> try simp only [Int.toNat_natCast, Nat.mul_one, Nat.add_zero] at q_))
  refine ⟨0, Nat, fun k => ⟨[(0, .v (.int .u8 b)), (3, .v (.int .i64 k))], [], []⟩, fun k => k ≤ 16 ∧ ∀ j, j < k → ¬ dgT.getD j 0 = b, fun k => 16 - k, fun _ => Nat.zero_le _, ⟨0, ⟨Nat.zero_le _, fun j hj => by omega⟩, StLe.ren [] tmS trivial (by decide)⟩, ?_⟩
  rintro k ⟨hk, hd⟩
  by_cases hlt : k < 16
  · repeat' (first | refine gw ?_ | (refine br (fun q_ => ?_) (fun q_ => ?_) <;> try simp only [Int.toNat_natCast, Nat.mul_one, Nat.add_zero] at q_) | (refine brF (fun q_ => ?_) (fun q_ => ?_) <;> try simp only [Int.toNat_natCast, Nat.mul_one, Nat.add_zero] at q_))
    · exact EntR.int (by rw [← q_]; exact ((congrArg dvalI (dgB_at hlt)).trans (dgT_at hlt)).symm)
    · exact ⟨k + 1, ⟨by omega, next_of hd (fun e => q_ ((dgB_at hlt).trans e))⟩, (show 16 - (k + 1) < 16 - k by omega), StLe.ren [] tmS trivial (by decide)⟩
  · repeat' (first | refine gw ?_ | (refine br (fun q_ => ?_) (fun q_ => ?_) <;> try simp only [Int.toNat_natCast, Nat.mul_one, Nat.add_zero] at q_) | (refine brF (fun q_ => ?_) (fun q_ => ?_) <;> try simp only [Int.toNat_natCast, Nat.mul_one, Nat.add_zero] at q_))
    exact EntR.int (dgT_no (fun j hj => hd j (by omega))).symm

/-- The number of the first k digits. -/
def foldC (s : ByteArray) : Nat → Int
  | 0 => 0
  | k + 1 => foldC s k * 16 + dvalI (bAt s k)
def pcOk (s : ByteArray) : Prop := 4 ≤ s.size ∧ s.size ≤ 6 ∧ (∀ k, k < s.size → 0 ≤ dvalI (bAt s k)) ∧ hexS (foldC s s.size) = s
open Classical in
noncomputable def pcE (s : ByteArray) : Int := if pcOk s then 0 else 3
open Classical in
noncomputable def pcC (s : ByteArray) : Int := if pcOk s then foldC s s.size else 0
noncomputable def ctPc : Ct := { ι := ByteArray, inp := fun s => [.v (.string s)], out := fun s => .tu [.v (.int .i64 (pcC s)), .v (.int .i64 (pcE s))], pre := fun _ => True }
theorem pc_no {s : ByteArray} (h : ¬ pcOk s) : D.tu [.v (.int .i64 0), .v (.int .i64 3)] = ctPc.out s := by
  show _ = D.tu [.v (.int .i64 (pcC s)), .v (.int .i64 (pcE s))]
  rw [pcC, pcE, if_neg h, if_neg h]
theorem pc_yes {s : ByteArray} {k : Nat} (h : pcOk s) (hk : k = s.size) : D.tu [.v (.int .i64 (foldC s k)), .v (.int .i64 0)] = ctPc.out s := by
  show _ = D.tu [.v (.int .i64 (pcC s)), .v (.int .i64 (pcE s))]
  rw [pcC, pcE, if_pos h, if_pos h, hk]
theorem foldC_bd {s : ByteArray} : ∀ k, (∀ j, j < k → 0 ≤ dvalI (bAt s j)) → 0 ≤ foldC s k ∧ foldC s k + 1 ≤ 16 ^ k
  | 0, _ => by simp [foldC]
  | k + 1, h => by
    have ih := foldC_bd k (fun j hj => h j (by omega))
    have h1 := h k (by omega)
    have h2 := (dvalI_le (bAt s k)).2
    rw [foldC, Int.pow_succ]
    omega
theorem foldC_6 {s : ByteArray} {k : Nat} (h : ∀ j, j < k → 0 ≤ dvalI (bAt s j)) (hk : k ≤ 6) : 0 ≤ foldC s k ∧ foldC s k ≤ 16777216 := by
  have h1 := foldC_bd k h
  have h2 : (16 : Int) ^ k ≤ 16 ^ 6 := by
    match k, hk with
    | 0, _ => decide
    | 1, _ => decide
    | 2, _ => decide
    | 3, _ => decide
    | 4, _ => decide
    | 5, _ => decide
    | 6, _ => decide
  have h3 : (16 : Int) ^ 6 = 16777216 := by decide
  omega
def Γcp : Ctx := fun f => match f with
  | 110 => some (.pure ctDval)
  | 81 => some (.pure ctDval)
  | 45 => some (.pure ctHex)
  | 82 => some (.pure ctHex)
  | _ => none
theorem Γcp_ok : CtxOk Tryz.prog (GlT mx pb) Γcp := by
  intro f h hh
  simp only [Γcp] at hh
  split at hh <;> simp at hh <;> subst hh
  · exact value_ok
  · exact rdigit_ok
  · exact hex_ok
  · exact rHex_ok
set_option maxHeartbeats 4000000 in
theorem cpParse_ok : Sound Tryz.prog (GlT mx pb) 92 ctPc := by
  refine sound_by (cc := true) Γcp_ok Tryz.T_ok Tryz.mixed Tryz.func92 rfl (by kernel_rfl) (fun _ => rfl) (fun _ _ => by show 1 ≤ 36; decide) ?_
  intro (s : ByteArray) _
  repeat' (first | refine gw ?_ | (refine br (fun q_ => ?_) (fun q_ => ?_) <;> try simp only [Int.toNat_natCast, Nat.mul_one, Nat.add_zero] at q_) | (refine brF (fun q_ => ?_) (fun q_ => ?_) <;> try simp only [Int.toNat_natCast, Nat.mul_one, Nat.add_zero] at q_))
  · exact entR_eq (pc_no fun h => by have := h.2.1; omega) rfl
  · refine ⟨0, Nat, fun k => ⟨[(0, .v (.string s)), (4, .v (.int .i64 (foldC s k))), (16, .v (.int .i64 s.size)), (17, .v (.int .i64 k))], [], []⟩, fun k => k ≤ s.size ∧ ∀ j, j < k → 0 ≤ dvalI (bAt s j), fun k => s.size - k, fun _ => Nat.zero_le _, ⟨0, ⟨Nat.zero_le _, fun j hj => by omega⟩, StLe.ren [] tmS trivial (by decide)⟩, ?_⟩
    rintro k ⟨hk, hd⟩
    have hb := foldC_6 hd (by omega)
    have hdv := dvalI_le (bAt s k)
    by_cases hlt : k < s.size
    · repeat' (first | refine gw ?_ | (refine br (fun q_ => ?_) (fun q_ => ?_) <;> try simp only [Int.toNat_natCast, Nat.mul_one, Nat.add_zero] at q_) | (refine brF (fun q_ => ?_) (fun q_ => ?_) <;> try simp only [Int.toNat_natCast, Nat.mul_one, Nat.add_zero] at q_))
      · exact entR_eq (pc_no fun h => by have := h.2.2.1 k hlt; omega) rfl
      · exact ⟨k + 1, ⟨by omega, next_of hd (by omega)⟩, (show s.size - (k + 1) < s.size - k by omega), StLe.ren [] tmS trivial (by decide)⟩
    · have hke : k = s.size := by omega
      repeat' (first | refine gw ?_ | (refine br (fun q_ => ?_) (fun q_ => ?_) <;> try simp only [Int.toNat_natCast, Nat.mul_one, Nat.add_zero] at q_) | (refine brF (fun q_ => ?_) (fun q_ => ?_) <;> try simp only [Int.toNat_natCast, Nat.mul_one, Nat.add_zero] at q_))
      · exact entR_eq (pc_no fun h => by subst hke; exact absurd h.2.2.2 ‹_›) rfl
      · exact entR_eq (pc_yes (by subst hke; exact ⟨by omega, by omega, hd, ‹_›⟩) hke) rfl
  · exact entR_eq (pc_no fun h => by have := h.1; omega) rfl
set_option maxHeartbeats 4000000 in
theorem rParse_ok : Sound Tryz.prog (GlT mx pb) 55 ctPc := by
  refine sound_by (cc := true) Γcp_ok Tryz.T_ok Tryz.mixed Tryz.func55 rfl (by kernel_rfl) (fun _ => rfl) (fun _ _ => by show 1 ≤ 37; decide) ?_
  intro (s : ByteArray) _
  repeat' (first | refine gw ?_ | (refine br (fun q_ => ?_) (fun q_ => ?_) <;> try simp only [Int.toNat_natCast, Nat.mul_one, Nat.add_zero] at q_) | (refine brF (fun q_ => ?_) (fun q_ => ?_) <;> try simp only [Int.toNat_natCast, Nat.mul_one, Nat.add_zero] at q_))
  · exact entR_eq (pc_no fun h => by have := h.2.1; omega) rfl
  · refine ⟨0, Nat, fun k => ⟨[(0, .v (.string s)), (4, .v (.int .i64 (foldC s k))), (5, .v (.int .i64 k))], [], []⟩, fun k => k ≤ s.size ∧ ∀ j, j < k → 0 ≤ dvalI (bAt s j), fun k => s.size - k, fun _ => Nat.zero_le _, ⟨0, ⟨Nat.zero_le _, fun j hj => by omega⟩, StLe.ren [] tmS trivial (by decide)⟩, ?_⟩
    rintro k ⟨hk, hd⟩
    have hb := foldC_6 hd (by omega)
    have hdv := dvalI_le (bAt s k)
    have hfe : foldC s (k + 1) = foldC s k * 16 + dvalI (bAt s k) := rfl
    by_cases hlt : k < s.size
    · repeat' (first | refine gw ?_ | (refine br (fun q_ => ?_) (fun q_ => ?_) <;> try simp only [Int.toNat_natCast, Nat.mul_one, Nat.add_zero] at q_) | (refine brF (fun q_ => ?_) (fun q_ => ?_) <;> try simp only [Int.toNat_natCast, Nat.mul_one, Nat.add_zero] at q_))
      · exact entR_eq (pc_no fun h => by have := h.2.2.1 k hlt; omega) rfl
      · exact ⟨k + 1, ⟨by omega, next_of hd (by omega)⟩, (show s.size - (k + 1) < s.size - k by omega), StLe.ren [] tmS trivial (by decide)⟩
    · have hke : k = s.size := by omega
      repeat' (first | refine gw ?_ | (refine br (fun q_ => ?_) (fun q_ => ?_) <;> try simp only [Int.toNat_natCast, Nat.mul_one, Nat.add_zero] at q_) | (refine brF (fun q_ => ?_) (fun q_ => ?_) <;> try simp only [Int.toNat_natCast, Nat.mul_one, Nat.add_zero] at q_))
      · exact entR_eq (pc_no fun h => by subst hke; exact absurd h.2.2.2 ‹_›) rfl
      · exact entR_eq (pc_yes (by subst hke; exact ⟨by omega, by omega, hd, ‹_›⟩) hke) rfl
  · exact entR_eq (pc_no fun h => by have := h.1; omega) rfl
end Go.Proofs
