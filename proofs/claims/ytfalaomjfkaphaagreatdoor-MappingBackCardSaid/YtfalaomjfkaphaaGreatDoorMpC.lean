import Derived.Test.YtfalaomjfkaphaaGreatDoorMbP
import Derived.Test.YtfalaomjfkaphaaGreatDoorLpMi
set_option linter.unusedVariables false
set_option linter.unusedSimpArgs false
namespace Go.Proofs
open Go Go.Sx
variable {mx : Int} {pb : Bool}

/-! the twin's clash -/
def clQ (L : List Ln) (T : List ByteArray) (i : Nat) : Prop := ∃ k, k < i ∧ T.getD k default = T.getD i default ∧ (L.getD k default).lo ≤ (L.getD i default).hi ∧ (L.getD i default).lo ≤ (L.getD k default).hi
noncomputable def clC (L : List Ln) (T : List ByteArray) (i : Nat) : Bool := @decide (clQ L T i) (Classical.propDecidable _)
theorem clC_t {L : List Ln} {T : List ByteArray} {i : Nat} (h : clQ L T i) : clC L T i = true := @decide_eq_true _ (Classical.propDecidable _) h
theorem clC_f {L : List Ln} {T : List ByteArray} {i : Nat} (h : ¬ clQ L T i) : clC L T i = false := @decide_eq_false _ (Classical.propDecidable _) h
noncomputable def ctCla : Ct := { ι := List Ln × List ByteArray × Nat, inp := fun x => [lnsD x.1, slD 1 strD x.2.1, .v (.int .i64 x.2.2)], out := fun x => .v (.bool (clC x.1 x.2.1 x.2.2)), pre := fun x => x.2.2 < x.1.length ∧ x.2.1.length = x.1.length ∧ x.1.length ≤ 1000000 }
set_option maxHeartbeats 4000000 in
theorem rClash_ok : Sound Tryz.prog (GlT mx pb) 22 ctCla := by
  refine sound_by (cc := true) Γ0_ok Tryz.T_ok Tryz.mixed Tryz.func22 rfl (by kernel_rfl) (fun _ => rfl) (fun _ _ => by show 3 ≤ 48; decide) ?_
  rintro ⟨(L : List Ln), (T : List ByteArray), (n : Nat)⟩ ⟨(hn : n < L.length), (hT : T.length = L.length), (hL : L.length ≤ 1000000)⟩
  repeat' (first | refine gw ?_ | (refine br (fun q_ => ?_) (fun q_ => ?_) <;> try simp only [Int.toNat_natCast, Nat.mul_one, Nat.add_zero] at q_) | (refine brF (fun q_ => ?_) (fun q_ => ?_) <;> try simp only [Int.toNat_natCast, Nat.mul_one, Nat.add_zero] at q_))
  refine ⟨0, Nat, fun k => ⟨[(0, lnsD L), (1, slD 1 strD T), (2, .v (.int .i64 n)), (7, .v (.int .i64 k))], [], []⟩, fun k => k ≤ n ∧ ∀ j, j < k → ¬ (T.getD j default = T.getD n default ∧ (L.getD j default).lo ≤ (L.getD n default).hi ∧ (L.getD n default).lo ≤ (L.getD j default).hi), fun k => n - k, fun _ => Nat.zero_le _, ⟨0, ⟨Nat.zero_le _, fun j hj => by omega⟩, StLe.ren [] tmS trivial (by decide)⟩, ?_⟩
  rintro k ⟨hk, hd⟩
  by_cases hlt : k < n
  · by_cases h1 : T.getD k default = T.getD n default
    · by_cases h2 : (L.getD k default).lo ≤ (L.getD n default).hi
      · by_cases h3 : (L.getD n default).lo ≤ (L.getD k default).hi
        · repeat' (first | refine gw ?_ | (refine br (fun q_ => ?_) (fun q_ => ?_) <;> try simp only [Int.toNat_natCast, Nat.mul_one, Nat.add_zero] at q_) | (refine brF (fun q_ => ?_) (fun q_ => ?_) <;> try simp only [Int.toNat_natCast, Nat.mul_one, Nat.add_zero] at q_))
          exact EntR.bool (clC_t ⟨k, hlt, h1, h2, h3⟩).symm
        · repeat' (first | refine gw ?_ | (refine br (fun q_ => ?_) (fun q_ => ?_) <;> try simp only [Int.toNat_natCast, Nat.mul_one, Nat.add_zero] at q_) | (refine brF (fun q_ => ?_) (fun q_ => ?_) <;> try simp only [Int.toNat_natCast, Nat.mul_one, Nat.add_zero] at q_))
          exact ⟨k + 1, ⟨hlt, next_of hd (fun h => h3 h.2.2)⟩, (by show n - (k + 1) < n - k; omega), StLe.ren [] tmS trivial (by decide)⟩
      · repeat' (first | refine gw ?_ | (refine br (fun q_ => ?_) (fun q_ => ?_) <;> try simp only [Int.toNat_natCast, Nat.mul_one, Nat.add_zero] at q_) | (refine brF (fun q_ => ?_) (fun q_ => ?_) <;> try simp only [Int.toNat_natCast, Nat.mul_one, Nat.add_zero] at q_))
        exact ⟨k + 1, ⟨hlt, next_of hd (fun h => h2 h.2.1)⟩, (by show n - (k + 1) < n - k; omega), StLe.ren [] tmS trivial (by decide)⟩
    · repeat' (first | refine gw ?_ | (refine br (fun q_ => ?_) (fun q_ => ?_) <;> try simp only [Int.toNat_natCast, Nat.mul_one, Nat.add_zero] at q_) | (refine brF (fun q_ => ?_) (fun q_ => ?_) <;> try simp only [Int.toNat_natCast, Nat.mul_one, Nat.add_zero] at q_))
      exact ⟨k + 1, ⟨hlt, next_of hd (fun h => h1 h.1)⟩, (by show n - (k + 1) < n - k; omega), StLe.ren [] tmS trivial (by decide)⟩
  · repeat' (first | refine gw ?_ | (refine br (fun q_ => ?_) (fun q_ => ?_) <;> try simp only [Int.toNat_natCast, Nat.mul_one, Nat.add_zero] at q_) | (refine brF (fun q_ => ?_) (fun q_ => ?_) <;> try simp only [Int.toNat_natCast, Nat.mul_one, Nat.add_zero] at q_))
    exact EntR.bool (clC_f fun ⟨j, hj, h⟩ => hd j (by omega) h).symm
#print axioms rClash_ok
end Go.Proofs
