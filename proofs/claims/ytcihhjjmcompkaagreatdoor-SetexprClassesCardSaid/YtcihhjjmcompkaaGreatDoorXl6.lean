import Derived.Test.YtcihhjjmcompkaaGreatDoorLz
import Derived.Test.YtcihhjjmcompkaaGreatDoorSyz
set_option linter.unusedVariables false
set_option linter.unusedSimpArgs false
namespace Go.Proofs
open Go Go.Sx
variable {mx : Int} {pb : Bool}
def rem (p : PX) : List UInt8 := p.1.s.data.toList.drop p.1.k
theorem rem_cons {p : PX} {b : UInt8} {r : List UInt8} (h : rem p = b :: r) : ∃ hk : p.1.k < p.1.s.size, pkV p.1 = b.toNat ∧ rem (adv p hk) = r := by
 have hk : p.1.k < p.1.s.data.toList.length := by
  rcases Nat.lt_or_ge p.1.k p.1.s.data.toList.length with h1 | h1
  ·exact h1
  ·unfold rem at h
   rw [List.drop_eq_nil_iff.2 h1] at h
   simp at h
 refine ⟨hk, ?_, ?_⟩
 ·rw [pkV_lt hk, bAt_getZ hk]
  unfold rem at h
  rw [List.drop_eq_getElem_cons hk] at h
  injection h with h1 h2
  rw [h1]
 ·unfold rem at h ⊢
  rw [List.drop_eq_getElem_cons hk] at h
  injection h with h1 h2
theorem rem_nil {p : PX} (h : rem p = []) : p.1.k = p.1.s.size := by
 have h1 : p.1.s.data.toList.length ≤ p.1.k := List.drop_eq_nil_iff.1 h
 have h2 := p.2.2.1
 have h3 : p.1.s.size = p.1.s.data.toList.length := rfl
 omega
theorem rem_2 {p : PX} {a b : UInt8} {r : List UInt8} (h : rem p = a :: b :: r) : p.1.k + 1 < p.1.s.size ∧ bAt p.1.s p.1.k = a.toNat ∧ bAt p.1.s (p.1.k + 1) = b.toNat := by
 obtain ⟨k1, e1, h1⟩ := rem_cons h
 obtain ⟨k2, e2, _⟩ := rem_cons h1
 rw [pkV_lt k1] at e1
 rw [pkV_lt k2] at e2
 exact ⟨k2, e1, e2⟩
theorem blP_rd {p : PX} {b : UInt8} {r : List UInt8} (h : rem p = b :: r) (hb : b ≠ 32) : blP p = p := by
 obtain ⟨hk, e, _⟩ := rem_cons h
 exact blP_id' (by
  rw [e]
  intro h32
  exact hb (UInt8.toNat_inj.1 (by have : (b.toNat : Int) = ((32 : UInt8).toNat : Int) := h32; omega)))
end Go.Proofs
