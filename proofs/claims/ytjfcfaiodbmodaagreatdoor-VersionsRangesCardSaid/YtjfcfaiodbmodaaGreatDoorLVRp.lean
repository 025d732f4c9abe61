import Derived.Test.YtjfcfaiodbmodaaGreatDoorLVz
set_option linter.unusedVariables false
set_option linter.unusedSimpArgs false
namespace Go.Proofs
open Go Go.Sx
variable {mx : Int} {pb : Bool}

/-! the order of the changes: plain -/
def goodC (x : Ch) : Prop := x.old ≠ x.new ∧ 0 ≤ x.lo ∧ x.lo ≤ x.hi ∧ x.hi ≤ 1114111
def apartC (x y : Ch) : Prop := x.hi < y.lo ∧ ¬ (x.hi + 1 = y.lo ∧ x.old = y.old ∧ x.new = y.new)
structure OrdC (L : List Ch) (n : Nat) (f : Nat → Nat) : Prop where
  lt : ∀ i, i < L.length → f i < n
  what : ∀ i, i < L.length → (L.getD i default).what = nmK (f i)
  good : ∀ i, i < L.length → goodC (L.getD i default)
  mono : ∀ i, i + 1 < L.length → f i ≤ f (i + 1)
  apart : ∀ i, i + 1 < L.length → f i = f (i + 1) → apartC (L.getD i default) (L.getD (i + 1) default)
theorem chU_ord {w : ByteArray} {va vb : Int → ByteArray} {n : Nat} (h : n ≤ 1114112) : (∀ i, i < (chU w va vb n).length → ((chU w va vb n).getD i default).what = w ∧ goodC ((chU w va vb n).getD i default)) ∧ ∀ i, i + 1 < (chU w va vb n).length → apartC ((chU w va vb n).getD i default) ((chU w va vb n).getD (i + 1) default) := by
  have hi := chU_inv w va vb n
  generalize chU w va vb n = L at hi
  refine ⟨fun i hl => ?_, fun i hl => ⟨?_, hi.touch i hl⟩⟩
  · obtain ⟨h1, h2, h3, h4, h5, _⟩ := hi.each _ (getD_mem hl)
    exact ⟨h1, h5, h2, h3, by omega⟩
  · have := List.pairwise_iff_getElem.1 hi.sep i (i + 1) (by omega) hl (by omega)
    rw [show L.getD i default = L[i] by simp [List.getD_eq_getElem?_getD, show i < L.length by omega], show L.getD (i + 1) default = L[i + 1] by simp [List.getD_eq_getElem?_getD, hl]]
    exact this
theorem getD_app {l m : List Ch} {i : Nat} : (l ++ m).getD i default = if i < l.length then l.getD i default else m.getD (i - l.length) default := by
  simp only [List.getD_eq_getElem?_getD]
  split
  · rename_i h; rw [List.getElem?_append_left h]
  · rename_i h; rw [List.getElem?_append_right (by omega)]
theorem ord_app {L M : List Ch} {n : Nat} {f : Nat → Nat} (h : OrdC L n f) (hM : ∀ i, i < M.length → (M.getD i default).what = nmK n ∧ goodC (M.getD i default)) (hA : ∀ i, i + 1 < M.length → apartC (M.getD i default) (M.getD (i + 1) default)) : OrdC (L ++ M) (n + 1) (fun i => if i < L.length then f i else n) := by
  have hl : (L ++ M).length = L.length + M.length := List.length_append
  refine ⟨fun i hi => ?_, fun i hi => ?_, fun i hi => ?_, fun i hi => ?_, fun i hi he => ?_⟩
  · show (if i < L.length then f i else n) < n + 1
    split
    · rename_i h1; have := h.lt i h1; omega
    · omega
  · show _ = nmK (if i < L.length then f i else n)
    rw [getD_app]
    split
    · rename_i h1; exact h.what i h1
    · exact (hM _ (by omega)).1
  · rw [getD_app]
    split
    · rename_i h1; exact h.good i h1
    · exact (hM _ (by omega)).2
  · show (if i < L.length then f i else n) ≤ (if i + 1 < L.length then f (i + 1) else n)
    by_cases h1 : i + 1 < L.length
    · rw [if_pos h1, if_pos (by omega)]; exact h.mono i h1
    · rw [if_neg h1]
      split
      · rename_i h2; have := h.lt i h2; omega
      · omega
  · have he : (if i < L.length then f i else n) = (if i + 1 < L.length then f (i + 1) else n) := he
    rw [getD_app, getD_app]
    by_cases h1 : i + 1 < L.length
    · rw [if_pos h1, if_pos (show i < L.length by omega)] at he
      rw [if_pos h1, if_pos (show i < L.length by omega)]
      exact h.apart i h1 he
    · by_cases h2 : i < L.length
      · rw [if_neg h1, if_pos h2] at he
        have := h.lt i h2
        omega
      · rw [if_neg h1, if_neg h2, show i + 1 - L.length = (i - L.length) + 1 by omega]
        exact hA _ (by omega)
theorem chK_ord (a b : Db) (k : Nat) : (∀ i, i < (chK a b k).length → ((chK a b k).getD i default).what = nmK k ∧ goodC ((chK a b k).getD i default)) ∧ ∀ i, i + 1 < (chK a b k).length → apartC ((chK a b k).getD i default) ((chK a b k).getD (i + 1) default) := by
  have h : (1114112 : Int).toNat ≤ 1114112 := by decide
  unfold chK chB
  generalize (1114112 : Int).toNat = n at h
  exact chU_ord h
theorem chsTo_ord (a b : Db) : ∀ k, ∃ f, OrdC (chsTo a b k) k f
  | 0 => ⟨fun _ => 0, ⟨fun i hi => by simp [chsTo] at hi, fun i hi => by simp [chsTo] at hi, fun i hi => by simp [chsTo] at hi, fun i hi => by simp [chsTo] at hi, fun i hi => by simp [chsTo] at hi⟩⟩
  | k + 1 => by
    obtain ⟨f, hf⟩ := chsTo_ord a b k
    obtain ⟨h1, h2⟩ := chK_ord a b k
    exact ⟨_, ord_app hf h1 h2⟩
theorem cmpL_ord (a b : Db) : ∃ f, OrdC (cmpL a b) 20 f := by
  by_cases h : cmpE a b = 0
  · rw [cmpL_ok h]; exact chsTo_ord a b 20
  · rw [cmpL_no h]
    exact ⟨fun _ => 0, ⟨fun i hi => by simp at hi, fun i hi => by simp at hi, fun i hi => by simp at hi, fun i hi => by simp at hi, fun i hi => by simp at hi⟩⟩
theorem nm_ver {k : Nat} (h : k < 20) : ¬ nmK k = filesL.getD 0 default := by
  have : ∀ k, k < 20 → ¬ nmK k = filesL.getD 0 default := by decide +kernel
  exact this k h
end Go.Proofs
