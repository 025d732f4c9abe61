import Derived.Test.YtcihhjjmcompkaaGreatDoorX1
set_option linter.unusedVariables false
set_option linter.unusedSimpArgs false
namespace Go.Proofs
open Go Go.Sx
variable {mx : Int} {pb : Bool}

/-! a string within another: the parser reads the same -/
structure Emb (o : Nat) (s s' : ByteArray) : Prop where
  sz : s.size + o ≤ s'.size
  b : ∀ i, i < s.size → bAt s' (i + o) = bAt s i
structure Rl (o : Nat) (p p' : PX) : Prop where
  e : Emb o p.1.s p'.1.s
  db : p'.1.db = p.1.db
  k : p'.1.k = p.1.k + o
theorem Rl.lt {o : Nat} {p p' : PX} (h : Rl o p p') (hk : p.1.k < p.1.s.size) : p'.1.k < p'.1.s.size := by
  have h1 := h.e.sz
  have h2 := h.k
  omega
theorem Rl.adv {o : Nat} {p p' : PX} (h : Rl o p p') (hk : p.1.k < p.1.s.size) (hk' : p'.1.k < p'.1.s.size) : Rl o (adv p hk) (adv p' hk') :=
  ⟨h.e, h.db, (by have := h.k; show p'.1.k + 1 = p.1.k + 1 + o; omega)⟩
theorem Rl.ckd {o : Nat} {p p' : PX} (h : Rl o p p') : Rl o (ckd p) (ckd p') := ⟨h.e, h.db, h.k⟩
theorem blk_emb {o : Nat} {s s' : ByteArray} (h : Emb o s s') : ∀ (n k : Nat), s.size - k = n → k ≤ s.size → blk s k < s.size → blk s' (k + o) = blk s k + o
  | 0, k, hn, hk, hb => by
    rw [blk_stop (s := s) (k := k) (fun hh => by omega)] at hb ⊢
    exact absurd hb (by omega)
  | n + 1, k, hn, hk, hb => by
    have hlt : k < s.size := by omega
    by_cases h32 : bAt s k = 32
    · rw [← blk_step hlt h32] at hb ⊢
      have e : bAt s' (k + o) = 32 := (h.b k hlt).trans h32
      rw [← blk_step (s := s') (k := k + o) (by have := h.sz; omega) e, show k + o + 1 = k + 1 + o by omega]
      exact blk_emb h n (k + 1) (by omega) hlt hb
    · rw [blk_stop (fun hh => h32 hh.2), blk_stop (fun hh => h32 ((h.b k hlt).symm.trans hh.2))]
theorem Rl.bl {o : Nat} {p p' : PX} (h : Rl o p p') (hk : (blP p).1.k < p.1.s.size) : Rl o (blP p) (blP p') :=
  ⟨h.e, h.db, (by show blk p'.1.s p'.1.k = blk p.1.s p.1.k + o; rw [h.k]; exact blk_emb h.e _ _ rfl p.2.2.1 hk)⟩
end Go.Proofs

namespace Go.Proofs
open Go Go.Sx
variable {mx : Int} {pb : Bool}

/-! a group within another string -/
end Go.Proofs

namespace Go.Proofs
open Go Go.Sx
variable {mx : Int} {pb : Bool}

/-! Parse in plain words; what faults tell -/
def OkS (d : Db) (s : ByteArray) : Prop := SmD d ∧ s.size ≤ 65536
def pst0 (d : Db) (s : ByteArray) (h : OkS d s) : PX := ⟨⟨d, false, false, s, 0⟩, ⟨h.1, fun hh => Bool.noConfusion hh⟩, Nat.zero_le _, h.2⟩
noncomputable def prsE (p q : PX) (L : List Rg) : List Rg × Int × Int := if (blP q).1.k < p.1.s.size then ([], 3, (blP q).1.k) else (L, 0, 0)
noncomputable def prsP (p : PX) : List Rg × Int × Int :=
  if pkV (blP p).1 = 91 then
    match runGrp 17 (blP p) with
    | .bad e a _ => ([], e, a)
    | .ok L q => prsE p q L
  else ([], 3, (blP p).1.k)
open Classical in
noncomputable def prs (d : Db) (s : ByteArray) : List Rg × Int × Int := if h : OkS d s then prsP (pst0 d s h) else ([], 2, 0)
theorem prs_at {d : Db} {s : ByteArray} (h : OkS d s) : prs d s = prsP (pst0 d s h) := dif_pos h
/-- A whole expression. -/
structure Whole (d : Db) (s : ByteArray) (h : OkS d s) (L : List Rg) (q : PX) : Prop where
  b : pkV (blP (pst0 d s h)).1 = 91
  r : runGrp 17 (blP (pst0 d s h)) = .ok L q
  e : (blP q).1.k = s.size
  w : Went (blP (pst0 d s h)) L q
theorem whole_prs {d : Db} {s : ByteArray} {h : OkS d s} {L : List Rg} {q : PX} (w : Whole d s h L q) : prs d s = (L, 0, 0) := by
  rw [prs_at h]
  unfold prsP
  rw [if_pos w.b, w.r]
  dsimp only
  unfold prsE
  rw [if_neg]
  show ¬ _ < s.size
  rw [w.e]
  omega
theorem blP_id {p : PX} (h : ¬ (p.1.k < p.1.s.size ∧ bAt p.1.s p.1.k = 32)) : blP p = p := by
  obtain ⟨⟨db, ch, us, s, k⟩, hp⟩ := p
  unfold blP goTo
  congr 1
  exact congrArg (PSt.mk db ch us s) (blk_stop h)
/-- What a fault tells. -/
def BadI (p : PX) (e a : Int) : Prop := (e = 3 ∧ (p.1.k : Int) ≤ a ∧ a ≤ p.1.s.size) ∨ (e = 6 ∧ 0 ≤ a ∧ a < p.1.s.size) ∨ (e = 13 ∧ 0 ≤ a ∧ a < p.1.s.size ∧ bAt p.1.s a.toNat = 91)
theorem BadI.here (p : PX) : BadI p 3 p.1.k := .inl ⟨rfl, Int.le_refl _, by have := p.2.2.1; omega⟩
theorem BadI.code {p : PX} {e a : Int} (h : BadI p e a) : e ≠ 0 := by
  rcases h with h | h | h <;> omega
end Go.Proofs

namespace Go.Proofs
open Go Go.Sx
variable {mx : Int} {pb : Bool}

/-! groups of whole expressions -/
/-- The end of a group. -/
theorem grpL_end {run : PX → OutL} {neg : Bool} {f : Nat} {p : PX} {S I : List Rg} (h : pkV (blP p).1 = 93) : grpL run neg (f + 1) p S I = .ok (endG neg S I) (adv (blP p) (pk_eq h (by decide)).1) := by rw [grpL, dif_pos h]
/-- A group without a sign, with one. -/
theorem runGrp_pos {n : Nat} {p : PX} (hk : p.1.k < p.1.s.size) (h : ¬ pkV (blP (adv p hk)).1 = 94) : runGrp (n + 1) p = grpL (runGrp n) false (p.1.s.size + 1) (blP (adv p hk)) [] [] := by rw [runGrp, dif_pos hk, dif_neg h]
theorem blP_id' {p : PX} (h : pkV p.1 ≠ 32) : blP p = p := blP_id fun hh => h (by rw [pkV_lt hh.1]; exact hh.2)
theorem canon_id {l : List Rg} (h : Canon l) : canon l = l := (canon_of h fun c => ⟨fun hc => ⟨by
    obtain ⟨r, hr, h1, h2⟩ := hc
    have := h.ok r hr
    omega, hc⟩, fun hc => hc.2⟩).symm
theorem or_nilL {l : List Rg} (h : Canon l) : combL [] l 1 = l := by
  obtain ⟨h1, h2⟩ := comb_spec [] l 1
  refine canon_unique h1 h fun c => ?_
  have e : hasB [] c = false := by simp [hasB]
  rw [h2, e]
  have e2 : keepsB 1 false (hasB l c) = hasB l c := by simp [keepsB]
  rw [e2, hasB_iff]
  constructor
  · exact fun hh => hh.2.2
  · intro hc
    have hb : 0 ≤ c ∧ c ≤ 1114111 := by
      obtain ⟨r, hr, h3, h4⟩ := hc
      have := h.ok r hr
      omega
    exact ⟨hb, hb, hc⟩
end Go.Proofs
