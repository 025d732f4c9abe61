import Derived.Test.YtcihhjjmcompkaaGreatDoorXl8
set_option linter.unusedVariables false
set_option linter.unusedSimpArgs false
namespace Go.Proofs
open Go Go.Sx
variable {mx : Int} {pb : Bool}
theorem tru_cut {s : ByteArray} {A : Nat} (h : A ≤ s.size) : Tru A s (bcut s 0 A) := by
 have h' : A ≤ s.data.toList.length := h
 refine ⟨by show ((s.data.toList.take A).drop 0).length = A; rw [List.drop_zero, List.length_take]; omega, h, fun i hi => ?_⟩
 show (((((s.data.toList.take A).drop 0)[i]?).getD 0).toNat : Int) = (((s.data.toList[i]?).getD 0).toNat : Int)
 rw [List.drop_zero, List.getElem?_take, if_pos hi]
structure Tells (d : Db) (s : ByteArray) (L : List Rg) (e a : Int) : Prop where
 good : e = 0 → Canon L ∧ a = 0
 none : e ≠ 0 → L = [] ∧ 0 ≤ a ∧ a ≤ s.size
 other : e ≠ 0 → e ≠ 3 → a < s.size ∧ (e = 6 ∨ (e = 13 ∧ bAt s a.toNat = 91))
 syn : e = 3 → prs d (bcut s 0 a.toNat) = ([], 3, a) ∨ ∃ K, prs d (bcut s 0 a.toNat) = (K, 0, 0) ∧ Canon K
theorem prs_tells {d : Db} {s : ByteArray} (hd : SmD d) (hs : s.size ≤ 65536) : Tells d s (prs d s).1 (prs d s).2.1 (prs d s).2.2 := by
 have h : OkS d s := ⟨hd, hs⟩
 -- the cut string
 have cut : ∀ A : Nat, A ≤ s.size → ∃ h' : OkS d (bcut s 0 A), Ru A (pst0 d s h) (pst0 d (bcut s 0 A) h') := fun A hA => by
  have t := tru_cut hA
  have := t.sz
  exact ⟨⟨hd, by omega⟩, t, rfl, rfl⟩
 have e0 := prs_at h
 unfold prsP at e0
 by_cases h91 : pkV (blP (pst0 d s h)).1 = 91
 ·rw [if_pos h91] at e0
  cases hr : runGrp 17 (blP (pst0 d s h)) with
  | bad e a q =>
   rw [hr] at e0
   rw [e0]
   obtain ⟨hb, h3⟩ := runGrp_bad 17 _ _ _ _ h91 hr
   refine ⟨fun he => absurd he hb.code, fun _ => ⟨rfl, ?_⟩, fun h0 hn => ?_, fun he => ?_⟩
   ·show 0 ≤ a ∧ a ≤ s.size
    have hb : BadI (pst0 d s h) e a := hb.mv (Moved.bl _)
    rcases hb with ⟨_, g1, g2⟩ | ⟨_, g1, g2⟩ | ⟨_, g1, g2, _⟩
    ·have g2 : a ≤ s.size := g2
     exact ⟨by omega, g2⟩
    ·have g2 : a < s.size := g2
     exact ⟨g1, by omega⟩
    ·have g2 : a < s.size := g2
     exact ⟨g1, by omega⟩
   ·have hn : e ≠ 3 := hn
    show a < s.size ∧ (e = 6 ∨ (e = 13 ∧ bAt s a.toNat = 91))
    rcases hb with g | ⟨g0, g1, g2⟩ | ⟨g0, g1, g2, g3⟩
    ·exact absurd g.1 hn
    ·exact ⟨g2, .inl g0⟩
    ·exact ⟨g2, .inr ⟨g0, g3⟩⟩
   ·have he : e = 3 := he
    subst he
    left
    show prs d (bcut s 0 a.toNat) = ([], 3, a)
    have g := h3 rfl
    have hA : a = (a.toNat : Int) ∧ a.toNat ≤ s.size := by
     rcases hb with ⟨_, g1, g2⟩ | ⟨g0, _⟩ | ⟨g0, _⟩
     ·have g2 : a ≤ s.size := g2
      omega
     ·omega
     ·omega
    obtain ⟨h', r⟩ := cut a.toNat hA.2
    have hkA : (blP (pst0 d s h)).1.k < a.toNat := by omega
    have rb := r.bl (Nat.le_of_lt hkA)
    rw [hA.1] at hr
    obtain ⟨q', e1⟩ := (runGrp_tru a.toNat 17 _ _ rb h91 hkA).2 q hr
    rw [prs_at h']
    unfold prsP
    rw [if_pos ((rb.pk hkA).trans h91), e1, ← hA.1]
  | ok L q =>
   rw [hr] at e0
   dsimp only at e0
   have w := runGrp_went 17 _ _ _ h91 hr
   have hqs : q.1.s = s := w.s
   have hqk : (blP q).1.k ≤ s.size := by
    have := (blP q).2.2.1
    have : (blP q).1.k ≤ q.1.s.size := this
    rw [hqs] at this; exact this
   unfold prsE at e0
   by_cases hlt : (blP q).1.k < (pst0 d s h).1.s.size
   ·rw [if_pos hlt] at e0
    rw [e0]
    refine ⟨fun he => absurd (show (3 : Int) = 0 from he) (by decide), fun _ => ⟨rfl, by show (0 : Int) ≤ ((blP q).1.k : Int); omega, by show ((blP q).1.k : Int) ≤ s.size; omega⟩, fun _ hn => absurd rfl hn, fun _ => .inr ⟨L, ?_, w.canon⟩⟩
    show prs d (bcut s 0 ((blP q).1.k : Int).toNat) = (L, 0, 0)
    rw [Int.toNat_natCast]
    obtain ⟨h', r⟩ := cut (blP q).1.k hqk
    have hwk := w.k
    have hbq := blP_le q
    have hkA : (blP (pst0 d s h)).1.k < (blP q).1.k := by omega
    have rb := r.bl (Nat.le_of_lt hkA)
    obtain ⟨q', e1, rq⟩ := (runGrp_tru (blP q).1.k 17 _ _ rb h91 hkA).1 L q hr hbq
    rw [prs_at h']
    unfold prsP
    rw [if_pos ((rb.pk hkA).trans h91), e1]
    dsimp only
    unfold prsE
    rw [if_neg]
    have k1 := (rq.bl (Nat.le_refl _)).k
    have k2 := r.e.sz
    show ¬ (blP q').1.k < (bcut s 0 (blP q).1.k).size
    have k2 : (bcut s 0 (blP q).1.k).size = (blP q).1.k := k2
    omega
   ·rw [if_neg hlt] at e0
    rw [e0]
    exact ⟨fun _ => ⟨w.canon, rfl⟩, fun hn => absurd rfl hn, fun hn => absurd rfl hn, fun he => absurd (show (0 : Int) = 3 from he) (by decide)⟩
 ·rw [if_neg h91] at e0
  rw [e0]
  have hk := (blP (pst0 d s h)).2.2.1
  have hk : (blP (pst0 d s h)).1.k ≤ s.size := hk
  refine ⟨fun he => absurd (show (3 : Int) = 0 from he) (by decide), fun _ => ⟨rfl, by show (0 : Int) ≤ ((blP (pst0 d s h)).1.k : Int); omega, by show ((blP (pst0 d s h)).1.k : Int) ≤ s.size; omega⟩, fun _ hn => absurd rfl hn, fun _ => .inl ?_⟩
  show prs d (bcut s 0 ((blP (pst0 d s h)).1.k : Int).toNat) = ([], 3, ((blP (pst0 d s h)).1.k : Int))
  rw [Int.toNat_natCast]
  obtain ⟨h', r⟩ := cut (blP (pst0 d s h)).1.k hk
  have rb := r.bl (Nat.le_refl _)
  rw [prs_at h']
  unfold prsP
  rw [if_neg (by rw [rb.pkE rfl]; decide), rb.k]
end Go.Proofs
