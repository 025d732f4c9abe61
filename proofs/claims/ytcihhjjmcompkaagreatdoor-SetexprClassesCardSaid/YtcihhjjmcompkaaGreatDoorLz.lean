import Derived.Test.YtcihhjjmcompkaaGreatDoorX1
set_option linter.unusedVariables false
set_option linter.unusedSimpArgs false
namespace Go.Proofs
open Go Go.Sx
variable {mx : Int} {pb : Bool}
structure Emb (o : Nat) (s s' : ByteArray) : Prop where
 sz : s.size + o ≤ s'.size
 b : ∀ i, i < s.size → bAt s' (i + o) = bAt s i
structure Rl (o : Nat) (p p' : PX) : Prop where
 e : Emb o p.1.s p'.1.s
 db : p'.1.db = p.1.db
 k : p'.1.k = p.1.k + o
theorem Rl.lt {o : Nat} {p p' : PX} (h : Rl o p p') (hk : p.1.k < p.1.s.size) : p'.1.k < p'.1.s.size := by
 have h1 := h.e.sz
 have h2 := h.k
 omega
theorem Rl.pk {o : Nat} {p p' : PX} (h : Rl o p p') (hk : p.1.k < p.1.s.size) : pkV p'.1 = pkV p.1 := by
 rw [pkV_lt hk, pkV_lt (h.lt hk), h.k, h.e.b _ hk]
theorem Rl.adv {o : Nat} {p p' : PX} (h : Rl o p p') (hk : p.1.k < p.1.s.size) (hk' : p'.1.k < p'.1.s.size) : Rl o (adv p hk) (adv p' hk') :=
 ⟨h.e, h.db, (by have := h.k; show p'.1.k + 1 = p.1.k + 1 + o; omega)⟩
theorem Rl.ckd {o : Nat} {p p' : PX} (h : Rl o p p') : Rl o (ckd p) (ckd p') := ⟨h.e, h.db, h.k⟩
theorem blk_emb {o : Nat} {s s' : ByteArray} (h : Emb o s s') : ∀ (n k : Nat), s.size - k = n → k ≤ s.size → blk s k < s.size → blk s' (k + o) = blk s k + o
 | 0, k, hn, hk, hb => by
  rw [blk_stop (s := s) (k := k) (fun hh => by omega)] at hb ⊢
  exact absurd hb (by omega)
 | n + 1, k, hn, hk, hb => by
  have hlt : k < s.size := by omega
  by_cases h32 : bAt s k = 32
  ·rw [← blk_step hlt h32] at hb ⊢
   have e : bAt s' (k + o) = 32 := (h.b k hlt).trans h32
   rw [← blk_step (s := s') (k := k + o) (by have := h.sz; omega) e, show k + o + 1 = k + 1 + o by omega]
   exact blk_emb h n (k + 1) (by omega) hlt hb
  ·rw [blk_stop (fun hh => h32 hh.2), blk_stop (fun hh => h32 ((h.b k hlt).symm.trans hh.2))]
theorem Rl.bl {o : Nat} {p p' : PX} (h : Rl o p p') (hk : (blP p).1.k < p.1.s.size) : Rl o (blP p) (blP p') :=
 ⟨h.e, h.db, (by show blk p'.1.s p'.1.k = blk p.1.s p.1.k + o; rw [h.k]; exact blk_emb h.e _ _ rfl p.2.2.1 hk)⟩
end Go.Proofs
namespace Go.Proofs
open Go Go.Sx
variable {mx : Int} {pb : Bool}
theorem Went.mv {p q : PX} {L : List Rg} (h : Went p L q) : Moved p q := ⟨h.s, h.db, Nat.le_of_lt h.k⟩
theorem grpL_k {run : PX → OutL} (hr : RunOk run) {neg : Bool} : ∀ (f : Nat) {p q : PX} {S I L : List Rg}, grpL run neg f p S I = .ok L q → Moved p q ∧ (blP p).1.k < q.1.k
 | 0, p, q, S, I, L, h => by simp [grpL] at h
 | f + 1, p, q, S, I, L, h => by
  rw [grpL] at h
  split at h
  ·rename_i h93
   simp at h
   obtain ⟨rfl, rfl⟩ := h
   exact ⟨(Moved.bl p).trans (Moved.adv _ _), Nat.lt_succ_self _⟩
  ·split at h
   ·split at h
    ·split at h
     ·simp at h
     ·rename_i h45 h45b _ L1 q1 he
      have g := grpL_k hr f h
      have w := runOpd_went hr he
      have m1 := (Moved.bl p).trans ((Moved.adv _ _).trans ((Moved.adv _ _).trans ((Moved.bl _).trans w.mv)))
      refine ⟨m1.trans g.1, ?_⟩
      have h1 := g.1.k
      have h2 := ((Moved.adv (blP p) (pk_eq h45 (by decide)).1).trans ((Moved.adv _ (pk_eq h45b (by decide)).1).trans (Moved.bl _))).k
      have h3 := w.k
      omega
    ·simp at h
   ·split at h
    ·split at h
     ·simp at h
     ·rename_i h38 _ L1 q1 he
      have g := grpL_k hr f h
      have w := runOpd_went hr he
      refine ⟨((Moved.bl p).trans ((Moved.adv _ _).trans ((Moved.bl _).trans w.mv))).trans g.1, ?_⟩
      have h1 := g.1.k
      have h2 := ((Moved.adv (blP p) (pk_eq h38 (by decide)).1).trans (Moved.bl _)).k
      have h3 := w.k
      omega
    ·split at h
     ·rename_i h91
      split at h
      ·simp at h
      ·rename_i he
       have g := grpL_k hr f h
       have w := hr _ _ _ h91 he
       exact ⟨((Moved.bl p).trans w.mv).trans g.1, Nat.lt_of_lt_of_le w.k g.1.k⟩
     ·split at h
      ·simp at h
      ·rename_i he
       have g := grpL_k hr f h
       have w := runItm_went he
       exact ⟨((Moved.bl p).trans w.mv).trans g.1, Nat.lt_of_lt_of_le w.k g.1.k⟩
end Go.Proofs
namespace Go.Proofs
open Go Go.Sx
variable {mx : Int} {pb : Bool}
theorem Went.mv' {p q : PX} {L : List Rg} (h : Went p L q) : Moved p q := ⟨h.s, h.db, Nat.le_of_lt h.k⟩
def OkS (d : Db) (s : ByteArray) : Prop := SmD d ∧ s.size ≤ 65536
def pst0 (d : Db) (s : ByteArray) (h : OkS d s) : PX := ⟨⟨d, false, false, s, 0⟩, ⟨h.1, fun hh => Bool.noConfusion hh⟩, Nat.zero_le _, h.2⟩
noncomputable def prsE (p q : PX) (L : List Rg) : List Rg × Int × Int := if (blP q).1.k < p.1.s.size then ([], 3, (blP q).1.k) else (L, 0, 0)
noncomputable def prsP (p : PX) : List Rg × Int × Int :=
 if pkV (blP p).1 = 91 then
  match runGrp 17 (blP p) with
  | .bad e a _ => ([], e, a)
  | .ok L q => prsE p q L
 else ([], 3, (blP p).1.k)
open Classical in
noncomputable def prs (d : Db) (s : ByteArray) : List Rg × Int × Int := if h : OkS d s then prsP (pst0 d s h) else ([], 2, 0)
theorem prs_at {d : Db} {s : ByteArray} (h : OkS d s) : prs d s = prsP (pst0 d s h) := dif_pos h
structure Whole (d : Db) (s : ByteArray) (h : OkS d s) (L : List Rg) (q : PX) : Prop where
 b : pkV (blP (pst0 d s h)).1 = 91
 r : runGrp 17 (blP (pst0 d s h)) = .ok L q
 e : (blP q).1.k = s.size
 w : Went (blP (pst0 d s h)) L q
theorem whole_prs {d : Db} {s : ByteArray} {h : OkS d s} {L : List Rg} {q : PX} (w : Whole d s h L q) : prs d s = (L, 0, 0) := by
 rw [prs_at h]
 unfold prsP
 rw [if_pos w.b, w.r]
 dsimp only
 unfold prsE
 rw [if_neg]
 show ¬ _ < s.size
 rw [w.e]
 omega
theorem blP_id {p : PX} (h : ¬ (p.1.k < p.1.s.size ∧ bAt p.1.s p.1.k = 32)) : blP p = p := by
 obtain ⟨⟨db, ch, us, s, k⟩, hp⟩ := p
 unfold blP goTo
 congr 1
 exact congrArg (PSt.mk db ch us s) (blk_stop h)
theorem blkF_end {s : ByteArray} : ∀ (n k : Nat), s.size - k ≤ n → k ≤ s.size → ¬ (blkF s n k < s.size ∧ bAt s (blkF s n k) = 32)
 | 0, k, hn, hk => by rw [blkF]; omega
 | n + 1, k, hn, hk => by
  rw [blkF]
  split
  ·rename_i h
   exact blkF_end n (k + 1) (by omega) h.1
  ·rename_i h
   exact h
theorem blP_idem (p : PX) : blP (blP p) = blP p := blP_id (blkF_end _ _ (Nat.le_refl _) p.2.2.1)
theorem pk_of {p : PX} {b : Int} (h : p.1.k < p.1.s.size) (hb : bAt p.1.s p.1.k = b) : pkV p.1 = b := (pkV_lt h).trans hb
def BadI (p : PX) (e a : Int) : Prop := (e = 3 ∧ (p.1.k : Int) ≤ a ∧ a ≤ p.1.s.size) ∨ (e = 6 ∧ 0 ≤ a ∧ a < p.1.s.size) ∨ (e = 13 ∧ 0 ≤ a ∧ a < p.1.s.size ∧ bAt p.1.s a.toNat = 91)
theorem BadI.mv {p q : PX} {e a : Int} (m : Moved p q) (h : BadI q e a) : BadI p e a := by
 unfold BadI at h ⊢
 rw [m.s] at h
 have := m.k
 rcases h with ⟨h1, h2, h3⟩ | h | h
 ·exact .inl ⟨h1, by omega, h3⟩
 ·exact .inr (.inl h)
 ·exact .inr (.inr h)
theorem BadI.here (p : PX) : BadI p 3 p.1.k := .inl ⟨rfl, Int.le_refl _, by have := p.2.2.1; omega⟩
theorem BadI.code {p : PX} {e a : Int} (h : BadI p e a) : e ≠ 0 := by
 rcases h with h | h | h <;> omega
theorem exp_bad {p : PX} {b e a : Int} {q : PX} (h : runExp p b = .bad e a q) : e = 3 ∧ a = p.1.k := by
 unfold runExp at h
 split at h
 ·simp at h
 ·simp at h; exact ⟨h.1.symm, h.2.1.symm⟩
theorem exp_badI {p : PX} {b e a : Int} {q : PX} (h : runExp p b = .bad e a q) : BadI p e a := by
 obtain ⟨rfl, rfl⟩ := exp_bad h
 exact BadI.here p
theorem dig_badI : ∀ (f : Nat) {p : PX} {c : Int} {n : Nat} {e a : Int} {r : PX}, digR f p c n = .bad e a r → BadI p e a
 | 0, p, c, n, e, a, r, h => by simp [digR] at h; obtain ⟨rfl, rfl, _⟩ := h; exact BadI.here p
 | f + 1, p, c, n, e, a, r, h => by
  rw [digR] at h
  split at h
  ·split at h
   ·simp at h; obtain ⟨rfl, rfl, _⟩ := h; exact BadI.here p
   ·exact (dig_badI f h).mv (Moved.adv _ _)
  ·split at h
   ·simp at h; obtain ⟨rfl, rfl, _⟩ := h; exact BadI.here p
   ·simp at h
theorem esc_badI {p : PX} {e a : Int} {q : PX} (h : runEsc p () = .bad e a q) : BadI p e a := by
 unfold runEsc at h
 split at h
 ·refine BadI.mv (Moved.adv p (pk_eq (by assumption) (by decide)).1) ?_
  split at h
  ·rename_i he
   refine BadI.mv (runExp_k he).1 ?_
   split at h
   ·rename_i hd
    refine BadI.mv (digR_k 7 hd) ?_
    split at h
    ·simp at h
    ·rename_i hf
     simp at h
     obtain ⟨rfl, rfl, _⟩ := h
     exact exp_badI hf
   ·rename_i hf
    simp at h
    obtain ⟨rfl, rfl, _⟩ := h
    exact dig_badI 7 hf
  ·rename_i hf
   simp at h
   obtain ⟨rfl, rfl, _⟩ := h
   exact exp_badI hf
 ·split at h
  ·simp at h
  ·simp at h; obtain ⟨rfl, rfl, _⟩ := h; exact BadI.here p
theorem chr_badI {p : PX} {e a : Int} {q : PX} (h : runChr p () = .bad e a q) : BadI p e a := by
 unfold runChr at h
 split at h
 ·exact (esc_badI h).mv (Moved.adv _ _)
 ·split at h
  ·simp at h
  ·simp at h; obtain ⟨rfl, rfl, _⟩ := h; exact BadI.here p
theorem wrd_badI {p : PX} {e a : Int} {q : PX} (h : runWrd p () = .bad e a q) : BadI p e a := by
 unfold runWrd at h
 split at h
 ·simp at h; obtain ⟨rfl, rfl, _⟩ := h; exact BadI.here p
 ·simp at h
theorem fnd_bad {p : PX} {x : List ByteArray × ByteArray × Int} {e a : Int} {q : PX} (h : runFnd p x = .bad e a q) : e = 6 ∧ a = x.2.2 ∧ q = ckd p := by
 unfold runFnd at h
 split at h
 ·simp at h
 ·simp at h; exact ⟨h.1.symm, h.2.1.symm, h.2.2.symm⟩
def InS (p : PX) (st : Int) : Prop := 0 ≤ st ∧ st < p.1.s.size
theorem InS.badI {p : PX} {st : Int} (h : InS p st) : BadI p 6 st := .inr (.inl ⟨rfl, h⟩)
theorem InS.mv {p q : PX} {st : Int} (m : Moved p q) (h : InS p st) : InS q st := by unfold InS at h ⊢; rw [m.s]; exact h
theorem wrd_in {p : PX} {d : D} {q : PX} (h : runWrd p () = .ok d q) : InS p (dN d) := by
 obtain ⟨h1, _, rfl⟩ := runWrd_ok h
 have h2 := wdF_le (s := p.1.s) (p.1.s.size - p.1.k) p.1.k p.2.2.1
 have h2 : p.1.k ≤ wdE p.1.s p.1.k ∧ wdE p.1.s p.1.k ≤ p.1.s.size := h2
 show 0 ≤ (p.1.k : Int) ∧ (p.1.k : Int) < p.1.s.size
 omega
theorem clsS_badI {w : ByteArray} {st : Int} {p : PX} {e a : Int} {q : PX} (hst : InS p st) (h : clsS w st p = .bad e a q) : BadI p e a := by
 unfold clsS at h
 split at h
 ·rename_i hf
  simp at h; obtain ⟨rfl, rfl, _⟩ := h
  exact exp_badI hf
 ·rename_i he
  split at h
  ·rename_i hf
   simp at h; obtain ⟨rfl, rfl, _⟩ := h
   obtain ⟨rfl, rfl, _⟩ := fnd_bad hf
   exact hst.badI
  ·simp at h
theorem clsV_badI {w : ByteArray} {st : Int} {p : PX} {e a : Int} {q : PX} (hst : InS p st) (h : clsV w st p = .bad e a q) : BadI p e a := by
 unfold clsV at h
 split at h
 ·rename_i hf
  simp at h; obtain ⟨rfl, rfl, _⟩ := h
  obtain ⟨rfl, rfl, _⟩ := fnd_bad hf
  exact hst.badI
 ·rename_i hf0
  refine BadI.mv (runFnd_k hf0) ?_
  split at h
  ·rename_i hf
   simp at h; obtain ⟨rfl, rfl, _⟩ := h
   exact wrd_badI hf
  ·rename_i hw
   split at h
   ·rename_i hf
    simp at h; obtain ⟨rfl, rfl, _⟩ := h
    exact (exp_badI hf).mv (runWrd_k hw)
   ·split at h
    ·simp at h
    ·simp at h; obtain ⟨rfl, rfl, _⟩ := h
     exact (wrd_in hw).badI
theorem clsN_badI {p : PX} {e a : Int} {q : PX} (h : clsN p = .bad e a q) : BadI p e a := by
 unfold clsN at h
 split at h
 ·rename_i hf
  simp at h; obtain ⟨rfl, rfl, _⟩ := h
  exact wrd_badI hf
 ·rename_i hw
  refine BadI.mv (runWrd_k hw) ?_
  split at h
  ·exact (clsV_badI (((wrd_in hw).mv (runWrd_k hw)).mv (Moved.adv _ _)) h).mv (Moved.adv _ _)
  ·exact clsS_badI ((wrd_in hw).mv (runWrd_k hw)) h
theorem cls_badI {p : PX} {e a : Int} {q : PX} (hk : p.1.k < p.1.s.size) (h : runCls p = .bad e a q) : BadI (adv p hk) e a := by
 unfold runCls at h
 rw [dif_pos hk] at h
 split at h
 ·rename_i hf
  simp at h; obtain ⟨rfl, rfl, _⟩ := h
  exact exp_badI hf
 ·rename_i h1
  refine BadI.mv (runExp_k h1).1 ?_
  split at h
  ·rename_i hf
   simp at h; obtain ⟨rfl, rfl, _⟩ := h
   exact exp_badI hf
  ·rename_i h2
   exact (clsN_badI h).mv (runExp_k h2).1
theorem itmP_badI {c : Int} {p : PX} {e a : Int} {q : PX} (h : itmP c p = .bad e a q) : BadI p e a := by
 unfold itmP at h
 split at h
 ·rename_i hf
  simp at h; obtain ⟨rfl, rfl, _⟩ := h
  exact chr_badI hf
 ·split at h
  ·simp at h; obtain ⟨rfl, rfl, _⟩ := h; exact BadI.here p
  ·simp at h
theorem itmC_badI {c : Int} {p : PX} {e a : Int} {q : PX} (h : itmC c p = .bad e a q) : BadI p e a := by
 unfold itmC at h
 split at h
 ·exact (itmP_badI h).mv ((Moved.adv _ _).trans (Moved.bl _))
 ·simp at h
theorem itm_badI {p : PX} {e a : Int} {q : PX} (h : runItm p = .bad e a q) : BadI p e a := by
 unfold runItm at h
 split at h
 ·rename_i hp
  exact (cls_badI (by have := pre2_at hp; omega) h).mv (Moved.adv _ _)
 ·split at h
  ·rename_i hf
   simp at h; obtain ⟨rfl, rfl, _⟩ := h
   exact chr_badI hf
  ·rename_i hc
   exact (itmC_badI h).mv ((runChr_k hc).1.trans (Moved.bl _))
def RunB (run : PX → OutL) : Prop := ∀ p e a q, pkV p.1 = 91 → run p = .bad e a q → BadI p e a ∧ (e = 3 → (p.1.k : Int) + 1 ≤ a)
theorem opd_badI {run : PX → OutL} (hB : RunB run) {p : PX} {e a : Int} {q : PX} (h : runOpd run p = .bad e a q) : BadI p e a := by
 unfold runOpd at h
 split at h
 ·rename_i h91
  exact (hB _ _ _ _ h91 h).1
 ·split at h
  ·rename_i h92
   exact (cls_badI (pk_eq h92 (by decide)).1 h).mv (Moved.adv _ _)
  ·simp at h; obtain ⟨rfl, rfl, _⟩ := h; exact BadI.here p
theorem grpL_badI {run : PX → OutL} (hR : RunOk run) (hB : RunB run) {neg : Bool} : ∀ (f : Nat) {p : PX} {S I : List Rg} {e a : Int} {q : PX}, p.1.s.size < f + p.1.k → grpL run neg f p S I = .bad e a q → BadI (blP p) e a
 | 0, p, S, I, e, a, q, hf, _ => by have := p.2.2.1; omega
 | f + 1, p, S, I, e, a, q, hf, h => by
  have hb := blP_le p
  have hsz : (blP p).1.s.size = p.1.s.size := rfl
  rw [grpL] at h
  split at h
  ·simp at h
  ·split at h
   ·split at h
    ·split at h
     ·rename_i he
      simp at h; obtain ⟨rfl, rfl, _⟩ := h
      exact (opd_badI hB he).mv ((Moved.adv _ _).trans ((Moved.adv _ _).trans (Moved.bl _)))
     ·rename_i h45 h45b _ L1 q1 he
      have w := runOpd_went hR he
      have m := (Moved.adv (blP p) (pk_eq h45 (by decide)).1).trans ((Moved.adv _ (pk_eq h45b (by decide)).1).trans (Moved.bl _))
      have h1 := m.k
      have h2 := w.k
      exact (grpL_badI hR hB f (by rw [w.s]; show p.1.s.size < _; omega) h).mv (m.trans (w.mv'.trans (Moved.bl _)))
    ·rename_i h45 h45b
     simp at h; obtain ⟨rfl, rfl, _⟩ := h
     obtain ⟨k45, _⟩ := pk_eq h45 (by decide)
     exact (BadI.here (adv (blP p) k45)).mv (Moved.adv _ _)
   ·split at h
    ·split at h
     ·rename_i he
      simp at h; obtain ⟨rfl, rfl, _⟩ := h
      exact (opd_badI hB he).mv ((Moved.adv _ _).trans (Moved.bl _))
     ·rename_i h38 _ L1 q1 he
      have w := runOpd_went hR he
      have m := (Moved.adv (blP p) (pk_eq h38 (by decide)).1).trans (Moved.bl _)
      have h1 := m.k
      have h2 := w.k
      exact (grpL_badI hR hB f (by rw [w.s]; show p.1.s.size < _; omega) h).mv (m.trans (w.mv'.trans (Moved.bl _)))
    ·split at h
     ·rename_i h91
      split at h
      ·rename_i he
       simp at h; obtain ⟨rfl, rfl, _⟩ := h
       exact (hB _ _ _ _ h91 he).1
      ·rename_i he
       have w := hR _ _ _ h91 he
       have h2 := w.k
       exact (grpL_badI hR hB f (by rw [w.s]; show p.1.s.size < _; omega) h).mv (w.mv'.trans (Moved.bl _))
     ·split at h
      ·rename_i he
       simp at h; obtain ⟨rfl, rfl, _⟩ := h
       exact itm_badI he
      ·rename_i he
       have w := runItm_went he
       have h2 := w.k
       exact (grpL_badI hR hB f (by rw [w.s]; show p.1.s.size < _; omega) h).mv (w.mv'.trans (Moved.bl _))
theorem BadI.ge {p : PX} {e a : Int} (h : BadI p e a) (he : e = 3) : (p.1.k : Int) ≤ a := by
 rcases h with h | h | h <;> omega
theorem runGrp_bad : ∀ n, RunB (runGrp n)
 | 0 => fun p e a q h91 h => by
  obtain ⟨hk, hb⟩ := pk_eq h91 (by decide)
  simp [runGrp] at h
  obtain ⟨rfl, rfl, _⟩ := h
  exact ⟨.inr (.inr ⟨rfl, by omega, by omega, by rw [Int.toNat_natCast]; exact hb⟩), fun h => absurd h (by decide)⟩
 | n + 1 => fun p e a q h91 h => by
  obtain ⟨hk, _⟩ := pk_eq h91 (by decide)
  rw [runGrp, dif_pos hk] at h
  have key : BadI (adv p hk) e a := by
   split at h
   ·exact (grpL_badI (runGrp_went n) (runGrp_bad n) _ (by show p.1.s.size < p.1.s.size + 1 + _; omega) h).mv ((Moved.bl _).trans ((Moved.adv _ _).trans (Moved.bl _)))
   ·exact (grpL_badI (runGrp_went n) (runGrp_bad n) _ (by show p.1.s.size < p.1.s.size + 1 + _; omega) h).mv ((Moved.bl _).trans (Moved.bl _))
  exact ⟨key.mv (Moved.adv _ _), fun he => key.ge he⟩
theorem prs_whole {d : Db} {s : ByteArray} {h : OkS d s} (he : (prs d s).2.1 = 0) : ∃ L q, Whole d s h L q ∧ prs d s = (L, 0, 0) := by
 rw [prs_at h] at he ⊢
 unfold prsP at he ⊢
 split at he
 ·rename_i h91
  rw [if_pos h91]
  cases hr : runGrp 17 (blP (pst0 d s h)) with
  | bad e a q => rw [hr] at he; have he : e = 0 := he; exact absurd he (runGrp_bad 17 _ _ _ _ h91 hr).1.code
  | ok L q =>
   rw [hr] at he
   dsimp only at he ⊢
   have w := runGrp_went 17 _ _ _ h91 hr
   unfold prsE at he ⊢
   split at he
   ·simp at he
   ·rename_i hk
    rw [if_neg hk]
    have hk : ¬ (blP q).1.k < s.size := hk
    have hs : q.1.s = s := w.s
    have := (blP q).2.2.1
    have : (blP q).1.k ≤ q.1.s.size := this
    rw [hs] at this
    exact ⟨L, q, ⟨h91, hr, by omega, w⟩, rfl⟩
 ·simp at he
end Go.Proofs
namespace Go.Proofs
open Go Go.Sx
variable {mx : Int} {pb : Bool}
theorem grpL_end {run : PX → OutL} {neg : Bool} {f : Nat} {p : PX} {S I : List Rg} (h : pkV (blP p).1 = 93) : grpL run neg (f + 1) p S I = .ok (endG neg S I) (adv (blP p) (pk_eq h (by decide)).1) := by rw [grpL, dif_pos h]
theorem runGrp_pos {n : Nat} {p : PX} (hk : p.1.k < p.1.s.size) (h : ¬ pkV (blP (adv p hk)).1 = 94) : runGrp (n + 1) p = grpL (runGrp n) false (p.1.s.size + 1) (blP (adv p hk)) [] [] := by rw [runGrp, dif_pos hk, dif_neg h]
theorem runGrp_neg {n : Nat} {p : PX} (hk : p.1.k < p.1.s.size) (h : pkV (blP (adv p hk)).1 = 94) : runGrp (n + 1) p = grpL (runGrp n) true (p.1.s.size + 1) (adv (blP (adv p hk)) (pk_eq h (by decide)).1) [] [] := by rw [runGrp, dif_pos hk, dif_pos h]
theorem blP_id' {p : PX} (h : pkV p.1 ≠ 32) : blP p = p := blP_id fun hh => h (by rw [pkV_lt hh.1]; exact hh.2)
theorem canon_id {l : List Rg} (h : Canon l) : canon l = l := (canon_of h fun c => ⟨fun hc => ⟨by
  obtain ⟨r, hr, h1, h2⟩ := hc
  have := h.ok r hr
  omega, hc⟩, fun hc => hc.2⟩).symm
theorem or_nilL {l : List Rg} (h : Canon l) : combL [] l 1 = l := by
 obtain ⟨h1, h2⟩ := comb_spec [] l 1
 refine canon_unique h1 h fun c => ?_
 have e : hasB [] c = false := by simp [hasB]
 rw [h2, e]
 have e2 : keepsB 1 false (hasB l c) = hasB l c := by simp [keepsB]
 rw [e2, hasB_iff]
 constructor
 ·exact fun hh => hh.2.2
 ·intro hc
  have hb : 0 ≤ c ∧ c ≤ 1114111 := by
   obtain ⟨r, hr, h3, h4⟩ := hc
   have := h.ok r hr
   omega
  exact ⟨hb, hb, hc⟩
end Go.Proofs
