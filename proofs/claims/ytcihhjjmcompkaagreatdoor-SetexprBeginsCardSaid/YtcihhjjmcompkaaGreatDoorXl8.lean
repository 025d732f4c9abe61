import Derived.Test.YtcihhjjmcompkaaGreatDoorXl7
set_option linter.unusedVariables false
set_option linter.unusedSimpArgs false
namespace Go.Proofs
open Go Go.Sx
variable {mx : Int} {pb : Bool}
section
variable {A : Nat} {p p' : PX}
theorem pre2_f (h : Ru A p p') {a b : Int} (hp : ¬ pre2 p.1 a b = true) : pre2 p'.1 a b = false := by
 unfold pre2 at hp ⊢
 refine decide_eq_false fun hh => hp (decide_eq_true ?_)
 have e := h.e.sz
 have k := h.k
 have le := h.e.le
 refine ⟨by omega, ?_, ?_⟩
 ·rw [← h.e.b _ (by omega), ← k]; exact hh.2.1
 ·rw [← h.e.b _ (by omega), ← k]; exact hh.2.2
theorem pre2_t (h : Ru A p p') {a b : Int} (hp : pre2 p.1 a b = true) (hk : p.1.k + 1 < A) : pre2 p'.1 a b = true := by
 have g := pre2_at hp
 unfold pre2
 refine decide_eq_true ?_
 rw [h.k, h.e.sz, h.e.b _ (by omega), h.e.b _ hk]
 exact ⟨hk, g.2⟩
theorem itmP_end (h : Ru A p p') {c : Int} (hk : p.1.k = A) : ∃ q', itmP c p' = .bad 3 A q' := by
 obtain ⟨q', e⟩ := chr_end h hk
 exact ⟨q', by unfold itmP; rw [e]⟩
theorem itmP_tok (h : Ru A p p') {c : Int} {L : List Rg} {q : PX} (hr : itmP c p = .ok L q) (hq : q.1.k ≤ A) : ∃ q', itmP c p' = .ok L q' ∧ Ru A q q' := by
 unfold itmP at hr
 split at hr
 ·simp at hr
 ·rename_i he
  split at hr
  ·simp at hr
  ·rename_i hlt
   simp at hr
   obtain ⟨rfl, rfl⟩ := hr
   obtain ⟨q', e, r⟩ := chr_tok h he hq
   exact ⟨q', by unfold itmP; rw [e]; dsimp only; rw [if_neg hlt], r⟩
theorem itmP_tbad (h : Ru A p p') {c : Int} {q : PX} (hr : itmP c p = .bad 3 A q) : ∃ q', itmP c p' = .bad 3 A q' := by
 unfold itmP at hr
 split at hr
 ·rename_i he
  simp at hr
  obtain ⟨rfl, rfl, _⟩ := hr
  obtain ⟨q', e⟩ := chr_tbad h he
  exact ⟨q', by unfold itmP; rw [e]⟩
 ·split at hr
  ·simp at hr
   exact itmP_end h (by omega)
  ·simp at hr
theorem itm_end (h : Ru A p p') (hk : p.1.k = A) : ∃ q', runItm p' = .bad 3 A q' := by
 obtain ⟨q', e⟩ := chr_end h hk
 refine ⟨q', ?_⟩
 unfold runItm
 rw [if_neg, e]
 unfold pre2
 rw [decide_eq_true_iff]
 intro hh
 have := h.no hk
 omega
def CutM (A : Nat) (q : PX) : Prop := q.1.k + 1 = A ∧ pre2 q.1 45 45 = true
theorem itmC_tok (h : Ru A p p') {c : Int} {L : List Rg} {q : PX} (hr : itmC c p = .ok L q) (hq : q.1.k ≤ A) (hm : ¬ CutM A q) : ∃ q', itmC c p' = .ok L q' ∧ Ru A q q' := by
 unfold itmC at hr
 split at hr
 ·rename_i h45
  obtain ⟨k45, _⟩ := pk_eq h45.1 (by decide)
  have k1 : (blP (adv p k45)).1.k ≤ q.1.k := by
   unfold itmP at hr
   split at hr
   ·simp at hr
   ·rename_i he
    split at hr
    ·simp at hr
    ·simp at hr
     obtain ⟨rfl, rfl⟩ := hr
     exact (runChr_k he).1.k
  have k2 : p.1.k + 1 ≤ (blP (adv p k45)).1.k := blP_le (adv p k45)
  have hkA : p.1.k < A := by omega
  have ra := h.adv hkA k45 (h.lt hkA)
  obtain ⟨q', e, r⟩ := itmP_tok (ra.bl (by omega)) hr hq
  refine ⟨q', ?_, r⟩
  unfold itmC
  rw [dif_pos ⟨(h.pk hkA).trans h45.1, pre2_f h (by rw [h45.2]; decide)⟩]
  exact e
 ·rename_i h45
  simp at hr
  obtain ⟨rfl, rfl⟩ := hr
  refine ⟨p', dif_neg fun hh => ?_, h⟩
  have hkA : p.1.k < A := by
   rcases Nat.lt_or_ge p.1.k A with h1 | h1
   ·exact h1
   ·have := h.pkE (Nat.le_antisymm h.le h1)
    have := hh.1
    omega
  have h1 := (h.pk hkA).symm.trans hh.1
  refine h45 ⟨h1, ?_⟩
  cases h2 : pre2 p.1 45 45 with
  | false => rfl
  | true =>
   rcases Nat.lt_or_ge (p.1.k + 1) A with h3 | h3
   ·have := pre2_t h h2 h3
    rw [hh.2] at this
    exact Bool.noConfusion this
   ·exact absurd ⟨by omega, h2⟩ hm
theorem itmC_tbad (h : Ru A p p') {c : Int} {q : PX} (hr : itmC c p = .bad 3 A q) : ∃ q', itmC c p' = .bad 3 A q' := by
 unfold itmC at hr
 split at hr
 ·rename_i h45
  obtain ⟨k45, _⟩ := pk_eq h45.1 (by decide)
  have g := (itmP_badI hr).ge rfl
  have k2 : p.1.k + 1 ≤ (blP (adv p k45)).1.k := blP_le (adv p k45)
  have hkA : p.1.k < A := by omega
  have ra := h.adv hkA k45 (h.lt hkA)
  obtain ⟨q', e⟩ := itmP_tbad (ra.bl (by omega)) hr
  refine ⟨q', ?_⟩
  unfold itmC
  rw [dif_pos ⟨(h.pk hkA).trans h45.1, pre2_f h (by rw [h45.2]; decide)⟩]
  exact e
 ·simp at hr
theorem pre2_92 {p : PX} {L : List Rg} {q : PX} (hp : pre2 p.1 92 112 = true) (hr : runCls p = .ok L q) : p.1.k + 1 < q.1.k := by
 unfold runCls at hr
 split at hr
 ·rename_i hk
  split at hr
  ·simp at hr
  ·rename_i h1
   split at hr
   ·simp at hr
   ·rename_i h2
    have k3 := (clsN_k hr).1.k
    have k2 := (runExp_k h2).2
    have k1 := (runExp_k h1).2
    have k0 : (adv p hk).1.k = p.1.k + 1 := rfl
    omega
 ·simp at hr
theorem itm_tok (h : Ru A p p') {L : List Rg} {q : PX} (hr : runItm p = .ok L q) (hq : q.1.k ≤ A) (hm : ¬ CutM A q) : ∃ q', runItm p' = .ok L q' ∧ Ru A q q' := by
 unfold runItm at hr
 split at hr
 ·rename_i hp
  have := pre2_92 hp hr
  obtain ⟨q', e, r⟩ := cls_tok h hr hq
  exact ⟨q', (if_pos (pre2_t h hp (by omega))).trans e, r⟩
 ·rename_i hp
  split at hr
  ·simp at hr
  ·rename_i d q1 hc
   have k1 := (itmC_k hr (by obtain ⟨v, rfl, h0, _⟩ := runChr_ok hc; exact h0) (by obtain ⟨v, rfl, _, h0⟩ := runChr_ok hc; exact h0)).1.k
   have k2 := blP_le q1
   obtain ⟨q1', e1, r1⟩ := chr_tok h hc (by omega)
   obtain ⟨q', e2, r2⟩ := itmC_tok (r1.bl (by omega)) hr hq hm
   refine ⟨q', ?_, r2⟩
   unfold runItm
   rw [if_neg (by rw [pre2_f h hp]; decide), e1]
   exact e2
theorem itm_tbad (h : Ru A p p') {q : PX} (hr : runItm p = .bad 3 A q) : ∃ q', runItm p' = .bad 3 A q' := by
 unfold runItm at hr
 split at hr
 ·rename_i hp
  have g := pre2_at hp
  have hk : p.1.k < p.1.s.size := by omega
  have hA : p.1.k + 1 < A := by
   have hr2 := hr
   unfold runCls at hr2
   rw [dif_pos hk] at hr2
   have hx : runExp (adv p hk) 112 = .ok (.tu []) (adv (adv p hk) g.1) := dif_pos ⟨g.1, (pkV_lt g.1).trans g.2.2⟩
   rw [hx] at hr2
   dsimp only at hr2
   have gg : BadI (adv (adv p hk) g.1) 3 A := by
    split at hr2
    ·rename_i h2
     simp at hr2
     obtain ⟨rfl, rfl, _⟩ := hr2
     exact exp_badI h2
    ·rename_i h2
     exact (clsN_badI hr2).mv (runExp_k h2).1
   have := gg.ge rfl
   have : ((p.1.k + 1 + 1 : Nat) : Int) ≤ A := this
   omega
  obtain ⟨q', e⟩ := cls_tbad h hk hr
  exact ⟨q', (if_pos (pre2_t h hp hA)).trans e⟩
 ·rename_i hp
  split at hr
  ·rename_i hc
   simp at hr
   obtain ⟨rfl, rfl, _⟩ := hr
   obtain ⟨q', e⟩ := chr_tbad h hc
   refine ⟨q', ?_⟩
   unfold runItm
   rw [if_neg (by rw [pre2_f h hp]; decide), e]
  ·rename_i d q1 hc
   have g := (itmC_badI hr).ge rfl
   have k2 := blP_le q1
   obtain ⟨q1', e1, r1⟩ := chr_tok h hc (by omega)
   obtain ⟨q', e2⟩ := itmC_tbad (r1.bl (by omega)) hr
   refine ⟨q', ?_⟩
   unfold runItm
   rw [if_neg (by rw [pre2_f h hp]; decide), e1]
   exact e2
end
def RunT (A : Nat) (run : PX → OutL) : Prop := ∀ p p', Ru A p p' → pkV p.1 = 91 → p.1.k < A → (∀ L q, run p = .ok L q → q.1.k ≤ A → ∃ q', run p' = .ok L q' ∧ Ru A q q') ∧ ∀ q, run p = .bad 3 A q → ∃ q', run p' = .bad 3 A q'
section
variable {A : Nat} {run : PX → OutL}
theorem opd_tok (hT : RunT A run) (hR : RunOk run) {p p' : PX} (h : Ru A p p') {L : List Rg} {q : PX} (hr : runOpd run p = .ok L q) (hq : q.1.k ≤ A) : ∃ q', runOpd run p' = .ok L q' ∧ Ru A q q' := by
 have hkA : p.1.k < A := Nat.lt_of_lt_of_le (runOpd_went hR hr).k hq
 have e := h.pk hkA
 unfold runOpd at hr
 split at hr
 ·rename_i h91
  obtain ⟨q', e1, r⟩ := (hT p p' h h91 hkA).1 L q hr hq
  exact ⟨q', (if_pos (e.trans h91)).trans e1, r⟩
 ·rename_i h91
  split at hr
  ·rename_i h92
   obtain ⟨q', e1, r⟩ := cls_tok h hr hq
   refine ⟨q', ?_, r⟩
   unfold runOpd
   rw [if_neg (by rw [e]; exact h91), if_pos (e.trans h92)]
   exact e1
  ·simp at hr
theorem opd_end {p p' : PX} (h : Ru A p p') (hk : p.1.k = A) : ∃ q', runOpd run p' = .bad 3 A q' := ⟨p', by
 unfold runOpd
 rw [if_neg (by rw [h.pkE hk]; decide), if_neg (by rw [h.pkE hk]; decide), h.k, hk]⟩
theorem opd_tbad (hT : RunT A run) (hB : RunB run) {p p' : PX} (h : Ru A p p') {q : PX} (hr : runOpd run p = .bad 3 A q) : ∃ q', runOpd run p' = .bad 3 A q' := by
 rcases Nat.lt_or_ge p.1.k A with hkA | hkA
 ·have e := h.pk hkA
  unfold runOpd at hr
  split at hr
  ·rename_i h91
   obtain ⟨q', e1⟩ := (hT p p' h h91 hkA).2 q hr
   exact ⟨q', (if_pos (e.trans h91)).trans e1⟩
  ·rename_i h91
   split at hr
   ·rename_i h92
    obtain ⟨q', e1⟩ := cls_tbad h (pk_eq h92 (by decide)).1 hr
    refine ⟨q', ?_⟩
    unfold runOpd
    rw [if_neg (by rw [e]; exact h91), if_pos (e.trans h92)]
    exact e1
   ·simp at hr
    omega
 ·exact opd_end h (Nat.le_antisymm h.le hkA)
theorem grpL_tend {neg : Bool} {f : Nat} {p p' : PX} (h : Ru A p p') {S I : List Rg} (hk : (blP p).1.k = A) : ∃ q', grpL run neg (f + 1) p' S I = .bad 3 A q' := by
 have rb := h.bl (Nat.le_of_eq hk)
 have e := rb.pkE hk
 obtain ⟨q', e1⟩ := itm_end rb hk
 refine ⟨q', ?_⟩
 rw [grpL, dif_neg (by rw [e]; decide), dif_neg (by rw [e]; decide), dif_neg (by rw [e]; decide), if_neg (by rw [e]; decide), e1]
theorem grpL_mm {neg : Bool} (hR : RunOk run) (hB : RunB run) {f : Nat} {p q : PX} {S I L : List Rg} (hm : pre2 p.1 45 45 = true) : (grpL run neg f p S I = .ok L q → p.1.k + 2 ≤ q.1.k) ∧ ∀ a, p.1.s.size < f + p.1.k → grpL run neg f p S I = .bad 3 a q → ((p.1.k + 2 : Nat) : Int) ≤ a := by
 obtain ⟨g1, g2, g3⟩ := pre2_at hm
 cases f with
 | zero => exact ⟨fun h => by simp [grpL] at h, fun a hf _ => by omega⟩
 | succ f =>
  have hb : blP p = p := blP_id fun hh => by have := hh.2; omega
  have h1 : pkV (blP p).1 = 45 := by rw [hb]; exact (pkV_lt (by omega)).trans g2
  have kb : (blP p).1.k = p.1.k := by rw [hb]
  have h2 : pkV (adv (blP p) (pk_eq h1 (by decide)).1).1 = 45 := pk_of (by show (blP p).1.k + 1 < p.1.s.size; omega) (by show bAt p.1.s ((blP p).1.k + 1) = 45; rw [kb]; exact g3)
  rw [grpL, dif_neg (by rw [h1]; decide), dif_pos h1, dif_pos h2]
  have m := blP_le (adv (adv (blP p) (pk_eq h1 (by decide)).1) (pk_eq h2 (by decide)).1)
  have m : (blP p).1.k + 1 + 1 ≤ (blP (adv (adv (blP p) (pk_eq h1 (by decide)).1) (pk_eq h2 (by decide)).1)).1.k := m
  refine ⟨fun h => ?_, fun a hf h => ?_⟩
  ·split at h
   ·simp at h
   ·rename_i he
    have w := (runOpd_went hR he).k
    have := (grpL_k hR _ h).1.k
    omega
  ·split at h
   ·rename_i he
    simp at h
    obtain ⟨rfl, rfl, _⟩ := h
    have := (opd_badI hB he).ge rfl
    omega
   ·rename_i he
    have w := runOpd_went hR he
    have wk := w.k
    have := (grpL_badI hR hB f (by rw [w.s]; show p.1.s.size < _; omega) h).ge rfl
    have := blP_le ‹PX›
    omega
theorem grpL_tru (hT : RunT A run) (hR : RunOk run) (hB : RunB run) {neg : Bool} : ∀ (f f' : Nat) {p p' : PX} {S I : List Rg}, Ru A p p' → p.1.s.size < f + p.1.k → A < f' + p.1.k →
  (∀ L q, grpL run neg f p S I = .ok L q → q.1.k ≤ A → ∃ q', grpL run neg f' p' S I = .ok L q' ∧ Ru A q q') ∧ ∀ q, grpL run neg f p S I = .bad 3 A q → ∃ q', grpL run neg f' p' S I = .bad 3 A q'
 | 0, f', p, p', S, I, h, hf, _ => by have := p.2.2.1; omega
 | f + 1, 0, p, p', S, I, h, _, hf => by have := h.le; omega
 | f + 1, f' + 1, p, p', S, I, h, hf, hf' => by
  have hb := blP_le p
  -- where the group goes on
  have start : ((∃ L q, grpL run neg (f + 1) p S I = .ok L q ∧ q.1.k ≤ A) ∨ ∃ q, grpL run neg (f + 1) p S I = .bad 3 A q) → (blP p).1.k ≤ A := by
   rintro (⟨L, q, h1, h2⟩ | ⟨q, h1⟩)
   ·have := (grpL_k hR _ h1).2; omega
   ·have := (grpL_badI hR hB _ hf h1).ge rfl; omega
  rcases Nat.lt_trichotomy (blP p).1.k A with hkA | hkA | hkA
  ·have rb := h.bl (Nat.le_of_lt hkA)
   have e := rb.pk hkA
   rw [grpL, grpL]
   by_cases h93 : pkV (blP p).1 = 93
   ·rw [dif_pos h93, dif_pos (e.trans h93)]
    refine ⟨fun L q hr hq => ?_, fun q hr => by simp at hr⟩
    simp at hr
    obtain ⟨rfl, rfl⟩ := hr
    exact ⟨_, rfl, rb.adv hkA _ _⟩
   rw [dif_neg h93, dif_neg (show ¬ pkV (blP p').1 = 93 by rw [e]; exact h93)]
   by_cases h45 : pkV (blP p).1 = 45
   ·rw [dif_pos h45, dif_pos (e.trans h45)]
    have ra := rb.adv hkA (pk_eq h45 (by decide)).1 (rb.lt hkA)
    have ka : (adv (blP p) (pk_eq h45 (by decide)).1).1.k = (blP p).1.k + 1 := rfl
    by_cases h45b : pkV (adv (blP p) (pk_eq h45 (by decide)).1).1 = 45
    ·rw [dif_pos h45b]
     have k2 := (pk_eq h45b (by decide)).1
     by_cases hkB : (blP p).1.k + 1 = A
     ·have hn : ¬ pkV (adv (blP p') (rb.lt hkA)).1 = 45 := by rw [ra.pkE hkB]; decide
      have m := blP_le (adv (adv (blP p) (pk_eq h45 (by decide)).1) k2)
      have m : (blP p).1.k + 1 + 1 ≤ (blP (adv (adv (blP p) (pk_eq h45 (by decide)).1) k2)).1.k := m
      refine ⟨fun L q hr hq => ?_, fun q hr => ?_⟩
      ·exfalso
       split at hr
       ·simp at hr
       ·rename_i he
        have w := (runOpd_went hR he).k
        have := (grpL_k hR _ hr).1.k
        omega
      ·exfalso
       split at hr
       ·rename_i he
        simp at hr
        obtain ⟨rfl, rfl, _⟩ := hr
        have := (opd_badI hB he).ge rfl
        omega
       ·rename_i he
        have w := runOpd_went hR he
        have wk := w.k
        have := (grpL_badI hR hB f (by rw [w.s]; show p.1.s.size < _; omega) hr).ge rfl
        have := blP_le ‹PX›
        omega
     ·have hkC : (adv (blP p) (pk_eq h45 (by decide)).1).1.k < A := by omega
      rw [dif_pos ((ra.pk hkC).trans h45b)]
      have rc := ra.adv hkC k2 (ra.lt hkC)
      have m := blP_le (adv (adv (blP p) (pk_eq h45 (by decide)).1) k2)
      have m : (blP p).1.k + 1 + 1 ≤ (blP (adv (adv (blP p) (pk_eq h45 (by decide)).1) k2)).1.k := m
      refine ⟨fun L q hr hq => ?_, fun q hr => ?_⟩
      ·split at hr
       ·simp at hr
       ·rename_i L1 q1 he
        have w := runOpd_went hR he
        have wk := w.k
        have g := (grpL_k hR _ hr).1.k
        obtain ⟨q1', e1, r1⟩ := opd_tok hT hR (rc.bl (by omega)) he (by omega)
        have e1 : runOpd run (blP (adv (adv (blP p') (rb.lt hkA)) (ra.lt hkC))) = .ok L1 q1' := e1
        rw [e1]
        exact (grpL_tru hT hR hB f f' r1 (by rw [w.s]; show p.1.s.size < _; omega) (by omega)).1 L q hr hq
      ·split at hr
       ·rename_i he
        simp at hr
        obtain ⟨rfl, rfl, _⟩ := hr
        have g := (opd_badI hB he).ge rfl
        obtain ⟨q1', e1⟩ := opd_tbad hT hB (rc.bl (by omega)) he
        have e1 : runOpd run (blP (adv (adv (blP p') (rb.lt hkA)) (ra.lt hkC))) = .bad 3 A q1' := e1
        rw [e1]
        exact ⟨q1', rfl⟩
       ·rename_i L1 q1 he
        have w := runOpd_went hR he
        have wk := w.k
        have hf1 : q1.1.s.size < f + q1.1.k := by rw [w.s]; show p.1.s.size < _; omega
        have g := (grpL_badI hR hB f hf1 hr).ge rfl
        have g2 := blP_le q1
        obtain ⟨q1', e1, r1⟩ := opd_tok hT hR (rc.bl (by omega)) he (by omega)
        have e1 : runOpd run (blP (adv (adv (blP p') (rb.lt hkA)) (ra.lt hkC))) = .ok L1 q1' := e1
        rw [e1]
        exact (grpL_tru hT hR hB f f' r1 hf1 (by omega)).2 q hr
    ·rw [dif_neg h45b]
     refine ⟨fun L q hr _ => by simp at hr, fun q hr => ?_⟩
     simp at hr
     have hkB : (blP p).1.k + 1 = A := by omega
     rw [dif_neg (show ¬ pkV (adv (blP p') (rb.lt hkA)).1 = 45 by rw [ra.pkE hkB]; decide)]
     exact ⟨_, by rw [rb.k]; show OutL.bad 3 (((blP p).1.k : Int) + 1) _ = .bad 3 (A : Int) _; rw [← hkB]; rfl⟩
   rw [dif_neg h45, dif_neg (show ¬ pkV (blP p').1 = 45 by rw [e]; exact h45)]
   by_cases h38 : pkV (blP p).1 = 38
   ·rw [dif_pos h38, dif_pos (e.trans h38)]
    have ra := rb.adv hkA (pk_eq h38 (by decide)).1 (rb.lt hkA)
    have m := blP_le (adv (blP p) (pk_eq h38 (by decide)).1)
    have m : (blP p).1.k + 1 ≤ (blP (adv (blP p) (pk_eq h38 (by decide)).1)).1.k := m
    refine ⟨fun L q hr hq => ?_, fun q hr => ?_⟩
    ·split at hr
     ·simp at hr
     ·rename_i L1 q1 he
      have w := runOpd_went hR he
      have wk := w.k
      have g := (grpL_k hR _ hr).1.k
      obtain ⟨q1', e1, r1⟩ := opd_tok hT hR (ra.bl (by omega)) he (by omega)
      have e1 : runOpd run (blP (adv (blP p') (rb.lt hkA))) = .ok L1 q1' := e1
      rw [e1]
      exact (grpL_tru hT hR hB f f' r1 (by rw [w.s]; show p.1.s.size < _; omega) (by omega)).1 L q hr hq
    ·split at hr
     ·rename_i he
      simp at hr
      obtain ⟨rfl, rfl, _⟩ := hr
      have g := (opd_badI hB he).ge rfl
      obtain ⟨q1', e1⟩ := opd_tbad hT hB (ra.bl (by omega)) he
      have e1 : runOpd run (blP (adv (blP p') (rb.lt hkA))) = .bad 3 A q1' := e1
      rw [e1]
      exact ⟨q1', rfl⟩
     ·rename_i L1 q1 he
      have w := runOpd_went hR he
      have wk := w.k
      have hf1 : q1.1.s.size < f + q1.1.k := by rw [w.s]; show p.1.s.size < _; omega
      have g := (grpL_badI hR hB f hf1 hr).ge rfl
      have g2 := blP_le q1
      obtain ⟨q1', e1, r1⟩ := opd_tok hT hR (ra.bl (by omega)) he (by omega)
      have e1 : runOpd run (blP (adv (blP p') (rb.lt hkA))) = .ok L1 q1' := e1
      rw [e1]
      exact (grpL_tru hT hR hB f f' r1 hf1 (by omega)).2 q hr
   rw [dif_neg h38, dif_neg (show ¬ pkV (blP p').1 = 38 by rw [e]; exact h38)]
   by_cases h91 : pkV (blP p).1 = 91
   ·rw [if_pos h91, if_pos (e.trans h91)]
    have ht := hT _ _ rb h91 hkA
    refine ⟨fun L q hr hq => ?_, fun q hr => ?_⟩
    ·split at hr
     ·simp at hr
     ·rename_i L1 q1 he
      have w := hR _ _ _ h91 he
      have wk := w.k
      have g := (grpL_k hR _ hr).1.k
      obtain ⟨q1', e1, r1⟩ := ht.1 L1 q1 he (by omega)
      rw [e1]
      exact (grpL_tru hT hR hB f f' r1 (by rw [w.s]; show p.1.s.size < _; omega) (by omega)).1 L q hr hq
    ·split at hr
     ·rename_i he
      simp at hr
      obtain ⟨rfl, rfl, _⟩ := hr
      obtain ⟨q1', e1⟩ := ht.2 _ he
      rw [e1]
      exact ⟨q1', rfl⟩
     ·rename_i L1 q1 he
      have w := hR _ _ _ h91 he
      have wk := w.k
      have hf1 : q1.1.s.size < f + q1.1.k := by rw [w.s]; show p.1.s.size < _; omega
      have g := (grpL_badI hR hB f hf1 hr).ge rfl
      have g2 := blP_le q1
      obtain ⟨q1', e1, r1⟩ := ht.1 L1 q1 he (by omega)
      rw [e1]
      exact (grpL_tru hT hR hB f f' r1 hf1 (by omega)).2 q hr
   rw [if_neg h91, if_neg (show ¬ pkV (blP p').1 = 91 by rw [e]; exact h91)]
   refine ⟨fun L q hr hq => ?_, fun q hr => ?_⟩
   ·split at hr
    ·simp at hr
    ·rename_i L1 q1 he
     have w := runItm_went he
     have wk := w.k
     have g := (grpL_k hR _ hr).1.k
     have hm : ¬ CutM A q1 := fun hm => by
      have := (grpL_mm hR hB hm.2).1 hr
      have := hm.1
      omega
     obtain ⟨q1', e1, r1⟩ := itm_tok rb he (by omega) hm
     rw [e1]
     exact (grpL_tru hT hR hB f f' r1 (by rw [w.s]; show p.1.s.size < _; omega) (by omega)).1 L q hr hq
   ·split at hr
    ·rename_i he
     simp at hr
     obtain ⟨rfl, rfl, _⟩ := hr
     obtain ⟨q1', e1⟩ := itm_tbad rb he
     rw [e1]
     exact ⟨q1', rfl⟩
    ·rename_i L1 q1 he
     have w := runItm_went he
     have wk := w.k
     have hf1 : q1.1.s.size < f + q1.1.k := by rw [w.s]; show p.1.s.size < _; omega
     have g := (grpL_badI hR hB f hf1 hr).ge rfl
     have g2 := blP_le q1
     have hm : ¬ CutM A q1 := fun hm => by
      have := (grpL_mm (L := []) hR hB hm.2).2 _ hf1 hr
      have := hm.1
      omega
     obtain ⟨q1', e1, r1⟩ := itm_tok rb he (by omega) hm
     rw [e1]
     exact (grpL_tru hT hR hB f f' r1 hf1 (by omega)).2 q hr
  ·refine ⟨fun L q hr hq => ?_, fun q _ => grpL_tend h hkA⟩
   have := (grpL_k hR _ hr).2
   omega
  ·refine ⟨fun L q hr hq => ?_, fun q hr => ?_⟩
   ·have := start (.inl ⟨L, q, hr, hq⟩); omega
   ·have := start (.inr ⟨q, hr⟩); omega
end
theorem runGrp_tru (A : Nat) : ∀ n, RunT A (runGrp n)
 | 0 => fun p p' h _ _ => ⟨fun L q hr => by simp [runGrp] at hr, fun q hr => by simp [runGrp] at hr⟩
 | n + 1 => fun p p' h h91 hkA => by
  have hT := runGrp_tru A n
  have hR := runGrp_went n
  have hB := runGrp_bad n
  have hk := h.lt0 hkA
  have ra := h.adv hkA hk (h.lt hkA)
  have sz : A ≤ p.1.s.size := h.e.le
  have sz' := h.e.sz
  rw [runGrp, runGrp, dif_pos hk, dif_pos (h.lt hkA)]
  have kb : p.1.k + 1 ≤ (blP (adv p hk)).1.k := blP_le (adv p hk)
  rcases Nat.lt_trichotomy (blP (adv p hk)).1.k A with hc | hc | hc
  ·have rb := ra.bl (Nat.le_of_lt hc)
   have e := rb.pk hc
   by_cases h94 : pkV (blP (adv p hk)).1 = 94
   ·rw [dif_pos h94, dif_pos (e.trans h94)]
    exact grpL_tru hT hR hB _ _ (rb.adv hc _ (rb.lt hc)) (by show p.1.s.size < p.1.s.size + 1 + _; omega) (by show A < p'.1.s.size + 1 + _; omega)
   ·rw [dif_neg h94, dif_neg (by rw [e]; exact h94)]
    exact grpL_tru hT hR hB _ _ rb (by show p.1.s.size < p.1.s.size + 1 + _; omega) (by show A < p'.1.s.size + 1 + _; omega)
  ·have rb := ra.bl (Nat.le_of_eq hc)
   rw [dif_neg (show ¬ pkV (blP (adv p' (h.lt hkA))).1 = 94 by rw [rb.pkE hc]; decide)]
   refine ⟨fun L q hr hq => ?_, fun q _ => ?_⟩
   ·exfalso
    split at hr
    ·have := (grpL_k hR _ hr).2
     have := blP_le (adv (blP (adv p hk)) (pk_eq (by assumption) (by decide)).1)
     have : (blP (adv p hk)).1.k + 1 ≤ _ := this
     omega
    ·have := (grpL_k hR _ hr).2
     have := blP_le (blP (adv p hk))
     omega
   ·refine grpL_tend (f := p'.1.s.size) rb ?_
    rw [blP_idem]
    exact hc
  ·refine ⟨fun L q hr hq => ?_, fun q hr => ?_⟩
   ·exfalso
    split at hr
    ·have := (grpL_k hR _ hr).2
     have := blP_le (adv (blP (adv p hk)) (pk_eq (by assumption) (by decide)).1)
     have : (blP (adv p hk)).1.k + 1 ≤ _ := this
     omega
    ·have := (grpL_k hR _ hr).2
     have := blP_le (blP (adv p hk))
     omega
   ·exfalso
    split at hr
    ·have := (grpL_badI hR hB _ (by show p.1.s.size < p.1.s.size + 1 + _; omega) hr).ge rfl
     have := blP_le (adv (blP (adv p hk)) (pk_eq (by assumption) (by decide)).1)
     have : (blP (adv p hk)).1.k + 1 ≤ _ := this
     omega
    ·have := (grpL_badI hR hB _ (by show p.1.s.size < p.1.s.size + 1 + _; omega) hr).ge rfl
     have := blP_le (blP (adv p hk))
     omega
end Go.Proofs
