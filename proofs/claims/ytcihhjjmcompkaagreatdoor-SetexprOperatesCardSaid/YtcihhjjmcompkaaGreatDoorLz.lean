import Derived.Test.YtcihhjjmcompkaaGreatDoorX1
set_option linter.unusedVariables false
set_option linter.unusedSimpArgs false
namespace Go.Proofs
open Go Go.Sx
variable {mx : Int} {pb : Bool}
structure Emb (o : Nat) (s s' : ByteArray) : Prop where
  sz : s.size + o ≤ s'.size
  b : ∀ i, i < s.size → bAt s' (i + o) = bAt s i
structure Rl (o : Nat) (p p' : PX) : Prop where
  e : Emb o p.1.s p'.1.s
  db : p'.1.db = p.1.db
  k : p'.1.k = p.1.k + o
theorem Rl.lt {o : Nat} {p p' : PX} (h : Rl o p p') (hk : p.1.k < p.1.s.size) : p'.1.k < p'.1.s.size := by
  have h1 := h.e.sz
  have h2 := h.k
  omega
theorem Rl.pk {o : Nat} {p p' : PX} (h : Rl o p p') (hk : p.1.k < p.1.s.size) : pkV p'.1 = pkV p.1 := by
  rw [pkV_lt hk, pkV_lt (h.lt hk), h.k, h.e.b _ hk]
theorem Rl.adv {o : Nat} {p p' : PX} (h : Rl o p p') (hk : p.1.k < p.1.s.size) (hk' : p'.1.k < p'.1.s.size) : Rl o (adv p hk) (adv p' hk') :=
  ⟨h.e, h.db, (by have := h.k; show p'.1.k + 1 = p.1.k + 1 + o; omega)⟩
theorem Rl.ckd {o : Nat} {p p' : PX} (h : Rl o p p') : Rl o (ckd p) (ckd p') := ⟨h.e, h.db, h.k⟩
theorem blk_emb {o : Nat} {s s' : ByteArray} (h : Emb o s s') : ∀ (n k : Nat), s.size - k = n → k ≤ s.size → blk s k < s.size → blk s' (k + o) = blk s k + o
  | 0, k, hn, hk, hb => by
    rw [blk_stop (s := s) (k := k) (fun hh => by omega)] at hb ⊢
    exact absurd hb (by omega)
  | n + 1, k, hn, hk, hb => by
    have hlt : k < s.size := by omega
    by_cases h32 : bAt s k = 32
    · rw [← blk_step hlt h32] at hb ⊢
      have e : bAt s' (k + o) = 32 := (h.b k hlt).trans h32
      rw [← blk_step (s := s') (k := k + o) (by have := h.sz; omega) e, show k + o + 1 = k + 1 + o by omega]
      exact blk_emb h n (k + 1) (by omega) hlt hb
    · rw [blk_stop (fun hh => h32 hh.2), blk_stop (fun hh => h32 ((h.b k hlt).symm.trans hh.2))]
theorem blk_emb2 {o : Nat} {s s' : ByteArray} (h : Emb o s s') : ∀ (n k : Nat), s.size - k = n → k ≤ s.size → blk s k = s.size → blk s' (k + o) = blk s' (s.size + o)
  | 0, k, hn, hk, hb => by rw [show k = s.size by omega]
  | n + 1, k, hn, hk, hb => by
    have hlt : k < s.size := by omega
    by_cases h32 : bAt s k = 32
    · rw [← blk_step hlt h32] at hb
      have e : bAt s' (k + o) = 32 := (h.b k hlt).trans h32
      rw [← blk_step (s := s') (k := k + o) (by have := h.sz; omega) e, show k + o + 1 = k + 1 + o by omega]
      exact blk_emb2 h n (k + 1) (by omega) hlt hb
    · rw [blk_stop (fun hh => h32 hh.2)] at hb
      omega
theorem Rl.bl {o : Nat} {p p' : PX} (h : Rl o p p') (hk : (blP p).1.k < p.1.s.size) : Rl o (blP p) (blP p') :=
  ⟨h.e, h.db, (by show blk p'.1.s p'.1.k = blk p.1.s p.1.k + o; rw [h.k]; exact blk_emb h.e _ _ rfl p.2.2.1 hk)⟩
theorem exp_emb {o : Nat} {p p' : PX} {b : Int} {d : D} {q : PX} (h : Rl o p p') (hr : runExp p b = .ok d q) : ∃ q', runExp p' b = .ok d q' ∧ Rl o q q' := by
  unfold runExp at hr
  split at hr
  · rename_i hk
    simp at hr
    obtain ⟨rfl, rfl⟩ := hr
    exact ⟨_, dif_pos ⟨h.lt hk.1, (h.pk hk.1).trans hk.2⟩, h.adv hk.1 (h.lt hk.1)⟩
  · simp at hr
theorem digR_emb {o : Nat} : ∀ (f : Nat) {p p' : PX} {c : Int} {n : Nat} {d : D} {r : PX}, Rl o p p' → digR f p c n = .ok d r → r.1.k < r.1.s.size → ∃ r', digR f p' c n = .ok d r' ∧ Rl o r r'
  | 0, p, p', c, n, d, r, _, hr, _ => by simp [digR] at hr
  | f + 1, p, p', c, n, d, r, h, hr, hlt => by
    rw [digR] at hr ⊢
    split at hr
    · rename_i hd
      rw [dif_pos (show p'.1.k < p'.1.s.size ∧ isDg (pkV p'.1) from ⟨h.lt hd.1, by rw [h.pk hd.1]; exact hd.2⟩), show dgI (pkV p'.1) = dgI (pkV p.1) from by rw [h.pk hd.1]]
      split at hr
      · simp at hr
      · rename_i hb
        rw [if_neg hb]
        exact digR_emb f (h.adv hd.1 (h.lt hd.1)) hr hlt
    · rename_i hd
      split at hr
      · simp at hr
      · rename_i hn
        simp at hr
        obtain ⟨rfl, rfl⟩ := hr
        rw [dif_neg (show ¬ (p'.1.k < p'.1.s.size ∧ isDg (pkV p'.1)) from fun hh => hd ⟨hlt, by rw [← h.pk hlt]; exact hh.2⟩), if_neg hn]
        exact ⟨_, rfl, h⟩
theorem esc_emb {o : Nat} {p p' : PX} {d : D} {q : PX} (h : Rl o p p') (hr : runEsc p () = .ok d q) : ∃ q', runEsc p' () = .ok d q' ∧ Rl o q q' := by
  unfold runEsc at hr
  split at hr
  · rename_i h117
    obtain ⟨hk, _⟩ := pk_eq h117 (by decide)
    have h117' : pkV p'.1 = 117 := (h.pk hk).trans h117
    split at hr
    · rename_i d1 q1 he
      split at hr
      · rename_i c r hd
        split at hr
        · rename_i d2 t hf
          simp at hr
          obtain ⟨rfl, rfl⟩ := hr
          obtain ⟨q1', e1, r1⟩ := exp_emb (h.adv hk (h.lt hk)) he
          obtain ⟨k3, _, _⟩ := runExp_ok hf
          obtain ⟨r', e2, r2⟩ := digR_emb 7 r1 hd k3
          obtain ⟨t', e3, r3⟩ := exp_emb r2 hf
          refine ⟨t', ?_, r3⟩
          unfold runEsc
          rw [dif_pos h117', e1]
          dsimp only
          rw [show runDig q1' () = .ok c r' from e2]
          dsimp only
          rw [e3]
        · simp at hr
      · simp at hr
    · simp at hr
  · rename_i h117
    split at hr
    · rename_i hk
      simp at hr
      obtain ⟨rfl, rfl⟩ := hr
      have e := h.pk hk.1
      unfold runEsc
      rw [dif_neg (show ¬ pkV p'.1 = 117 by rw [e]; exact h117), dif_pos (show p'.1.k < p'.1.s.size ∧ (pkV p'.1 = 32 ∨ 0 ≤ spI (pkV p'.1)) by rw [e]; exact ⟨h.lt hk.1, hk.2⟩)]
      exact ⟨adv p' (h.lt hk.1), congrArg (fun z => OutP.ok (D.v (.int .i64 z)) (adv p' (h.lt hk.1))) e, h.adv hk.1 (h.lt hk.1)⟩
    · simp at hr
theorem chr_emb {o : Nat} {p p' : PX} {d : D} {q : PX} (h : Rl o p p') (hr : runChr p () = .ok d q) : ∃ q', runChr p' () = .ok d q' ∧ Rl o q q' := by
  unfold runChr at hr
  split at hr
  · rename_i h92
    obtain ⟨hk, _⟩ := pk_eq h92 (by decide)
    have h92' : pkV p'.1 = 92 := (h.pk hk).trans h92
    obtain ⟨q', e, r⟩ := esc_emb (h.adv hk (h.lt hk)) hr
    exact ⟨q', (dif_pos h92').trans e, r⟩
  · rename_i h92
    split at hr
    · rename_i hk
      simp at hr
      obtain ⟨rfl, rfl⟩ := hr
      have e := h.pk hk.1
      unfold runChr
      rw [dif_neg (show ¬ pkV p'.1 = 92 by rw [e]; exact h92), dif_pos (show p'.1.k < p'.1.s.size ∧ 33 ≤ pkV p'.1 ∧ pkV p'.1 ≤ 126 ∧ spI (pkV p'.1) < 0 by rw [e]; exact ⟨h.lt hk.1, hk.2⟩)]
      exact ⟨adv p' (h.lt hk.1), congrArg (fun z => OutP.ok (D.v (.int .i64 z)) (adv p' (h.lt hk.1))) e, h.adv hk.1 (h.lt hk.1)⟩
    · simp at hr
theorem pre2_emb {o : Nat} {p p' : PX} (h : Rl o p p') (a b : Int) (hk : p.1.k + 1 < p.1.s.size) : pre2 p'.1 a b = pre2 p.1 a b := by
  have h1 := h.k
  have h2 := h.e.sz
  have h3 := h.e.b p.1.k (by omega)
  have h4 := h.e.b (p.1.k + 1) hk
  unfold pre2
  rw [h1, h3, show p.1.k + o + 1 = p.1.k + 1 + o by omega, h4]
  rw [decide_eq_decide]
  constructor
  · rintro ⟨_, h5⟩; exact ⟨hk, h5⟩
  · rintro ⟨_, h5⟩; exact ⟨by omega, h5⟩
theorem pre2_no {p : PX} {a b : Int} (h : ¬ pkV p.1 = a) : pre2 p.1 a b = false := by
  unfold pre2
  refine decide_eq_false fun hh => h ?_
  rw [pkV_lt (by omega)]; exact hh.2.1
def c91 (s : ByteArray) : Nat → Nat
  | 0 => 0
  | k + 1 => c91 s k + (if bAt s k = 91 then 1 else 0)
theorem c91_mono {s : ByteArray} {k : Nat} : ∀ {j : Nat}, k ≤ j → c91 s k ≤ c91 s j
  | 0, h => by rw [Nat.le_zero.1 h]; exact Nat.le_refl _
  | j + 1, h => by
    rcases Nat.lt_or_ge j k with h1 | h1
    · rw [show k = j + 1 by omega]; exact Nat.le_refl _
    · have := c91_mono (s := s) h1
      show _ ≤ _ + _
      omega
theorem c91_one {s : ByteArray} {k j : Nat} (hb : bAt s k = 91) (h : k < j) : c91 s k + 1 ≤ c91 s j := by
  have h1 := c91_mono (s := s) (show k + 1 ≤ j from h)
  have h2 : c91 s (k + 1) = c91 s k + 1 := by show c91 s k + _ = _; rw [if_pos hb]
  omega
theorem cls_none {p q : PX} {L : List Rg} (hu : usB p.1.db = false) : ¬ runCls p = .ok L q := by
  intro h
  have nf : ∀ {r : PX} {x : List ByteArray × ByteArray × Int} {d : D} {t : PX}, r.1.db = p.1.db → ¬ runFnd r x = .ok d t := by
    intro r x d t hr hh
    unfold runFnd at hh
    rw [if_neg (by rw [hr, hu]; rintro ⟨h1, _⟩; exact Bool.noConfusion h1)] at hh
    simp at hh
  unfold runCls at h
  split at h
  · split at h
    · simp at h
    · rename_i h1
      split at h
      · simp at h
      · rename_i h2
        have m := ((Moved.adv p (by assumption)).trans (runExp_k h1).1).trans (runExp_k h2).1
        unfold clsN at h
        split at h
        · simp at h
        · rename_i hw
          have m := m.trans (runWrd_k hw)
          split at h
          · unfold clsV at h
            split at h
            · simp at h
            · rename_i hf
              exact nf (m.trans (Moved.adv _ _)).db hf
          · unfold clsS at h
            split at h
            · simp at h
            · rename_i he
              split at h
              · simp at h
              · rename_i hf
                exact nf (m.trans (runExp_k he).1).db hf
  · simp at h
theorem itm_emb {o : Nat} {p p' : PX} {L : List Rg} {q : PX} (hu : usB p.1.db = false) (h : Rl o p p') (hr : runItm p = .ok L q) (hq : q.1.k < p.1.s.size) : ∃ q', runItm p' = .ok L q' ∧ Rl o q q' := by
  have hk : p.1.k < p.1.s.size := by have := (runItm_went hr).k; omega
  have hw := runItm_went hr
  unfold runItm at hr
  split at hr
  · exact absurd hr (cls_none hu)
  · rename_i hp
    split at hr
    · simp at hr
    · rename_i d q1 hc
      obtain ⟨q1', e1, r1⟩ := chr_emb h hc
      have m1 := (runChr_k hc).1
      have hp' : ¬ pre2 p'.1 92 112 = true := by
        by_cases h2 : p.1.k + 1 < p.1.s.size
        · rw [pre2_emb h _ _ h2]; exact hp
        · by_cases h92 : pkV p.1 = 92
          · exfalso
            have hc' := hc
            unfold runChr at hc'
            rw [dif_pos h92] at hc'
            have hnone : pkV (adv p hk).1 = -1 := pkV_ge (by show ¬ p.1.k + 1 < p.1.s.size; exact h2)
            unfold runEsc at hc'
            rw [dif_neg (show ¬ pkV (adv p (pk_eq h92 (by decide)).1).1 = 117 by rw [hnone]; decide), dif_neg (fun hh => h2 hh.1)] at hc'
            simp at hc'
          · rw [pre2_no (by rw [h.pk hk]; exact h92)]; decide
      unfold runItm
      rw [if_neg hp', e1]
      dsimp only
      unfold itmC at hr
      split at hr
      · rename_i h45
        obtain ⟨k45, _⟩ := pk_eq h45.1 (by decide)
        have k45' : (blP q1).1.k < p.1.s.size := by rw [← m1.s]; exact k45
        unfold itmP at hr
        split at hr
        · simp at hr
        · rename_i d2 r hc2
          have rb := r1.bl k45
          have mr := runChr_k hc2
          have kb : (blP (adv (blP q1) k45)).1.k < (adv (blP q1) k45).1.s.size := Nat.lt_of_lt_of_le mr.2.1 (by have := r.2.2.1; have e := mr.1.s; rw [e] at this; exact this)
          have kb1 : (blP q1).1.k + 1 < (blP q1).1.s.size := by
            have h1 := (blP_le (adv (blP q1) k45))
            have h2 : (blP q1).1.k + 1 ≤ (blP (adv (blP q1) k45)).1.k := h1
            have h3 : (blP (adv (blP q1) k45)).1.k < (blP q1).1.s.size := kb
            omega
          have rc := (rb.adv k45 (rb.lt k45)).bl kb
          obtain ⟨r', e2, rr⟩ := chr_emb rc hc2
          have h45' : pkV (blP q1').1 = 45 ∧ pre2 (blP q1').1 45 45 = false := ⟨(rb.pk k45).trans h45.1, by rw [pre2_emb rb _ _ kb1]; exact h45.2⟩
          unfold itmC
          rw [dif_pos h45']
          unfold itmP
          rw [e2]
          dsimp only
          split at hr
          · simp at hr
          · rename_i hlt
            simp at hr
            obtain ⟨rfl, rfl⟩ := hr
            rw [if_neg hlt]
            exact ⟨r', rfl, rr⟩
      · rename_i h45
        simp at hr
        obtain ⟨rfl, rfl⟩ := hr
        have hq' : (blP q1).1.k < q1.1.s.size := by rw [m1.s]; exact hq
        have rb := r1.bl hq'
        unfold itmC
        refine ⟨_, dif_neg (fun hh => h45 ?_), rb⟩
        have h1 : pkV (blP q1).1 = 45 := (rb.pk hq').symm.trans hh.1
        refine ⟨h1, ?_⟩
        by_cases h2 : (blP q1).1.k + 1 < (blP q1).1.s.size
        · rw [← pre2_emb rb _ _ h2]; exact hh.2
        · unfold pre2
          exact decide_eq_false fun h3 => h2 h3.1
end Go.Proofs
namespace Go.Proofs
open Go Go.Sx
variable {mx : Int} {pb : Bool}
def RunE (o m : Nat) (run run' : PX → OutL) : Prop := ∀ p p' L q, usB p.1.db = false → Rl o p p' → pkV p.1 = 91 → run p = .ok L q → c91 p.1.s q.1.k ≤ c91 p.1.s p.1.k + m → ∃ q', run' p' = .ok L q' ∧ Rl o q q'
theorem Went.mv {p q : PX} {L : List Rg} (h : Went p L q) : Moved p q := ⟨h.s, h.db, Nat.le_of_lt h.k⟩
theorem opd_emb {o m : Nat} {run run' : PX → OutL} (hE : RunE o m run run') {p p' : PX} {L : List Rg} {q : PX} (hu : usB p.1.db = false) (h : Rl o p p') (hr : runOpd run p = .ok L q) (hc : c91 p.1.s q.1.k ≤ c91 p.1.s p.1.k + m) : ∃ q', runOpd run' p' = .ok L q' ∧ Rl o q q' := by
  unfold runOpd at hr
  split at hr
  · rename_i h91
    obtain ⟨q', e, r⟩ := hE p p' L q hu h h91 hr hc
    exact ⟨q', (if_pos ((h.pk (pk_eq h91 (by decide)).1).trans h91)).trans e, r⟩
  · split at hr
    · exact absurd hr (cls_none hu)
    · simp at hr
theorem grpL_k {run : PX → OutL} (hr : RunOk run) {neg : Bool} : ∀ (f : Nat) {p q : PX} {S I L : List Rg}, grpL run neg f p S I = .ok L q → Moved p q ∧ (blP p).1.k < q.1.k
  | 0, p, q, S, I, L, h => by simp [grpL] at h
  | f + 1, p, q, S, I, L, h => by
    rw [grpL] at h
    split at h
    · rename_i h93
      simp at h
      obtain ⟨rfl, rfl⟩ := h
      exact ⟨(Moved.bl p).trans (Moved.adv _ _), Nat.lt_succ_self _⟩
    · split at h
      · split at h
        · split at h
          · simp at h
          · rename_i h45 h45b _ L1 q1 he
            have g := grpL_k hr f h
            have w := runOpd_went hr he
            have m1 := (Moved.bl p).trans ((Moved.adv _ _).trans ((Moved.adv _ _).trans ((Moved.bl _).trans w.mv)))
            refine ⟨m1.trans g.1, ?_⟩
            have h1 := g.1.k
            have h2 := ((Moved.adv (blP p) (pk_eq h45 (by decide)).1).trans ((Moved.adv _ (pk_eq h45b (by decide)).1).trans (Moved.bl _))).k
            have h3 := w.k
            omega
        · simp at h
      · split at h
        · split at h
          · simp at h
          · rename_i h38 _ L1 q1 he
            have g := grpL_k hr f h
            have w := runOpd_went hr he
            refine ⟨((Moved.bl p).trans ((Moved.adv _ _).trans ((Moved.bl _).trans w.mv))).trans g.1, ?_⟩
            have h1 := g.1.k
            have h2 := ((Moved.adv (blP p) (pk_eq h38 (by decide)).1).trans (Moved.bl _)).k
            have h3 := w.k
            omega
        · split at h
          · rename_i h91
            split at h
            · simp at h
            · rename_i he
              have g := grpL_k hr f h
              have w := hr _ _ _ h91 he
              exact ⟨((Moved.bl p).trans w.mv).trans g.1, Nat.lt_of_lt_of_le w.k g.1.k⟩
          · split at h
            · simp at h
            · rename_i he
              have g := grpL_k hr f h
              have w := runItm_went he
              exact ⟨((Moved.bl p).trans w.mv).trans g.1, Nat.lt_of_lt_of_le w.k g.1.k⟩
theorem Moved.kle {p q : PX} (h : Moved p q) : q.1.k ≤ p.1.s.size := by rw [← h.s]; exact q.2.2.1
theorem grpL_emb {o m : Nat} {run run' : PX → OutL} (hR : RunOk run) (hE : RunE o m run run') {neg : Bool} : ∀ (f f' : Nat) {p p' : PX} {S I L : List Rg} {q : PX}, f ≤ f' → usB p.1.db = false → Rl o p p' → grpL run neg f p S I = .ok L q → c91 p.1.s q.1.k ≤ c91 p.1.s p.1.k + m → ∃ q', grpL run' neg f' p' S I = .ok L q' ∧ Rl o q q'
  | 0, f', p, p', S, I, L, q, _, _, _, h, _ => by simp [grpL] at h
  | f + 1, 0, p, p', S, I, L, q, hf, _, _, _, _ => by omega
  | f + 1, f' + 1, p, p', S, I, L, q, hf, hu, h, hr, hc => by
    obtain ⟨gm, gk⟩ := grpL_k hR _ hr
    have kb : (blP p).1.k < p.1.s.size := Nat.lt_of_lt_of_le gk gm.kle
    have rb := h.bl kb
    have eb := rb.pk kb
    have hcb := c91_mono (s := p.1.s) (blP_le p)
    rw [grpL] at hr
    rw [grpL]
    split at hr
    · rename_i h93
      simp at hr
      obtain ⟨rfl, rfl⟩ := hr
      rw [dif_pos (eb.trans h93)]
      exact ⟨_, rfl, rb.adv kb _⟩
    · rename_i h93
      rw [dif_neg (show ¬ pkV (blP p').1 = 93 by rw [eb]; exact h93)]
      split at hr
      · rename_i h45
        rw [dif_pos (eb.trans h45)]
        split at hr
        · rename_i h45b
          obtain ⟨k2, _⟩ := pk_eq h45b (by decide)
          have ra := rb.adv kb (rb.lt kb)
          have ea : pkV (adv (blP p') (rb.lt kb)).1 = 45 := (ra.pk k2).trans h45b
          rw [dif_pos ea]
          split at hr
          · simp at hr
          · rename_i L1 q1 he
            have w := runOpd_went hR he
            have g2 := grpL_k hR _ hr
            have rc := (ra.adv k2 (ra.lt k2)).bl (Nat.lt_of_lt_of_le w.k w.mv.kle)
            have h1 := c91_mono (s := p.1.s) ((Moved.adv (blP p) kb).trans ((Moved.adv _ k2).trans (Moved.bl _))).k
            have h2 := c91_mono (s := p.1.s) g2.1.k
            have h3 := c91_mono (s := p.1.s) w.mv.k
            have hs1 : q1.1.s = p.1.s := w.s
            have hd1 : q1.1.db = p.1.db := w.db
            obtain ⟨q1', e1, r1⟩ := opd_emb hE (p := blP (adv (adv (blP p) kb) k2)) hu rc he (by show c91 p.1.s _ ≤ c91 p.1.s _ + m; omega)
            have e1 : runOpd run' (blP (adv (adv (blP p') (rb.lt kb)) (ra.lt k2))) = .ok L1 q1' := e1
            rw [e1]
            exact grpL_emb hR hE f f' (by omega) (by rw [hd1]; exact hu) r1 hr (by rw [hs1]; omega)
        · simp at hr
      · rename_i h45
        rw [dif_neg (show ¬ pkV (blP p').1 = 45 by rw [eb]; exact h45)]
        split at hr
        · rename_i h38
          rw [dif_pos (eb.trans h38)]
          split at hr
          · simp at hr
          · rename_i L1 q1 he
            have w := runOpd_went hR he
            have g2 := grpL_k hR _ hr
            have ra := rb.adv kb (rb.lt kb)
            have rc := ra.bl (Nat.lt_of_lt_of_le w.k w.mv.kle)
            have h1 := c91_mono (s := p.1.s) ((Moved.adv (blP p) kb).trans (Moved.bl _)).k
            have h2 := c91_mono (s := p.1.s) g2.1.k
            have h3 := c91_mono (s := p.1.s) w.mv.k
            have hs1 : q1.1.s = p.1.s := w.s
            have hd1 : q1.1.db = p.1.db := w.db
            obtain ⟨q1', e1, r1⟩ := opd_emb hE (p := blP (adv (blP p) kb)) hu rc he (by show c91 p.1.s _ ≤ c91 p.1.s _ + m; omega)
            have e1 : runOpd run' (blP (adv (blP p') (rb.lt kb))) = .ok L1 q1' := e1
            rw [e1]
            exact grpL_emb hR hE f f' (by omega) (by rw [hd1]; exact hu) r1 hr (by rw [hs1]; omega)
        · rename_i h38
          rw [dif_neg (show ¬ pkV (blP p').1 = 38 by rw [eb]; exact h38)]
          split at hr
          · rename_i h91
            rw [if_pos (eb.trans h91)]
            split at hr
            · simp at hr
            · rename_i L1 q1 he
              have w := hR _ _ _ h91 he
              have g2 := grpL_k hR _ hr
              have h2 := c91_mono (s := p.1.s) g2.1.k
              have h3 := c91_mono (s := p.1.s) w.mv.k
              have hs1 : q1.1.s = p.1.s := w.s
              have hd1 : q1.1.db = p.1.db := w.db
              obtain ⟨q1', e1, r1⟩ := hE (blP p) (blP p') L1 q1 hu rb h91 he (by show c91 p.1.s _ ≤ c91 p.1.s _ + m; omega)
              rw [e1]
              exact grpL_emb hR hE f f' (by omega) (by rw [hd1]; exact hu) r1 hr (by rw [hs1]; omega)
          · rename_i h91
            rw [if_neg (show ¬ pkV (blP p').1 = 91 by rw [eb]; exact h91)]
            split at hr
            · simp at hr
            · rename_i L1 q1 he
              have w := runItm_went he
              have g2 := grpL_k hR _ hr
              have h2 := c91_mono (s := p.1.s) g2.1.k
              have h3 := c91_mono (s := p.1.s) w.mv.k
              have hs1 : q1.1.s = p.1.s := w.s
              have hd1 : q1.1.db = p.1.db := w.db
              have hlt : q1.1.k < p.1.s.size := by
                have h4 := blP_le q1
                have h5 := g2.1.kle
                rw [hs1] at h5
                have h6 := g2.2
                omega
              obtain ⟨q1', e1, r1⟩ := itm_emb (p := blP p) hu rb he hlt
              rw [e1]
              exact grpL_emb hR hE f f' (by omega) (by rw [hd1]; exact hu) r1 hr (by rw [hs1]; omega)
theorem runGrp_emb {o : Nat} : ∀ n m, RunE o m (runGrp n) (runGrp m)
  | 0, m => fun p p' L q _ _ _ h _ => by simp [runGrp] at h
  | n + 1, 0 => fun p p' L q _ _ h91 h hc => by
    have w := runGrp_went (n + 1) _ _ _ h91 h
    have := c91_one (pk_eq h91 (by decide)).2 w.k
    omega
  | n + 1, m + 1 => fun p p' L q hu h h91 hr hc => by
    have hb := (pk_eq h91 (by decide)).2
    have hE := runGrp_emb (o := o) n m
    have hR := runGrp_went n
    have e1 : c91 p.1.s (p.1.k + 1) = c91 p.1.s p.1.k + 1 := by show c91 p.1.s p.1.k + _ = _; rw [if_pos hb]
    have hsz := h.e.sz
    rw [runGrp] at hr
    rw [runGrp]
    split at hr
    · rename_i hk
      rw [dif_pos (h.lt hk)]
      have ra := h.adv hk (h.lt hk)
      split at hr
      · rename_i h94
        obtain ⟨k94, _⟩ := pk_eq h94 (by decide)
        have rb := ra.bl k94
        rw [dif_pos ((rb.pk k94).trans h94)]
        have h1 := c91_mono (s := p.1.s) (Moved.adv (blP (adv p hk)) k94).k
        have h2 := c91_mono (s := p.1.s) (blP_le (adv p hk))
        have h2 : c91 p.1.s (p.1.k + 1) ≤ _ := h2
        exact grpL_emb (p := adv (blP (adv p hk)) k94) hR hE (p.1.s.size + 1) (p'.1.s.size + 1) (by omega) hu (rb.adv k94 (rb.lt k94)) hr (by show c91 p.1.s _ ≤ c91 p.1.s _ + m; omega)
      · rename_i h94
        have g := grpL_k hR _ hr
        have k0 : (blP (adv p hk)).1.k < p.1.s.size := Nat.lt_of_le_of_lt (blP_le _) (Nat.lt_of_lt_of_le g.2 g.1.kle)
        have rb := ra.bl k0
        rw [dif_neg (show ¬ pkV (blP (adv p' (h.lt hk))).1 = 94 by rw [rb.pk k0]; exact h94)]
        have h2 := c91_mono (s := p.1.s) (blP_le (adv p hk))
        have h2 : c91 p.1.s (p.1.k + 1) ≤ _ := h2
        exact grpL_emb (p := blP (adv p hk)) hR hE (p.1.s.size + 1) (p'.1.s.size + 1) (by omega) hu rb hr (by show c91 p.1.s _ ≤ c91 p.1.s _ + m; omega)
    · simp at hr
end Go.Proofs
namespace Go.Proofs
open Go Go.Sx
variable {mx : Int} {pb : Bool}
theorem Went.mv' {p q : PX} {L : List Rg} (h : Went p L q) : Moved p q := ⟨h.s, h.db, Nat.le_of_lt h.k⟩
def OkS (d : Db) (s : ByteArray) : Prop := SmD d ∧ s.size ≤ 65536
def pst0 (d : Db) (s : ByteArray) (h : OkS d s) : PX := ⟨⟨d, false, false, s, 0⟩, ⟨h.1, fun hh => Bool.noConfusion hh⟩, Nat.zero_le _, h.2⟩
noncomputable def prsE (p q : PX) (L : List Rg) : List Rg × Int × Int := if (blP q).1.k < p.1.s.size then ([], 3, (blP q).1.k) else (L, 0, 0)
noncomputable def prsP (p : PX) : List Rg × Int × Int :=
  if pkV (blP p).1 = 91 then
    match runGrp 17 (blP p) with
    | .bad e a _ => ([], e, a)
    | .ok L q => prsE p q L
  else ([], 3, (blP p).1.k)
open Classical in
noncomputable def prs (d : Db) (s : ByteArray) : List Rg × Int × Int := if h : OkS d s then prsP (pst0 d s h) else ([], 2, 0)
theorem prs_at {d : Db} {s : ByteArray} (h : OkS d s) : prs d s = prsP (pst0 d s h) := dif_pos h
structure Whole (d : Db) (s : ByteArray) (h : OkS d s) (L : List Rg) (q : PX) : Prop where
  b : pkV (blP (pst0 d s h)).1 = 91
  r : runGrp 17 (blP (pst0 d s h)) = .ok L q
  e : (blP q).1.k = s.size
  w : Went (blP (pst0 d s h)) L q
theorem whole_prs {d : Db} {s : ByteArray} {h : OkS d s} {L : List Rg} {q : PX} (w : Whole d s h L q) : prs d s = (L, 0, 0) := by
  rw [prs_at h]
  unfold prsP
  rw [if_pos w.b, w.r]
  dsimp only
  unfold prsE
  rw [if_neg]
  show ¬ _ < s.size
  rw [w.e]
  omega
theorem blP_id {p : PX} (h : ¬ (p.1.k < p.1.s.size ∧ bAt p.1.s p.1.k = 32)) : blP p = p := by
  obtain ⟨⟨db, ch, us, s, k⟩, hp⟩ := p
  unfold blP goTo
  congr 1
  exact congrArg (PSt.mk db ch us s) (blk_stop h)
theorem pk_of {p : PX} {b : Int} (h : p.1.k < p.1.s.size) (hb : bAt p.1.s p.1.k = b) : pkV p.1 = b := (pkV_lt h).trans hb
def BadI (p : PX) (e a : Int) : Prop := (e = 3 ∧ (p.1.k : Int) ≤ a ∧ a ≤ p.1.s.size) ∨ (e = 6 ∧ 0 ≤ a ∧ a < p.1.s.size) ∨ (e = 13 ∧ 0 ≤ a ∧ a < p.1.s.size ∧ bAt p.1.s a.toNat = 91)
theorem BadI.mv {p q : PX} {e a : Int} (m : Moved p q) (h : BadI q e a) : BadI p e a := by
  unfold BadI at h ⊢
  rw [m.s] at h
  have := m.k
  rcases h with ⟨h1, h2, h3⟩ | h | h
  · exact .inl ⟨h1, by omega, h3⟩
  · exact .inr (.inl h)
  · exact .inr (.inr h)
theorem BadI.here (p : PX) : BadI p 3 p.1.k := .inl ⟨rfl, Int.le_refl _, by have := p.2.2.1; omega⟩
theorem BadI.code {p : PX} {e a : Int} (h : BadI p e a) : e ≠ 0 := by
  rcases h with h | h | h <;> omega
theorem exp_bad {p : PX} {b e a : Int} {q : PX} (h : runExp p b = .bad e a q) : e = 3 ∧ a = p.1.k := by
  unfold runExp at h
  split at h
  · simp at h
  · simp at h; exact ⟨h.1.symm, h.2.1.symm⟩
theorem exp_badI {p : PX} {b e a : Int} {q : PX} (h : runExp p b = .bad e a q) : BadI p e a := by
  obtain ⟨rfl, rfl⟩ := exp_bad h
  exact BadI.here p
theorem dig_badI : ∀ (f : Nat) {p : PX} {c : Int} {n : Nat} {e a : Int} {r : PX}, digR f p c n = .bad e a r → BadI p e a
  | 0, p, c, n, e, a, r, h => by simp [digR] at h; obtain ⟨rfl, rfl, _⟩ := h; exact BadI.here p
  | f + 1, p, c, n, e, a, r, h => by
    rw [digR] at h
    split at h
    · split at h
      · simp at h; obtain ⟨rfl, rfl, _⟩ := h; exact BadI.here p
      · exact (dig_badI f h).mv (Moved.adv _ _)
    · split at h
      · simp at h; obtain ⟨rfl, rfl, _⟩ := h; exact BadI.here p
      · simp at h
theorem esc_badI {p : PX} {e a : Int} {q : PX} (h : runEsc p () = .bad e a q) : BadI p e a := by
  unfold runEsc at h
  split at h
  · refine BadI.mv (Moved.adv p (pk_eq (by assumption) (by decide)).1) ?_
    split at h
    · rename_i he
      refine BadI.mv (runExp_k he).1 ?_
      split at h
      · rename_i hd
        refine BadI.mv (digR_k 7 hd) ?_
        split at h
        · simp at h
        · rename_i hf
          simp at h
          obtain ⟨rfl, rfl, _⟩ := h
          exact exp_badI hf
      · rename_i hf
        simp at h
        obtain ⟨rfl, rfl, _⟩ := h
        exact dig_badI 7 hf
    · rename_i hf
      simp at h
      obtain ⟨rfl, rfl, _⟩ := h
      exact exp_badI hf
  · split at h
    · simp at h
    · simp at h; obtain ⟨rfl, rfl, _⟩ := h; exact BadI.here p
theorem chr_badI {p : PX} {e a : Int} {q : PX} (h : runChr p () = .bad e a q) : BadI p e a := by
  unfold runChr at h
  split at h
  · exact (esc_badI h).mv (Moved.adv _ _)
  · split at h
    · simp at h
    · simp at h; obtain ⟨rfl, rfl, _⟩ := h; exact BadI.here p
theorem wrd_badI {p : PX} {e a : Int} {q : PX} (h : runWrd p () = .bad e a q) : BadI p e a := by
  unfold runWrd at h
  split at h
  · simp at h; obtain ⟨rfl, rfl, _⟩ := h; exact BadI.here p
  · simp at h
theorem fnd_bad {p : PX} {x : List ByteArray × ByteArray × Int} {e a : Int} {q : PX} (h : runFnd p x = .bad e a q) : e = 6 ∧ a = x.2.2 ∧ q = ckd p := by
  unfold runFnd at h
  split at h
  · simp at h
  · simp at h; exact ⟨h.1.symm, h.2.1.symm, h.2.2.symm⟩
def InS (p : PX) (st : Int) : Prop := 0 ≤ st ∧ st < p.1.s.size
theorem InS.badI {p : PX} {st : Int} (h : InS p st) : BadI p 6 st := .inr (.inl ⟨rfl, h⟩)
theorem InS.mv {p q : PX} {st : Int} (m : Moved p q) (h : InS p st) : InS q st := by unfold InS at h ⊢; rw [m.s]; exact h
theorem wrd_in {p : PX} {d : D} {q : PX} (h : runWrd p () = .ok d q) : InS p (dN d) := by
  obtain ⟨h1, _, rfl⟩ := runWrd_ok h
  have h2 := wdF_le (s := p.1.s) (p.1.s.size - p.1.k) p.1.k p.2.2.1
  have h2 : p.1.k ≤ wdE p.1.s p.1.k ∧ wdE p.1.s p.1.k ≤ p.1.s.size := h2
  show 0 ≤ (p.1.k : Int) ∧ (p.1.k : Int) < p.1.s.size
  omega
theorem clsS_badI {w : ByteArray} {st : Int} {p : PX} {e a : Int} {q : PX} (hst : InS p st) (h : clsS w st p = .bad e a q) : BadI p e a := by
  unfold clsS at h
  split at h
  · rename_i hf
    simp at h; obtain ⟨rfl, rfl, _⟩ := h
    exact exp_badI hf
  · rename_i he
    split at h
    · rename_i hf
      simp at h; obtain ⟨rfl, rfl, _⟩ := h
      obtain ⟨rfl, rfl, _⟩ := fnd_bad hf
      exact hst.badI
    · simp at h
theorem clsV_badI {w : ByteArray} {st : Int} {p : PX} {e a : Int} {q : PX} (hst : InS p st) (h : clsV w st p = .bad e a q) : BadI p e a := by
  unfold clsV at h
  split at h
  · rename_i hf
    simp at h; obtain ⟨rfl, rfl, _⟩ := h
    obtain ⟨rfl, rfl, _⟩ := fnd_bad hf
    exact hst.badI
  · rename_i hf0
    refine BadI.mv (runFnd_k hf0) ?_
    split at h
    · rename_i hf
      simp at h; obtain ⟨rfl, rfl, _⟩ := h
      exact wrd_badI hf
    · rename_i hw
      split at h
      · rename_i hf
        simp at h; obtain ⟨rfl, rfl, _⟩ := h
        exact (exp_badI hf).mv (runWrd_k hw)
      · split at h
        · simp at h
        · simp at h; obtain ⟨rfl, rfl, _⟩ := h
          exact (wrd_in hw).badI
theorem clsN_badI {p : PX} {e a : Int} {q : PX} (h : clsN p = .bad e a q) : BadI p e a := by
  unfold clsN at h
  split at h
  · rename_i hf
    simp at h; obtain ⟨rfl, rfl, _⟩ := h
    exact wrd_badI hf
  · rename_i hw
    refine BadI.mv (runWrd_k hw) ?_
    split at h
    · exact (clsV_badI (((wrd_in hw).mv (runWrd_k hw)).mv (Moved.adv _ _)) h).mv (Moved.adv _ _)
    · exact clsS_badI ((wrd_in hw).mv (runWrd_k hw)) h
theorem cls_badI {p : PX} {e a : Int} {q : PX} (hk : p.1.k < p.1.s.size) (h : runCls p = .bad e a q) : BadI (adv p hk) e a := by
  unfold runCls at h
  rw [dif_pos hk] at h
  split at h
  · rename_i hf
    simp at h; obtain ⟨rfl, rfl, _⟩ := h
    exact exp_badI hf
  · rename_i h1
    refine BadI.mv (runExp_k h1).1 ?_
    split at h
    · rename_i hf
      simp at h; obtain ⟨rfl, rfl, _⟩ := h
      exact exp_badI hf
    · rename_i h2
      exact (clsN_badI h).mv (runExp_k h2).1
theorem itmP_badI {c : Int} {p : PX} {e a : Int} {q : PX} (h : itmP c p = .bad e a q) : BadI p e a := by
  unfold itmP at h
  split at h
  · rename_i hf
    simp at h; obtain ⟨rfl, rfl, _⟩ := h
    exact chr_badI hf
  · split at h
    · simp at h; obtain ⟨rfl, rfl, _⟩ := h; exact BadI.here p
    · simp at h
theorem itmC_badI {c : Int} {p : PX} {e a : Int} {q : PX} (h : itmC c p = .bad e a q) : BadI p e a := by
  unfold itmC at h
  split at h
  · exact (itmP_badI h).mv ((Moved.adv _ _).trans (Moved.bl _))
  · simp at h
theorem itm_badI {p : PX} {e a : Int} {q : PX} (h : runItm p = .bad e a q) : BadI p e a := by
  unfold runItm at h
  split at h
  · rename_i hp
    exact (cls_badI (by have := pre2_at hp; omega) h).mv (Moved.adv _ _)
  · split at h
    · rename_i hf
      simp at h; obtain ⟨rfl, rfl, _⟩ := h
      exact chr_badI hf
    · rename_i hc
      exact (itmC_badI h).mv ((runChr_k hc).1.trans (Moved.bl _))
def RunB (run : PX → OutL) : Prop := ∀ p e a q, pkV p.1 = 91 → run p = .bad e a q → BadI p e a ∧ (e = 3 → (p.1.k : Int) + 1 ≤ a)
theorem opd_badI {run : PX → OutL} (hB : RunB run) {p : PX} {e a : Int} {q : PX} (h : runOpd run p = .bad e a q) : BadI p e a := by
  unfold runOpd at h
  split at h
  · rename_i h91
    exact (hB _ _ _ _ h91 h).1
  · split at h
    · rename_i h92
      exact (cls_badI (pk_eq h92 (by decide)).1 h).mv (Moved.adv _ _)
    · simp at h; obtain ⟨rfl, rfl, _⟩ := h; exact BadI.here p
theorem grpL_badI {run : PX → OutL} (hR : RunOk run) (hB : RunB run) {neg : Bool} : ∀ (f : Nat) {p : PX} {S I : List Rg} {e a : Int} {q : PX}, p.1.s.size < f + p.1.k → grpL run neg f p S I = .bad e a q → BadI (blP p) e a
  | 0, p, S, I, e, a, q, hf, _ => by have := p.2.2.1; omega
  | f + 1, p, S, I, e, a, q, hf, h => by
    have hb := blP_le p
    have hsz : (blP p).1.s.size = p.1.s.size := rfl
    rw [grpL] at h
    split at h
    · simp at h
    · split at h
      · split at h
        · split at h
          · rename_i he
            simp at h; obtain ⟨rfl, rfl, _⟩ := h
            exact (opd_badI hB he).mv ((Moved.adv _ _).trans ((Moved.adv _ _).trans (Moved.bl _)))
          · rename_i h45 h45b _ L1 q1 he
            have w := runOpd_went hR he
            have m := (Moved.adv (blP p) (pk_eq h45 (by decide)).1).trans ((Moved.adv _ (pk_eq h45b (by decide)).1).trans (Moved.bl _))
            have h1 := m.k
            have h2 := w.k
            exact (grpL_badI hR hB f (by rw [w.s]; show p.1.s.size < _; omega) h).mv (m.trans (w.mv'.trans (Moved.bl _)))
        · rename_i h45 h45b
          simp at h; obtain ⟨rfl, rfl, _⟩ := h
          obtain ⟨k45, _⟩ := pk_eq h45 (by decide)
          exact (BadI.here (adv (blP p) k45)).mv (Moved.adv _ _)
      · split at h
        · split at h
          · rename_i he
            simp at h; obtain ⟨rfl, rfl, _⟩ := h
            exact (opd_badI hB he).mv ((Moved.adv _ _).trans (Moved.bl _))
          · rename_i h38 _ L1 q1 he
            have w := runOpd_went hR he
            have m := (Moved.adv (blP p) (pk_eq h38 (by decide)).1).trans (Moved.bl _)
            have h1 := m.k
            have h2 := w.k
            exact (grpL_badI hR hB f (by rw [w.s]; show p.1.s.size < _; omega) h).mv (m.trans (w.mv'.trans (Moved.bl _)))
        · split at h
          · rename_i h91
            split at h
            · rename_i he
              simp at h; obtain ⟨rfl, rfl, _⟩ := h
              exact (hB _ _ _ _ h91 he).1
            · rename_i he
              have w := hR _ _ _ h91 he
              have h2 := w.k
              exact (grpL_badI hR hB f (by rw [w.s]; show p.1.s.size < _; omega) h).mv (w.mv'.trans (Moved.bl _))
          · split at h
            · rename_i he
              simp at h; obtain ⟨rfl, rfl, _⟩ := h
              exact itm_badI he
            · rename_i he
              have w := runItm_went he
              have h2 := w.k
              exact (grpL_badI hR hB f (by rw [w.s]; show p.1.s.size < _; omega) h).mv (w.mv'.trans (Moved.bl _))
theorem BadI.ge {p : PX} {e a : Int} (h : BadI p e a) (he : e = 3) : (p.1.k : Int) ≤ a := by
  rcases h with h | h | h <;> omega
theorem runGrp_bad : ∀ n, RunB (runGrp n)
  | 0 => fun p e a q h91 h => by
    obtain ⟨hk, hb⟩ := pk_eq h91 (by decide)
    simp [runGrp] at h
    obtain ⟨rfl, rfl, _⟩ := h
    exact ⟨.inr (.inr ⟨rfl, by omega, by omega, by rw [Int.toNat_natCast]; exact hb⟩), fun h => absurd h (by decide)⟩
  | n + 1 => fun p e a q h91 h => by
    obtain ⟨hk, _⟩ := pk_eq h91 (by decide)
    rw [runGrp, dif_pos hk] at h
    have key : BadI (adv p hk) e a := by
      split at h
      · exact (grpL_badI (runGrp_went n) (runGrp_bad n) _ (by show p.1.s.size < p.1.s.size + 1 + _; omega) h).mv ((Moved.bl _).trans ((Moved.adv _ _).trans (Moved.bl _)))
      · exact (grpL_badI (runGrp_went n) (runGrp_bad n) _ (by show p.1.s.size < p.1.s.size + 1 + _; omega) h).mv ((Moved.bl _).trans (Moved.bl _))
    exact ⟨key.mv (Moved.adv _ _), fun he => key.ge he⟩
theorem prs_whole {d : Db} {s : ByteArray} {h : OkS d s} (he : (prs d s).2.1 = 0) : ∃ L q, Whole d s h L q ∧ prs d s = (L, 0, 0) := by
  rw [prs_at h] at he ⊢
  unfold prsP at he ⊢
  split at he
  · rename_i h91
    rw [if_pos h91]
    cases hr : runGrp 17 (blP (pst0 d s h)) with
    | bad e a q => rw [hr] at he; have he : e = 0 := he; exact absurd he (runGrp_bad 17 _ _ _ _ h91 hr).1.code
    | ok L q =>
      rw [hr] at he
      dsimp only at he ⊢
      have w := runGrp_went 17 _ _ _ h91 hr
      unfold prsE at he ⊢
      split at he
      · simp at he
      · rename_i hk
        rw [if_neg hk]
        have hk : ¬ (blP q).1.k < s.size := hk
        have hs : q.1.s = s := w.s
        have := (blP q).2.2.1
        have : (blP q).1.k ≤ q.1.s.size := this
        rw [hs] at this
        exact ⟨L, q, ⟨h91, hr, by omega, w⟩, rfl⟩
  · simp at he
end Go.Proofs
namespace Go.Proofs
open Go Go.Sx
variable {mx : Int} {pb : Bool}
theorem emb_mid (x s y : ByteArray) : Emb x.size s (bcat (bcat x s) y) := by
  refine ⟨by rw [size_cat, size_cat]; omega, fun i hi => ?_⟩
  rw [bAt_cat, size_cat, if_pos (by omega), bAt_cat, if_neg (by omega)]
  congr 1
  omega
theorem whole_in2 {d : Db} {s : ByteArray} {h : OkS d s} {L : List Rg} {q : PX} (w : Whole d s h L q) (hu : usB d = false) {o m : Nat} (hm : c91 s s.size ≤ m) {p' : PX} (rb : Rl o (blP (pst0 d s h)) (blP p')) :
    pkV (blP p').1 = 91 ∧ ∃ q', runGrp m (blP p') = .ok L q' ∧ (blP q').1.k = blk p'.1.s (s.size + o) ∧ Moved p' q' := by
  obtain ⟨k91, _⟩ := pk_eq w.b (by decide)
  have h91 := (rb.pk k91).trans w.b
  have hk : q.1.k ≤ s.size := by have := q.2.2.1; have e : q.1.s = s := w.w.s; rw [e] at this; exact this
  have hc := c91_mono (s := s) hk
  obtain ⟨q', e1, r1⟩ := runGrp_emb (o := o) 17 m (blP (pst0 d s h)) (blP p') L q hu rb w.b w.r (by show c91 s _ ≤ c91 s _ + m; omega)
  have w' := runGrp_went m _ _ _ h91 e1
  refine ⟨h91, q', e1, ?_, (Moved.bl p').trans w'.mv⟩
  have hs : q.1.s = s := w.w.s
  have hs' : q'.1.s = p'.1.s := w'.s
  show blk q'.1.s q'.1.k = _
  rw [r1.k, blk_emb2 r1.e _ _ rfl q.2.2.1 (by have := w.e; rw [← hs] at this; exact this), hs, hs']
theorem whole_lt {d : Db} {s : ByteArray} {h : OkS d s} {L : List Rg} {q : PX} (w : Whole d s h L q) : blk s 0 < s.size := (pk_eq w.b (by decide)).1
theorem rl_bl {d : Db} {s : ByteArray} {h : OkS d s} {o : Nat} {p' : PX} (hl : blk s 0 < s.size) (e : Emb o s p'.1.s) (db : p'.1.db = d) (hk : (blP p').1.k = blk p'.1.s o) : Rl o (blP (pst0 d s h)) (blP p') :=
  ⟨e, db, by
    show _ = blk s 0 + o
    rw [hk, ← blk_emb e _ 0 rfl (Nat.zero_le _) hl, Nat.zero_add]⟩
theorem whole_in {d : Db} {s : ByteArray} {h : OkS d s} {L : List Rg} {q : PX} (w : Whole d s h L q) (hu : usB d = false) {o m : Nat} (hm : c91 s s.size ≤ m) {p' : PX} (r : Rl o (pst0 d s h) p') (_ : s.size + o < p'.1.s.size) (hnb : bAt p'.1.s (s.size + o) ≠ 32) :
    pkV (blP p').1 = 91 ∧ ∃ q', runGrp m (blP p') = .ok L q' ∧ (blP q').1.k = s.size + o ∧ Moved p' q' := by
  obtain ⟨h1, q', h2, h3, h4⟩ := whole_in2 w hu hm (r.bl (pk_eq w.b (by decide)).1)
  exact ⟨h1, q', h2, by rw [h3]; exact blk_stop fun hh => hnb hh.2, h4⟩
theorem Emb.app {o : Nat} {s s' : ByteArray} (h : Emb o s s') (y : ByteArray) : Emb o s (bcat s' y) :=
  ⟨by rw [size_cat]; have := h.sz; omega, fun i hi => by
    rw [bAt_cat, if_pos (by have := h.sz; omega)]; exact h.b i hi⟩
theorem emb_end (x s : ByteArray) : Emb x.size s (bcat x s) :=
  ⟨by rw [size_cat]; omega, fun i hi => by rw [bAt_cat, if_neg (by omega)]; congr 1; omega⟩
theorem adv_k (p : PX) (h : p.1.k < p.1.s.size) : (adv p h).1.k = p.1.k + 1 := rfl
theorem grpL_end {run : PX → OutL} {neg : Bool} {f : Nat} {p : PX} {S I : List Rg} (h : pkV (blP p).1 = 93) : grpL run neg (f + 1) p S I = .ok (endG neg S I) (adv (blP p) (pk_eq h (by decide)).1) := by rw [grpL, dif_pos h]
theorem grpL_sub {run : PX → OutL} {neg : Bool} {f : Nat} {p q : PX} {S I L : List Rg} (h : pkV (blP p).1 = 91) (hr : run (blP p) = .ok L q) : grpL run neg (f + 1) p S I = grpL run neg f q S (I ++ L) := by
  rw [grpL, dif_neg (by rw [h]; decide), dif_neg (by rw [h]; decide), dif_neg (by rw [h]; decide), if_pos h, hr]
theorem grpL_and {run : PX → OutL} {neg : Bool} {f : Nat} {p q : PX} {S I L : List Rg} (h : pkV (blP p).1 = 38) (h2 : pkV (blP (adv (blP p) (pk_eq h (by decide)).1)).1 = 91) (hr : run (blP (adv (blP p) (pk_eq h (by decide)).1)) = .ok L q) : grpL run neg (f + 1) p S I = grpL run neg f q (combL (combL S (canon I) 1) L 2) [] := by
  rw [grpL, dif_neg (by rw [h]; decide), dif_neg (by rw [h]; decide), dif_pos h, runOpd, if_pos h2, hr]
theorem grpL_min {run : PX → OutL} {neg : Bool} {f : Nat} {p q : PX} {S I L : List Rg} (h : pkV (blP p).1 = 45) (hb : pkV (adv (blP p) (pk_eq h (by decide)).1).1 = 45) (h2 : pkV (blP (adv (adv (blP p) (pk_eq h (by decide)).1) (pk_eq hb (by decide)).1)).1 = 91) (hr : run (blP (adv (adv (blP p) (pk_eq h (by decide)).1) (pk_eq hb (by decide)).1)) = .ok L q) : grpL run neg (f + 1) p S I = grpL run neg f q (combL (combL S (canon I) 1) L 3) [] := by
  rw [grpL, dif_neg (by rw [h]; decide), dif_pos h, dif_pos hb, runOpd, if_pos h2, hr]
theorem runGrp_pos {n : Nat} {p : PX} (hk : p.1.k < p.1.s.size) (h : ¬ pkV (blP (adv p hk)).1 = 94) : runGrp (n + 1) p = grpL (runGrp n) false (p.1.s.size + 1) (blP (adv p hk)) [] [] := by rw [runGrp, dif_pos hk, dif_neg h]
theorem runGrp_neg {n : Nat} {p : PX} (hk : p.1.k < p.1.s.size) (h : pkV (blP (adv p hk)).1 = 94) : runGrp (n + 1) p = grpL (runGrp n) true (p.1.s.size + 1) (adv (blP (adv p hk)) (pk_eq h (by decide)).1) [] [] := by rw [runGrp, dif_pos hk, dif_pos h]
theorem blP_id' {p : PX} (h : pkV p.1 ≠ 32) : blP p = p := blP_id fun hh => h (by rw [pkV_lt hh.1]; exact hh.2)
theorem canon_id {l : List Rg} (h : Canon l) : canon l = l := (canon_of h fun c => ⟨fun hc => ⟨by
    obtain ⟨r, hr, h1, h2⟩ := hc
    have := h.ok r hr
    omega, hc⟩, fun hc => hc.2⟩).symm
theorem or_nilL {l : List Rg} (h : Canon l) : combL [] l 1 = l := by
  obtain ⟨h1, h2⟩ := comb_spec [] l 1
  refine canon_unique h1 h fun c => ?_
  have e : hasB [] c = false := by simp [hasB]
  rw [h2, e]
  have e2 : keepsB 1 false (hasB l c) = hasB l c := by simp [keepsB]
  rw [e2, hasB_iff]
  constructor
  · exact fun hh => hh.2.2
  · intro hc
    have hb : 0 ≤ c ∧ c ≤ 1114111 := by
      obtain ⟨r, hr, h3, h4⟩ := hc
      have := h.ok r hr
      omega
    exact ⟨hb, hb, hc⟩
end Go.Proofs
