import Derived.Test.YtcihhjjmcompkaaGreatDoorLz
set_option linter.unusedVariables false
set_option linter.unusedSimpArgs false
namespace Go.Proofs
open Go Go.Sx
variable {mx : Int} {pb : Bool}
structure Tru (A : Nat) (s s' : ByteArray) : Prop where
 sz : s'.size = A
 le : A ≤ s.size
 b : ∀ i, i < A → bAt s' i = bAt s i
structure Ru (A : Nat) (p p' : PX) : Prop where
 e : Tru A p.1.s p'.1.s
 db : p'.1.db = p.1.db
 k : p'.1.k = p.1.k
section
variable {A : Nat} {p p' : PX}
theorem Ru.le (h : Ru A p p') : p.1.k ≤ A := by have := p'.2.2.1; rw [h.e.sz, h.k] at this; exact this
theorem Ru.lt (h : Ru A p p') (hk : p.1.k < A) : p'.1.k < p'.1.s.size := by rw [h.k, h.e.sz]; exact hk
theorem Ru.lt0 (h : Ru A p p') (hk : p.1.k < A) : p.1.k < p.1.s.size := Nat.lt_of_lt_of_le hk h.e.le
theorem Ru.pk (h : Ru A p p') (hk : p.1.k < A) : pkV p'.1 = pkV p.1 := by
 rw [pkV_lt (h.lt0 hk), pkV_lt (h.lt hk), h.k, h.e.b _ hk]
theorem Ru.no (h : Ru A p p') (hk : p.1.k = A) : ¬ p'.1.k < p'.1.s.size := by rw [h.k, h.e.sz, hk]; exact Nat.lt_irrefl _
theorem Ru.pkE (h : Ru A p p') (hk : p.1.k = A) : pkV p'.1 = -1 := pkV_ge (h.no hk)
theorem Ru.adv (h : Ru A p p') (hk : p.1.k < A) (h1 : p.1.k < p.1.s.size) (h2 : p'.1.k < p'.1.s.size) : Ru A (adv p h1) (adv p' h2) :=
 ⟨h.e, h.db, (by have := h.k; show p'.1.k + 1 = p.1.k + 1; omega)⟩
theorem Ru.ckd (h : Ru A p p') : Ru A (ckd p) (ckd p') := ⟨h.e, h.db, h.k⟩
theorem blk_tru {s s' : ByteArray} (h : Tru A s s') : ∀ (n k : Nat), s.size - k = n → k ≤ s.size → blk s k ≤ A → blk s' k = blk s k
 | 0, k, hn, hk, hb => by
  rw [blk_stop (s := s) (k := k) (fun hh => by omega)] at hb ⊢
  exact blk_stop fun hh => by have := h.sz; have := h.le; omega
 | n + 1, k, hn, hk, hb => by
  have hlt : k < s.size := by omega
  by_cases h32 : bAt s k = 32
  ·have h1 := (blkF_le (s := s) (s.size - (k + 1)) (k + 1) hlt).1
   have h1 : k + 1 ≤ blk s (k + 1) := h1
   rw [← blk_step hlt h32] at hb ⊢
   have hkA : k < A := by omega
   rw [← blk_step (s := s') (k := k) (by rw [h.sz]; exact hkA) ((h.b k hkA).trans h32)]
   exact blk_tru h n (k + 1) (by omega) hlt hb
  ·rw [blk_stop (s := s) (fun hh => h32 hh.2)] at hb ⊢
   exact blk_stop fun hh => h32 (by rw [← h.b k (by rw [← h.sz]; exact hh.1)]; exact hh.2)
theorem Ru.bl (h : Ru A p p') (hk : (blP p).1.k ≤ A) : Ru A (blP p) (blP p') :=
 ⟨h.e, h.db, (by show blk p'.1.s p'.1.k = blk p.1.s p.1.k; rw [h.k]; exact blk_tru h.e _ _ rfl p.2.2.1 hk)⟩
theorem exp_end (h : Ru A p p') (hk : p.1.k = A) (b : Int) : ∃ q', runExp p' b = .bad 3 A q' := ⟨p', by
 unfold runExp
 rw [dif_neg (fun hh => h.no hk hh.1), h.k, hk]⟩
theorem exp_tok (h : Ru A p p') {b : Int} {d : D} {q : PX} (hr : runExp p b = .ok d q) (hq : q.1.k ≤ A) : ∃ q', runExp p' b = .ok d q' ∧ Ru A q q' := by
 unfold runExp at hr
 split at hr
 ·rename_i hk
  simp at hr
  obtain ⟨rfl, rfl⟩ := hr
  have hkA : p.1.k < A := hq
  exact ⟨_, dif_pos ⟨h.lt hkA, (h.pk hkA).trans hk.2⟩, h.adv hkA hk.1 (h.lt hkA)⟩
 ·simp at hr
theorem exp_tbad (h : Ru A p p') {b : Int} {q : PX} (hr : runExp p b = .bad 3 A q) : ∃ q', runExp p' b = .bad 3 A q' :=
 exp_end h (by have := (exp_bad hr).2; omega) b
theorem dig_tok : ∀ (f : Nat) {p p' : PX} {c : Int} {n : Nat} {d : D} {r : PX}, Ru A p p' → digR f p c n = .ok d r → r.1.k ≤ A → ∃ r', digR f p' c n = .ok d r' ∧ Ru A r r'
 | 0, p, p', c, n, d, r, _, hr, _ => by simp [digR] at hr
 | f + 1, p, p', c, n, d, r, h, hr, hlt => by
  rw [digR] at hr ⊢
  split at hr
  ·rename_i hd
   split at hr
   ·simp at hr
   ·rename_i hb
    have hkA : p.1.k < A := by
     have := (digR_k f hr).k
     have : p.1.k + 1 ≤ r.1.k := this
     omega
    rw [dif_pos (show p'.1.k < p'.1.s.size ∧ isDg (pkV p'.1) from ⟨h.lt hkA, by rw [h.pk hkA]; exact hd.2⟩), show dgI (pkV p'.1) = dgI (pkV p.1) from by rw [h.pk hkA], if_neg hb]
    exact dig_tok f (h.adv hkA hd.1 (h.lt hkA)) hr hlt
  ·rename_i hd
   split at hr
   ·simp at hr
   ·rename_i hn
    simp at hr
    obtain ⟨rfl, rfl⟩ := hr
    rw [dif_neg (show ¬ (p'.1.k < p'.1.s.size ∧ isDg (pkV p'.1)) from fun hh => by
     have hkA : p.1.k < A := by have := hh.1; rw [h.k, h.e.sz] at this; exact this
     exact hd ⟨h.lt0 hkA, by rw [← h.pk hkA]; exact hh.2⟩), if_neg hn]
    exact ⟨_, rfl, h⟩
theorem dig_tbad : ∀ (f : Nat) {p p' : PX} {c : Int} {n : Nat} {r : PX}, Ru A p p' → digR f p c n = .bad 3 A r → (∃ r', digR f p' c n = .bad 3 A r') ∨ ∃ d r', digR f p' c n = .ok d r' ∧ Moved p' r' ∧ r'.1.k = A
 | 0, p, p', c, n, r, h, hr => by
  simp [digR] at hr
  obtain ⟨hr, rfl⟩ := hr
  exact .inl ⟨p', by rw [digR, h.k, hr]⟩
 | f + 1, p, p', c, n, r, h, hr => by
  have atA : p.1.k = A → (∃ r', digR (f + 1) p' c n = .bad 3 A r') ∨ ∃ d r', digR (f + 1) p' c n = .ok d r' ∧ Moved p' r' ∧ r'.1.k = A := fun hk => by
   rw [digR, dif_neg (fun hh => h.no hk hh.1)]
   split
   ·exact .inl ⟨p', by rw [h.k, hk]⟩
   ·exact .inr ⟨_, p', rfl, Moved.refl _, h.k.trans hk⟩
  have hr0 := hr
  rw [digR] at hr
  split at hr
  ·rename_i hd
   split at hr
   ·simp at hr
    exact atA (by omega)
   ·rename_i hb
    have := (dig_badI f hr).ge rfl
    have : ((p.1.k + 1 : Nat) : Int) ≤ A := this
    have hkA : p.1.k < A := by omega
    rw [digR, dif_pos (show p'.1.k < p'.1.s.size ∧ isDg (pkV p'.1) from ⟨h.lt hkA, by rw [h.pk hkA]; exact hd.2⟩), show dgI (pkV p'.1) = dgI (pkV p.1) from by rw [h.pk hkA], if_neg hb]
    rcases dig_tbad f (h.adv hkA hd.1 (h.lt hkA)) hr with h1 | ⟨d, r', h1, h2, h3⟩
    ·exact .inl h1
    ·exact .inr ⟨d, r', h1, (Moved.adv _ _).trans h2, h3⟩
  ·split at hr
   ·simp at hr
    exact atA (by omega)
   ·simp at hr
theorem esc_end (h : Ru A p p') (hk : p.1.k = A) : ∃ q', runEsc p' () = .bad 3 A q' := ⟨p', by
 unfold runEsc
 rw [dif_neg (by rw [h.pkE hk]; decide), dif_neg (fun hh => h.no hk hh.1), h.k, hk]⟩
theorem esc_tok (h : Ru A p p') {d : D} {q : PX} (hr : runEsc p () = .ok d q) (hq : q.1.k ≤ A) : ∃ q', runEsc p' () = .ok d q' ∧ Ru A q q' := by
 unfold runEsc at hr
 split at hr
 ·rename_i h117
  obtain ⟨hk, _⟩ := pk_eq h117 (by decide)
  split at hr
  ·rename_i d1 q1 he
   split at hr
   ·rename_i c r hd
    split at hr
    ·rename_i d2 t hf
     simp at hr
     obtain ⟨rfl, rfl⟩ := hr
     have k3 := (runExp_k hf).2
     have k2 := (digR_k 7 hd).k
     have k1 := (runExp_k he).2
     have k0 : (adv p hk).1.k = p.1.k + 1 := rfl
     have hkA : p.1.k < A := by omega
     obtain ⟨q1', e1, r1⟩ := exp_tok (h.adv hkA hk (h.lt hkA)) he (by omega)
     obtain ⟨r', e2, r2⟩ := dig_tok 7 r1 hd (by omega)
     obtain ⟨t', e3, r3⟩ := exp_tok r2 hf hq
     refine ⟨t', ?_, r3⟩
     unfold runEsc
     rw [dif_pos ((h.pk hkA).trans h117), e1]
     dsimp only
     rw [show runDig q1' () = .ok c r' from e2]
     dsimp only
     rw [e3]
    ·simp at hr
   ·simp at hr
  ·simp at hr
 ·rename_i h117
  split at hr
  ·rename_i hk
   simp at hr
   obtain ⟨rfl, rfl⟩ := hr
   have hkA : p.1.k < A := hq
   have e := h.pk hkA
   unfold runEsc
   rw [dif_neg (show ¬ pkV p'.1 = 117 by rw [e]; exact h117), dif_pos (show p'.1.k < p'.1.s.size ∧ (pkV p'.1 = 32 ∨ 0 ≤ spI (pkV p'.1)) by rw [e]; exact ⟨h.lt hkA, hk.2⟩)]
   exact ⟨adv p' (h.lt hkA), congrArg (fun z => OutP.ok (D.v (.int .i64 z)) (adv p' (h.lt hkA))) e, h.adv hkA hk.1 (h.lt hkA)⟩
  ·simp at hr
theorem esc_tbad (h : Ru A p p') {q : PX} (hr : runEsc p () = .bad 3 A q) : ∃ q', runEsc p' () = .bad 3 A q' := by
 have hr0 := hr
 unfold runEsc at hr
 split at hr
 ·rename_i h117
  obtain ⟨hk, _⟩ := pk_eq h117 (by decide)
  have hkA : p.1.k < A := by
   have : BadI (adv p hk) 3 A := by
    split at hr
    ·rename_i he
     refine BadI.mv (runExp_k he).1 ?_
     split at hr
     ·rename_i hd
      refine BadI.mv (digR_k 7 hd) ?_
      split at hr
      ·simp at hr
      ·rename_i hf
       simp at hr
       obtain ⟨rfl, rfl, _⟩ := hr
       exact exp_badI hf
     ·rename_i hf
      simp at hr
      obtain ⟨rfl, rfl, _⟩ := hr
      exact dig_badI 7 hf
    ·rename_i hf
     simp at hr
     obtain ⟨rfl, rfl, _⟩ := hr
     exact exp_badI hf
   have := this.ge rfl
   have : ((p.1.k + 1 : Nat) : Int) ≤ A := this
   omega
  have ra := h.adv hkA hk (h.lt hkA)
  have e117 := (h.pk hkA).trans h117
  split at hr
  ·rename_i d1 q1 he
   split at hr
   ·rename_i c r hd
    split at hr
    ·simp at hr
    ·rename_i e3 a3 t hf
     simp at hr
     obtain ⟨rfl, rfl, _⟩ := hr
     have g3 := (exp_badI hf).ge rfl
     have k2 := (digR_k 7 hd).k
     obtain ⟨q1', e1, r1⟩ := exp_tok ra he (by omega)
     obtain ⟨r', e2, r2⟩ := dig_tok 7 r1 hd (by omega)
     obtain ⟨t', e3⟩ := exp_tbad r2 hf
     refine ⟨t', ?_⟩
     unfold runEsc
     rw [dif_pos e117, e1]
     dsimp only
     rw [show runDig q1' () = .ok c r' from e2]
     dsimp only
     rw [e3]
   ·rename_i e3 a3 r hd
    simp at hr
    obtain ⟨rfl, rfl, _⟩ := hr
    have g2 := (dig_badI 7 hd).ge rfl
    obtain ⟨q1', e1, r1⟩ := exp_tok ra he (by omega)
    rcases dig_tbad 7 r1 hd with ⟨r', e2⟩ | ⟨d2, r', e2, m2, k2⟩
    ·refine ⟨r', ?_⟩
     unfold runEsc
     rw [dif_pos e117, e1]
     dsimp only
     rw [show runDig q1' () = .bad 3 A r' from e2]
    ·refine ⟨r', ?_⟩
     have e3 : runExp r' 125 = .bad 3 A r' := by
      unfold runExp
      have hs : r'.1.s.size = A := by rw [m2.s, r1.e.sz]
      rw [dif_neg (fun hh => by omega), k2]
     unfold runEsc
     rw [dif_pos e117, e1]
     dsimp only
     rw [show runDig q1' () = .ok d2 r' from e2]
     dsimp only
     rw [e3]
  ·rename_i e3 a3 q1 he
   simp at hr
   obtain ⟨rfl, rfl, _⟩ := hr
   obtain ⟨q1', e1⟩ := exp_tbad ra he
   refine ⟨q1', ?_⟩
   unfold runEsc
   rw [dif_pos e117, e1]
 ·split at hr
  ·simp at hr
  ·simp at hr
   exact esc_end h (by omega)
theorem chr_end (h : Ru A p p') (hk : p.1.k = A) : ∃ q', runChr p' () = .bad 3 A q' := ⟨p', by
 unfold runChr
 rw [dif_neg (by rw [h.pkE hk]; decide), dif_neg (fun hh => h.no hk hh.1), h.k, hk]⟩
theorem chr_tok (h : Ru A p p') {d : D} {q : PX} (hr : runChr p () = .ok d q) (hq : q.1.k ≤ A) : ∃ q', runChr p' () = .ok d q' ∧ Ru A q q' := by
 have hkA : p.1.k < A := by have := (runChr_k hr).2.1; omega
 have e := h.pk hkA
 unfold runChr at hr
 split at hr
 ·rename_i h92
  obtain ⟨hk, _⟩ := pk_eq h92 (by decide)
  obtain ⟨q', e1, r⟩ := esc_tok (h.adv hkA hk (h.lt hkA)) hr hq
  exact ⟨q', (dif_pos (e.trans h92)).trans e1, r⟩
 ·rename_i h92
  split at hr
  ·rename_i hk
   simp at hr
   obtain ⟨rfl, rfl⟩ := hr
   unfold runChr
   rw [dif_neg (show ¬ pkV p'.1 = 92 by rw [e]; exact h92), dif_pos (show p'.1.k < p'.1.s.size ∧ 33 ≤ pkV p'.1 ∧ pkV p'.1 ≤ 126 ∧ spI (pkV p'.1) < 0 by rw [e]; exact ⟨h.lt hkA, hk.2⟩)]
   exact ⟨adv p' (h.lt hkA), congrArg (fun z => OutP.ok (D.v (.int .i64 z)) (adv p' (h.lt hkA))) e, h.adv hkA hk.1 (h.lt hkA)⟩
  ·simp at hr
theorem chr_tbad (h : Ru A p p') {q : PX} (hr : runChr p () = .bad 3 A q) : ∃ q', runChr p' () = .bad 3 A q' := by
 unfold runChr at hr
 split at hr
 ·rename_i h92
  obtain ⟨hk, _⟩ := pk_eq h92 (by decide)
  have := (esc_badI hr).ge rfl
  have : ((p.1.k + 1 : Nat) : Int) ≤ A := this
  have hkA : p.1.k < A := by omega
  obtain ⟨q', e1⟩ := esc_tbad (h.adv hkA hk (h.lt hkA)) hr
  exact ⟨q', (dif_pos ((h.pk hkA).trans h92)).trans e1⟩
 ·split at hr
  ·simp at hr
  ·simp at hr
   exact chr_end h (by omega)
theorem wdE_tru {s s' : ByteArray} (h : Tru A s s') : ∀ (n k : Nat), s.size - k = n → k ≤ s.size → wdE s k ≤ A → wdE s' k = wdE s k
 | 0, k, hn, hk, hb => by
  rw [wdE_stop (s := s) (k := k) (fun hh => by omega)] at hb ⊢
  exact wdE_stop fun hh => by have := h.sz; have := h.le; omega
 | n + 1, k, hn, hk, hb => by
  have hlt : k < s.size := by omega
  by_cases hw : isW (bAt s k)
  ·have h1 := (wdF_le (s := s) (s.size - (k + 1)) (k + 1) hlt).1
   have h1 : k + 1 ≤ wdE s (k + 1) := h1
   rw [← wdE_step hlt hw] at hb ⊢
   have hkA : k < A := by omega
   rw [← wdE_step (s := s') (k := k) (by rw [h.sz]; exact hkA) (by rw [h.b k hkA]; exact hw)]
   exact wdE_tru h n (k + 1) (by omega) hlt hb
  ·rw [wdE_stop (s := s) (fun hh => hw hh.2)] at hb ⊢
   exact wdE_stop fun hh => hw (by rw [← h.b k (by rw [← h.sz]; exact hh.1)]; exact hh.2)
theorem bcut_tru {s s' : ByteArray} (h : Tru A s s') {l e : Nat} (he : e ≤ A) : bcut s' l e = bcut s l e := by
 have h1 : s'.data.toList.take e = s.data.toList.take e := by
  apply List.ext_getElem?
  intro i
  rw [List.getElem?_take, List.getElem?_take]
  split
  ·rename_i hi
   have hiA : i < A := by omega
   have hb := h.b i hiA
   have l1 : i < s'.size := by rw [h.sz]; exact hiA
   have l2 : i < s.size := Nat.lt_of_lt_of_le hiA h.le
   have l1' : i < s'.data.toList.length := l1
   have l2' : i < s.data.toList.length := l2
   unfold bAt at hb
   rw [List.getElem?_eq_getElem l1', List.getElem?_eq_getElem l2'] at hb ⊢
   simp only [Option.getD_some] at hb
   congr 1
   exact UInt8.toNat_inj.1 (by omega)
  ·rfl
 unfold bcut
 rw [h1]
theorem wrd_end (h : Ru A p p') (hk : p.1.k = A) : ∃ q', runWrd p' () = .bad 3 A q' := ⟨p', by
 unfold runWrd
 rw [if_pos (wdE_stop fun hh => h.no hk hh.1), h.k, hk]⟩
theorem wrd_tok (h : Ru A p p') {d : D} {q : PX} (hr : runWrd p () = .ok d q) (hq : q.1.k ≤ A) : ∃ q', runWrd p' () = .ok d q' ∧ Ru A q q' := by
 obtain ⟨h1, rfl, rfl⟩ := runWrd_ok hr
 have hq : wdE p.1.s p.1.k ≤ A := hq
 have e := wdE_tru h.e _ _ rfl p.2.2.1 hq
 refine ⟨wdP p', ?_, h.e, h.db, by show wdE p'.1.s p'.1.k = wdE p.1.s p.1.k; rw [h.k, e]⟩
 unfold runWrd
 rw [if_neg (by rw [h.k, e]; exact h1), h.k, e, bcut_tru h.e hq]
theorem wrd_tbad (h : Ru A p p') {q : PX} (hr : runWrd p () = .bad 3 A q) : ∃ q', runWrd p' () = .bad 3 A q' := by
 unfold runWrd at hr
 split at hr
 ·simp at hr
  exact wrd_end h (by omega)
 ·simp at hr
theorem fnd_tok (h : Ru A p p') {x : List ByteArray × ByteArray × Int} {d : D} {q : PX} (hr : runFnd p x = .ok d q) : ∃ q', runFnd p' x = .ok d q' ∧ Ru A q q' := by
 unfold runFnd at hr
 split at hr
 ·rename_i hk
  simp at hr
  obtain ⟨rfl, rfl⟩ := hr
  exact ⟨_, if_pos (by rw [h.db]; exact hk), h.ckd⟩
 ·simp at hr
theorem clsS_tok (h : Ru A p p') {w : ByteArray} {st : Int} {L : List Rg} {q : PX} (hr : clsS w st p = .ok L q) (hq : q.1.k ≤ A) : ∃ q', clsS w st p' = .ok L q' ∧ Ru A q q' := by
 unfold clsS at hr
 split at hr
 ·simp at hr
 ·rename_i he
  split at hr
  ·simp at hr
  ·rename_i d q5 hf
   simp at hr
   obtain ⟨rfl, rfl⟩ := hr
   have := (runFnd_k hf).k
   obtain ⟨q4', e1, r1⟩ := exp_tok h he (by omega)
   obtain ⟨q5', e2, r2⟩ := fnd_tok r1 hf
   unfold clsS
   rw [e1]
   dsimp only
   rw [e2]
   exact ⟨q5', by dsimp only; rw [r2.db], r2⟩
theorem clsS_tbad (h : Ru A p p') {w : ByteArray} {st : Int} {q : PX} (hr : clsS w st p = .bad 3 A q) : ∃ q', clsS w st p' = .bad 3 A q' := by
 unfold clsS at hr
 split at hr
 ·rename_i he
  simp at hr
  obtain ⟨rfl, rfl, _⟩ := hr
  obtain ⟨q', e⟩ := exp_tbad h he
  exact ⟨q', by unfold clsS; rw [e]⟩
 ·split at hr
  ·rename_i hf
   have h1 := (fnd_bad hf).1
   simp at hr
   omega
  ·simp at hr
theorem clsS_end (h : Ru A p p') {w : ByteArray} {st : Int} (hk : p.1.k = A) : ∃ q', clsS w st p' = .bad 3 A q' := by
 obtain ⟨q', e⟩ := exp_end h hk 125
 exact ⟨q', by unfold clsS; rw [e]⟩
theorem clsV_tok (h : Ru A p p') {w : ByteArray} {st : Int} {L : List Rg} {q : PX} (hr : clsV w st p = .ok L q) (hq : q.1.k ≤ A) : ∃ q', clsV w st p' = .ok L q' ∧ Ru A q q' := by
 unfold clsV at hr
 split at hr
 ·simp at hr
 ·rename_i d q5 hf
  split at hr
  ·simp at hr
  ·rename_i d2 q6 hw
   split at hr
   ·simp at hr
   ·rename_i d3 q7 he
    split at hr
    ·rename_i hfn
     simp at hr
     obtain ⟨rfl, rfl⟩ := hr
     have k7 := (runExp_k he).1.k
     obtain ⟨q5', e1, r1⟩ := fnd_tok h hf
     obtain ⟨q6', e2, r2⟩ := wrd_tok r1 hw (by omega)
     obtain ⟨q7', e3, r3⟩ := exp_tok r2 he hq
     refine ⟨q7', ?_, r3⟩
     unfold clsV
     rw [e1]
     dsimp only
     rw [e2]
     dsimp only
     rw [e3]
     dsimp only
     rw [r1.db, if_pos hfn]
    ·simp at hr
theorem clsV_tbad (h : Ru A p p') {w : ByteArray} {st : Int} {q : PX} (hr : clsV w st p = .bad 3 A q) : ∃ q', clsV w st p' = .bad 3 A q' := by
 unfold clsV at hr
 split at hr
 ·rename_i hf
  have h1 := (fnd_bad hf).1
  simp at hr
  omega
 ·rename_i d q5 hf
  obtain ⟨q5', e1, r1⟩ := fnd_tok h hf
  split at hr
  ·rename_i hw
   simp at hr
   obtain ⟨rfl, rfl, _⟩ := hr
   obtain ⟨q', e⟩ := wrd_tbad r1 hw
   exact ⟨q', by unfold clsV; rw [e1]; dsimp only; rw [e]⟩
  ·rename_i d2 q6 hw
   split at hr
   ·rename_i he
    simp at hr
    obtain ⟨rfl, rfl, _⟩ := hr
    have g := (exp_badI he).ge rfl
    obtain ⟨q6', e2, r2⟩ := wrd_tok r1 hw (by omega)
    obtain ⟨q', e⟩ := exp_tbad r2 he
    exact ⟨q', by unfold clsV; rw [e1]; dsimp only; rw [e2]; dsimp only; rw [e]⟩
   ·split at hr
    ·simp at hr
    ·simp at hr
theorem clsN_tok (h : Ru A p p') {L : List Rg} {q : PX} (hr : clsN p = .ok L q) (hq : q.1.k ≤ A) : ∃ q', clsN p' = .ok L q' ∧ Ru A q q' := by
 unfold clsN at hr
 split at hr
 ·simp at hr
 ·rename_i d q3 hw
  split at hr
  ·rename_i h61
   obtain ⟨k61, _⟩ := pk_eq h61 (by decide)
   have k1 := (clsV_k hr).1.k
   have k1 : q3.1.k + 1 ≤ q.1.k := k1
   have hkA : q3.1.k < A := by omega
   obtain ⟨q3', e1, r1⟩ := wrd_tok h hw (by omega)
   obtain ⟨q', e2, r2⟩ := clsV_tok (r1.adv hkA k61 (r1.lt hkA)) hr hq
   refine ⟨q', ?_, r2⟩
   unfold clsN
   rw [e1]
   dsimp only
   rw [dif_pos ((r1.pk hkA).trans h61)]
   exact e2
  ·rename_i h61
   have k1 := (clsS_k hr).1.k
   obtain ⟨q3', e1, r1⟩ := wrd_tok h hw (by omega)
   obtain ⟨q', e2, r2⟩ := clsS_tok r1 hr hq
   refine ⟨q', ?_, r2⟩
   unfold clsN
   rw [e1]
   dsimp only
   rw [dif_neg (fun hh => h61 (by
    have hkA : q3.1.k < A := by
     rcases Nat.lt_or_ge q3.1.k A with h1 | h1
     ·exact h1
     ·have := r1.pkE (Nat.le_antisymm r1.le h1); omega
    rw [← r1.pk hkA]; exact hh))]
   exact e2
theorem clsN_tbad (h : Ru A p p') {q : PX} (hr : clsN p = .bad 3 A q) : ∃ q', clsN p' = .bad 3 A q' := by
 have hr0 := hr
 unfold clsN at hr
 split at hr
 ·rename_i hw
  simp at hr
  obtain ⟨rfl, rfl, _⟩ := hr
  obtain ⟨q', e⟩ := wrd_tbad h hw
  exact ⟨q', by unfold clsN; rw [e]⟩
 ·rename_i d q3 hw
  have hin := (wrd_in hw).mv (runWrd_k hw)
  split at hr
  ·rename_i h61
   obtain ⟨k61, _⟩ := pk_eq h61 (by decide)
   have g := (clsV_badI (hin.mv (Moved.adv _ k61)) hr).ge rfl
   have g : ((q3.1.k + 1 : Nat) : Int) ≤ A := g
   have hkA : q3.1.k < A := by omega
   obtain ⟨q3', e1, r1⟩ := wrd_tok h hw (by omega)
   obtain ⟨q', e2⟩ := clsV_tbad (r1.adv hkA k61 (r1.lt hkA)) hr
   refine ⟨q', ?_⟩
   unfold clsN
   rw [e1]
   dsimp only
   rw [dif_pos ((r1.pk hkA).trans h61)]
   exact e2
  ·rename_i h61
   have g := (clsS_badI hin hr).ge rfl
   obtain ⟨q3', e1, r1⟩ := wrd_tok h hw (by omega)
   obtain ⟨q', e2⟩ := clsS_tbad r1 hr
   refine ⟨q', ?_⟩
   unfold clsN
   rw [e1]
   dsimp only
   rw [dif_neg (fun hh => h61 (by
    have hkA : q3.1.k < A := by
     rcases Nat.lt_or_ge q3.1.k A with h1 | h1
     ·exact h1
     ·have := r1.pkE (Nat.le_antisymm r1.le h1); omega
    rw [← r1.pk hkA]; exact hh))]
   exact e2
theorem cls_tok (h : Ru A p p') {L : List Rg} {q : PX} (hr : runCls p = .ok L q) (hq : q.1.k ≤ A) : ∃ q', runCls p' = .ok L q' ∧ Ru A q q' := by
 unfold runCls at hr
 split at hr
 ·rename_i hk
  split at hr
  ·simp at hr
  ·rename_i h1
   split at hr
   ·simp at hr
   ·rename_i h2
    have k3 := (clsN_k hr).1.k
    have k2 := (runExp_k h2).1.k
    have k1 := (runExp_k h1).1.k
    have k0 : (adv p hk).1.k = p.1.k + 1 := rfl
    have hkA : p.1.k < A := by omega
    obtain ⟨q1', e1, r1⟩ := exp_tok (h.adv hkA hk (h.lt hkA)) h1 (by omega)
    obtain ⟨q2', e2, r2⟩ := exp_tok r1 h2 (by omega)
    obtain ⟨q', e3, r3⟩ := clsN_tok r2 hr hq
    refine ⟨q', ?_, r3⟩
    unfold runCls
    rw [dif_pos (h.lt hkA), e1]
    dsimp only
    rw [e2]
    exact e3
 ·simp at hr
theorem cls_tbad (h : Ru A p p') (hk : p.1.k < p.1.s.size) {q : PX} (hr : runCls p = .bad 3 A q) : ∃ q', runCls p' = .bad 3 A q' := by
 have g := (cls_badI hk hr).ge rfl
 have g : ((p.1.k + 1 : Nat) : Int) ≤ A := g
 have hkA : p.1.k < A := by omega
 have ra := h.adv hkA hk (h.lt hkA)
 unfold runCls at hr
 rw [dif_pos hk] at hr
 split at hr
 ·rename_i h1
  simp at hr
  obtain ⟨rfl, rfl, _⟩ := hr
  obtain ⟨q', e⟩ := exp_tbad ra h1
  exact ⟨q', by unfold runCls; rw [dif_pos (h.lt hkA), e]⟩
 ·rename_i h1
  split at hr
  ·rename_i h2
   simp at hr
   obtain ⟨rfl, rfl, _⟩ := hr
   have g2 := (exp_badI h2).ge rfl
   obtain ⟨q1', e1, r1⟩ := exp_tok ra h1 (by omega)
   obtain ⟨q', e⟩ := exp_tbad r1 h2
   exact ⟨q', by unfold runCls; rw [dif_pos (h.lt hkA), e1]; dsimp only; rw [e]⟩
  ·rename_i h2
   have g2 := (clsN_badI hr).ge rfl
   have k2 := (runExp_k h2).1.k
   obtain ⟨q1', e1, r1⟩ := exp_tok ra h1 (by omega)
   obtain ⟨q2', e2, r2⟩ := exp_tok r1 h2 (by omega)
   obtain ⟨q', e⟩ := clsN_tbad r2 hr
   exact ⟨q', by unfold runCls; rw [dif_pos (h.lt hkA), e1]; dsimp only; rw [e2]; exact e⟩
end
end Go.Proofs
