import Derived.Test.YtcihhjjmcompkaaGreatDoorLz
set_option linter.unusedVariables false
set_option linter.unusedSimpArgs false
namespace Go.Proofs
open Go Go.Sx
variable {mx : Int} {pb : Bool}
theorem pk_at {p : PX} {s : ByteArray} {k : Nat} {b : Int} (hs : p.1.s = s) (hk : p.1.k = k) (hlt : k < s.size) (hb : bAt s k = b) : pkV p.1 = b := by
  subst hs; subst hk
  exact pk_of hlt hb
theorem bl_at {p : PX} {s : ByteArray} {k : Nat} (hs : p.1.s = s) (hk : p.1.k = k) (h : bAt s k ≠ 32) : (blP p).1.k = k := by
  subst hs; subst hk
  exact blk_stop fun hh => h hh.2
theorem bl_at1 {p : PX} {s : ByteArray} {k : Nat} (hs : p.1.s = s) (hk : p.1.k = k) (hlt : k < s.size) (h0 : bAt s k = 32) (h : bAt s (k + 1) ≠ 32) : (blP p).1.k = k + 1 := by
  subst hs; subst hk
  show blk _ _ = _
  rw [← blk_step hlt h0]
  exact blk_stop fun hh => h hh.2
theorem mid_x {x s y : ByteArray} {i : Nat} (hi : i < x.size) : bAt (bcat (bcat x s) y) i = bAt x i := by
  rw [bAt_cat, size_cat, if_pos (by omega), bAt_cat, if_pos hi]
theorem mid_y {x s y : ByteArray} (j : Nat) : bAt (bcat (bcat x s) y) (s.size + x.size + j) = bAt y j := by
  rw [bAt_cat, size_cat, if_neg (by omega)]
  congr 1
  omega
theorem whole_of {d : Db} {s : ByteArray} {h : OkS d s} {L : List Rg} {q : PX} (h91 : pkV (blP (pst0 d s h)).1 = 91) (r : runGrp 17 (blP (pst0 d s h)) = .ok L q) (e : (blP q).1.k = s.size) : Whole d s h L q := ⟨h91, r, e, runGrp_went 17 _ _ _ h91 r⟩
def fullR : List Rg := [(0, 1114111)]
theorem endG_t {L : List Rg} (h : Canon L) : endG true [] L = combL fullR L 3 := by
  unfold endG
  rw [if_pos rfl, canon_id h, or_nilL h]
  rfl
theorem endG_f {L : List Rg} (h : Canon L) : endG false [] L = L := by
  unfold endG
  rw [if_neg (by decide), canon_id h, or_nilL h]
theorem not_not {L : List Rg} (h : Canon L) : combL fullR (combL fullR L 3) 3 = L := by
  obtain ⟨h1, h2⟩ := comb_spec fullR (combL fullR L 3) 3
  obtain ⟨h3, h4⟩ := comb_spec fullR L 3
  have k3 : ∀ x y, keepsB 3 x y = (x && !y) := fun x y => by simp [keepsB]
  have hf : ∀ c, (0 ≤ c ∧ c ≤ 1114111) → hasB fullR c = true := fun c hc => hasB_iff.2 ⟨hc, (0, 1114111), by simp [fullR], hc⟩
  refine canon_unique h1 h fun c => ?_
  rw [h2]
  constructor
  · rintro ⟨hb, hk⟩
    rw [k3, hf c hb, Bool.true_and, Bool.not_eq_true', ← Bool.not_eq_true, hasB_iff] at hk
    by_cases hL : inR L c
    · exact hL
    · refine absurd ⟨hb, (h4 c).2 ⟨hb, ?_⟩⟩ hk
      rw [k3, hf c hb, Bool.true_and, Bool.not_eq_true', ← Bool.not_eq_true, hasB_iff]
      exact fun hh => hL hh.2
  · intro hc
    have hb : 0 ≤ c ∧ c ≤ 1114111 := by
      obtain ⟨r, hr, h3, h4⟩ := hc
      have := h.ok r hr
      omega
    refine ⟨hb, ?_⟩
    rw [k3, hf c hb, Bool.true_and, Bool.not_eq_true', ← Bool.not_eq_true, hasB_iff]
    intro hh
    have := ((h4 c).1 hh.2).2
    rw [k3, hf c hb, Bool.true_and, Bool.not_eq_true', ← Bool.not_eq_true, hasB_iff] at this
    exact this ⟨hb, hc⟩
def shutB1 : ByteArray := ⟨#[93]⟩
def cmpA : ByteArray := ⟨#[91, 94]⟩
def cmpS1 (s : ByteArray) : ByteArray := bcat (bcat cmpA s) shutB1
def cmpB : ByteArray := ⟨#[32, 91, 94, 32, 91, 32, 94]⟩
def cmpC : ByteArray := ⟨#[93, 32, 93, 32]⟩
def cmpS2 (s : ByteArray) : ByteArray := bcat (bcat cmpB s) cmpC
theorem cmp1 {d : Db} {s : ByteArray} {h : OkS d s} {L : List Rg} {q : PX} (w : Whole d s h L q) (hu : usB d = false) (hs : s.size ≤ 80) (hc : c91 s s.size ≤ 6) : prs d (cmpS1 s) = (combL fullR L 3, 0, 0) := by
  have hsz : (cmpS1 s).size = s.size + 3 := by unfold cmpS1; rw [size_cat, size_cat]; show 2 + s.size + 1 = _; omega
  have h' : OkS d (cmpS1 s) := ⟨h.1, by omega⟩
  have b0 : bAt (cmpS1 s) 0 = 91 := mid_x (x := cmpA) (by decide)
  have b1 : bAt (cmpS1 s) 1 = 94 := mid_x (x := cmpA) (by decide)
  have b2 : bAt (cmpS1 s) (s.size + 2) = 93 := mid_y (x := cmpA) (y := shutB1) 0
  have e0 : (blP (pst0 d (cmpS1 s) h')).1.k = 0 := bl_at (s := cmpS1 s) rfl rfl (by rw [b0]; decide)
  have p0 : pkV (blP (pst0 d (cmpS1 s) h')).1 = 91 := pk_at (s := cmpS1 s) rfl e0 (by omega) b0
  have k0 : (blP (pst0 d (cmpS1 s) h')).1.k < (blP (pst0 d (cmpS1 s) h')).1.s.size := by rw [e0]; show 0 < (cmpS1 s).size; omega
  have e1 : (blP (adv (blP (pst0 d (cmpS1 s) h')) k0)).1.k = 1 := bl_at (s := cmpS1 s) rfl (by rw [adv_k, e0]) (by rw [b1]; decide)
  have p1 : pkV (blP (adv (blP (pst0 d (cmpS1 s) h')) k0)).1 = 94 := pk_at (s := cmpS1 s) rfl e1 (by omega) b1
  have hr := runGrp_neg (n := 16) k0 p1
  generalize hp2 : adv (blP (adv (blP (pst0 d (cmpS1 s) h')) k0)) (pk_eq p1 (by decide)).1 = p2 at hr
  have s2 : p2.1.s = cmpS1 s := by rw [← hp2]; rfl
  have k2 : p2.1.k = 2 := by rw [← hp2, adv_k, e1]
  have d2 : p2.1.db = d := by rw [← hp2]; rfl
  have r2 : Rl 2 (pst0 d s h) p2 := ⟨by rw [s2]; exact emb_mid cmpA s shutB1, d2, by rw [k2]; rfl⟩
  obtain ⟨p3, q', g1, g2, g3⟩ := whole_in w hu (m := 16) (by omega) r2 (by rw [s2, hsz]; omega) (by rw [s2, b2]; decide)
  have sq : q'.1.s = cmpS1 s := g3.s.trans s2
  have p4 : pkV (blP q').1 = 93 := pk_at (s := cmpS1 s) sq g2 (by omega) b2
  have hfuel : (blP (pst0 d (cmpS1 s) h')).1.s.size + 1 = ((cmpS1 s).size - 1) + 1 + 1 := by show (cmpS1 s).size + 1 = _; omega
  rw [hfuel, grpL_sub p3 g1, grpL_end p4, List.nil_append, endG_t w.w.canon] at hr
  exact whole_prs (whole_of p0 hr (by
    have h1 := blP_le (adv (blP q') (pk_eq p4 (by decide)).1)
    have h1 : (blP q').1.k + 1 ≤ (blP (adv (blP q') (pk_eq p4 (by decide)).1)).1.k := h1
    have h2 := (blP (adv (blP q') (pk_eq p4 (by decide)).1)).2.2.1
    have h2 : (blP (adv (blP q') (pk_eq p4 (by decide)).1)).1.k ≤ q'.1.s.size := h2
    rw [sq] at h2
    omega))
theorem cmp2 {d : Db} {s : ByteArray} {h : OkS d s} {L : List Rg} {q : PX} (w : Whole d s h L q) (hu : usB d = false) (hs : s.size ≤ 80) (hc : c91 s s.size ≤ 6) : prs d (cmpS2 s) = (L, 0, 0) := by
  have hsz : (cmpS2 s).size = s.size + 11 := by unfold cmpS2; rw [size_cat, size_cat]; show 7 + s.size + 4 = _; omega
  have h' : OkS d (cmpS2 s) := ⟨h.1, by omega⟩
  have b0 : bAt (cmpS2 s) 0 = 32 := mid_x (x := cmpB) (by decide)
  have b1 : bAt (cmpS2 s) 1 = 91 := mid_x (x := cmpB) (by decide)
  have b2 : bAt (cmpS2 s) 2 = 94 := mid_x (x := cmpB) (by decide)
  have b3 : bAt (cmpS2 s) 3 = 32 := mid_x (x := cmpB) (by decide)
  have b4 : bAt (cmpS2 s) 4 = 91 := mid_x (x := cmpB) (by decide)
  have b5 : bAt (cmpS2 s) 5 = 32 := mid_x (x := cmpB) (by decide)
  have b6 : bAt (cmpS2 s) 6 = 94 := mid_x (x := cmpB) (by decide)
  have c0 : bAt (cmpS2 s) (s.size + 7) = 93 := mid_y (x := cmpB) (y := cmpC) 0
  have c1 : bAt (cmpS2 s) (s.size + 8) = 32 := mid_y (x := cmpB) (y := cmpC) 1
  have c2 : bAt (cmpS2 s) (s.size + 9) = 93 := mid_y (x := cmpB) (y := cmpC) 2
  have c3 : bAt (cmpS2 s) (s.size + 10) = 32 := mid_y (x := cmpB) (y := cmpC) 3
  have e0 : (blP (pst0 d (cmpS2 s) h')).1.k = 1 := bl_at1 (s := cmpS2 s) (k := 0) rfl rfl (by omega) b0 (by rw [b1]; decide)
  have p0 : pkV (blP (pst0 d (cmpS2 s) h')).1 = 91 := pk_at (s := cmpS2 s) rfl e0 (by omega) b1
  have k0 : (blP (pst0 d (cmpS2 s) h')).1.k < (blP (pst0 d (cmpS2 s) h')).1.s.size := by rw [e0]; show 1 < (cmpS2 s).size; omega
  have e1 : (blP (adv (blP (pst0 d (cmpS2 s) h')) k0)).1.k = 2 := bl_at (s := cmpS2 s) rfl (by rw [adv_k, e0]) (by rw [b2]; decide)
  have p1 : pkV (blP (adv (blP (pst0 d (cmpS2 s) h')) k0)).1 = 94 := pk_at (s := cmpS2 s) rfl e1 (by omega) b2
  have hr := runGrp_neg (n := 16) k0 p1
  generalize hp2 : adv (blP (adv (blP (pst0 d (cmpS2 s) h')) k0)) (pk_eq p1 (by decide)).1 = p2 at hr
  have s2 : p2.1.s = cmpS2 s := by rw [← hp2]; rfl
  have k2 : p2.1.k = 3 := by rw [← hp2, adv_k, e1]
  have d2 : p2.1.db = d := by rw [← hp2]; rfl
  have e3 : (blP p2).1.k = 4 := bl_at1 s2 k2 (by omega) b3 (by rw [b4]; decide)
  have p3 : pkV (blP p2).1 = 91 := pk_at (s := cmpS2 s) s2 e3 (by omega) b4
  have k3 : (blP p2).1.k < (blP p2).1.s.size := by rw [e3]; show 4 < p2.1.s.size; rw [s2]; omega
  have e4 : (blP (adv (blP p2) k3)).1.k = 6 := bl_at1 (s := cmpS2 s) (k := 5) s2 (by rw [adv_k, e3]) (by omega) b5 (by rw [b6]; decide)
  have p4 : pkV (blP (adv (blP p2) k3)).1 = 94 := pk_at (s := cmpS2 s) s2 e4 (by omega) b6
  have hi := runGrp_neg (n := 15) k3 p4
  generalize hp5 : adv (blP (adv (blP p2) k3)) (pk_eq p4 (by decide)).1 = p5 at hi
  have s5 : p5.1.s = cmpS2 s := by rw [← hp5]; exact s2
  have k5 : p5.1.k = 7 := by rw [← hp5, adv_k, e4]
  have d5 : p5.1.db = d := by rw [← hp5]; exact d2
  have r5 : Rl 7 (pst0 d s h) p5 := ⟨by rw [s5]; exact emb_mid cmpB s cmpC, d5, by rw [k5]; rfl⟩
  obtain ⟨p6, q', g1, g2, g3⟩ := whole_in w hu (m := 15) (by omega) r5 (by rw [s5, hsz]; omega) (by rw [s5, c0]; decide)
  have sq : q'.1.s = cmpS2 s := g3.s.trans s5
  have p7 : pkV (blP q').1 = 93 := pk_at (s := cmpS2 s) sq g2 (by omega) c0
  have hf2 : (blP p2).1.s.size + 1 = ((cmpS2 s).size - 1) + 1 + 1 := by show p2.1.s.size + 1 = _; rw [s2]; omega
  have hf1 : (blP (pst0 d (cmpS2 s) h')).1.s.size + 1 = ((cmpS2 s).size - 1) + 1 + 1 := by show (cmpS2 s).size + 1 = _; omega
  rw [hf2, grpL_sub p6 g1, grpL_end p7, List.nil_append, endG_t w.w.canon] at hi
  generalize hq2 : adv (blP q') (pk_eq p7 (by decide)).1 = q2 at hi
  have sq2 : q2.1.s = cmpS2 s := by rw [← hq2]; exact sq
  have kq2 : q2.1.k = s.size + 8 := by rw [← hq2, adv_k, g2]
  have e8 : (blP q2).1.k = s.size + 9 := bl_at1 sq2 kq2 (by omega) c1 (by rw [c2]; decide)
  have p8 : pkV (blP q2).1 = 93 := pk_at (s := cmpS2 s) sq2 e8 (by omega) c2
  have hC : Canon (combL fullR L 3) := (comb_spec _ _ _).1
  rw [hf1, grpL_sub p3 hi, grpL_end p8, List.nil_append, endG_t hC, not_not w.w.canon] at hr
  exact whole_prs (whole_of p0 hr (by
    show blk q2.1.s ((blP q2).1.k + 1) = _
    rw [e8, sq2, show s.size + 9 + 1 = s.size + 10 by omega, ← blk_step (by omega) c3]
    rw [show s.size + 10 + 1 = (cmpS2 s).size by omega]
    exact blk_stop fun hh => by omega))
end Go.Proofs
