import Derived.Test.YtcihhjjmcompkaaGreatDoorXl4
set_option linter.unusedVariables false
set_option linter.unusedSimpArgs false
namespace Go.Proofs
open Go Go.Sx
variable {mx : Int} {pb : Bool}
theorem cat_l {x y : ByteArray} {i : Nat} (hi : i < x.size) : bAt (bcat x y) i = bAt x i := by rw [bAt_cat, if_pos hi]
theorem cat_r {x y : ByteArray} (j n : Nat) (hn : n = x.size + j) : bAt (bcat x y) n = bAt y j := by
  subst hn
  rw [bAt_cat, if_neg (by omega)]
  congr 1
  omega
def opnB : ByteArray := ⟨#[91]⟩
structure Begun (d : Db) (S : ByteArray) (h : OkS d S) (o : Nat) (L : List Rg) (q : PX) : Prop where
  b : pkV (blP (pst0 d S h)).1 = 91
  r : runGrp 17 (blP (pst0 d S h)) = grpL (runGrp 16) false S.size q [] L
  k : (blP q).1.k = blk S o
  s : q.1.s = S
  db : q.1.db = d
theorem begun {d : Db} {s : ByteArray} {h : OkS d s} {L : List Rg} {q : PX} (w : Whole d s h L q) (hu : usB d = false) (hc : c91 s s.size ≤ 6) {S : ByteArray} (h' : OkS d S) (b0 : bAt S 0 = 91) (e : Emb 1 s S) : ∃ q', Begun d S h' (s.size + 1) L q' := by
  have hsz := e.sz
  have hl := whole_lt w
  have e0 : (blP (pst0 d S h')).1.k = 0 := bl_at (s := S) rfl rfl (by rw [b0]; decide)
  have p0 : pkV (blP (pst0 d S h')).1 = 91 := pk_at (s := S) rfl e0 (by omega) b0
  have k0 : (blP (pst0 d S h')).1.k < (blP (pst0 d S h')).1.s.size := by rw [e0]; show 0 < S.size; omega
  have k1 : (adv (blP (pst0 d S h')) k0).1.k = 1 := by rw [adv_k, e0]
  have rb : Rl 1 (blP (pst0 d s h)) (blP (adv (blP (pst0 d S h')) k0)) := rl_bl hl e rfl (by show blk S _ = _; rw [k1]; rfl)
  obtain ⟨p1, q', g1, g2, g3⟩ := whole_in2 w hu (m := 16) (by omega) rb
  have hr := runGrp_pos (n := 16) k0 (by rw [p1]; decide)
  have i1 : blP (blP (adv (blP (pst0 d S h')) k0)) = blP (adv (blP (pst0 d S h')) k0) := blP_id' (by rw [p1]; decide)
  have hf : (blP (pst0 d S h')).1.s.size + 1 = S.size + 1 := rfl
  rw [hf, grpL_sub (by rw [i1]; exact p1) (by rw [i1]; exact g1), List.nil_append] at hr
  exact ⟨q', p0, hr, g2, g3.s, g3.db⟩
theorem fin_prs {d : Db} {S : ByteArray} {h : OkS d S} {o f : Nat} {L A I : List Rg} {q q2 : PX} (g : Begun d S h o L q) (hr : grpL (runGrp 16) false S.size q [] L = grpL (runGrp 16) false (f + 1) q2 A I) (hs : q2.1.s = S) (hk : (blP q2).1.k + 1 = S.size) (hb : bAt S (blP q2).1.k = 93) : prs d S = (endG false A I, 0, 0) := by
  have p : pkV (blP q2).1 = 93 := pk_at (s := S) hs rfl (by omega) hb
  have r := g.r
  rw [hr, grpL_end p] at r
  refine whole_prs (whole_of g.b r ?_)
  show blk q2.1.s ((blP q2).1.k + 1) = _
  rw [hk, hs]
  exact blk_stop fun hh => by omega
def oprOr (s t : ByteArray) : ByteArray := bcat (bcat (bcat opnB s) t) shutB1
def oprBk (s t : ByteArray) : ByteArray := bcat (bcat (bcat (bcat opnB s) ⟨#[32]⟩) t) shutB1
def oprAn (s t : ByteArray) : ByteArray := bcat (bcat (bcat (bcat opnB s) ⟨#[38]⟩) t) shutB1
def oprMi (s t : ByteArray) : ByteArray := bcat (bcat (bcat (bcat opnB s) ⟨#[32, 45, 45, 32]⟩) t) shutB1
section
variable {d : Db} {s t : ByteArray} {h : OkS d s} {g : OkS d t} {L K : List Rg} {q r : PX}
theorem emb1 (y : ByteArray) : Emb 1 s (bcat (bcat opnB s) y) := (emb_end opnB s).app y
theorem opr_sub (w : Whole d s h L q) (v : Whole d t g K r) (hu : usB d = false) (hct : c91 t t.size ≤ 6) {S : ByteArray} {h' : OkS d S} {o o2 : Nat} {q1 : PX} (b : Begun d S h' o L q1) (ho : blk S o = blk S o2) (e : Emb o2 t S) (hsz : S.size = t.size + o2 + 1) (hb : bAt S (t.size + o2) = 93) (ho2 : 1 ≤ o2) : prs d S = (endG false [] (L ++ K), 0, 0) := by
  have rb : Rl o2 (blP (pst0 d t g)) (blP q1) := rl_bl (whole_lt v) (by rw [b.s]; exact e) b.db (by rw [b.k, b.s, ho])
  obtain ⟨p1, q', g1, g2, g3⟩ := whole_in2 v hu (m := 16) (by omega) rb
  have hs := g3.s.trans b.s
  have hk : (blP q').1.k = t.size + o2 := by rw [g2, b.s]; exact blk_stop fun hh => by rw [hb] at hh; exact absurd hh.2 (by decide)
  refine fin_prs (f := t.size + o2 - 1) (q2 := q') (A := []) (I := L ++ K) b ?_ hs (by omega) (by rw [hk]; exact hb)
  rw [hsz, show t.size + o2 + 1 = (t.size + o2) + 1 by omega, grpL_sub p1 g1]
  congr 1
  omega
theorem or_sz : (oprOr s t).size = t.size + (s.size + 1) + 1 := by unfold oprOr; simp only [size_cat]; show 1 + s.size + t.size + 1 = _; omega
theorem op_or (w : Whole d s h L q) (v : Whole d t g K r) (hu : usB d = false) (hs : s.size ≤ 80) (ht : t.size ≤ 80) (hc : c91 s s.size ≤ 6) (hct : c91 t t.size ≤ 6) : prs d (oprOr s t) = (endG false [] (L ++ K), 0, 0) := by
  have hsz := or_sz (s := s) (t := t)
  have h' : OkS d (oprOr s t) := ⟨h.1, by omega⟩
  have e : Emb (s.size + 1) t (oprOr s t) := by
    have := (emb_end (bcat opnB s) t).app shutB1
    rw [size_cat, show opnB.size + s.size = s.size + 1 from Nat.add_comm _ _] at this
    exact this
  obtain ⟨q1, b⟩ := begun w hu hc h' (by unfold oprOr; rw [cat_l (by simp only [size_cat]; show 0 < 1 + s.size + t.size; omega), cat_l (by simp only [size_cat]; show 0 < 1 + s.size; omega), cat_l (by decide)]; rfl) ((emb1 t).app shutB1)
  exact opr_sub w v hu hct b rfl e hsz (by unfold oprOr; exact cat_r 0 _ (by simp only [size_cat]; show _ = 1 + s.size + t.size + 0; omega)) (by omega)
theorem bk_sz (m : ByteArray) : (bcat (bcat (bcat (bcat opnB s) m) t) shutB1).size = t.size + (s.size + 1 + m.size) + 1 := by simp only [size_cat]; show 1 + s.size + m.size + t.size + 1 = _; omega
theorem bk_emb (m : ByteArray) : Emb (s.size + 1 + m.size) t (bcat (bcat (bcat (bcat opnB s) m) t) shutB1) := by
  have := (emb_end (bcat (bcat opnB s) m) t).app shutB1
  rw [size_cat, size_cat, show opnB.size + s.size = s.size + 1 from Nat.add_comm _ _] at this
  exact this
theorem bk_0 (m : ByteArray) : bAt (bcat (bcat (bcat (bcat opnB s) m) t) shutB1) 0 = 91 := by
  rw [cat_l (by simp only [size_cat]; show 0 < 1 + s.size + m.size + t.size; omega), cat_l (by simp only [size_cat]; show 0 < 1 + s.size + m.size; omega), cat_l (by simp only [size_cat]; show 0 < 1 + s.size; omega), cat_l (by decide)]; rfl
theorem bk_m (m : ByteArray) {j : Nat} (hj : j < m.size) : bAt (bcat (bcat (bcat (bcat opnB s) m) t) shutB1) (s.size + 1 + j) = bAt m j := by
  rw [cat_l (by simp only [size_cat]; show _ < 1 + s.size + m.size + t.size; omega), cat_l (by simp only [size_cat]; show _ < 1 + s.size + m.size; omega)]
  exact cat_r j _ (by simp only [size_cat]; show _ = 1 + s.size + j; omega)
theorem bk_e (m : ByteArray) : bAt (bcat (bcat (bcat (bcat opnB s) m) t) shutB1) (t.size + (s.size + 1 + m.size)) = 93 :=
  cat_r 0 _ (by simp only [size_cat]; show _ = 1 + s.size + m.size + t.size + 0; omega)
theorem op_bk (w : Whole d s h L q) (v : Whole d t g K r) (hu : usB d = false) (hs : s.size ≤ 80) (ht : t.size ≤ 80) (hc : c91 s s.size ≤ 6) (hct : c91 t t.size ≤ 6) : prs d (oprBk s t) = (endG false [] (L ++ K), 0, 0) := by
  have hsz : (oprBk s t).size = t.size + (s.size + 1 + 1) + 1 := bk_sz ⟨#[32]⟩
  have h' : OkS d (oprBk s t) := ⟨h.1, by omega⟩
  have b32 : bAt (oprBk s t) (s.size + 1) = 32 := bk_m ⟨#[32]⟩ (j := 0) (by decide)
  obtain ⟨q1, b⟩ := begun w hu hc h' (bk_0 ⟨#[32]⟩) (((emb1 ⟨#[32]⟩).app t).app shutB1)
  exact opr_sub w v hu hct b (blk_step (by omega) b32).symm (bk_emb ⟨#[32]⟩) hsz (bk_e ⟨#[32]⟩) (by omega)
theorem op_an (w : Whole d s h L q) (v : Whole d t g K r) (hu : usB d = false) (hs : s.size ≤ 80) (ht : t.size ≤ 80) (hc : c91 s s.size ≤ 6) (hct : c91 t t.size ≤ 6) : prs d (oprAn s t) = (endG false (combL (combL [] (canon L) 1) K 2) [], 0, 0) := by
  have hsz : (oprAn s t).size = t.size + (s.size + 1 + 1) + 1 := bk_sz ⟨#[38]⟩
  have h' : OkS d (oprAn s t) := ⟨h.1, by omega⟩
  have b38 : bAt (oprAn s t) (s.size + 1) = 38 := bk_m ⟨#[38]⟩ (j := 0) (by decide)
  obtain ⟨q1, b⟩ := begun w hu hc h' (bk_0 ⟨#[38]⟩) (((emb1 ⟨#[38]⟩).app t).app shutB1)
  have hk : (blP q1).1.k = s.size + 1 := by rw [b.k]; exact blk_stop fun hh => by have := hh.2; omega
  have p : pkV (blP q1).1 = 38 := pk_at (s := oprAn s t) b.s hk (by omega) b38
  have rb : Rl (s.size + 1 + 1) (blP (pst0 d t g)) (blP (adv (blP q1) (pk_eq p (by decide)).1)) := rl_bl (whole_lt v) (by show Emb _ t q1.1.s; rw [b.s]; exact bk_emb ⟨#[38]⟩) b.db (by show blk q1.1.s ((blP q1).1.k + 1) = blk q1.1.s _; rw [hk])
  obtain ⟨p1, q', g1, g2, g3⟩ := whole_in2 v hu (m := 16) (by omega) rb
  have hs' : q'.1.s = oprAn s t := g3.s.trans b.s
  have hk' : (blP q').1.k = t.size + (s.size + 1 + 1) := by
    rw [g2]
    show blk q1.1.s _ = _
    rw [b.s]
    exact blk_stop fun hh => by have := bk_e (s := s) (t := t) ⟨#[38]⟩; have h2 := hh.2; unfold oprAn at h2; rw [show s.size + 1 + 1 = s.size + 1 + (⟨#[38]⟩ : ByteArray).size from rfl, this] at h2; exact absurd h2 (by decide)
  refine fin_prs (f := t.size + (s.size + 1 + 1) - 1) (q2 := q') b ?_ hs' (by omega) (by rw [hk']; exact bk_e ⟨#[38]⟩)
  rw [hsz, grpL_and p p1 g1]
  congr 1
theorem op_mi (w : Whole d s h L q) (v : Whole d t g K r) (hu : usB d = false) (hs : s.size ≤ 80) (ht : t.size ≤ 80) (hc : c91 s s.size ≤ 6) (hct : c91 t t.size ≤ 6) : prs d (oprMi s t) = (endG false (combL (combL [] (canon L) 1) K 3) [], 0, 0) := by
  have hsz : (oprMi s t).size = t.size + (s.size + 1 + 4) + 1 := bk_sz ⟨#[32, 45, 45, 32]⟩
  have h' : OkS d (oprMi s t) := ⟨h.1, by omega⟩
  have b0 : bAt (oprMi s t) (s.size + 1) = 32 := bk_m ⟨#[32, 45, 45, 32]⟩ (j := 0) (by decide)
  have b1 : bAt (oprMi s t) (s.size + 1 + 1) = 45 := bk_m ⟨#[32, 45, 45, 32]⟩ (j := 1) (by decide)
  have b2 : bAt (oprMi s t) (s.size + 1 + 2) = 45 := bk_m ⟨#[32, 45, 45, 32]⟩ (j := 2) (by decide)
  have b3 : bAt (oprMi s t) (s.size + 1 + 3) = 32 := bk_m ⟨#[32, 45, 45, 32]⟩ (j := 3) (by decide)
  have be : bAt (oprMi s t) (t.size + (s.size + 1 + 4)) = 93 := bk_e ⟨#[32, 45, 45, 32]⟩
  obtain ⟨q1, b⟩ := begun w hu hc h' (bk_0 ⟨#[32, 45, 45, 32]⟩) (((emb1 ⟨#[32, 45, 45, 32]⟩).app t).app shutB1)
  have hk : (blP q1).1.k = s.size + 1 + 1 := by rw [b.k, ← blk_step (by omega) b0]; exact blk_stop fun hh => by have := hh.2; omega
  have p : pkV (blP q1).1 = 45 := pk_at (s := oprMi s t) b.s hk (by omega) b1
  have pb : pkV (adv (blP q1) (pk_eq p (by decide)).1).1 = 45 := pk_at (s := oprMi s t) b.s (by rw [adv_k, hk]) (by omega) b2
  have rb : Rl (s.size + 1 + 4) (blP (pst0 d t g)) (blP (adv (adv (blP q1) (pk_eq p (by decide)).1) (pk_eq pb (by decide)).1)) := rl_bl (whole_lt v) (by show Emb _ t q1.1.s; rw [b.s]; exact bk_emb ⟨#[32, 45, 45, 32]⟩) b.db (by
    show blk q1.1.s ((blP q1).1.k + 1 + 1) = blk q1.1.s _
    rw [hk, b.s, show s.size + 1 + 1 + 1 + 1 = s.size + 1 + 3 by omega]
    exact (blk_step (by omega) b3).symm)
  obtain ⟨p1, q', g1, g2, g3⟩ := whole_in2 v hu (m := 16) (by omega) rb
  have hs' : q'.1.s = oprMi s t := g3.s.trans b.s
  have hk' : (blP q').1.k = t.size + (s.size + 1 + 4) := by
    rw [g2]
    show blk q1.1.s _ = _
    rw [b.s]
    exact blk_stop fun hh => by rw [be] at hh; exact absurd hh.2 (by decide)
  refine fin_prs (f := t.size + (s.size + 1 + 4) - 1) (q2 := q') b ?_ hs' (by omega) (by rw [hk']; exact be)
  rw [hsz, grpL_min p pb p1 g1]
  congr 1
end
theorem or_app {L K : List Rg} : endG false [] (L ++ K) = combL L K 1 := by
  unfold endG
  rw [if_neg (by decide), or_nilL (canon_canon _)]
  obtain ⟨h1, h2⟩ := comb_spec L K 1
  refine (canon_of h1 fun c => ?_).symm
  have k1 : ∀ x y, keepsB 1 x y = (x || y) := fun x y => by simp [keepsB]
  rw [h2, k1, Bool.or_eq_true, hasB_iff, hasB_iff, inR_append]
  constructor
  · rintro ⟨h3, h4 | h4⟩
    · exact ⟨h3, .inl h4.2⟩
    · exact ⟨h3, .inr h4.2⟩
  · rintro ⟨h3, h4 | h4⟩
    · exact ⟨h3, .inl ⟨h3, h4⟩⟩
    · exact ⟨h3, .inr ⟨h3, h4⟩⟩
theorem or_comm {L K : List Rg} : combL L K 1 = combL K L 1 := by
  obtain ⟨h1, h2⟩ := comb_spec L K 1
  obtain ⟨h3, h4⟩ := comb_spec K L 1
  have k1 : ∀ x y, keepsB 1 x y = (x || y) := fun x y => by simp [keepsB]
  exact canon_unique h1 h3 fun c => by rw [h2, h4, k1, k1, Bool.or_comm]
theorem or_nilR {l : List Rg} (h : Canon l) : combL l [] 1 = l := by rw [comb_or_nil, canon_id h]
theorem end_op {L K : List Rg} (hL : Canon L) (op : Int) : endG false (combL (combL [] (canon L) 1) K op) [] = combL L K op := by
  unfold endG
  rw [if_neg (by decide), canon_id hL, or_nilL hL]
  show combL (combL L K op) (canon []) 1 = _
  rw [show canon [] = [] from rfl]
  exact or_nilR (comb_spec _ _ _).1
end Go.Proofs
