import Derived.Test.YtcihhjjmcompkaaGreatDoorXl6
import Derived.Test.YtcihhjjmcompkaaGreatDoorQz
set_option linter.unusedVariables false
set_option linter.unusedSimpArgs false
namespace Go.Proofs
open Go Go.Sx
variable {mx : Int} {pb : Bool}
theorem bAt_u8 {s : ByteArray} {k : Nat} (h : k < s.size) : ∃ b : UInt8, b = s.data.toList[k]'h ∧ bAt s k = b.toNat := ⟨_, rfl, bAt_getZ h⟩
theorem wdE_rd : ∀ (w : List UInt8) {p : PX} {c : UInt8} {R : List UInt8}, rem p = w ++ c :: R → (∀ b ∈ w, isW (b.toNat : Int)) → ¬ isW (c.toNat : Int) → wdE p.1.s p.1.k = p.1.k + w.length
 | [], p, c, R, h, _, hc => by
  obtain ⟨hk, e, _⟩ := rem_cons h
  rw [pkV_lt hk] at e
  exact wdE_stop fun hh => hc (by rw [← e]; exact hh.2)
 | b :: w, p, c, R, h, hw, hc => by
  obtain ⟨hk, e, r⟩ := rem_cons h
  rw [pkV_lt hk] at e
  have g := wdE_rd w r (fun x hx => hw x (by simp [hx])) hc
  have g : wdE p.1.s (p.1.k + 1) = p.1.k + 1 + w.length := g
  rw [← wdE_step hk (by rw [e]; exact hw b (by simp)), g, List.length_cons]
  omega
theorem wrd_rd {p : PX} {w : List UInt8} {c : UInt8} {R : List UInt8} (h : rem p = w ++ c :: R) (hw : ∀ b ∈ w, isW (b.toNat : Int)) (hc : ¬ isW (c.toNat : Int)) (h0 : w ≠ []) : ∃ q, runWrd p () = .ok (.tu [.v (.string ⟨⟨w⟩⟩), .v (.int .i64 p.1.k)]) q ∧ rem q = c :: R ∧ Moved p q ∧ q.1.k = p.1.k + w.length := by
 have e := wdE_rd w h hw hc
 have hl : 0 < w.length := List.length_pos_iff.2 h0
 have m : Moved p (wdP p) := ⟨rfl, rfl, (wdF_le _ _ p.2.2.1).1⟩
 have hk : (wdP p).1.k = p.1.k + w.length := e
 refine ⟨wdP p, ?_, ?_, m, hk⟩
 ·unfold runWrd
  rw [if_neg (by omega), e]
  have : bcut p.1.s p.1.k (p.1.k + w.length) = ⟨⟨w⟩⟩ := by
   unfold bcut
   have : (p.1.s.data.toList.take (p.1.k + w.length)).drop p.1.k = w := by
    rw [List.drop_take, show p.1.k + w.length - p.1.k = w.length by omega]
    show (rem p).take w.length = w
    rw [h, List.take_left]
   rw [this]
  rw [this]
 ·show (p.1.s.data.toList).drop (wdP p).1.k = _
  rw [hk, ← List.drop_drop]
  show (rem p).drop w.length = _
  rw [h, List.drop_left]
def clsB1 : List UInt8 := [92, 112, 123]
theorem cls_rd {p : PX} {R : List UInt8} (h : rem p = 92 :: 112 :: 123 :: R) : ∃ q, runCls p = clsN q ∧ rem q = R ∧ Moved p q ∧ q.1.k = p.1.k + 3 := by
 obtain ⟨k0, _, r0⟩ := rem_cons h
 obtain ⟨k1, e1, r1⟩ := rem_cons r0
 obtain ⟨k2, e2, r2⟩ := rem_cons r1
 have e1 : pkV (adv p k0).1 = 112 := e1
 have e2 : pkV (adv (adv p k0) k1).1 = 123 := e2
 have x1 : runExp (adv p k0) 112 = .ok (.tu []) (adv (adv p k0) k1) := dif_pos ⟨k1, e1⟩
 have x2 : runExp (adv (adv p k0) k1) 123 = .ok (.tu []) (adv (adv (adv p k0) k1) k2) := dif_pos ⟨k2, e2⟩
 refine ⟨adv (adv (adv p k0) k1) k2, ?_, r2, (Moved.adv _ _).trans ((Moved.adv _ _).trans (Moved.adv _ _)), rfl⟩
 unfold runCls
 rw [dif_pos k0, x1]
 dsimp only
 rw [x2]
theorem fst_lt {l : List ByteArray} {s : ByteArray} {i : Nat} (hi : i < l.length) (h : l.getD i default = s) (hn : ∀ j, j < i → ¬ l.getD j default = s) : fstI l s = i := by
 unfold fstI
 have g : ∀ j, j < l.length → l.getD j default = l[j]! := fun j hj => by
  rw [getElem!_pos l j hj]; simp [List.getD_eq_getElem?_getD, hj]
 rw [List.findIdx_eq hi]
 refine ⟨eqB_iff.2 ?_, fun j hj => ?_⟩
 ·rw [← h]; simp [List.getD_eq_getElem?_getD, hi]
 ·have hjl : j < l.length := Nat.lt_trans hj hi
  have := hn j hj
  rw [show l.getD j default = l[j] by simp [List.getD_eq_getElem?_getD, hjl]] at this
  rw [← Bool.not_eq_true, eqB_iff]
  exact this
theorem grp_one {n : Nat} {neg : Bool} {p : PX} {hd : List UInt8} {R : List UInt8} (hh : hd = if neg = true then [91, 94] else [91]) (h : rem p = hd ++ 92 :: 112 :: 123 :: R) : ∃ p1, rem p1 = 92 :: 112 :: 123 :: R ∧ Moved p p1 ∧ p1.1.k = p.1.k + hd.length ∧ blP p = p ∧ pkV p.1 = 91 ∧
  (∀ e a q, runItm p1 = .bad e a q → ∃ q', runGrp (n + 1) p = .bad e a q') ∧ ∀ L q, runItm p1 = .ok L q → rem q = [93] → ∃ q', runGrp (n + 1) p = .ok (endG neg [] L) q' ∧ rem q' = [] ∧ Moved p q' := by
 have key : ∀ (f : Nat) (p1 : PX), rem p1 = 92 :: 112 :: 123 :: R → (∀ e a q, runItm p1 = .bad e a q → ∃ q', grpL (runGrp n) neg (f + 1) p1 [] [] = .bad e a q') ∧ ∀ L q, runItm p1 = .ok L q → rem q = [93] → ∃ q', grpL (runGrp n) neg (f + 2) p1 [] [] = .ok (endG neg [] L) q' ∧ rem q' = [] ∧ Moved p1 q' := by
  intro f p1 h1
  have hb := blP_rd h1 (by decide)
  obtain ⟨hk, e, _⟩ := rem_cons h1
  have e : pkV (blP p1).1 = 92 := by rw [hb]; exact e
  constructor
  ·intro e1 a q hr
   refine ⟨q, ?_⟩
   rw [grpL, dif_neg (by rw [e]; decide), dif_neg (by rw [e]; decide), dif_neg (by rw [e]; decide), if_neg (by rw [e]; decide), hb, hr]
  ·intro L q hr hq
   have w := runItm_went hr
   have hbq := blP_rd hq (by decide)
   obtain ⟨kq, eq, rq⟩ := rem_cons hq
   have eq : pkV q.1 = 93 := eq
   rw [grpL, dif_neg (by rw [e]; decide), dif_neg (by rw [e]; decide), dif_neg (by rw [e]; decide), if_neg (by rw [e]; decide), hb, hr]
   dsimp only
   rw [grpL_end (by rw [hbq]; exact eq), List.nil_append]
   refine ⟨_, rfl, ?_, w.mv.trans ((Moved.bl q).trans (Moved.adv _ _))⟩
   have h1 : (blP q).1.k = q.1.k := by rw [hbq]
   unfold rem at rq ⊢
   show List.drop ((blP q).1.k + 1) (q.1.s.data.toList) = []
   rw [h1]
   exact rq
 cases neg with
 | false =>
  obtain rfl : hd = [91] := hh
  have h : rem p = 91 :: 92 :: 112 :: 123 :: R := h
  have hbp := blP_rd h (by decide)
  obtain ⟨k0, e0, r0⟩ := rem_cons h
  have hb1 := blP_rd r0 (by decide)
  obtain ⟨k1, e1, _⟩ := rem_cons r0
  have e1 : pkV (adv p k0).1 = 92 := e1
  refine ⟨adv p k0, r0, Moved.adv _ _, rfl, hbp, e0, ?_⟩
  have hs : p.1.s.size = (p.1.s.size - 1) + 1 := by omega
  rw [runGrp_pos k0 (by rw [hb1, e1]; decide), hb1, hs]
  obtain ⟨g1, g2⟩ := key (p.1.s.size - 1) (adv p k0) r0
  have g1' := (key (p.1.s.size - 1 + 1) (adv p k0) r0).1
  exact ⟨g1', fun L q hr hq => by
   obtain ⟨q', a1, a2, a3⟩ := g2 L q hr hq
   exact ⟨q', a1, a2, (Moved.adv _ _).trans a3⟩⟩
 | true =>
  obtain rfl : hd = [91, 94] := hh
  have h : rem p = 91 :: 94 :: 92 :: 112 :: 123 :: R := h
  have hbp := blP_rd h (by decide)
  obtain ⟨k0, e0, r0⟩ := rem_cons h
  have hb1 := blP_rd r0 (by decide)
  obtain ⟨k1, e1, r1⟩ := rem_cons r0
  have e1 : pkV (adv p k0).1 = 94 := e1
  refine ⟨adv (adv p k0) k1, r1, (Moved.adv _ _).trans (Moved.adv _ _), rfl, hbp, e0, ?_⟩
  have hs : p.1.s.size = (p.1.s.size - 1) + 1 := by omega
  have e2 : pkV (blP (adv p k0)).1 = 94 := by rw [hb1]; exact e1
  have hx : adv (blP (adv p k0)) (pk_eq e2 (by decide)).1 = adv (adv p k0) k1 := Subtype.ext (by show PSt.at _ _ = PSt.at _ _; rw [hb1])
  rw [runGrp_neg k0 e2, hx, hs]
  obtain ⟨g1, g2⟩ := key (p.1.s.size - 1) (adv (adv p k0) k1) r1
  have g1' := (key (p.1.s.size - 1 + 1) (adv (adv p k0) k1) r1).1
  exact ⟨g1', fun L q hr hq => by
   obtain ⟨q', a1, a2, a3⟩ := g2 L q hr hq
   exact ⟨q', a1, a2, ((Moved.adv _ _).trans (Moved.adv _ _)).trans a3⟩⟩
theorem itm_cls {p : PX} {R : List UInt8} (h : rem p = 92 :: 112 :: R) : runItm p = runCls p := by
 have := rem_2 h
 unfold runItm
 rw [if_pos]
 unfold pre2
 exact decide_eq_true ⟨this.1, this.2.1, this.2.2⟩
theorem prs_cls {d : Db} {s : ByteArray} {neg : Bool} {R : List UInt8} (hd : SmD d) (hs : s.size ≤ 65536) (h : s.data.toList = (if neg = true then [91, 94] else [91]) ++ 92 :: 112 :: 123 :: R) :
  ∃ q2, rem q2 = R ∧ q2.1.db = d ∧ q2.1.k = (if neg = true then 5 else 4) ∧ (∀ e a q, clsN q2 = .bad e a q → prs d s = ([], e, a)) ∧ ∀ L q, clsN q2 = .ok L q → rem q = [93] → prs d s = (endG neg [] L, 0, 0) := by
 have hO : OkS d s := ⟨hd, hs⟩
 have hr0 : rem (pst0 d s hO) = (if neg = true then [91, 94] else [91]) ++ 92 :: 112 :: 123 :: R := h
 obtain ⟨p1, r1, m1, k1, b1, e1, g1, g2⟩ := grp_one (n := 16) rfl hr0
 obtain ⟨q2, x, r2, m2, k2⟩ := cls_rd r1
 have hi := itm_cls r1
 rw [x] at hi
 refine ⟨q2, r2, m2.db.trans m1.db, ?_, fun e a q hq => ?_, fun L q hq hr => ?_⟩
 ·rw [k2, k1]
  show 0 + _ + 3 = _
  cases neg <;> rfl
 ·obtain ⟨q', hg⟩ := g1 e a q (hi.trans hq)
  rw [prs_at hO]
  unfold prsP
  rw [b1, if_pos e1, hg]
 ·obtain ⟨q', hg, hr', hm⟩ := g2 L q (hi.trans hq) hr
  have hk := rem_nil hr'
  have hs' : q'.1.s = s := hm.s
  refine whole_prs (L := endG neg [] L) (q := q') (h := hO) ⟨by rw [b1]; exact e1, by rw [b1]; exact hg, ?_, by rw [b1]; exact runGrp_went 17 _ _ _ e1 hg⟩
  rw [blP_id (fun hh => by omega), hk, hs']
theorem clsN_S {p : PX} {w R : List UInt8} (h : rem p = w ++ 125 :: R) (hw : ∀ b ∈ w, isW (b.toNat : Int)) (h0 : w ≠ []) : ∃ q, rem q = R ∧ q.1.db = p.1.db ∧ clsN p = match runFnd q (setFl, ⟨⟨w⟩⟩, p.1.k) with
  | .bad e a q => .bad e a q
  | .ok d q5 => .ok (canon (q5.1.db.sts (dI d).toNat)) q5 := by
 obtain ⟨q3, e3, r3, m3, _⟩ := wrd_rd h hw (by decide) h0
 obtain ⟨k4, e4, r4⟩ := rem_cons r3
 have e4 : pkV q3.1 = 125 := e4
 refine ⟨adv q3 k4, r4, m3.db, ?_⟩
 have x : runExp q3 125 = .ok (.tu []) (adv q3 k4) := dif_pos ⟨k4, e4⟩
 unfold clsN
 rw [e3]
 dsimp only
 rw [dif_neg (by rw [e4]; decide)]
 unfold clsS
 rw [x]
 rfl
theorem clsN_V {p : PX} {w v R : List UInt8} (h : rem p = w ++ 61 :: (v ++ 125 :: R)) (hw : ∀ b ∈ w, isW (b.toNat : Int)) (h0 : w ≠ []) (hv : ∀ b ∈ v, isW (b.toNat : Int)) (h1 : v ≠ []) : ∃ q q7 : PX, q.1.db = p.1.db ∧ rem q7 = R ∧ (∀ a q', runFnd q (prFl, ⟨⟨w⟩⟩, p.1.k) = .bad 6 a q' → clsN p = .bad 6 a q') ∧
  ∀ i : Nat, runFnd q (prFl, ⟨⟨w⟩⟩, p.1.k) = .ok (.v (.int .i64 i)) (ckd q) → fndB (cntP (p.1.db.prs i)).names ⟨⟨v⟩⟩ = true → clsN p = .ok (setV (p.1.db.prs i) (fndV (cntP (p.1.db.prs i)).names ⟨⟨v⟩⟩)) q7 := by
 obtain ⟨q3, e3, r3, m3, _⟩ := wrd_rd h hw (by decide) h0
 obtain ⟨k4, e4, r4⟩ := rem_cons r3
 have e4 : pkV q3.1 = 61 := e4
 have r5 : rem (ckd (adv q3 k4)) = v ++ 125 :: R := r4
 obtain ⟨q6, e6, r6, m6, _⟩ := wrd_rd r5 hv (by decide) h1
 obtain ⟨k7, e7, r7⟩ := rem_cons r6
 have e7 : pkV q6.1 = 125 := e7
 have x : runExp q6 125 = .ok (.tu []) (adv q6 k7) := dif_pos ⟨k7, e7⟩
 have hN : clsN p = clsV ⟨⟨w⟩⟩ p.1.k (adv q3 k4) := by
  unfold clsN
  rw [e3]
  dsimp only
  rw [dif_pos e4]
  rfl
 refine ⟨adv q3 k4, adv q6 k7, m3.db, r7, fun a q' hf => ?_, fun i hf hb => ?_⟩
 ·rw [hN]
  unfold clsV
  rw [hf]
 ·have hdb : (ckd (adv q3 k4)).1.db = p.1.db := m3.db
  rw [hN]
  unfold clsV
  rw [hf]
  dsimp only
  rw [e6]
  dsimp only
  rw [x]
  dsimp only
  rw [hdb, show (dI (.v (.int .i64 (i : Int)))).toNat = i from Int.toNat_natCast i, show dW (.tu [.v (.string ⟨⟨v⟩⟩), .v (.int .i64 (ckd (adv q3 k4)).1.k)]) = ⟨⟨v⟩⟩ from rfl, if_pos hb]
theorem fnd_no6 {q : PX} {x : List ByteArray × ByteArray × Int} (hu : usB q.1.db = false) : runFnd q x = .bad 6 x.2.2 (ckd q) := by
 unfold runFnd
 rw [if_neg (by rw [hu]; rintro ⟨h, _⟩; exact Bool.noConfusion h)]
theorem fnd_yes {q : PX} {l : List ByteArray} {s : ByteArray} {st : Int} {i : Nat} (hu : usB q.1.db = true) (hi : i < l.length) (h : fstI l s = i) : runFnd q (l, s, st) = .ok (.v (.int .i64 i)) (ckd q) := by
 unfold runFnd
 rw [if_pos ⟨hu, by rw [h]; exact hi⟩, h]
end Go.Proofs
