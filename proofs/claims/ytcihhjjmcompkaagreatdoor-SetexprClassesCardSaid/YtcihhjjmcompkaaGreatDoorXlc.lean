import Derived.Test.YtcihhjjmcompkaaGreatDoorXla
import Derived.Test.YtcihhjjmcompkaaGreatDoorXl4
set_option linter.unusedVariables false
set_option linter.unusedSimpArgs false
namespace Go.Proofs
open Go Go.Sx
variable {mx : Int} {pb : Bool}
def casL : List UInt8 := [99, 97, 115, 101, 100]
def linL : List UInt8 := [108, 105, 110, 101]
def othL : List UInt8 := [79, 116, 104, 101, 114]
def ignL : List UInt8 := [105, 103, 110, 111, 114, 97, 98, 108, 101]
def casS : ByteArray := ⟨#[91, 92, 112, 123, 99, 97, 115, 101, 100, 125, 93]⟩
def linS : ByteArray := ⟨#[91, 92, 112, 123, 108, 105, 110, 101, 61, 79, 116, 104, 101, 114, 125, 93]⟩
def ignS : ByteArray := ⟨#[91, 94, 92, 112, 123, 105, 103, 110, 111, 114, 97, 98, 108, 101, 125, 93]⟩
def opnC : ByteArray := ⟨#[91, 92, 112, 123]⟩
def eqC : ByteArray := ⟨#[61]⟩
def endC : ByteArray := ⟨#[125, 93]⟩
def valC (f n : ByteArray) : ByteArray := bcat (bcat (bcat (bcat opnC f) eqC) n) endC
theorem prs_cas {d : Db} (hd : SmD d) (hu : usB d = false) : prs d casS = ([], 6, 4) := by
 obtain ⟨q2, r2, db2, k2, g1, _⟩ := prs_cls (neg := false) (R := casL ++ 125 :: [93]) (s := casS) hd (by decide) rfl
 obtain ⟨q, _, db, e⟩ := clsN_S r2 (by unfold isW; decide) (by decide)
 rw [fnd_no6 (by rw [db, db2]; exact hu)] at e
 have k2 : q2.1.k = 4 := k2
 have e : clsN q2 = .bad 6 (q2.1.k : Int) (ckd q) := e
 rw [k2] at e
 exact g1 6 4 _ e
theorem prs_lin {d : Db} (hd : SmD d) (hu : usB d = false) : prs d linS = ([], 6, 4) := by
 obtain ⟨q2, r2, db2, k2, g1, _⟩ := prs_cls (neg := false) (R := linL ++ 61 :: (othL ++ 125 :: [93])) (s := linS) hd (by decide) rfl
 obtain ⟨q, q7, db, _, gb, _⟩ := clsN_V r2 (by unfold isW; decide) (by decide) (by unfold isW; decide) (by decide)
 have e := gb _ _ (fnd_no6 (by rw [db, db2]; exact hu))
 have k2 : q2.1.k = 4 := k2
 have e : clsN q2 = .bad 6 (q2.1.k : Int) (ckd q) := e
 rw [k2] at e
 exact g1 6 4 _ e
theorem nameC_w {b : Int} (h : nameC b = true) : isW b := by
 simp only [nameC, Bool.or_eq_true, Bool.and_eq_true, decide_eq_true_eq, beq_iff_eq] at h
 unfold isW
 omega
theorem name_w {s : ByteArray} (h : isNameB s = true) : s.data.toList ≠ [] ∧ ∀ b ∈ s.data.toList, isW (b.toNat : Int) := by
 simp only [isNameB, Bool.and_eq_true, decide_eq_true_eq, List.all_eq_true, List.mem_range] at h
 refine ⟨fun e => ?_, fun b hb => ?_⟩
 ·have h1 := h.1.1
  have : s.size = s.data.toList.length := rfl
  rw [this, e] at h1
  exact absurd h1 (by decide)
 ·obtain ⟨i, hi, rfl⟩ := List.getElem_of_mem hb
  have h2 := h.2 i hi
  rw [bAt_getZ hi] at h2
  exact nameC_w h2
theorem us_val {d : Db} (hu : usB d = true) : ∀ p, p < 7 → prOk (d.prs p) := fun p hp => by
 have h0 : dbE d = 0 := of_decide_eq_true hu
 unfold dbE at h0
 split at h0
 ·have h1 := firstE_all h0 (p + 1) (by omega)
  have h2 : ptE (partOf d p) = 0 := h1
  have h3 : partOf d p = .pr (d.prs p) := by
   match p, hp with
   | 0, _ => rfl
   | 1, _ => rfl
   | 2, _ => rfl
   | 3, _ => rfl
   | 4, _ => rfl
   | 5, _ => rfl
   | 6, _ => rfl
  rw [h3] at h2
  have h2 : (if validP (d.prs p) = true then (0 : Int) else 11) = 0 := h2
  by_cases hv : validP (d.prs p) = true
  ·exact @of_decide_eq_true _ (Classical.propDecidable _) hv
  ·rw [if_neg hv] at h2
   exact absurd h2 (by decide)
 ·exact absurd h0 (by decide)
theorem us_ign {d : Db} (hu : usB d = true) : canon (d.sts 2) = d.sts 2 := by
 have h0 : dbE d = 0 := of_decide_eq_true hu
 unfold dbE at h0
 split at h0
 ·have h1 := firstE_all h0 16 (by omega)
  have h2 : (if canon (d.sts 2) = d.sts 2 then (0 : Int) else 11) = 0 := h1
  by_cases hv : canon (d.sts 2) = d.sts 2
  ·exact hv
  ·rw [if_neg hv] at h2
   exact absurd h2 (by decide)
 ·exact absurd h0 (by decide)
theorem prF_w : ∀ p, p < 7 → (prFl.getD p default).data.toList ≠ [] ∧ ∀ b ∈ (prFl.getD p default).data.toList, isW (b.toNat : Int) := fun p hp => by
 match p, hp with
 | 0, _ => exact ⟨by decide, by unfold isW; decide⟩
 | 1, _ => exact ⟨by decide, by unfold isW; decide⟩
 | 2, _ => exact ⟨by decide, by unfold isW; decide⟩
 | 3, _ => exact ⟨by decide, by unfold isW; decide⟩
 | 4, _ => exact ⟨by decide, by unfold isW; decide⟩
 | 5, _ => exact ⟨by decide, by unfold isW; decide⟩
 | 6, _ => exact ⟨by decide, by unfold isW; decide⟩
theorem prF_i : ∀ p, p < 7 → fstI prFl (prFl.getD p default) = p := fun p hp => by
 match p, hp with
 | 0, _ => decide +kernel
 | 1, _ => decide +kernel
 | 2, _ => decide +kernel
 | 3, _ => decide +kernel
 | 4, _ => decide +kernel
 | 5, _ => decide +kernel
 | 6, _ => decide +kernel
theorem valC_L (f n : ByteArray) : (valC f n).data.toList = [91] ++ 92 :: 112 :: 123 :: (f.data.toList ++ 61 :: (n.data.toList ++ 125 :: [93])) := by
 have e1 : ∀ x y : ByteArray, (bcat x y).data.toList = x.data.toList ++ y.data.toList := fun _ _ => rfl
 unfold valC
 simp only [e1]
 show (((([91, 92, 112, 123] ++ f.data.toList) ++ [61]) ++ n.data.toList) ++ [125, 93]) = _
 simp only [List.append_assoc, List.cons_append, List.nil_append]
theorem prs_val {d : Db} {p v : Nat} (hd : SmD d) (hu : usB d = true) (hp : p < 7) (hv : v < (d.prs p).names.length) : prs d (valC (prFl.getD p default) ((d.prs p).names.getD v default)) = (setV (d.prs p) v, 0, 0) := by
 have hok := us_val hu p hp
 obtain ⟨hn, hnn⟩ := nmOk_of hok.1 v hv
 have hvl : validP (d.prs p) = true := @decide_eq_true _ (Classical.propDecidable _) hok
 obtain ⟨w0, w1⟩ := prF_w p hp
 obtain ⟨n0, n1⟩ := name_w hn
 have hfi := prF_i p hp
 have hsz : (valC (prFl.getD p default) ((d.prs p).names.getD v default)).size ≤ 65536 := by
  have hn2 : ((d.prs p).names.getD v default).size ≤ 32 := by
   simp only [isNameB, Bool.and_eq_true, decide_eq_true_eq] at hn
   exact hn.1.2
  have hp2 : (prFl.getD p default).size ≤ 9 := by
   match p, hp with
   | 0, _ => decide
   | 1, _ => decide
   | 2, _ => decide
   | 3, _ => decide
   | 4, _ => decide
   | 5, _ => decide
   | 6, _ => decide
  unfold valC
  simp only [size_cat]
  have e1 : opnC.size = 4 := rfl
  have e2 : eqC.size = 1 := rfl
  have e3 : endC.size = 2 := rfl
  omega
 have hL := valC_L (prFl.getD p default) ((d.prs p).names.getD v default)
 generalize hf : prFl.getD p default = fB at w0 w1 hfi hL hsz ⊢
 generalize hN : (d.prs p).names.getD v default = nB at n0 n1 hL hsz ⊢
 obtain ⟨q2, r2, db2, k2, _, g2⟩ := prs_cls (neg := false) (R := fB.data.toList ++ 61 :: (nB.data.toList ++ 125 :: [93])) hd hsz hL
 obtain ⟨q, q7, db, r7, _, gv⟩ := clsN_V r2 w1 w0 n1 n0
 have hdb : q2.1.db = d := db2
 have e1 := fnd_yes (q := q) (l := prFl) (s := ⟨⟨fB.data.toList⟩⟩) (st := q2.1.k) (by rw [db, hdb]; exact hu) (show p < prFl.length from hp) hfi
 have hnm : (cntP (q2.1.db.prs p)).names = (d.prs p).names := by rw [hdb, cntP_t hvl]
 have hfn : fndI (cntP (q2.1.db.prs p)).names ⟨⟨nB.data.toList⟩⟩ = some v := by
  rw [hnm]
  exact fnd_at hv (fun j hj => by rw [← hN]; exact hnn j hj) hN
 have e2 := gv p e1 (by unfold fndB; rw [hfn]; rfl)
 have e3 : fndV (cntP (q2.1.db.prs p)).names ⟨⟨nB.data.toList⟩⟩ = (v : Int) := by unfold fndV; rw [hfn]
 rw [e3, hdb] at e2
 have e4 := g2 _ _ e2 r7
 rw [e4, endG_f (setV_canon _ _)]
theorem prs_ign {d : Db} (hd : SmD d) (hu : usB d = true) : prs d ignS = (combL fullR (d.sts 2) 3, 0, 0) := by
 obtain ⟨q2, r2, db2, k2, _, g2⟩ := prs_cls (neg := true) (R := ignL ++ 125 :: [93]) (s := ignS) hd (by decide) rfl
 obtain ⟨q, r, db, e⟩ := clsN_S r2 (by unfold isW; decide) (by decide)
 have hdb : q2.1.db = d := db2
 rw [fnd_yes (i := 2) (by rw [db, hdb]; exact hu) (by decide) (by decide +kernel)] at e
 have e : clsN q2 = .ok (canon (q.1.db.sts 2)) (ckd q) := e
 rw [db, hdb, us_ign hu] at e
 have hC : Canon (d.sts 2) := by rw [← us_ign hu]; exact canon_canon _
 have e4 := g2 _ _ e r
 rw [e4, endG_t hC]
end Go.Proofs
