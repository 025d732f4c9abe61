import Derived.Test.YtcihhjjmcompkaaGreatDoorL18
import Derived.Test.YtcihhjjmcompkaaGreatDoorXl4
set_option linter.unusedVariables false
set_option linter.unusedSimpArgs false
namespace Go.Proofs
open Go Go.Sx
variable {mx : Int} {pb : Bool}
theorem bytes_row : ∀ (m : Nat) {f : Nat → Nat → D} {k : Nat} {l : List UInt8}, l.length = m → (∀ i (hi : i < l.length), f (k + i) 0 = .v (.int .u8 (l[i].toNat))) → bytesL (firstL f k m) = some l
 | 0, f, k, l, hl, _ => by
  rw [List.length_eq_zero_iff.1 hl]
  rfl
 | m + 1, f, k, l, hl, h => by
  match l, hl, h with
  | b :: l', hl, h =>
   have h0 := h 0 (by simp)
   have ih := bytes_row m (f := f) (k := k + 1) (l := l') (by simpa using hl) fun i hi => by
    have := h (i + 1) (by simp; omega)
    rw [show k + 1 + i = k + (i + 1) by omega]
    simpa using this
   rw [firstL]
   have h0 : f k 0 = .v (.int .u8 (b.toNat : Int)) := by simpa using h0
   rw [h0]
   show (match bytesL (firstL f (k + 1) m) with | some r => some (UInt8.ofNat ((b.toNat : Int)).toNat :: r) | none => none) = _
   rw [ih]
   simp
def lngL (n : Nat) : List UInt8 := 91 :: (List.replicate (n - 2) 32 ++ [93])
def lngB (n : Nat) : ByteArray := ⟨⟨lngL n⟩⟩
theorem lngL_len {n : Nat} (h : 2 ≤ n) : (lngL n).length = n := by
 unfold lngL
 simp
 omega
theorem lng_sz {n : Nat} (h : 2 ≤ n) : (lngB n).size = n := lngL_len h
theorem lngL_0 (n : Nat) : (lngL n)[0]? = some 91 := rfl
theorem lngL_m {n i : Nat} (h0 : 0 < i) (h : i < n - 1) : (lngL n)[i]? = some 32 := by
 unfold lngL
 obtain ⟨j, rfl⟩ : ∃ j, i = j + 1 := ⟨i - 1, by omega⟩
 rw [List.getElem?_cons_succ, List.getElem?_append_left (by simp; omega), List.getElem?_replicate, if_pos (by omega)]
theorem lngL_e {n : Nat} (h : 2 ≤ n) : (lngL n)[n - 1]? = some 93 := by
 unfold lngL
 obtain ⟨j, rfl⟩ : ∃ j, n = j + 2 := ⟨n - 2, by omega⟩
 rw [show j + 2 - 1 = j + 1 by omega, List.getElem?_cons_succ, List.getElem?_append_right (by simp)]
 simp
theorem lng_b {n i : Nat} {b : UInt8} (h : (lngL n)[i]? = some b) : bAt (lngB n) i = b.toNat := by
 unfold bAt
 have e : (lngB n).data.toList = lngL n := rfl
 rw [e, h]
 rfl
theorem blk_run {s : ByteArray} {m : Nat} (hm : ¬ (m < s.size ∧ bAt s m = 32)) : ∀ (d k : Nat), k + d = m → m ≤ s.size → (∀ i, k ≤ i → i < m → bAt s i = 32) → blk s k = m
 | 0, k, e, _, _ => by
  obtain rfl : k = m := by omega
  exact blk_stop hm
 | d + 1, k, e, hs, h => by
  rw [← blk_step (s := s) (k := k) (by omega) (h k (Nat.le_refl _) (by omega))]
  exact blk_run hm d (k + 1) (by omega) hs fun i hi hi2 => h i (by omega) hi2
theorem prs_long {n : Nat} (h2 : 2 ≤ n) (hn : n ≤ 65536) : prs zdb (lngB n) = ([], 0, 0) := by
 have hz := lng_sz h2
 have hS : OkS zdb (lngB n) := ⟨zdb_sm, by rw [hz]; exact hn⟩
 have b0 : bAt (lngB n) 0 = 91 := lng_b (lngL_0 n)
 have be : bAt (lngB n) (n - 1) = 93 := lng_b (lngL_e h2)
 have e0 : blP (pst0 zdb (lngB n) hS) = pst0 zdb (lngB n) hS := blP_id (by rintro ⟨_, h⟩; have h : bAt (lngB n) 0 = 32 := h; omega)
 have hk0 : (pst0 zdb (lngB n) hS).1.k < (pst0 zdb (lngB n) hS).1.s.size := by show 0 < (lngB n).size; omega
 have h91 : pkV (pst0 zdb (lngB n) hS).1 = 91 := (pkV_lt hk0).trans b0
 have ek : blk (lngB n) 1 = n - 1 := blk_run (m := n - 1) (by omega) (n - 2) 1 (by omega) (by omega) fun i hi hi2 => lng_b (lngL_m (by omega) hi2)
 have ek2 : (blP (adv (pst0 zdb (lngB n) hS) hk0)).1.k = n - 1 := ek
 have h93 : pkV (blP (adv (pst0 zdb (lngB n) hS) hk0)).1 = 93 := by
  have hlt : (blP (adv (pst0 zdb (lngB n) hS) hk0)).1.k < (blP (adv (pst0 zdb (lngB n) hS) hk0)).1.s.size := by rw [ek2]; show n - 1 < (lngB n).size; omega
  rw [pkV_lt hlt, ek2]
  exact be
 have hi := blP_id' (p := blP (adv (pst0 zdb (lngB n) hS) hk0)) (by rw [h93]; decide)
 have hr : runGrp 17 (blP (pst0 zdb (lngB n) hS)) = .ok (endG false [] []) (adv (blP (blP (adv (pst0 zdb (lngB n) hS) hk0))) (pk_eq (b := 93) (by rw [hi]; exact h93) (by decide)).1) := by
  rw [e0, runGrp_pos hk0 (by rw [h93]; decide), grpL_end (by rw [hi]; exact h93)]
 have hq : (adv (blP (blP (adv (pst0 zdb (lngB n) hS) hk0))) (pk_eq (b := 93) (by rw [hi]; exact h93) (by decide)).1).1.k = n := by
  show (blP (blP (adv (pst0 zdb (lngB n) hS) hk0))).1.k + 1 = n
  rw [hi, ek2]
  omega
 have he : endG false [] [] = [] := by decide +kernel
 rw [he] at hr
 refine whole_prs (h := hS) (whole_of (by rw [e0]; exact h91) hr ?_)
 rw [blP_id]
 ·rw [hq, hz]
 ·rintro ⟨h, _⟩
  rw [hq] at h
  have h : n < (lngB n).size := h
  omega
theorem prs_big {d : Db} {s : ByteArray} (h : 65536 < s.size) : prs d s = ([], 2, 0) := dif_neg fun hh => by have := hh.2; omega
end Go.Proofs
