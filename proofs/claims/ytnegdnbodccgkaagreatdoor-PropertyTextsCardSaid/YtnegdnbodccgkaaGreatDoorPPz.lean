import Derived.Test.YtnegdnbodccgkaaGreatDoorT8
import Derived.Test.YtnegdnbodccgkaaGreatDoorT1z
import Derived.Test.YtnegdnbodccgkaaGreatDoorPM
import Derived.Test.YtnegdnbodccgkaaGreatDoorQ7
set_option linter.unusedVariables false
set_option linter.unusedSimpArgs false
namespace Go.Proofs
open Go Go.Sx

/-! what lines.Parse reads of lines that were written: plain -/
theorem dig_val (c : Int) : dvalI (dig c).toNat = c % 16 := by
  have h : (c % 16).toNat < 16 := by omega
  have e : c % 16 = ((c % 16).toNat : Int) := by omega
  unfold dig digI
  rw [e]
  generalize (c % 16).toNat = n at h
  rw [show ((n : Int).toNat * 1 + 0) = n by omega]
  match n, h with
  | 0, _ => exact (by decide)
  | 1, _ => exact (by decide)
  | 2, _ => exact (by decide)
  | 3, _ => exact (by decide)
  | 4, _ => exact (by decide)
  | 5, _ => exact (by decide)
  | 6, _ => exact (by decide)
  | 7, _ => exact (by decide)
  | 8, _ => exact (by decide)
  | 9, _ => exact (by decide)
  | 10, _ => exact (by decide)
  | 11, _ => exact (by decide)
  | 12, _ => exact (by decide)
  | 13, _ => exact (by decide)
  | 14, _ => exact (by decide)
  | 15, _ => exact (by decide)
  | n + 16, h => omega
def foldL : List UInt8 → Int → Int
  | [], a => a
  | b :: l, a => foldL l (a * 16 + dvalI b.toNat)
theorem foldL_app : ∀ (l m : List UInt8) (a : Int), foldL (l ++ m) a = foldL m (foldL l a)
  | [], _, _ => rfl
  | b :: l, m, a => foldL_app l m _
theorem foldC_list (s : ByteArray) : ∀ k, k ≤ s.size → foldC s k = foldL (s.data.toList.take k) 0
  | 0, _ => rfl
  | k + 1, h => by
    have hk : k < s.data.toList.length := h
    rw [foldC, foldC_list s k (by omega), List.take_succ_eq_append_getElem hk, foldL_app, bAt_get h]
    rfl
theorem tail_fold (c : Int) : ∀ k, foldL (tail k c) (dv k c) = c
  | 0 => rfl
  | k + 1 => by
    show foldL (tail k c) (dv (k + 1) c * 16 + dvalI (dig (dv k c)).toNat) = c
    rw [dig_val, show dv (k + 1) c = dv k c / 16 from rfl, show dv k c / 16 * 16 + dv k c % 16 = dv k c by omega]
    exact tail_fold c k
theorem tail_len (c : Int) : ∀ k, (tail k c).length = k
  | 0 => rfl
  | k + 1 => by rw [tail, List.length_cons, tail_len c k]
theorem tail_dig (c : Int) : ∀ k, ∀ b ∈ tail k c, 0 ≤ dvalI b.toNat
  | 0, b, h => by simp [tail] at h
  | k + 1, b, h => by
    rcases List.mem_cons.1 h with rfl | h
    · rw [dig_val]; omega
    · exact tail_dig c k b h
theorem dv6 {c : Int} (h0 : 0 ≤ c) (h : c ≤ 1114111) : dv 6 c = 0 := by
  simp only [dv]
  omega
theorem hexL_facts {c : Int} (h : validB c = true) : ∃ k, 4 ≤ k ∧ k ≤ 6 ∧ hexL c = tail k c ∧ dv k c = 0 := by
  have hv := validB_iff.1 h
  unfold hexL
  rw [if_pos h]
  split
  · rename_i h4; exact ⟨4, by omega, by omega, rfl, h4⟩
  · split
    · rename_i h5; exact ⟨5, by omega, by omega, rfl, h5⟩
    · exact ⟨6, by omega, by omega, rfl, dv6 hv.1 hv.2⟩
theorem hexL_fold {c : Int} (h : validB c = true) : foldL (hexL c) 0 = c := by
  obtain ⟨k, _, _, e, hz⟩ := hexL_facts h
  rw [e]
  have := tail_fold c k
  rw [hz] at this
  exact this
theorem pc_hex {c : Int} (h : validB c = true) : pcE (hexS c) = 0 ∧ pcC (hexS c) = c := by
  obtain ⟨k, h4, h6, e, _⟩ := hexL_facts h
  have hs : (hexS c).size = k := by
    show (hexL c).length = k
    rw [e, tail_len]
  have hf : foldC (hexS c) (hexS c).size = c := by
    rw [foldC_list _ _ (Nat.le_refl _), show (hexS c).data.toList.take (hexS c).size = hexL c from List.take_of_length_le (Nat.le_refl _)]
    exact hexL_fold h
  have ok : pcOk (hexS c) := by
    refine ⟨by omega, by omega, fun j hj => ?_, by rw [hf]⟩
    rw [bAt_get hj]
    have hm : ∀ b ∈ (hexS c).data.toList, 0 ≤ dvalI b.toNat := by rw [show (hexS c).data.toList = tail k c from e]; exact tail_dig c k
    exact hm _ (List.getElem_mem _)
  exact ⟨if_pos ok, (if_pos ok).trans hf⟩
/-! one line -/
structure Lx where
  lo : Int
  hi : Int
  f : List UInt8
def okLx (x : Lx) : Prop := validB x.lo = true ∧ validB x.hi = true ∧ x.lo ≤ x.hi ∧ Good x.f
def hdTx (x : Lx) : List UInt8 := if x.lo = x.hi then hexL x.lo else hexL x.lo ++ ([46, 46] ++ hexL x.hi)
def lnTx (x : Lx) : List UInt8 := hdTx x ++ ([59, 32] ++ x.f)
def lnsTx : List Lx → List UInt8
  | [] => []
  | x :: r => lnTx x ++ 10 :: lnsTx r
theorem word_ne {b : UInt8} (h : wordB b = true) : b ≠ 10 ∧ b ≠ 35 ∧ b ≠ 59 ∧ b ≠ 32 := by
  refine ⟨fun e => ?_, fun e => ?_, fun e => ?_, fun e => ?_⟩ <;> (subst e; exact absurd h (by decide))
theorem okB_ne {b : UInt8} (h : okByte b = true) : b ≠ 10 ∧ b ≠ 35 ∧ b ≠ 59 := by
  refine ⟨fun e => ?_, fun e => ?_, fun e => ?_⟩ <;> (subst e; exact absurd h (by decide))
theorem dig_ne46 (c : Int) : dig c ≠ 46 := fun e => by
  have := dig_val c
  rw [e] at this
  have h2 : dvalI ((46 : UInt8).toNat) = -1 := by decide
  rw [h2] at this
  omega
theorem tail_ne46 (c : Int) : ∀ k, ∀ b ∈ tail k c, b ≠ 46
  | 0, b, h => by simp [tail] at h
  | k + 1, b, h => by
    rcases List.mem_cons.1 h with rfl | h
    · exact dig_ne46 _
    · exact tail_ne46 c k b h
theorem hexL_ne46 {c : Int} (h : validB c = true) : ∀ b ∈ hexL c, b ≠ 46 := by
  obtain ⟨k, _, _, e, _⟩ := hexL_facts h
  rw [e]
  exact tail_ne46 c k
theorem hdTx_mem {x : Lx} : ∀ b ∈ hdTx x, wordB b = true := by
  intro b hb
  unfold hdTx at hb
  split at hb
  · exact hexL_word _ b hb
  · rcases List.mem_append.1 hb with h | h
    · exact hexL_word _ b h
    · rcases List.mem_append.1 h with h | h
      · have : b = 46 := by simpa using h
        subst this; decide
      · exact hexL_word _ b h
theorem lnTx_mem {x : Lx} (h : okLx x) : ∀ b ∈ lnTx x, b ≠ 10 ∧ b ≠ 35 := by
  intro b hb
  rcases List.mem_append.1 hb with h1 | h1
  · have := word_ne (hdTx_mem b h1); exact ⟨this.1, this.2.1⟩
  · rcases List.mem_append.1 h1 with h2 | h2
    · have : b = 59 ∨ b = 32 := by simpa using h2
      rcases this with rfl | rfl <;> exact ⟨by decide, by decide⟩
    · have := okB_ne (h.2.2.2.all b h2); exact ⟨this.1, this.2.1⟩
theorem cut_no {l : List UInt8} {c : UInt8} (h : ∀ b ∈ l, b ≠ c) : Lib.cut l [c] = (l, [], false) := by
  have := cut_none1 (s := listB l) (c := c) (fun j hj hb => by
    rw [bAt_get hj] at hb
    exact h _ (List.getElem_mem (l := l) hj) (u8_eq.1 hb))
  exact this
theorem trim_word {l : List UInt8} (h : ∀ b ∈ l, wordB b = true) : Lib.trimS l [32, 9, 13] = l := by
  have hg := Good.word h
  exact trimS_id (fun b hb => okByte_blank (hg.all b (List.mem_of_head? hb)) (hg.hd b hb)) (fun b hb => okByte_blank (hg.all b (List.mem_of_getLast? hb)) (hg.la b hb))
theorem trim_good {l : List UInt8} (hg : Good l) : Lib.trimS l [32, 9, 13] = l :=
  trimS_id (fun b hb => okByte_blank (hg.all b (List.mem_of_head? hb)) (hg.hd b hb)) (fun b hb => okByte_blank (hg.all b (List.mem_of_getLast? hb)) (hg.la b hb))
theorem trim_blank {l : List UInt8} (hg : Good l) : Lib.trimS (32 :: l) [32, 9, 13] = l := by
  rw [← tr_comm, trL_cons, if_pos (by decide), tr_comm]
  exact trim_good hg
theorem line_parts {x : Lx} (h : okLx x) : comA (listB (lnTx x)) = listB (lnTx x) ∧ comZ (listB (lnTx x)) = ⟨#[]⟩ ∧ lnParts (listB (lnTx x)) = [listB (hdTx x), listB x.f] := by
  have e := cut_no (fun b hb => (lnTx_mem h b hb).2)
  have e1 : comA (listB (lnTx x)) = listB (lnTx x) := by
    unfold comA cutA
    rw [toList_listB, show (⟨#[35]⟩ : ByteArray).data.toList = [35] from rfl, e]
  refine ⟨e1, ?_, ?_⟩
  · unfold comZ cutZ
    rw [toList_listB, show (⟨#[35]⟩ : ByteArray).data.toList = [35] from rfl, e]
    rfl
  · unfold lnParts cutP splB
    rw [e1, toList_listB, show lnTx x = hdTx x ++ 59 :: (32 :: x.f) from rfl, splitL_cut (fun b hb => (word_ne (hdTx_mem b hb)).2.2.1), splitL_none (fun b hb => by
      rcases List.mem_cons.1 hb with rfl | hb
      · decide
      · exact (okB_ne (h.2.2.2.all b hb)).2.2)]
    simp only [List.map_cons, List.map_nil, trimB, toList_listB]
    rw [trim_word hdTx_mem, trim_blank h.2.2.2]
theorem head_span {x : Lx} (h : okLx x) : spanB (listB (hdTx x)) = true ∧ pcC (spA (listB (hdTx x))) = x.lo ∧ pcC (spZ (listB (hdTx x))) = x.hi := by
  obtain ⟨h1, h2, h3, _⟩ := h
  have p1 := pc_hex h1
  have p2 := pc_hex h2
  have key : spA (listB (hdTx x)) = hexS x.lo ∧ spZ (listB (hdTx x)) = hexS x.hi := by
    unfold hdTx
    by_cases e : x.lo = x.hi
    · rw [if_pos e]
      have c := cut_none2 (s := listB (hexL x.lo)) (fun j hj hb => by
        have := hb.1
        rw [bAt_get (by omega)] at this
        exact hexL_ne46 h1 _ (List.getElem_mem (l := hexL x.lo) (by show j < (hexL x.lo).length; have : (listB (hexL x.lo)).size = (hexL x.lo).length := rfl; omega)) (u8_eq.1 this))
      have a : spA (listB (hexL x.lo)) = hexS x.lo := by
        unfold spA cutA
        rw [show (⟨#[46, 46]⟩ : ByteArray).data.toList = [46, 46] from rfl, c]
        rfl
      refine ⟨a, ?_⟩
      rw [← e]
      unfold spZ cutF cutA
      rw [show (⟨#[46, 46]⟩ : ByteArray).data.toList = [46, 46] from rfl, c]
      rfl
    · rw [if_neg e]
      have hl : (listB (hexL x.lo ++ ([46, 46] ++ hexL x.hi))).size = (hexL x.lo).length + (2 + (hexL x.hi).length) := by
        show (hexL x.lo ++ ([46, 46] ++ hexL x.hi)).length = _
        simp; omega
      have g : ∀ j (hj : j < (hexL x.lo ++ ([46, 46] ++ hexL x.hi)).length), bAt (listB (hexL x.lo ++ ([46, 46] ++ hexL x.hi))) j = (((hexL x.lo ++ ([46, 46] ++ hexL x.hi))[j]).toNat : Int) := fun j hj => bAt_get (s := listB (hexL x.lo ++ ([46, 46] ++ hexL x.hi))) hj
      have ll : (hexL x.lo ++ ([46, 46] ++ hexL x.hi)).length = (hexL x.lo).length + (2 + (hexL x.hi).length) := by simp; omega
      have c := cut_at2 (s := listB (hexL x.lo ++ ([46, 46] ++ hexL x.hi))) (k := (hexL x.lo).length) (by omega) ⟨by
        rw [g _ (by omega), List.getElem_append_right (Nat.le_refl _)]; simp, by
        rw [g _ (by omega), List.getElem_append_right (by omega)]; simp⟩ (fun j hj hb => by
        have := hb.1
        rw [g _ (by omega), List.getElem_append_left hj] at this
        exact hexL_ne46 h1 _ (List.getElem_mem hj) (u8_eq.1 this))
      rw [toList_listB] at c
      have t1 : (hexL x.lo ++ ([46, 46] ++ hexL x.hi)).take (hexL x.lo).length = hexL x.lo := by simp
      have t2 : (hexL x.lo ++ ([46, 46] ++ hexL x.hi)).drop ((hexL x.lo).length + 2) = hexL x.hi := by
        rw [← List.drop_drop]; simp
      rw [t1, t2] at c
      refine ⟨?_, ?_⟩
      · unfold spA cutA
        rw [toList_listB, show (⟨#[46, 46]⟩ : ByteArray).data.toList = [46, 46] from rfl, c]
        rfl
      · unfold spZ cutF cutZ
        rw [toList_listB, show (⟨#[46, 46]⟩ : ByteArray).data.toList = [46, 46] from rfl, c]
        rfl
  obtain ⟨k1, k2⟩ := key
  refine ⟨span_yes ⟨by rw [k1]; exact p1.1, by rw [k2]; exact p2.1, by rw [k1, k2, p1.2, p2.2]; exact h3⟩, by rw [k1, p1.2], by rw [k2, p2.2]⟩
def lnOf (n : Int) (x : Lx) : Ln := ⟨n, x.lo, x.hi, [listB x.f], ⟨#[]⟩⟩
def lnsOf : Int → List Lx → List Ln
  | _, [] => []
  | n, x :: r => lnOf n x :: lnsOf (n + 1) r
theorem lnMk_of {x : Lx} (h : okLx x) (n : Int) : lnMk n (listB (lnTx x)) = lnOf n x := by
  obtain ⟨e1, e2, e3⟩ := line_parts h
  obtain ⟨_, s2, s3⟩ := head_span h
  unfold lnMk lnHead lnOf
  rw [e2, e3]
  show (⟨n, pcC (spA (listB (hdTx x))), pcC (spZ (listB (hdTx x))), [listB x.f], ⟨#[]⟩⟩ : Ln) = _
  rw [s2, s3]
theorem hdTx_ne {x : Lx} (h : okLx x) : ∃ b r, lnTx x = b :: r ∧ wordB b = true := by
  have h1 : hdTx x ≠ [] := by
    have := hexL_ne h.1
    unfold hdTx
    split
    · exact this
    · intro e; exact this (List.append_eq_nil_iff.1 e).1
  cases e : hdTx x with
  | nil => exact absurd e h1
  | cons b r => exact ⟨b, r ++ ([59, 32] ++ x.f), by rw [lnTx, e]; rfl, hdTx_mem b (by rw [e]; simp)⟩
theorem not_blank {x : Lx} (h : okLx x) : ¬ emB (trimB (comA (listB (lnTx x)))) = true := by
  obtain ⟨e1, _, _⟩ := line_parts h
  rw [e1]
  intro he
  have he : listB (Lib.trimS (lnTx x) [32, 9, 13]) = ⟨#[]⟩ := emB_iff.1 he
  have he : Lib.trimS (lnTx x) [32, 9, 13] = [] := congrArg (fun s : ByteArray => s.data.toList) he
  obtain ⟨b, r, e, hb⟩ := hdTx_ne h
  have hbl : [32, 9, 13].contains b = false := by
    have hg := Good.word (l := [b]) (fun c hc => by rw [List.mem_singleton.1 hc]; exact hb)
    exact okByte_blank (hg.all b (by simp)) (hg.hd b rfl)
  rw [← tr_comm, e, trL_cons, if_neg (by rw [hbl]; decide), trR_cons, if_neg (fun hh => by rw [hbl] at hh; exact Bool.noConfusion hh.2)] at he
  exact List.cons_ne_nil _ _ he
theorem goP_rt : ∀ (xs : List Lx) (n : Int) (acc : List Ln), (∀ x ∈ xs, okLx x) → goP ((splitL 10 (lnsTx xs)).map listB) n acc = (acc ++ lnsOf n xs, 0, 0)
  | [], n, acc, _ => by
    rw [lnsTx, splitL, List.map_cons, List.map_nil, goP, if_pos (by decide), goP, lnsOf, List.append_nil]
  | x :: xs, n, acc, h => by
    have hx := h x (by simp)
    obtain ⟨_, _, e3⟩ := line_parts hx
    have hh : lnHead (listB (lnTx x)) = listB (hdTx x) := by unfold lnHead; rw [e3]; rfl
    rw [lnsTx, splitL_cut (fun b hb => (lnTx_mem hx b hb).1), List.map_cons, goP, if_neg (not_blank hx), if_pos (by rw [hh]; exact (head_span hx).1), lnMk_of hx, goP_rt xs _ _ (fun y hy => h y (by simp [hy])), lnsOf, List.append_assoc]
    rfl
theorem linesP_rt {xs : List Lx} (h : ∀ x ∈ xs, okLx x) (hs : (lnsTx xs).length ≤ 65536) : linesP (listB (lnsTx xs)) = (lnsOf 1 xs, 0, 0) := by
  unfold linesP
  rw [if_neg (by show ¬ (lnsTx xs).length > 65536; omega)]
  show goP ((splitL 10 (lnsTx xs)).map listB) 1 [] = _
  rw [goP_rt xs 1 [] h, List.nil_append]
theorem lnsOf_len : ∀ (xs : List Lx) (n : Int), (lnsOf n xs).length = xs.length
  | [], _ => rfl
  | x :: xs, n => by rw [lnsOf, List.length_cons, lnsOf_len xs, List.length_cons]
instance : Inhabited Lx := ⟨⟨0, 0, []⟩⟩
theorem lnsOf_at : ∀ (xs : List Lx) (n : Int) (k : Nat), k < xs.length → (lnsOf n xs).getD k default = lnOf (n + k) (xs.getD k default)
  | [], _, k, h => by simp at h
  | x :: xs, n, 0, _ => by simp [lnsOf]
  | x :: xs, n, k + 1, h => by
    have := lnsOf_at xs (n + 1) k (by simpa using h)
    simp only [lnsOf, List.getD_cons_succ]
    rw [this, show n + 1 + (k : Int) = n + ((k + 1 : Nat) : Int) by omega]
/-! what lines.Text writes -/
theorem lnsTx_app : ∀ (xs ys : List Lx), lnsTx (xs ++ ys) = lnsTx xs ++ lnsTx ys
  | [], _ => rfl
  | x :: xs, ys => by rw [List.cons_append, lnsTx, lnsTx_app xs ys, lnsTx, List.append_assoc, List.cons_append]
def lxLn (x : Lx) : Ln := ⟨0, x.lo, x.hi, [listB x.f], ⟨#[]⟩⟩
theorem lnW_tx (b : ByteArray) (x : Lx) : (lnW b (lxLn x)).data.toList = b.data.toList ++ (lnTx x ++ [10]) := by
  unfold lnW lnWC
  rw [if_pos (show (lxLn x).com = ⟨#[]⟩ from rfl)]
  show (lnWF b (lxLn x) 1).data.toList ++ [10] = _
  show ((lnW1 b (lxLn x)).data.toList ++ ([59, 32] ++ x.f)) ++ [10] = _
  have e : (lnW1 b (lxLn x)).data.toList = b.data.toList ++ hdTx x := by
    unfold lnW1 hdTx
    by_cases e : x.lo = x.hi
    · rw [if_pos (show (lxLn x).lo = (lxLn x).hi from e), if_pos e]; rfl
    · rw [if_neg (show ¬ (lxLn x).lo = (lxLn x).hi from e), if_neg e]
      show (b.data.toList ++ hexL x.lo) ++ ([46, 46] ++ hexL x.hi) = _
      rw [List.append_assoc]
  rw [e, lnTx]
  simp only [List.append_assoc]
theorem lnsW_tx (xs : List Lx) : ∀ k, k ≤ xs.length → (lnsW (xs.map lxLn) k).data.toList = lnsTx (xs.take k)
  | 0, _ => rfl
  | k + 1, h => by
    have hk : k < xs.length := h
    have e : (xs.map lxLn).getD k default = lxLn xs[k] := by simp [List.getD_eq_getElem?_getD, hk]
    rw [lnsW, e, lnW_tx, lnsW_tx xs k (by omega), List.take_succ_eq_append_getElem hk, lnsTx_app]
    rfl
theorem lnE_lx {x : Lx} (h : okLx x) : lnE (lxLn x) = 0 := by
  unfold lnE
  rw [if_pos ⟨h.1, h.2.1, h.2.2.1⟩, if_pos]
  refine ⟨?_, okC_nil⟩
  show ([listB x.f].all okF) = true
  rw [List.all_cons, List.all_nil, Bool.and_true]
  exact Good.okF h.2.2.2
theorem linesS_tx {xs : List Lx} (h : ∀ x ∈ xs, okLx x) : linesE (xs.map lxLn) = 0 ∧ linesS (xs.map lxLn) = listB (lnsTx xs) := by
  have h0 : linesE (xs.map lxLn) = 0 := linesE_0 (fun j hj => by
    have hj' : j < xs.length := by simpa using hj
    have e : (xs.map lxLn).getD j default = lxLn xs[j] := by simp [List.getD_eq_getElem?_getD, hj']
    rw [e]
    exact lnE_lx (h _ (List.getElem_mem hj')))
  refine ⟨h0, ?_⟩
  unfold linesS
  rw [if_pos h0]
  apply toList_inj
  rw [List.length_map, lnsW_tx xs _ (Nat.le_refl _), List.take_length]
  rfl
end Go.Proofs

namespace Go.Proofs
open Go Go.Sx

/-! property.Parse: plain -/
theorem find_at {α : Type} [Inhabited α] {p : α → Bool} : ∀ {l : List α} {k : Nat}, k < l.length → (∀ j, j < k → ¬ p (l.getD j default) = true) → p (l.getD k default) = true → l.find? p = some (l.getD k default)
  | [], k, h, _, _ => by simp at h
  | a :: l, 0, _, _, h => by
    have h : p a = true := h
    rw [List.find?_cons, h]; rfl
  | a :: l, k + 1, hk, hn, h => by
    have h0 : p a = false := by simpa using hn 0 (by omega)
    rw [List.find?_cons, h0]
    exact find_at (l := l) (by simpa using hk) (fun j hj => hn (j + 1) (by omega)) h
theorem find_no {α : Type} [Inhabited α] {p : α → Bool} {l : List α} (hn : ∀ j, j < l.length → ¬ p (l.getD j default) = true) : l.find? p = none := by
  rw [List.find?_eq_none]
  intro x hx
  obtain ⟨i, hi, rfl⟩ := List.getElem_of_mem hx
  have := hn i hi
  rwa [List.getD_eq_getElem?_getD, List.getElem?_eq_getElem hi] at this
/-- The first line that is not empty, its number, what follows it. -/
def headL : Int → List UInt8 → List UInt8 × Int × List UInt8
  | _, [] => ([], 1, [])
  | n, b :: l => if b = 10 then headL (n + 1) l else ((b :: l).takeWhile (· != 10), n, ((b :: l).dropWhile (· != 10)).drop 1)
theorem headL_nl (n : Int) (l : List UInt8) : headL n (10 :: l) = headL (n + 1) l := by rw [headL, if_pos rfl]
theorem headL_ln {n : Int} {l : List UInt8} (h : ∃ b r, l = b :: r ∧ b ≠ 10) : headL n l = (l.takeWhile (· != 10), n, (l.dropWhile (· != 10)).drop 1) := by
  obtain ⟨b, r, rfl, hb⟩ := h
  rw [headL, if_neg hb]
theorem headL_no : ∀ (l : List UInt8) (n : Int), (∀ b ∈ l, b = 10) → headL n l = ([], 1, [])
  | [], _, _ => rfl
  | b :: l, n, h => by rw [headL, if_pos (h b (by simp)), headL_no l _ (fun c hc => h c (by simp [hc]))]
theorem take_wh {l r : List UInt8} (h : ∀ b ∈ l, b ≠ 10) : (l ++ 10 :: r).takeWhile (· != 10) = l ∧ ((l ++ 10 :: r).dropWhile (· != 10)).drop 1 = r := by
  induction l with
  | nil => simp
  | cons b l ih =>
    have hb : (b != 10) = true := by simpa using h b (by simp)
    obtain ⟨i1, i2⟩ := ih (fun c hc => h c (by simp [hc]))
    rw [List.cons_append, List.takeWhile_cons_of_pos (p := (· != 10)) hb, List.dropWhile_cons_of_pos (p := (· != 10)) hb, i1]
    exact ⟨rfl, i2⟩
theorem take_no {l : List UInt8} (h : ∀ b ∈ l, b ≠ 10) : l.takeWhile (· != 10) = l ∧ (l.dropWhile (· != 10)).drop 1 = [] := by
  induction l with
  | nil => simp
  | cons b l ih =>
    have hb : (b != 10) = true := by simpa using h b (by simp)
    obtain ⟨i1, i2⟩ := ih (fun c hc => h c (by simp [hc]))
    rw [List.takeWhile_cons_of_pos (p := (· != 10)) hb, List.dropWhile_cons_of_pos (p := (· != 10)) hb, i1]
    exact ⟨rfl, i2⟩
/-- strings.Cut at a line's end. -/
theorem cut_nl (s : ByteArray) : (cutA s ⟨#[10]⟩).data.toList = s.data.toList.takeWhile (· != 10) ∧ (cutZ s ⟨#[10]⟩).data.toList = (s.data.toList.dropWhile (· != 10)).drop 1 ∧ (cutF s ⟨#[10]⟩ = false → ∀ b ∈ s.data.toList, b ≠ 10) ∧ (cutF s ⟨#[10]⟩ = true → s.data.toList = (cutA s ⟨#[10]⟩).data.toList ++ 10 :: (cutZ s ⟨#[10]⟩).data.toList) := by
  unfold cutA cutZ cutF
  rw [show (⟨#[10]⟩ : ByteArray).data.toList = [10] from rfl]
  have mem : ∀ j (hj : j < s.size), Lib.occAt s.data.toList [10] j = false → s.data.toList[j]'hj ≠ 10 := fun j hj h e => by
    rw [occ1 hj] at h
    have := of_decide_eq_false h
    rw [bAt_get hj, e] at this
    exact this rfl
  rcases Lib.index_spec s.data.toList [10] with ⟨_, h2⟩ | ⟨i, _, h2, h3, h4⟩
  · have hn : ∀ b ∈ s.data.toList, b ≠ 10 := fun b hb => by
      obtain ⟨j, hj, rfl⟩ := List.getElem_of_mem hb
      exact mem j hj (h2 j (Nat.le_of_lt hj))
    rw [cut_none h2]
    obtain ⟨t1, t2⟩ := take_no hn
    rw [t1, t2]
    exact ⟨rfl, rfl, fun _ => hn, fun h => Bool.noConfusion h⟩
  · have hi : i < s.size := by
      rcases Nat.lt_or_ge i s.size with h | h
      · exact h
      · rw [occ1_end h] at h3; exact Bool.noConfusion h3
    rw [cut_at h3 h4 h2]
    have hi' : i < s.data.toList.length := hi
    have e10 : s.data.toList[i]'hi = 10 := by
      rw [occ1 hi] at h3
      have := of_decide_eq_true h3
      rw [bAt_get hi] at this
      exact u8_eq.1 this
    have hs : s.data.toList = s.data.toList.take i ++ 10 :: s.data.toList.drop (i + 1) := by
      conv => lhs; rw [← List.take_append_drop i s.data.toList, List.drop_eq_getElem_cons hi', e10]
    have hn : ∀ b ∈ s.data.toList.take i, b ≠ 10 := fun b hb => by
      obtain ⟨j, hj, rfl⟩ := List.getElem_of_mem hb
      rw [List.getElem_take]
      have hj' : j < i := by simp at hj; omega
      exact mem j (by omega) (h4 j hj')
    obtain ⟨t1, t2⟩ := take_wh (r := s.data.toList.drop (i + 1)) hn
    rw [← hs] at t1 t2
    rw [t1, t2]
    exact ⟨rfl, rfl, fun h => Bool.noConfusion h, fun _ => hs⟩
def hdA (s : ByteArray) : ByteArray := listB (headL 1 s.data.toList).1
def hdN (s : ByteArray) : Int := (headL 1 s.data.toList).2.1
def hdZ (s : ByteArray) : ByteArray := listB (headL 1 s.data.toList).2.2
theorem headL_size : ∀ (l : List UInt8) (n : Int), (headL n l).1.length ≤ l.length ∧ (headL n l).2.2.length ≤ l.length ∧ ((headL n l).2.1 = 1 ∨ n ≤ (headL n l).2.1) ∧ ((headL n l).2.1 = 1 ∨ (headL n l).2.1 ≤ n + l.length)
  | [], n => ⟨by simp [headL], by simp [headL], .inl rfl, .inl rfl⟩
  | b :: l, n => by
    rw [headL]
    split
    · obtain ⟨h1, h2, h3, h4⟩ := headL_size l (n + 1)
      refine ⟨by simp; omega, by simp; omega, by omega, ?_⟩
      rw [List.length_cons]
      omega
    · refine ⟨(List.takeWhile_sublist _).length_le, ?_, .inr (Int.le_refl _), .inr (by simp; omega)⟩
      have := (List.dropWhile_sublist (p := (· != 10)) (l := b :: l)).length_le
      rw [List.length_drop]
      omega
theorem hd_size (s : ByteArray) : (hdA s).size ≤ s.size ∧ (hdZ s).size ≤ s.size ∧ 1 ≤ hdN s ∧ hdN s ≤ s.size + 1 := by
  obtain ⟨h1, h2, h3, h4⟩ := headL_size s.data.toList 1
  refine ⟨h1, h2, ?_, ?_⟩
  · unfold hdN; omega
  · have : s.data.toList.length = s.size := rfl
    unfold hdN; omega
/-- The words of the first line. -/
def atB : ByteArray := ⟨#[64, 110, 97, 109, 101, 115]⟩
def wdL (s : ByteArray) : List ByteArray := splB 32 s
def wdOk (s : ByteArray) : Prop := 2 ≤ (wdL s).length ∧ (wdL s).getD 0 default = atB ∧ ∀ j, 1 ≤ j → j < (wdL s).length → ¬ (wdL s).getD j default = ⟨#[]⟩
open Classical in
noncomputable def wdB (s : ByteArray) : Bool := decide (wdOk s)
theorem wd_t {s : ByteArray} (h : wdOk s) : wdB s = true := @decide_eq_true _ (Classical.propDecidable _) h
theorem wd_f {s : ByteArray} (h : ¬ wdOk s) : wdB s = false := @decide_eq_false _ (Classical.propDecidable _) h
theorem wd_iff {s : ByteArray} : wdB s = true ↔ wdOk s := ⟨fun h => @of_decide_eq_true _ (Classical.propDecidable _) h, wd_t⟩
noncomputable def wdN (s : ByteArray) : List ByteArray := if wdB s = true then (wdL s).drop 1 else []
theorem wdN_len (s : ByteArray) : (wdN s).length ≤ s.size + 1 := by
  unfold wdN
  have := (splB_len (c := 32) (s := s)).2.1
  split
  · rw [List.length_drop]; unfold wdL; omega
  · simp
/-! lines with one field each, names among those given -/
def fld (x : Ln) : ByteArray := x.fields.getD 0 default
def one1 (x : Ln) : Bool := !(x.fields.length == 1)
def unk (names : List ByteArray) (x : Ln) : Bool := !fndB names (fld x)
def spOf (names : List ByteArray) (x : Ln) : Sp := ⟨x.lo, x.hi, fndV names (fld x)⟩
def spsOf (names : List ByteArray) (l : List Ln) : List Sp := l.map (spOf names)
theorem fnd_lt {l : List ByteArray} {n : ByteArray} (h : fndB l n = true) : 0 ≤ fndV l n ∧ fndV l n < l.length := by
  unfold fndB at h
  unfold fndV
  cases e : fndI l n with
  | none => rw [e] at h; exact Bool.noConfusion h
  | some i =>
    unfold fndI at e
    have := (List.find?_range_eq_some.1 e).2.1
    simp at this
    show (0 : Int) ≤ i ∧ (i : Int) < l.length
    omega
/-! what lines.Parse accepts -/
theorem pcC_valid {s : ByteArray} (h : pcE s = 0) : validB (pcC s) = true := by
  unfold pcE at h
  split at h
  · rename_i ok
    unfold pcC
    rw [if_pos ok]
    obtain ⟨h1, _, _, h4⟩ := ok
    cases hv : validB (foldC s s.size) with
    | true => rfl
    | false =>
      have : hexS (foldC s s.size) = ⟨#[]⟩ := by
        unfold hexS hexL
        rw [hv]
        rfl
      rw [this] at h4
      rw [← h4] at h1
      exact absurd h1 (by decide)
  · omega
def okLn (x : Ln) : Prop := validB x.lo = true ∧ validB x.hi = true ∧ x.lo ≤ x.hi
theorem lnMk_ok {n : Int} {x : ByteArray} (h : spanB (lnHead x) = true) : okLn (lnMk n x) := by
  have ok : spnOk (lnHead x) := @of_decide_eq_true _ (Classical.propDecidable _) h
  exact ⟨pcC_valid ok.1, pcC_valid ok.2.1, ok.2.2⟩
theorem goP_ok : ∀ (xs : List ByteArray) (n : Int) (acc : List Ln) (m : Int), m ≤ n → (∀ x ∈ acc, okLn x ∧ 0 ≤ x.num - m ∧ x.num < n) → (∀ x ∈ (goP xs n acc).1, okLn x ∧ 0 ≤ x.num - m ∧ x.num < n + xs.length) ∧ (goP xs n acc).1.length ≤ acc.length + xs.length ∧ ((goP xs n acc).2.1 = 0 ∨ (goP xs n acc).1 = []) ∧ 0 ≤ (goP xs n acc).2.1 ∧ ((goP xs n acc).2.2 = 0 ∨ n ≤ (goP xs n acc).2.2) ∧ ((goP xs n acc).2.2 = 0 ∨ (goP xs n acc).2.2 < n + xs.length)
  | [], n, acc, m, hm, h => ⟨fun x hx => by have := h x hx; simpa using this, by simp [goP], .inl rfl, Int.le_refl _, .inl rfl, .inl rfl⟩
  | x :: xs, n, acc, m, hm, h => by
    rw [goP, List.length_cons]
    split
    · obtain ⟨a, b, c, d, e, f⟩ := goP_ok xs (n + 1) acc m (by omega) (fun y hy => by have := h y hy; exact ⟨this.1, this.2.1, by omega⟩)
      refine ⟨fun y hy => ?_, by omega, c, d, by omega, by omega⟩
      have := a y hy
      exact ⟨this.1, this.2.1, by omega⟩
    · split
      · rename_i hs
        obtain ⟨a, b, c, d, e, f⟩ := goP_ok xs (n + 1) (acc ++ [lnMk n x]) m (by omega) (fun y hy => by
          rcases List.mem_append.1 hy with hy | hy
          · have := h y hy; exact ⟨this.1, this.2.1, by omega⟩
          · rw [List.mem_singleton.1 hy]
            exact ⟨lnMk_ok hs, by show 0 ≤ n - m; omega, by show n < n + 1; omega⟩)
        rw [List.length_append, List.length_singleton] at b
        refine ⟨fun y hy => ?_, by omega, c, d, by omega, by omega⟩
        have := a y hy
        exact ⟨this.1, this.2.1, by omega⟩
      · exact ⟨fun y hy => by simp at hy, by simp, .inr rfl, (show (0 : Int) ≤ 3 by decide), .inr (Int.le_refl _), .inr (by simp only; omega)⟩
theorem linesP_ok (s : ByteArray) : (∀ x ∈ (linesP s).1, okLn x ∧ 1 ≤ x.num ∧ x.num ≤ s.size + 2) ∧ (linesP s).1.length ≤ s.size + 1 ∧ ((linesP s).2.1 = 0 ∨ (linesP s).1 = []) ∧ 0 ≤ (linesP s).2.1 ∧ 0 ≤ (linesP s).2.2 ∧ (linesP s).2.2 ≤ s.size + 2 := by
  unfold linesP
  split
  · exact ⟨fun x hx => by simp at hx, by simp, .inr rfl, by decide, by decide, by simp only; omega⟩
  · obtain ⟨a, b, c, d, e, f⟩ := goP_ok (splB 10 s) 1 [] 1 (by omega) (fun x hx => by simp at hx)
    have hl := (splB_len (c := 10) (s := s)).2.1
    refine ⟨fun x hx => ?_, by simp only [List.length_nil] at b; omega, c, d, by omega, by omega⟩
    obtain ⟨h1, h2, h3⟩ := a x hx
    exact ⟨h1, by omega, by omega⟩
/-! Parse -/
noncomputable def plsP (s : ByteArray) : List Ln × Int × Int := linesP (hdZ s)
noncomputable def nmsP (s : ByteArray) : List ByteArray := wdN (hdA s)
noncomputable def prsO (s : ByteArray) : Pr × Int × Int :=
  if s.size > 65536 then (⟨[], []⟩, 2, 0)
  else if ¬ wdB (hdA s) = true then (⟨[], []⟩, 3, hdN s)
  else if ¬ namesB (nmsP s) = true then (⟨[], []⟩, 6, hdN s)
  else if ¬ (plsP s).2.1 = 0 then (⟨[], []⟩, (plsP s).2.1, hdN s + (plsP s).2.2)
  else match (plsP s).1.find? one1 with
    | some x => (⟨[], []⟩, 3, hdN s + x.num)
    | none => match (plsP s).1.find? (unk (nmsP s)) with
      | some x => (⟨[], []⟩, 6, hdN s + x.num)
      | none => if 0 ≤ ovI (spsOf (nmsP s) (plsP s).1) then (⟨[], []⟩, 5, hdN s + ((plsP s).1.getD (ovI (spsOf (nmsP s) (plsP s).1)).toNat default).num)
        else (mkP (nmsP s) (spsOf (nmsP s) (plsP s).1), 0, 0)
theorem spsOf_len (names : List ByteArray) (l : List Ln) : (spsOf names l).length = l.length := List.length_map _
theorem spsOf_at {names : List ByteArray} {l : List Ln} {k : Nat} (h : k < l.length) : (spsOf names l).getD k default = spOf names (l.getD k default) := by
  simp [spsOf, List.getD_eq_getElem?_getD, h]
theorem spsOf_all {s : ByteArray} (h : (plsP s).1.find? (unk (nmsP s)) = none) : allS (nmsP s).length (spsOf (nmsP s) (plsP s).1) := by
  intro i hi
  rw [spsOf_len] at hi
  rw [spsOf_at hi]
  have hm : (plsP s).1.getD i default ∈ (plsP s).1 := by
    rw [List.getD_eq_getElem?_getD, List.getElem?_eq_getElem hi]; exact List.getElem_mem hi
  have h1 := ((linesP_ok (hdZ s)).1 _ hm).1
  have h2 := List.find?_eq_none.1 h _ hm
  have h3 : fndB (nmsP s) (fld ((plsP s).1.getD i default)) = true := by simpa [unk] using h2
  have h4 := fnd_lt h3
  have v1 := validB_iff.1 h1.1
  have v2 := validB_iff.1 h1.2.1
  exact ⟨insB_iff.2 ⟨v1.1, h1.2.2, v2.2⟩, h4.1, h4.2⟩
theorem prs_big {s : ByteArray} (h : s.size > 65536) : prsO s = (⟨[], []⟩, 2, 0) := if_pos h
theorem prs_words {s : ByteArray} (h : ¬ s.size > 65536) (h1 : wdB (hdA s) = false) : prsO s = (⟨[], []⟩, 3, hdN s) := by
  unfold prsO; rw [if_neg h, if_pos (by rw [h1]; decide)]
theorem prs_names {s : ByteArray} (h : ¬ s.size > 65536) (h1 : wdB (hdA s) = true) (h2 : namesB (nmsP s) = false) : prsO s = (⟨[], []⟩, 6, hdN s) := by
  unfold prsO; rw [if_neg h, if_neg (fun hh => hh h1), if_pos (by rw [h2]; decide)]
theorem prs_lines {s : ByteArray} (h : ¬ s.size > 65536) (h1 : wdB (hdA s) = true) (h2 : namesB (nmsP s) = true) (h3 : ¬ (plsP s).2.1 = 0) : prsO s = (⟨[], []⟩, (plsP s).2.1, hdN s + (plsP s).2.2) := by
  unfold prsO; rw [if_neg h, if_neg (fun hh => hh h1), if_neg (fun hh => hh h2), if_pos h3]
theorem prs_one {s : ByteArray} {x : Ln} (h : ¬ s.size > 65536) (h1 : wdB (hdA s) = true) (h2 : namesB (nmsP s) = true) (h3 : (plsP s).2.1 = 0) (h4 : (plsP s).1.find? one1 = some x) : prsO s = (⟨[], []⟩, 3, hdN s + x.num) := by
  unfold prsO; rw [if_neg h, if_neg (fun hh => hh h1), if_neg (fun hh => hh h2), if_neg (fun hh => hh h3), h4]
theorem prs_unk {s : ByteArray} {x : Ln} (h : ¬ s.size > 65536) (h1 : wdB (hdA s) = true) (h2 : namesB (nmsP s) = true) (h3 : (plsP s).2.1 = 0) (h4 : (plsP s).1.find? one1 = none) (h5 : (plsP s).1.find? (unk (nmsP s)) = some x) : prsO s = (⟨[], []⟩, 6, hdN s + x.num) := by
  unfold prsO; rw [if_neg h, if_neg (fun hh => hh h1), if_neg (fun hh => hh h2), if_neg (fun hh => hh h3), h4]
  simp only
  rw [h5]
theorem prs_ov {s : ByteArray} (h : ¬ s.size > 65536) (h1 : wdB (hdA s) = true) (h2 : namesB (nmsP s) = true) (h3 : (plsP s).2.1 = 0) (h4 : (plsP s).1.find? one1 = none) (h5 : (plsP s).1.find? (unk (nmsP s)) = none) (h6 : 0 ≤ ovI (spsOf (nmsP s) (plsP s).1)) : prsO s = (⟨[], []⟩, 5, hdN s + ((plsP s).1.getD (ovI (spsOf (nmsP s) (plsP s).1)).toNat default).num) := by
  unfold prsO; rw [if_neg h, if_neg (fun hh => hh h1), if_neg (fun hh => hh h2), if_neg (fun hh => hh h3), h4]
  simp only
  rw [h5]
  simp only
  rw [if_pos h6]
theorem prs_ok {s : ByteArray} (h : ¬ s.size > 65536) (h1 : wdB (hdA s) = true) (h2 : namesB (nmsP s) = true) (h3 : (plsP s).2.1 = 0) (h4 : (plsP s).1.find? one1 = none) (h5 : (plsP s).1.find? (unk (nmsP s)) = none) (h6 : ¬ 0 ≤ ovI (spsOf (nmsP s) (plsP s).1)) : prsO s = (mkP (nmsP s) (spsOf (nmsP s) (plsP s).1), 0, 0) := by
  unfold prsO; rw [if_neg h, if_neg (fun hh => hh h1), if_neg (fun hh => hh h2), if_neg (fun hh => hh h3), h4]
  simp only
  rw [h5]
  simp only
  rw [if_neg h6]
/-- Which way Parse went. -/
theorem prs_cases (s : ByteArray) (h : ¬ s.size > 65536) : wdB (hdA s) = false ∨ (wdB (hdA s) = true ∧ (namesB (nmsP s) = false ∨ (namesB (nmsP s) = true ∧ (¬ (plsP s).2.1 = 0 ∨ ((plsP s).2.1 = 0 ∧ ((∃ x, (plsP s).1.find? one1 = some x) ∨ ((plsP s).1.find? one1 = none ∧ ((∃ x, (plsP s).1.find? (unk (nmsP s)) = some x) ∨ ((plsP s).1.find? (unk (nmsP s)) = none ∧ (0 ≤ ovI (spsOf (nmsP s) (plsP s).1) ∨ ¬ 0 ≤ ovI (spsOf (nmsP s) (plsP s).1))))))))))) := by
  rcases Bool.eq_false_or_eq_true (wdB (hdA s)) with h1 | h1
  · refine .inr ⟨h1, ?_⟩
    rcases Bool.eq_false_or_eq_true (namesB (nmsP s)) with h2 | h2
    · refine .inr ⟨h2, ?_⟩
      rcases Classical.em ((plsP s).2.1 = 0) with h3 | h3
      · refine .inr ⟨h3, ?_⟩
        cases h4 : (plsP s).1.find? one1 with
        | some x => exact .inl ⟨x, rfl⟩
        | none =>
          refine .inr ⟨rfl, ?_⟩
          cases h5 : (plsP s).1.find? (unk (nmsP s)) with
          | some x => exact .inl ⟨x, rfl⟩
          | none => exact .inr ⟨rfl, Classical.em _⟩
      · exact .inl h3
    · exact .inl h2
  · exact .inl h1
/-- What is accepted is valid, a fault comes without data. -/
theorem prs_valid (s : ByteArray) : (prsO s).2.1 = 0 → prOk (prsO s).1 := by
  intro he
  by_cases h : s.size > 65536
  · rw [prs_big h] at he; exact absurd (show (2 : Int) = 0 from he) (by decide)
  rcases prs_cases s h with h1 | ⟨h1, h2 | ⟨h2, h3 | ⟨h3, ⟨x, h4⟩ | ⟨h4, ⟨x, h5⟩ | ⟨h5, h6 | h6⟩⟩⟩⟩⟩
  · rw [prs_words h h1] at he; exact absurd (show (3 : Int) = 0 from he) (by decide)
  · rw [prs_names h h1 h2] at he; exact absurd (show (6 : Int) = 0 from he) (by decide)
  · rw [prs_lines h h1 h2 h3] at he; exact absurd he h3
  · rw [prs_one h h1 h2 h3 h4] at he; exact absurd (show (3 : Int) = 0 from he) (by decide)
  · rw [prs_unk h h1 h2 h3 h4 h5] at he; exact absurd (show (6 : Int) = 0 from he) (by decide)
  · rw [prs_ov h h1 h2 h3 h4 h5 h6] at he; exact absurd (show (5 : Int) = 0 from he) (by decide)
  · rw [prs_ok h h1 h2 h3 h4 h5 h6]
    refine mkP_ok (mkE_ok h2 (spsOf_all h5) ?_)
    rcases ovI_cases (spsOf (nmsP s) (plsP s).1) with ⟨h7, _⟩ | ⟨i, _, _, _, h7⟩
    · exact h7
    · exact absurd (show 0 ≤ ovI (spsOf (nmsP s) (plsP s).1) by omega) h6
end Go.Proofs

namespace Go.Proofs
open Go Go.Sx

/-! property.Text, and Parse of it: plain -/
def nmsTx (l : List ByteArray) : List UInt8 := l.flatMap fun n => 32 :: n.data.toList
def lxSp (names : List ByteArray) (s : Sp) : Lx := ⟨s.lo, s.hi, (names.getD s.val.toNat default).data.toList⟩
def txL (p : Pr) : List UInt8 := (atB.data.toList ++ nmsTx p.names) ++ 10 :: lnsTx (p.spans.map (lxSp p.names))
noncomputable def txS (p : Pr) : ByteArray := if validP p = true then listB (txL p) else ⟨#[]⟩
noncomputable def txE (p : Pr) : Int := if validP p = true then 0 else 11
theorem valid_iff {p : Pr} : validP p = true ↔ prOk p := ⟨fun h => @of_decide_eq_true _ (Classical.propDecidable _) h, fun h => (validP_t h).symm⟩
theorem prOk_sp {p : Pr} (h : prOk p) {i : Nat} (hi : i < p.spans.length) : spIn p.names.length (p.spans.getD i default) := (h.2 i hi).1
theorem prOk_asc {p : Pr} (h : prOk p) : ascS p.spans := by
  have key : ∀ j, j < p.spans.length → ∀ i, i < j → (p.spans.getD i default).hi < (p.spans.getD j default).lo := by
    intro j
    induction j with
    | zero => intro _ i hi; omega
    | succ j ih =>
      intro hj i hi
      have h1 := ((h.2 (j + 1) hj).2 (by omega)).1
      rw [show j + 1 - 1 = j by omega] at h1
      by_cases e : i = j
      · subst e; exact h1
      · have h2 := ih (by omega) i (by omega)
        have h3 := (prOk_sp h (show j < p.spans.length by omega)).2.1
        omega
  unfold ascS
  rw [List.pairwise_iff_getElem]
  intro i j hi hj hij
  have := key j hj i hij
  rwa [getD_get hi, getD_get hj] at this
theorem prOk_all {p : Pr} (h : prOk p) : allS p.names.length p.spans := fun i hi => by
  have := prOk_sp h hi
  unfold spIn at this
  exact ⟨insB_iff.2 ⟨this.1, this.2.1, this.2.2.1⟩, by omega, by omega⟩
theorem prOk_apart {p : Pr} (h : prOk p) : apart p.spans := by
  have h1 := prOk_asc h
  unfold apart
  unfold ascS at h1
  refine List.Pairwise.imp_of_mem (fun {a b} ha hb hab ho => ?_) h1
  unfold ovS at ho
  omega
theorem prOk_srt {p : Pr} (h : prOk p) : srt p.spans = p.spans := by
  refine (srt_one (prOk_all h) (prOk_apart h) (List.Perm.refl _) ?_).symm
  have h1 := prOk_asc h
  unfold ascS at h1
  refine List.Pairwise.imp_of_mem (fun {a b} ha hb hab => ?_) h1
  have := mkS_lo (allS_iff.1 (prOk_all h) a ha)
  show a.lo ≤ b.lo
  omega
theorem prOk_join {p : Pr} (h : prOk p) : ∀ k, k ≤ p.spans.length → joinSp (p.spans.take k) = p.spans.take k
  | 0, _ => rfl
  | k + 1, hk => by
    have hk' : k < p.spans.length := hk
    have hl : (p.spans.take k).length = k := by rw [List.length_take]; omega
    have hs := prOk_sp h hk'
    unfold spIn at hs
    rw [joinSp_take hk', prOk_join h k (by omega)]
    unfold joinS1
    rw [if_neg (by omega), if_neg, List.take_succ_eq_append_getElem hk', getD_get hk']
    rintro ⟨h1, h2, h3⟩
    rw [hl] at h1 h2 h3
    have e : (p.spans.take k).getD (k - 1) default = p.spans.getD (k - 1) default := by
      rw [List.getD_eq_getElem?_getD, List.getElem?_take, if_pos (by omega), ← List.getD_eq_getElem?_getD]
    rw [e] at h2 h3
    exact ((h.2 k hk').2 h1).2 ⟨h2.symm, h3.symm⟩
theorem mkP_self {p : Pr} (h : prOk p) : mkE p.names p.spans = 0 ∧ mkP p.names p.spans = p := by
  have h0 := mkE_ok h.1 (prOk_all h) (noOv_iff.2 (prOk_apart h))
  refine ⟨h0, ?_⟩
  rw [mkP_yes h0, prOk_srt h]
  have := prOk_join h p.spans.length (Nat.le_refl _)
  rw [List.take_length] at this
  rw [this]
theorem nmB_size {s : ByteArray} (h : isNameB s = true) : s.size ≤ 32 := by
  simp only [isNameB, Bool.and_eq_true, decide_eq_true_eq] at h
  exact h.1.2
theorem nm_facts {l : List ByteArray} (h : namesB l = true) : ∀ n ∈ l, (∀ b ∈ n.data.toList, wordB b = true) ∧ n.data.toList ≠ [] ∧ n.size ≤ 32 := by
  intro n hn
  obtain ⟨i, hi, rfl⟩ := List.getElem_of_mem hn
  have h1 := (nmOk_of h i hi).1
  rw [List.getD_eq_getElem?_getD, List.getElem?_eq_getElem hi] at h1
  have h1 : isNameB l[i] = true := h1
  refine ⟨name_word h1, fun e => ?_, nmB_size h1⟩
  have : l[i] = ⟨#[]⟩ := size_nil e
  rw [this] at h1
  exact absurd h1 (by decide)
theorem split_names : ∀ (l : List ByteArray) (a : List UInt8), (∀ b ∈ a, b ≠ 32) → (∀ n ∈ l, ∀ b ∈ n.data.toList, b ≠ 32) → splitL 32 (a ++ nmsTx l) = a :: l.map (·.data.toList)
  | [], a, ha, _ => by
    rw [show nmsTx [] = [] from rfl, List.append_nil, splitL_none ha]; rfl
  | n :: l, a, ha, h => by
    rw [show nmsTx (n :: l) = 32 :: (n.data.toList ++ nmsTx l) from by simp [nmsTx], splitL_cut ha, split_names l n.data.toList (fun b hb => h n (by simp) b hb) (fun m hm => h m (by simp [hm]))]
    rfl
theorem nmsTx_mem {l : List ByteArray} (h : ∀ n ∈ l, ∀ b ∈ n.data.toList, wordB b = true) : ∀ b ∈ nmsTx l, b ≠ 10 := by
  intro b hb
  obtain ⟨n, hn, hb⟩ := List.mem_flatMap.1 hb
  rcases List.mem_cons.1 hb with rfl | hb
  · decide
  · exact (word_ne (h n hn b hb)).1
theorem fnd_uniq {l : List ByteArray} (h : namesB l = true) {i : Nat} (hi : i < l.length) : fndI l (l.getD i default) = some i :=
  fnd_at hi (fun j hj => (nmOk_of h i hi).2 j hj) rfl
theorem tx_lx {p : Pr} (h : prOk p) : ∀ x ∈ p.spans.map (lxSp p.names), okLx x := by
  intro x hx
  obtain ⟨s, hs, rfl⟩ := List.mem_map.1 hx
  obtain ⟨i, hi, rfl⟩ := List.getElem_of_mem hs
  have h1 := prOk_sp h hi
  rw [getD_get hi] at h1
  unfold spIn at h1
  refine ⟨validB_iff.2 ⟨h1.1, by show p.spans[i].lo ≤ _; omega⟩, validB_iff.2 ⟨by show 0 ≤ p.spans[i].hi; omega, h1.2.2.1⟩, h1.2.1, ?_⟩
  have hv : p.spans[i].val.toNat < p.names.length := by omega
  refine Good.word ((nm_facts h.1 _ ?_).1)
  rw [List.getD_eq_getElem?_getD, List.getElem?_eq_getElem hv]
  exact List.getElem_mem hv
/-- Parse reads what Text writes. -/
theorem prs_tx {p : Pr} (h : prOk p) (hs : (txS p).size ≤ 65536) : prsO (txS p) = (p, 0, 0) := by
  have hf := nm_facts h.1
  have e0 : txS p = listB (txL p) := if_pos (valid_iff.2 h)
  rw [e0] at hs ⊢
  have hlen : (txL p).length ≤ 65536 := hs
  have hn10 : ∀ b ∈ atB.data.toList ++ nmsTx p.names, b ≠ 10 := fun b hb => by
    rcases List.mem_append.1 hb with hb | hb
    · exact (show ∀ b ∈ atB.data.toList, b ≠ 10 by decide) b hb
    · exact nmsTx_mem (fun n hn => (hf n hn).1) b hb
  have hh : headL 1 (txL p) = (atB.data.toList ++ nmsTx p.names, 1, lnsTx (p.spans.map (lxSp p.names))) := by
    rw [headL_ln (l := txL p) ⟨64, _, rfl, by decide⟩]
    obtain ⟨t1, t2⟩ := take_wh (r := lnsTx (p.spans.map (lxSp p.names))) hn10
    unfold txL
    rw [t1, t2]
  have hA : hdA (listB (txL p)) = listB (atB.data.toList ++ nmsTx p.names) := by unfold hdA; rw [toList_listB, hh]
  have hZ : hdZ (listB (txL p)) = listB (lnsTx (p.spans.map (lxSp p.names))) := by unfold hdZ; rw [toList_listB, hh]
  have hw : wdL (hdA (listB (txL p))) = atB :: p.names := by
    rw [hA]
    unfold wdL splB
    rw [toList_listB, split_names p.names _ (by decide) (fun n hn b hb => (word_ne ((hf n hn).1 b hb)).2.2.2), List.map_cons, List.map_map]
    congr 1
    exact (List.map_congr_left (fun n _ => listB_toList n)).trans (List.map_id _)
  have hn1 : 1 ≤ p.names.length := by
    have := h.1
    simp only [namesB, Bool.and_eq_true, decide_eq_true_eq] at this
    exact this.1.1
  have hwo : wdB (hdA (listB (txL p))) = true := by
    refine wd_t ⟨?_, ?_, fun j hj hjl => ?_⟩
    · rw [hw, List.length_cons]; omega
    · rw [hw]; rfl
    · rw [hw] at hjl ⊢
      obtain ⟨j, rfl⟩ : ∃ i, j = i + 1 := ⟨j - 1, by omega⟩
      rw [List.getD_cons_succ]
      have hj2 : j < p.names.length := by simpa using hjl
      intro e
      have hm : p.names.getD j default ∈ p.names := by
        rw [List.getD_eq_getElem?_getD, List.getElem?_eq_getElem hj2]; exact List.getElem_mem hj2
      have := (hf _ hm).2.1
      rw [e] at this
      exact this rfl
  have hnm : nmsP (listB (txL p)) = p.names := by
    unfold nmsP wdN
    rw [if_pos hwo, hw]
    rfl
  have hbl : (lnsTx (p.spans.map (lxSp p.names))).length ≤ 65536 := by
    have : (txL p).length = (atB.data.toList ++ nmsTx p.names).length + ((lnsTx (p.spans.map (lxSp p.names))).length + 1) := by
      unfold txL; rw [List.length_append, List.length_cons]
    omega
  have hpl : plsP (listB (txL p)) = (lnsOf 1 (p.spans.map (lxSp p.names)), 0, 0) := by
    unfold plsP
    rw [hZ]
    exact linesP_rt (tx_lx h) hbl
  have hl1 : (plsP (listB (txL p))).1 = lnsOf 1 (p.spans.map (lxSp p.names)) := by rw [hpl]
  have hat : ∀ k, k < p.spans.length → (lnsOf 1 (p.spans.map (lxSp p.names))).getD k default = lnOf (1 + k) (lxSp p.names (p.spans.getD k default)) := fun k hk => by
    rw [lnsOf_at _ _ _ (by simpa using hk)]
    congr 1
    simp [List.getD_eq_getElem?_getD, hk]
  have hll : (lnsOf 1 (p.spans.map (lxSp p.names))).length = p.spans.length := by rw [lnsOf_len, List.length_map]
  have hfn : ∀ k, k < p.spans.length → fndI p.names (fld (lnOf (1 + k) (lxSp p.names (p.spans.getD k default)))) = some (p.spans.getD k default).val.toNat := fun k hk => by
    have hin := prOk_sp h hk
    unfold spIn at hin
    exact fnd_uniq h.1 (by omega)
  have h4 : (plsP (listB (txL p))).1.find? one1 = none := by
    rw [hl1]
    refine find_no (fun j hj => ?_)
    rw [hll] at hj
    rw [hat j hj]
    exact fun h => absurd (show false = true from h) (by decide)
  have h5 : (plsP (listB (txL p))).1.find? (unk (nmsP (listB (txL p)))) = none := by
    rw [hl1, hnm]
    refine find_no (fun j hj => ?_)
    rw [hll] at hj
    rw [hat j hj]
    unfold unk fndB
    rw [hfn j hj]
    exact fun h => absurd (show false = true from h) (by decide)
  have hsp : spsOf (nmsP (listB (txL p))) (plsP (listB (txL p))).1 = p.spans := by
    rw [hl1, hnm]
    refine List.ext_getElem (by rw [spsOf_len, hll]) (fun k k1 k2 => ?_)
    have e1 := spsOf_at (names := p.names) (l := lnsOf 1 (p.spans.map (lxSp p.names))) (k := k) (by rw [hll]; exact k2)
    rw [getD_get k1, hat k k2] at e1
    rw [e1]
    have hin := prOk_sp h k2
    unfold spIn at hin
    unfold spOf fndV
    rw [hfn k k2]
    rw [getD_get k2] at hin ⊢
    show (⟨p.spans[k].lo, p.spans[k].hi, (p.spans[k].val.toNat : Int)⟩ : Sp) = p.spans[k]
    rw [show (p.spans[k].val.toNat : Int) = p.spans[k].val by omega]
  have h6 : ¬ 0 ≤ ovI (spsOf (nmsP (listB (txL p))) (plsP (listB (txL p))).1) := by
    rw [hsp, ovI_no (noOv_iff.2 (prOk_apart h))]
    decide
  rw [prs_ok (by show ¬ (txL p).length > 65536; omega) hwo (by rw [hnm]; exact h.1) (by rw [hpl]) h4 h5 h6, hsp, hnm, (mkP_self h).2]
end Go.Proofs
