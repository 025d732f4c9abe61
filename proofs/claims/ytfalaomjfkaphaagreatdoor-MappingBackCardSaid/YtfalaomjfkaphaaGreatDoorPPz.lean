import Derived.Test.YtfalaomjfkaphaaGreatDoorT8
import Derived.Test.YtfalaomjfkaphaaGreatDoorT1z
set_option linter.unusedVariables false
set_option linter.unusedSimpArgs false
namespace Go.Proofs
open Go Go.Sx

/-! what lines.Parse reads of lines that were written: plain -/
theorem dig_val (c : Int) : dvalI (dig c).toNat = c % 16 := by
  have h : (c % 16).toNat < 16 := by omega
  have e : c % 16 = ((c % 16).toNat : Int) := by omega
  unfold dig digI
  rw [e]
  generalize (c % 16).toNat = n at h
  rw [show ((n : Int).toNat * 1 + 0) = n by omega]
  match n, h with
  | 0, _ => exact (by decide)
  | 1, _ => exact (by decide)
  | 2, _ => exact (by decide)
  | 3, _ => exact (by decide)
  | 4, _ => exact (by decide)
  | 5, _ => exact (by decide)
  | 6, _ => exact (by decide)
  | 7, _ => exact (by decide)
  | 8, _ => exact (by decide)
  | 9, _ => exact (by decide)
  | 10, _ => exact (by decide)
  | 11, _ => exact (by decide)
  | 12, _ => exact (by decide)
  | 13, _ => exact (by decide)
  | 14, _ => exact (by decide)
  | 15, _ => exact (by decide)
  | n + 16, h => omega
def foldL : List UInt8 → Int → Int
  | [], a => a
  | b :: l, a => foldL l (a * 16 + dvalI b.toNat)
theorem foldL_app : ∀ (l m : List UInt8) (a : Int), foldL (l ++ m) a = foldL m (foldL l a)
  | [], _, _ => rfl
  | b :: l, m, a => foldL_app l m _
theorem foldC_list (s : ByteArray) : ∀ k, k ≤ s.size → foldC s k = foldL (s.data.toList.take k) 0
  | 0, _ => rfl
  | k + 1, h => by
    have hk : k < s.data.toList.length := h
    rw [foldC, foldC_list s k (by omega), List.take_succ_eq_append_getElem hk, foldL_app, bAt_get h]
    rfl
theorem tail_fold (c : Int) : ∀ k, foldL (tail k c) (dv k c) = c
  | 0 => rfl
  | k + 1 => by
    show foldL (tail k c) (dv (k + 1) c * 16 + dvalI (dig (dv k c)).toNat) = c
    rw [dig_val, show dv (k + 1) c = dv k c / 16 from rfl, show dv k c / 16 * 16 + dv k c % 16 = dv k c by omega]
    exact tail_fold c k
theorem tail_len (c : Int) : ∀ k, (tail k c).length = k
  | 0 => rfl
  | k + 1 => by rw [tail, List.length_cons, tail_len c k]
theorem tail_dig (c : Int) : ∀ k, ∀ b ∈ tail k c, 0 ≤ dvalI b.toNat
  | 0, b, h => by simp [tail] at h
  | k + 1, b, h => by
    rcases List.mem_cons.1 h with rfl | h
    · rw [dig_val]; omega
    · exact tail_dig c k b h
theorem dv6 {c : Int} (h0 : 0 ≤ c) (h : c ≤ 1114111) : dv 6 c = 0 := by
  simp only [dv]
  omega
theorem hexL_facts {c : Int} (h : validB c = true) : ∃ k, 4 ≤ k ∧ k ≤ 6 ∧ hexL c = tail k c ∧ dv k c = 0 := by
  have hv := validB_iff.1 h
  unfold hexL
  rw [if_pos h]
  split
  · rename_i h4; exact ⟨4, by omega, by omega, rfl, h4⟩
  · split
    · rename_i h5; exact ⟨5, by omega, by omega, rfl, h5⟩
    · exact ⟨6, by omega, by omega, rfl, dv6 hv.1 hv.2⟩
theorem hexL_fold {c : Int} (h : validB c = true) : foldL (hexL c) 0 = c := by
  obtain ⟨k, _, _, e, hz⟩ := hexL_facts h
  rw [e]
  have := tail_fold c k
  rw [hz] at this
  exact this
theorem pc_hex {c : Int} (h : validB c = true) : pcE (hexS c) = 0 ∧ pcC (hexS c) = c := by
  obtain ⟨k, h4, h6, e, _⟩ := hexL_facts h
  have hs : (hexS c).size = k := by
    show (hexL c).length = k
    rw [e, tail_len]
  have hf : foldC (hexS c) (hexS c).size = c := by
    rw [foldC_list _ _ (Nat.le_refl _), show (hexS c).data.toList.take (hexS c).size = hexL c from List.take_of_length_le (Nat.le_refl _)]
    exact hexL_fold h
  have ok : pcOk (hexS c) := by
    refine ⟨by omega, by omega, fun j hj => ?_, by rw [hf]⟩
    rw [bAt_get hj]
    have hm : ∀ b ∈ (hexS c).data.toList, 0 ≤ dvalI b.toNat := by rw [show (hexS c).data.toList = tail k c from e]; exact tail_dig c k
    exact hm _ (List.getElem_mem _)
  exact ⟨if_pos ok, (if_pos ok).trans hf⟩
/-! one line -/
structure Lx where
  lo : Int
  hi : Int
  f : List UInt8
def okLx (x : Lx) : Prop := validB x.lo = true ∧ validB x.hi = true ∧ x.lo ≤ x.hi ∧ Good x.f
def hdTx (x : Lx) : List UInt8 := if x.lo = x.hi then hexL x.lo else hexL x.lo ++ ([46, 46] ++ hexL x.hi)
def lnTx (x : Lx) : List UInt8 := hdTx x ++ ([59, 32] ++ x.f)
def lnsTx : List Lx → List UInt8
  | [] => []
  | x :: r => lnTx x ++ 10 :: lnsTx r
theorem word_ne {b : UInt8} (h : wordB b = true) : b ≠ 10 ∧ b ≠ 35 ∧ b ≠ 59 ∧ b ≠ 32 := by
  refine ⟨fun e => ?_, fun e => ?_, fun e => ?_, fun e => ?_⟩ <;> (subst e; exact absurd h (by decide))
theorem okB_ne {b : UInt8} (h : okByte b = true) : b ≠ 10 ∧ b ≠ 35 ∧ b ≠ 59 := by
  refine ⟨fun e => ?_, fun e => ?_, fun e => ?_⟩ <;> (subst e; exact absurd h (by decide))
theorem dig_ne46 (c : Int) : dig c ≠ 46 := fun e => by
  have := dig_val c
  rw [e] at this
  have h2 : dvalI ((46 : UInt8).toNat) = -1 := by decide
  rw [h2] at this
  omega
theorem tail_ne46 (c : Int) : ∀ k, ∀ b ∈ tail k c, b ≠ 46
  | 0, b, h => by simp [tail] at h
  | k + 1, b, h => by
    rcases List.mem_cons.1 h with rfl | h
    · exact dig_ne46 _
    · exact tail_ne46 c k b h
theorem hexL_ne46 {c : Int} (h : validB c = true) : ∀ b ∈ hexL c, b ≠ 46 := by
  obtain ⟨k, _, _, e, _⟩ := hexL_facts h
  rw [e]
  exact tail_ne46 c k
theorem hdTx_mem {x : Lx} : ∀ b ∈ hdTx x, wordB b = true := by
  intro b hb
  unfold hdTx at hb
  split at hb
  · exact hexL_word _ b hb
  · rcases List.mem_append.1 hb with h | h
    · exact hexL_word _ b h
    · rcases List.mem_append.1 h with h | h
      · have : b = 46 := by simpa using h
        subst this; decide
      · exact hexL_word _ b h
theorem lnTx_mem {x : Lx} (h : okLx x) : ∀ b ∈ lnTx x, b ≠ 10 ∧ b ≠ 35 := by
  intro b hb
  rcases List.mem_append.1 hb with h1 | h1
  · have := word_ne (hdTx_mem b h1); exact ⟨this.1, this.2.1⟩
  · rcases List.mem_append.1 h1 with h2 | h2
    · have : b = 59 ∨ b = 32 := by simpa using h2
      rcases this with rfl | rfl <;> exact ⟨by decide, by decide⟩
    · have := okB_ne (h.2.2.2.all b h2); exact ⟨this.1, this.2.1⟩
theorem cut_no {l : List UInt8} {c : UInt8} (h : ∀ b ∈ l, b ≠ c) : Lib.cut l [c] = (l, [], false) := by
  have := cut_none1 (s := listB l) (c := c) (fun j hj hb => by
    rw [bAt_get hj] at hb
    exact h _ (List.getElem_mem (l := l) hj) (u8_eq.1 hb))
  exact this
theorem trim_word {l : List UInt8} (h : ∀ b ∈ l, wordB b = true) : Lib.trimS l [32, 9, 13] = l := by
  have hg := Good.word h
  exact trimS_id (fun b hb => okByte_blank (hg.all b (List.mem_of_head? hb)) (hg.hd b hb)) (fun b hb => okByte_blank (hg.all b (List.mem_of_getLast? hb)) (hg.la b hb))
theorem trim_good {l : List UInt8} (hg : Good l) : Lib.trimS l [32, 9, 13] = l :=
  trimS_id (fun b hb => okByte_blank (hg.all b (List.mem_of_head? hb)) (hg.hd b hb)) (fun b hb => okByte_blank (hg.all b (List.mem_of_getLast? hb)) (hg.la b hb))
theorem trim_blank {l : List UInt8} (hg : Good l) : Lib.trimS (32 :: l) [32, 9, 13] = l := by
  rw [← tr_comm, trL_cons, if_pos (by decide), tr_comm]
  exact trim_good hg
theorem line_parts {x : Lx} (h : okLx x) : comA (listB (lnTx x)) = listB (lnTx x) ∧ comZ (listB (lnTx x)) = ⟨#[]⟩ ∧ lnParts (listB (lnTx x)) = [listB (hdTx x), listB x.f] := by
  have e := cut_no (fun b hb => (lnTx_mem h b hb).2)
  have e1 : comA (listB (lnTx x)) = listB (lnTx x) := by
    unfold comA cutA
    rw [toList_listB, show (⟨#[35]⟩ : ByteArray).data.toList = [35] from rfl, e]
  refine ⟨e1, ?_, ?_⟩
  · unfold comZ cutZ
    rw [toList_listB, show (⟨#[35]⟩ : ByteArray).data.toList = [35] from rfl, e]
    rfl
  · unfold lnParts cutP splB
    rw [e1, toList_listB, show lnTx x = hdTx x ++ 59 :: (32 :: x.f) from rfl, splitL_cut (fun b hb => (word_ne (hdTx_mem b hb)).2.2.1), splitL_none (fun b hb => by
      rcases List.mem_cons.1 hb with rfl | hb
      · decide
      · exact (okB_ne (h.2.2.2.all b hb)).2.2)]
    simp only [List.map_cons, List.map_nil, trimB, toList_listB]
    rw [trim_word hdTx_mem, trim_blank h.2.2.2]
theorem head_span {x : Lx} (h : okLx x) : spanB (listB (hdTx x)) = true ∧ pcC (spA (listB (hdTx x))) = x.lo ∧ pcC (spZ (listB (hdTx x))) = x.hi := by
  obtain ⟨h1, h2, h3, _⟩ := h
  have p1 := pc_hex h1
  have p2 := pc_hex h2
  have key : spA (listB (hdTx x)) = hexS x.lo ∧ spZ (listB (hdTx x)) = hexS x.hi := by
    unfold hdTx
    by_cases e : x.lo = x.hi
    · rw [if_pos e]
      have c := cut_none2 (s := listB (hexL x.lo)) (fun j hj hb => by
        have := hb.1
        rw [bAt_get (by omega)] at this
        exact hexL_ne46 h1 _ (List.getElem_mem (l := hexL x.lo) (by show j < (hexL x.lo).length; have : (listB (hexL x.lo)).size = (hexL x.lo).length := rfl; omega)) (u8_eq.1 this))
      have a : spA (listB (hexL x.lo)) = hexS x.lo := by
        unfold spA cutA
        rw [show (⟨#[46, 46]⟩ : ByteArray).data.toList = [46, 46] from rfl, c]
        rfl
      refine ⟨a, ?_⟩
      rw [← e]
      unfold spZ cutF cutA
      rw [show (⟨#[46, 46]⟩ : ByteArray).data.toList = [46, 46] from rfl, c]
      rfl
    · rw [if_neg e]
      have hl : (listB (hexL x.lo ++ ([46, 46] ++ hexL x.hi))).size = (hexL x.lo).length + (2 + (hexL x.hi).length) := by
        show (hexL x.lo ++ ([46, 46] ++ hexL x.hi)).length = _
        simp; omega
      have g : ∀ j (hj : j < (hexL x.lo ++ ([46, 46] ++ hexL x.hi)).length), bAt (listB (hexL x.lo ++ ([46, 46] ++ hexL x.hi))) j = (((hexL x.lo ++ ([46, 46] ++ hexL x.hi))[j]).toNat : Int) := fun j hj => bAt_get (s := listB (hexL x.lo ++ ([46, 46] ++ hexL x.hi))) hj
      have ll : (hexL x.lo ++ ([46, 46] ++ hexL x.hi)).length = (hexL x.lo).length + (2 + (hexL x.hi).length) := by simp; omega
      have c := cut_at2 (s := listB (hexL x.lo ++ ([46, 46] ++ hexL x.hi))) (k := (hexL x.lo).length) (by omega) ⟨by
        rw [g _ (by omega), List.getElem_append_right (Nat.le_refl _)]; simp, by
        rw [g _ (by omega), List.getElem_append_right (by omega)]; simp⟩ (fun j hj hb => by
        have := hb.1
        rw [g _ (by omega), List.getElem_append_left hj] at this
        exact hexL_ne46 h1 _ (List.getElem_mem hj) (u8_eq.1 this))
      rw [toList_listB] at c
      have t1 : (hexL x.lo ++ ([46, 46] ++ hexL x.hi)).take (hexL x.lo).length = hexL x.lo := by simp
      have t2 : (hexL x.lo ++ ([46, 46] ++ hexL x.hi)).drop ((hexL x.lo).length + 2) = hexL x.hi := by
        rw [← List.drop_drop]; simp
      rw [t1, t2] at c
      refine ⟨?_, ?_⟩
      · unfold spA cutA
        rw [toList_listB, show (⟨#[46, 46]⟩ : ByteArray).data.toList = [46, 46] from rfl, c]
        rfl
      · unfold spZ cutF cutZ
        rw [toList_listB, show (⟨#[46, 46]⟩ : ByteArray).data.toList = [46, 46] from rfl, c]
        rfl
  obtain ⟨k1, k2⟩ := key
  refine ⟨span_yes ⟨by rw [k1]; exact p1.1, by rw [k2]; exact p2.1, by rw [k1, k2, p1.2, p2.2]; exact h3⟩, by rw [k1, p1.2], by rw [k2, p2.2]⟩
def lnOf (n : Int) (x : Lx) : Ln := ⟨n, x.lo, x.hi, [listB x.f], ⟨#[]⟩⟩
def lnsOf : Int → List Lx → List Ln
  | _, [] => []
  | n, x :: r => lnOf n x :: lnsOf (n + 1) r
theorem lnMk_of {x : Lx} (h : okLx x) (n : Int) : lnMk n (listB (lnTx x)) = lnOf n x := by
  obtain ⟨e1, e2, e3⟩ := line_parts h
  obtain ⟨_, s2, s3⟩ := head_span h
  unfold lnMk lnHead lnOf
  rw [e2, e3]
  show (⟨n, pcC (spA (listB (hdTx x))), pcC (spZ (listB (hdTx x))), [listB x.f], ⟨#[]⟩⟩ : Ln) = _
  rw [s2, s3]
theorem hdTx_ne {x : Lx} (h : okLx x) : ∃ b r, lnTx x = b :: r ∧ wordB b = true := by
  have h1 : hdTx x ≠ [] := by
    have := hexL_ne h.1
    unfold hdTx
    split
    · exact this
    · intro e; exact this (List.append_eq_nil_iff.1 e).1
  cases e : hdTx x with
  | nil => exact absurd e h1
  | cons b r => exact ⟨b, r ++ ([59, 32] ++ x.f), by rw [lnTx, e]; rfl, hdTx_mem b (by rw [e]; simp)⟩
theorem not_blank {x : Lx} (h : okLx x) : ¬ emB (trimB (comA (listB (lnTx x)))) = true := by
  obtain ⟨e1, _, _⟩ := line_parts h
  rw [e1]
  intro he
  have he : listB (Lib.trimS (lnTx x) [32, 9, 13]) = ⟨#[]⟩ := emB_iff.1 he
  have he : Lib.trimS (lnTx x) [32, 9, 13] = [] := congrArg (fun s : ByteArray => s.data.toList) he
  obtain ⟨b, r, e, hb⟩ := hdTx_ne h
  have hbl : [32, 9, 13].contains b = false := by
    have hg := Good.word (l := [b]) (fun c hc => by rw [List.mem_singleton.1 hc]; exact hb)
    exact okByte_blank (hg.all b (by simp)) (hg.hd b rfl)
  rw [← tr_comm, e, trL_cons, if_neg (by rw [hbl]; decide), trR_cons, if_neg (fun hh => by rw [hbl] at hh; exact Bool.noConfusion hh.2)] at he
  exact List.cons_ne_nil _ _ he
theorem goP_rt : ∀ (xs : List Lx) (n : Int) (acc : List Ln), (∀ x ∈ xs, okLx x) → goP ((splitL 10 (lnsTx xs)).map listB) n acc = (acc ++ lnsOf n xs, 0, 0)
  | [], n, acc, _ => by
    rw [lnsTx, splitL, List.map_cons, List.map_nil, goP, if_pos (by decide), goP, lnsOf, List.append_nil]
  | x :: xs, n, acc, h => by
    have hx := h x (by simp)
    obtain ⟨_, _, e3⟩ := line_parts hx
    have hh : lnHead (listB (lnTx x)) = listB (hdTx x) := by unfold lnHead; rw [e3]; rfl
    rw [lnsTx, splitL_cut (fun b hb => (lnTx_mem hx b hb).1), List.map_cons, goP, if_neg (not_blank hx), if_pos (by rw [hh]; exact (head_span hx).1), lnMk_of hx, goP_rt xs _ _ (fun y hy => h y (by simp [hy])), lnsOf, List.append_assoc]
    rfl
theorem linesP_rt {xs : List Lx} (h : ∀ x ∈ xs, okLx x) (hs : (lnsTx xs).length ≤ 65536) : linesP (listB (lnsTx xs)) = (lnsOf 1 xs, 0, 0) := by
  unfold linesP
  rw [if_neg (by show ¬ (lnsTx xs).length > 65536; omega)]
  show goP ((splitL 10 (lnsTx xs)).map listB) 1 [] = _
  rw [goP_rt xs 1 [] h, List.nil_append]
theorem lnsOf_len : ∀ (xs : List Lx) (n : Int), (lnsOf n xs).length = xs.length
  | [], _ => rfl
  | x :: xs, n => by rw [lnsOf, List.length_cons, lnsOf_len xs, List.length_cons]
instance : Inhabited Lx := ⟨⟨0, 0, []⟩⟩
theorem lnsOf_at : ∀ (xs : List Lx) (n : Int) (k : Nat), k < xs.length → (lnsOf n xs).getD k default = lnOf (n + k) (xs.getD k default)
  | [], _, k, h => by simp at h
  | x :: xs, n, 0, _ => by simp [lnsOf]
  | x :: xs, n, k + 1, h => by
    have := lnsOf_at xs (n + 1) k (by simpa using h)
    simp only [lnsOf, List.getD_cons_succ]
    rw [this, show n + 1 + (k : Int) = n + ((k + 1 : Nat) : Int) by omega]
/-! what lines.Text writes -/
theorem lnsTx_app : ∀ (xs ys : List Lx), lnsTx (xs ++ ys) = lnsTx xs ++ lnsTx ys
  | [], _ => rfl
  | x :: xs, ys => by rw [List.cons_append, lnsTx, lnsTx_app xs ys, lnsTx, List.append_assoc, List.cons_append]
def lxLn (x : Lx) : Ln := ⟨0, x.lo, x.hi, [listB x.f], ⟨#[]⟩⟩
theorem lnW_tx (b : ByteArray) (x : Lx) : (lnW b (lxLn x)).data.toList = b.data.toList ++ (lnTx x ++ [10]) := by
  unfold lnW lnWC
  rw [if_pos (show (lxLn x).com = ⟨#[]⟩ from rfl)]
  show (lnWF b (lxLn x) 1).data.toList ++ [10] = _
  show ((lnW1 b (lxLn x)).data.toList ++ ([59, 32] ++ x.f)) ++ [10] = _
  have e : (lnW1 b (lxLn x)).data.toList = b.data.toList ++ hdTx x := by
    unfold lnW1 hdTx
    by_cases e : x.lo = x.hi
    · rw [if_pos (show (lxLn x).lo = (lxLn x).hi from e), if_pos e]; rfl
    · rw [if_neg (show ¬ (lxLn x).lo = (lxLn x).hi from e), if_neg e]
      show (b.data.toList ++ hexL x.lo) ++ ([46, 46] ++ hexL x.hi) = _
      rw [List.append_assoc]
  rw [e, lnTx]
  simp only [List.append_assoc]
theorem lnsW_tx (xs : List Lx) : ∀ k, k ≤ xs.length → (lnsW (xs.map lxLn) k).data.toList = lnsTx (xs.take k)
  | 0, _ => rfl
  | k + 1, h => by
    have hk : k < xs.length := h
    have e : (xs.map lxLn).getD k default = lxLn xs[k] := by simp [List.getD_eq_getElem?_getD, hk]
    rw [lnsW, e, lnW_tx, lnsW_tx xs k (by omega), List.take_succ_eq_append_getElem hk, lnsTx_app]
    rfl
theorem lnE_lx {x : Lx} (h : okLx x) : lnE (lxLn x) = 0 := by
  unfold lnE
  rw [if_pos ⟨h.1, h.2.1, h.2.2.1⟩, if_pos]
  refine ⟨?_, okC_nil⟩
  show ([listB x.f].all okF) = true
  rw [List.all_cons, List.all_nil, Bool.and_true]
  exact Good.okF h.2.2.2
theorem linesS_tx {xs : List Lx} (h : ∀ x ∈ xs, okLx x) : linesE (xs.map lxLn) = 0 ∧ linesS (xs.map lxLn) = listB (lnsTx xs) := by
  have h0 : linesE (xs.map lxLn) = 0 := linesE_0 (fun j hj => by
    have hj' : j < xs.length := by simpa using hj
    have e : (xs.map lxLn).getD j default = lxLn xs[j] := by simp [List.getD_eq_getElem?_getD, hj']
    rw [e]
    exact lnE_lx (h _ (List.getElem_mem hj')))
  refine ⟨h0, ?_⟩
  unfold linesS
  rw [if_pos h0]
  apply toList_inj
  rw [List.length_map, lnsW_tx xs _ (Nat.le_refl _), List.take_length]
  rfl
end Go.Proofs

namespace Go.Proofs
open Go Go.Sx

/-! finding, and what holds of lines that are read: plain -/
theorem find_at {α : Type} [Inhabited α] {p : α → Bool} : ∀ {l : List α} {k : Nat}, k < l.length → (∀ j, j < k → ¬ p (l.getD j default) = true) → p (l.getD k default) = true → l.find? p = some (l.getD k default)
  | [], k, h, _, _ => by simp at h
  | a :: l, 0, _, _, h => by
    have h : p a = true := h
    rw [List.find?_cons, h]; rfl
  | a :: l, k + 1, hk, hn, h => by
    have h0 : p a = false := by simpa using hn 0 (by omega)
    rw [List.find?_cons, h0]
    exact find_at (l := l) (by simpa using hk) (fun j hj => hn (j + 1) (by omega)) h
theorem find_no {α : Type} [Inhabited α] {p : α → Bool} {l : List α} (hn : ∀ j, j < l.length → ¬ p (l.getD j default) = true) : l.find? p = none := by
  rw [List.find?_eq_none]
  intro x hx
  obtain ⟨i, hi, rfl⟩ := List.getElem_of_mem hx
  have := hn i hi
  rwa [List.getD_eq_getElem?_getD, List.getElem?_eq_getElem hi] at this
def fld (x : Ln) : ByteArray := x.fields.getD 0 default
def one1 (x : Ln) : Bool := !(x.fields.length == 1)
theorem pcC_valid {s : ByteArray} (h : pcE s = 0) : validB (pcC s) = true := by
  unfold pcE at h
  split at h
  · rename_i ok
    unfold pcC
    rw [if_pos ok]
    obtain ⟨h1, _, _, h4⟩ := ok
    cases hv : validB (foldC s s.size) with
    | true => rfl
    | false =>
      have : hexS (foldC s s.size) = ⟨#[]⟩ := by
        unfold hexS hexL
        rw [hv]
        rfl
      rw [this] at h4
      rw [← h4] at h1
      exact absurd h1 (by decide)
  · omega
def okLn (x : Ln) : Prop := validB x.lo = true ∧ validB x.hi = true ∧ x.lo ≤ x.hi
theorem lnMk_ok {n : Int} {x : ByteArray} (h : spanB (lnHead x) = true) : okLn (lnMk n x) := by
  have ok : spnOk (lnHead x) := @of_decide_eq_true _ (Classical.propDecidable _) h
  exact ⟨pcC_valid ok.1, pcC_valid ok.2.1, ok.2.2⟩
theorem goP_ok : ∀ (xs : List ByteArray) (n : Int) (acc : List Ln) (m : Int), m ≤ n → (∀ x ∈ acc, okLn x ∧ 0 ≤ x.num - m ∧ x.num < n) → (∀ x ∈ (goP xs n acc).1, okLn x ∧ 0 ≤ x.num - m ∧ x.num < n + xs.length) ∧ (goP xs n acc).1.length ≤ acc.length + xs.length ∧ ((goP xs n acc).2.1 = 0 ∨ (goP xs n acc).1 = []) ∧ 0 ≤ (goP xs n acc).2.1 ∧ ((goP xs n acc).2.2 = 0 ∨ n ≤ (goP xs n acc).2.2) ∧ ((goP xs n acc).2.2 = 0 ∨ (goP xs n acc).2.2 < n + xs.length)
  | [], n, acc, m, hm, h => ⟨fun x hx => by have := h x hx; simpa using this, by simp [goP], .inl rfl, Int.le_refl _, .inl rfl, .inl rfl⟩
  | x :: xs, n, acc, m, hm, h => by
    rw [goP, List.length_cons]
    split
    · obtain ⟨a, b, c, d, e, f⟩ := goP_ok xs (n + 1) acc m (by omega) (fun y hy => by have := h y hy; exact ⟨this.1, this.2.1, by omega⟩)
      refine ⟨fun y hy => ?_, by omega, c, d, by omega, by omega⟩
      have := a y hy
      exact ⟨this.1, this.2.1, by omega⟩
    · split
      · rename_i hs
        obtain ⟨a, b, c, d, e, f⟩ := goP_ok xs (n + 1) (acc ++ [lnMk n x]) m (by omega) (fun y hy => by
          rcases List.mem_append.1 hy with hy | hy
          · have := h y hy; exact ⟨this.1, this.2.1, by omega⟩
          · rw [List.mem_singleton.1 hy]
            exact ⟨lnMk_ok hs, by show 0 ≤ n - m; omega, by show n < n + 1; omega⟩)
        rw [List.length_append, List.length_singleton] at b
        refine ⟨fun y hy => ?_, by omega, c, d, by omega, by omega⟩
        have := a y hy
        exact ⟨this.1, this.2.1, by omega⟩
      · exact ⟨fun y hy => by simp at hy, by simp, .inr rfl, (show (0 : Int) ≤ 3 by decide), .inr (Int.le_refl _), .inr (by simp only; omega)⟩
theorem linesP_ok (s : ByteArray) : (∀ x ∈ (linesP s).1, okLn x ∧ 1 ≤ x.num ∧ x.num ≤ s.size + 2) ∧ (linesP s).1.length ≤ s.size + 1 ∧ ((linesP s).2.1 = 0 ∨ (linesP s).1 = []) ∧ 0 ≤ (linesP s).2.1 ∧ 0 ≤ (linesP s).2.2 ∧ (linesP s).2.2 ≤ s.size + 2 := by
  unfold linesP
  split
  · exact ⟨fun x hx => by simp at hx, by simp, .inr rfl, by decide, by decide, by simp only; omega⟩
  · obtain ⟨a, b, c, d, e, f⟩ := goP_ok (splB 10 s) 1 [] 1 (by omega) (fun x hx => by simp at hx)
    have hl := (splB_len (c := 10) (s := s)).2.1
    refine ⟨fun x hx => ?_, by simp only [List.length_nil] at b; omega, c, d, by omega, by omega⟩
    obtain ⟨h1, h2, h3⟩ := a x hx
    exact ⟨h1, by omega, by omega⟩
end Go.Proofs
