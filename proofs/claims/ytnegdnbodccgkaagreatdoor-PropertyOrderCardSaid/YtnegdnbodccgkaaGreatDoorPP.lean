import Derived.Test.YtnegdnbodccgkaaGreatDoorRT
import Derived.Test.YtnegdnbodccgkaaGreatDoorPM
import Derived.Test.YtnegdnbodccgkaaGreatDoorQ7
import Derived.Test.YtnegdnbodccgkaaGreatDoorT16
set_option linter.unusedVariables false
set_option linter.unusedSimpArgs false
namespace Go.Proofs
open Go Go.Sx

/-! property.Parse: plain -/
theorem find_at {α : Type} [Inhabited α] {p : α → Bool} : ∀ {l : List α} {k : Nat}, k < l.length → (∀ j, j < k → ¬ p (l.getD j default) = true) → p (l.getD k default) = true → l.find? p = some (l.getD k default)
  | [], k, h, _, _ => by simp at h
  | a :: l, 0, _, _, h => by
    have h : p a = true := h
    rw [List.find?_cons, h]; rfl
  | a :: l, k + 1, hk, hn, h => by
    have h0 : p a = false := by simpa using hn 0 (by omega)
    rw [List.find?_cons, h0]
    exact find_at (l := l) (by simpa using hk) (fun j hj => hn (j + 1) (by omega)) h
theorem find_no {α : Type} [Inhabited α] {p : α → Bool} {l : List α} (hn : ∀ j, j < l.length → ¬ p (l.getD j default) = true) : l.find? p = none := by
  rw [List.find?_eq_none]
  intro x hx
  obtain ⟨i, hi, rfl⟩ := List.getElem_of_mem hx
  have := hn i hi
  rwa [List.getD_eq_getElem?_getD, List.getElem?_eq_getElem hi] at this
/-- The first line that is not empty, its number, what follows it. -/
def headL : Int → List UInt8 → List UInt8 × Int × List UInt8
  | _, [] => ([], 1, [])
  | n, b :: l => if b = 10 then headL (n + 1) l else ((b :: l).takeWhile (· != 10), n, ((b :: l).dropWhile (· != 10)).drop 1)
theorem headL_nl (n : Int) (l : List UInt8) : headL n (10 :: l) = headL (n + 1) l := by rw [headL, if_pos rfl]
theorem headL_ln {n : Int} {l : List UInt8} (h : ∃ b r, l = b :: r ∧ b ≠ 10) : headL n l = (l.takeWhile (· != 10), n, (l.dropWhile (· != 10)).drop 1) := by
  obtain ⟨b, r, rfl, hb⟩ := h
  rw [headL, if_neg hb]
theorem headL_no : ∀ (l : List UInt8) (n : Int), (∀ b ∈ l, b = 10) → headL n l = ([], 1, [])
  | [], _, _ => rfl
  | b :: l, n, h => by rw [headL, if_pos (h b (by simp)), headL_no l _ (fun c hc => h c (by simp [hc]))]
theorem take_wh {l r : List UInt8} (h : ∀ b ∈ l, b ≠ 10) : (l ++ 10 :: r).takeWhile (· != 10) = l ∧ ((l ++ 10 :: r).dropWhile (· != 10)).drop 1 = r := by
  induction l with
  | nil => simp
  | cons b l ih =>
    have hb : (b != 10) = true := by simpa using h b (by simp)
    obtain ⟨i1, i2⟩ := ih (fun c hc => h c (by simp [hc]))
    rw [List.cons_append, List.takeWhile_cons_of_pos (p := (· != 10)) hb, List.dropWhile_cons_of_pos (p := (· != 10)) hb, i1]
    exact ⟨rfl, i2⟩
theorem take_no {l : List UInt8} (h : ∀ b ∈ l, b ≠ 10) : l.takeWhile (· != 10) = l ∧ (l.dropWhile (· != 10)).drop 1 = [] := by
  induction l with
  | nil => simp
  | cons b l ih =>
    have hb : (b != 10) = true := by simpa using h b (by simp)
    obtain ⟨i1, i2⟩ := ih (fun c hc => h c (by simp [hc]))
    rw [List.takeWhile_cons_of_pos (p := (· != 10)) hb, List.dropWhile_cons_of_pos (p := (· != 10)) hb, i1]
    exact ⟨rfl, i2⟩
/-- strings.Cut at a line's end. -/
theorem cut_nl (s : ByteArray) : (cutA s ⟨#[10]⟩).data.toList = s.data.toList.takeWhile (· != 10) ∧ (cutZ s ⟨#[10]⟩).data.toList = (s.data.toList.dropWhile (· != 10)).drop 1 ∧ (cutF s ⟨#[10]⟩ = false → ∀ b ∈ s.data.toList, b ≠ 10) ∧ (cutF s ⟨#[10]⟩ = true → s.data.toList = (cutA s ⟨#[10]⟩).data.toList ++ 10 :: (cutZ s ⟨#[10]⟩).data.toList) := by
  unfold cutA cutZ cutF
  rw [show (⟨#[10]⟩ : ByteArray).data.toList = [10] from rfl]
  have mem : ∀ j (hj : j < s.size), Lib.occAt s.data.toList [10] j = false → s.data.toList[j]'hj ≠ 10 := fun j hj h e => by
    rw [occ1 hj] at h
    have := of_decide_eq_false h
    rw [bAt_get hj, e] at this
    exact this rfl
  rcases Lib.index_spec s.data.toList [10] with ⟨_, h2⟩ | ⟨i, _, h2, h3, h4⟩
  · have hn : ∀ b ∈ s.data.toList, b ≠ 10 := fun b hb => by
      obtain ⟨j, hj, rfl⟩ := List.getElem_of_mem hb
      exact mem j hj (h2 j (Nat.le_of_lt hj))
    rw [cut_none h2]
    obtain ⟨t1, t2⟩ := take_no hn
    rw [t1, t2]
    exact ⟨rfl, rfl, fun _ => hn, fun h => Bool.noConfusion h⟩
  · have hi : i < s.size := by
      rcases Nat.lt_or_ge i s.size with h | h
      · exact h
      · rw [occ1_end h] at h3; exact Bool.noConfusion h3
    rw [cut_at h3 h4 h2]
    have hi' : i < s.data.toList.length := hi
    have e10 : s.data.toList[i]'hi = 10 := by
      rw [occ1 hi] at h3
      have := of_decide_eq_true h3
      rw [bAt_get hi] at this
      exact u8_eq.1 this
    have hs : s.data.toList = s.data.toList.take i ++ 10 :: s.data.toList.drop (i + 1) := by
      conv => lhs; rw [← List.take_append_drop i s.data.toList, List.drop_eq_getElem_cons hi', e10]
    have hn : ∀ b ∈ s.data.toList.take i, b ≠ 10 := fun b hb => by
      obtain ⟨j, hj, rfl⟩ := List.getElem_of_mem hb
      rw [List.getElem_take]
      have hj' : j < i := by simp at hj; omega
      exact mem j (by omega) (h4 j hj')
    obtain ⟨t1, t2⟩ := take_wh (r := s.data.toList.drop (i + 1)) hn
    rw [← hs] at t1 t2
    rw [t1, t2]
    exact ⟨rfl, rfl, fun h => Bool.noConfusion h, fun _ => hs⟩
def hdA (s : ByteArray) : ByteArray := listB (headL 1 s.data.toList).1
def hdN (s : ByteArray) : Int := (headL 1 s.data.toList).2.1
def hdZ (s : ByteArray) : ByteArray := listB (headL 1 s.data.toList).2.2
theorem headL_size : ∀ (l : List UInt8) (n : Int), (headL n l).1.length ≤ l.length ∧ (headL n l).2.2.length ≤ l.length ∧ ((headL n l).2.1 = 1 ∨ n ≤ (headL n l).2.1) ∧ ((headL n l).2.1 = 1 ∨ (headL n l).2.1 ≤ n + l.length)
  | [], n => ⟨by simp [headL], by simp [headL], .inl rfl, .inl rfl⟩
  | b :: l, n => by
    rw [headL]
    split
    · obtain ⟨h1, h2, h3, h4⟩ := headL_size l (n + 1)
      refine ⟨by simp; omega, by simp; omega, by omega, ?_⟩
      rw [List.length_cons]
      omega
    · refine ⟨(List.takeWhile_sublist _).length_le, ?_, .inr (Int.le_refl _), .inr (by simp; omega)⟩
      have := (List.dropWhile_sublist (p := (· != 10)) (l := b :: l)).length_le
      rw [List.length_drop]
      omega
theorem hd_size (s : ByteArray) : (hdA s).size ≤ s.size ∧ (hdZ s).size ≤ s.size ∧ 1 ≤ hdN s ∧ hdN s ≤ s.size + 1 := by
  obtain ⟨h1, h2, h3, h4⟩ := headL_size s.data.toList 1
  refine ⟨h1, h2, ?_, ?_⟩
  · unfold hdN; omega
  · have : s.data.toList.length = s.size := rfl
    unfold hdN; omega
/-- The words of the first line. -/
def atB : ByteArray := ⟨#[64, 110, 97, 109, 101, 115]⟩
def wdL (s : ByteArray) : List ByteArray := splB 32 s
def wdOk (s : ByteArray) : Prop := 2 ≤ (wdL s).length ∧ (wdL s).getD 0 default = atB ∧ ∀ j, 1 ≤ j → j < (wdL s).length → ¬ (wdL s).getD j default = ⟨#[]⟩
open Classical in
noncomputable def wdB (s : ByteArray) : Bool := decide (wdOk s)
theorem wd_t {s : ByteArray} (h : wdOk s) : wdB s = true := @decide_eq_true _ (Classical.propDecidable _) h
theorem wd_f {s : ByteArray} (h : ¬ wdOk s) : wdB s = false := @decide_eq_false _ (Classical.propDecidable _) h
theorem wd_iff {s : ByteArray} : wdB s = true ↔ wdOk s := ⟨fun h => @of_decide_eq_true _ (Classical.propDecidable _) h, wd_t⟩
noncomputable def wdN (s : ByteArray) : List ByteArray := if wdB s = true then (wdL s).drop 1 else []
theorem wdN_len (s : ByteArray) : (wdN s).length ≤ s.size + 1 := by
  unfold wdN
  have := (splB_len (c := 32) (s := s)).2.1
  split
  · rw [List.length_drop]; unfold wdL; omega
  · simp
/-! lines with one field each, names among those given -/
def fld (x : Ln) : ByteArray := x.fields.getD 0 default
def one1 (x : Ln) : Bool := !(x.fields.length == 1)
def unk (names : List ByteArray) (x : Ln) : Bool := !fndB names (fld x)
def spOf (names : List ByteArray) (x : Ln) : Sp := ⟨x.lo, x.hi, fndV names (fld x)⟩
def spsOf (names : List ByteArray) (l : List Ln) : List Sp := l.map (spOf names)
theorem fnd_lt {l : List ByteArray} {n : ByteArray} (h : fndB l n = true) : 0 ≤ fndV l n ∧ fndV l n < l.length := by
  unfold fndB at h
  unfold fndV
  cases e : fndI l n with
  | none => rw [e] at h; exact Bool.noConfusion h
  | some i =>
    unfold fndI at e
    have := (List.find?_range_eq_some.1 e).2.1
    simp at this
    show (0 : Int) ≤ i ∧ (i : Int) < l.length
    omega
/-! what lines.Parse accepts -/
theorem pcC_valid {s : ByteArray} (h : pcE s = 0) : validB (pcC s) = true := by
  unfold pcE at h
  split at h
  · rename_i ok
    unfold pcC
    rw [if_pos ok]
    obtain ⟨h1, _, _, h4⟩ := ok
    cases hv : validB (foldC s s.size) with
    | true => rfl
    | false =>
      have : hexS (foldC s s.size) = ⟨#[]⟩ := by
        unfold hexS hexL
        rw [hv]
        rfl
      rw [this] at h4
      rw [← h4] at h1
      exact absurd h1 (by decide)
  · omega
def okLn (x : Ln) : Prop := validB x.lo = true ∧ validB x.hi = true ∧ x.lo ≤ x.hi
theorem lnMk_ok {n : Int} {x : ByteArray} (h : spanB (lnHead x) = true) : okLn (lnMk n x) := by
  have ok : spnOk (lnHead x) := @of_decide_eq_true _ (Classical.propDecidable _) h
  exact ⟨pcC_valid ok.1, pcC_valid ok.2.1, ok.2.2⟩
theorem goP_ok : ∀ (xs : List ByteArray) (n : Int) (acc : List Ln) (m : Int), m ≤ n → (∀ x ∈ acc, okLn x ∧ 0 ≤ x.num - m ∧ x.num < n) → (∀ x ∈ (goP xs n acc).1, okLn x ∧ 0 ≤ x.num - m ∧ x.num < n + xs.length) ∧ (goP xs n acc).1.length ≤ acc.length + xs.length ∧ ((goP xs n acc).2.1 = 0 ∨ (goP xs n acc).1 = []) ∧ 0 ≤ (goP xs n acc).2.1 ∧ ((goP xs n acc).2.2 = 0 ∨ n ≤ (goP xs n acc).2.2) ∧ ((goP xs n acc).2.2 = 0 ∨ (goP xs n acc).2.2 < n + xs.length)
  | [], n, acc, m, hm, h => ⟨fun x hx => by have := h x hx; simpa using this, by simp [goP], .inl rfl, Int.le_refl _, .inl rfl, .inl rfl⟩
  | x :: xs, n, acc, m, hm, h => by
    rw [goP, List.length_cons]
    split
    · obtain ⟨a, b, c, d, e, f⟩ := goP_ok xs (n + 1) acc m (by omega) (fun y hy => by have := h y hy; exact ⟨this.1, this.2.1, by omega⟩)
      refine ⟨fun y hy => ?_, by omega, c, d, by omega, by omega⟩
      have := a y hy
      exact ⟨this.1, this.2.1, by omega⟩
    · split
      · rename_i hs
        obtain ⟨a, b, c, d, e, f⟩ := goP_ok xs (n + 1) (acc ++ [lnMk n x]) m (by omega) (fun y hy => by
          rcases List.mem_append.1 hy with hy | hy
          · have := h y hy; exact ⟨this.1, this.2.1, by omega⟩
          · rw [List.mem_singleton.1 hy]
            exact ⟨lnMk_ok hs, by show 0 ≤ n - m; omega, by show n < n + 1; omega⟩)
        rw [List.length_append, List.length_singleton] at b
        refine ⟨fun y hy => ?_, by omega, c, d, by omega, by omega⟩
        have := a y hy
        exact ⟨this.1, this.2.1, by omega⟩
      · exact ⟨fun y hy => by simp at hy, by simp, .inr rfl, (show (0 : Int) ≤ 3 by decide), .inr (Int.le_refl _), .inr (by simp only; omega)⟩
theorem linesP_ok (s : ByteArray) : (∀ x ∈ (linesP s).1, okLn x ∧ 1 ≤ x.num ∧ x.num ≤ s.size + 2) ∧ (linesP s).1.length ≤ s.size + 1 ∧ ((linesP s).2.1 = 0 ∨ (linesP s).1 = []) ∧ 0 ≤ (linesP s).2.1 ∧ 0 ≤ (linesP s).2.2 ∧ (linesP s).2.2 ≤ s.size + 2 := by
  unfold linesP
  split
  · exact ⟨fun x hx => by simp at hx, by simp, .inr rfl, by decide, by decide, by simp only; omega⟩
  · obtain ⟨a, b, c, d, e, f⟩ := goP_ok (splB 10 s) 1 [] 1 (by omega) (fun x hx => by simp at hx)
    have hl := (splB_len (c := 10) (s := s)).2.1
    refine ⟨fun x hx => ?_, by simp only [List.length_nil] at b; omega, c, d, by omega, by omega⟩
    obtain ⟨h1, h2, h3⟩ := a x hx
    exact ⟨h1, by omega, by omega⟩
/-! Parse -/
noncomputable def plsP (s : ByteArray) : List Ln × Int × Int := linesP (hdZ s)
noncomputable def nmsP (s : ByteArray) : List ByteArray := wdN (hdA s)
noncomputable def prsO (s : ByteArray) : Pr × Int × Int :=
  if s.size > 65536 then (⟨[], []⟩, 2, 0)
  else if ¬ wdB (hdA s) = true then (⟨[], []⟩, 3, hdN s)
  else if ¬ namesB (nmsP s) = true then (⟨[], []⟩, 6, hdN s)
  else if ¬ (plsP s).2.1 = 0 then (⟨[], []⟩, (plsP s).2.1, hdN s + (plsP s).2.2)
  else match (plsP s).1.find? one1 with
    | some x => (⟨[], []⟩, 3, hdN s + x.num)
    | none => match (plsP s).1.find? (unk (nmsP s)) with
      | some x => (⟨[], []⟩, 6, hdN s + x.num)
      | none => if 0 ≤ ovI (spsOf (nmsP s) (plsP s).1) then (⟨[], []⟩, 5, hdN s + ((plsP s).1.getD (ovI (spsOf (nmsP s) (plsP s).1)).toNat default).num)
        else (mkP (nmsP s) (spsOf (nmsP s) (plsP s).1), 0, 0)
theorem spsOf_len (names : List ByteArray) (l : List Ln) : (spsOf names l).length = l.length := List.length_map _
theorem spsOf_at {names : List ByteArray} {l : List Ln} {k : Nat} (h : k < l.length) : (spsOf names l).getD k default = spOf names (l.getD k default) := by
  simp [spsOf, List.getD_eq_getElem?_getD, h]
theorem spsOf_all {s : ByteArray} (h : (plsP s).1.find? (unk (nmsP s)) = none) : allS (nmsP s).length (spsOf (nmsP s) (plsP s).1) := by
  intro i hi
  rw [spsOf_len] at hi
  rw [spsOf_at hi]
  have hm : (plsP s).1.getD i default ∈ (plsP s).1 := by
    rw [List.getD_eq_getElem?_getD, List.getElem?_eq_getElem hi]; exact List.getElem_mem hi
  have h1 := ((linesP_ok (hdZ s)).1 _ hm).1
  have h2 := List.find?_eq_none.1 h _ hm
  have h3 : fndB (nmsP s) (fld ((plsP s).1.getD i default)) = true := by simpa [unk] using h2
  have h4 := fnd_lt h3
  have v1 := validB_iff.1 h1.1
  have v2 := validB_iff.1 h1.2.1
  exact ⟨insB_iff.2 ⟨v1.1, h1.2.2, v2.2⟩, h4.1, h4.2⟩
theorem prs_big {s : ByteArray} (h : s.size > 65536) : prsO s = (⟨[], []⟩, 2, 0) := if_pos h
theorem prs_words {s : ByteArray} (h : ¬ s.size > 65536) (h1 : wdB (hdA s) = false) : prsO s = (⟨[], []⟩, 3, hdN s) := by
  unfold prsO; rw [if_neg h, if_pos (by rw [h1]; decide)]
theorem prs_names {s : ByteArray} (h : ¬ s.size > 65536) (h1 : wdB (hdA s) = true) (h2 : namesB (nmsP s) = false) : prsO s = (⟨[], []⟩, 6, hdN s) := by
  unfold prsO; rw [if_neg h, if_neg (fun hh => hh h1), if_pos (by rw [h2]; decide)]
theorem prs_lines {s : ByteArray} (h : ¬ s.size > 65536) (h1 : wdB (hdA s) = true) (h2 : namesB (nmsP s) = true) (h3 : ¬ (plsP s).2.1 = 0) : prsO s = (⟨[], []⟩, (plsP s).2.1, hdN s + (plsP s).2.2) := by
  unfold prsO; rw [if_neg h, if_neg (fun hh => hh h1), if_neg (fun hh => hh h2), if_pos h3]
theorem prs_one {s : ByteArray} {x : Ln} (h : ¬ s.size > 65536) (h1 : wdB (hdA s) = true) (h2 : namesB (nmsP s) = true) (h3 : (plsP s).2.1 = 0) (h4 : (plsP s).1.find? one1 = some x) : prsO s = (⟨[], []⟩, 3, hdN s + x.num) := by
  unfold prsO; rw [if_neg h, if_neg (fun hh => hh h1), if_neg (fun hh => hh h2), if_neg (fun hh => hh h3), h4]
theorem prs_unk {s : ByteArray} {x : Ln} (h : ¬ s.size > 65536) (h1 : wdB (hdA s) = true) (h2 : namesB (nmsP s) = true) (h3 : (plsP s).2.1 = 0) (h4 : (plsP s).1.find? one1 = none) (h5 : (plsP s).1.find? (unk (nmsP s)) = some x) : prsO s = (⟨[], []⟩, 6, hdN s + x.num) := by
  unfold prsO; rw [if_neg h, if_neg (fun hh => hh h1), if_neg (fun hh => hh h2), if_neg (fun hh => hh h3), h4]
  simp only
  rw [h5]
theorem prs_ov {s : ByteArray} (h : ¬ s.size > 65536) (h1 : wdB (hdA s) = true) (h2 : namesB (nmsP s) = true) (h3 : (plsP s).2.1 = 0) (h4 : (plsP s).1.find? one1 = none) (h5 : (plsP s).1.find? (unk (nmsP s)) = none) (h6 : 0 ≤ ovI (spsOf (nmsP s) (plsP s).1)) : prsO s = (⟨[], []⟩, 5, hdN s + ((plsP s).1.getD (ovI (spsOf (nmsP s) (plsP s).1)).toNat default).num) := by
  unfold prsO; rw [if_neg h, if_neg (fun hh => hh h1), if_neg (fun hh => hh h2), if_neg (fun hh => hh h3), h4]
  simp only
  rw [h5]
  simp only
  rw [if_pos h6]
theorem prs_ok {s : ByteArray} (h : ¬ s.size > 65536) (h1 : wdB (hdA s) = true) (h2 : namesB (nmsP s) = true) (h3 : (plsP s).2.1 = 0) (h4 : (plsP s).1.find? one1 = none) (h5 : (plsP s).1.find? (unk (nmsP s)) = none) (h6 : ¬ 0 ≤ ovI (spsOf (nmsP s) (plsP s).1)) : prsO s = (mkP (nmsP s) (spsOf (nmsP s) (plsP s).1), 0, 0) := by
  unfold prsO; rw [if_neg h, if_neg (fun hh => hh h1), if_neg (fun hh => hh h2), if_neg (fun hh => hh h3), h4]
  simp only
  rw [h5]
  simp only
  rw [if_neg h6]
/-- Which way Parse went. -/
theorem prs_cases (s : ByteArray) (h : ¬ s.size > 65536) : wdB (hdA s) = false ∨ (wdB (hdA s) = true ∧ (namesB (nmsP s) = false ∨ (namesB (nmsP s) = true ∧ (¬ (plsP s).2.1 = 0 ∨ ((plsP s).2.1 = 0 ∧ ((∃ x, (plsP s).1.find? one1 = some x) ∨ ((plsP s).1.find? one1 = none ∧ ((∃ x, (plsP s).1.find? (unk (nmsP s)) = some x) ∨ ((plsP s).1.find? (unk (nmsP s)) = none ∧ (0 ≤ ovI (spsOf (nmsP s) (plsP s).1) ∨ ¬ 0 ≤ ovI (spsOf (nmsP s) (plsP s).1))))))))))) := by
  rcases Bool.eq_false_or_eq_true (wdB (hdA s)) with h1 | h1
  · refine .inr ⟨h1, ?_⟩
    rcases Bool.eq_false_or_eq_true (namesB (nmsP s)) with h2 | h2
    · refine .inr ⟨h2, ?_⟩
      rcases Classical.em ((plsP s).2.1 = 0) with h3 | h3
      · refine .inr ⟨h3, ?_⟩
        cases h4 : (plsP s).1.find? one1 with
        | some x => exact .inl ⟨x, rfl⟩
        | none =>
          refine .inr ⟨rfl, ?_⟩
          cases h5 : (plsP s).1.find? (unk (nmsP s)) with
          | some x => exact .inl ⟨x, rfl⟩
          | none => exact .inr ⟨rfl, Classical.em _⟩
      · exact .inl h3
    · exact .inl h2
  · exact .inl h1
/-- What is accepted is valid, a fault comes without data. -/
theorem prs_valid (s : ByteArray) : (prsO s).2.1 = 0 → prOk (prsO s).1 := by
  intro he
  by_cases h : s.size > 65536
  · rw [prs_big h] at he; exact absurd (show (2 : Int) = 0 from he) (by decide)
  rcases prs_cases s h with h1 | ⟨h1, h2 | ⟨h2, h3 | ⟨h3, ⟨x, h4⟩ | ⟨h4, ⟨x, h5⟩ | ⟨h5, h6 | h6⟩⟩⟩⟩⟩
  · rw [prs_words h h1] at he; exact absurd (show (3 : Int) = 0 from he) (by decide)
  · rw [prs_names h h1 h2] at he; exact absurd (show (6 : Int) = 0 from he) (by decide)
  · rw [prs_lines h h1 h2 h3] at he; exact absurd he h3
  · rw [prs_one h h1 h2 h3 h4] at he; exact absurd (show (3 : Int) = 0 from he) (by decide)
  · rw [prs_unk h h1 h2 h3 h4 h5] at he; exact absurd (show (6 : Int) = 0 from he) (by decide)
  · rw [prs_ov h h1 h2 h3 h4 h5 h6] at he; exact absurd (show (5 : Int) = 0 from he) (by decide)
  · rw [prs_ok h h1 h2 h3 h4 h5 h6]
    refine mkP_ok (mkE_ok h2 (spsOf_all h5) ?_)
    rcases ovI_cases (spsOf (nmsP s) (plsP s).1) with ⟨h7, _⟩ | ⟨i, _, _, _, h7⟩
    · exact h7
    · exact absurd (show 0 ≤ ovI (spsOf (nmsP s) (plsP s).1) by omega) h6
end Go.Proofs
