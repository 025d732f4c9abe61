import Derived.Test.YtfalaomjfkaphaaGreatDoorT7
set_option linter.unusedVariables false
set_option linter.unusedSimpArgs false
namespace Go.Proofs
open Go Go.Sx
variable {mx : Int} {pb : Bool}

/-! bytes that a field may hold -/
def okByte (b : UInt8) : Bool := decide (32 ≤ b.toNat) && decide (b.toNat ≤ 126) && !(b == 59) && !(b == 35)
def wordB (b : UInt8) : Bool := okByte b && !(b == 32)
def noBl (o : Option UInt8) : Prop := ∀ b, o = some b → b ≠ 32
structure Good (l : List UInt8) : Prop where
  all : ∀ b ∈ l, okByte b = true
  hd : noBl l.head?
  la : noBl l.getLast?
theorem Good.nil : Good [] := ⟨fun b h => by simp at h, fun b h => by simp at h, fun b h => by simp at h⟩
theorem Good.word {l : List UInt8} (h : ∀ b ∈ l, wordB b = true) : Good l := by
  have h' : ∀ b ∈ l, okByte b = true ∧ b ≠ 32 := fun b hb => by
    have := h b hb
    simp only [wordB, Bool.and_eq_true, Bool.not_eq_true', beq_eq_false_iff_ne] at this
    exact this
  exact ⟨fun b hb => (h' b hb).1, fun b hb => (h' b (List.mem_of_head? hb)).2, fun b hb => (h' b (List.mem_of_getLast? hb)).2⟩
theorem Good.app {x y : List UInt8} (hx : Good x) (hy : Good y) : Good (x ++ y) := by
  refine ⟨fun b hb => (List.mem_append.1 hb).elim (hx.all b) (hy.all b), fun b hb => ?_, fun b hb => ?_⟩
  · cases x with
    | nil => exact hy.hd b (by simpa using hb)
    | cons a r => exact hx.hd b (by simpa using hb)
  · rcases List.eq_nil_or_concat y with rfl | ⟨r, c, rfl⟩
    · exact hx.la b (by simpa using hb)
    · exact hy.la b (by simpa using hb)
theorem Good.sep {x y : List UInt8} (hx : Good x) (hy : Good y) (h1 : x ≠ []) (h2 : y ≠ []) : Good (x ++ [32] ++ y) := by
  refine ⟨fun b hb => ?_, fun b hb => ?_, fun b hb => ?_⟩
  · rcases List.mem_append.1 hb with h | h
    · rcases List.mem_append.1 h with h | h
      · exact hx.all b h
      · simp at h; subst h; decide
    · exact hy.all b h
  · cases x with
    | nil => exact absurd rfl h1
    | cons a r => exact hx.hd b (by simpa using hb)
  · rcases List.eq_nil_or_concat y with rfl | ⟨r, c, rfl⟩
    · exact absurd rfl h2
    · rw [List.concat_eq_append] at hb hy
      rw [← List.append_assoc, List.getLast?_concat] at hb
      exact hy.la b (by rw [List.getLast?_concat]; exact hb)
theorem Good.ascii {l : List UInt8} (h : Good l) : l.all (fun b => decide (b.toNat < 128)) = true := by
  rw [List.all_eq_true]
  intro b hb
  have := h.all b hb
  simp only [okByte, Bool.and_eq_true, decide_eq_true_eq] at this
  simp only [decide_eq_true_eq]
  omega
theorem okByte_blank {b : UInt8} (h : okByte b = true) (h2 : b ≠ 32) : [32, 9, 13].contains b = false := by
  simp only [okByte, Bool.and_eq_true, decide_eq_true_eq] at h
  have e : ∀ c : UInt8, c.toNat < 32 → b ≠ c := fun c hc e => by rw [e] at h; omega
  have h9 := e 9 (by decide)
  have h13 := e 13 (by decide)
  simp [h2, h9, h13]
theorem okByte_stop {b : UInt8} (h : okByte b = true) : [59, 35, 10].contains b = false := by
  simp only [okByte, Bool.and_eq_true, decide_eq_true_eq, Bool.not_eq_true', beq_eq_false_iff_ne] at h
  have h10 : b ≠ 10 := fun e => by rw [e] at h; exact absurd h.1.1.1 (by decide)
  simp [h.1.2, h.2, h10]
theorem trimS_id {l : List UInt8} {cs : List UInt8} (h1 : ∀ b, l.head? = some b → cs.contains b = false) (h2 : ∀ b, l.getLast? = some b → cs.contains b = false) : Lib.trimS l cs = l := by
  have a : Lib.trimRightS l cs = l := by
    unfold Lib.trimRightS
    rcases List.eq_nil_or_concat l with rfl | ⟨r, c, rfl⟩
    · rfl
    · have := h2 c (by simp)
      rw [List.concat_eq_append, List.reverse_append, List.reverse_cons, List.reverse_nil, List.nil_append, List.singleton_append, List.dropWhile_cons, if_neg (by rw [this]; decide)]
      simp
  rw [Lib.trimS, a]
  unfold Lib.trimLeftS
  cases l with
  | nil => rfl
  | cons b r =>
    have := h1 b rfl
    rw [List.dropWhile_cons, if_neg (by rw [this]; decide)]
theorem Good.okF {f : ByteArray} (h : Good f.data.toList) : okF f = true := by
  refine okF_t ?_ ?_
  · show decide (0 ≤ Lib.indexAny f.data.toList [59, 35, 10]) = false
    rw [Lib.indexAny_none (fun j b _ hb => okByte_stop (h.all b (List.mem_of_getElem? hb)))]
    decide
  · have e : Lib.trimS f.data.toList [32, 9, 13] = f.data.toList := trimS_id (fun b hb => okByte_blank (h.all b (List.mem_of_head? hb)) (h.hd b hb)) (fun b hb => okByte_blank (h.all b (List.mem_of_getLast? hb)) (h.la b hb))
    show f = listB (Lib.trimS f.data.toList [32, 9, 13])
    rw [e]
    rfl
theorem okC_nil : okC ⟨#[]⟩ = true := by
  refine okC_t ?_ ?_
  · decide
  · rfl

/-! digits, names -/
theorem dig_word (c : Int) : wordB (dig c) = true := by
  have h : (c % 16).toNat < 16 := by omega
  unfold dig digI
  generalize (c % 16).toNat = n at h
  match n, h with
  | 0, _ => exact (by decide)
  | 1, _ => exact (by decide)
  | 2, _ => exact (by decide)
  | 3, _ => exact (by decide)
  | 4, _ => exact (by decide)
  | 5, _ => exact (by decide)
  | 6, _ => exact (by decide)
  | 7, _ => exact (by decide)
  | 8, _ => exact (by decide)
  | 9, _ => exact (by decide)
  | 10, _ => exact (by decide)
  | 11, _ => exact (by decide)
  | 12, _ => exact (by decide)
  | 13, _ => exact (by decide)
  | 14, _ => exact (by decide)
  | 15, _ => exact (by decide)
  | n + 16, h => omega
theorem tail_word (c : Int) : ∀ k, ∀ b ∈ tail k c, wordB b = true
  | 0, b, h => by simp [tail] at h
  | k + 1, b, h => by
    simp only [tail, List.mem_cons] at h
    rcases h with rfl | h
    · exact dig_word _
    · exact tail_word c k b h
theorem hexL_word (c : Int) : ∀ b ∈ hexL c, wordB b = true := by
  unfold hexL
  split
  · split
    · exact tail_word c 4
    · split
      · exact tail_word c 5
      · exact tail_word c 6
  · intro b h; simp at h
theorem hexL_ne {c : Int} (h : validB c = true) : hexL c ≠ [] := by
  unfold hexL
  rw [if_pos h]
  split
  · simp [tail]
  · split <;> simp [tail]
theorem nameC_word {b : UInt8} (h : nameC b.toNat = true) : wordB b = true := by
  have hb := b.toNat_lt
  have e : ∀ c : UInt8, b = c → b.toNat = c.toNat := fun c h => by rw [h]
  have h59 : b ≠ 59 := fun x => by rw [x] at h; exact absurd h (by decide)
  have h35 : b ≠ 35 := fun x => by rw [x] at h; exact absurd h (by decide)
  have h32 : b ≠ 32 := fun x => by rw [x] at h; exact absurd h (by decide)
  have h1 : 32 ≤ b.toNat ∧ b.toNat ≤ 126 := by
    simp only [nameC, Bool.or_eq_true, Bool.and_eq_true, decide_eq_true_eq, beq_iff_eq] at h
    omega
  simp [wordB, okByte, h1, h59, h35, h32]
theorem name_word {s : ByteArray} (h : isNameB s = true) : ∀ b ∈ s.data.toList, wordB b = true := by
  intro b hb
  obtain ⟨i, hi, rfl⟩ := List.getElem_of_mem hb
  simp only [isNameB, Bool.and_eq_true, List.all_eq_true] at h
  have := h.2 i (List.mem_range.2 hi)
  refine nameC_word ?_
  unfold bAt at this
  rw [List.getElem?_eq_getElem hi] at this
  exact this
end Go.Proofs
