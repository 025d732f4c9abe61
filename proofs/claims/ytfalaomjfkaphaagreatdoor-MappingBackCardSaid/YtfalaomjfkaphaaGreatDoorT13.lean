import Derived.Test.YtfalaomjfkaphaaGreatDoorT12
import Derived.Test.YtfalaomjfkaphaaGreatDoorGc
import Derived.WalkSmall
set_option linter.unusedVariables false
set_option linter.unusedSimpArgs false
namespace Go.Proofs
open Go Go.Sx Go.RowKit
variable {mx : Int} {pb : Bool}

/-! cutting at the first place -/
theorem cut_at {s sub : List UInt8} {i : Nat} (h : Lib.occAt s sub i = true) (hn : ∀ j, j < i → Lib.occAt s sub j = false) (hi : i ≤ s.length) : Lib.cut s sub = (s.take i, s.drop (i + sub.length), true) := by
  have e : Lib.index s sub = i := by
    rcases Lib.index_spec s sub with ⟨_, h2⟩ | ⟨k, h1, h2, h3, h4⟩
    · rw [h2 i hi] at h; exact Bool.noConfusion h
    · have : k = i := by
        rcases Nat.lt_trichotomy k i with a | a | a
        · rw [hn k a] at h3; exact Bool.noConfusion h3
        · exact a
        · rw [h4 i a] at h; exact Bool.noConfusion h
      rw [h1, this]
  unfold Lib.cut
  rw [e, if_pos (by omega), Int.toNat_natCast]
theorem cut_none {s sub : List UInt8} (hn : ∀ j, j ≤ s.length → Lib.occAt s sub j = false) : Lib.cut s sub = (s, [], false) := by
  have e : Lib.index s sub = -1 := by
    rcases Lib.index_spec s sub with ⟨h1, _⟩ | ⟨k, _, h2, h3, _⟩
    · exact h1
    · rw [hn k h2] at h3; exact Bool.noConfusion h3
  unfold Lib.cut
  rw [e, if_neg (by decide)]
theorem occ1 {s : ByteArray} {c : UInt8} {j : Nat} (hj : j < s.size) : Lib.occAt s.data.toList [c] j = decide (bAt s j = c.toNat) := by
  have hj' : j < s.data.toList.length := hj
  unfold Lib.occAt
  rw [List.drop_eq_getElem_cons hj', bAt_get hj]
  simp only [List.isPrefixOf, Bool.and_true]
  by_cases h : c = s.data.toList[j]
  · rw [← h]; rw [decide_eq_true rfl]; exact beq_self_eq_true c
  · have h2 : ¬ (((s.data.toList[j]).toNat : Int) = (c.toNat : Int)) := fun e => h (u8_eq.1 e).symm
    rw [decide_eq_false h2]
    exact beq_eq_false_iff_ne.2 h
theorem occ1_end {s : ByteArray} {c : UInt8} {j : Nat} (hj : s.size ≤ j) : Lib.occAt s.data.toList [c] j = false := by
  unfold Lib.occAt
  rw [List.drop_eq_nil_of_le (show s.data.toList.length ≤ j from hj)]
  rfl
theorem occ2 {s : ByteArray} {c d : UInt8} {j : Nat} (hj : j + 1 < s.size) : Lib.occAt s.data.toList [c, d] j = (decide (bAt s j = c.toNat) && decide (bAt s (j + 1) = d.toNat)) := by
  have hj' : j < s.data.toList.length := by show j < s.size; omega
  have e1 := occ1 (s := s) (c := c) (j := j) (by omega)
  have e2 := occ1 (s := s) (c := d) (j := j + 1) hj
  unfold Lib.occAt at *
  rw [← e1, ← e2, List.drop_eq_getElem_cons hj']
  simp only [List.isPrefixOf, Bool.and_true]
theorem occ2_end {s : ByteArray} {c d : UInt8} {j : Nat} (hj : s.size ≤ j + 1) : Lib.occAt s.data.toList [c, d] j = false := by
  unfold Lib.occAt
  by_cases h : j < s.data.toList.length
  · rw [List.drop_eq_getElem_cons h, List.drop_eq_nil_of_le (show s.data.toList.length ≤ j + 1 from hj)]
    simp [List.isPrefixOf]
  · rw [List.drop_eq_nil_of_le (by omega)]
    rfl
theorem bcut_pre (s : ByteArray) (k : Nat) : bcut s 0 k = listB (s.data.toList.take k) := rfl
theorem bcut_suf (s : ByteArray) (k : Nat) : bcut s k s.size = listB (s.data.toList.drop k) := by
  apply toList_inj
  rw [toList_bcut, List.take_of_length_le (show s.data.toList.length ≤ s.size from Nat.le_refl _)]
  rfl
theorem cut_at1 {s : ByteArray} {c : UInt8} {k : Nat} (hk : k < s.size) (h : bAt s k = c.toNat) (hn : ∀ j, j < k → ¬ bAt s j = c.toNat) : Lib.cut s.data.toList [c] = (s.data.toList.take k, s.data.toList.drop (k + 1), true) :=
  cut_at (by rw [occ1 hk]; exact decide_eq_true h) (fun j hj => by rw [occ1 (by omega)]; exact decide_eq_false (hn j hj)) (show k ≤ s.size by omega)
theorem cut_none1 {s : ByteArray} {c : UInt8} (hn : ∀ j, j < s.size → ¬ bAt s j = c.toNat) : Lib.cut s.data.toList [c] = (s.data.toList, [], false) :=
  cut_none fun j _ => by
    by_cases h : j < s.size
    · rw [occ1 h]; exact decide_eq_false (hn j h)
    · exact occ1_end (by omega)
/-! the reference's comment -/
def comA (s : ByteArray) : ByteArray := cutA s ⟨#[35]⟩
def comZ (s : ByteArray) : ByteArray := trimB (cutZ s ⟨#[35]⟩)
def ctCom : Ct := { ι := ByteArray, inp := fun s => [.v (.string s)], out := fun s => .tu [.v (.string (comA s)), .v (.string (comZ s))], pre := fun s => s.size ≤ 1000000000 }
def Γrc9 : Ctx := fun f => match f with
  | 30 => some (.pure ctTrimS)
  | _ => none
theorem Γrc9_ok : CtxOk Tryz.prog (GlT mx pb) Γrc9 := by
  intro f h hh
  simp only [Γrc9] at hh
  split at hh <;> simp at hh <;> subst hh
  · exact rTrim_ok
set_option maxHeartbeats 4000000 in
theorem rCom_ok : Sound Tryz.prog (GlT mx pb) 29 ctCom := by
  refine sound_by (cc := true) Γrc9_ok Tryz.T_ok Tryz.mixed Tryz.func29 rfl (by kernel_rfl) (fun _ => rfl) (fun _ _ => by show 1 ≤ 24; decide) ?_
  intro (s : ByteArray) (hs : s.size ≤ 1000000000)
  repeat' (first | refine gw ?_ | (refine br (fun q_ => ?_) (fun q_ => ?_) <;> try simp only [Int.toNat_natCast, Nat.mul_one, Nat.add_zero] at q_) | (refine brF (fun q_ => ?_) (fun q_ => ?_) <;> try simp only [Int.toNat_natCast, Nat.mul_one, Nat.add_zero] at q_))
  refine ⟨0, Nat, fun k => ⟨[(0, .v (.string s)), (4, .v (.int .i64 k))], [], []⟩, fun k => k ≤ s.size ∧ ∀ j, j < k → ¬ bAt s j = 35, fun k => s.size - k, fun _ => Nat.zero_le _, ⟨0, ⟨Nat.zero_le _, fun j hj => by omega⟩, StLe.ren [] tmS trivial (by decide)⟩, ?_⟩
  rintro k ⟨hk, hd⟩
  by_cases hlt : k < s.size
  · have p1 : ctTrimS.pre (bcut s (k + 1) s.size) := (by show (bcut s (k + 1) s.size).size ≤ _; rw [bcut_size s (Nat.le_refl _)]; omega)
    repeat' (first | refine gw ?_ | (refine br (fun q_ => ?_) (fun q_ => ?_) <;> try simp only [Int.toNat_natCast, Nat.mul_one, Nat.add_zero] at q_) | (refine brF (fun q_ => ?_) (fun q_ => ?_) <;> try simp only [Int.toNat_natCast, Nat.mul_one, Nat.add_zero] at q_))
    · refine entR_eq' rfl ?_
      have e := cut_at1 (c := 35) hlt q_ hd
      show D.tu [.v (.string (bcut s 0 k)), .v (.string (trimB (bcut s (k + 1) s.size)))] = D.tu [.v (.string (comA s)), .v (.string (comZ s))]
      rw [bcut_suf, bcut_pre, comA, comZ, cutA, cutZ, show (⟨#[35]⟩ : ByteArray).data.toList = [35] from rfl, e]
    · exact ⟨k + 1, ⟨by omega, next_of hd q_⟩, (by show s.size - (k + 1) < s.size - k; omega), StLe.ren [] tmS trivial (by decide)⟩
  · repeat' (first | refine gw ?_ | (refine br (fun q_ => ?_) (fun q_ => ?_) <;> try simp only [Int.toNat_natCast, Nat.mul_one, Nat.add_zero] at q_) | (refine brF (fun q_ => ?_) (fun q_ => ?_) <;> try simp only [Int.toNat_natCast, Nat.mul_one, Nat.add_zero] at q_))
    refine entR_eq' rfl ?_
    have e := cut_none1 (s := s) (c := 35) (fun j hj => hd j (by omega))
    show D.tu [.v (.string s), .v (.string ⟨#[]⟩)] = D.tu [.v (.string (comA s)), .v (.string (comZ s))]
    rw [comA, comZ, cutA, cutZ, show (⟨#[35]⟩ : ByteArray).data.toList = [35] from rfl, e]
    rfl

/-! splitting -/
def splitL (c : UInt8) : List UInt8 → List (List UInt8)
  | [] => [[]]
  | b :: l => if b = c then [] :: splitL c l else match splitL c l with | [] => [[b]] | x :: xs => (b :: x) :: xs
theorem splitL_ne (c : UInt8) : ∀ l, splitL c l ≠ []
  | [] => by simp [splitL]
  | b :: l => by
    rw [splitL]
    split
    · simp
    · split <;> simp
theorem splitL_none {c : UInt8} : ∀ {l : List UInt8}, (∀ b ∈ l, b ≠ c) → splitL c l = [l]
  | [], _ => rfl
  | b :: l, h => by
    rw [splitL, if_neg (h b (by simp)), splitL_none (fun x hx => h x (by simp [hx]))]
theorem splitL_cut {c : UInt8} {r : List UInt8} : ∀ {a : List UInt8}, (∀ b ∈ a, b ≠ c) → splitL c (a ++ c :: r) = a :: splitL c r
  | [], _ => by rw [List.nil_append, splitL, if_pos rfl]
  | b :: a, h => by
    rw [List.cons_append, splitL, if_neg (h b (by simp)), splitL_cut (fun x hx => h x (by simp [hx]))]
def splB (c : UInt8) (s : ByteArray) : List ByteArray := (splitL c s.data.toList).map listB
theorem seg_step {c : UInt8} {s : ByteArray} {f k : Nat} (hf : f ≤ k) (hk : k < s.size) (hn : ∀ j, f ≤ j → j < k → ¬ bAt s j = c.toNat) (h : bAt s k = c.toNat) : splitL c (s.data.toList.drop f) = (s.data.toList.take k).drop f :: splitL c (s.data.toList.drop (k + 1)) := by
  have hk' : k < s.data.toList.length := hk
  have e : s.data.toList.drop f = (s.data.toList.take k).drop f ++ c :: s.data.toList.drop (k + 1) := by
    have hc : s.data.toList[k] = c := u8_eq.1 (by rw [← bAt_get hk]; exact h)
    conv => lhs; rw [← List.take_append_drop k s.data.toList]
    rw [List.drop_append_of_le_length (by rw [List.length_take]; omega), List.drop_eq_getElem_cons hk', hc]
  rw [e]
  refine splitL_cut fun b hb => ?_
  obtain ⟨i, hi, rfl⟩ := List.getElem_of_mem hb
  rw [List.length_drop, List.length_take] at hi
  rw [List.getElem_drop, List.getElem_take]
  have := hn (f + i) (by omega) (by omega)
  rw [bAt_get (show f + i < s.size by omega)] at this
  exact fun e => this (u8_eq.2 e)
theorem seg_end {c : UInt8} {s : ByteArray} {f : Nat} (hn : ∀ j, f ≤ j → j < s.size → ¬ bAt s j = c.toNat) : splitL c (s.data.toList.drop f) = [s.data.toList.drop f] := by
  refine splitL_none fun b hb => ?_
  obtain ⟨i, hi, rfl⟩ := List.getElem_of_mem hb
  rw [List.length_drop] at hi
  rw [List.getElem_drop]
  have h1 : f + i < s.size := by show f + i < s.data.toList.length; omega
  have := hn (f + i) (by omega) h1
  rw [bAt_get h1] at this
  exact fun e => this (u8_eq.2 e)
def ctSplit : Ct := { ι := ByteArray × UInt8, inp := fun x => [.v (.string x.1), .v (.int .u8 x.2.toNat)], out := fun x => slD 1 strD (splB x.2 x.1), pre := fun x => x.1.size ≤ 1000000000 }
set_option maxHeartbeats 4000000 in
theorem rSplit_ok : Sound Tryz.prog (GlT mx pb) 28 ctSplit := by
  refine sound_by (cc := true) Γ0_ok Tryz.T_ok Tryz.mixed Tryz.func28 rfl (by kernel_rfl) (fun _ => rfl) (fun _ _ => by show 2 ≤ 34; decide) ?_
  rintro ⟨s, c⟩ hs
  have hs : s.size ≤ 1000000000 := hs
  repeat' (first | refine gw ?_ | (refine br (fun q_ => ?_) (fun q_ => ?_) <;> try simp only [Int.toNat_natCast, Nat.mul_one, Nat.add_zero] at q_) | (refine brF (fun q_ => ?_) (fun q_ => ?_) <;> try simp only [Int.toNat_natCast, Nat.mul_one, Nat.add_zero] at q_))
  refine ⟨0, Nat × Nat × List ByteArray, fun | (k, f, o) => ⟨[(0, .v (.string s)), (1, .v (.int .u8 c.toNat)), (5, .row 0), (6, .v (.int .i64 f)), (7, .v (.int .i64 k))], [rowL 9 1 strD o], []⟩, fun | (k, f, o) => k ≤ s.size ∧ f ≤ k ∧ o.length ≤ k ∧ (∀ j, f ≤ j → j < k → ¬ bAt s j = c.toNat) ∧ o ++ (splitL c (s.data.toList.drop f)).map listB = splB c s, fun x => s.size - x.1, fun _ => Nat.zero_le _, ⟨(0, 0, []), ⟨Nat.zero_le _, Nat.zero_le _, Nat.zero_le _, fun j _ hj => by omega, rfl⟩, StLe.trans (StLe.nilRow (t := 5) 9 1 (fun _ _ => .junk) rfl) (StLe.ren [0] tmS ⟨own_nil, trivial⟩ (by decide))⟩, ?_⟩
  rintro ⟨k, f, o⟩ ⟨hk, hf, hol, hn, ho⟩
  by_cases hlt : k < s.size
  · repeat' (first | refine gw ?_ | (refine br (fun q_ => ?_) (fun q_ => ?_) <;> try simp only [Int.toNat_natCast, Nat.mul_one, Nat.add_zero] at q_) | (refine brF (fun q_ => ?_) (fun q_ => ?_) <;> try simp only [Int.toNat_natCast, Nat.mul_one, Nat.add_zero] at q_))
    · exact ⟨(k + 1, k + 1, o ++ [bcut s f k]), ⟨by omega, by omega, by simp; omega, fun j h1 h2 => by omega, by rw [← ho, seg_step hf hlt hn q_, List.append_assoc]; rfl⟩, (by show s.size - (k + 1) < s.size - k; omega), StLe.ren [1] tmS ⟨own_app (lt1 (Ent.refl _)), trivial⟩ (by decide)⟩
    · exact ⟨(k + 1, f, o), ⟨by omega, by omega, by omega, fun j h1 h2 => by
        by_cases hj : j = k
        · subst hj; exact q_
        · exact hn j h1 (by omega), ho⟩, (by show s.size - (k + 1) < s.size - k; omega), StLe.ren [0] tmS ⟨own_refl, trivial⟩ (by decide)⟩
  · repeat' (first | refine gw ?_ | (refine br (fun q_ => ?_) (fun q_ => ?_) <;> try simp only [Int.toNat_natCast, Nat.mul_one, Nat.add_zero] at q_) | (refine brF (fun q_ => ?_) (fun q_ => ?_) <;> try simp only [Int.toNat_natCast, Nat.mul_one, Nat.add_zero] at q_))
    refine EntR.of rfl ?_
    have e : splB c s = o ++ [bcut s f s.size] := by rw [← ho, seg_end (fun j h1 h2 => hn j h1 (by omega)), bcut_suf]; rfl
    show Ent _ (slD 1 strD (splB c s))
    rw [e]
    exact ent_app (lt1 (Ent.refl _))

/-! lines.cut -/
def cutP (s : ByteArray) : List ByteArray := (splB 59 s).map trimB
def ctCutP : Ct := { ι := ByteArray, inp := fun s => [.v (.string s)], out := fun s => slD 1 strD (cutP s), pre := fun s => s.size ≤ 1000000000 }
def Γlcu : Ctx := fun f => match f with
  | 58 => some (.pure ctTrim)
  | _ => none
theorem Γlcu_ok : CtxOk Tryz.prog (GlT mx pb) Γlcu := by
  intro f h hh
  simp only [Γlcu] at hh
  split at hh <;> simp at hh <;> subst hh
  · exact trim_ok
set_option maxHeartbeats 4000000 in
theorem lcut_ok : Sound Tryz.prog (GlT mx pb) 59 ctCutP := by
  refine sound_by (cc := true) Γlcu_ok Tryz.T_ok Tryz.mixed Tryz.func59 rfl (by kernel_rfl) (fun _ => rfl) (fun _ _ => by show 1 ≤ 36; decide) ?_
  intro (s : ByteArray) (hs : s.size ≤ 1000000000)
  repeat' (first | refine gw ?_ | (refine br (fun q_ => ?_) (fun q_ => ?_) <;> try simp only [Int.toNat_natCast, Nat.mul_one, Nat.add_zero] at q_) | (refine brF (fun q_ => ?_) (fun q_ => ?_) <;> try simp only [Int.toNat_natCast, Nat.mul_one, Nat.add_zero] at q_))
  refine ⟨0, Nat × Nat × List ByteArray, fun | (k, f, o) => ⟨[(0, .v (.string s)), (3, .row 0), (4, .v (.int .i64 f)), (5, .v (.int .i64 k))], [rowL 9 1 strD o], []⟩, fun | (k, f, o) => k ≤ s.size ∧ f ≤ k ∧ o.length ≤ k ∧ (∀ j, f ≤ j → j < k → ¬ bAt s j = ((59 : UInt8).toNat : Int)) ∧ o ++ ((splitL 59 (s.data.toList.drop f)).map listB).map trimB = cutP s, fun x => s.size - x.1, fun _ => Nat.zero_le _, ⟨(0, 0, []), ⟨Nat.zero_le _, Nat.zero_le _, Nat.zero_le _, fun j _ hj => by omega, rfl⟩, StLe.trans (StLe.nilRow (t := 3) 9 1 (fun _ _ => .junk) rfl) (StLe.ren [0] tmS ⟨own_nil, trivial⟩ (by decide))⟩, ?_⟩
  rintro ⟨k, f, o⟩ ⟨hk, hf, hol, hn, ho⟩
  have p1 : ctTrim.pre (bcut s f k) := (by show (bcut s f k).size ≤ _; rw [bcut_size s hk]; omega)
  have p2 : ctTrim.pre (bcut s f s.size) := (by show (bcut s f s.size).size ≤ _; rw [bcut_size s (Nat.le_refl _)]; omega)
  by_cases hlt : k < s.size
  · repeat' (first | refine gw ?_ | (refine br (fun q_ => ?_) (fun q_ => ?_) <;> try simp only [Int.toNat_natCast, Nat.mul_one, Nat.add_zero] at q_) | (refine brF (fun q_ => ?_) (fun q_ => ?_) <;> try simp only [Int.toNat_natCast, Nat.mul_one, Nat.add_zero] at q_))
    · exact ⟨(k + 1, k + 1, o ++ [trimB (bcut s f k)]), ⟨by omega, by omega, by simp; omega, fun j h1 h2 => by omega, by rw [← ho, seg_step hf hlt hn q_, List.append_assoc]; rfl⟩, (by show s.size - (k + 1) < s.size - k; omega), StLe.ren [1] tmS ⟨own_app (lt1 (Ent.refl _)), trivial⟩ (by decide)⟩
    · exact ⟨(k + 1, f, o), ⟨by omega, by omega, by omega, fun j h1 h2 => by
        by_cases hj : j = k
        · subst hj; exact q_
        · exact hn j h1 (by omega), ho⟩, (by show s.size - (k + 1) < s.size - k; omega), StLe.ren [0] tmS ⟨own_refl, trivial⟩ (by decide)⟩
  · repeat' (first | refine gw ?_ | (refine br (fun q_ => ?_) (fun q_ => ?_) <;> try simp only [Int.toNat_natCast, Nat.mul_one, Nat.add_zero] at q_) | (refine brF (fun q_ => ?_) (fun q_ => ?_) <;> try simp only [Int.toNat_natCast, Nat.mul_one, Nat.add_zero] at q_))
    refine EntR.of rfl ?_
    have e : cutP s = o ++ [trimB (bcut s f s.size)] := by rw [← ho, seg_end (fun j h1 h2 => hn j h1 (by omega)), bcut_suf]; rfl
    show Ent _ (slD 1 strD (cutP s))
    rw [e]
    exact ent_app (lt1 (Ent.refl _))

/-! the first part of a line -/
def spA (s : ByteArray) : ByteArray := cutA s ⟨#[46, 46]⟩
def spZ (s : ByteArray) : ByteArray := if cutF s ⟨#[46, 46]⟩ = true then cutZ s ⟨#[46, 46]⟩ else cutA s ⟨#[46, 46]⟩
def spnOk (s : ByteArray) : Prop := pcE (spA s) = 0 ∧ pcE (spZ s) = 0 ∧ pcC (spA s) ≤ pcC (spZ s)
open Classical in
noncomputable def spanB (s : ByteArray) : Bool := decide (spnOk s)
open Classical in
noncomputable def ctSpan : Ct := { ι := ByteArray, inp := fun s => [.v (.string s)], out := fun s => .tu [.v (.int .i64 (pcC (spA s))), .v (.int .i64 (pcC (spZ s))), .v (.bool (spanB s))], pre := fun s => s.size ≤ 1000000000 }
noncomputable def ctCds : Ct := { ι := ByteArray, inp := fun s => [.v (.string s)], out := fun s => .tu [.v (.int .i64 (if spanB s = true then pcC (spA s) else 0)), .v (.int .i64 (if spanB s = true then pcC (spZ s) else 0)), .v (.bool (spanB s))], pre := fun s => s.size ≤ 1000000000 }
theorem span_no {s : ByteArray} (h : ¬ spnOk s) : spanB s = false := @decide_eq_false _ (Classical.propDecidable _) h
theorem span_yes {s : ByteArray} (h : spnOk s) : spanB s = true := @decide_eq_true _ (Classical.propDecidable _) h
theorem cds_no {s : ByteArray} (h : ¬ spnOk s) : D.tu [.v (.int .i64 0), .v (.int .i64 0), .v (.bool false)] = ctCds.out s := by
  have e : spanB s = false := span_no h
  show _ = D.tu [.v (.int .i64 (if spanB s = true then pcC (spA s) else 0)), .v (.int .i64 (if spanB s = true then pcC (spZ s) else 0)), .v (.bool (spanB s))]
  rw [e]
  rfl
theorem cds_yes {s : ByteArray} (h : spnOk s) : D.tu [.v (.int .i64 (pcC (spA s))), .v (.int .i64 (pcC (spZ s))), .v (.bool true)] = ctCds.out s := by
  have e : spanB s = true := span_yes h
  show _ = D.tu [.v (.int .i64 (if spanB s = true then pcC (spA s) else 0)), .v (.int .i64 (if spanB s = true then pcC (spZ s) else 0)), .v (.bool (spanB s))]
  rw [e]
  rfl
noncomputable def Γcds : Ctx := fun f => match f with
  | 57 => some (.pure ctCutS)
  | 92 => some (.pure ctPc)
  | _ => none
theorem Γcds_ok : CtxOk Tryz.prog (GlT mx pb) Γcds := by
  intro f h hh
  simp only [Γcds] at hh
  split at hh <;> simp at hh <;> subst hh
  · exact cutS_ok
  · exact cpParse_ok
set_option maxHeartbeats 4000000 in
theorem lcodes_ok : Sound Tryz.prog (GlT mx pb) 60 ctCds := by
  refine sound_by (cc := true) Γcds_ok Tryz.T_ok Tryz.mixed Tryz.func60 rfl (by kernel_rfl) (fun _ => rfl) (fun _ _ => by show 1 ≤ 44; decide) ?_
  intro (s : ByteArray) (hs : s.size ≤ 1000000000)
  have p1 : ctCutS.pre (s, ⟨#[46, 46]⟩) := (by show s.size < _; omega)
  have ezF : cutF s ⟨#[46, 46]⟩ = false → spZ s = spA s := fun h => by unfold spZ; rw [h]; rfl
  have ezT : cutF s ⟨#[46, 46]⟩ = true → spZ s = cutZ s ⟨#[46, 46]⟩ := fun h => by unfold spZ; rw [h]; rfl
  repeat' (first | refine gw ?_ | (refine br (fun q_ => ?_) (fun q_ => ?_) <;> try simp only [Int.toNat_natCast, Nat.mul_one, Nat.add_zero] at q_) | (refine brF (fun q_ => ?_) (fun q_ => ?_) <;> try simp only [Int.toNat_natCast, Nat.mul_one, Nat.add_zero] at q_))
  · have hf := ezF ‹_›
    have := cds_yes (s := s) ⟨q_, by rw [hf]; exact q_, by rw [hf]; exact Int.le_refl _⟩
    rw [hf] at this
    exact entR_eq this rfl
  · exact entR_eq (cds_no fun h => q_ h.1) rfl
  · have hf := ezT ‹_›
    exact entR_eq (cds_no fun h => by have := h.2.2; rw [hf] at this; change pcC (cutA s _) ≤ _ at this; omega) rfl
  · have hf := ezT ‹_›
    have := cds_yes (s := s) ⟨by assumption, by rw [hf]; assumption, by rw [hf]; change pcC (cutA s _) ≤ _; omega⟩
    rw [hf] at this
    exact entR_eq this rfl
  · have hf := ezT ‹_›
    exact entR_eq (cds_no fun h => by have := h.2.1; rw [hf] at this; exact q_ this) rfl
  · exact entR_eq (cds_no fun h => q_ h.1) rfl
noncomputable def Γspn : Ctx := fun f => match f with
  | 55 => some (.pure ctPc)
  | _ => none
theorem Γspn_ok : CtxOk Tryz.prog (GlT mx pb) Γspn := by
  intro f h hh
  simp only [Γspn] at hh
  split at hh <;> simp at hh <;> subst hh
  · exact rParse_ok
theorem cut_at2 {s : ByteArray} {k : Nat} (hk : k + 1 < s.size) (h : bAt s k = 46 ∧ bAt s (k + 1) = 46) (hn : ∀ j, j < k → ¬ (bAt s j = 46 ∧ bAt s (j + 1) = 46)) : Lib.cut s.data.toList [46, 46] = (s.data.toList.take k, s.data.toList.drop (k + 2), true) :=
  cut_at (by rw [occ2 hk]; rw [decide_eq_true (show bAt s k = ((46 : UInt8).toNat : Int) from h.1), decide_eq_true (show bAt s (k + 1) = ((46 : UInt8).toNat : Int) from h.2)]; rfl) (fun j hj => by
    rw [occ2 (by omega)]
    have := hn j hj
    simp only [Bool.and_eq_false_iff, decide_eq_false_iff_not]
    by_cases h1 : bAt s j = 46
    · exact .inr fun h2 => this ⟨h1, h2⟩
    · exact .inl h1) (show k ≤ s.size by omega)
theorem cut_none2 {s : ByteArray} (hn : ∀ j, j + 1 < s.size → ¬ (bAt s j = 46 ∧ bAt s (j + 1) = 46)) : Lib.cut s.data.toList [46, 46] = (s.data.toList, [], false) :=
  cut_none fun j _ => by
    by_cases h : j + 1 < s.size
    · rw [occ2 h]
      have := hn j h
      simp only [Bool.and_eq_false_iff, decide_eq_false_iff_not]
      by_cases h1 : bAt s j = 46
      · exact .inr fun h2 => this ⟨h1, h2⟩
      · exact .inl h1
    · exact occ2_end (by omega)
set_option maxHeartbeats 4000000 in
theorem rspan_ok : Sound Tryz.prog (GlT mx pb) 31 ctSpan := by
  refine sound_by (cc := true) Γspn_ok Tryz.T_ok Tryz.mixed Tryz.func31 rfl (by kernel_rfl) (fun _ => rfl) (fun _ _ => by show 1 ≤ 67; decide) ?_
  intro (s : ByteArray) (hs : s.size ≤ 1000000000)
  repeat' (first | refine gw ?_ | (refine br (fun q_ => ?_) (fun q_ => ?_) <;> try simp only [Int.toNat_natCast, Nat.mul_one, Nat.add_zero] at q_) | (refine brF (fun q_ => ?_) (fun q_ => ?_) <;> try simp only [Int.toNat_natCast, Nat.mul_one, Nat.add_zero] at q_))
  refine ⟨0, Nat, fun k => ⟨[(0, .v (.string s)), (5, .v (.int .i64 k))], [], []⟩, fun k => k ≤ s.size ∧ ∀ j, j < k → ¬ (bAt s j = 46 ∧ bAt s (j + 1) = 46), fun k => s.size - k, fun _ => Nat.zero_le _, ⟨0, ⟨Nat.zero_le _, fun j hj => by omega⟩, StLe.ren [] tmS trivial (by decide)⟩, ?_⟩
  rintro k ⟨hk, hd⟩
  by_cases hlt : k + 1 < s.size
  · have eAZ : bAt s k = 46 → bAt s (k + 1) = 46 → spA s = bcut s 0 k ∧ spZ s = bcut s (k + 2) s.size := fun h1 h2 => by
      have e := cut_at2 hlt ⟨h1, h2⟩ hd
      exact ⟨by rw [spA, cutA, show (⟨#[46, 46]⟩ : ByteArray).data.toList = [46, 46] from rfl, e]; rfl, by rw [spZ, cutF, cutZ, show (⟨#[46, 46]⟩ : ByteArray).data.toList = [46, 46] from rfl, e, bcut_suf]; rfl⟩
    have out : ∀ b, bAt s k = 46 → bAt s (k + 1) = 46 → spanB s = b → D.tu [.v (.int .i64 (pcC (bcut s 0 k))), .v (.int .i64 (pcC (bcut s (k + 2) s.size))), .v (.bool b)] = ctSpan.out s := fun b h1 h2 hb => by
      obtain ⟨eA, eZ⟩ := eAZ h1 h2
      show _ = D.tu [.v (.int .i64 (pcC (spA s))), .v (.int .i64 (pcC (spZ s))), .v (.bool (spanB s))]
      rw [eA, eZ, hb]
    repeat' (first | refine gw ?_ | (refine br (fun q_ => ?_) (fun q_ => ?_) <;> try simp only [Int.toNat_natCast, Nat.mul_one, Nat.add_zero] at q_) | (refine brF (fun q_ => ?_) (fun q_ => ?_) <;> try simp only [Int.toNat_natCast, Nat.mul_one, Nat.add_zero] at q_))
    · rename_i h1 h2 h3
      obtain ⟨eA, eZ⟩ := eAZ h1 h2
      refine entR_eq (out _ h1 h2 ?_) rfl
      by_cases hle : pcC (bcut s 0 k) ≤ pcC (bcut s (k + 2) s.size)
      · exact (span_yes ⟨by rw [eA]; exact h3, by rw [eZ]; exact q_, by rw [eA, eZ]; exact hle⟩).trans (decide_eq_true hle).symm
      · exact (span_no fun h => by have := h.2.2; rw [eA, eZ] at this; exact hle this).trans (decide_eq_false hle).symm
    · rename_i h1 h2 h3
      obtain ⟨eA, eZ⟩ := eAZ h1 h2
      exact entR_eq (out _ h1 h2 (span_no fun h => by have := h.2.1; rw [eZ] at this; exact q_ this)) rfl
    · rename_i h1 h2
      obtain ⟨eA, eZ⟩ := eAZ h1 h2
      exact entR_eq (out _ h1 h2 (span_no fun h => by have := h.1; rw [eA] at this; exact q_ this)) rfl
    · exact ⟨k + 1, ⟨by omega, next_of hd fun h => q_ h.2⟩, (by show s.size - (k + 1) < s.size - k; omega), StLe.ren [] tmS trivial (by decide)⟩
    · exact ⟨k + 1, ⟨by omega, next_of hd fun h => q_ h.1⟩, (by show s.size - (k + 1) < s.size - k; omega), StLe.ren [] tmS trivial (by decide)⟩
  · have e := cut_none2 (s := s) (fun j hj => hd j (by omega))
    have eA : spA s = s := by rw [spA, cutA, show (⟨#[46, 46]⟩ : ByteArray).data.toList = [46, 46] from rfl, e]; rfl
    have eZ : spZ s = s := by rw [spZ, cutF, cutA, show (⟨#[46, 46]⟩ : ByteArray).data.toList = [46, 46] from rfl, e]; rfl
    repeat' (first | refine gw ?_ | (refine br (fun q_ => ?_) (fun q_ => ?_) <;> try simp only [Int.toNat_natCast, Nat.mul_one, Nat.add_zero] at q_) | (refine brF (fun q_ => ?_) (fun q_ => ?_) <;> try simp only [Int.toNat_natCast, Nat.mul_one, Nat.add_zero] at q_))
    refine entR_eq (d' := ctSpan.out s) ?_ rfl
    show D.tu [.v (.int .i64 (pcC s)), .v (.int .i64 (pcC s)), .v (.bool (pcE s == 0))] = D.tu [.v (.int .i64 (pcC (spA s))), .v (.int .i64 (pcC (spZ s))), .v (.bool (spanB s))]
    rw [eA, eZ]
    by_cases h0 : pcE s = 0
    · rw [span_yes ⟨by rw [eA]; exact h0, by rw [eZ]; exact h0, by rw [eA, eZ]; exact Int.le_refl _⟩, h0]; rfl
    · rw [span_no fun h => by have := h.1; rw [eA] at this; exact h0 this, show (pcE s == 0) = false from beq_eq_false_iff_ne.2 h0]
end Go.Proofs
