import Derived.Test.YthfdmbmjjejbbaaGreatDoorTr0
import Derived.Test.YthfdmbmjjejbbaaGreatDoorHxA
import Derived.Test.YthfdmbmjjejbbaaGreatDoorUp
set_option linter.unusedVariables false
set_option linter.unusedSimpArgs false
namespace Go.Proofs
open Go Go.Sx
variable {mx : Int} {pb : Bool}

/-! escapes of code points: digits without leading zeros -/
theorem bAt_getZ {s : ByteArray} {k : Nat} (h : k < s.size) : bAt s k = ((s.data.toList[k]'h).toNat : Int) := by
  unfold bAt
  rw [List.getElem?_eq_getElem h]
  rfl
theorem u8_eqZ {a : UInt8} {c : UInt8} : ((a.toNat : Int) = (c.toNat : Int)) ↔ a = c := by
  constructor
  · intro h
    have : a.toNat = c.toNat := by omega
    exact UInt8.toNat_inj.1 this
  · intro h; rw [h]
def dropZ : List UInt8 → List UInt8
  | [] => []
  | b :: l => if b = 48 then dropZ l else b :: l
def shortL (l : List UInt8) : List UInt8 := if dropZ l = [] then [48] else dropZ l
theorem dropZ_len : ∀ l, (dropZ l).length ≤ l.length
  | [] => Nat.le_refl _
  | b :: l => by
    have := dropZ_len l
    unfold dropZ
    split <;> simp <;> omega
theorem dropZ_at {l : List UInt8} {k : Nat} (hk : k < l.length) : dropZ (l.drop k) = if l[k] = 48 then dropZ (l.drop (k + 1)) else l.drop k := by
  rw [List.drop_eq_getElem_cons hk, dropZ]
theorem bcut1 (l : List UInt8) (k : Nat) : bcut ⟨⟨l.drop k⟩⟩ 1 (l.drop k).length = ⟨⟨l.drop (k + 1)⟩⟩ := by
  show (⟨⟨((l.drop k).take (l.drop k).length).drop 1⟩⟩ : ByteArray) = _
  rw [List.take_length, List.drop_drop]
theorem bAt_drop {l : List UInt8} {k : Nat} (h : k < l.length) : bAt ⟨⟨l.drop k⟩⟩ 0 = (l[k].toNat : Int) := by
  have hsk : (⟨⟨l.drop k⟩⟩ : ByteArray).size = l.length - k := by show (l.drop k).length = _; rw [List.length_drop]
  rw [bAt_getZ (by rw [hsk]; omega)]
  show (((l.drop k)[0]'_).toNat : Int) = _
  rw [List.getElem_drop]
  rfl
def tzB (s : ByteArray) : ByteArray := ⟨⟨dropZ s.data.toList⟩⟩
theorem tzB_size (s : ByteArray) : (tzB s).size ≤ s.size := dropZ_len _
def ctTrimB : Ct := { ι := ByteArray, inp := fun s => [.v (.string s), .v (.int .u8 48)], out := fun s => .v (.string (tzB s)), pre := fun s => s.size ≤ 1000000 }
set_option maxHeartbeats 1000000 in
theorem trimB_ok : Sound Tryz.prog (GlT mx pb) 79 ctTrimB := by
  refine sound_by (cc := true) Γ0_ok Tryz.T_ok Tryz.mixed Tryz.func79 rfl (by kernel_rfl) (fun _ => rfl) (fun _ _ => by show 2 ≤ 17; decide) ?_
  intro (s : ByteArray) (hs : s.size ≤ 1000000)
  have hsz : s.data.toList.length = s.size := rfl
  obtain ⟨l, hl⟩ : ∃ l, l = s.data.toList := ⟨_, rfl⟩
  have hs2 : s = ⟨⟨l⟩⟩ := by rw [hl]
  subst hs2
  repeat' (first | refine gl ?_ | (refine br (fun q_ => ?_) (fun q_ => ?_) <;> try simp only [Int.toNat_natCast, Nat.mul_one, Nat.add_zero] at q_) | (refine brF (fun q_ => ?_) (fun q_ => ?_) <;> try simp only [Int.toNat_natCast, Nat.mul_one, Nat.add_zero] at q_))
  refine ⟨0, Nat, fun k => ⟨[(0, .v (.string ⟨⟨l.drop k⟩⟩)), (1, .v (.int .u8 48))], [], []⟩, fun k => k ≤ l.length ∧ dropZ (l.drop k) = dropZ l, fun k => l.length - k, fun _ => Nat.zero_le _, ⟨0, ⟨Nat.zero_le _, by rw [List.drop_zero]⟩, StLe.ren [] ⟨Ent.v (by rw [List.drop_zero]), rfl, Ent.refl _, rfl, trivial⟩ trivial (by decide)⟩, ?_⟩
  rintro k ⟨hk, hd⟩
  have hsk : (⟨⟨l.drop k⟩⟩ : ByteArray).size = l.length - k := by show (l.drop k).length = _; rw [List.length_drop]
  by_cases hlt : k < l.length
  · have hb := bAt_drop hlt
    have h48 : ((l[k].toNat : Int) = 48) ↔ l[k] = 48 := u8_eqZ (c := 48)
    repeat' (first | refine gl ?_ | (refine br (fun q_ => ?_) (fun q_ => ?_) <;> try simp only [Int.toNat_natCast, Nat.mul_one, Nat.add_zero] at q_) | (refine brF (fun q_ => ?_) (fun q_ => ?_) <;> try simp only [Int.toNat_natCast, Nat.mul_one, Nat.add_zero] at q_))
    · exact ⟨k + 1, ⟨by omega, by rw [← hd, dropZ_at hlt, if_pos (h48.1 (hb.symm.trans q_))]⟩, (by show l.length - (k + 1) < l.length - k; omega), StLe.ren [] ⟨Ent.v (congrArg Value.string (bcut1 l k)), rfl, Ent.refl _, rfl, trivial⟩ trivial (by decide)⟩
    · refine EntR.str ?_
      show (⟨⟨l.drop k⟩⟩ : ByteArray) = ⟨⟨dropZ l⟩⟩
      rw [← hd, dropZ_at hlt, if_neg (fun h => q_ (hb.trans (h48.2 h)))]
  · have he : l.drop k = [] := List.drop_eq_nil_of_le (by omega)
    repeat' (first | refine gl ?_ | (refine br (fun q_ => ?_) (fun q_ => ?_) <;> try simp only [Int.toNat_natCast, Nat.mul_one, Nat.add_zero] at q_) | (refine brF (fun q_ => ?_) (fun q_ => ?_) <;> try simp only [Int.toNat_natCast, Nat.mul_one, Nat.add_zero] at q_))
    refine EntR.str ?_
    show (⟨⟨l.drop k⟩⟩ : ByteArray) = ⟨⟨dropZ l⟩⟩
    rw [← hd, he]
    rfl
def zB : ByteArray := ⟨#[48]⟩
def ctTrimZ : Ct := { ι := ByteArray, inp := fun s => [.v (.string s), .v (.string zB)], out := fun s => .v (.string (tzB s)), pre := fun s => s.size ≤ 1000000 }
noncomputable def Γtz : Ctx := fun f => match f with
  | 79 => some (.pure ctTrimB)
  | _ => none
theorem Γtz_ok : CtxOk Tryz.prog (GlT mx pb) Γtz := by
  intro f h hh
  simp only [Γtz] at hh
  split at hh <;> simp at hh <;> subst hh
  · exact trimB_ok
set_option maxHeartbeats 1000000 in
theorem trimZ_ok : Sound Tryz.prog (GlT mx pb) 92 ctTrimZ := by
  refine sound_by (cc := true) Γtz_ok Tryz.T_ok Tryz.mixed Tryz.func92 rfl (by kernel_rfl) (fun _ => rfl) (fun _ _ => by show 2 ≤ 37; decide) ?_
  intro (s : ByteArray) (hs : s.size ≤ 1000000)
  have p1 : ctTrimB.pre s := hs
  have hz1 : (zB.size : Int) = 1 := rfl
  have hz2 : zB.size = 1 := rfl
  by_cases h0 : s = ⟨#[]⟩
  · subst h0
    repeat' (first | refine gd ?_ | (refine br (fun q_ => ?_) (fun q_ => ?_) <;> try simp only [Int.toNat_natCast, Nat.mul_one, Nat.add_zero] at q_) | (refine brF (fun q_ => ?_) (fun q_ => ?_) <;> try simp only [Int.toNat_natCast, Nat.mul_one, Nat.add_zero] at q_))
    exact EntR.str rfl
  · repeat' (first | refine gd ?_ | (refine br (fun q_ => ?_) (fun q_ => ?_) <;> try simp only [Int.toNat_natCast, Nat.mul_one, Nat.add_zero] at q_) | (refine brF (fun q_ => ?_) (fun q_ => ?_) <;> try simp only [Int.toNat_natCast, Nat.mul_one, Nat.add_zero] at q_))
    exact EntR.str rfl
def escL (c : Int) : List UInt8 := [92, 117, 123] ++ shortL (hexL c) ++ [125]
theorem shortL_len (c : Int) : (shortL (hexL c)).length ≤ 6 := by
  have h1 := dropZ_len (hexL c)
  have h2 : (hexL c).length ≤ 6 := hexS_size c
  unfold shortL
  split
  · simp
  · omega
theorem escL_len (c : Int) : (escL c).length ≤ 10 := by
  have := shortL_len c
  simp only [escL, List.length_append, List.length_cons, List.length_nil]
  omega
theorem hexL_pos {c : Int} (h : validB c = true) : 0 < (hexL c).length := by
  unfold hexL
  rw [if_pos h]
  split
  · simp [tail]
  · split <;> simp [tail]
def escS (c : Int) : ByteArray := ⟨⟨escL c⟩⟩
theorem escS_size (c : Int) : (escS c).size ≤ 10 := escL_len c
def ctCode : Ct := { ι := Int, inp := fun c => [.v (.int .i64 c)], out := fun c => .v (.string (escS c)), pre := fun c => validB c = true }
noncomputable def Γcd (mx : Int) (pb : Bool) : Ctx := fun f => match f with
  | 93 => some (.pure ctHex)
  | 92 => some (.pure ctTrimZ)
  | _ => none
theorem Γcd_ok : CtxOk Tryz.prog (GlT mx pb) (Γcd mx pb) := by
  intro f h hh
  simp only [Γcd] at hh
  split at hh <;> simp at hh <;> subst hh
  · exact hex_ok
  · exact trimZ_ok
set_option maxHeartbeats 1000000 in
theorem code_ok : Sound Tryz.prog (GlT mx pb) 56 ctCode := by
  refine sound_by (cc := true) Γcd_ok Tryz.T_ok Tryz.mixed Tryz.func56 rfl (by kernel_rfl) (fun _ => rfl) (fun _ _ => by show 1 ≤ 12; decide) ?_
  intro (c : Int) (hc : validB c = true)
  have p1 : ctTrimZ.pre (hexS c) := by have := hexS_size c; show (hexS c).size ≤ 1000000; omega
  have hl : (tzB (hexS c)).size ≤ 6 := Nat.le_trans (tzB_size _) (hexS_size c)
  by_cases h0 : tzB (hexS c) = ⟨#[]⟩
  · have h1 : dropZ (hexL c) = [] := by
      have := congrArg (fun b : ByteArray => b.data.toList) h0
      exact this
    repeat' (first | refine gl ?_ | (refine br (fun q_ => ?_) (fun q_ => ?_) <;> try simp only [Int.toNat_natCast, Nat.mul_one, Nat.add_zero] at q_) | (refine brF (fun q_ => ?_) (fun q_ => ?_) <;> try simp only [Int.toNat_natCast, Nat.mul_one, Nat.add_zero] at q_))
    refine EntR.str ?_
    show _ = (⟨⟨escL c⟩⟩ : ByteArray)
    rw [escL, shortL, if_pos h1]
    rfl
  · have h1 : ¬ dropZ (hexL c) = [] := fun h => h0 (by show (⟨⟨dropZ (hexL c)⟩⟩ : ByteArray) = _; rw [h])
    repeat' (first | refine gl ?_ | (refine br (fun q_ => ?_) (fun q_ => ?_) <;> try simp only [Int.toNat_natCast, Nat.mul_one, Nat.add_zero] at q_) | (refine brF (fun q_ => ?_) (fun q_ => ?_) <;> try simp only [Int.toNat_natCast, Nat.mul_one, Nat.add_zero] at q_))
    refine EntR.str ?_
    show _ = (⟨⟨escL c⟩⟩ : ByteArray)
    rw [escL, shortL, if_neg h1]
    rfl
noncomputable def Γsh : Ctx := fun f => match f with
  | 61 => some (.pure ctHex)
  | _ => none
theorem Γsh_ok : CtxOk Tryz.prog (GlT mx pb) Γsh := by
  intro f h hh
  simp only [Γsh] at hh
  split at hh <;> simp at hh <;> subst hh
  · exact rHex_ok
set_option maxHeartbeats 1000000 in
theorem short_ok : Sound Tryz.prog (GlT mx pb) 100 ctCode := by
  refine sound_by (cc := true) Γsh_ok Tryz.T_ok Tryz.mixed Tryz.func100 rfl (by kernel_rfl) (fun _ => rfl) (fun _ _ => by show 1 ≤ 19; decide) ?_
  intro (c : Int) (hc : validB c = true)
  have hpos := hexL_pos hc
  have hl6 : (hexL c).length ≤ 6 := hexS_size c
  obtain ⟨l, hl⟩ : ∃ l, l = hexL c := ⟨_, rfl⟩
  have hS : hexS c = ⟨⟨l⟩⟩ := by rw [hl]; rfl
  rw [← hl] at hpos hl6
  repeat' (first | refine gl ?_ | (refine br (fun q_ => ?_) (fun q_ => ?_) <;> try simp only [Int.toNat_natCast, Nat.mul_one, Nat.add_zero] at q_) | (refine brF (fun q_ => ?_) (fun q_ => ?_) <;> try simp only [Int.toNat_natCast, Nat.mul_one, Nat.add_zero] at q_))
  refine ⟨0, Nat, fun k => ⟨[(3, .v (.string ⟨⟨l.drop k⟩⟩))], [], []⟩, fun k => k < l.length ∧ dropZ (l.drop k) = dropZ l, fun k => l.length - k, fun _ => Nat.zero_le _, ⟨0, ⟨hpos, by rw [List.drop_zero]⟩, StLe.ren [] ⟨Ent.v (by rw [List.drop_zero, hS]), rfl, trivial⟩ trivial (by decide)⟩, ?_⟩
  rintro k ⟨hk, hd⟩
  have hsk : (⟨⟨l.drop k⟩⟩ : ByteArray).size = l.length - k := by show (l.drop k).length = _; rw [List.length_drop]
  have hsk2 : (l.drop k).length = l.length - k := List.length_drop
  have hb := bAt_drop hk
  have h48 : ((l[k].toNat : Int) = 48) ↔ l[k] = 48 := u8_eqZ (c := 48)
  have leaf : (l.length = k + 1 ∨ ¬ l[k] = 48) → l.drop k = shortL l := by
    intro h
    unfold shortL
    rw [← hd, dropZ_at hk]
    by_cases h4 : l[k] = 48
    · rw [if_pos h4]
      have hl1 : l.length = k + 1 := h.elim id fun h => absurd h4 h
      have he : l.drop (k + 1) = [] := List.drop_eq_nil_of_le (by omega)
      rw [he, List.drop_eq_getElem_cons hk, he, h4]
      rfl
    · rw [if_neg h4, if_neg (by rw [List.drop_eq_getElem_cons hk]; exact List.cons_ne_nil _ _)]
  by_cases h1 : k + 1 < l.length
  · repeat' (first | refine gl ?_ | (refine br (fun q_ => ?_) (fun q_ => ?_) <;> try simp only [Int.toNat_natCast, Nat.mul_one, Nat.add_zero] at q_) | (refine brF (fun q_ => ?_) (fun q_ => ?_) <;> try simp only [Int.toNat_natCast, Nat.mul_one, Nat.add_zero] at q_))
    · exact ⟨k + 1, ⟨by omega, by rw [← hd, dropZ_at hk, if_pos (h48.1 (hb.symm.trans q_))]⟩, (by show l.length - (k + 1) < l.length - k; omega), StLe.ren [] ⟨Ent.v (congrArg Value.string (bcut1 l k)), rfl, trivial⟩ trivial (by decide)⟩
    · have e := leaf (.inr fun h => q_ (hb.trans (h48.2 h)))
      refine EntR.str ?_
      show _ = (⟨⟨[92, 117, 123] ++ shortL (hexL c) ++ [125]⟩⟩ : ByteArray)
      rw [← hl, ← e]
      rfl
  · have e := leaf (.inl (by omega))
    repeat' (first | refine gl ?_ | (refine br (fun q_ => ?_) (fun q_ => ?_) <;> try simp only [Int.toNat_natCast, Nat.mul_one, Nat.add_zero] at q_) | (refine brF (fun q_ => ?_) (fun q_ => ?_) <;> try simp only [Int.toNat_natCast, Nat.mul_one, Nat.add_zero] at q_))
    refine EntR.str ?_
    show _ = (⟨⟨[92, 117, 123] ++ shortL (hexL c) ++ [125]⟩⟩ : ByteArray)
    rw [← hl, ← e]
    rfl
set_option maxHeartbeats 1000000 in
theorem esc_ok : Sound Tryz.prog (GlT mx pb) 32 ctCode := by
  refine sound_by (cc := true) Γsh_ok Tryz.T_ok Tryz.mixed Tryz.func32 rfl (by kernel_rfl) (fun _ => rfl) (fun _ _ => by show 1 ≤ 19; decide) ?_
  intro (c : Int) (hc : validB c = true)
  have hpos := hexL_pos hc
  have hl6 : (hexL c).length ≤ 6 := hexS_size c
  obtain ⟨l, hl⟩ : ∃ l, l = hexL c := ⟨_, rfl⟩
  have hS : hexS c = ⟨⟨l⟩⟩ := by rw [hl]; rfl
  rw [← hl] at hpos hl6
  repeat' (first | refine gl ?_ | (refine br (fun q_ => ?_) (fun q_ => ?_) <;> try simp only [Int.toNat_natCast, Nat.mul_one, Nat.add_zero] at q_) | (refine brF (fun q_ => ?_) (fun q_ => ?_) <;> try simp only [Int.toNat_natCast, Nat.mul_one, Nat.add_zero] at q_))
  refine ⟨0, Nat, fun k => ⟨[(3, .v (.string ⟨⟨l.drop k⟩⟩))], [], []⟩, fun k => k < l.length ∧ dropZ (l.drop k) = dropZ l, fun k => l.length - k, fun _ => Nat.zero_le _, ⟨0, ⟨hpos, by rw [List.drop_zero]⟩, StLe.ren [] ⟨Ent.v (by rw [List.drop_zero, hS]), rfl, trivial⟩ trivial (by decide)⟩, ?_⟩
  rintro k ⟨hk, hd⟩
  have hsk : (⟨⟨l.drop k⟩⟩ : ByteArray).size = l.length - k := by show (l.drop k).length = _; rw [List.length_drop]
  have hsk2 : (l.drop k).length = l.length - k := List.length_drop
  have hb := bAt_drop hk
  have h48 : ((l[k].toNat : Int) = 48) ↔ l[k] = 48 := u8_eqZ (c := 48)
  have leaf : (l.length = k + 1 ∨ ¬ l[k] = 48) → l.drop k = shortL l := by
    intro h
    unfold shortL
    rw [← hd, dropZ_at hk]
    by_cases h4 : l[k] = 48
    · rw [if_pos h4]
      have hl1 : l.length = k + 1 := h.elim id fun h => absurd h4 h
      have he : l.drop (k + 1) = [] := List.drop_eq_nil_of_le (by omega)
      rw [he, List.drop_eq_getElem_cons hk, he, h4]
      rfl
    · rw [if_neg h4, if_neg (by rw [List.drop_eq_getElem_cons hk]; exact List.cons_ne_nil _ _)]
  by_cases h1 : k + 1 < l.length
  · repeat' (first | refine gl ?_ | (refine br (fun q_ => ?_) (fun q_ => ?_) <;> try simp only [Int.toNat_natCast, Nat.mul_one, Nat.add_zero] at q_) | (refine brF (fun q_ => ?_) (fun q_ => ?_) <;> try simp only [Int.toNat_natCast, Nat.mul_one, Nat.add_zero] at q_))
    · exact ⟨k + 1, ⟨by omega, by rw [← hd, dropZ_at hk, if_pos (h48.1 (hb.symm.trans q_))]⟩, (by show l.length - (k + 1) < l.length - k; omega), StLe.ren [] ⟨Ent.v (congrArg Value.string (bcut1 l k)), rfl, trivial⟩ trivial (by decide)⟩
    · have e := leaf (.inr fun h => q_ (hb.trans (h48.2 h)))
      refine EntR.str ?_
      show _ = (⟨⟨[92, 117, 123] ++ shortL (hexL c) ++ [125]⟩⟩ : ByteArray)
      rw [← hl, ← e]
      rfl
  · have e := leaf (.inl (by omega))
    repeat' (first | refine gl ?_ | (refine br (fun q_ => ?_) (fun q_ => ?_) <;> try simp only [Int.toNat_natCast, Nat.mul_one, Nat.add_zero] at q_) | (refine brF (fun q_ => ?_) (fun q_ => ?_) <;> try simp only [Int.toNat_natCast, Nat.mul_one, Nat.add_zero] at q_))
    refine EntR.str ?_
    show _ = (⟨⟨[92, 117, 123] ++ shortL (hexL c) ++ [125]⟩⟩ : ByteArray)
    rw [← hl, ← e]
    rfl
end Go.Proofs
