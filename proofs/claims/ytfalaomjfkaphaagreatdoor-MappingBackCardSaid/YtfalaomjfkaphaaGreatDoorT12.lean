import Derived.Test.YtfalaomjfkaphaaGreatDoorT11
set_option linter.unusedVariables false
set_option linter.unusedSimpArgs false
namespace Go.Proofs
open Go Go.Sx
variable {mx : Int} {pb : Bool}

/-! strings as lists -/
theorem bAt_get {s : ByteArray} {k : Nat} (h : k < s.size) : bAt s k = ((s.data.toList[k]'h).toNat : Int) := by
  unfold bAt
  rw [List.getElem?_eq_getElem h]
  rfl
theorem toList_bcut (s : ByteArray) (l h : Nat) : (bcut s l h).data.toList = (s.data.toList.take h).drop l := rfl
theorem bcut_size (s : ByteArray) {l h : Nat} (h1 : h ≤ s.size) : (bcut s l h).size = h - l := by
  show ((s.data.toList.take h).drop l).length = _
  rw [List.length_drop, List.length_take]
  have : s.data.toList.length = s.size := rfl
  omega
theorem listB_toList (s : ByteArray) : listB s.data.toList = s := rfl
theorem toList_listB (l : List UInt8) : (listB l).data.toList = l := rfl
theorem toList_inj {a b : ByteArray} (h : a.data.toList = b.data.toList) : a = b := by rw [← listB_toList a, ← listB_toList b, h]
theorem u8_eq {a : UInt8} {c : UInt8} : ((a.toNat : Int) = (c.toNat : Int)) ↔ a = c := by
  constructor
  · intro h
    have : a.toNat = c.toNat := by omega
    exact UInt8.toNat_inj.1 this
  · intro h; rw [h]

/-! blanks at the ends -/
abbrev bls : List UInt8 := [32, 9, 13]
theorem trL_cons (cs : List UInt8) (b : UInt8) (l : List UInt8) : Lib.trimLeftS (b :: l) cs = if cs.contains b = true then Lib.trimLeftS l cs else b :: l := by
  unfold Lib.trimLeftS
  rw [List.dropWhile_cons]
theorem trR_snoc (cs : List UInt8) (b : UInt8) (l : List UInt8) : Lib.trimRightS (l ++ [b]) cs = if cs.contains b = true then Lib.trimRightS l cs else l ++ [b] := by
  unfold Lib.trimRightS
  rw [List.reverse_append, List.reverse_cons, List.reverse_nil, List.nil_append, List.singleton_append, List.dropWhile_cons]
  split
  · rfl
  · simp
theorem trR_cons (cs : List UInt8) (b : UInt8) : ∀ l : List UInt8, Lib.trimRightS (b :: l) cs = if Lib.trimRightS l cs = [] ∧ cs.contains b = true then [] else b :: Lib.trimRightS l cs := by
  intro l
  induction h : l.length generalizing l with
  | zero =>
    have : l = [] := List.length_eq_zero_iff.1 h
    subst this
    rw [Lib.trimRightS_nil]
    have := trR_snoc cs b []
    rw [List.nil_append, Lib.trimRightS_nil] at this
    rw [this]
    by_cases hb : cs.contains b = true
    · simp [hb]
    · rw [if_neg hb, if_neg (fun h => hb h.2)]
  | succ n ih =>
    rcases List.eq_nil_or_concat l with rfl | ⟨r, c, rfl⟩
    · simp at h
    · rw [List.concat_eq_append, trR_snoc]
      have hr : r.length = n := by simpa using h
      rw [show b :: (r ++ [c]) = (b :: r) ++ [c] from rfl, trR_snoc]
      by_cases hc : cs.contains c = true
      · rw [if_pos hc, if_pos hc]
        exact ih r hr
      · rw [if_neg hc, if_neg hc, if_neg (fun h => by simp at h)]
        rfl
theorem tr_comm (cs : List UInt8) : ∀ l, Lib.trimRightS (Lib.trimLeftS l cs) cs = Lib.trimS l cs
  | [] => rfl
  | b :: l => by
    have ih := tr_comm cs l
    unfold Lib.trimS at ih ⊢
    rw [trL_cons, trR_cons]
    by_cases hb : cs.contains b = true
    · rw [if_pos hb, ih]
      by_cases h0 : Lib.trimRightS l cs = []
      · rw [if_pos ⟨h0, hb⟩, h0]
      · rw [if_neg (fun h => h0 h.1), trL_cons, if_pos hb]
    · rw [if_neg hb, if_neg (fun h => hb h.2), trL_cons, if_neg hb, trR_cons, if_neg (fun h => hb h.2)]
def blankB (b : Int) : Bool := decide (b = 32 ∨ b = 9 ∨ b = 13)
theorem blank_bls {b : UInt8} : blankB b.toNat = bls.contains b := by
  have e : ∀ c : UInt8, ((b.toNat : Int) = (c.toNat : Int)) ↔ b = c := fun c => u8_eq
  have h1 := e 32
  have h2 := e 9
  have h3 := e 13
  unfold blankB
  by_cases a1 : b = 32
  · subst a1; decide
  · by_cases a2 : b = 9
    · subst a2; decide
    · by_cases a3 : b = 13
      · subst a3; decide
      · have b1 : ¬ ((b.toNat : Int) = 32) := fun h => a1 (h1.1 h)
        have b2 : ¬ ((b.toNat : Int) = 9) := fun h => a2 (h2.1 h)
        have b3 : ¬ ((b.toNat : Int) = 13) := fun h => a3 (h3.1 h)
        simp [b1, b2, b3, a1, a2, a3]
def ctBlank : Ct := { ι := Int, inp := fun b => [.v (.int .u8 b)], out := fun b => .v (.bool (blankB b)), pre := fun _ => True }
set_option maxHeartbeats 1000000 in
theorem rBlank_ok : Sound Tryz.prog (GlT mx pb) 54 ctBlank := by
  refine sound_by (cc := true) Γ0_ok Tryz.T_ok Tryz.mixed Tryz.func54 rfl (by kernel_rfl) (fun _ => rfl) (fun _ _ => by show 1 ≤ 13; decide) ?_
  intro (b : Int) _
  repeat' (first | refine gw ?_ | (refine br (fun q_ => ?_) (fun q_ => ?_) <;> try simp only [Int.toNat_natCast, Nat.mul_one, Nat.add_zero] at q_) | (refine brF (fun q_ => ?_) (fun q_ => ?_) <;> try simp only [Int.toNat_natCast, Nat.mul_one, Nat.add_zero] at q_))
  all_goals exact EntR.bool (by unfold blankB; simp_all <;> rfl)
def ctTrimS : Ct := { ι := ByteArray, inp := fun s => [.v (.string s)], out := fun s => .v (.string (trimB s)), pre := fun s => s.size ≤ 9223372036854775807 }
def Γrb : Ctx := fun f => match f with
  | 54 => some (.pure ctBlank)
  | _ => none
theorem Γrb_ok : CtxOk Tryz.prog (GlT mx pb) Γrb := by
  intro f h hh
  simp only [Γrb] at hh
  split at hh <;> simp at hh <;> subst hh
  · exact rBlank_ok
theorem trL_stop {x : ByteArray} (h : x.size = 0 ∨ (0 < x.size ∧ blankB (bAt x 0) = false)) : Lib.trimLeftS x.data.toList bls = x.data.toList := by
  rcases hl : x.data.toList with _ | ⟨b, r⟩
  · rfl
  · have hs : x.size = r.length + 1 := by show x.data.toList.length = _; rw [hl]; rfl
    rcases h with h | ⟨h0, h⟩
    · omega
    · rw [trL_cons, if_neg]
      rw [← blank_bls]
      have : bAt x 0 = b.toNat := by unfold bAt; rw [hl]; rfl
      rw [← this, h]
      decide
theorem trL_step {x : ByteArray} (h0 : 0 < x.size) (h : blankB (bAt x 0) = true) : Lib.trimLeftS (bcut x 1 x.size).data.toList bls = Lib.trimLeftS x.data.toList bls := by
  rcases hl : x.data.toList with _ | ⟨b, r⟩
  · have : x.size = 0 := by show x.data.toList.length = _; rw [hl]; rfl
    omega
  · have hs : x.size = r.length + 1 := by show x.data.toList.length = _; rw [hl]; rfl
    have hb : bAt x 0 = b.toNat := by unfold bAt; rw [hl]; rfl
    rw [toList_bcut, hl, hs, List.take_of_length_le (by simp), trL_cons, if_pos (by rw [← blank_bls, ← hb]; exact h)]
    rfl
theorem snocB_of {x : ByteArray} (h0 : 0 < x.size) : ∃ r b, x.data.toList = r ++ [b] ∧ r.length = x.size - 1 ∧ bAt x (x.size - 1) = (b.toNat : Int) := by
  rcases List.eq_nil_or_concat x.data.toList with hl | ⟨r, b, hl⟩
  · have : x.size = 0 := by show x.data.toList.length = _; rw [hl]; rfl
    omega
  · rw [List.concat_eq_append] at hl
    have hs : x.size = r.length + 1 := by show x.data.toList.length = _; rw [hl]; simp
    refine ⟨r, b, hl, by omega, ?_⟩
    unfold bAt
    rw [hl, hs]
    simp
theorem trR_stop {x : ByteArray} (h : x.size = 0 ∨ (0 < x.size ∧ blankB (bAt x (x.size - 1)) = false)) : Lib.trimRightS x.data.toList bls = x.data.toList := by
  rcases Nat.eq_zero_or_pos x.size with h0 | h0
  · have : x.data.toList = [] := List.length_eq_zero_iff.1 h0
    rw [this]; rfl
  · obtain ⟨r, b, hl, _, hb⟩ := snocB_of h0
    rcases h with h | ⟨_, h⟩
    · omega
    · rw [hl, trR_snoc, if_neg]
      rw [← blank_bls, ← hb, h]
      decide
theorem trR_step {x : ByteArray} (h0 : 0 < x.size) (h : blankB (bAt x (x.size - 1)) = true) : Lib.trimRightS (bcut x 0 (x.size - 1)).data.toList bls = Lib.trimRightS x.data.toList bls := by
  obtain ⟨r, b, hl, hr, hb⟩ := snocB_of h0
  rw [toList_bcut, hl, trR_snoc, if_pos (by rw [← blank_bls, ← hb]; exact h), ← hr, List.take_left, List.drop_zero]
set_option maxHeartbeats 4000000 in
theorem rTrim_ok : Sound Tryz.prog (GlT mx pb) 30 ctTrimS := by
  refine sound_by (cc := true) Γrb_ok Tryz.T_ok Tryz.mixed Tryz.func30 rfl (by kernel_rfl) (fun _ => rfl) (fun _ _ => by show 1 ≤ 30; decide) ?_
  intro (s : ByteArray) (hs : s.size ≤ 9223372036854775807)
  repeat' (first | refine gw ?_ | (refine br (fun q_ => ?_) (fun q_ => ?_) <;> try simp only [Int.toNat_natCast, Nat.mul_one, Nat.add_zero] at q_) | (refine brF (fun q_ => ?_) (fun q_ => ?_) <;> try simp only [Int.toNat_natCast, Nat.mul_one, Nat.add_zero] at q_))
  refine ⟨0, ByteArray, fun x => ⟨[(0, .v (.string x))], [], []⟩, fun x => x.size ≤ 9223372036854775807 ∧ Lib.trimLeftS x.data.toList bls = Lib.trimLeftS s.data.toList bls, fun x => x.size, fun _ => Nat.zero_le _, ⟨s, ⟨hs, rfl⟩, StLe.ren [] tmS trivial (by decide)⟩, ?_⟩
  rintro x ⟨hx, hxe⟩
  repeat' (first | refine gw ?_ | (refine br (fun q_ => ?_) (fun q_ => ?_) <;> try simp only [Int.toNat_natCast, Nat.mul_one, Nat.add_zero] at q_) | (refine brF (fun q_ => ?_) (fun q_ => ?_) <;> try simp only [Int.toNat_natCast, Nat.mul_one, Nat.add_zero] at q_))
  · exact ⟨bcut x 1 x.size, ⟨by rw [bcut_size x (Nat.le_refl _)]; omega, (trL_step (by omega) ‹_›).trans hxe⟩, (by show (bcut x 1 x.size).size < x.size; rw [bcut_size x (Nat.le_refl _)]; omega), StLe.ren [] tmS trivial (by decide)⟩
  all_goals
    have hst : Lib.trimLeftS x.data.toList bls = x.data.toList := by first | exact trL_stop (.inl (by omega)) | exact trL_stop (.inr ⟨by omega, ‹_›⟩)
    refine ⟨0, ByteArray, fun y => ⟨[(0, .v (.string y))], [], []⟩, fun y => y.size ≤ 9223372036854775807 ∧ Lib.trimRightS y.data.toList bls = Lib.trimS s.data.toList bls, fun y => y.size, fun _ => Nat.zero_le _, ⟨x, ⟨hx, by rw [← tr_comm, ← hxe, hst]⟩, StLe.ren [] tmS trivial (by decide)⟩, ?_⟩
    rintro y ⟨hy, hye⟩
    have e : ((y.size : Int) - 1).toNat = y.size - 1 := by omega
    repeat' (first | refine gw ?_ | (refine br (fun q_ => ?_) (fun q_ => ?_) <;> try simp only [Int.toNat_natCast, Nat.mul_one, Nat.add_zero] at q_) | (refine brF (fun q_ => ?_) (fun q_ => ?_) <;> try simp only [Int.toNat_natCast, Nat.mul_one, Nat.add_zero] at q_))
    · rw [e] at q_
      exact ⟨bcut y 0 ((y.size : Int) - 1).toNat, ⟨by rw [e, bcut_size y (by omega)]; omega, by rw [e]; exact (trR_step (by omega) q_).trans hye⟩, (by show (bcut y 0 ((y.size : Int) - 1).toNat).size < y.size; rw [e, bcut_size y (by omega)]; omega), StLe.ren [] tmS trivial (by decide)⟩
    · rw [e] at q_
      have := trR_stop (.inr ⟨by omega, q_⟩)
      exact EntR.str (toList_inj (this.symm.trans hye))
    · have := trR_stop (x := y) (.inl (by omega))
      exact EntR.str (toList_inj (this.symm.trans hye))
end Go.Proofs
