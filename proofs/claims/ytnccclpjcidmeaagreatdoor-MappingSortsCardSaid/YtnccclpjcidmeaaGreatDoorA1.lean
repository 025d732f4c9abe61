import Derived.Test.YtnccclpjcidmeaaGreatDoorL1
namespace Go.Proofs
open Go Go.Sx
variable {mx : Int}

theorem Ent.tu {l l' : List D} (hl : EntL l l') : Ent (.tu l) (.tu l') := by
  intro M E u hu
  simp only [Rep] at hu ⊢
  obtain ⟨us, rfl, h⟩ := hu
  exact ⟨us, rfl, hl _ _ _ h⟩
theorem EntL.nil : EntL [] [] := EntL.refl _

/-! Compare, Equal of the reference -/
def cmpL : List Int → List Int → Int
  | [], [] => 0
  | [], _ :: _ => -1
  | _ :: _, [] => 1
  | x :: a, y :: b => if x < y then -1 else if x > y then 1 else cmpL a b
theorem cmpL_zero : ∀ {a b : List Int}, cmpL a b = 0 ↔ a = b
  | [], [] => by simp [cmpL]
  | [], y :: b => by simp [cmpL]
  | x :: a, [] => by simp [cmpL]
  | x :: a, y :: b => by
    simp only [cmpL]
    split
    · rename_i h; constructor
      · intro h1; simp at h1
      · intro h1; simp at h1; omega
    · split
      · rename_i h; constructor
        · intro h1; simp at h1
        · intro h1; simp at h1; omega
      · rw [cmpL_zero]
        have : x = y := by omega
        simp [this]
theorem cmpL_drop : ∀ {k : Nat} {a b : List Int}, k ≤ a.length → k ≤ b.length → (∀ j, j < k → a.getD j default = b.getD j default) → cmpL a b = cmpL (a.drop k) (b.drop k)
  | 0, a, b, _, _, _ => by simp
  | k + 1, [], b, h, _, _ => by simp at h
  | k + 1, x :: a, [], _, h, _ => by simp at h
  | k + 1, x :: a, y :: b, h1, h2, h => by
    have h0 := h 0 (by omega)
    simp at h0
    subst h0
    simp only [cmpL, List.drop_succ_cons]
    rw [if_neg (by omega), if_neg (by omega)]
    exact cmpL_drop (by simpa using h1) (by simpa using h2) fun j hj => by
      have := h (j + 1) (by omega)
      simpa using this
def ctCompareL : Ct := { ι := List Int × List Int, inp := fun x => [slD 1 intD x.1, slD 1 intD x.2], out := fun x => .v (.int .i64 (cmpL x.1 x.2)), pre := fun x => x.1.length ≤ 9223372036854775807 ∧ x.2.length ≤ 9223372036854775807 }
theorem drop_cons {l : List Int} {k : Nat} (h : k < l.length) : l.drop k = l.getD k default :: l.drop (k + 1) := by
  rw [List.drop_eq_getElem_cons h]
  simp [List.getD_eq_getElem?_getD, h]
set_option maxHeartbeats 1000000 in
theorem rcompare_ok : Sound Tryz.prog (GlT mx) 52 ctCompareL := by
  refine sound_by (cc := false) Γ0_ok Tryz.T_ok Tryz.mixed Tryz.func52 rfl (by kernel_rfl) (fun _ => rfl) (fun _ _ => by show 2 ≤ 46; decide) ?_
  intro ((a : List Int), (b : List Int)) ⟨(ha : a.length ≤ 9223372036854775807), (hb : b.length ≤ 9223372036854775807)⟩
  repeat first | refine wk1 ?_ | refine wk2 ?_ | refine wk3 ?_
  refine ⟨0, Nat, fun k => ⟨[(0, slD 1 intD a), (1, slD 1 intD b), (5, .v (.int .i64 k))], [], []⟩, fun k => k ≤ a.length ∧ k ≤ b.length ∧ ∀ j, j < k → a.getD j default = b.getD j default, fun k => a.length - k, fun _ => Nat.zero_le _, ⟨0, ⟨Nat.zero_le _, Nat.zero_le _, fun j hj => by omega⟩, StLe.of (by repeat' (first | exact trivial | exact Ent.refl _ | exact rfl | refine And.intro ?_ ?_)) trivial⟩, ?_⟩
  rintro k ⟨hka, hkb, hd⟩
  repeat first | refine wk1 ?_ | refine wk2 ?_ | refine wk3 ?_
  refine And.intro (fun h => ?_) (fun h => ?_)
  · have h : k < a.length ∧ k < b.length := by
      have h : (bif decide ((k : Int) < (a.length : Int)) then decide ((k : Int) < (b.length : Int)) else false) = true := h
      simp at h; omega
    obtain ⟨h1, h2⟩ := h
    have hdr := cmpL_drop hka hkb hd
    rw [drop_cons h1, drop_cons h2] at hdr
    simp only [cmpL] at hdr
    repeat first | refine wk1 ?_ | refine wk2 ?_ | refine wk3 ?_
    refine And.intro (by kernel_rfl) ?_
    repeat first | refine wk1 ?_ | refine wk2 ?_ | refine wk3 ?_
    refine And.intro (fun _ => by omega) ?_
    repeat first | refine wk1 ?_ | refine wk2 ?_ | refine wk3 ?_
    refine And.intro (fun _ => by omega) ?_
    repeat first | refine wk1 ?_ | refine wk2 ?_ | refine wk3 ?_
    refine And.intro (fun h3 => ?_) (fun h3 => ?_)
    · have h3 : a.getD k default < b.getD k default := of_decide_eq_true h3
      repeat first | refine wk1 ?_ | refine wk2 ?_ | refine wk3 ?_
      exact EntR.int (by rw [hdr, if_pos h3])
    have h3 : ¬ a.getD k default < b.getD k default := of_decide_eq_false h3
    repeat first | refine wk1 ?_ | refine wk2 ?_ | refine wk3 ?_
    refine And.intro (by kernel_rfl) ?_
    repeat first | refine wk1 ?_ | refine wk2 ?_ | refine wk3 ?_
    refine And.intro (fun _ => by omega) ?_
    repeat first | refine wk1 ?_ | refine wk2 ?_ | refine wk3 ?_
    refine And.intro (fun _ => by omega) ?_
    repeat first | refine wk1 ?_ | refine wk2 ?_ | refine wk3 ?_
    refine And.intro (fun h4 => ?_) (fun h4 => ?_)
    · have h4 : a.getD k default > b.getD k default := of_decide_eq_true h4
      repeat first | refine wk1 ?_ | refine wk2 ?_ | refine wk3 ?_
      exact EntR.int (by rw [hdr, if_neg h3, if_pos h4])
    have h4 : ¬ a.getD k default > b.getD k default := of_decide_eq_false h4
    repeat first | refine wk1 ?_ | refine wk2 ?_ | refine wk3 ?_
    refine And.intro (show fitsI64 ((k : Int) + 1) from ⟨by omega, by omega⟩) ?_
    repeat first | refine wk1 ?_ | refine wk2 ?_ | refine wk3 ?_
    exact ⟨k + 1, ⟨by omega, by omega, next_of hd (by omega)⟩, (show a.length - (k + 1) < a.length - k by omega), StLe.of (by repeat' (first | exact trivial | exact Ent.refl _ | exact rfl | refine And.intro ?_ ?_)) trivial⟩
  · have h : k = a.length ∨ k = b.length := by
      have h : (bif decide ((k : Int) < (a.length : Int)) then decide ((k : Int) < (b.length : Int)) else false) = false := h
      by_cases h1 : (k : Int) < (a.length : Int)
      · simp [h1] at h; right; omega
      · left; omega
    have hdr := cmpL_drop hka hkb hd
    repeat first | refine wk1 ?_ | refine wk2 ?_ | refine wk3 ?_
    refine And.intro (fun h3 => ?_) (fun h3 => ?_)
    · have h3 : (a.length : Int) < (b.length : Int) := of_decide_eq_true h3
      repeat first | refine wk1 ?_ | refine wk2 ?_ | refine wk3 ?_
      refine EntR.int ?_
      have e1 : a.drop k = [] := by simp; omega
      have h4 : k < b.length := by omega
      rw [hdr, e1, drop_cons h4]
      rfl
    have h3 : ¬ (a.length : Int) < (b.length : Int) := of_decide_eq_false h3
    repeat first | refine wk1 ?_ | refine wk2 ?_ | refine wk3 ?_
    refine And.intro (fun h5 => ?_) (fun h5 => ?_)
    · have h5 : (a.length : Int) > (b.length : Int) := of_decide_eq_true h5
      repeat first | refine wk1 ?_ | refine wk2 ?_ | refine wk3 ?_
      refine EntR.int ?_
      have e1 : b.drop k = [] := by simp; omega
      have h4 : k < a.length := by omega
      rw [hdr, e1, drop_cons h4]
      rfl
    have h5 : ¬ (a.length : Int) > (b.length : Int) := of_decide_eq_false h5
    repeat first | refine wk1 ?_ | refine wk2 ?_ | refine wk3 ?_
    refine EntR.int ?_
    have e1 : a.drop k = [] := by simp; omega
    have e2 : b.drop k = [] := by simp; omega
    rw [hdr, e1, e2]
    rfl

def ctEqualL : Ct := { ι := List Int × List Int, inp := fun x => [slD 1 intD x.1, slD 1 intD x.2], out := fun x => .v (.bool (decide (x.1 = x.2))), pre := fun x => x.1.length ≤ 9223372036854775807 ∧ x.2.length ≤ 9223372036854775807 }
def Γe : Ctx := fun f => match f with
  | 52 => some (.pure ctCompareL)
  | _ => none
theorem Γe_ok : CtxOk Tryz.prog (GlT mx) Γe := by
  intro f h hh
  simp only [Γe] at hh
  split at hh <;> simp at hh <;> subst hh
  exact rcompare_ok
theorem requal_ok : Sound Tryz.prog (GlT mx) 24 ctEqualL := by
  refine sound_by (cc := false) Γe_ok Tryz.T_ok Tryz.mixed Tryz.func24 rfl (by kernel_rfl) (fun _ => rfl) (fun _ _ => by show 2 ≤ 9; decide) ?_
  intro ((a : List Int), (b : List Int)) hp
  repeat first | refine wk1 ?_ | refine wk2 ?_ | refine wk3 ?_
  refine ⟨(a, b), EntL.refl _, hp, ?_⟩
  repeat first | refine wk1 ?_ | refine wk2 ?_ | refine wk3 ?_
  refine EntR.bool ?_
  show (cmpL a b == 0) = decide (a = b)
  rw [Bool.eq_iff_iff]
  simp [cmpL_zero]

/-! few, valid, find -/
def fewB (l : List Mp) (t : List Int) : Bool := bif smallB l then decide ((t.length : Int) ≤ 40) else false
def ctFew : Ct := { ι := List Mp × List Int, inp := fun x => [mpsD x.1, slD 1 intD x.2], out := fun x => .v (.bool (fewB x.1 x.2)), pre := fun x => x.1.length ≤ 9223372036854775807 }
theorem few_ok : Sound Tryz.prog (GlT mx) 23 ctFew := by
  refine sound_by (cc := false) Γl_ok Tryz.T_ok Tryz.mixed Tryz.func23 rfl (by kernel_rfl) (fun _ => rfl) (fun _ _ => by show 2 ≤ 12; decide) ?_
  intro ((l : List Mp), (t : List Int)) hp
  repeat first | refine wk1 ?_ | refine wk2 ?_ | refine wk3 ?_
  refine ⟨l, EntL.refl _, hp, ?_⟩
  repeat first | refine wk1 ?_ | refine wk2 ?_ | refine wk3 ?_
  exact EntR.bool rfl

def okL (l : List Mp) : Prop := checkE l = 0
noncomputable def validL (l : List Mp) : List Mp := bif checkE l != 0 then [] else l
noncomputable def ctValidL : Ct := { ι := List Mp, inp := fun l => [mpsD l], out := fun l => mpsD (validL l), pre := fitL }
theorem rvalidL_ok : Sound Tryz.prog (GlT mx) 53 ctValidL := by
  refine sound_by (cc := false) Γl_ok Tryz.T_ok Tryz.mixed Tryz.func53 rfl (by kernel_rfl) (fun _ => rfl) (fun _ _ => by show 1 ≤ 7; decide) ?_
  intro (l : List Mp) hp
  repeat first | refine wk1 ?_ | refine wk2 ?_ | refine wk3 ?_
  refine ⟨l, EntL.refl _, hp, ?_⟩
  repeat first | refine wk1 ?_ | refine wk2 ?_ | refine wk3 ?_
  refine And.intro (fun h => ?_) (fun h => ?_)
  · have h : (checkE l != 0) = true := h
    repeat first | refine wk1 ?_ | refine wk2 ?_ | refine wk3 ?_
    refine EntR.of rfl ?_
    simp only [ctValidL, validL, h, cond_true]
    exact Ent.nil
  · have h : (checkE l != 0) = false := h
    repeat first | refine wk1 ?_ | refine wk2 ?_ | refine wk3 ?_
    refine EntR.of rfl ?_
    simp only [ctValidL, validL, h, cond_false]
    exact Ent.refl _

def hitB (m : Mp) (c : Int) (tag : ByteArray) : Bool := bif m.frm == c then eqB m.tag tag else false
def findM (l : List Mp) (c : Int) (tag : ByteArray) : Option (List Int) := (l.find? fun m => hitB m c tag).map (·.to)
def findD (r : Option (List Int)) : D := .tu [slD 1 intD (r.getD []), .v (.bool r.isSome)]
def ctFind : Ct := { ι := List Mp × Int × ByteArray, inp := fun x => [mpsD x.1, .v (.int .i64 x.2.1), .v (.string x.2.2)], out := fun x => findD (findM x.1 x.2.1 x.2.2), pre := fun x => x.1.length ≤ 9223372036854775807 ∧ ∀ k, k < x.1.length → (x.1.getD k default).to.length ≤ 65 }
theorem find_at {l : List Mp} {c : Int} {tag : ByteArray} {k : Nat} (hk : k < l.length) (hd : ∀ j, j < k → hitB (l.getD j default) c tag = false) (h : hitB (l.getD k default) c tag = true) : findM l c tag = some (l.getD k default).to := by
  have e : l.getD k default = l[k] := by simp [List.getD_eq_getElem?_getD, hk]
  have : (l.find? fun m => hitB m c tag) = some l[k] := by
    rw [List.find?_eq_some_iff_getElem]
    refine ⟨by rw [← e]; exact h, k, hk, rfl, fun j hj => ?_⟩
    have := hd j hj
    have ej : l.getD j default = l[j] := by simp [List.getD_eq_getElem?_getD, show j < l.length by omega]
    rw [ej] at this
    simp [this]
  rw [findM, this, e]; rfl
theorem find_no {l : List Mp} {c : Int} {tag : ByteArray} (hd : ∀ j, j < l.length → hitB (l.getD j default) c tag = false) : findM l c tag = none := by
  have : (l.find? fun m => hitB m c tag) = none := by
    rw [List.find?_eq_none]
    intro m hm
    obtain ⟨i, hi, rfl⟩ := List.getElem_of_mem hm
    have := hd i hi
    have ej : l.getD i default = l[i] := by simp [List.getD_eq_getElem?_getD, hi]
    rw [ej] at this
    simp [this]
  rw [findM, this]; rfl
set_option maxHeartbeats 1000000 in
theorem rfind_ok : Sound Tryz.prog (GlT mx) 54 ctFind := by
  refine sound_by (cc := false) Γ0_ok Tryz.T_ok Tryz.mixed Tryz.func54 rfl (by kernel_rfl) (fun _ => rfl) (fun _ _ => by show 3 ≤ 38; decide) ?_
  intro ((l : List Mp), (c : Int), (tag : ByteArray)) ⟨(hl : l.length ≤ 9223372036854775807), (hto : ∀ k, k < l.length → (l.getD k default).to.length ≤ 65)⟩
  repeat first | refine wk1 ?_ | refine wk2 ?_ | refine wk3 ?_
  refine ⟨0, Nat, fun k => ⟨[(0, mpsD l), (1, .v (.int .i64 c)), (2, .v (.string tag)), (8, .v (.int .i64 k))], [], []⟩, fun k => k ≤ l.length ∧ ∀ j, j < k → hitB (l.getD j default) c tag = false, fun k => l.length - k, fun _ => Nat.zero_le _, ⟨0, ⟨Nat.zero_le _, fun j hj => by omega⟩, StLe.of (by repeat' (first | exact trivial | exact Ent.refl _ | exact rfl | refine And.intro ?_ ?_)) trivial⟩, ?_⟩
  rintro k ⟨hk, hd⟩
  repeat first | refine wk1 ?_ | refine wk2 ?_ | refine wk3 ?_
  refine And.intro (fun h => ?_) (fun h => ?_)
  · have h : k < l.length := by have := of_decide_eq_true h; omega
    have h65 := hto k h
    repeat first | refine wk1 ?_ | refine wk2 ?_ | refine wk3 ?_
    refine And.intro (by omega) ?_
    repeat first | refine wk1 ?_ | refine wk2 ?_ | refine wk3 ?_
    refine And.intro (fun _ => by omega) ?_
    repeat first | refine wk1 ?_ | refine wk2 ?_ | refine wk3 ?_
    refine And.intro (fun h1 => ?_) (fun h1 => ?_)
    · have h1 : hitB (l.getD k default) c tag = true := h1
      repeat first | refine wk1 ?_ | refine wk2 ?_ | refine wk3 ?_
      refine And.intro (by omega) ?_
      repeat first | refine wk1 ?_ | refine wk2 ?_ | refine wk3 ?_
      refine And.intro (by show 0 + (l.getD k default).to.length ≤ _; omega) (And.intro (by show (0 + (l.getD k default).to.length) * 8 ≤ _; omega) ?_)
      repeat first | refine wk1 ?_ | refine wk2 ?_ | refine wk3 ?_
      refine EntR.of rfl (Ent.tu (EntL.cons ?_ (EntL.cons ?_ EntL.nil)))
      · rw [find_at h hd h1]
        refine Ent.sl (by show 0 + (l.getD k default).to.length = (l.getD k default).to.length; omega) fun i hi j hj => ?_
        have : catF 0 (fun _ _ => D.junk) (fun i j => intD ((l.getD k default).to.getD i default) j) i j = intD ((l.getD k default).to.getD i default) j := by simp [catF]
        exact Ent.of_eq this
      · rw [find_at h hd h1]; exact Ent.refl _
    · have h1 : hitB (l.getD k default) c tag = false := h1
      repeat first | refine wk1 ?_ | refine wk2 ?_ | refine wk3 ?_
      refine And.intro (show fitsI64 ((k : Int) + 1) from ⟨by omega, by omega⟩) ?_
      repeat first | refine wk1 ?_ | refine wk2 ?_ | refine wk3 ?_
      exact ⟨k + 1, ⟨by omega, next_of hd h1⟩, (show l.length - (k + 1) < l.length - k by omega), StLe.of (by repeat' (first | exact trivial | exact Ent.refl _ | exact rfl | refine And.intro ?_ ?_)) trivial⟩
  · have h : k = l.length := by have := of_decide_eq_false h; omega
    subst h
    repeat first | refine wk1 ?_ | refine wk2 ?_ | refine wk3 ?_
    refine EntR.of rfl (Ent.tu (EntL.cons ?_ (EntL.cons ?_ EntL.nil)))
    · rw [find_no hd]; exact Ent.nil
    · rw [find_no hd]; exact Ent.refl _
end Go.Proofs
