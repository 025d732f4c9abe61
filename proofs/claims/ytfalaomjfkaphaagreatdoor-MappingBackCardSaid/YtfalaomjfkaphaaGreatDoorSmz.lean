import Derived.Test.YtfalaomjfkaphaaGreatDoorMz
import Derived.Test.YtfalaomjfkaphaaGreatDoorCg
set_option linter.unusedVariables false
set_option linter.unusedSimpArgs false
namespace Go.Proofs
open Go Go.Sx
variable {mx : Int} {pb : Bool}

theorem cat0 (a : List Int) (f : Nat → Nat → D) (i j : Nat) : catF 0 f (fun i j => intD (a.getD i default) j) i j = intD (a.getD i default) j := by simp [catF]
/-! slices.Clone of numbers -/
def ctCloneI : Ct := { ι := List Int, inp := fun l => [slD 1 intD l], out := fun l => slD 1 intD l, pre := fun l => l.length ≤ 1000000000 }
theorem cloneI_ok : Sound Tryz.prog (GlT mx pb) 17 ctCloneI := by
  refine sound_by (cc := true) Γ0_ok Tryz.T_ok Tryz.mixed Tryz.func17 rfl (by kernel_rfl) (fun _ => rfl) (fun _ _ => by show 1 ≤ 8; decide) ?_
  intro (l : List Int) (hl : l.length ≤ 1000000000)
  refine gA ?_
  intro q hq
  refine gA ?_
  refine And.intro (fun h => ?_) (fun h => ?_)
  · have hq : l.length = 0 := hq (by simpa using h)
    have e : l = [] := List.length_eq_zero_iff.1 hq
    subst e
    refine gA ?_
    exact EntR.of rfl Ent.nil
  · refine gA ?_
    refine And.intro (show 0 + l.length ≤ _ by omega) (And.intro (show (0 + l.length) * 8 ≤ _ by omega) ?_)
    refine gA ?_
    refine EntR.of rfl (Ent.sl (show 0 + l.length = l.length by omega) fun i hi j hj => Ent.of_eq ?_)
    exact cat0 l _ i j

/-! insertion sort of mappings -/
def owM (L : List Mp) : List Own := [rowL 47 3 mpD L]
def ltM (a b : Mp) : Bool := decide (cmpM a b < 0)
theorem ltM_less {a b : Mp} : ltM a b = lessB a b := by
  have := cmpM_less (a := a) (b := b)
  unfold ltM
  by_cases h : cmpM a b < 0
  · have h1 : decide (cmpM a b ≥ 0) = false := by simp; omega
    rw [h1] at this
    cases hl : lessB a b with
    | true => simp [h]
    | false => rw [hl] at this; simp at this
  · have h1 : decide (cmpM a b ≥ 0) = true := by simp; omega
    rw [h1] at this
    cases hl : lessB a b with
    | true => rw [hl] at this; simp at this
    | false => simp [h]
/-! mapping.Make -/
def sortM (l : List Mp) : List Mp := outerS ltM l (l.length - 1)
noncomputable def makeD (l : List Mp) : D := if checkE (sortM l) = 0 then .tu [mpsD (sortM l), .v (.int .i64 0)] else .tu [nilV, .v (.int .i64 (checkE (sortM l)))]
noncomputable def ctMakeM : Ct := { ι := List Mp, inp := fun l => [mpsD l], out := makeD, pre := fun l => smallB l = true }
theorem sortM_perm {l : List Mp} : (sortM l).Perm l := by
  unfold sortM
  rcases Nat.eq_zero_or_pos l.length with h | h
  · rw [h]; exact List.Perm.refl _
  · exact outerS_perm ltM (by omega)
theorem sortM_len {l : List Mp} : (sortM l).length = l.length := outerS_length _
theorem small_perm {l m : List Mp} (h : l.Perm m) (hs : smallB m = true) : smallB l = true := by
  obtain ⟨h1, h2⟩ := small_facts hs
  have hl := h.length_eq
  have hall : ∀ x ∈ m, shortM x = true := by
    simp only [smallB, Bool.and_eq_true, List.all_eq_true] at hs
    intro x hx
    exact hs.1 x (by rw [List.take_of_length_le (by omega)]; exact hx)
  simp only [smallB, Bool.and_eq_true, List.all_eq_true, decide_eq_true_eq]
  exact ⟨fun x hx => hall x (h.mem_iff.1 (List.mem_of_mem_take hx)), by omega⟩
theorem makeD_pd (l : List Mp) : pd (makeD l) = true := by unfold makeD; split <;> rfl
end Go.Proofs

namespace Go.Proofs
open Go Go.Sx
variable {mx : Int} {pb : Bool}

theorem Ent.tu {l l' : List D} (hl : EntL l l') : Ent (.tu l) (.tu l') := by
  intro M E u hu
  simp only [Rep] at hu ⊢
  obtain ⟨us, rfl, h⟩ := hu
  exact ⟨us, rfl, hl _ _ _ h⟩
theorem EntL.nil : EntL [] [] := EntL.refl _

/-! Compare, Equal of the reference -/
def cmpL : List Int → List Int → Int
  | [], [] => 0
  | [], _ :: _ => -1
  | _ :: _, [] => 1
  | x :: a, y :: b => if x < y then -1 else if x > y then 1 else cmpL a b
theorem cmpL_zero : ∀ {a b : List Int}, cmpL a b = 0 ↔ a = b
  | [], [] => by simp [cmpL]
  | [], y :: b => by simp [cmpL]
  | x :: a, [] => by simp [cmpL]
  | x :: a, y :: b => by
    simp only [cmpL]
    split
    · rename_i h; constructor
      · intro h1; simp at h1
      · intro h1; simp at h1; omega
    · split
      · rename_i h; constructor
        · intro h1; simp at h1
        · intro h1; simp at h1; omega
      · rw [cmpL_zero]
        have : x = y := by omega
        simp [this]
theorem cmpL_drop : ∀ {k : Nat} {a b : List Int}, k ≤ a.length → k ≤ b.length → (∀ j, j < k → a.getD j default = b.getD j default) → cmpL a b = cmpL (a.drop k) (b.drop k)
  | 0, a, b, _, _, _ => by simp
  | k + 1, [], b, h, _, _ => by simp at h
  | k + 1, x :: a, [], _, h, _ => by simp at h
  | k + 1, x :: a, y :: b, h1, h2, h => by
    have h0 := h 0 (by omega)
    simp at h0
    subst h0
    simp only [cmpL, List.drop_succ_cons]
    rw [if_neg (by omega), if_neg (by omega)]
    exact cmpL_drop (by simpa using h1) (by simpa using h2) fun j hj => by
      have := h (j + 1) (by omega)
      simpa using this
def ctCompareL : Ct := { ι := List Int × List Int, inp := fun x => [slD 1 intD x.1, slD 1 intD x.2], out := fun x => .v (.int .i64 (cmpL x.1 x.2)), pre := fun x => x.1.length ≤ 9223372036854775807 ∧ x.2.length ≤ 9223372036854775807 }
theorem drop_cons {l : List Int} {k : Nat} (h : k < l.length) : l.drop k = l.getD k default :: l.drop (k + 1) := by
  rw [List.drop_eq_getElem_cons h]
  simp [List.getD_eq_getElem?_getD, h]
set_option maxHeartbeats 1000000 in
theorem rcompare_ok : Sound Tryz.prog (GlT mx pb) 32 ctCompareL := by
  refine sound_by (cc := false) Γ0_ok Tryz.T_ok Tryz.mixed Tryz.func32 rfl (by kernel_rfl) (fun _ => rfl) (fun _ _ => by show 2 ≤ 46; decide) ?_
  intro ((a : List Int), (b : List Int)) ⟨(ha : a.length ≤ 9223372036854775807), (hb : b.length ≤ 9223372036854775807)⟩
  refine gO ?_
  refine ⟨0, Nat, fun k => ⟨[(0, slD 1 intD a), (1, slD 1 intD b), (5, .v (.int .i64 k))], [], []⟩, fun k => k ≤ a.length ∧ k ≤ b.length ∧ ∀ j, j < k → a.getD j default = b.getD j default, fun k => a.length - k, fun _ => Nat.zero_le _, ⟨0, ⟨Nat.zero_le _, Nat.zero_le _, fun j hj => by omega⟩, StLe.of (by repeat' (first | exact trivial | exact Ent.refl _ | exact rfl | refine And.intro ?_ ?_)) trivial⟩, ?_⟩
  rintro k ⟨hka, hkb, hd⟩
  refine gO ?_
  refine And.intro (fun h => ?_) (fun h => ?_)
  · have h : k < a.length ∧ k < b.length := by
      have h : (bif decide ((k : Int) < (a.length : Int)) then decide ((k : Int) < (b.length : Int)) else false) = true := h
      simp at h; omega
    obtain ⟨h1, h2⟩ := h
    have hdr := cmpL_drop hka hkb hd
    rw [drop_cons h1, drop_cons h2] at hdr
    simp only [cmpL] at hdr
    refine gO ?_
    refine wo5 ?_
    refine gO ?_
    refine And.intro (fun _ => by omega) ?_
    refine gO ?_
    refine And.intro (fun _ => by omega) ?_
    refine gO ?_
    refine And.intro (fun h3 => ?_) (fun h3 => ?_)
    · have h3 : a.getD k default < b.getD k default := of_decide_eq_true h3
      refine gO ?_
      exact EntR.int (by rw [hdr, if_pos h3])
    have h3 : ¬ a.getD k default < b.getD k default := of_decide_eq_false h3
    refine gO ?_
    refine wo5 ?_
    refine gO ?_
    refine And.intro (fun _ => by omega) ?_
    refine gO ?_
    refine And.intro (fun _ => by omega) ?_
    refine gO ?_
    refine And.intro (fun h4 => ?_) (fun h4 => ?_)
    · have h4 : a.getD k default > b.getD k default := of_decide_eq_true h4
      refine gO ?_
      exact EntR.int (by rw [hdr, if_neg h3, if_pos h4])
    have h4 : ¬ a.getD k default > b.getD k default := of_decide_eq_false h4
    refine gO ?_
    refine And.intro (show fitsI64 ((k : Int) + 1) from ⟨by omega, by omega⟩) ?_
    refine gO ?_
    exact ⟨k + 1, ⟨by omega, by omega, next_of hd (by omega)⟩, (show a.length - (k + 1) < a.length - k by omega), StLe.of (by repeat' (first | exact trivial | exact Ent.refl _ | exact rfl | refine And.intro ?_ ?_)) trivial⟩
  · have h : k = a.length ∨ k = b.length := by
      have h : (bif decide ((k : Int) < (a.length : Int)) then decide ((k : Int) < (b.length : Int)) else false) = false := h
      by_cases h1 : (k : Int) < (a.length : Int)
      · simp [h1] at h; right; omega
      · left; omega
    have hdr := cmpL_drop hka hkb hd
    refine gO ?_
    refine And.intro (fun h3 => ?_) (fun h3 => ?_)
    · have h3 : (a.length : Int) < (b.length : Int) := of_decide_eq_true h3
      refine gO ?_
      refine EntR.int ?_
      have e1 : a.drop k = [] := by simp; omega
      have h4 : k < b.length := by omega
      rw [hdr, e1, drop_cons h4]
      rfl
    have h3 : ¬ (a.length : Int) < (b.length : Int) := of_decide_eq_false h3
    refine gO ?_
    refine And.intro (fun h5 => ?_) (fun h5 => ?_)
    · have h5 : (a.length : Int) > (b.length : Int) := of_decide_eq_true h5
      refine gO ?_
      refine EntR.int ?_
      have e1 : b.drop k = [] := by simp; omega
      have h4 : k < a.length := by omega
      rw [hdr, e1, drop_cons h4]
      rfl
    have h5 : ¬ (a.length : Int) > (b.length : Int) := of_decide_eq_false h5
    refine gO ?_
    refine EntR.int ?_
    have e1 : a.drop k = [] := by simp; omega
    have e2 : b.drop k = [] := by simp; omega
    rw [hdr, e1, e2]
    rfl

def ctEqualL : Ct := { ι := List Int × List Int, inp := fun x => [slD 1 intD x.1, slD 1 intD x.2], out := fun x => .v (.bool (decide (x.1 = x.2))), pre := fun x => x.1.length ≤ 9223372036854775807 ∧ x.2.length ≤ 9223372036854775807 }
def Γe : Ctx := fun f => match f with
  | 32 => some (.pure ctCompareL)
  | _ => none
theorem Γe_ok : CtxOk Tryz.prog (GlT mx pb) Γe := by
  intro f h hh
  simp only [Γe] at hh
  split at hh <;> simp at hh <;> subst hh
  exact rcompare_ok
theorem requal_ok : Sound Tryz.prog (GlT mx pb) 15 ctEqualL := by
  refine sound_by (cc := false) Γe_ok Tryz.T_ok Tryz.mixed Tryz.func15 rfl (by kernel_rfl) (fun _ => rfl) (fun _ _ => by show 2 ≤ 9; decide) ?_
  intro ((a : List Int), (b : List Int)) hp
  refine gO ?_
  refine ⟨(a, b), EntL.refl _, hp, ?_⟩
  refine gO ?_
  refine EntR.bool ?_
  show (cmpL a b == 0) = decide (a = b)
  rw [Bool.eq_iff_iff]
  simp [cmpL_zero]

end Go.Proofs
