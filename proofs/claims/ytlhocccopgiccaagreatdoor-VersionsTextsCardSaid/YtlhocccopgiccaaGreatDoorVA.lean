import Derived.Test.YtlhocccopgiccaaGreatDoorRun
import Derived.Test.YtlhocccopgiccaaGreatDoorSxR
namespace Go.Proofs
open Go Go.Sx

theorem tf {p : Prop} {b : Bool} (h : b = true) (h' : b = false) : p := by rw [h] at h'; simp at h'

structure Change where
  what : ByteArray
  lo : Int
  hi : Int
  old : ByteArray
  new : ByteArray
instance : Inhabited Change := ⟨⟨ByteArray.empty, 0, 0, ByteArray.empty, ByteArray.empty⟩⟩

def chD (c : Change) : Nat → D
  | 0 => .v (.string c.what)
  | 1 => .v (.int .i64 c.lo)
  | 2 => .v (.int .i64 c.hi)
  | 3 => .v (.string c.old)
  | 4 => .v (.string c.new)
  | _ => .junk

def slD {α : Type} [Inhabited α] (sz : Nat) (enc : α → Nat → D) (l : List α) : D := .sl sz l.length fun i j => enc (l.getD i default) j

def eqB (s x : ByteArray) : Bool := @decide (s = x) (baDec s x)
def isDef (s : ByteArray) : Bool := eqB s ⟨#[79, 116, 104, 101, 114]⟩ || eqB s ⟨#[48]⟩ || eqB s ⟨#[110, 111]⟩ || eqB s ⟨#[]⟩
def additive (l : List Change) : Bool := l.all fun c => isDef c.old

def ctAdditive : Ct := { ι := List Change, inp := fun l => [slD 5 chD l], out := fun l => .v (.bool (additive l)), pre := fun l => l.length ≤ 9223372036854775807 }

theorem Tryz.mixed : Tryz.prog.follows .mixedOrders = true := by kernel_rfl
def Γ0 : Ctx := fun _ => none
theorem Γ0_ok : CtxOk Tryz.prog GlT Γ0 := fun f h hh => by simp [Γ0] at hh

theorem all_of {l : List Change} {k : Nat} (hk : k = l.length) (hd : ∀ j, j < k → isDef (l.getD j default).old = true) : additive l = true := by
  subst hk
  simp only [additive, List.all_eq_true]
  intro c hc
  obtain ⟨i, hi, rfl⟩ := List.getElem_of_mem hc
  have := hd i hi
  simpa [List.getD_eq_getElem?_getD, hi] using this

theorem not_all {l : List Change} {k : Nat} (hk : k < l.length) (hd : isDef (l.getD k default).old = false) : additive l = false := by
  simp only [additive, List.all_eq_false]
  refine ⟨l[k], List.getElem_mem _, ?_⟩
  simp [List.getD_eq_getElem?_getD, hk] at hd
  simp [hd]

set_option maxHeartbeats 600000 in
theorem additive_ok : Sound Tryz.prog GlT 16 ctAdditive := by
  refine sound_of (cc := false) Γ0_ok Tryz.T_ok Tryz.mixed Tryz.func16 rfl (by kernel_rfl) (fun _ => rfl) (fun _ _ => by show 1 ≤ 19; decide) ?_
  intro (l : List Change) (hl : l.length ≤ 9223372036854775807)
  refine ⟨0, Nat, fun k => ⟨[(5, slD 5 chD l), (6, .v (.int .i64 l.length)), (7, .v (.int .i64 k))], [], []⟩, fun k => k ≤ l.length ∧ ∀ j, j < k → isDef (l.getD j default).old = true, fun k => l.length - k, fun _ => Nat.zero_le _, ⟨0, ⟨Nat.zero_le _, fun j hj => by omega⟩, StLe.of ?_ trivial⟩, ?_⟩
  · exact And.intro (Ent.refl _) (And.intro rfl (And.intro (Ent.refl _) (And.intro rfl (And.intro (Ent.refl _) (And.intro rfl trivial)))))
  rintro k ⟨hk, hd⟩
  refine And.intro (fun hlt => ?_) (fun hge => ?_)
  · have hlt : k < l.length := by simpa using hlt
    refine And.intro (by omega) ?_
    have next : isDef (l.getD k default).old = true → ∀ j, j < k + 1 → isDef (l.getD j default).old = true := by
      intro h j hj
      by_cases hjk : j = k
      · subst hjk; exact h
      · exact hd j (by omega)
    have go : isDef (l.getD k default).old = true → fitsI64 ((k : Int) + 1) ∧ ∃ j, (j ≤ l.length ∧ ∀ i, i < j → isDef (l.getD i default).old = true) ∧ l.length - j < l.length - k ∧ j = k + 1 := fun h => ⟨⟨by omega, by omega⟩, k + 1, ⟨by omega, next h⟩, by omega, rfl⟩
    refine And.intro (fun h1 => ?_) (fun h1 => And.intro (fun h2 => ?_) (fun h2 => And.intro (fun h3 => ?_) (fun h3 => ?_)))
    · refine And.intro (fun _ => ?_) (fun hf => tf h1 hf)
      have h1 : eqB (l.getD k default).old ⟨#[79, 116, 104, 101, 114]⟩ = true := h1
      obtain ⟨g1, j, g2, g3, rfl⟩ := go (by simp only [isDef, h1, Bool.true_or, Bool.or_true])
      exact And.intro g1 ⟨_, g2, g3, StLe.of (by repeat' (first | exact trivial | exact Ent.refl _ | exact rfl | refine And.intro ?_ ?_)) trivial⟩
    · refine And.intro (fun _ => ?_) (fun hf => tf h2 hf)
      have h2 : eqB (l.getD k default).old ⟨#[48]⟩ = true := h2
      obtain ⟨g1, j, g2, g3, rfl⟩ := go (by simp only [isDef, h2, Bool.true_or, Bool.or_true])
      exact And.intro g1 ⟨_, g2, g3, StLe.of (by repeat' (first | exact trivial | exact Ent.refl _ | exact rfl | refine And.intro ?_ ?_)) trivial⟩
    · refine And.intro (fun _ => ?_) (fun hf => tf h3 hf)
      have h3 : eqB (l.getD k default).old ⟨#[110, 111]⟩ = true := h3
      obtain ⟨g1, j, g2, g3, rfl⟩ := go (by simp only [isDef, h3, Bool.true_or, Bool.or_true])
      exact And.intro g1 ⟨_, g2, g3, StLe.of (by repeat' (first | exact trivial | exact Ent.refl _ | exact rfl | refine And.intro ?_ ?_)) trivial⟩
    · have h1 : eqB (l.getD k default).old ⟨#[79, 116, 104, 101, 114]⟩ = false := h1
      have h2 : eqB (l.getD k default).old ⟨#[48]⟩ = false := h2
      have h3 : eqB (l.getD k default).old ⟨#[110, 111]⟩ = false := h3
      refine And.intro (fun h4 => ?_) (fun h4 => ?_)
      · have h4 : eqB (l.getD k default).old ⟨#[]⟩ = true := h4
        obtain ⟨g1, j, g2, g3, rfl⟩ := go (by simp only [isDef, h4, Bool.or_true])
        exact And.intro g1 ⟨_, g2, g3, StLe.of (by repeat' (first | exact trivial | exact Ent.refl _ | exact rfl | refine And.intro ?_ ?_)) trivial⟩
      · have h4 : eqB (l.getD k default).old ⟨#[]⟩ = false := h4
        exact EntR.bool (not_all hlt (by simp only [isDef, h1, h2, h3, h4, Bool.or_false])).symm
  · have hge : k = l.length := by simp at hge; omega
    exact EntR.bool (all_of hge hd).symm


/-! few, Next -/
def shortB (c : Change) : Bool := !(decide ((c.what.size : Int) > 100) || decide ((c.old.size : Int) > 400) || decide ((c.new.size : Int) > 400))
def fewB (l : List Change) : Bool := (l.take 60).all shortB && decide (l.length ≤ 40)
def ctFew : Ct := { ι := List Change, inp := fun l => [slD 5 chD l], out := fun l => .v (.bool (fewB l)), pre := fun l => l.length ≤ 9223372036854775807 }

theorem few_no {l : List Change} {k : Nat} (hk : k < l.length) (h6 : k < 60) (hd : shortB (l.getD k default) = false) : fewB l = false := by
  simp only [fewB, Bool.and_eq_false_iff, List.all_eq_false]
  left
  refine ⟨l[k], ?_, ?_⟩
  · rw [List.mem_take_iff_getElem]
    exact ⟨k, by omega, rfl⟩
  · simp [List.getD_eq_getElem?_getD, hk] at hd
    simp [hd]

theorem few_yes {l : List Change} {k : Nat} (hk : k = l.length ∨ k = 60) (hd : ∀ j, j < k → shortB (l.getD j default) = true) : fewB l = decide ((l.length : Int) ≤ 40) := by
  have h1 : (l.take 60).all shortB = true := by
    rw [List.all_eq_true]
    intro c hc
    rw [List.mem_take_iff_getElem] at hc
    obtain ⟨i, hi, rfl⟩ := hc
    have := hd i (by omega)
    simpa [List.getD_eq_getElem?_getD, show i < l.length by omega] using this
  simp only [fewB, h1, Bool.true_and]
  rw [decide_eq_decide]
  omega

theorem short_f {c : Change} (h : (bif bif decide ((c.what.size : Int) > 100) then true else decide ((c.old.size : Int) > 400) then true else decide ((c.new.size : Int) > 400)) = true) : shortB c = false := by
  simp only [shortB]
  revert h
  generalize decide ((c.what.size : Int) > 100) = x
  generalize decide ((c.old.size : Int) > 400) = y
  generalize decide ((c.new.size : Int) > 400) = z
  cases x <;> cases y <;> cases z <;> simp
theorem short_t {c : Change} (h : (bif bif decide ((c.what.size : Int) > 100) then true else decide ((c.old.size : Int) > 400) then true else decide ((c.new.size : Int) > 400)) = false) : shortB c = true := by
  simp only [shortB]
  revert h
  generalize decide ((c.what.size : Int) > 100) = x
  generalize decide ((c.old.size : Int) > 400) = y
  generalize decide ((c.new.size : Int) > 400) = z
  cases x <;> cases y <;> cases z <;> simp

set_option maxHeartbeats 600000 in
theorem few_ok : Sound Tryz.prog GlT 15 ctFew := by
  refine sound_of (cc := false) Γ0_ok Tryz.T_ok Tryz.mixed Tryz.func15 rfl (by kernel_rfl) (fun _ => rfl) (fun _ _ => by show 1 ≤ 42; decide) ?_
  intro (l : List Change) (hl : l.length ≤ 9223372036854775807)
  refine ⟨0, Nat, fun k => ⟨[(0, slD 5 chD l), (3, .v (.int .i64 k))], [], []⟩, fun k => k ≤ l.length ∧ k ≤ 60 ∧ ∀ j, j < k → shortB (l.getD j default) = true, fun k => l.length - k, fun _ => Nat.zero_le _, ⟨0, ⟨Nat.zero_le _, Nat.zero_le _, fun j hj => by omega⟩, StLe.of (by repeat' (first | exact trivial | exact Ent.refl _ | exact rfl | refine And.intro ?_ ?_)) trivial⟩, ?_⟩
  rintro k ⟨hk, hk6, hd⟩
  refine And.intro (fun hlt => ?_) (fun hge => ?_)
  · have hlt : k < l.length ∧ (k : Int) < 60 := by simpa using hlt
    obtain ⟨hlt, hl6⟩ := hlt
    refine And.intro (by omega) (And.intro (fun _ => by omega) (And.intro (fun _ => by omega) (And.intro (fun h => ?_) (fun h => ?_))))
    · have h : (bif bif decide (((l.getD k default).what.size : Int) > 100) then true else decide (((l.getD k default).old.size : Int) > 400) then true else decide (((l.getD k default).new.size : Int) > 400)) = true := h
      exact EntR.bool (few_no hlt (by omega) (short_f h)).symm
    · have h : (bif bif decide (((l.getD k default).what.size : Int) > 100) then true else decide (((l.getD k default).old.size : Int) > 400) then true else decide (((l.getD k default).new.size : Int) > 400)) = false := h
      have hsh : shortB (l.getD k default) = true := short_t h
      refine And.intro ⟨by omega, by omega⟩ ⟨k + 1, ⟨by omega, by omega, fun j hj => ?_⟩, (show l.length - (k + 1) < l.length - k by omega), StLe.of (by repeat' (first | exact trivial | exact Ent.refl _ | exact rfl | refine And.intro ?_ ?_)) trivial⟩
      by_cases hjk : j = k
      · subst hjk; exact hsh
      · exact hd j (by omega)
  · have hge : k = l.length ∨ k = 60 := by
      by_cases h1 : k = l.length
      · exact .inl h1
      · have : k < l.length := by omega
        simp [this] at hge
        right; omega
    exact EntR.bool (few_yes hge hd).symm

set_option maxHeartbeats 600000 in
theorem refAdditive_ok : Sound Tryz.prog GlT 17 ctAdditive := by
  refine sound_of (cc := false) Γ0_ok Tryz.T_ok Tryz.mixed Tryz.func17 rfl (by kernel_rfl) (fun _ => rfl) (fun _ _ => by show 1 ≤ 30; decide) ?_
  intro (l : List Change) (hl : l.length ≤ 9223372036854775807)
  refine ⟨0, Nat, fun k => ⟨[(0, slD 5 chD l), (3, .v (.int .i64 k))], [], []⟩, fun k => k ≤ l.length ∧ ∀ j, j < k → isDef (l.getD j default).old = true, fun k => l.length - k, fun _ => Nat.zero_le _, ⟨0, ⟨Nat.zero_le _, fun j hj => by omega⟩, StLe.of (by repeat' (first | exact trivial | exact Ent.refl _ | exact rfl | refine And.intro ?_ ?_)) trivial⟩, ?_⟩
  rintro k ⟨hk, hd⟩
  refine And.intro (fun hlt => ?_) (fun hge => ?_)
  · have hlt : k < l.length := by simpa using hlt
    refine And.intro (by omega) ?_
    refine And.intro (fun h => ?_) (fun h => ?_)
    · have h : (bif (bif (bif !(eqB (l.getD k default).old ⟨#[79, 116, 104, 101, 114]⟩) then !(eqB (l.getD k default).old ⟨#[48]⟩) else false) then !(eqB (l.getD k default).old ⟨#[110, 111]⟩) else false) then !(eqB (l.getD k default).old ⟨#[]⟩) else false) = true := h
      refine EntR.bool (not_all hlt ?_).symm
      simp only [isDef]
      revert h
      generalize eqB (l.getD k default).old ⟨#[79, 116, 104, 101, 114]⟩ = x
      generalize eqB (l.getD k default).old ⟨#[48]⟩ = y
      generalize eqB (l.getD k default).old ⟨#[110, 111]⟩ = z
      generalize eqB (l.getD k default).old ⟨#[]⟩ = u
      cases x <;> cases y <;> cases z <;> cases u <;> simp
    · have h : (bif (bif (bif !(eqB (l.getD k default).old ⟨#[79, 116, 104, 101, 114]⟩) then !(eqB (l.getD k default).old ⟨#[48]⟩) else false) then !(eqB (l.getD k default).old ⟨#[110, 111]⟩) else false) then !(eqB (l.getD k default).old ⟨#[]⟩) else false) = false := h
      have hx : isDef (l.getD k default).old = true := by
        simp only [isDef]
        revert h
        generalize eqB (l.getD k default).old ⟨#[79, 116, 104, 101, 114]⟩ = x
        generalize eqB (l.getD k default).old ⟨#[48]⟩ = y
        generalize eqB (l.getD k default).old ⟨#[110, 111]⟩ = z
        generalize eqB (l.getD k default).old ⟨#[]⟩ = u
        cases x <;> cases y <;> cases z <;> cases u <;> simp
      refine And.intro (show fitsI64 ((k : Int) + 1) from ⟨by omega, by omega⟩) ⟨k + 1, ⟨by omega, fun j hj => ?_⟩, (by show l.length - (k + 1) < l.length - k; omega), StLe.of (by repeat' (first | exact trivial | exact Ent.refl _ | exact rfl | refine And.intro ?_ ?_)) trivial⟩
      by_cases hjk : j = k
      · subst hjk; exact hx
      · exact hd j (by omega)
  · have hge : k = l.length := by simp at hge; omega
    exact EntR.bool (all_of hge hd).symm

def ctAlive : Ct := { ι := Unit, inp := fun _ => [], out := fun _ => .v (.bool true), pre := fun _ => True }
def Γ2 : Ctx := fun f => match f with
  | 15 => some (.pure ctFew)
  | 11 => some (.pure ctAlive)
  | 16 => some (.pure ctAdditive)
  | 17 => some (.pure ctAdditive)
  | _ => none
theorem Γ2_ok : CtxOk Tryz.prog GlT Γ2 := by
  intro f h hh
  simp only [Γ2] at hh
  split at hh <;> simp at hh <;> subst hh
  · exact few_ok
  · exact alive_ok
  · exact additive_ok
  · exact refAdditive_ok

def ctLawA : Ct := { ι := List Change, inp := fun l => [slD 5 chD l], out := fun _ => .v (.bool true), pre := fun l => l.length ≤ 9223372036854775807 }
set_option maxHeartbeats 600000 in
theorem lawAdditive_ok : Sound Tryz.prog GlT 4 ctLawA := by
  refine sound_of (cc := false) Γ2_ok Tryz.T_ok Tryz.mixed Tryz.func4 rfl (by kernel_rfl) (fun _ => rfl) (fun _ _ => by show 1 ≤ 16; decide) ?_
  intro (l : List Change) (hl : l.length ≤ 9223372036854775807)
  refine ⟨l, EntL.refl _, hl, ?_⟩
  refine ⟨l, EntL.refl _, fun _ => hl, ?_⟩
  refine ⟨l, EntL.refl _, fun _ => hl, ?_⟩
  refine ⟨(), EntL.refl _, fun _ => trivial, ?_⟩
  refine EntR.bool ?_
  simp
end Go.Proofs
