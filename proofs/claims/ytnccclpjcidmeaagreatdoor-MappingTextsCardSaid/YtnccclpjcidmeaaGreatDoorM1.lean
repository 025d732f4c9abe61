import Derived.Test.YtnccclpjcidmeaaGreatDoorRa
import Derived.Test.YtnccclpjcidmeaaGreatDoorE6
namespace Go.Proofs
open Go Go.Sx
variable {mx : Int}

def slD {α : Type} [Inhabited α] (sz : Nat) (enc : α → Nat → D) (l : List α) : D := .sl sz l.length fun i j => enc (l.getD i default) j
def eqB (s x : ByteArray) : Bool := @decide (s = x) (baDec s x)
theorem eqB_iff {s x : ByteArray} : eqB s x = true ↔ s = x := by
  unfold eqB
  exact @decide_eq_true_iff _ (baDec s x)

/-! lists -/
theorem all_of {α : Type} [Inhabited α] {p : α → Bool} {l : List α} {k : Nat} (hk : k = l.length) (hd : ∀ j, j < k → p (l.getD j default) = true) : l.all p = true := by
  subst hk
  rw [List.all_eq_true]
  intro c hc
  obtain ⟨i, hi, rfl⟩ := List.getElem_of_mem hc
  have := hd i hi
  simpa [List.getD_eq_getElem?_getD, hi] using this
theorem not_all {α : Type} [Inhabited α] {p : α → Bool} {l : List α} {k : Nat} (hk : k < l.length) (hd : p (l.getD k default) = false) : l.all p = false := by
  rw [List.all_eq_false]
  refine ⟨l[k], List.getElem_mem _, ?_⟩
  simp [List.getD_eq_getElem?_getD, hk] at hd
  simp [hd]
theorem all_get {α : Type} [Inhabited α] {p : α → Bool} {l : List α} (h : l.all p = true) {k : Nat} (hk : k < l.length) : p (l.getD k default) = true := by
  rw [List.all_eq_true] at h
  have := h l[k] (List.getElem_mem _)
  simpa [List.getD_eq_getElem?_getD, hk] using this

/-! mappings -/
structure Mp where
  frm : Int
  to : List Int
  tag : ByteArray
instance : Inhabited Mp := ⟨⟨0, [], ByteArray.empty⟩⟩
def intD (x : Int) : Nat → D
  | 0 => .v (.int .i64 x)
  | _ => .junk
def mpD (m : Mp) : Nat → D
  | 0 => .v (.int .i64 m.frm)
  | 1 => slD 1 intD m.to
  | 2 => .v (.string m.tag)
  | _ => .junk
def mpA (m : Mp) : D := .ag [mpD m 0, mpD m 1, mpD m 2]
def mpsD (l : List Mp) : D := slD 3 mpD l

/-! numbers -/
def validB (c : Int) : Bool := bif decide (c ≥ 0) then decide (c ≤ 1114111) else false
theorem validB_iff {c : Int} : validB c = true ↔ 0 ≤ c ∧ c ≤ 1114111 := by
  unfold validB
  by_cases h : c ≥ 0 <;> simp [h] <;> omega
def ctValid : Ct := { ι := Int, inp := fun c => [.v (.int .i64 c)], out := fun c => .v (.bool (validB c)), pre := fun _ => True }
theorem valid_ok : Sound Tryz.prog (GlT mx) 57 ctValid := by
  refine sound_by (cc := false) Γ0_ok Tryz.T_ok Tryz.mixed Tryz.func57 rfl (by kernel_rfl) (fun _ => rfl) (fun _ _ => by show 1 ≤ 9; decide) ?_
  intro (c : Int) _
  repeat first | refine wk1 ?_ | refine wk2 ?_ | refine wk3 ?_
  exact EntR.bool rfl
theorem rvalid_ok : Sound Tryz.prog (GlT mx) 74 ctValid := by
  refine sound_by (cc := false) Γ0_ok Tryz.T_ok Tryz.mixed Tryz.func74 rfl (by kernel_rfl) (fun _ => rfl) (fun _ _ => by show 1 ≤ 9; decide) ?_
  intro (c : Int) _
  repeat first | refine wk1 ?_ | refine wk2 ?_ | refine wk3 ?_
  exact EntR.bool rfl

/-! comparisons -/
def ctNanI : Ct := { ι := Int, inp := fun c => [.v (.int .i64 c)], out := fun _ => .v (.bool false), pre := fun _ => True }
theorem nanI_ok : Sound Tryz.prog (GlT mx) 89 ctNanI := by
  refine sound_by (cc := false) Γ0_ok Tryz.T_ok Tryz.mixed Tryz.func89 rfl (by kernel_rfl) (fun _ => rfl) (fun _ _ => by show 1 ≤ 6; decide) ?_
  intro (c : Int) _
  repeat first | refine wk1 ?_ | refine wk2 ?_ | refine wk3 ?_
  refine EntR.bool ?_
  simp
def ctNanS : Ct := { ι := ByteArray, inp := fun c => [.v (.string c)], out := fun _ => .v (.bool false), pre := fun _ => True }
theorem nanS_ok : Sound Tryz.prog (GlT mx) 90 ctNanS := by
  refine sound_by (cc := false) Γ0_ok Tryz.T_ok Tryz.mixed Tryz.func90 rfl (by kernel_rfl) (fun _ => rfl) (fun _ _ => by show 1 ≤ 6; decide) ?_
  intro (c : ByteArray) _
  repeat first | refine wk1 ?_ | refine wk2 ?_ | refine wk3 ?_
  refine EntR.bool ?_
  show (!eqB c c) = false
  rw [eqB_iff.2 rfl]; rfl

def cmpI (a b : Int) : Int := if a < b then -1 else if a > b then 1 else 0
def lessS (a b : ByteArray) : Bool := Op.bytesLess a.data.toList b.data.toList
def gtrS (a b : ByteArray) : Bool := !(Op.bytesLess a.data.toList b.data.toList || a.data.toList == b.data.toList)
def cmpS (a b : ByteArray) : Int := if lessS a b = true then -1 else if gtrS a b = true then 1 else 0
def ctCmpI : Ct := { ι := Int × Int, inp := fun x => [.v (.int .i64 x.1), .v (.int .i64 x.2)], out := fun x => .v (.int .i64 (cmpI x.1 x.2)), pre := fun _ => True }
def ctCmpS : Ct := { ι := ByteArray × ByteArray, inp := fun x => [.v (.string x.1), .v (.string x.2)], out := fun x => .v (.int .i64 (cmpS x.1 x.2)), pre := fun _ => True }
def Γn : Ctx := fun f => match f with
  | 89 => some (.pure ctNanI)
  | 90 => some (.pure ctNanS)
  | _ => none
theorem Γn_ok : CtxOk Tryz.prog (GlT mx) Γn := by
  intro f h hh
  simp only [Γn] at hh
  split at hh <;> simp at hh <;> subst hh
  · exact nanI_ok
  · exact nanS_ok
theorem cmpI_ok : Sound Tryz.prog (GlT mx) 61 ctCmpI := by
  refine sound_by (cc := false) Γn_ok Tryz.T_ok Tryz.mixed Tryz.func61 rfl (by kernel_rfl) (fun _ => rfl) (fun _ _ => by show 2 ≤ 20; decide) ?_
  intro ((a : Int), (b : Int)) _
  repeat first | refine wk1 ?_ | refine wk2 ?_ | refine wk3 ?_
  refine ⟨a, EntL.refl _, trivial, ?_⟩
  repeat first | refine wk1 ?_ | refine wk2 ?_ | refine wk3 ?_
  refine ⟨b, EntL.refl _, trivial, ?_⟩
  repeat first | refine wk1 ?_ | refine wk2 ?_ | refine wk3 ?_
  refine And.intro (fun h => Bool.noConfusion (show false = true from h)) (fun _ => ?_)
  repeat first | refine wk1 ?_ | refine wk2 ?_ | refine wk3 ?_
  refine And.intro (fun h => Bool.noConfusion (show false = true from h)) (fun _ => ?_)
  repeat first | refine wk1 ?_ | refine wk2 ?_ | refine wk3 ?_
  refine And.intro (fun h => ?_) (fun h => ?_)
  · have h : a < b := by simpa using h
    repeat first | refine wk1 ?_ | refine wk2 ?_ | refine wk3 ?_
    exact EntR.int (by simp [cmpI, h])
  have h : ¬ a < b := by simpa using h
  repeat first | refine wk1 ?_ | refine wk2 ?_ | refine wk3 ?_
  refine And.intro (fun h1 => ?_) (fun h1 => ?_)
  · have h1 : a > b := by simpa using h1
    repeat first | refine wk1 ?_ | refine wk2 ?_ | refine wk3 ?_
    exact EntR.int (by simp [cmpI, h, h1])
  have h1 : ¬ a > b := by simpa using h1
  repeat first | refine wk1 ?_ | refine wk2 ?_ | refine wk3 ?_
  exact EntR.int (by simp [cmpI, h, h1])
theorem cmpS_ok : Sound Tryz.prog (GlT mx) 62 ctCmpS := by
  refine sound_by (cc := false) Γn_ok Tryz.T_ok Tryz.mixed Tryz.func62 rfl (by kernel_rfl) (fun _ => rfl) (fun _ _ => by show 2 ≤ 20; decide) ?_
  intro ((a : ByteArray), (b : ByteArray)) _
  repeat first | refine wk1 ?_ | refine wk2 ?_ | refine wk3 ?_
  refine ⟨a, EntL.refl _, trivial, ?_⟩
  repeat first | refine wk1 ?_ | refine wk2 ?_ | refine wk3 ?_
  refine ⟨b, EntL.refl _, trivial, ?_⟩
  repeat first | refine wk1 ?_ | refine wk2 ?_ | refine wk3 ?_
  refine And.intro (fun h => Bool.noConfusion (show false = true from h)) (fun _ => ?_)
  repeat first | refine wk1 ?_ | refine wk2 ?_ | refine wk3 ?_
  refine And.intro (fun h => Bool.noConfusion (show false = true from h)) (fun _ => ?_)
  repeat first | refine wk1 ?_ | refine wk2 ?_ | refine wk3 ?_
  refine And.intro (fun h => ?_) (fun h => ?_)
  · have h : lessS a b = true := h
    repeat first | refine wk1 ?_ | refine wk2 ?_ | refine wk3 ?_
    exact EntR.int (by simp [cmpS, h])
  have h : lessS a b = false := h
  repeat first | refine wk1 ?_ | refine wk2 ?_ | refine wk3 ?_
  refine And.intro (fun h1 => ?_) (fun h1 => ?_)
  · have h1 : gtrS a b = true := h1
    repeat first | refine wk1 ?_ | refine wk2 ?_ | refine wk3 ?_
    exact EntR.int (by simp [cmpS, h, h1])
  have h1 : gtrS a b = false := h1
  repeat first | refine wk1 ?_ | refine wk2 ?_ | refine wk3 ?_
  exact EntR.int (by simp [cmpS, h, h1])

def orF (a b : Int) (i j : Nat) : D := (([.v (.int .i64 a), .v (.int .i64 b)] : List D)[i * 1 + j]?).getD .junk
def ctOr : Ct := { ι := Int × Int, inp := fun x => [.sl 1 2 (orF x.1 x.2)], out := fun x => .v (.int .i64 (if x.1 = 0 then x.2 else x.1)), pre := fun _ => True }
theorem or_ok : Sound Tryz.prog (GlT mx) 60 ctOr := by
  refine sound_by (cc := false) Γ0_ok Tryz.T_ok Tryz.mixed Tryz.func60 rfl (by kernel_rfl) (fun _ => rfl) (fun _ _ => by show 1 ≤ 18; decide) ?_
  intro ((a : Int), (b : Int)) _
  repeat first | refine wk1 ?_ | refine wk2 ?_ | refine wk3 ?_
  refine ⟨4, ?_⟩
  repeat first | refine wk1 ?_ | refine wk2 ?_ | refine wk3 ?_
  refine And.intro (fun _ => ?_) (fun h => Bool.noConfusion (show true = false from h))
  repeat first | refine wk1 ?_ | refine wk2 ?_ | refine wk3 ?_
  refine And.intro ⟨by decide, by decide⟩ ?_
  repeat first | refine wk1 ?_ | refine wk2 ?_ | refine wk3 ?_
  refine And.intro (fun h => ?_) (fun h => ?_)
  · have h : (a != 0) = true := h
    repeat first | refine wk1 ?_ | refine wk2 ?_ | refine wk3 ?_
    exact EntR.int (by simp at h; simp [h])
  have h : (a != 0) = false := h
  have h : a = 0 := by simpa using h
  repeat first | refine wk1 ?_ | refine wk2 ?_ | refine wk3 ?_
  refine And.intro ⟨by decide, by decide⟩ ?_
  repeat first | refine wk1 ?_ | refine wk2 ?_ | refine wk3 ?_
  refine And.intro (fun _ => ?_) (fun h => Bool.noConfusion (show true = false from h))
  repeat first | refine wk1 ?_ | refine wk2 ?_ | refine wk3 ?_
  refine And.intro ⟨by decide, by decide⟩ ?_
  repeat first | refine wk1 ?_ | refine wk2 ?_ | refine wk3 ?_
  refine And.intro (fun h1 => ?_) (fun h1 => ?_)
  · have h1 : (b != 0) = true := h1
    repeat first | refine wk1 ?_ | refine wk2 ?_ | refine wk3 ?_
    exact EntR.int (by simp [h])
  have h1 : (b != 0) = false := h1
  have h1 : b = 0 := by simpa using h1
  repeat first | refine wk1 ?_ | refine wk2 ?_ | refine wk3 ?_
  refine And.intro ⟨by decide, by decide⟩ ?_
  repeat first | refine wk1 ?_ | refine wk2 ?_ | refine wk3 ?_
  refine And.intro (fun h => Bool.noConfusion (show false = true from h)) (fun _ => ?_)
  repeat first | refine wk1 ?_ | refine wk2 ?_ | refine wk3 ?_
  exact EntR.int (by simp [h, h1])

def cmpM (x y : Mp) : Int := if cmpI x.frm y.frm = 0 then cmpS x.tag y.tag else cmpI x.frm y.frm
def ctCompare : Ct := { ι := Mp × Mp, inp := fun x => [mpA x.1, mpA x.2], out := fun x => .v (.int .i64 (cmpM x.1 x.2)), pre := fun _ => True }
def Γm : Ctx := fun f => match f with
  | 61 => some (.pure ctCmpI)
  | 62 => some (.pure ctCmpS)
  | 60 => some (.pure ctOr)
  | 57 => some (.pure ctValid)
  | 74 => some (.pure ctValid)
  | _ => none
theorem Γm_ok : CtxOk Tryz.prog (GlT mx) Γm := by
  intro f h hh
  simp only [Γm] at hh
  split at hh <;> simp at hh <;> subst hh
  · exact cmpI_ok
  · exact cmpS_ok
  · exact or_ok
  · exact valid_ok
  · exact rvalid_ok
theorem compare_ok : Sound Tryz.prog (GlT mx) 36 ctCompare := by
  refine sound_by (cc := false) Γm_ok Tryz.T_ok Tryz.mixed Tryz.func36 rfl (by kernel_rfl) (fun _ => rfl) (fun _ _ => by show 2 ≤ 17; decide) ?_
  intro ((x : Mp), (y : Mp)) _
  repeat first | refine wk1 ?_ | refine wk2 ?_ | refine wk3 ?_
  refine And.intro (by kernel_rfl) ?_
  repeat first | refine wk1 ?_ | refine wk2 ?_ | refine wk3 ?_
  refine ⟨(x.frm, y.frm), EntL.refl _, fun _ => trivial, ?_⟩
  repeat first | refine wk1 ?_ | refine wk2 ?_ | refine wk3 ?_
  refine ⟨(x.tag, y.tag), EntL.refl _, fun _ => trivial, ?_⟩
  repeat first | refine wk1 ?_ | refine wk2 ?_ | refine wk3 ?_
  refine ⟨(cmpI x.frm y.frm, cmpS x.tag y.tag), EntL.refl _, fun _ => trivial, ?_⟩
  repeat first | refine wk1 ?_ | refine wk2 ?_ | refine wk3 ?_
  exact EntR.int rfl

def keyD (m : Mp) : D := .ag [.v (.int .i64 m.frm), .v (.string m.tag)]
def ctKeyOf : Ct := { ι := Mp, inp := fun x => [mpA x], out := fun x => keyD x, pre := fun _ => True }
theorem keyOf_ok : Sound Tryz.prog (GlT mx) 37 ctKeyOf := by
  refine sound_by (cc := false) Γ0_ok Tryz.T_ok Tryz.mixed Tryz.func37 rfl (by kernel_rfl) (fun _ => rfl) (fun _ _ => by show 1 ≤ 8; decide) ?_
  intro (x : Mp) _
  repeat first | refine wk1 ?_ | refine wk2 ?_ | refine wk3 ?_
  exact EntR.of rfl (Ent.refl _)

def lessB (a b : Mp) : Bool := bif decide (a.frm < b.frm) then true else (bif a.frm == b.frm then lessS a.tag b.tag else false)
def ctBefore : Ct := { ι := Mp × Mp, inp := fun x => [mpA x.1, mpA x.2], out := fun x => .v (.bool (lessB x.1 x.2)), pre := fun _ => True }
theorem rbefore_ok : Sound Tryz.prog (GlT mx) 39 ctBefore := by
  refine sound_by (cc := true) Γ0_ok Tryz.T_ok Tryz.mixed Tryz.func39 rfl (by kernel_rfl) (fun _ => rfl) (fun _ _ => by show 2 ≤ 24; decide) ?_
  intro ((x : Mp), (y : Mp)) _
  repeat first | refine wk1 ?_ | refine wk2 ?_ | refine wk3 ?_ | refine wt1 ?_ | refine wt2 ?_ | refine wt3 ?_ | refine wt4 ?_
  generalize hp : decide (x.frm < y.frm) = p
  cases p with
  | true =>
    repeat first | refine wk1 ?_ | refine wk2 ?_ | refine wk3 ?_ | refine wt1 ?_ | refine wt2 ?_ | refine wt3 ?_ | refine wt4 ?_
    exact EntR.bool (by simp only [lessB, hp]; rfl)
  | false =>
    repeat first | refine wk1 ?_ | refine wk2 ?_ | refine wk3 ?_ | refine wt1 ?_ | refine wt2 ?_ | refine wt3 ?_ | refine wt4 ?_
    generalize hq : (x.frm == y.frm) = q
    cases q with
    | true =>
      repeat first | refine wk1 ?_ | refine wk2 ?_ | refine wk3 ?_ | refine wt1 ?_ | refine wt2 ?_ | refine wt3 ?_ | refine wt4 ?_
      exact EntR.bool (by simp only [lessB, hp, hq]; rfl)
    | false =>
      repeat first | refine wk1 ?_ | refine wk2 ?_ | refine wk3 ?_ | refine wt1 ?_ | refine wt2 ?_ | refine wt3 ?_ | refine wt4 ?_
      exact EntR.bool (by simp only [lessB, hp, hq]; rfl)

/-! names -/
def nameC (b : Int) : Bool := (decide (b ≥ 65) && decide (b ≤ 90)) || (decide (b ≥ 97) && decide (b ≤ 122)) || (decide (b ≥ 48) && decide (b ≤ 57)) || (b == 95)
def isNameB (s : ByteArray) : Bool := decide (1 ≤ s.size) && decide (s.size ≤ 32) && (List.range s.size).all fun i => nameC (bAt s i)
def ctName : Ct := { ι := ByteArray, inp := fun s => [.v (.string s)], out := fun s => .v (.bool (isNameB s)), pre := fun s => s.size ≤ 9223372036854775807 }
theorem name_no {s : ByteArray} {k : Nat} (hk : k < s.size) (h : nameC (bAt s k) = false) : isNameB s = false := by
  have : ((List.range s.size).all fun i => nameC (bAt s i)) = false := by
    rw [List.all_eq_false]
    exact ⟨k, by simpa using hk, by simp [h]⟩
  simp [isNameB, this]
theorem name_yes {s : ByteArray} (h : ∀ j, j < s.size → nameC (bAt s j) = true) : isNameB s = (decide (1 ≤ s.size) && decide (s.size ≤ 32)) := by
  have : ((List.range s.size).all fun i => nameC (bAt s i)) = true := by
    rw [List.all_eq_true]
    intro i hi
    exact h i (by simpa using hi)
  simp [isNameB, this]
theorem next_of {p : Nat → Prop} {k : Nat} (h : ∀ j, j < k → p j) (hk : p k) : ∀ j, j < k + 1 → p j := by
  intro j hj
  by_cases hjk : j = k
  · subst hjk; exact hk
  · exact h j (by omega)
theorem empty_iff {s : ByteArray} : eqB s ⟨#[]⟩ = true ↔ s.size = 0 := by
  rw [eqB_iff]
  constructor
  · rintro rfl; rfl
  · intro h
    cases s with
    | mk a => simp [ByteArray.size] at h; subst h; rfl

set_option maxHeartbeats 1000000 in
theorem isName_ok : Sound Tryz.prog (GlT mx) 59 ctName := by
  refine sound_by (cc := true) Γ0_ok Tryz.T_ok Tryz.mixed Tryz.func59 rfl (by kernel_rfl) (fun _ => rfl) (fun _ _ => by show 1 ≤ 51; decide) ?_
  intro (s : ByteArray) (hs : s.size ≤ 9223372036854775807)
  repeat first | refine wk1 ?_ | refine wk2 ?_ | refine wk3 ?_ | refine wt1 ?_ | refine wt2 ?_ | refine wt3 ?_ | refine wt4 ?_
  generalize hp : @decide (s = ⟨#[]⟩) (baDec s ⟨#[]⟩) = p
  have hp : eqB s ⟨#[]⟩ = p := hp
  cases p with
  | true =>
    repeat first | refine wk1 ?_ | refine wk2 ?_ | refine wk3 ?_ | refine wt1 ?_ | refine wt2 ?_ | refine wt3 ?_ | refine wt4 ?_
    refine EntR.bool ?_
    have := empty_iff.1 hp
    simp [isNameB, this]
  | false =>
  repeat first | refine wk1 ?_ | refine wk2 ?_ | refine wk3 ?_ | refine wt1 ?_ | refine wt2 ?_ | refine wt3 ?_ | refine wt4 ?_
  refine And.intro (fun h => ?_) (fun h => ?_)
  · have h : decide ((s.size : Int) > 32) = true := h
    repeat first | refine wk1 ?_ | refine wk2 ?_ | refine wk3 ?_ | refine wt1 ?_ | refine wt2 ?_ | refine wt3 ?_ | refine wt4 ?_
    refine EntR.bool ?_
    have h : ¬ s.size ≤ 32 := by simp at h; omega
    simp [isNameB, h]
  have h : decide ((s.size : Int) > 32) = false := h
  have h12 : 1 ≤ s.size ∧ s.size ≤ 32 := by
    have h0 : ¬ s.size = 0 := fun e => by rw [empty_iff.2 e] at hp; simp at hp
    simp at h
    omega
  repeat first | refine wk1 ?_ | refine wk2 ?_ | refine wk3 ?_
  refine ⟨0, Nat, fun k => ⟨[(0, .v (.string s)), (14, .v (.int .i64 s.size)), (15, .v (.int .i64 k))], [], []⟩, fun k => k ≤ s.size ∧ ∀ j, j < k → nameC (bAt s j) = true, fun k => s.size - k, fun _ => Nat.zero_le _, ⟨0, ⟨Nat.zero_le _, fun j hj => by omega⟩, StLe.of (by repeat' (first | exact trivial | exact Ent.refl _ | exact rfl | refine And.intro ?_ ?_)) trivial⟩, ?_⟩
  rintro k ⟨hk, hd⟩
  repeat first | refine wk1 ?_ | refine wk2 ?_ | refine wk3 ?_
  refine And.intro (fun h => ?_) (fun h => ?_)
  · have h : k < s.size := by simpa using h
    repeat first | refine wk1 ?_ | refine wk2 ?_ | refine wk3 ?_
    refine And.intro (by omega) ?_
    repeat first | refine wk1 ?_ | refine wk2 ?_ | refine wk3 ?_
    repeat first | refine wk1 ?_ | refine wk2 ?_ | refine wk3 ?_ | refine wt1 ?_ | refine wt2 ?_ | refine wt3 ?_ | refine wt4 ?_
    generalize hp1 : decide (bAt s ((k : Int)).toNat ≥ 65) = p1
    cases p1 with
    | false =>
      repeat first | refine wk1 ?_ | refine wk2 ?_ | refine wk3 ?_ | refine wt1 ?_ | refine wt2 ?_ | refine wt3 ?_ | refine wt4 ?_
      generalize hp3 : decide (bAt s ((k : Int)).toNat ≥ 97) = p3
      cases p3 with
      | false =>
        repeat first | refine wk1 ?_ | refine wk2 ?_ | refine wk3 ?_ | refine wt1 ?_ | refine wt2 ?_ | refine wt3 ?_ | refine wt4 ?_
        generalize hp5 : decide (bAt s ((k : Int)).toNat ≥ 48) = p5
        cases p5 with
        | false =>
          repeat first | refine wk1 ?_ | refine wk2 ?_ | refine wk3 ?_ | refine wt1 ?_ | refine wt2 ?_ | refine wt3 ?_ | refine wt4 ?_
          generalize hp7 : (bAt s ((k : Int)).toNat != 95) = p7
          cases p7 with
          | false =>
            have hq7 : (bAt s ((k : Int)).toNat == 95) = true := by simpa [bne] using hp7
            have hy : nameC (bAt s ((k : Int)).toNat) = true := by
              simp only [nameC, hp1, hp3, hp5, hq7]
              simp
            rw [Int.toNat_natCast] at hy
            repeat first | refine wk1 ?_ | refine wk2 ?_ | refine wk3 ?_ | refine wt1 ?_ | refine wt2 ?_ | refine wt3 ?_ | refine wt4 ?_
            refine And.intro (show fitsI64 ((k : Int) + 1) from ⟨by omega, by omega⟩) ?_
            repeat first | refine wk1 ?_ | refine wk2 ?_ | refine wk3 ?_ | refine wt1 ?_ | refine wt2 ?_ | refine wt3 ?_ | refine wt4 ?_
            exact ⟨k + 1, ⟨by omega, next_of hd hy⟩, (show s.size - (k + 1) < s.size - k by omega), StLe.of (by repeat' (first | exact trivial | exact Ent.refl _ | exact rfl | refine And.intro ?_ ?_)) trivial⟩
          | true =>
            have hq7 : (bAt s ((k : Int)).toNat == 95) = false := by simpa [bne] using hp7
            have hy : nameC (bAt s ((k : Int)).toNat) = false := by
              simp only [nameC, hp1, hp3, hp5, hq7]
              simp
            rw [Int.toNat_natCast] at hy
            repeat first | refine wk1 ?_ | refine wk2 ?_ | refine wk3 ?_ | refine wt1 ?_ | refine wt2 ?_ | refine wt3 ?_ | refine wt4 ?_
            exact EntR.bool (name_no h hy).symm
        | true =>
          repeat first | refine wk1 ?_ | refine wk2 ?_ | refine wk3 ?_ | refine wt1 ?_ | refine wt2 ?_ | refine wt3 ?_ | refine wt4 ?_
          generalize hp6 : decide (bAt s ((k : Int)).toNat ≤ 57) = p6
          cases p6 with
          | false =>
            repeat first | refine wk1 ?_ | refine wk2 ?_ | refine wk3 ?_ | refine wt1 ?_ | refine wt2 ?_ | refine wt3 ?_ | refine wt4 ?_
            generalize hp7 : (bAt s ((k : Int)).toNat != 95) = p7
            cases p7 with
            | false =>
              have hq7 : (bAt s ((k : Int)).toNat == 95) = true := by simpa [bne] using hp7
              have hy : nameC (bAt s ((k : Int)).toNat) = true := by
                simp only [nameC, hp1, hp3, hp5, hp6, hq7]
                simp
              rw [Int.toNat_natCast] at hy
              repeat first | refine wk1 ?_ | refine wk2 ?_ | refine wk3 ?_ | refine wt1 ?_ | refine wt2 ?_ | refine wt3 ?_ | refine wt4 ?_
              refine And.intro (show fitsI64 ((k : Int) + 1) from ⟨by omega, by omega⟩) ?_
              repeat first | refine wk1 ?_ | refine wk2 ?_ | refine wk3 ?_ | refine wt1 ?_ | refine wt2 ?_ | refine wt3 ?_ | refine wt4 ?_
              exact ⟨k + 1, ⟨by omega, next_of hd hy⟩, (show s.size - (k + 1) < s.size - k by omega), StLe.of (by repeat' (first | exact trivial | exact Ent.refl _ | exact rfl | refine And.intro ?_ ?_)) trivial⟩
            | true =>
              have hq7 : (bAt s ((k : Int)).toNat == 95) = false := by simpa [bne] using hp7
              have hy : nameC (bAt s ((k : Int)).toNat) = false := by
                simp only [nameC, hp1, hp3, hp5, hp6, hq7]
                simp
              rw [Int.toNat_natCast] at hy
              repeat first | refine wk1 ?_ | refine wk2 ?_ | refine wk3 ?_ | refine wt1 ?_ | refine wt2 ?_ | refine wt3 ?_ | refine wt4 ?_
              exact EntR.bool (name_no h hy).symm
          | true =>
            have hy : nameC (bAt s ((k : Int)).toNat) = true := by
              simp only [nameC, hp1, hp3, hp5, hp6]
              simp
            rw [Int.toNat_natCast] at hy
            repeat first | refine wk1 ?_ | refine wk2 ?_ | refine wk3 ?_ | refine wt1 ?_ | refine wt2 ?_ | refine wt3 ?_ | refine wt4 ?_
            refine And.intro (show fitsI64 ((k : Int) + 1) from ⟨by omega, by omega⟩) ?_
            repeat first | refine wk1 ?_ | refine wk2 ?_ | refine wk3 ?_ | refine wt1 ?_ | refine wt2 ?_ | refine wt3 ?_ | refine wt4 ?_
            exact ⟨k + 1, ⟨by omega, next_of hd hy⟩, (show s.size - (k + 1) < s.size - k by omega), StLe.of (by repeat' (first | exact trivial | exact Ent.refl _ | exact rfl | refine And.intro ?_ ?_)) trivial⟩
      | true =>
        repeat first | refine wk1 ?_ | refine wk2 ?_ | refine wk3 ?_ | refine wt1 ?_ | refine wt2 ?_ | refine wt3 ?_ | refine wt4 ?_
        generalize hp4 : decide (bAt s ((k : Int)).toNat ≤ 122) = p4
        cases p4 with
        | false =>
          repeat first | refine wk1 ?_ | refine wk2 ?_ | refine wk3 ?_ | refine wt1 ?_ | refine wt2 ?_ | refine wt3 ?_ | refine wt4 ?_
          generalize hp5 : decide (bAt s ((k : Int)).toNat ≥ 48) = p5
          cases p5 with
          | false =>
            repeat first | refine wk1 ?_ | refine wk2 ?_ | refine wk3 ?_ | refine wt1 ?_ | refine wt2 ?_ | refine wt3 ?_ | refine wt4 ?_
            generalize hp7 : (bAt s ((k : Int)).toNat != 95) = p7
            cases p7 with
            | false =>
              have hq7 : (bAt s ((k : Int)).toNat == 95) = true := by simpa [bne] using hp7
              have hy : nameC (bAt s ((k : Int)).toNat) = true := by
                simp only [nameC, hp1, hp3, hp4, hp5, hq7]
                simp
              rw [Int.toNat_natCast] at hy
              repeat first | refine wk1 ?_ | refine wk2 ?_ | refine wk3 ?_ | refine wt1 ?_ | refine wt2 ?_ | refine wt3 ?_ | refine wt4 ?_
              refine And.intro (show fitsI64 ((k : Int) + 1) from ⟨by omega, by omega⟩) ?_
              repeat first | refine wk1 ?_ | refine wk2 ?_ | refine wk3 ?_ | refine wt1 ?_ | refine wt2 ?_ | refine wt3 ?_ | refine wt4 ?_
              exact ⟨k + 1, ⟨by omega, next_of hd hy⟩, (show s.size - (k + 1) < s.size - k by omega), StLe.of (by repeat' (first | exact trivial | exact Ent.refl _ | exact rfl | refine And.intro ?_ ?_)) trivial⟩
            | true =>
              have hq7 : (bAt s ((k : Int)).toNat == 95) = false := by simpa [bne] using hp7
              have hy : nameC (bAt s ((k : Int)).toNat) = false := by
                simp only [nameC, hp1, hp3, hp4, hp5, hq7]
                simp
              rw [Int.toNat_natCast] at hy
              repeat first | refine wk1 ?_ | refine wk2 ?_ | refine wk3 ?_ | refine wt1 ?_ | refine wt2 ?_ | refine wt3 ?_ | refine wt4 ?_
              exact EntR.bool (name_no h hy).symm
          | true =>
            repeat first | refine wk1 ?_ | refine wk2 ?_ | refine wk3 ?_ | refine wt1 ?_ | refine wt2 ?_ | refine wt3 ?_ | refine wt4 ?_
            generalize hp6 : decide (bAt s ((k : Int)).toNat ≤ 57) = p6
            cases p6 with
            | false =>
              repeat first | refine wk1 ?_ | refine wk2 ?_ | refine wk3 ?_ | refine wt1 ?_ | refine wt2 ?_ | refine wt3 ?_ | refine wt4 ?_
              generalize hp7 : (bAt s ((k : Int)).toNat != 95) = p7
              cases p7 with
              | false =>
                have hq7 : (bAt s ((k : Int)).toNat == 95) = true := by simpa [bne] using hp7
                have hy : nameC (bAt s ((k : Int)).toNat) = true := by
                  simp only [nameC, hp1, hp3, hp4, hp5, hp6, hq7]
                  simp
                rw [Int.toNat_natCast] at hy
                repeat first | refine wk1 ?_ | refine wk2 ?_ | refine wk3 ?_ | refine wt1 ?_ | refine wt2 ?_ | refine wt3 ?_ | refine wt4 ?_
                refine And.intro (show fitsI64 ((k : Int) + 1) from ⟨by omega, by omega⟩) ?_
                repeat first | refine wk1 ?_ | refine wk2 ?_ | refine wk3 ?_ | refine wt1 ?_ | refine wt2 ?_ | refine wt3 ?_ | refine wt4 ?_
                exact ⟨k + 1, ⟨by omega, next_of hd hy⟩, (show s.size - (k + 1) < s.size - k by omega), StLe.of (by repeat' (first | exact trivial | exact Ent.refl _ | exact rfl | refine And.intro ?_ ?_)) trivial⟩
              | true =>
                have hq7 : (bAt s ((k : Int)).toNat == 95) = false := by simpa [bne] using hp7
                have hy : nameC (bAt s ((k : Int)).toNat) = false := by
                  simp only [nameC, hp1, hp3, hp4, hp5, hp6, hq7]
                  simp
                rw [Int.toNat_natCast] at hy
                repeat first | refine wk1 ?_ | refine wk2 ?_ | refine wk3 ?_ | refine wt1 ?_ | refine wt2 ?_ | refine wt3 ?_ | refine wt4 ?_
                exact EntR.bool (name_no h hy).symm
            | true =>
              have hy : nameC (bAt s ((k : Int)).toNat) = true := by
                simp only [nameC, hp1, hp3, hp4, hp5, hp6]
                simp
              rw [Int.toNat_natCast] at hy
              repeat first | refine wk1 ?_ | refine wk2 ?_ | refine wk3 ?_ | refine wt1 ?_ | refine wt2 ?_ | refine wt3 ?_ | refine wt4 ?_
              refine And.intro (show fitsI64 ((k : Int) + 1) from ⟨by omega, by omega⟩) ?_
              repeat first | refine wk1 ?_ | refine wk2 ?_ | refine wk3 ?_ | refine wt1 ?_ | refine wt2 ?_ | refine wt3 ?_ | refine wt4 ?_
              exact ⟨k + 1, ⟨by omega, next_of hd hy⟩, (show s.size - (k + 1) < s.size - k by omega), StLe.of (by repeat' (first | exact trivial | exact Ent.refl _ | exact rfl | refine And.intro ?_ ?_)) trivial⟩
        | true =>
          have hy : nameC (bAt s ((k : Int)).toNat) = true := by
            simp only [nameC, hp1, hp3, hp4]
            simp
          rw [Int.toNat_natCast] at hy
          repeat first | refine wk1 ?_ | refine wk2 ?_ | refine wk3 ?_ | refine wt1 ?_ | refine wt2 ?_ | refine wt3 ?_ | refine wt4 ?_
          refine And.intro (show fitsI64 ((k : Int) + 1) from ⟨by omega, by omega⟩) ?_
          repeat first | refine wk1 ?_ | refine wk2 ?_ | refine wk3 ?_ | refine wt1 ?_ | refine wt2 ?_ | refine wt3 ?_ | refine wt4 ?_
          exact ⟨k + 1, ⟨by omega, next_of hd hy⟩, (show s.size - (k + 1) < s.size - k by omega), StLe.of (by repeat' (first | exact trivial | exact Ent.refl _ | exact rfl | refine And.intro ?_ ?_)) trivial⟩
    | true =>
      repeat first | refine wk1 ?_ | refine wk2 ?_ | refine wk3 ?_ | refine wt1 ?_ | refine wt2 ?_ | refine wt3 ?_ | refine wt4 ?_
      generalize hp2 : decide (bAt s ((k : Int)).toNat ≤ 90) = p2
      cases p2 with
      | false =>
        repeat first | refine wk1 ?_ | refine wk2 ?_ | refine wk3 ?_ | refine wt1 ?_ | refine wt2 ?_ | refine wt3 ?_ | refine wt4 ?_
        generalize hp3 : decide (bAt s ((k : Int)).toNat ≥ 97) = p3
        cases p3 with
        | false =>
          repeat first | refine wk1 ?_ | refine wk2 ?_ | refine wk3 ?_ | refine wt1 ?_ | refine wt2 ?_ | refine wt3 ?_ | refine wt4 ?_
          generalize hp5 : decide (bAt s ((k : Int)).toNat ≥ 48) = p5
          cases p5 with
          | false =>
            repeat first | refine wk1 ?_ | refine wk2 ?_ | refine wk3 ?_ | refine wt1 ?_ | refine wt2 ?_ | refine wt3 ?_ | refine wt4 ?_
            generalize hp7 : (bAt s ((k : Int)).toNat != 95) = p7
            cases p7 with
            | false =>
              have hq7 : (bAt s ((k : Int)).toNat == 95) = true := by simpa [bne] using hp7
              have hy : nameC (bAt s ((k : Int)).toNat) = true := by
                simp only [nameC, hp1, hp2, hp3, hp5, hq7]
                simp
              rw [Int.toNat_natCast] at hy
              repeat first | refine wk1 ?_ | refine wk2 ?_ | refine wk3 ?_ | refine wt1 ?_ | refine wt2 ?_ | refine wt3 ?_ | refine wt4 ?_
              refine And.intro (show fitsI64 ((k : Int) + 1) from ⟨by omega, by omega⟩) ?_
              repeat first | refine wk1 ?_ | refine wk2 ?_ | refine wk3 ?_ | refine wt1 ?_ | refine wt2 ?_ | refine wt3 ?_ | refine wt4 ?_
              exact ⟨k + 1, ⟨by omega, next_of hd hy⟩, (show s.size - (k + 1) < s.size - k by omega), StLe.of (by repeat' (first | exact trivial | exact Ent.refl _ | exact rfl | refine And.intro ?_ ?_)) trivial⟩
            | true =>
              have hq7 : (bAt s ((k : Int)).toNat == 95) = false := by simpa [bne] using hp7
              have hy : nameC (bAt s ((k : Int)).toNat) = false := by
                simp only [nameC, hp1, hp2, hp3, hp5, hq7]
                simp
              rw [Int.toNat_natCast] at hy
              repeat first | refine wk1 ?_ | refine wk2 ?_ | refine wk3 ?_ | refine wt1 ?_ | refine wt2 ?_ | refine wt3 ?_ | refine wt4 ?_
              exact EntR.bool (name_no h hy).symm
          | true =>
            repeat first | refine wk1 ?_ | refine wk2 ?_ | refine wk3 ?_ | refine wt1 ?_ | refine wt2 ?_ | refine wt3 ?_ | refine wt4 ?_
            generalize hp6 : decide (bAt s ((k : Int)).toNat ≤ 57) = p6
            cases p6 with
            | false =>
              repeat first | refine wk1 ?_ | refine wk2 ?_ | refine wk3 ?_ | refine wt1 ?_ | refine wt2 ?_ | refine wt3 ?_ | refine wt4 ?_
              generalize hp7 : (bAt s ((k : Int)).toNat != 95) = p7
              cases p7 with
              | false =>
                have hq7 : (bAt s ((k : Int)).toNat == 95) = true := by simpa [bne] using hp7
                have hy : nameC (bAt s ((k : Int)).toNat) = true := by
                  simp only [nameC, hp1, hp2, hp3, hp5, hp6, hq7]
                  simp
                rw [Int.toNat_natCast] at hy
                repeat first | refine wk1 ?_ | refine wk2 ?_ | refine wk3 ?_ | refine wt1 ?_ | refine wt2 ?_ | refine wt3 ?_ | refine wt4 ?_
                refine And.intro (show fitsI64 ((k : Int) + 1) from ⟨by omega, by omega⟩) ?_
                repeat first | refine wk1 ?_ | refine wk2 ?_ | refine wk3 ?_ | refine wt1 ?_ | refine wt2 ?_ | refine wt3 ?_ | refine wt4 ?_
                exact ⟨k + 1, ⟨by omega, next_of hd hy⟩, (show s.size - (k + 1) < s.size - k by omega), StLe.of (by repeat' (first | exact trivial | exact Ent.refl _ | exact rfl | refine And.intro ?_ ?_)) trivial⟩
              | true =>
                have hq7 : (bAt s ((k : Int)).toNat == 95) = false := by simpa [bne] using hp7
                have hy : nameC (bAt s ((k : Int)).toNat) = false := by
                  simp only [nameC, hp1, hp2, hp3, hp5, hp6, hq7]
                  simp
                rw [Int.toNat_natCast] at hy
                repeat first | refine wk1 ?_ | refine wk2 ?_ | refine wk3 ?_ | refine wt1 ?_ | refine wt2 ?_ | refine wt3 ?_ | refine wt4 ?_
                exact EntR.bool (name_no h hy).symm
            | true =>
              have hy : nameC (bAt s ((k : Int)).toNat) = true := by
                simp only [nameC, hp1, hp2, hp3, hp5, hp6]
                simp
              rw [Int.toNat_natCast] at hy
              repeat first | refine wk1 ?_ | refine wk2 ?_ | refine wk3 ?_ | refine wt1 ?_ | refine wt2 ?_ | refine wt3 ?_ | refine wt4 ?_
              refine And.intro (show fitsI64 ((k : Int) + 1) from ⟨by omega, by omega⟩) ?_
              repeat first | refine wk1 ?_ | refine wk2 ?_ | refine wk3 ?_ | refine wt1 ?_ | refine wt2 ?_ | refine wt3 ?_ | refine wt4 ?_
              exact ⟨k + 1, ⟨by omega, next_of hd hy⟩, (show s.size - (k + 1) < s.size - k by omega), StLe.of (by repeat' (first | exact trivial | exact Ent.refl _ | exact rfl | refine And.intro ?_ ?_)) trivial⟩
        | true =>
          repeat first | refine wk1 ?_ | refine wk2 ?_ | refine wk3 ?_ | refine wt1 ?_ | refine wt2 ?_ | refine wt3 ?_ | refine wt4 ?_
          generalize hp4 : decide (bAt s ((k : Int)).toNat ≤ 122) = p4
          cases p4 with
          | false =>
            repeat first | refine wk1 ?_ | refine wk2 ?_ | refine wk3 ?_ | refine wt1 ?_ | refine wt2 ?_ | refine wt3 ?_ | refine wt4 ?_
            generalize hp5 : decide (bAt s ((k : Int)).toNat ≥ 48) = p5
            cases p5 with
            | false =>
              repeat first | refine wk1 ?_ | refine wk2 ?_ | refine wk3 ?_ | refine wt1 ?_ | refine wt2 ?_ | refine wt3 ?_ | refine wt4 ?_
              generalize hp7 : (bAt s ((k : Int)).toNat != 95) = p7
              cases p7 with
              | false =>
                have hq7 : (bAt s ((k : Int)).toNat == 95) = true := by simpa [bne] using hp7
                have hy : nameC (bAt s ((k : Int)).toNat) = true := by
                  simp only [nameC, hp1, hp2, hp3, hp4, hp5, hq7]
                  simp
                rw [Int.toNat_natCast] at hy
                repeat first | refine wk1 ?_ | refine wk2 ?_ | refine wk3 ?_ | refine wt1 ?_ | refine wt2 ?_ | refine wt3 ?_ | refine wt4 ?_
                refine And.intro (show fitsI64 ((k : Int) + 1) from ⟨by omega, by omega⟩) ?_
                repeat first | refine wk1 ?_ | refine wk2 ?_ | refine wk3 ?_ | refine wt1 ?_ | refine wt2 ?_ | refine wt3 ?_ | refine wt4 ?_
                exact ⟨k + 1, ⟨by omega, next_of hd hy⟩, (show s.size - (k + 1) < s.size - k by omega), StLe.of (by repeat' (first | exact trivial | exact Ent.refl _ | exact rfl | refine And.intro ?_ ?_)) trivial⟩
              | true =>
                have hq7 : (bAt s ((k : Int)).toNat == 95) = false := by simpa [bne] using hp7
                have hy : nameC (bAt s ((k : Int)).toNat) = false := by
                  simp only [nameC, hp1, hp2, hp3, hp4, hp5, hq7]
                  simp
                rw [Int.toNat_natCast] at hy
                repeat first | refine wk1 ?_ | refine wk2 ?_ | refine wk3 ?_ | refine wt1 ?_ | refine wt2 ?_ | refine wt3 ?_ | refine wt4 ?_
                exact EntR.bool (name_no h hy).symm
            | true =>
              repeat first | refine wk1 ?_ | refine wk2 ?_ | refine wk3 ?_ | refine wt1 ?_ | refine wt2 ?_ | refine wt3 ?_ | refine wt4 ?_
              generalize hp6 : decide (bAt s ((k : Int)).toNat ≤ 57) = p6
              cases p6 with
              | false =>
                repeat first | refine wk1 ?_ | refine wk2 ?_ | refine wk3 ?_ | refine wt1 ?_ | refine wt2 ?_ | refine wt3 ?_ | refine wt4 ?_
                generalize hp7 : (bAt s ((k : Int)).toNat != 95) = p7
                cases p7 with
                | false =>
                  have hq7 : (bAt s ((k : Int)).toNat == 95) = true := by simpa [bne] using hp7
                  have hy : nameC (bAt s ((k : Int)).toNat) = true := by
                    simp only [nameC, hp1, hp2, hp3, hp4, hp5, hp6, hq7]
                    simp
                  rw [Int.toNat_natCast] at hy
                  repeat first | refine wk1 ?_ | refine wk2 ?_ | refine wk3 ?_ | refine wt1 ?_ | refine wt2 ?_ | refine wt3 ?_ | refine wt4 ?_
                  refine And.intro (show fitsI64 ((k : Int) + 1) from ⟨by omega, by omega⟩) ?_
                  repeat first | refine wk1 ?_ | refine wk2 ?_ | refine wk3 ?_ | refine wt1 ?_ | refine wt2 ?_ | refine wt3 ?_ | refine wt4 ?_
                  exact ⟨k + 1, ⟨by omega, next_of hd hy⟩, (show s.size - (k + 1) < s.size - k by omega), StLe.of (by repeat' (first | exact trivial | exact Ent.refl _ | exact rfl | refine And.intro ?_ ?_)) trivial⟩
                | true =>
                  have hq7 : (bAt s ((k : Int)).toNat == 95) = false := by simpa [bne] using hp7
                  have hy : nameC (bAt s ((k : Int)).toNat) = false := by
                    simp only [nameC, hp1, hp2, hp3, hp4, hp5, hp6, hq7]
                    simp
                  rw [Int.toNat_natCast] at hy
                  repeat first | refine wk1 ?_ | refine wk2 ?_ | refine wk3 ?_ | refine wt1 ?_ | refine wt2 ?_ | refine wt3 ?_ | refine wt4 ?_
                  exact EntR.bool (name_no h hy).symm
              | true =>
                have hy : nameC (bAt s ((k : Int)).toNat) = true := by
                  simp only [nameC, hp1, hp2, hp3, hp4, hp5, hp6]
                  simp
                rw [Int.toNat_natCast] at hy
                repeat first | refine wk1 ?_ | refine wk2 ?_ | refine wk3 ?_ | refine wt1 ?_ | refine wt2 ?_ | refine wt3 ?_ | refine wt4 ?_
                refine And.intro (show fitsI64 ((k : Int) + 1) from ⟨by omega, by omega⟩) ?_
                repeat first | refine wk1 ?_ | refine wk2 ?_ | refine wk3 ?_ | refine wt1 ?_ | refine wt2 ?_ | refine wt3 ?_ | refine wt4 ?_
                exact ⟨k + 1, ⟨by omega, next_of hd hy⟩, (show s.size - (k + 1) < s.size - k by omega), StLe.of (by repeat' (first | exact trivial | exact Ent.refl _ | exact rfl | refine And.intro ?_ ?_)) trivial⟩
          | true =>
            have hy : nameC (bAt s ((k : Int)).toNat) = true := by
              simp only [nameC, hp1, hp2, hp3, hp4]
              simp
            rw [Int.toNat_natCast] at hy
            repeat first | refine wk1 ?_ | refine wk2 ?_ | refine wk3 ?_ | refine wt1 ?_ | refine wt2 ?_ | refine wt3 ?_ | refine wt4 ?_
            refine And.intro (show fitsI64 ((k : Int) + 1) from ⟨by omega, by omega⟩) ?_
            repeat first | refine wk1 ?_ | refine wk2 ?_ | refine wk3 ?_ | refine wt1 ?_ | refine wt2 ?_ | refine wt3 ?_ | refine wt4 ?_
            exact ⟨k + 1, ⟨by omega, next_of hd hy⟩, (show s.size - (k + 1) < s.size - k by omega), StLe.of (by repeat' (first | exact trivial | exact Ent.refl _ | exact rfl | refine And.intro ?_ ?_)) trivial⟩
      | true =>
        have hy : nameC (bAt s ((k : Int)).toNat) = true := by
          simp only [nameC, hp1, hp2]
          simp
        rw [Int.toNat_natCast] at hy
        repeat first | refine wk1 ?_ | refine wk2 ?_ | refine wk3 ?_ | refine wt1 ?_ | refine wt2 ?_ | refine wt3 ?_ | refine wt4 ?_
        refine And.intro (show fitsI64 ((k : Int) + 1) from ⟨by omega, by omega⟩) ?_
        repeat first | refine wk1 ?_ | refine wk2 ?_ | refine wk3 ?_ | refine wt1 ?_ | refine wt2 ?_ | refine wt3 ?_ | refine wt4 ?_
        exact ⟨k + 1, ⟨by omega, next_of hd hy⟩, (show s.size - (k + 1) < s.size - k by omega), StLe.of (by repeat' (first | exact trivial | exact Ent.refl _ | exact rfl | refine And.intro ?_ ?_)) trivial⟩
  · have h : k = s.size := by simp at h; omega
    subst h
    repeat first | refine wk1 ?_ | refine wk2 ?_ | refine wk3 ?_
    refine EntR.bool ?_
    rw [name_yes hd]
    simp [h12]

set_option maxHeartbeats 1000000 in
theorem rname_ok : Sound Tryz.prog (GlT mx) 64 ctName := by
  refine sound_by (cc := true) Γ0_ok Tryz.T_ok Tryz.mixed Tryz.func64 rfl (by kernel_rfl) (fun _ => rfl) (fun _ _ => by show 1 ≤ 49; decide) ?_
  intro (s : ByteArray) (hs : s.size ≤ 9223372036854775807)
  repeat first | refine wk1 ?_ | refine wk2 ?_ | refine wk3 ?_
  refine ⟨0, Nat, fun k => ⟨[(0, .v (.string s)), (3, .v (.int .i64 k))], [], []⟩, fun k => k ≤ s.size ∧ ∀ j, j < k → nameC (bAt s j) = true, fun k => s.size - k, fun _ => Nat.zero_le _, ⟨0, ⟨Nat.zero_le _, fun j hj => by omega⟩, StLe.of (by repeat' (first | exact trivial | exact Ent.refl _ | exact rfl | refine And.intro ?_ ?_)) trivial⟩, ?_⟩
  rintro k ⟨hk, hd⟩
  repeat first | refine wk1 ?_ | refine wk2 ?_ | refine wk3 ?_
  refine And.intro (fun h => ?_) (fun h => ?_)
  · have h : k < s.size := by simpa using h
    repeat first | refine wk1 ?_ | refine wk2 ?_ | refine wk3 ?_
    refine And.intro (by omega) ?_
    repeat first | refine wk1 ?_ | refine wk2 ?_ | refine wk3 ?_
    repeat first | refine wk1 ?_ | refine wk2 ?_ | refine wk3 ?_ | refine wt1 ?_ | refine wt2 ?_ | refine wt3 ?_ | refine wt4 ?_
    generalize hp1 : decide (bAt s ((k : Int)).toNat ≥ 65) = p1
    cases p1 with
    | false =>
      repeat first | refine wk1 ?_ | refine wk2 ?_ | refine wk3 ?_ | refine wt1 ?_ | refine wt2 ?_ | refine wt3 ?_ | refine wt4 ?_
      generalize hp3 : decide (bAt s ((k : Int)).toNat ≥ 97) = p3
      cases p3 with
      | false =>
        repeat first | refine wk1 ?_ | refine wk2 ?_ | refine wk3 ?_ | refine wt1 ?_ | refine wt2 ?_ | refine wt3 ?_ | refine wt4 ?_
        generalize hp5 : decide (bAt s ((k : Int)).toNat ≥ 48) = p5
        cases p5 with
        | false =>
          repeat first | refine wk1 ?_ | refine wk2 ?_ | refine wk3 ?_ | refine wt1 ?_ | refine wt2 ?_ | refine wt3 ?_ | refine wt4 ?_
          generalize hp7 : (bAt s ((k : Int)).toNat == 95) = p7
          cases p7 with
          | false =>
            have hy : nameC (bAt s ((k : Int)).toNat) = false := by
              simp only [nameC, hp1, hp3, hp5, hp7]
              simp
            rw [Int.toNat_natCast] at hy
            repeat first | refine wk1 ?_ | refine wk2 ?_ | refine wk3 ?_ | refine wt1 ?_ | refine wt2 ?_ | refine wt3 ?_ | refine wt4 ?_
            exact EntR.bool (name_no h hy).symm
          | true =>
            have hy : nameC (bAt s ((k : Int)).toNat) = true := by
              simp only [nameC, hp1, hp3, hp5, hp7]
              simp
            rw [Int.toNat_natCast] at hy
            repeat first | refine wk1 ?_ | refine wk2 ?_ | refine wk3 ?_ | refine wt1 ?_ | refine wt2 ?_ | refine wt3 ?_ | refine wt4 ?_
            refine And.intro (show fitsI64 ((k : Int) + 1) from ⟨by omega, by omega⟩) ?_
            repeat first | refine wk1 ?_ | refine wk2 ?_ | refine wk3 ?_ | refine wt1 ?_ | refine wt2 ?_ | refine wt3 ?_ | refine wt4 ?_
            exact ⟨k + 1, ⟨by omega, next_of hd hy⟩, (show s.size - (k + 1) < s.size - k by omega), StLe.of (by repeat' (first | exact trivial | exact Ent.refl _ | exact rfl | refine And.intro ?_ ?_)) trivial⟩
        | true =>
          repeat first | refine wk1 ?_ | refine wk2 ?_ | refine wk3 ?_ | refine wt1 ?_ | refine wt2 ?_ | refine wt3 ?_ | refine wt4 ?_
          generalize hp6 : decide (bAt s ((k : Int)).toNat ≤ 57) = p6
          cases p6 with
          | false =>
            repeat first | refine wk1 ?_ | refine wk2 ?_ | refine wk3 ?_ | refine wt1 ?_ | refine wt2 ?_ | refine wt3 ?_ | refine wt4 ?_
            generalize hp7 : (bAt s ((k : Int)).toNat == 95) = p7
            cases p7 with
            | false =>
              have hy : nameC (bAt s ((k : Int)).toNat) = false := by
                simp only [nameC, hp1, hp3, hp5, hp6, hp7]
                simp
              rw [Int.toNat_natCast] at hy
              repeat first | refine wk1 ?_ | refine wk2 ?_ | refine wk3 ?_ | refine wt1 ?_ | refine wt2 ?_ | refine wt3 ?_ | refine wt4 ?_
              exact EntR.bool (name_no h hy).symm
            | true =>
              have hy : nameC (bAt s ((k : Int)).toNat) = true := by
                simp only [nameC, hp1, hp3, hp5, hp6, hp7]
                simp
              rw [Int.toNat_natCast] at hy
              repeat first | refine wk1 ?_ | refine wk2 ?_ | refine wk3 ?_ | refine wt1 ?_ | refine wt2 ?_ | refine wt3 ?_ | refine wt4 ?_
              refine And.intro (show fitsI64 ((k : Int) + 1) from ⟨by omega, by omega⟩) ?_
              repeat first | refine wk1 ?_ | refine wk2 ?_ | refine wk3 ?_ | refine wt1 ?_ | refine wt2 ?_ | refine wt3 ?_ | refine wt4 ?_
              exact ⟨k + 1, ⟨by omega, next_of hd hy⟩, (show s.size - (k + 1) < s.size - k by omega), StLe.of (by repeat' (first | exact trivial | exact Ent.refl _ | exact rfl | refine And.intro ?_ ?_)) trivial⟩
          | true =>
            have hy : nameC (bAt s ((k : Int)).toNat) = true := by
              simp only [nameC, hp1, hp3, hp5, hp6]
              simp
            rw [Int.toNat_natCast] at hy
            repeat first | refine wk1 ?_ | refine wk2 ?_ | refine wk3 ?_ | refine wt1 ?_ | refine wt2 ?_ | refine wt3 ?_ | refine wt4 ?_
            refine And.intro (show fitsI64 ((k : Int) + 1) from ⟨by omega, by omega⟩) ?_
            repeat first | refine wk1 ?_ | refine wk2 ?_ | refine wk3 ?_ | refine wt1 ?_ | refine wt2 ?_ | refine wt3 ?_ | refine wt4 ?_
            exact ⟨k + 1, ⟨by omega, next_of hd hy⟩, (show s.size - (k + 1) < s.size - k by omega), StLe.of (by repeat' (first | exact trivial | exact Ent.refl _ | exact rfl | refine And.intro ?_ ?_)) trivial⟩
      | true =>
        repeat first | refine wk1 ?_ | refine wk2 ?_ | refine wk3 ?_ | refine wt1 ?_ | refine wt2 ?_ | refine wt3 ?_ | refine wt4 ?_
        generalize hp4 : decide (bAt s ((k : Int)).toNat ≤ 122) = p4
        cases p4 with
        | false =>
          repeat first | refine wk1 ?_ | refine wk2 ?_ | refine wk3 ?_ | refine wt1 ?_ | refine wt2 ?_ | refine wt3 ?_ | refine wt4 ?_
          generalize hp5 : decide (bAt s ((k : Int)).toNat ≥ 48) = p5
          cases p5 with
          | false =>
            repeat first | refine wk1 ?_ | refine wk2 ?_ | refine wk3 ?_ | refine wt1 ?_ | refine wt2 ?_ | refine wt3 ?_ | refine wt4 ?_
            generalize hp7 : (bAt s ((k : Int)).toNat == 95) = p7
            cases p7 with
            | false =>
              have hy : nameC (bAt s ((k : Int)).toNat) = false := by
                simp only [nameC, hp1, hp3, hp4, hp5, hp7]
                simp
              rw [Int.toNat_natCast] at hy
              repeat first | refine wk1 ?_ | refine wk2 ?_ | refine wk3 ?_ | refine wt1 ?_ | refine wt2 ?_ | refine wt3 ?_ | refine wt4 ?_
              exact EntR.bool (name_no h hy).symm
            | true =>
              have hy : nameC (bAt s ((k : Int)).toNat) = true := by
                simp only [nameC, hp1, hp3, hp4, hp5, hp7]
                simp
              rw [Int.toNat_natCast] at hy
              repeat first | refine wk1 ?_ | refine wk2 ?_ | refine wk3 ?_ | refine wt1 ?_ | refine wt2 ?_ | refine wt3 ?_ | refine wt4 ?_
              refine And.intro (show fitsI64 ((k : Int) + 1) from ⟨by omega, by omega⟩) ?_
              repeat first | refine wk1 ?_ | refine wk2 ?_ | refine wk3 ?_ | refine wt1 ?_ | refine wt2 ?_ | refine wt3 ?_ | refine wt4 ?_
              exact ⟨k + 1, ⟨by omega, next_of hd hy⟩, (show s.size - (k + 1) < s.size - k by omega), StLe.of (by repeat' (first | exact trivial | exact Ent.refl _ | exact rfl | refine And.intro ?_ ?_)) trivial⟩
          | true =>
            repeat first | refine wk1 ?_ | refine wk2 ?_ | refine wk3 ?_ | refine wt1 ?_ | refine wt2 ?_ | refine wt3 ?_ | refine wt4 ?_
            generalize hp6 : decide (bAt s ((k : Int)).toNat ≤ 57) = p6
            cases p6 with
            | false =>
              repeat first | refine wk1 ?_ | refine wk2 ?_ | refine wk3 ?_ | refine wt1 ?_ | refine wt2 ?_ | refine wt3 ?_ | refine wt4 ?_
              generalize hp7 : (bAt s ((k : Int)).toNat == 95) = p7
              cases p7 with
              | false =>
                have hy : nameC (bAt s ((k : Int)).toNat) = false := by
                  simp only [nameC, hp1, hp3, hp4, hp5, hp6, hp7]
                  simp
                rw [Int.toNat_natCast] at hy
                repeat first | refine wk1 ?_ | refine wk2 ?_ | refine wk3 ?_ | refine wt1 ?_ | refine wt2 ?_ | refine wt3 ?_ | refine wt4 ?_
                exact EntR.bool (name_no h hy).symm
              | true =>
                have hy : nameC (bAt s ((k : Int)).toNat) = true := by
                  simp only [nameC, hp1, hp3, hp4, hp5, hp6, hp7]
                  simp
                rw [Int.toNat_natCast] at hy
                repeat first | refine wk1 ?_ | refine wk2 ?_ | refine wk3 ?_ | refine wt1 ?_ | refine wt2 ?_ | refine wt3 ?_ | refine wt4 ?_
                refine And.intro (show fitsI64 ((k : Int) + 1) from ⟨by omega, by omega⟩) ?_
                repeat first | refine wk1 ?_ | refine wk2 ?_ | refine wk3 ?_ | refine wt1 ?_ | refine wt2 ?_ | refine wt3 ?_ | refine wt4 ?_
                exact ⟨k + 1, ⟨by omega, next_of hd hy⟩, (show s.size - (k + 1) < s.size - k by omega), StLe.of (by repeat' (first | exact trivial | exact Ent.refl _ | exact rfl | refine And.intro ?_ ?_)) trivial⟩
            | true =>
              have hy : nameC (bAt s ((k : Int)).toNat) = true := by
                simp only [nameC, hp1, hp3, hp4, hp5, hp6]
                simp
              rw [Int.toNat_natCast] at hy
              repeat first | refine wk1 ?_ | refine wk2 ?_ | refine wk3 ?_ | refine wt1 ?_ | refine wt2 ?_ | refine wt3 ?_ | refine wt4 ?_
              refine And.intro (show fitsI64 ((k : Int) + 1) from ⟨by omega, by omega⟩) ?_
              repeat first | refine wk1 ?_ | refine wk2 ?_ | refine wk3 ?_ | refine wt1 ?_ | refine wt2 ?_ | refine wt3 ?_ | refine wt4 ?_
              exact ⟨k + 1, ⟨by omega, next_of hd hy⟩, (show s.size - (k + 1) < s.size - k by omega), StLe.of (by repeat' (first | exact trivial | exact Ent.refl _ | exact rfl | refine And.intro ?_ ?_)) trivial⟩
        | true =>
          have hy : nameC (bAt s ((k : Int)).toNat) = true := by
            simp only [nameC, hp1, hp3, hp4]
            simp
          rw [Int.toNat_natCast] at hy
          repeat first | refine wk1 ?_ | refine wk2 ?_ | refine wk3 ?_ | refine wt1 ?_ | refine wt2 ?_ | refine wt3 ?_ | refine wt4 ?_
          refine And.intro (show fitsI64 ((k : Int) + 1) from ⟨by omega, by omega⟩) ?_
          repeat first | refine wk1 ?_ | refine wk2 ?_ | refine wk3 ?_ | refine wt1 ?_ | refine wt2 ?_ | refine wt3 ?_ | refine wt4 ?_
          exact ⟨k + 1, ⟨by omega, next_of hd hy⟩, (show s.size - (k + 1) < s.size - k by omega), StLe.of (by repeat' (first | exact trivial | exact Ent.refl _ | exact rfl | refine And.intro ?_ ?_)) trivial⟩
    | true =>
      repeat first | refine wk1 ?_ | refine wk2 ?_ | refine wk3 ?_ | refine wt1 ?_ | refine wt2 ?_ | refine wt3 ?_ | refine wt4 ?_
      generalize hp2 : decide (bAt s ((k : Int)).toNat ≤ 90) = p2
      cases p2 with
      | false =>
        repeat first | refine wk1 ?_ | refine wk2 ?_ | refine wk3 ?_ | refine wt1 ?_ | refine wt2 ?_ | refine wt3 ?_ | refine wt4 ?_
        generalize hp3 : decide (bAt s ((k : Int)).toNat ≥ 97) = p3
        cases p3 with
        | false =>
          repeat first | refine wk1 ?_ | refine wk2 ?_ | refine wk3 ?_ | refine wt1 ?_ | refine wt2 ?_ | refine wt3 ?_ | refine wt4 ?_
          generalize hp5 : decide (bAt s ((k : Int)).toNat ≥ 48) = p5
          cases p5 with
          | false =>
            repeat first | refine wk1 ?_ | refine wk2 ?_ | refine wk3 ?_ | refine wt1 ?_ | refine wt2 ?_ | refine wt3 ?_ | refine wt4 ?_
            generalize hp7 : (bAt s ((k : Int)).toNat == 95) = p7
            cases p7 with
            | false =>
              have hy : nameC (bAt s ((k : Int)).toNat) = false := by
                simp only [nameC, hp1, hp2, hp3, hp5, hp7]
                simp
              rw [Int.toNat_natCast] at hy
              repeat first | refine wk1 ?_ | refine wk2 ?_ | refine wk3 ?_ | refine wt1 ?_ | refine wt2 ?_ | refine wt3 ?_ | refine wt4 ?_
              exact EntR.bool (name_no h hy).symm
            | true =>
              have hy : nameC (bAt s ((k : Int)).toNat) = true := by
                simp only [nameC, hp1, hp2, hp3, hp5, hp7]
                simp
              rw [Int.toNat_natCast] at hy
              repeat first | refine wk1 ?_ | refine wk2 ?_ | refine wk3 ?_ | refine wt1 ?_ | refine wt2 ?_ | refine wt3 ?_ | refine wt4 ?_
              refine And.intro (show fitsI64 ((k : Int) + 1) from ⟨by omega, by omega⟩) ?_
              repeat first | refine wk1 ?_ | refine wk2 ?_ | refine wk3 ?_ | refine wt1 ?_ | refine wt2 ?_ | refine wt3 ?_ | refine wt4 ?_
              exact ⟨k + 1, ⟨by omega, next_of hd hy⟩, (show s.size - (k + 1) < s.size - k by omega), StLe.of (by repeat' (first | exact trivial | exact Ent.refl _ | exact rfl | refine And.intro ?_ ?_)) trivial⟩
          | true =>
            repeat first | refine wk1 ?_ | refine wk2 ?_ | refine wk3 ?_ | refine wt1 ?_ | refine wt2 ?_ | refine wt3 ?_ | refine wt4 ?_
            generalize hp6 : decide (bAt s ((k : Int)).toNat ≤ 57) = p6
            cases p6 with
            | false =>
              repeat first | refine wk1 ?_ | refine wk2 ?_ | refine wk3 ?_ | refine wt1 ?_ | refine wt2 ?_ | refine wt3 ?_ | refine wt4 ?_
              generalize hp7 : (bAt s ((k : Int)).toNat == 95) = p7
              cases p7 with
              | false =>
                have hy : nameC (bAt s ((k : Int)).toNat) = false := by
                  simp only [nameC, hp1, hp2, hp3, hp5, hp6, hp7]
                  simp
                rw [Int.toNat_natCast] at hy
                repeat first | refine wk1 ?_ | refine wk2 ?_ | refine wk3 ?_ | refine wt1 ?_ | refine wt2 ?_ | refine wt3 ?_ | refine wt4 ?_
                exact EntR.bool (name_no h hy).symm
              | true =>
                have hy : nameC (bAt s ((k : Int)).toNat) = true := by
                  simp only [nameC, hp1, hp2, hp3, hp5, hp6, hp7]
                  simp
                rw [Int.toNat_natCast] at hy
                repeat first | refine wk1 ?_ | refine wk2 ?_ | refine wk3 ?_ | refine wt1 ?_ | refine wt2 ?_ | refine wt3 ?_ | refine wt4 ?_
                refine And.intro (show fitsI64 ((k : Int) + 1) from ⟨by omega, by omega⟩) ?_
                repeat first | refine wk1 ?_ | refine wk2 ?_ | refine wk3 ?_ | refine wt1 ?_ | refine wt2 ?_ | refine wt3 ?_ | refine wt4 ?_
                exact ⟨k + 1, ⟨by omega, next_of hd hy⟩, (show s.size - (k + 1) < s.size - k by omega), StLe.of (by repeat' (first | exact trivial | exact Ent.refl _ | exact rfl | refine And.intro ?_ ?_)) trivial⟩
            | true =>
              have hy : nameC (bAt s ((k : Int)).toNat) = true := by
                simp only [nameC, hp1, hp2, hp3, hp5, hp6]
                simp
              rw [Int.toNat_natCast] at hy
              repeat first | refine wk1 ?_ | refine wk2 ?_ | refine wk3 ?_ | refine wt1 ?_ | refine wt2 ?_ | refine wt3 ?_ | refine wt4 ?_
              refine And.intro (show fitsI64 ((k : Int) + 1) from ⟨by omega, by omega⟩) ?_
              repeat first | refine wk1 ?_ | refine wk2 ?_ | refine wk3 ?_ | refine wt1 ?_ | refine wt2 ?_ | refine wt3 ?_ | refine wt4 ?_
              exact ⟨k + 1, ⟨by omega, next_of hd hy⟩, (show s.size - (k + 1) < s.size - k by omega), StLe.of (by repeat' (first | exact trivial | exact Ent.refl _ | exact rfl | refine And.intro ?_ ?_)) trivial⟩
        | true =>
          repeat first | refine wk1 ?_ | refine wk2 ?_ | refine wk3 ?_ | refine wt1 ?_ | refine wt2 ?_ | refine wt3 ?_ | refine wt4 ?_
          generalize hp4 : decide (bAt s ((k : Int)).toNat ≤ 122) = p4
          cases p4 with
          | false =>
            repeat first | refine wk1 ?_ | refine wk2 ?_ | refine wk3 ?_ | refine wt1 ?_ | refine wt2 ?_ | refine wt3 ?_ | refine wt4 ?_
            generalize hp5 : decide (bAt s ((k : Int)).toNat ≥ 48) = p5
            cases p5 with
            | false =>
              repeat first | refine wk1 ?_ | refine wk2 ?_ | refine wk3 ?_ | refine wt1 ?_ | refine wt2 ?_ | refine wt3 ?_ | refine wt4 ?_
              generalize hp7 : (bAt s ((k : Int)).toNat == 95) = p7
              cases p7 with
              | false =>
                have hy : nameC (bAt s ((k : Int)).toNat) = false := by
                  simp only [nameC, hp1, hp2, hp3, hp4, hp5, hp7]
                  simp
                rw [Int.toNat_natCast] at hy
                repeat first | refine wk1 ?_ | refine wk2 ?_ | refine wk3 ?_ | refine wt1 ?_ | refine wt2 ?_ | refine wt3 ?_ | refine wt4 ?_
                exact EntR.bool (name_no h hy).symm
              | true =>
                have hy : nameC (bAt s ((k : Int)).toNat) = true := by
                  simp only [nameC, hp1, hp2, hp3, hp4, hp5, hp7]
                  simp
                rw [Int.toNat_natCast] at hy
                repeat first | refine wk1 ?_ | refine wk2 ?_ | refine wk3 ?_ | refine wt1 ?_ | refine wt2 ?_ | refine wt3 ?_ | refine wt4 ?_
                refine And.intro (show fitsI64 ((k : Int) + 1) from ⟨by omega, by omega⟩) ?_
                repeat first | refine wk1 ?_ | refine wk2 ?_ | refine wk3 ?_ | refine wt1 ?_ | refine wt2 ?_ | refine wt3 ?_ | refine wt4 ?_
                exact ⟨k + 1, ⟨by omega, next_of hd hy⟩, (show s.size - (k + 1) < s.size - k by omega), StLe.of (by repeat' (first | exact trivial | exact Ent.refl _ | exact rfl | refine And.intro ?_ ?_)) trivial⟩
            | true =>
              repeat first | refine wk1 ?_ | refine wk2 ?_ | refine wk3 ?_ | refine wt1 ?_ | refine wt2 ?_ | refine wt3 ?_ | refine wt4 ?_
              generalize hp6 : decide (bAt s ((k : Int)).toNat ≤ 57) = p6
              cases p6 with
              | false =>
                repeat first | refine wk1 ?_ | refine wk2 ?_ | refine wk3 ?_ | refine wt1 ?_ | refine wt2 ?_ | refine wt3 ?_ | refine wt4 ?_
                generalize hp7 : (bAt s ((k : Int)).toNat == 95) = p7
                cases p7 with
                | false =>
                  have hy : nameC (bAt s ((k : Int)).toNat) = false := by
                    simp only [nameC, hp1, hp2, hp3, hp4, hp5, hp6, hp7]
                    simp
                  rw [Int.toNat_natCast] at hy
                  repeat first | refine wk1 ?_ | refine wk2 ?_ | refine wk3 ?_ | refine wt1 ?_ | refine wt2 ?_ | refine wt3 ?_ | refine wt4 ?_
                  exact EntR.bool (name_no h hy).symm
                | true =>
                  have hy : nameC (bAt s ((k : Int)).toNat) = true := by
                    simp only [nameC, hp1, hp2, hp3, hp4, hp5, hp6, hp7]
                    simp
                  rw [Int.toNat_natCast] at hy
                  repeat first | refine wk1 ?_ | refine wk2 ?_ | refine wk3 ?_ | refine wt1 ?_ | refine wt2 ?_ | refine wt3 ?_ | refine wt4 ?_
                  refine And.intro (show fitsI64 ((k : Int) + 1) from ⟨by omega, by omega⟩) ?_
                  repeat first | refine wk1 ?_ | refine wk2 ?_ | refine wk3 ?_ | refine wt1 ?_ | refine wt2 ?_ | refine wt3 ?_ | refine wt4 ?_
                  exact ⟨k + 1, ⟨by omega, next_of hd hy⟩, (show s.size - (k + 1) < s.size - k by omega), StLe.of (by repeat' (first | exact trivial | exact Ent.refl _ | exact rfl | refine And.intro ?_ ?_)) trivial⟩
              | true =>
                have hy : nameC (bAt s ((k : Int)).toNat) = true := by
                  simp only [nameC, hp1, hp2, hp3, hp4, hp5, hp6]
                  simp
                rw [Int.toNat_natCast] at hy
                repeat first | refine wk1 ?_ | refine wk2 ?_ | refine wk3 ?_ | refine wt1 ?_ | refine wt2 ?_ | refine wt3 ?_ | refine wt4 ?_
                refine And.intro (show fitsI64 ((k : Int) + 1) from ⟨by omega, by omega⟩) ?_
                repeat first | refine wk1 ?_ | refine wk2 ?_ | refine wk3 ?_ | refine wt1 ?_ | refine wt2 ?_ | refine wt3 ?_ | refine wt4 ?_
                exact ⟨k + 1, ⟨by omega, next_of hd hy⟩, (show s.size - (k + 1) < s.size - k by omega), StLe.of (by repeat' (first | exact trivial | exact Ent.refl _ | exact rfl | refine And.intro ?_ ?_)) trivial⟩
          | true =>
            have hy : nameC (bAt s ((k : Int)).toNat) = true := by
              simp only [nameC, hp1, hp2, hp3, hp4]
              simp
            rw [Int.toNat_natCast] at hy
            repeat first | refine wk1 ?_ | refine wk2 ?_ | refine wk3 ?_ | refine wt1 ?_ | refine wt2 ?_ | refine wt3 ?_ | refine wt4 ?_
            refine And.intro (show fitsI64 ((k : Int) + 1) from ⟨by omega, by omega⟩) ?_
            repeat first | refine wk1 ?_ | refine wk2 ?_ | refine wk3 ?_ | refine wt1 ?_ | refine wt2 ?_ | refine wt3 ?_ | refine wt4 ?_
            exact ⟨k + 1, ⟨by omega, next_of hd hy⟩, (show s.size - (k + 1) < s.size - k by omega), StLe.of (by repeat' (first | exact trivial | exact Ent.refl _ | exact rfl | refine And.intro ?_ ?_)) trivial⟩
      | true =>
        have hy : nameC (bAt s ((k : Int)).toNat) = true := by
          simp only [nameC, hp1, hp2]
          simp
        rw [Int.toNat_natCast] at hy
        repeat first | refine wk1 ?_ | refine wk2 ?_ | refine wk3 ?_ | refine wt1 ?_ | refine wt2 ?_ | refine wt3 ?_ | refine wt4 ?_
        refine And.intro (show fitsI64 ((k : Int) + 1) from ⟨by omega, by omega⟩) ?_
        repeat first | refine wk1 ?_ | refine wk2 ?_ | refine wk3 ?_ | refine wt1 ?_ | refine wt2 ?_ | refine wt3 ?_ | refine wt4 ?_
        exact ⟨k + 1, ⟨by omega, next_of hd hy⟩, (show s.size - (k + 1) < s.size - k by omega), StLe.of (by repeat' (first | exact trivial | exact Ent.refl _ | exact rfl | refine And.intro ?_ ?_)) trivial⟩
  · have h : k = s.size := by simp at h; omega
    subst h
    repeat first | refine wk1 ?_ | refine wk2 ?_ | refine wk3 ?_ | refine wt1 ?_ | refine wt2 ?_ | refine wt3 ?_ | refine wt4 ?_
    generalize hp : decide ((s.size : Int) ≥ 1) = p
    cases p with
    | true =>
      repeat first | refine wk1 ?_ | refine wk2 ?_ | refine wk3 ?_ | refine wt1 ?_ | refine wt2 ?_ | refine wt3 ?_ | refine wt4 ?_
      refine EntR.bool ?_
      rw [name_yes hd]
      have h1 : 1 ≤ s.size := by simp at hp; omega
      simp only [h1, decide_true, Bool.true_and]
      rw [decide_eq_decide]
      omega
    | false =>
      repeat first | refine wk1 ?_ | refine wk2 ?_ | refine wk3 ?_ | refine wt1 ?_ | refine wt2 ?_ | refine wt3 ?_ | refine wt4 ?_
      refine EntR.bool ?_
      rw [name_yes hd]
      have h1 : ¬ 1 ≤ s.size := by simp at hp; omega
      simp [h1]
end Go.Proofs
