import Derived.Test.YtnegdnbodccgkaaGreatDoorQ1
set_option linter.unusedVariables false
set_option linter.unusedSimpArgs false
namespace Go.Proofs
open Go Go.Sx
variable {mx : Int} {pb : Bool}

/-! the names of a property -/
def nmOk (l : List ByteArray) (i : Nat) : Bool := isNameB (l.getD i default) && (List.range i).all fun j => !eqB (l.getD j default) (l.getD i default)
def namesB (l : List ByteArray) : Bool := decide (1 ≤ l.length) && decide (l.length ≤ 250) && (List.range l.length).all (nmOk l)
theorem names_len {l : List ByteArray} (h : l.length < 1 ∨ 250 < l.length) : namesB l = false := by
  unfold namesB
  rcases h with h | h
  · rw [decide_eq_false (show ¬ 1 ≤ l.length by omega)]; rfl
  · rw [decide_eq_false (show ¬ l.length ≤ 250 by omega), Bool.and_false]; rfl
theorem names_no {l : List ByteArray} {i : Nat} (hi : i < l.length) (h : nmOk l i = false) : namesB l = false := by
  have : (List.range l.length).all (nmOk l) = false := by
    rw [List.all_eq_false]
    exact ⟨i, by simpa using hi, by simp [h]⟩
  unfold namesB
  rw [this, Bool.and_false]
theorem names_yes {l : List ByteArray} (h1 : 1 ≤ l.length) (h2 : l.length ≤ 250) (h : ∀ i, i < l.length → nmOk l i = true) : namesB l = true := by
  have : (List.range l.length).all (nmOk l) = true := by
    rw [List.all_eq_true]
    intro i hi
    exact h i (by simpa using hi)
  unfold namesB
  rw [this, decide_eq_true h1, decide_eq_true h2]; rfl
theorem nmOk_1 {l : List ByteArray} {i : Nat} (h : isNameB (l.getD i default) = false) : nmOk l i = false := by rw [nmOk, h]; rfl
theorem nmOk_2 {l : List ByteArray} {i j : Nat} (hj : j < i) (h : l.getD j default = l.getD i default) : nmOk l i = false := by
  have : ((List.range i).all fun j => !eqB (l.getD j default) (l.getD i default)) = false := by
    rw [List.all_eq_false]
    exact ⟨j, by simpa using hj, by rw [eqB_iff.2 h]; decide⟩
  rw [nmOk, this, Bool.and_false]
theorem nmOk_t {l : List ByteArray} {i : Nat} (h : isNameB (l.getD i default) = true) (hn : ∀ j, j < i → ¬ l.getD j default = l.getD i default) : nmOk l i = true := by
  have : ((List.range i).all fun j => !eqB (l.getD j default) (l.getD i default)) = true := by
    rw [List.all_eq_true]
    intro j hj
    rw [show eqB (l.getD j default) (l.getD i default) = false from by rw [← Bool.not_eq_true, eqB_iff]; exact hn j (by simpa using hj)]
    rfl
  rw [nmOk, this, h]; rfl
def ctNames : Ct := { ι := List ByteArray, inp := fun l => [slD 1 strD l], out := fun l => .v (.bool (namesB l)), pre := fun _ => True }
def Γnms : Ctx := fun f => match f with
  | 145 => some (.pure ctNm)
  | _ => none
theorem Γnms_ok : CtxOk Tryz.prog (GlT mx pb) Γnms := by
  intro f h hh
  simp only [Γnms] at hh
  split at hh <;> simp at hh <;> subst hh
  · exact rNamed_ok
set_option maxHeartbeats 4000000 in
theorem rNames_ok : Sound Tryz.prog (GlT mx pb) 77 ctNames := by
  refine sound_by (cc := true) Γnms_ok Tryz.T_ok Tryz.mixed Tryz.func77 rfl (by kernel_rfl) (fun _ => rfl) (fun _ _ => by show 1 ≤ 39; decide) ?_
  intro (l : List ByteArray) _
  repeat' (first | refine gw ?_ | (refine br (fun q_ => ?_) (fun q_ => ?_) <;> try simp only [Int.toNat_natCast, Nat.mul_one, Nat.add_zero] at q_) | (refine brF (fun q_ => ?_) (fun q_ => ?_) <;> try simp only [Int.toNat_natCast, Nat.mul_one, Nat.add_zero] at q_))
  · exact EntR.bool (names_len (.inr (by omega))).symm
  · refine ⟨0, Nat, fun k => ⟨[(0, slD 1 strD l), (3, .v (.int .i64 k))], [], []⟩, fun k => k ≤ l.length ∧ ∀ j, j < k → nmOk l j = true, fun k => l.length - k, fun _ => Nat.zero_le _, ⟨0, ⟨Nat.zero_le _, fun j hj => by omega⟩, StLe.ren [] tmS trivial (by decide)⟩, ?_⟩
    rintro k ⟨hk, hd⟩
    by_cases hlt : k < l.length
    · repeat' (first | refine gw ?_ | (refine br (fun q_ => ?_) (fun q_ => ?_) <;> try simp only [Int.toNat_natCast, Nat.mul_one, Nat.add_zero] at q_) | (refine brF (fun q_ => ?_) (fun q_ => ?_) <;> try simp only [Int.toNat_natCast, Nat.mul_one, Nat.add_zero] at q_))
      · exact EntR.bool (names_no hlt (nmOk_1 q_)).symm
      · have hn := q_
        refine ⟨0, Nat, fun j => ⟨[(0, slD 1 strD l), (3, .v (.int .i64 k)), (4, .v (.int .i64 j))], [], []⟩, fun j => j ≤ k ∧ ∀ i, i < j → ¬ l.getD i default = l.getD k default, fun j => k - j, fun _ => Nat.zero_le _, ⟨0, ⟨Nat.zero_le _, fun j hj => by omega⟩, StLe.ren [] tmS trivial (by decide)⟩, ?_⟩
        rintro j ⟨hj, hdj⟩
        by_cases hjk : j < k
        · repeat' (first | refine gw ?_ | (refine br (fun q_ => ?_) (fun q_ => ?_) <;> try simp only [Int.toNat_natCast, Nat.mul_one, Nat.add_zero] at q_) | (refine brF (fun q_ => ?_) (fun q_ => ?_) <;> try simp only [Int.toNat_natCast, Nat.mul_one, Nat.add_zero] at q_))
          · exact EntR.bool (names_no hlt (nmOk_2 hjk q_)).symm
          · exact ⟨j + 1, ⟨by omega, next_of hdj q_⟩, (by show k - (j + 1) < k - j; omega), StLe.ren [] tmS trivial (by decide)⟩
        · repeat' (first | refine gw ?_ | (refine br (fun q_ => ?_) (fun q_ => ?_) <;> try simp only [Int.toNat_natCast, Nat.mul_one, Nat.add_zero] at q_) | (refine brF (fun q_ => ?_) (fun q_ => ?_) <;> try simp only [Int.toNat_natCast, Nat.mul_one, Nat.add_zero] at q_))
          exact ⟨k + 1, ⟨by omega, next_of hd (nmOk_t hn fun i hi => hdj i (by omega))⟩, (by show l.length - (k + 1) < l.length - k; omega), StLe.ren [] tmS trivial (by decide)⟩
    · repeat' (first | refine gw ?_ | (refine br (fun q_ => ?_) (fun q_ => ?_) <;> try simp only [Int.toNat_natCast, Nat.mul_one, Nat.add_zero] at q_) | (refine brF (fun q_ => ?_) (fun q_ => ?_) <;> try simp only [Int.toNat_natCast, Nat.mul_one, Nat.add_zero] at q_))
      exact EntR.bool (names_yes (by omega) (by omega) (fun i hi => hd i (by omega))).symm
  · exact EntR.bool (names_len (.inl (by omega))).symm

/-! spans, properties -/
structure Sp where
  lo : Int
  hi : Int
  val : Int
instance : Inhabited Sp := ⟨⟨0, 0, 0⟩⟩
def spD (s : Sp) : Nat → D
  | 0 => .v (.int .i64 s.lo)
  | 1 => .v (.int .i64 s.hi)
  | 2 => .v (.int .i64 s.val)
  | _ => .junk
def spnA (s : Sp) : D := .ag [spD s 0, spD s 1, spD s 2]
def spsD (l : List Sp) : D := slD 3 spD l
structure Pr where
  names : List ByteArray
  spans : List Sp
instance : Inhabited Pr := ⟨⟨[], []⟩⟩
def prA (p : Pr) : D := .ag [slD 1 strD p.names, spsD p.spans]
def spIn (n : Nat) (s : Sp) : Prop := 0 ≤ s.lo ∧ s.lo ≤ s.hi ∧ s.hi ≤ 1114111 ∧ 1 ≤ s.val ∧ s.val < n
def spAft (b s : Sp) : Prop := b.hi < s.lo ∧ ¬ (s.lo = b.hi + 1 ∧ s.val = b.val)
def spOk (p : Pr) (i : Nat) : Prop := spIn p.names.length (p.spans.getD i default) ∧ (0 < i → spAft (p.spans.getD (i - 1) default) (p.spans.getD i default))
def prOk (p : Pr) : Prop := namesB p.names = true ∧ ∀ i, i < p.spans.length → spOk p i
open Classical in
noncomputable def validP (p : Pr) : Bool := decide (prOk p)
theorem validP_t {p : Pr} (h : prOk p) : true = validP p := (@decide_eq_true _ (Classical.propDecidable _) h).symm
theorem validP_f {p : Pr} (h : ¬ prOk p) : false = validP p := (@decide_eq_false _ (Classical.propDecidable _) h).symm
noncomputable def ctPV : Ct := { ι := Pr, inp := fun p => [prA p], out := fun p => .v (.bool (validP p)), pre := fun p => p.spans.length ≤ 1000000000 }
noncomputable def Γpv : Ctx := fun f => match f with
  | 77 => some (.pure ctNames)
  | _ => none
theorem Γpv_ok : CtxOk Tryz.prog (GlT mx pb) Γpv := by
  intro f h hh
  simp only [Γpv] at hh
  split at hh <;> simp at hh <;> subst hh
  · exact rNames_ok
set_option maxHeartbeats 4000000 in
theorem rPValid_ok : Sound Tryz.prog (GlT mx pb) 88 ctPV := by
  refine sound_by (cc := true) Γpv_ok Tryz.T_ok Tryz.mixed Tryz.func88 rfl (by kernel_rfl) (fun _ => rfl) (fun _ _ => by show 1 ≤ 88; decide) ?_
  intro (p : Pr) (hp : p.spans.length ≤ 1000000000)
  repeat' (first | refine gw ?_ | (refine br (fun q_ => ?_) (fun q_ => ?_) <;> try simp only [Int.toNat_natCast, Nat.mul_one, Nat.add_zero] at q_) | (refine brF (fun q_ => ?_) (fun q_ => ?_) <;> try simp only [Int.toNat_natCast, Nat.mul_one, Nat.add_zero] at q_))
  · exact EntR.bool (validP_f fun h => by rw [h.1] at q_; exact Bool.noConfusion q_)
  have hn := q_
  refine ⟨0, Nat, fun k => ⟨[(1, .own 0 0), (3, .v (.int .i64 k))], [.cells 27 [slD 1 strD p.names, spsD p.spans]], []⟩, fun k => k ≤ p.spans.length ∧ ∀ i, i < k → spOk p i, fun k => p.spans.length - k, fun _ => Nat.zero_le _, ⟨0, ⟨Nat.zero_le _, fun j hj => by omega⟩, StLe.ren [0] tmS ⟨⟨rfl, EntL.refl _, rfl⟩, trivial⟩ (by decide)⟩, ?_⟩
  rintro k ⟨hk, hd⟩
  by_cases hlt : k < p.spans.length
  · have ek : ((k : Int) - 1).toNat = k - 1 := by omega
    have hb : 0 < k → (p.spans.getD (k - 1) default).hi ≤ 1114111 := fun h => (hd (k - 1) (by omega)).1.2.2.1
    have no : ¬ spOk p k → false = validP p := fun h => validP_f fun hh => h (hh.2 k hlt)
    rcases Nat.eq_zero_or_pos k with h0 | h0
    · repeat' (first | refine gw ?_ | (refine br (fun q_ => ?_) (fun q_ => ?_) <;> try simp only [Int.toNat_natCast, Nat.mul_one, Nat.add_zero] at q_) | (refine brF (fun q_ => ?_) (fun q_ => ?_) <;> try simp only [Int.toNat_natCast, Nat.mul_one, Nat.add_zero] at q_))
      all_goals first
        | exact EntR.bool (no fun h => by have h1 := h.1; unfold spIn at h1; omega)
        | exact ⟨k + 1, ⟨by omega, next_of hd ⟨⟨by omega, by omega, by omega, by omega, by omega⟩, fun h => by omega⟩⟩, (by show _ - (k + 1) < _ - k; omega), StLe.ren [0] tmS ⟨⟨rfl, EntL.refl _, rfl⟩, trivial⟩ (by decide)⟩
    · have hb := hb h0
      have hb0 := hd (k - 1) (by omega)
      have hb1 : 0 ≤ (p.spans.getD (k - 1) default).hi := by have h1 := hb0.1; unfold spIn at h1; omega
      have hb2 : (p.spans.getD ((k : Int) - 1).toNat default).hi ≤ 1114111 := by rw [ek]; exact hb
      have hb3 : 0 ≤ (p.spans.getD ((k : Int) - 1).toNat default).hi := by rw [ek]; exact hb1
      repeat' (first | refine gw ?_ | (refine br (fun q_ => ?_) (fun q_ => ?_) <;> try simp only [Int.toNat_natCast, Nat.mul_one, Nat.add_zero] at q_) | (refine brF (fun q_ => ?_) (fun q_ => ?_) <;> try simp only [Int.toNat_natCast, Nat.mul_one, Nat.add_zero] at q_))
      all_goals try rw [ek] at *
      all_goals first
        | exact EntR.bool (no fun h => by have h1 := h.1; have h2 := h.2 h0; unfold spIn at h1; unfold spAft at h2; omega)
        | exact ⟨k + 1, ⟨by omega, next_of hd ⟨⟨by omega, by omega, by omega, by omega, by omega⟩, fun _ => ⟨by omega, by omega⟩⟩⟩, (by show _ - (k + 1) < _ - k; omega), StLe.ren [0] tmS ⟨⟨rfl, EntL.refl _, rfl⟩, trivial⟩ (by decide)⟩
  · repeat' (first | refine gw ?_ | (refine br (fun q_ => ?_) (fun q_ => ?_) <;> try simp only [Int.toNat_natCast, Nat.mul_one, Nat.add_zero] at q_) | (refine brF (fun q_ => ?_) (fun q_ => ?_) <;> try simp only [Int.toNat_natCast, Nat.mul_one, Nat.add_zero] at q_))
    exact EntR.bool (validP_t ⟨hn, fun i hi => hd i (by omega)⟩)
end Go.Proofs
