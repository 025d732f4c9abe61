import Derived.Test.YtfalaomjfkaphaaGreatDoorBu
set_option linter.unusedVariables false
set_option linter.unusedSimpArgs false
namespace Go.Proofs
open Go Go.Sx
variable {mx : Int} {pb : Bool}

/-! lines -/
structure Ln where
  num : Int
  lo : Int
  hi : Int
  fields : List ByteArray
  com : ByteArray
instance : Inhabited Ln := ⟨⟨0, 0, 0, [], ⟨#[]⟩⟩⟩
def lnD (l : Ln) : Nat → D
  | 0 => .v (.int .i64 l.num)
  | 1 => .v (.int .i64 l.lo)
  | 2 => .v (.int .i64 l.hi)
  | 3 => slD 1 strD l.fields
  | 4 => .v (.string l.com)
  | _ => .junk
def lnA (l : Ln) : D := .ag [lnD l 0, lnD l 1, lnD l 2, lnD l 3, lnD l 4]
def lnsD (l : List Ln) : D := slD 5 lnD l
theorem eqB_false {s x : ByteArray} : eqB s x = false ↔ ¬ s = x := by
  rw [← eqB_iff]; simp
def okF (f : ByteArray) : Bool := !anyB f && eqB f (trimB f)
def okC (f : ByteArray) : Bool := !Lib.contains f.data.toList [10] && eqB f (trimB f)
def lnE (l : Ln) : Int := if validB l.lo = true ∧ validB l.hi = true ∧ l.lo ≤ l.hi then (if l.fields.all okF = true ∧ okC l.com = true then 0 else 3) else 1
def asciiB (s : ByteArray) : Bool := s.data.toList.all (fun b => decide (b.toNat < 128))
def lnFit (l : Ln) : Prop := l.fields.length ≤ 1000000 ∧ (∀ f ∈ l.fields, f.size ≤ 1000000000 ∧ asciiB f = true) ∧ l.com.size ≤ 1000000000
def ctLnCheck : Ct := { ι := Ln, inp := fun l => [lnA l], out := fun l => .v (.int .i64 (lnE l)), pre := lnFit }
theorem okF_t {f : ByteArray} (h1 : anyB f = false) (h2 : f = trimB f) : okF f = true := by rw [okF, h1, eqB_iff.2 h2]; rfl
theorem okF_1 {f : ByteArray} (h1 : anyB f = true) : okF f = false := by rw [okF, h1]; rfl
theorem okF_2 {f : ByteArray} (h2 : ¬ f = trimB f) : okF f = false := by rw [okF, show eqB f (trimB f) = false from eqB_false.2 h2, Bool.and_false]
theorem okC_t {f : ByteArray} (h1 : Lib.contains f.data.toList [10] = false) (h2 : f = trimB f) : okC f = true := by rw [okC, h1, eqB_iff.2 h2]; rfl
theorem okC_1 {f : ByteArray} (h1 : Lib.contains f.data.toList [10] = true) : okC f = false := by rw [okC, h1]; rfl
theorem okC_2 {f : ByteArray} (h2 : ¬ f = trimB f) : okC f = false := by rw [okC, show eqB f (trimB f) = false from eqB_false.2 h2, Bool.and_false]
def Γlc : Ctx := fun f => match f with
  | 52 => some (.pure ctValid)
  | 58 => some (.pure ctTrim)
  | 79 => some (.pure ctAny)
  | 80 => some (.pure ctContains)
  | _ => none
theorem Γlc_ok : CtxOk Tryz.prog (GlT mx pb) Γlc := by
  intro f h hh
  simp only [Γlc] at hh
  split at hh <;> simp at hh <;> subst hh
  · exact valid_ok
  · exact trim_ok
  · exact containsAny_ok
  · exact contains_ok
set_option maxHeartbeats 1000000 in
theorem lnCheck_ok : Sound Tryz.prog (GlT mx pb) 51 ctLnCheck := by
  refine sound_by (cc := true) Γlc_ok Tryz.T_ok Tryz.mixed Tryz.func51 rfl (by kernel_rfl) (fun _ => rfl) (fun _ _ => by show 1 ≤ 49; decide) ?_
  rintro (l : Ln) ⟨hf, hfs, hc⟩
  repeat' (first | refine gw ?_ | (refine br (fun q_ => ?_) (fun q_ => ?_) <;> try simp only [Int.toNat_natCast, Nat.mul_one, Nat.add_zero] at q_) | (refine brF (fun q_ => ?_) (fun q_ => ?_) <;> try simp only [Int.toNat_natCast, Nat.mul_one, Nat.add_zero] at q_))
  all_goals try (refine entR_eq ?_ rfl; simp_all [retD, ctLnCheck, lnE] <;> omega)
  rename_i h1 h2
  have h3 := q_
  have e1 : lnE l = if l.fields.all okF = true ∧ okC l.com = true then 0 else 3 := if_pos ⟨h1, h2, by omega⟩
  refine ⟨0, Nat, fun k => ⟨[(1, .own 0 0), (23, slD 1 strD l.fields), (24, .v (.int .i64 l.fields.length)), (25, .v (.int .i64 k))], [.cells 42 [lnD l 0, lnD l 1, lnD l 2, lnD l 3, lnD l 4]], []⟩, fun k => k ≤ l.fields.length ∧ ∀ j, j < k → okF (l.fields.getD j default) = true, fun k => l.fields.length - k, fun _ => Nat.zero_le _, ⟨0, ⟨Nat.zero_le _, fun j hj => by omega⟩, StLe.ren [0] tmS ⟨⟨rfl, EntL.refl _, rfl⟩, trivial⟩ (by decide)⟩, ?_⟩
  rintro k ⟨hk, hd⟩
  by_cases hlt : k < l.fields.length
  · have hm := hfs _ (mem_getD hlt)
    have p1 : ctAny.pre (l.fields.getD k default) := ⟨by omega, hm.2⟩
    have p2 : ctTrim.pre (l.fields.getD k default) := (by have := hm.1; show _ ≤ _; omega)
    have e3 : okF (l.fields.getD k default) = false → (3 : Int) = lnE l := fun h => by rw [e1, if_neg (fun hh => by rw [not_all hlt h] at hh; exact Bool.noConfusion hh.1)]
    repeat' (first | refine gw ?_ | (refine br (fun q_ => ?_) (fun q_ => ?_) <;> try simp only [Int.toNat_natCast, Nat.mul_one, Nat.add_zero] at q_) | (refine brF (fun q_ => ?_) (fun q_ => ?_) <;> try simp only [Int.toNat_natCast, Nat.mul_one, Nat.add_zero] at q_))
    · exact EntR.int (e3 (okF_2 ‹_›))
    · exact ⟨k + 1, ⟨by omega, next_of hd (okF_t ‹_› ‹_›)⟩, (show l.fields.length - (k + 1) < l.fields.length - k by omega), StLe.ren [0] tmS ⟨⟨rfl, EntL.refl _, rfl⟩, trivial⟩ (by decide)⟩
    · exact EntR.int (e3 (okF_1 ‹_›))
  · have hall : l.fields.all okF = true := all_of (by omega) hd
    have p1 : ctContains.pre (l.com, ⟨#[10]⟩) := (by show l.com.size < _; omega)
    have p2 : ctTrim.pre l.com := (by show _ ≤ _; omega)
    rw [hall] at e1
    have e3 : okC l.com = false → (3 : Int) = lnE l := fun h => by rw [e1, h]; rfl
    repeat' (first | refine gw ?_ | (refine br (fun q_ => ?_) (fun q_ => ?_) <;> try simp only [Int.toNat_natCast, Nat.mul_one, Nat.add_zero] at q_) | (refine brF (fun q_ => ?_) (fun q_ => ?_) <;> try simp only [Int.toNat_natCast, Nat.mul_one, Nat.add_zero] at q_))
    · exact EntR.int (e3 (okC_2 ‹_›))
    · exact EntR.int (by rw [e1, okC_t ‹_› ‹_›]; rfl)
    · exact EntR.int (e3 (okC_1 ‹_›))
end Go.Proofs
