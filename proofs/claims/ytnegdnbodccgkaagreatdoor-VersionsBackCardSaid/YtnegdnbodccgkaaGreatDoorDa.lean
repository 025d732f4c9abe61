import Derived.Test.YtnegdnbodccgkaaGreatDoorQ2
import Derived.Test.YtnegdnbodccgkaaGreatDoorC2
import Derived.Test.YtnegdnbodccgkaaGreatDoorMz
set_option linter.unusedVariables false
set_option linter.unusedSimpArgs false
namespace Go.Proofs
open Go Go.Sx
variable {mx : Int} {pb : Bool}

/-! databases -/
structure Db where
  maj : Int
  mnr : Int
  prs : Nat → Pr
  cls : List Sp
  sts : Nat → List Rg
  mps : Nat → List Mp
instance : Inhabited Db := ⟨⟨0, 0, fun _ => default, [], fun _ => [], fun _ => []⟩⟩
def nmsD (p : Pr) : D := slD 1 strD p.names
def spnD (p : Pr) : D := spsD p.spans
def dbL (d : Db) : List D :=
  [.v (.int .i64 d.maj), .v (.int .i64 d.mnr),
   slD 1 strD (d.prs 0).names, spsD (d.prs 0).spans, slD 1 strD (d.prs 1).names, spsD (d.prs 1).spans, slD 1 strD (d.prs 2).names, spsD (d.prs 2).spans, slD 1 strD (d.prs 3).names, spsD (d.prs 3).spans,
   slD 1 strD (d.prs 4).names, spsD (d.prs 4).spans, slD 1 strD (d.prs 5).names, spsD (d.prs 5).spans, slD 1 strD (d.prs 6).names, spsD (d.prs 6).spans,
   spsD d.cls, mpsD (d.mps 0), rgsD (d.sts 0), mpsD (d.mps 1), mpsD (d.mps 2), mpsD (d.mps 3), mpsD (d.mps 4), rgsD (d.sts 1), rgsD (d.sts 2), rgsD (d.sts 3), rgsD (d.sts 4), rgsD (d.sts 5), mpsD (d.mps 5)]
def dbA (d : Db) : D := .ag (dbL d)
/-- The property, the set with an index. -/
def propI (d : Db) (i : Int) : Pr := if 0 ≤ i ∧ i < 7 then d.prs i.toNat else ⟨[], []⟩
def setI (d : Db) (i : Int) : List Rg := if 0 ≤ i ∧ i < 6 then d.sts i.toNat else []

/-! slices written out -/
def flatL {α : Type} (sz : Nat) (enc : α → Nat → D) (l : List α) : List D := l.flatMap fun a => (List.range sz).map (enc a)
theorem flatL_get {α : Type} [Inhabited α] {sz : Nat} {enc : α → Nat → D} : ∀ {l : List α} {i j : Nat}, i < l.length → j < sz → (flatL sz enc l)[i * sz + j]? = some (enc (l.getD i default) j)
  | [], i, j, h, _ => by simp at h
  | a :: l, 0, j, _, hj => by
    have : flatL sz enc (a :: l) = (List.range sz).map (enc a) ++ flatL sz enc l := rfl
    rw [this, List.getElem?_append_left (by simpa using hj)]
    simp [hj]
  | a :: l, i + 1, j, h, hj => by
    have ih := flatL_get (enc := enc) (l := l) (i := i) (j := j) (by simpa using h) hj
    have : flatL sz enc (a :: l) = (List.range sz).map (enc a) ++ flatL sz enc l := rfl
    rw [this, List.getElem?_append_right (by simp; rw [Nat.add_mul]; omega)]
    have e : (i + 1) * sz + j - ((List.range sz).map (enc a)).length = i * sz + j := by simp; rw [Nat.add_mul]; omega
    rw [e, ih]
    rfl
theorem ent_lit {α : Type} [Inhabited α] {sz n : Nat} {enc : α → Nat → D} {cs : List D} {l : List α} (hn : n = l.length) (hc : cs = flatL sz enc l) : Ent (.sl sz n fun i j => (cs[i * sz + j]?).getD .junk) (slD sz enc l) := by
  subst hn hc
  refine Ent.sl rfl fun i hi j hj => Ent.of_eq ?_
  rw [flatL_get hi hj]
  rfl
def filesL : List ByteArray := [
  ⟨#[118, 101, 114, 115, 105, 111, 110]⟩,
  ⟨#[99, 97, 116, 101, 103, 111, 114, 121]⟩,
  ⟨#[119, 105, 100, 116, 104]⟩,
  ⟨#[115, 99, 114, 105, 112, 116]⟩,
  ⟨#[103, 114, 97, 112, 104, 101, 109, 101]⟩,
  ⟨#[119, 111, 114, 100]⟩,
  ⟨#[115, 101, 110, 116, 101, 110, 99, 101]⟩,
  ⟨#[108, 105, 110, 101]⟩,
  ⟨#[99, 108, 97, 115, 115, 101, 115]⟩,
  ⟨#[100, 101, 99, 111, 109, 112, 111, 115, 105, 116, 105, 111, 110]⟩,
  ⟨#[101, 120, 99, 108, 117, 115, 105, 111, 110, 115]⟩,
  ⟨#[108, 111, 119, 101, 114]⟩,
  ⟨#[117, 112, 112, 101, 114]⟩,
  ⟨#[116, 105, 116, 108, 101]⟩,
  ⟨#[102, 111, 108, 100]⟩,
  ⟨#[99, 97, 115, 101, 100]⟩,
  ⟨#[105, 103, 110, 111, 114, 97, 98, 108, 101]⟩,
  ⟨#[115, 116, 97, 114, 116]⟩,
  ⟨#[99, 111, 110, 116, 105, 110, 117, 101]⟩,
  ⟨#[109, 101, 100, 105, 97, 108]⟩,
  ⟨#[99, 111, 110, 102, 117, 115, 97, 98, 108, 101]⟩]
end Go.Proofs
