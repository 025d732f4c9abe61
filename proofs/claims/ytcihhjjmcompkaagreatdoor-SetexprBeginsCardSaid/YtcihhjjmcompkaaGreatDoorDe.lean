import Derived.Test.YtcihhjjmcompkaaGreatDoorDz
import Derived.Test.YtcihhjjmcompkaaGreatDoorSoz
import Derived.Test.YtcihhjjmcompkaaGreatDoorP1
set_option linter.unusedVariables false
set_option linter.unusedSimpArgs false
namespace Go.Proofs
open Go Go.Sx
variable {mx : Int} {pb : Bool}
def clsIn (s : Sp) : Prop := 0 ≤ s.lo ∧ s.lo ≤ s.hi ∧ s.hi ≤ 1114111 ∧ 1 ≤ s.val ∧ s.val ≤ 254
def clsAt (l : List Sp) (i : Nat) : Prop := clsIn (l.getD i default) ∧ (0 < i → spAft (l.getD (i - 1) default) (l.getD i default))
def clsOk (l : List Sp) : Prop := ∀ i, i < l.length → clsAt l i
open Classical in
noncomputable def clsB (l : List Sp) : Bool := decide (clsOk l)
theorem clsB_t {l : List Sp} (h : clsOk l) : true = clsB l := (@decide_eq_true _ (Classical.propDecidable _) h).symm
theorem clsB_f {l : List Sp} (h : ¬ clsOk l) : false = clsB l := (@decide_eq_false _ (Classical.propDecidable _) h).symm
noncomputable def ptE : Pt → Int
 | .pr p => if validP p = true then 0 else 11
 | .cl l => if clsB l = true then 0 else 11
 | .st l => if canon l = l then 0 else 11
 | .mp l => checkE l
noncomputable def fileE (d : Db) : Nat → Int
 | 0 => 0
 | k + 1 => ptE (partOf d k)
noncomputable def firstE (d : Db) : Int := match (List.range 21).find? (fun k => decide (fileE d k ≠ 0)) with | some k => fileE d k | none => 0
theorem firstE_at {d : Db} {k : Nat} (hk : k < 21) (hn : ∀ j, j < k → fileE d j = 0) (h : ¬ fileE d k = 0) : firstE d = fileE d k := by
 have : (List.range 21).find? (fun k => decide (fileE d k ≠ 0)) = some k := by
  rw [List.find?_range_eq_some]
  refine ⟨decide_eq_true h, List.mem_range.2 hk, fun j hj => ?_⟩
  rw [decide_eq_false (fun hh => hh (hn j hj))]
  rfl
 rw [firstE, this]
theorem firstE_0 {d : Db} (hn : ∀ j, j < 21 → fileE d j = 0) : firstE d = 0 := by
 have : (List.range 21).find? (fun k => decide (fileE d k ≠ 0)) = none := by
  rw [List.find?_eq_none]
  intro j hj
  rw [decide_eq_false (fun hh => hh (hn j (List.mem_range.1 hj)))]
  decide
 rw [firstE, this]
theorem firstE_all {d : Db} (h : firstE d = 0) : ∀ j, j < 21 → fileE d j = 0 := by
 intro j hj
 cases hf : (List.range 21).find? (fun k => decide (fileE d k ≠ 0)) with
 | none =>
  rw [List.find?_eq_none] at hf
  have := hf j (List.mem_range.2 hj)
  simpa using this
 | some k =>
  have h1 := List.find?_some hf
  rw [firstE, hf] at h
  simp at h1
  exact absurd h h1
def verOk (d : Db) : Prop := 0 ≤ d.maj ∧ d.maj ≤ 9999 ∧ 0 ≤ d.mnr ∧ d.mnr ≤ 9999
instance (d : Db) : Decidable (verOk d) := inferInstanceAs (Decidable (_ ∧ _))
noncomputable def dbE (d : Db) : Int := if verOk d then firstE d else 1
noncomputable def ctDbE : Ct := { ι := Db, inp := fun d => [dbA d], out := fun d => .v (.int .i64 (dbE d)), pre := SmD }
end Go.Proofs
