import Derived.Test.YthfdmbmjjejbbaaGreatDoorGc
set_option linter.unusedVariables false
set_option linter.unusedSimpArgs false
namespace Go.Proofs
open Go Go.Sx Go.RowKit
variable {mx : Int} {pb : Bool}

/-! strings.ToUpper of ASCII -/
def upS (s : ByteArray) : ByteArray := listB (Lib.toUpperA s.data.toList)
def ctUp : Ct := { ι := ByteArray, inp := fun s => [.v (.string s)], out := fun s => .v (.string (upS s)), pre := fun s => s.size ≤ 140737488355328 ∧ s.data.toList.all (fun b => decide (b.toNat < 128)) = true }
theorem one_string {M : Mem} {E : List Value} {x : Value} {us : Array Value} (h : RepL M E [.v x] us.toList) : us = #[x] := by
  simp only [RepL, Rep] at h
  obtain ⟨u, r, h1, rfl, rfl⟩ := h
  apply Array.ext'; simpa using h1
theorem up_ok : Sound Tryz.prog (GlT mx pb) 58 ctUp := by
  refine sound_calls Tryz.func58 (by kernel_rfl) (by kernel_rfl) (fun _ => rfl) fun s hs M w us hfit hG hr => ?_
  have := one_string hr
  subst this
  refine (Any.strings_ToUpper_ascii Tryz.lays158 Tryz.Builder_Extra_158 s w hs.1 (ascii_all hs.2)).mono ?_
  rintro e w' ⟨rfl, hb⟩
  exact ⟨_, rfl, rfl, hb⟩
def upG : List D → Option D
  | [.v (.string s)] => if decide (s.size ≤ 64) && s.data.toList.all (fun b => decide (b.toNat < 128)) then some (.v (.string (upS s))) else none
  | _ => none
theorem upG_ok {ds : List D} {d : D} (h : upG ds = some d) : Sound Tryz.prog (GlT mx pb) 58 ⟨Unit, fun _ => ds, fun _ => d, fun _ => True⟩ := by
  unfold upG at h
  split at h <;> try (simp at h; done)
  rename_i s
  split at h <;> try (simp at h; done)
  rename_i hc
  rw [Bool.and_eq_true, decide_eq_true_eq] at hc
  simp only [Option.some.injEq] at h
  subst h
  exact sound_less up_ok (fun _ => s) (fun _ => rfl) (fun _ _ => ⟨by omega, hc.2⟩) (fun _ _ => rfl)
end Go.Proofs
