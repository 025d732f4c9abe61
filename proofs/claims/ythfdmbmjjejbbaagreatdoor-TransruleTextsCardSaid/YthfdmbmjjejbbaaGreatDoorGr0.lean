import Derived.Test.YthfdmbmjjejbbaaGreatDoorRa0
set_option linter.unusedVariables false
set_option linter.unusedSimpArgs false
namespace Go.Sx
open Go Go.RowKit

/-! slices.Grow of the nil slice: a row that the call owns, of no element -/
def growT (e sz : Nat) : Tr := fun _ ds ow k =>
  ∃ n : Nat, ds = [.v (.slice none 0 0), .v (.int .i64 n)] ∧ n ≤ 1000000 ∧ k (.row ow.length) (ow ++ [.row e sz 0 (fun _ _ => .junk)])
theorem grow_sound {P : Program} {Gl : Nat → Option D} {f : FuncId} {e sz : Nat} (hf : Enters P f)
    (hI : ∀ (B : Nat) (w : World) (n : Nat), n ≤ 1000000 → B ≤ w.heap.size →
      Calls P f #[.slice none 0 0, .int .i64 n] w fun r w' => ∃ v', r = .returned v' ∧ w'.ownsRow B e sz v' 0 [] ∧ w.grownBy w' none ∧ ∀ g, blkOf v' = some g → w.heap.size ≤ g) :
    SoundT P Gl f (growT e sz) := by
  refine ⟨hf, ?_⟩
  rintro Y ds ow k ⟨n, rfl, hn, hK⟩ B w0 M0 M E w us hW hG hY hr n'
  refine callsIn_wide.2 ?_
  simp only [RepL] at hr
  obtain ⟨v, r, hus, hv, u2, r2, rfl, hu2, rfl⟩ := hr
  have hv : v = .slice none 0 0 := hv
  have hu2 : u2 = .int .i64 n := hu2
  subst hv; subst hu2
  have hus : us = #[.slice none 0 0, .int .i64 n] := by apply Array.ext'; simpa using hus
  subst hus
  refine (hI B w n hn hW.base).mono ?_
  rintro e' w' ⟨v', rfl, hown, hgrow, hfr⟩
  refine ⟨.row ow.length, v', M, E ++ [v'], _, rfl, hK, Mem.le_refl _, EnvLe.append _ _, hW.grown hgrow hfr ?_, by simp only [Rep]; rw [← hW.len, List.getElem?_append_right (Nat.le_refl _)]; simp⟩
  simp only [Holds]
  refine ⟨[], hown, fun b hb => by omega, fun q hq => ?_⟩
  have := hfr q (blk_of_own hq)
  cases hm : M q with
  | none => rfl
  | some ob => have := (hW.fits _ _ hm).lt; omega
#print axioms grow_sound
end Go.Sx
