import Derived.Test.YtcihhjjmcompkaaGreatDoorE5
import Derived.Test.YtcihhjjmcompkaaGreatDoorSxS
set_option linter.unusedVariables false
set_option linter.unusedSimpArgs false
namespace Go.Sx
open Go Go.RowKit
section
variable {X : Env} {n m : Nat}
def YR (X : Env) (q : Nat) (Y : Ys) (Yc : List YC) : Prop :=
  ∀ i j N tm ps as bd Y', lkY Yc i = some (.mk j N tm ps as bd Y') → ∃ t, Y.lp i = some t ∧ ∀ m, m < q → ∀ ds ow d ow' (k : D → List Own → Prop), roundR (runC X m) N tm ps j as bd Y' ds ow = some (d, ow') → k d ow' → t ds ow k
theorem YR.mono {q q' : Nat} {Y : Ys} {Yc : List YC} (h : YR X q Y Yc) (hq : q' ≤ q) : YR X q' Y Yc := by
  intro i j N tm ps as bd Y' hl
  obtain ⟨t, h1, h2⟩ := h i j N tm ps as bd Y' hl
  exact ⟨t, h1, fun m hm => h2 m (by omega)⟩
theorem YR.nil {q : Nat} {Y : Ys} : YR X q Y [] := fun i j N tm ps as bd Y' h => by simp [lkY] at h
theorem YR.wp {q N : Nat} {Y : Ys} {Yc : List YC} {df : List DE} {k : Exit → St → Prop} (h : YR X q Y Yc) : YR X q (Y.wp N df k) Yc := h
theorem YR.wpD {q N : Nat} {b : Bool} {Y : Ys} {Yc : List YC} {df : List DE} {k : Exit → St → Prop} (h : YR X q Y Yc) : YR X q (Y.wpD b N df k) Yc := h
end
end Go.Sx
namespace Go.Sx
open Go Go.RowKit
section
variable {X : Env} {n m : Nat}
variable {P : Program}
end
end Go.Sx
