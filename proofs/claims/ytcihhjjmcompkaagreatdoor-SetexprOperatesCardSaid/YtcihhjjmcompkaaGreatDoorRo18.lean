import Derived.Test.YtcihhjjmcompkaaGreatDoorDz
import Derived.Test.YtcihhjjmcompkaaGreatDoorOpz
import Derived.Test.YtcihhjjmcompkaaGreatDoorQz
set_option linter.unusedVariables false
set_option linter.unusedSimpArgs false
namespace Go.Proofs.YtcihhjjmcompkaaGreatDoor
open Go Go.Sx Go.ChangeShapes Go.WideShapes Go.ChangeAt Go.RowKit
def digs : List Int := [48,49,50,51,52,53,54,55,56,57,65,66,67,68,69,70]
theorem gDig : Tryz.prog.globalNamed "unicodetext/codepoint.digits" = some 0 := by kernel_rfl
theorem tDig : (Tryz.prog.globals[0]?).map (·.type) = some 181 := by kernel_rfl
theorem digits_of {W : World} (h : laidMetH Tryz.prog Rows.setexprTextsRow.laid W) : ∀ j, j < 16 → W.cell? ⟨0, j, none⟩ = some (.int .u8 (digs.getD j 0)) := by
  rw [MakeChecks.laidMetH_plain _ _ _ (by kernel_rfl)] at h
  obtain ⟨ps, ⟨_, _, _, _, _, _, _, _, _, _, ⟨g, t, cs, f, p, q, hg, ht, hv, hd, _⟩, _⟩, _, _⟩ := h
  obtain rfl := Option.some.inj (gDig.symm.trans hg)
  obtain rfl := Option.some.inj (tDig.symm.trans ht)
  obtain ⟨xs, m, rfl, hx, hlen, hn, hel⟩ := DataW.trod_array Tryz.underlying181 hd
  intro j hj
  have he := hel j hj
  have hx' : xs.map (·.1) = digs.map fun k => (DataW.lit (.int .u8 k) : DataW Unit) := by
    simp only [Prod.mk.injEq] at hx
    have := hx.1
    exact (DataW.agg.inj this).symm
  obtain ⟨y, hy⟩ : ∃ y, xs[j]? = some y := ⟨xs[j]'(by omega), List.getElem?_eq_getElem _⟩
  rw [hy] at he
  obtain ⟨k, e1, e2, _⟩ := DataW.trod_int Tryz.underlying5 he
  have e3 : (xs.map (·.1))[j]? = some (.lit (.int .u8 k)) := by rw [List.getElem?_map, hy, e2]; rfl
  rw [hx', List.getElem?_map] at e3
  have hk : digs[j]? = some k := by
    cases hdj : digs[j]? with
    | none => rw [hdj] at e3; simp at e3
    | some k' => rw [hdj] at e3; simp at e3; rw [e3]
  have c1 : Tryz.prog.cellsOf 5 = 1 := by kernel_rfl
  rw [c1, Nat.mul_one] at e1
  have e4 := one_of e1
  have := World.var?_cell hg hv j
  rw [this, List.getD_eq_getElem?_getD, hk]
  simpa using e4
theorem max_of {W : World} (h : W.ShapedOpen Tryz.prog) : ∃ m, W.cell? ⟨1, 0, none⟩ = some (.int .i64 m) :=
  cell_of_shapedOpen_int (t := 3) (zero := #[.int .i64 0]) h (of_decide_eq_true (by kernel_rfl)) (by kernel_rfl) rfl (by kernel_rfl) (by kernel_rfl) Tryz.underlying3
theorem gl_ok {W : World} {mx : Int} (h : laidMetH Tryz.prog Rows.setexprTextsRow.laid W) (hm : W.cell? ⟨1, 0, none⟩ = some (.int .i64 mx)) : GlOk (memOf W) (GlT mx false) := by
  intro g d hd
  unfold GlT at hd
  split at hd
  · rename_i hg
    subst hg
    simp at hd; subst hd
    simp only [digitsD, Rep]
    refine ⟨_, rfl, fun j hj => ⟨_, memOf_cell (by rw [add_plain, Nat.zero_add]; exact digits_of h j hj), rfl, rfl⟩⟩
  · split at hd
    · rename_i hg
      subst hg
      simp at hd; subst hd
      simp only [Rep]
      refine ⟨_, rfl, fun j hj => ⟨_, memOf_cell (v := .int .i64 mx) ?_, rfl, rfl⟩⟩
      have : j = 0 := by omega
      subst this
      exact hm
    · split at hd
      · simp at hd
      · split at hd <;> simp at hd
end Go.Proofs.YtcihhjjmcompkaaGreatDoor
