import Derived.Test.YtfalaomjfkaphaaGreatDoorOp
import Derived.Test.YtfalaomjfkaphaaGreatDoorMz
set_option linter.unusedVariables false
set_option linter.unusedSimpArgs false
namespace Go.Proofs.YtfalaomjfkaphaaGreatDoor
open Go Go.Sx Go.ChangeShapes Go.WideShapes Go.ChangeAt Go.RowKit

def digs : List Int := [48,49,50,51,52,53,54,55,56,57,65,66,67,68,69,70]
theorem gDig : Tryz.prog.globalNamed "unicodetext/codepoint.digits" = some 0 := by kernel_rfl
theorem tDig : (Tryz.prog.globals[0]?).map (·.type) = some 128 := by kernel_rfl
theorem digits_of {W : World} (h : laidMetH Tryz.prog Rows.mappingParsesRow.laid W) : ∀ j, j < 16 → W.cell? ⟨0, j, none⟩ = some (.int .u8 (digs.getD j 0)) := by
  rw [MakeChecks.laidMetH_plain _ _ _ (by kernel_rfl)] at h
  obtain ⟨ps, ⟨_, _, _, _, _, _, _, _, _, _, ⟨g, t, cs, f, p, q, hg, ht, hv, hd, _⟩, _⟩, _, _⟩ := h
  obtain rfl := Option.some.inj (gDig.symm.trans hg)
  obtain rfl := Option.some.inj (tDig.symm.trans ht)
  obtain ⟨xs, m, rfl, hx, hlen, hn, hel⟩ := DataW.trod_array Tryz.underlying128 hd
  intro j hj
  have he := hel j hj
  have hx' : xs.map (·.1) = digs.map fun k => (DataW.lit (.int .u8 k) : DataW Unit) := by
    simp only [Prod.mk.injEq] at hx
    have := hx.1
    exact (DataW.agg.inj this).symm
  obtain ⟨y, hy⟩ : ∃ y, xs[j]? = some y := ⟨xs[j]'(by omega), List.getElem?_eq_getElem _⟩
  rw [hy] at he
  obtain ⟨k, e1, e2, _⟩ := DataW.trod_int Tryz.underlying5 he
  have e3 : (xs.map (·.1))[j]? = some (.lit (.int .u8 k)) := by rw [List.getElem?_map, hy, e2]; rfl
  rw [hx', List.getElem?_map] at e3
  have hk : digs[j]? = some k := by
    cases hdj : digs[j]? with
    | none => rw [hdj] at e3; simp at e3
    | some k' => rw [hdj] at e3; simp at e3; rw [e3]
  have c1 : Tryz.prog.cellsOf 5 = 1 := by kernel_rfl
  rw [c1, Nat.mul_one] at e1
  have e4 := one_of e1
  have := World.var?_cell hg hv j
  rw [this, List.getD_eq_getElem?_getD, hk]
  simpa using e4
theorem max_of {W : World} (h : W.ShapedOpen Tryz.prog) : ∃ m, W.cell? ⟨1, 0, none⟩ = some (.int .i64 m) :=
  cell_of_shapedOpen_int (t := 3) (zero := #[.int .i64 0]) h (of_decide_eq_true (by kernel_rfl)) (by kernel_rfl) rfl (by kernel_rfl) (by kernel_rfl) Tryz.underlying3
theorem gl_ok {W : World} {mx : Int} (h : laidMetH Tryz.prog Rows.mappingParsesRow.laid W) (hm : W.cell? ⟨1, 0, none⟩ = some (.int .i64 mx)) : GlOk (memOf W) (GlT mx false) := by
  intro g d hd
  unfold GlT at hd
  split at hd
  · rename_i hg
    subst hg
    simp at hd; subst hd
    simp only [digitsD, Rep]
    refine ⟨_, rfl, fun j hj => ⟨_, memOf_cell (by rw [add_plain, Nat.zero_add]; exact digits_of h j hj), rfl, rfl⟩⟩
  · split at hd
    · rename_i hg
      subst hg
      simp at hd; subst hd
      simp only [Rep]
      refine ⟨_, rfl, fun j hj => ⟨_, memOf_cell (v := .int .i64 mx) ?_, rfl, rfl⟩⟩
      have : j = 0 := by omega
      subst this
      exact hm
    · split at hd <;> simp at hd

/-! mappings that are handed over -/
theorem opens_mp {W : World} : Opens W 47 3 mpD (fun _ => True) := by
  intro H enc base sp hd n cs x h
  obtain ⟨a, _, ha⟩ := opens_fld Tryz.underlying47 h (i := 0) rfl rfl (by kernel_rfl) (opens_int Tryz.underlying3)
  obtain ⟨b, _, hb⟩ := opens_fld Tryz.underlying47 h (i := 1) rfl rfl (by kernel_rfl) (opens_slice (f := intD) Tryz.underlying43 (by kernel_rfl) (opens_int Tryz.underlying3))
  obtain ⟨c, _, hc⟩ := opens_fld Tryz.underlying47 h (i := 2) rfl rfl (by kernel_rfl) (opens_str Tryz.underlying9)
  refine ⟨trod_len Tryz.underlying47 h (by kernel_rfl), ⟨a, b, c⟩, trivial, fun j hj => ?_⟩
  match j, hj with
  | 0, _ => exact ha 0 (by decide)
  | 1, _ => exact hb 0 (by decide)
  | 2, _ => exact hc 0 (by decide)
theorem opens_mps {W : World} : Opens W 24 1 (fun (l : List Mp) _ => mpsD l) (fun l => l.length ≤ maxI) :=
  (opens_slice (f := mpD) Tryz.underlying24 (by kernel_rfl) opens_mp).ren (fun _ _ _ => rfl) (fun _ h => h.1)
end Go.Proofs.YtfalaomjfkaphaaGreatDoor
