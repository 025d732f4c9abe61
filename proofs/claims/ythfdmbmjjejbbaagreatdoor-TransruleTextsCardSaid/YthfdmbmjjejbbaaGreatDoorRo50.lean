import Derived.Test.YthfdmbmjjejbbaaGreatDoorOp
import Derived.Test.YthfdmbmjjejbbaaGreatDoorTr0
set_option linter.unusedVariables false
set_option linter.unusedSimpArgs false
namespace Go.Proofs.YthfdmbmjjejbbaaGreatDoor
open Go Go.Sx Go.ChangeShapes Go.WideShapes Go.ChangeAt Go.RowKit

def digs : List Int := [48,49,50,51,52,53,54,55,56,57,65,66,67,68,69,70]
theorem gDig : Tryz.prog.globalNamed "unicodetext/codepoint.digits" = some 0 := by kernel_rfl
theorem tDig : (Tryz.prog.globals[0]?).map (·.type) = some 166 := by kernel_rfl
theorem digits_of {W : World} (h : laidMetH Tryz.prog Rows.transruleChecksRow.laid W) : ∀ j, j < 16 → W.cell? ⟨0, j, none⟩ = some (.int .u8 (digs.getD j 0)) := by
  rw [MakeChecks.laidMetH_plain _ _ _ (by kernel_rfl)] at h
  obtain ⟨ps, ⟨_, _, _, _, _, _, _, _, _, _, ⟨_, _, _, _, _, _, _, _, _, _, ⟨_, _, _, _, _, _, _, _, _, _, ⟨_, _, _, _, _, _, _, _, _, _, ⟨g, t, cs, f, p, q, hg, ht, hv, hd, _⟩, _⟩, _⟩, _⟩, _⟩, _, _⟩ := h
  obtain rfl := Option.some.inj (gDig.symm.trans hg)
  obtain rfl := Option.some.inj (tDig.symm.trans ht)
  obtain ⟨xs, m, rfl, hx, hlen, hn, hel⟩ := DataW.trod_array Tryz.underlying166 hd
  intro j hj
  have he := hel j hj
  have hx' : xs.map (·.1) = digs.map fun k => (DataW.lit (.int .u8 k) : DataW Unit) := by
    simp only [Prod.mk.injEq] at hx
    have := hx.1
    exact (DataW.agg.inj this).symm
  obtain ⟨y, hy⟩ : ∃ y, xs[j]? = some y := ⟨xs[j]'(by omega), List.getElem?_eq_getElem _⟩
  rw [hy] at he
  obtain ⟨k, e1, e2, _⟩ := DataW.trod_int Tryz.underlying5 he
  have e3 : (xs.map (·.1))[j]? = some (.lit (.int .u8 k)) := by rw [List.getElem?_map, hy, e2]; rfl
  rw [hx', List.getElem?_map] at e3
  have hk : digs[j]? = some k := by
    cases hdj : digs[j]? with
    | none => rw [hdj] at e3; simp at e3
    | some k' => rw [hdj] at e3; simp at e3; rw [e3]
  have c1 : Tryz.prog.cellsOf 5 = 1 := by kernel_rfl
  rw [c1, Nat.mul_one] at e1
  have e4 := one_of e1
  have := World.var?_cell hg hv j
  rw [this, List.getD_eq_getElem?_getD, hk]
  simpa using e4
def pows : List Int := [1, 10, 100, 1000, 10000, 100000, 1000000, 10000000, 100000000, 1000000000, 10000000000, 100000000000, 1000000000000, 10000000000000, 100000000000000, 1000000000000000, 10000000000000000, 100000000000000000, 1000000000000000000, 10000000000000000000]
theorem gPow : Tryz.prog.globalNamed "internal/strconv.uint64pow10" = some 2 := by kernel_rfl
theorem tPow : (Tryz.prog.globals[2]?).map (·.type) = some 192 := by kernel_rfl
theorem pow10_of {W : World} (h : laidMetH Tryz.prog Rows.transruleChecksRow.laid W) : ∀ j, j < 20 → W.cell? ⟨2, j, none⟩ = some (.int .u64 (pows.getD j 0)) := by
  rw [MakeChecks.laidMetH_plain _ _ _ (by kernel_rfl)] at h
  obtain ⟨ps, ⟨_, _, _, _, _, _, _, _, _, _, ⟨_, _, _, _, _, _, _, _, _, _, ⟨g, t, cs, f, p, q, hg, ht, hv, hd, _⟩, _⟩, _⟩, _, _⟩ := h
  obtain rfl := Option.some.inj (gPow.symm.trans hg)
  obtain rfl := Option.some.inj (tPow.symm.trans ht)
  obtain ⟨xs, m, rfl, hx, hlen, hn, hel⟩ := DataW.trod_array Tryz.underlying192 hd
  intro j hj
  have he := hel j hj
  have hx' : xs.map (·.1) = pows.map fun k => (DataW.lit (.int .u64 k) : DataW Unit) := by
    simp only [Prod.mk.injEq] at hx
    have := hx.1
    exact (DataW.agg.inj this).symm
  obtain ⟨y, hy⟩ : ∃ y, xs[j]? = some y := ⟨xs[j]'(by omega), List.getElem?_eq_getElem _⟩
  rw [hy] at he
  obtain ⟨k, e1, e2, _⟩ := DataW.trod_int Tryz.underlying152 he
  have e3 : (xs.map (·.1))[j]? = some (.lit (.int .u64 k)) := by rw [List.getElem?_map, hy, e2]; rfl
  rw [hx', List.getElem?_map] at e3
  have hk : pows[j]? = some k := by
    cases hdj : pows[j]? with
    | none => rw [hdj] at e3; simp at e3
    | some k' => rw [hdj] at e3; simp at e3; rw [e3]
  have c1 : Tryz.prog.cellsOf 152 = 1 := by kernel_rfl
  rw [c1, Nat.mul_one] at e1
  have e4 := one_of e1
  have := World.var?_cell hg hv j
  rw [this, List.getD_eq_getElem?_getD, hk]
  simpa using e4
def dbs : List Int := [0, 1, 56, 2, 57, 49, 28, 3, 61, 58, 42, 50, 38, 29, 17, 4, 62, 47, 59, 36, 45, 43, 51, 22, 53, 39, 33, 30, 24, 18, 12, 5, 63, 55, 48, 27, 60, 41, 37, 16, 46, 35, 44, 21, 52, 32, 23, 11, 54, 26, 40, 15, 34, 20, 31, 10, 25, 14, 19, 9, 13, 8, 7, 6]
theorem gDb : Tryz.prog.globalNamed "math/bits.deBruijn64tab" = some 7 := by kernel_rfl
theorem tDb : (Tryz.prog.globals[7]?).map (·.type) = some 225 := by kernel_rfl
theorem db_of {W : World} (h : laidMetH Tryz.prog Rows.transruleChecksRow.laid W) : ∀ j, j < 64 → W.cell? ⟨7, j, none⟩ = some (.int .u8 (dbs.getD j 0)) := by
  rw [MakeChecks.laidMetH_plain _ _ _ (by kernel_rfl)] at h
  obtain ⟨ps, ⟨_, _, _, _, _, _, _, _, _, _, ⟨g, t, cs, f, p, q, hg, ht, hv, hd, _⟩, _⟩, _, _⟩ := h
  obtain rfl := Option.some.inj (gDb.symm.trans hg)
  obtain rfl := Option.some.inj (tDb.symm.trans ht)
  obtain ⟨xs, m, rfl, hx, hlen, hn, hel⟩ := DataW.trod_array Tryz.underlying225 hd
  intro j hj
  have he := hel j hj
  have hx' : xs.map (·.1) = dbs.map fun k => (DataW.lit (.int .u8 k) : DataW Unit) := by
    simp only [Prod.mk.injEq] at hx
    have := hx.1
    exact (DataW.agg.inj this).symm
  obtain ⟨y, hy⟩ : ∃ y, xs[j]? = some y := ⟨xs[j]'(by omega), List.getElem?_eq_getElem _⟩
  rw [hy] at he
  obtain ⟨k, e1, e2, _⟩ := DataW.trod_int Tryz.underlying5 he
  have e3 : (xs.map (·.1))[j]? = some (.lit (.int .u8 k)) := by rw [List.getElem?_map, hy, e2]; rfl
  rw [hx', List.getElem?_map] at e3
  have hk : dbs[j]? = some k := by
    cases hdj : dbs[j]? with
    | none => rw [hdj] at e3; simp at e3
    | some k' => rw [hdj] at e3; simp at e3; rw [e3]
  have c1 : Tryz.prog.cellsOf 5 = 1 := by kernel_rfl
  rw [c1, Nat.mul_one] at e1
  have e4 := one_of e1
  have := World.var?_cell hg hv j
  rw [this, List.getD_eq_getElem?_getD, hk]
  simpa using e4
theorem max_of {W : World} (h : W.ShapedOpen Tryz.prog) : ∃ m, W.cell? ⟨1, 0, none⟩ = some (.int .i64 m) :=
  cell_of_shapedOpen_int (t := 3) (zero := #[.int .i64 0]) h (of_decide_eq_true (by kernel_rfl)) (by kernel_rfl) rfl (by kernel_rfl) (by kernel_rfl) Tryz.underlying3
theorem gl_ok {W : World} {mx : Int} (h : laidMetH Tryz.prog Rows.transruleChecksRow.laid W) (hm : W.cell? ⟨1, 0, none⟩ = some (.int .i64 mx)) : GlOk (memOf W) (GlT mx true) := by
  intro g d hd
  unfold GlT at hd
  split at hd
  · rename_i hg
    subst hg
    simp at hd; subst hd
    simp only [digitsD, Rep]
    refine ⟨_, rfl, fun j hj => ⟨_, memOf_cell (by rw [add_plain, Nat.zero_add]; exact digits_of h j hj), rfl, rfl⟩⟩
  · split at hd
    · rename_i hg
      subst hg
      simp at hd; subst hd
      simp only [Rep]
      refine ⟨_, rfl, fun j hj => ⟨_, memOf_cell (v := .int .i64 mx) ?_, rfl, rfl⟩⟩
      have : j = 0 := by omega
      subst this
      exact hm
    · split at hd
      · rename_i hg
        subst hg
        simp at hd; subst hd
        simp only [pow10D, Rep]
        refine ⟨_, rfl, fun j hj => ⟨_, memOf_cell (by rw [add_plain, Nat.zero_add]; exact pow10_of h j hj), rfl, rfl⟩⟩
      · split at hd
        · rename_i hg
          subst hg
          simp at hd; subst hd
          simp only [dbD, Rep]
          refine ⟨_, rfl, fun j hj => ⟨_, memOf_cell (by rw [add_plain, Nat.zero_add]; exact db_of h j hj), rfl, rfl⟩⟩
        · simp at hd

/-! rules that are handed over -/
theorem opens_rg {W : World} : Opens W 42 2 rgD (fun _ => True) := by
  intro H enc base sp hd n cs x h
  obtain ⟨a0, k0, h0⟩ := opens_fld Tryz.underlying42 h (i := 0) rfl rfl (by kernel_rfl) (opens_int Tryz.underlying3)
  obtain ⟨a1, k1, h1⟩ := opens_fld Tryz.underlying42 h (i := 1) rfl rfl (by kernel_rfl) (opens_int Tryz.underlying3)
  refine ⟨trod_len Tryz.underlying42 h (by kernel_rfl), ⟨a0, a1⟩, trivial, fun j hj => ?_⟩
  match j, hj with
  | 0, _ => exact h0 0 (by decide)
  | 1, _ => exact h1 0 (by decide)
theorem opens_pc {W : World} : Opens W 68 2 rgD (fun _ => True) := by
  intro H enc base sp hd n cs x h
  obtain ⟨a0, k0, h0⟩ := opens_fld Tryz.underlying68 h (i := 0) rfl rfl (by kernel_rfl) (opens_int Tryz.underlying3)
  obtain ⟨a1, k1, h1⟩ := opens_fld Tryz.underlying68 h (i := 1) rfl rfl (by kernel_rfl) (opens_int Tryz.underlying3)
  refine ⟨trod_len Tryz.underlying68 h (by kernel_rfl), ⟨a0, a1⟩, trivial, fun j hj => ?_⟩
  match j, hj with
  | 0, _ => exact h0 0 (by decide)
  | 1, _ => exact h1 0 (by decide)
theorem opens_rgs {W : World} : Opens W 38 1 (fun (l : List Rg) _ => rgsD l) (fun _ => True) :=
  (opens_slice (f := rgD) Tryz.underlying38 (by kernel_rfl) opens_rg).ren (fun _ _ _ => rfl) (fun _ _ => trivial)
theorem opens_pcs {W : World} : Opens W 33 1 (fun (l : List Rg) _ => rgsD l) (fun _ => True) :=
  (opens_slice (f := rgD) Tryz.underlying33 (by kernel_rfl) opens_pc).ren (fun _ _ _ => rfl) (fun _ _ => trivial)
theorem opens_st {W : World} : Opens W 40 1 stD (fun _ => True) := by
  intro H enc base sp hd n cs x h
  obtain ⟨a0, k0, h0⟩ := opens_fld Tryz.underlying40 h (i := 0) rfl rfl (by kernel_rfl) opens_rgs
  refine ⟨trod_len Tryz.underlying40 h (by kernel_rfl), a0, trivial, fun j hj => ?_⟩
  match j, hj with
  | 0, _ => exact h0 0 (by decide)
theorem opens_sts {W : World} : Opens W 30 1 (fun (l : List (List Rg)) _ => stsD l) (fun _ => True) :=
  (opens_slice (f := stD) Tryz.underlying30 (by kernel_rfl) opens_st).ren (fun _ _ _ => rfl) (fun _ _ => trivial)
theorem opens_tl {W : World} : Opens W 35 4 tlD (fun _ => True) := by
  intro H enc base sp hd n cs x h
  obtain ⟨a0, k0, h0⟩ := opens_fld Tryz.underlying35 h (i := 0) rfl rfl (by kernel_rfl) opens_sts
  obtain ⟨a1, k1, h1⟩ := opens_fld Tryz.underlying35 h (i := 1) rfl rfl (by kernel_rfl) opens_sts
  obtain ⟨a2, k2, h2⟩ := opens_fld Tryz.underlying35 h (i := 2) rfl rfl (by kernel_rfl) opens_sts
  obtain ⟨a3, k3, h3⟩ := opens_fld Tryz.underlying35 h (i := 3) rfl rfl (by kernel_rfl) opens_pcs
  refine ⟨trod_len Tryz.underlying35 h (by kernel_rfl), ⟨a0, a1, a2, a3⟩, trivial, fun j hj => ?_⟩
  match j, hj with
  | 0, _ => exact h0 0 (by decide)
  | 1, _ => exact h1 0 (by decide)
  | 2, _ => exact h2 0 (by decide)
  | 3, _ => exact h3 0 (by decide)
theorem opens_tls {W : World} : Opens W 22 1 (fun (l : List Tl) _ => tlsD l) (fun _ => True) :=
  (opens_slice (f := tlD) Tryz.underlying22 (by kernel_rfl) opens_tl).ren (fun _ _ _ => rfl) (fun _ _ => trivial)
end Go.Proofs.YthfdmbmjjejbbaaGreatDoor
