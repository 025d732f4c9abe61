import Derived.Test.YtimpmahlmfdccaaGreatDoorE6
namespace Go.Sx
open Go Go.RowKit

/-! The shelf's contracts as contracts here. -/
theorem fits_below {M : Mem} {w w' : World} (h : M.fits w) (hb : Below w.heap.size w w') : M.fits w' := by
  intro b o hbo
  have hf := h b o hbo
  obtain ⟨y, hy⟩ := hf.some
  have hlt : b < w.heap.size := (Array.getElem?_eq_some_iff.1 hy).1
  rw [hb.block b hlt]
  exact hf
theorem sound_calls {P : Program} {Gl : Nat → Option D} {f : FuncId} {ct : Ct} {fn : Func} (hf : P.funcs[f]? = some fn) (hname : (fn.name == "runtime.NumGoroutine") = false) (hbody : fn.body.isNone = false) (hpd : ∀ x, pdL (ct.inp x) = true)
    (h : ∀ x, ct.pre x → ∀ (M : Mem) (w : World) (us : Array Value), M.fits w → GlOk M Gl → RepL M [] (ct.inp x) us.toList →
      Calls P f us w fun e w' => ∃ v, e = .returned v ∧ Rep M [] (ct.out x) v ∧ Below w.heap.size w w') : Sound P Gl f ct := by
  refine ⟨⟨fn, hf, hname, hbody⟩, hpd, fun x hx M w us hfit hG hr n => callsIn_wide.2 ((h x hx M w us hfit hG hr).mono ?_)⟩
  rintro e w' ⟨v, rfl, hv, hb⟩
  exact ⟨M, v, rfl, Mem.le_refl _, fun b o hbo => .inl hbo, fits_below hfit hb, hv, hb⟩
/-- The cell of a variable that is told. -/
theorem gl_cell {M : Mem} {w : World} {Gl : Nat → Option D} {g : Nat} {v : Value} (hfit : M.fits w) (hG : GlOk M Gl) (hg : Gl g = some (.pt 1 fun _ => .v v)) : w.cell? ⟨g, 0, none⟩ = some v := by
  have h := hG g _ hg
  simp only [Rep] at h
  obtain ⟨ad, h5, h6⟩ := h
  obtain ⟨x, h7, _, h8⟩ := h6 0 (by omega)
  simp at h5; subst h5
  rw [h8] at h7
  exact Mem.cell_fits hfit h7
theorem two_vals {M : Mem} {E : List Value} {x y : Value} {us : Array Value} (h : RepL M E [.v x, .v y] us.toList) : us = #[x, y] := by
  simp only [RepL, Rep] at h
  obtain ⟨u, r, h1, rfl, v, r', rfl, rfl, rfl⟩ := h
  apply Array.ext'; simpa using h1
end Go.Sx
