import Derived.Test.YtnccclpjcidmeaaGreatDoorSxJ2
namespace Go.Sx
open Go Go.RowKit

section
variable {P : Program} {T : TT} {B : Nat} {w0 w w' : World} {M0 M M' : Mem} {E E' : List Value} {ow : List Own}

theorem zeros_eq {zv : Value} {n : Nat} (hz : 0 < zv.cells.size) : ((Array.range (n * zv.cells.size)).map (zv.cells[· % zv.cells.size]!)).toList = (List.range (n * zv.cells.toList.length)).map fun i => zv.cells.toList.getD (i % zv.cells.toList.length) (.tuple #[]) := by
  rw [Array.toList_map, Array.toList_range]
  have hl : zv.cells.toList.length = zv.cells.size := by simp
  rw [hl]
  refine List.map_congr_left fun i _ => ?_
  have h1 : i % zv.cells.size < zv.cells.size := Nat.mod_lt _ hz
  simp [getElem!_pos, h1]

/-- New data. -/
theorem newSlice (hT : TOk P T) {t e esz by' len sz0 : Nat} {z : List Value} {ds : List (Nat × D)} {cs : List D} {ps : Array (Nat × Value)} {ti ti2 : TI} (hTt : T t = some ti) (hk : ti.kind = .slice e esz by') (hTe : T e = some ti2) (hsz2 : ti2.size = sz0) (hz2 : ti2.zero = some z)
    (hcond : 0 < len ∧ len * esz ≤ 16777216 ∧ z.length = esz ∧ 0 < esz ∧ sz0 = esz) (hfill : fillD (fun i => some (i * esz, esz)) (zerosD len z) ds = some cs) (hpl : plainL cs = true ∧ oneL cs = true) (hP : RepP M E ds ps.toList) (hW : WRel B w0 M0 M E ow w) :
    ∃ u w' M', (Instr.buildSlice t len ps).run P w = .ok u w' ∧ M.le M' ∧ Rep M' E (.sl esz len fun i j => (cs[i * esz + j]?).getD .junk) u ∧ WRel B w0 M0 M' E ow w' := by
  obtain ⟨hlen, h24, hzl, hpos, hs0⟩ := hcond
  obtain ⟨i1, td, hi1, hd1, rfl⟩ := tiOf_some (hT _ _ hTt)
  obtain ⟨rfl, ei, hei, rfl, rfl⟩ := tkOf_slice hk
  obtain ⟨i2, td2, hi2, hd2, rfl⟩ := tiOf_some (hT _ _ hTe)
  rw [hei] at hi2; simp at hi2; subst hi2
  obtain ⟨zv, hzv, hzc⟩ := Option.map_eq_some_iff.1 hz2
  have hzs : zv.cells.size = ei.size := by rw [← hzl, ← hzc]; simp
  have hz0 := zeros_eq (zv := zv) (n := len) (by omega)
  obtain ⟨us', h1, h2⟩ := fill_sound hW (place := fun i => some (i * ei.size, ei.size)) (fun _ => rfl) hP hfill (us := (Array.range (len * zv.cells.size)).map (zv.cells[· % zv.cells.size]!)) (by
    rw [hz0, hzc]; exact RepL.vals _)
  have hul : us'.size = len * ei.size := by
    have := h2.length
    have hfl : cs.length = len * ei.size := by
      have : ∀ (l : List (Nat × D)) (c c' : List D), fillD (fun i => some (i * ei.size, ei.size)) c l = some c' → c'.length = c.length := by
        intro l
        induction l with
        | nil => intro c c' hh; simp [fillD] at hh; rw [hh]
        | cons x l ih =>
          intro c c' hh
          obtain ⟨xi, xd⟩ := x
          simp only [fillD] at hh
          split at hh <;> try (simp at hh; done)
          split at hh <;> try (simp at hh; done)
          split at hh <;> try (simp at hh; done)
          rename_i c2 hc2
          rw [ih _ _ hh, (splice_spec hc2).1]
      rw [this _ _ _ hfill]; simp [zerosD, hzl]
    simp at this; omega
  obtain ⟨M', hle, hW', hcell⟩ := hW.newData us' e
  refine ⟨.slice (some ⟨w.heap.size, 0, none⟩) len len, w.alloc (.cells us' e (0, 0)), M', ?_, hle, ?_, hW'⟩
  · have hne : len * ei.size ≠ 0 := Nat.mul_ne_zero (by omega) (by omega)
    have h24' : ¬ (len * ei.size > 2 ^ 24) := by omega
    rw [hzs] at h1
    simp only [Instr.buildSlice, Sem.run_bind, run_underlying' hd1, Result.andThen_ok, run_sizeOf' hei, h24', if_false]
    simp only [hne, if_false, Sem.run_bind, run_zeroValue' hei hzv, Result.andThen_ok, Sem.run_pure]
    rw [hzs, h1]
    simp [newRow]
  · simp only [Rep]
    refine ⟨_, len, rfl, Nat.le_refl _, fun _ => ⟨_, rfl, fun q hq j hj => ?_⟩⟩
    have hlt : q * ei.size + j < cs.length := by
      have := h2.length
      simp at this
      have h3 : (q + 1) * ei.size ≤ len * ei.size := Nat.mul_le_mul_right _ (by omega)
      rw [Nat.add_mul] at h3
      omega
    have hget := List.getElem?_eq_getElem hlt
    obtain ⟨x, x1, x2⟩ := RepL.get h2 hget
    refine ⟨x, ?_, oneL_rep hW hpl.2 h2 x (List.mem_of_getElem? x1), ?_⟩
    · rw [add_own, Nat.zero_add, hcell]; simpa using x1
    · rw [hget]
      exact Rep.mono hle (EnvLe.refl _) _ _ (x2.plain (plainL_get hpl.1 hget))

/-- Data that lie beside: a block more that nobody knows of. -/
theorem WRel.beside (h : WRel B w0 M0 M E ow w) (ob : Obj) : WRel B w0 M0 M E ow (w.alloc ob) := by
  refine ⟨fun b o hb => ?_, by simp; have := h.base; omega, h.below.alloc h.base _, h.len, fun i o v ho hv => ?_, h.inj, h.mle, h.new⟩
  · have := h.fits _ _ hb
    rw [heap_alloc_old _ _ _ this.lt]; exact this
  · have hH := h.holds _ _ _ ho hv
    exact hH.frame (fun b hl hb => heap_alloc_old _ _ _ (hH.lt hl hb).1) (Mem.le_refl _) (EnvLe.refl _) (fun b hf hb => (hH.lt (Own.free_live hf) hb).2.2 hf)

theorem evNewD_sound (hT : TOk P T) {op : Op} {g : Gets} {ρ : Operand → Value} {d : D} (h : evNewD T op g ow = some d) (hg : ∀ x d, g x = some d → Rep M E d (ρ x)) (hW : WRel B w0 M0 M E ow w)
    (dst : Option Tmp) (ty : TypeId) (pos : String) (after : Array Edge) (guard : Option (Nat × Bool)) : ∃ u w' M', (execOp ρ ⟨dst, op, ty, pos, after, guard⟩).run P w = .ok (.value u) w' ∧ M.le M' ∧ Rep M' E d u ∧ WRel B w0 M0 M' E ow w' := by
  unfold evNewD at h
  split at h <;> try (simp at h; done)
  · rename_i x ats
    split at h <;> try (simp at h; done)
    · rename_i hx
      simp at h; subst h
      have h1 := hg _ _ hx
      simp only [Rep] at h1
      exact ⟨.pointer none, w, M, by simp [execOp, resolve, invoke, builtin, h1, Lib.run_unsafeSliceData_nil], Mem.le_refl _, Rep.val _, hW⟩
    · rename_i i hx
      split at h <;> try (simp at h; done)
      rename_i e s ho
      simp at h; subst h
      have h1 := hg _ _ hx
      simp only [Rep] at h1
      have hH := hW.holds _ _ _ ho h1
      simp only [Holds] at hH
      obtain ⟨⟨xs, hown, _, _⟩, hcap⟩ := hH
      obtain ⟨a, cap, hv⟩ := ownsRow_len hown
      cases a with
      | none =>
        refine ⟨.pointer none, w, M, by simp [execOp, resolve, invoke, builtin, hv, Lib.run_unsafeSliceData_nil], Mem.le_refl _, ?_, hW⟩
        simp only [Rep]
        exact ⟨none, _, cap, none, by rw [h1, hv], rfl, fun _ => rfl, fun ad hh => by simp at hh⟩
      | some ad =>
        have hc := hcap _ _ _ hv
        refine ⟨.pointer (some ad), w, M, by simp [execOp, resolve, invoke, builtin, hv, Lib.run_unsafeSliceData_row _ _ _ _ _ _ hc], Mem.le_refl _, ?_, hW⟩
        simp only [Rep]
        exact ⟨some ad, _, cap, some ad, by rw [h1, hv], rfl, fun hh => by simp at hh, fun ad' hh _ => hh⟩
  · rename_i t len ps
    split at h <;> try (simp at h; done)
    rename_i hTt
    split at h <;> try (simp at h; done)
    rename_i hTe hps
    split at h <;> try (simp at h; done)
    rename_i hcond
    split at h <;> try (simp at h; done)
    rename_i cs hfill
    split at h <;> try (simp at h; done)
    rename_i hpl
    simp at h; subst h
    obtain ⟨u, w', M', h1, h2, h3, h4⟩ := newSlice (ps := ps.map fun x => (x.1, ρ x.2)) hT hTt rfl hTe rfl rfl hcond hfill hpl (by simpa using getParts_rep hg hps) hW
    refine ⟨u, w', M', ?_, h2, h3, h4⟩
    simp only [execOp, Sem.run_bind]
    rw [h1]; rfl

theorem frzP_sound : ∀ (l : List (Nat × D)) {ow ow' : List Own} {l' : List (Nat × D)} {M : Mem} {us : List (Nat × Value)}, frzP ow l = (l', ow') → WRel B w0 M0 M E ow w → RepP M E l us → ∃ M', M.le M' ∧ WRel B w0 M0 M' E ow' w ∧ RepP M' E l' us
  | [], ow, ow', l', M, us, h, hW, hu => by simp only [frzP] at h; simp at h; obtain ⟨rfl, rfl⟩ := h; cases hu; exact ⟨M, Mem.le_refl _, hW, .nil⟩
  | (i, d) :: ds, ow, ow', l', M, us, h, hW, hu => by
    simp only [frzP] at h
    cases hd : frz ow d with
    | mk d' ow1 =>
      rw [hd] at h
      simp only at h
      cases hl : frzP ow1 ds with
      | mk ds' ow2 =>
        rw [hl] at h
        simp at h; obtain ⟨rfl, rfl⟩ := h
        cases hu with
        | cons hu1 hr =>
          obtain ⟨M1, h1, h2, h3⟩ := frz_sound d hd hW hu1
          have mono : ∀ {M1 : Mem} {l : List (Nat × D)} {us : List (Nat × Value)}, M.le M1 → RepP M E l us → RepP M1 E l us := by
            intro M1 l us hle hp
            induction hp with
            | nil => exact .nil
            | cons hq _ ih => exact .cons (Rep.mono hle (EnvLe.refl _) _ _ hq) ih
          obtain ⟨M2, h4, h5, h6⟩ := frzP_sound ds hl h2 (mono h1 hr)
          exact ⟨M2, Mem.le_trans h1 h4, h5, .cons (Rep.mono h4 (EnvLe.refl _) _ _ h3) h6⟩

theorem evNew_sound (hT : TOk P T) {op : Op} {g : Gets} {ρ : Operand → Value} {d : D} {ow' : List Own} (h : evNew T op g ow = some (d, ow')) (hg : ∀ x d, g x = some d → Rep M E d (ρ x)) (hW : WRel B w0 M0 M E ow w)
    (dst : Option Tmp) (ty : TypeId) (pos : String) (after : Array Edge) (guard : Option (Nat × Bool)) : ∃ u w' M', (execOp ρ ⟨dst, op, ty, pos, after, guard⟩).run P w = .ok (.value u) w' ∧ M.le M' ∧ Rep M' E d u ∧ WRel B w0 M0 M' E ow' w' := by
  unfold evNew at h
  split at h
  · rename_i t len ps
    split at h <;> try (simp at h; done)
    rename_i hTt
    split at h <;> try (simp at h; done)
    rename_i ds0 hTe hps
    split at h
    rename_i ds ow1 hfz
    split at h <;> try (simp at h; done)
    rename_i hcond
    split at h <;> try (simp at h; done)
    rename_i cs hfill
    split at h <;> try (simp at h; done)
    rename_i hpl
    simp at h; obtain ⟨rfl, rfl⟩ := h
    obtain ⟨M1, hle, hW1, hP1⟩ := frzP_sound ds0 hfz hW (getParts_rep hg hps)
    obtain ⟨u, w', M', h1, h2, h3, h4⟩ := newSlice (ps := ps.map fun x => (x.1, ρ x.2)) hT hTt rfl hTe rfl rfl hcond hfill hpl (by simpa using hP1) hW1
    refine ⟨u, w', M', ?_, Mem.le_trans hle h2, h3, h4⟩
    simp only [execOp, Sem.run_bind]
    rw [h1]; rfl
  · split at h <;> try (simp at h; done)
    rename_i dd hd
    simp at h; obtain ⟨rfl, rfl⟩ := h
    exact evNewD_sound hT hd hg hW dst ty pos after guard
end
end Go.Sx
