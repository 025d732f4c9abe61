import Derived.Test.YtnccclpjcidmeaaGreatDoorSxC
namespace Go.Sx
open Go Go.RowKit

section
variable {P : Program} {T : TT} {B : Nat} {w0 w : World} {M0 M : Mem} {E : List Value} {ow : List Own}

/-! ### loading -/
theorem run_loadVar_one {t : TypeId} {d : TypeDesc} {ad : Addr} {x : Value} (ht : P.underlying t = some d) (ha : aggOf d = false) (hc : w.cell? ad = some x) :
    (loadVar t ad).run P w = .ok x w := by
  simp [loadVar, run_isAgg' ht, ha, hc]

theorem run_loadVar_agg {t : TypeId} {d : TypeDesc} {i : TypeInfo} {ad : Addr} {cs : List Value} (ht : P.underlying t = some d) (hi : P.info? t = some i) (ha : aggOf d = true)
    (hl : cs.length = i.size) (hc : ∀ j v, cs[j]? = some v → w.cell? (ad.add j) = some v) : (loadVar t ad).run P w = .ok (.agg cs.toArray) w := by
  have := run_loadCells_list (P := P) (w := w) ad cs hc
  rw [hl] at this
  simp [loadVar, run_isAgg' ht, ha, run_sizeOf' hi, this]

theorem run_sureAddr (ad : Addr) : (Instr.sureAddr (.pointer (some ad))).run P w = .ok ad w := rfl

theorem WRel.row (h : WRel B w0 M0 M E ow w) {i : Nat} {v : Value} (hE : E[i]? = some v) : ∃ o, ow[i]? = some o ∧ Holds B M E w o v := by
  have hi : i < E.length := by
    rcases Nat.lt_or_ge i E.length with h' | h'
    · exact h'
    · simp [List.getElem?_eq_none h'] at hE
  have ho : ow[i]? = some (ow[i]'(by rw [← h.len]; exact hi)) := List.getElem?_eq_getElem _
  exact ⟨_, ho, h.holds _ _ _ ho hE⟩

theorem WRel.env (h : WRel B w0 M0 M E ow w) {i : Nat} {o : Own} (ho : ow[i]? = some o) : ∃ v, E[i]? = some v ∧ Holds B M E w o v := by
  have hi : i < ow.length := by
    rcases Nat.lt_or_ge i ow.length with h' | h'
    · exact h'
    · simp [List.getElem?_eq_none h'] at ho
  have hE : E[i]? = some (E[i]'(by rw [h.len]; exact hi)) := List.getElem?_eq_getElem _
  exact ⟨_, hE, h.holds _ _ _ ho hE⟩

theorem RepL.ptCells {ad : Addr} {f : Nat → D} : ∀ (n o : Nat), (∀ j, j < n → ∃ x, M.cell (ad.add (o + j)) = some x ∧ x.oneCell' = true ∧ Rep M [] (f (o + j)) x) →
    ∃ cs : List Value, cs.length = n ∧ RepL M E (ptCells f o n) cs ∧ ∀ j v, cs[j]? = some v → M.cell (ad.add (o + j)) = some v
  | 0, o, _ => ⟨[], rfl, RepL.nil, by simp⟩
  | n + 1, o, h => by
    obtain ⟨x, hx, _, hr⟩ := h 0 (by omega)
    obtain ⟨cs, hl, hrep, hc⟩ := RepL.ptCells n (o + 1) (fun j hj => by
      obtain ⟨y, h1, h2, h3⟩ := h (j + 1) (by omega)
      exact ⟨y, by rw [show o + 1 + j = o + (j + 1) by omega]; exact h1, h2, by rw [show o + 1 + j = o + (j + 1) by omega]; exact h3⟩)
    refine ⟨x :: cs, by simp [hl], RepL.cons (Rep.mono (Mem.le_refl _) (EnvLe.nil _) _ _ hr) hrep, fun j v hj => ?_⟩
    cases j with
    | zero => simp at hj; subst hj; exact hx
    | succ j => simp at hj; have := hc j v hj; rw [show o + (j + 1) = o + 1 + j by omega]; exact this

theorem RepL.rowCells {f : Nat → Nat → D} {xs : List Value} {a sz : Nat} : ∀ (n o : Nat), o + n ≤ sz → (∀ j, j < sz → ∃ x, xs[a * sz + j]? = some x ∧ x.oneCell' = true ∧ Rep M [] (f a j) x) →
    ∃ cs : List Value, cs.length = n ∧ RepL M E (rowCells f a o n) cs ∧ ∀ j v, cs[j]? = some v → xs[a * sz + (o + j)]? = some v
  | 0, o, _, _ => ⟨[], rfl, RepL.nil, by simp⟩
  | n + 1, o, ho, h => by
    obtain ⟨x, hx, _, hr⟩ := h o (by omega)
    obtain ⟨cs, hl, hrep, hc⟩ := RepL.rowCells n (o + 1) (by omega) h
    refine ⟨x :: cs, by simp [hl], RepL.cons (Rep.mono (Mem.le_refl _) (EnvLe.nil _) _ _ hr) hrep, fun j v hj => ?_⟩
    cases j with
    | zero => simp at hj; subst hj; exact hx
    | succ j => simp at hj; have := hc j v hj; rw [show o + (j + 1) = o + 1 + j by omega]; exact this

theorem Holds.toRow {o : Own} {v : Value} {e sz n : Nat} {f : Nat → Nat → D} (h : Holds B M E w o v) (hr : rowOf o = some (e, sz, n, f)) : HoldsRow B M w e sz n f v := by
  cases o <;> simp [rowOf] at hr
  · obtain ⟨rfl, rfl, rfl, rfl⟩ := hr; exact h
  · obtain ⟨rfl, rfl, rfl, rfl⟩ := hr; exact h.1

/-- The block of a row that has an element. -/
theorem ownsRow_some {e : TypeId} {sz n : Nat} {v : Value} {xs : List Value} (h : w.ownsRow B e sz v n xs) (hn : 0 < n) :
    ∃ g cap cur, v = .slice (some ⟨g, 0, none⟩) n cap ∧ B ≤ g ∧ w.heap[g]? = some (.cells cur e (0, 0)) ∧ n ≤ cap ∧ cur.size = cap * sz ∧ cur.toList.take (n * sz) = xs := by
  rcases h.2 with ⟨_, h0⟩ | ⟨g, cap, cur, h1, h2, h3, h4, _, h5, h6⟩
  · omega
  · exact ⟨g, cap, cur, h1, h2, h3, h4, h5, h6⟩

theorem evLoad_sound {t : TypeId} {ti : TI} {p d : D} {u : Value} {vs : List DP} (hti : tiOf P t = some ti) (h : evLoad ti ow p = some (vs, d)) (hvs : AllP vs) (hW : WRel B w0 M0 M E ow w) (hp : Rep M E p u) :
    ∃ x, (Instr.loadAt t u).run P w = .ok x w ∧ Rep M E d x := by
  obtain ⟨i, ds, hi, hd, rfl⟩ := tiOf_some hti
  cases p <;> simp only [evLoad] at h <;> try (simp at h; done)
  case own k off =>
    simp only [Rep] at hp
    obtain ⟨b, hE, rfl⟩ := hp
    split at h
    · rename_i tt l ho
      have hH := hW.holds _ _ _ ho hE
      simp only [Holds] at hH
      obtain ⟨b', cs, hb', hheap, hrep, _, _⟩ := hH
      simp at hb'; subst hb'
      split at h
      · rename_i hagg
        split at h
        · rename_i c hc
          simp at h; obtain ⟨rfl, rfl⟩ := h
          obtain ⟨us, hus, hrl⟩ := RepL.cut hrep hc
          obtain ⟨h1, h2, h3⟩ := cut_spec hus
          refine ⟨.agg us.toArray, ?_, by simp only [Rep]; exact ⟨us.toArray, rfl, by simpa using hrl⟩⟩
          simp only [Instr.loadAt, Sem.run_bind, run_sureAddr, Result.andThen_ok]
          refine run_loadVar_agg hd hi hagg h1 (fun j v hj => ?_)
          rw [add_own, cell_of_row w b (off + j) cs tt (0, 0) hheap]
          have hjl : j < i.size := by
            rcases Nat.lt_or_ge j i.size with hh | hh
            · exact hh
            · rw [List.getElem?_eq_none (by omega)] at hj; simp at hj
          rw [← Array.getElem?_toList, ← h3 j hjl, hj]
        · simp at h
      · rename_i hagg
        split at h
        · rename_i dd hl
          simp at h; obtain ⟨rfl, rfl⟩ := h
          obtain ⟨x, hx, hr⟩ := RepL.get hrep hl
          refine ⟨x, ?_, hr⟩
          simp only [Instr.loadAt, Sem.run_bind, run_sureAddr, Result.andThen_ok]
          refine run_loadVar_one hd (by simpa using hagg) ?_
          rw [cell_of_row w b off cs tt (0, 0) hheap, ← Array.getElem?_toList, hx]
        · simp at h
    · simp at h
  case pt m f =>
    simp only [Rep] at hp
    obtain ⟨ad, rfl, hc⟩ := hp
    split at h
    · rename_i hagg
      split at h
      · rename_i hle
        simp at h; obtain ⟨rfl, rfl⟩ := h
        obtain ⟨cs, hl, hrep, hcell⟩ := RepL.ptCells (M := M) (E := E) (ad := ad) (f := f) i.size 0 (fun j hj => by simpa using hc j (by omega))
        refine ⟨.agg cs.toArray, ?_, by simp only [Rep]; exact ⟨cs.toArray, rfl, by simpa using hrep⟩⟩
        simp only [Instr.loadAt, Sem.run_bind, run_sureAddr, Result.andThen_ok]
        exact run_loadVar_agg hd hi hagg hl (fun j v hj => Mem.cell_fits hW.fits (by simpa using hcell j v hj))
      · simp at h
    · rename_i hagg
      split at h
      · rename_i hm
        simp at h; obtain ⟨rfl, rfl⟩ := h
        obtain ⟨x, hx, _, hr⟩ := hc 0 hm
        refine ⟨x, ?_, Rep.mono (Mem.le_refl _) (EnvLe.nil _) _ _ hr⟩
        simp only [Instr.loadAt, Sem.run_bind, run_sureAddr, Result.andThen_ok]
        refine run_loadVar_one hd (by simpa using hagg) (Mem.cell_fits hW.fits ?_)
        simpa [Addr.add] using hx
      · simp at h
  case rp k sz a off =>
    simp only [Rep] at hp
    obtain ⟨hv, b, hE, hb, rfl⟩ := hp
    split at h <;> try (simp at h; done)
    rename_i o ho
    split at h
    · rename_i e sz' n f hro
      obtain ⟨xs, hown, hrep, _⟩ := (hW.holds _ _ _ ho hE).toRow hro
      split at h
      · rename_i hsz
        obtain ⟨rfl, hle⟩ := hsz
        have key : ∀ (hlt : a < n), (∀ j, j < sz → ∃ x, xs[a * sz + j]? = some x ∧ x.oneCell' = true ∧ Rep M [] (f a j) x) ∧ ∀ j x, j < sz → xs[a * sz + j]? = some x → w.cell? (b.add (a * sz + j)) = some x := by
          intro hlt
          refine ⟨hrep a hlt, fun j x hj hx => ?_⟩
          obtain ⟨g, cap, cur, h1, h2, h3, h4, h5, h6⟩ := ownsRow_some hown (by omega)
          rw [h1] at hb
          simp [rowBase] at hb
          subst hb
          rw [add_own, cell_of_row w g _ cur e (0, 0) h3, ← Array.getElem?_toList, Nat.zero_add]
          rw [← h6, List.getElem?_take_of_lt] at hx
          · exact hx
          · calc a * sz + j < a * sz + sz := by omega
              _ = (a + 1) * sz := by rw [Nat.add_mul]; omega
              _ ≤ n * sz := Nat.mul_le_mul_right _ (by omega)
        split at h
        · rename_i hagg
          simp at h; obtain ⟨rfl, rfl⟩ := h
          have hlt : a < n := by simpa [AllP] using hvs
          obtain ⟨k1, k2⟩ := key hlt
          obtain ⟨cs, hl, hrl, hcell⟩ := RepL.rowCells (M := M) (E := E) i.size off hle k1
          refine ⟨.agg cs.toArray, ?_, by simp only [Rep]; exact ⟨cs.toArray, rfl, by simpa using hrl⟩⟩
          simp only [Instr.loadAt, Sem.run_bind, run_sureAddr, Result.andThen_ok]
          refine run_loadVar_agg hd hi hagg hl (fun j v hj => ?_)
          have hjl : j < i.size := by
            rcases Nat.lt_or_ge j i.size with hh | hh
            · exact hh
            · rw [List.getElem?_eq_none (by omega)] at hj; simp at hj
          rw [add_add', Nat.add_assoc]
          exact k2 _ _ (by omega) (hcell j v hj)
        · rename_i hagg
          split at h
          · rename_i hs1
            simp at h; obtain ⟨rfl, rfl⟩ := h
            have hlt : a < n := by simpa [AllP] using hvs
            obtain ⟨k1, k2⟩ := key hlt
            obtain ⟨x, hx, _, hr⟩ := k1 off (by omega)
            refine ⟨x, ?_, Rep.mono (Mem.le_refl _) (EnvLe.nil _) _ _ hr⟩
            simp only [Instr.loadAt, Sem.run_bind, run_sureAddr, Result.andThen_ok]
            exact run_loadVar_one hd (by simpa using hagg) (k2 _ _ (by omega) hx)
          · simp at h
      · simp at h
    · simp at h
end
end Go.Sx
