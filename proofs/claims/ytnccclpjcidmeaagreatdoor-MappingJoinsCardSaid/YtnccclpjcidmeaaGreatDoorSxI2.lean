import Derived.Test.YtnccclpjcidmeaaGreatDoorSxI
namespace Go.Sx
open Go Go.RowKit

section
variable {P : Program} {T : TT} {B : Nat} {w0 w w' : World} {M0 M M' : Mem} {E E' : List Value} {ow : List Own}

theorem WRel.freeze (h : WRel B w0 M0 M E ow w) {i : Nat} {o : Own} {e : TypeId} {sz n : Nat} {f : Nat → Nat → D} {u : Value} (ho : ow[i]? = some o) (hro : rowOf o = some (e, sz, n, f)) (hE : E[i]? = some u) :
    ∃ M', M.le M' ∧ WRel B w0 M0 M' E (setOwn ow i (.frozen sz n f)) w ∧ Rep M' E (.sl sz n f) u := by
  have hH := h.holds _ _ _ ho hE
  have hlive : o.live = true := by cases o <;> simp_all [rowOf, Own.live]
  obtain ⟨xs, hown, hrep, hMg⟩ := hH.toRow hro
  have hshape : ∃ M', M.le M' ∧ M'.fits w ∧ (∀ b o, M' b = some o → M0 b = some o ∨ B ≤ b) ∧ Rep M' [] (.sl sz n f) u ∧ (∀ b, M b = none → blkOf u ≠ some b → M' b = none) := by
    rcases hown.2 with ⟨rfl, rfl⟩ | ⟨g, cap, cur, rfl, h2, h3, h4, h5, h6, h7⟩
    · refine ⟨M, Mem.le_refl _, h.fits, h.new, ?_, fun b hb _ => hb⟩
      simp only [Rep]
      exact ⟨none, 0, rfl, Nat.le_refl _, fun h0 => by omega⟩
    · have hg : M g = none := hMg g rfl
      refine ⟨fun b => if b = g then some (.cells cur e (0, 0)) else M b, fun b o hb => ?_, fun b o hb => ?_, fun b o hb => ?_, ?_, fun b hb hne => ?_⟩
      · have : b ≠ g := fun e => by subst e; rw [hg] at hb; simp at hb
        simp [this, hb]
      · by_cases hbg : b = g
        · subst hbg; simp at hb; subst hb; exact h3
        · simp [hbg] at hb; exact h.fits _ _ hb
      · by_cases hbg : b = g
        · subst hbg; exact .inr h2
        · simp [hbg] at hb; exact h.new _ _ hb
      · simp only [Rep]
        refine ⟨_, cap, rfl, h4, fun _ => ⟨_, rfl, fun a ha j hj => ?_⟩⟩
        obtain ⟨x, x1, x2, x3⟩ := hrep a ha j hj
        refine ⟨x, ?_, x2, Rep.mono (fun b o hb => ?_) (EnvLe.refl _) _ _ x3⟩
        · rw [add_own, Nat.zero_add]
          have hpos : a * sz + j < n * sz := by
            have : (a + 1) * sz ≤ n * sz := Nat.mul_le_mul_right _ (by omega)
            rw [Nat.add_mul] at this
            omega
          rw [← h7, List.getElem?_take_of_lt hpos] at x1
          simpa [Mem.cell] using x1
        · have : b ≠ g := fun e => by subst e; rw [hg] at hb; simp at hb
          simp [this, hb]
      · have : b ≠ g := fun e => by subst e; exact hne rfl
        simp [this, hb]
  obtain ⟨M', hle, hfit, hnew, hrep', hnone⟩ := hshape
  refine ⟨M', hle, ⟨hfit, h.base, h.below, by simp [length_setOwn, h.len], fun j p v hp hv => ?_, fun j k p p' v v' b hp hp' hl1 hl2 hv hv' hb hb' => ?_, Mem.le_trans h.mle hle, hnew⟩, Rep.mono (Mem.le_refl _) (EnvLe.nil _) _ _ hrep'⟩
  · rw [getElem?_setOwn] at hp
    split at hp
    · rename_i hij; subst hij
      rw [if_pos (get_lt ho)] at hp
      simp at hp; subst hp
      rw [hE] at hv; simp at hv; subst hv
      simp only [Holds]; exact hrep'
    · rename_i hij
      have hHj := h.holds _ _ _ hp hv
      refine hHj.frame (fun _ _ _ => rfl) hle (EnvLe.refl _) (fun b hf hb => hnone b ((hHj.lt (Own.free_live hf) hb).2.2 hf) (fun hbu => ?_))
      exact hij (h.inj _ _ _ _ _ _ _ ho hp hlive (Own.free_live hf) hE hv hbu hb)
  · have back : ∀ (j : Nat) (p : Own), (setOwn ow i (.frozen sz n f))[j]? = some p → p.live = true → ow[j]? = some p := by
      intro j p hp hl
      rw [getElem?_setOwn] at hp
      split at hp
      · rename_i hij; subst hij
        rw [if_pos (get_lt ho)] at hp
        simp at hp; subst hp; simp [Own.live] at hl
      · exact hp
    exact h.inj _ _ _ _ _ _ _ (back _ _ hp hl1) (back _ _ hp' hl2) hl1 hl2 hv hv' hb hb'

mutual
theorem frz_sound : ∀ (d : D) {ow ow' : List Own} {d' : D} {M : Mem} {u : Value}, frz ow d = (d', ow') → WRel B w0 M0 M E ow w → Rep M E d u → ∃ M', M.le M' ∧ WRel B w0 M0 M' E ow' w ∧ Rep M' E d' u
  | .row i, ow, ow', d', M, u, h, hW, hu => by
    simp only [frz] at h
    split at h
    · rename_i e sz n f ho
      simp at h; obtain ⟨rfl, rfl⟩ := h
      simp only [Rep] at hu
      exact hW.freeze ho rfl hu
    · rename_i e s ho
      simp at h; obtain ⟨rfl, rfl⟩ := h
      simp only [Rep] at hu
      exact hW.freeze ho rfl hu
    · rename_i sz n f ho
      simp at h; obtain ⟨rfl, rfl⟩ := h
      simp only [Rep] at hu
      have hH := hW.holds _ _ _ ho hu
      simp only [Holds] at hH
      exact ⟨M, Mem.le_refl _, hW, Rep.mono (Mem.le_refl _) (EnvLe.nil _) _ _ hH⟩
    · simp at h; obtain ⟨rfl, rfl⟩ := h
      exact ⟨M, Mem.le_refl _, hW, hu⟩
  | .ag l, ow, ow', d', M, u, h, hW, hu => by
    simp only [frz] at h
    cases hl : frzL ow l with
    | mk l' ow1 =>
      rw [hl] at h
      simp at h; obtain ⟨rfl, rfl⟩ := h
      simp only [Rep] at hu
      obtain ⟨us, rfl, hus⟩ := hu
      obtain ⟨M', h1, h2, h3⟩ := frzL_sound l hl hW hus
      exact ⟨M', h1, h2, by simp only [Rep]; exact ⟨us, rfl, h3⟩⟩
  | .tu l, ow, ow', d', M, u, h, hW, hu => by
    simp only [frz] at h
    cases hl : frzL ow l with
    | mk l' ow1 =>
      rw [hl] at h
      simp at h; obtain ⟨rfl, rfl⟩ := h
      simp only [Rep] at hu
      obtain ⟨us, rfl, hus⟩ := hu
      obtain ⟨M', h1, h2, h3⟩ := frzL_sound l hl hW hus
      exact ⟨M', h1, h2, by simp only [Rep]; exact ⟨us, rfl, h3⟩⟩
  | .v x, ow, ow', d', M, u, h, hW, hu => by simp only [frz] at h; simp at h; obtain ⟨rfl, rfl⟩ := h; exact ⟨M, Mem.le_refl _, hW, hu⟩
  | .sl a b c, ow, ow', d', M, u, h, hW, hu => by simp only [frz] at h; simp at h; obtain ⟨rfl, rfl⟩ := h; exact ⟨M, Mem.le_refl _, hW, hu⟩
  | .pt a b, ow, ow', d', M, u, h, hW, hu => by simp only [frz] at h; simp at h; obtain ⟨rfl, rfl⟩ := h; exact ⟨M, Mem.le_refl _, hW, hu⟩
  | .own a b, ow, ow', d', M, u, h, hW, hu => by simp only [frz] at h; simp at h; obtain ⟨rfl, rfl⟩ := h; exact ⟨M, Mem.le_refl _, hW, hu⟩
  | .rp a b c e, ow, ow', d', M, u, h, hW, hu => by simp only [frz] at h; simp at h; obtain ⟨rfl, rfl⟩ := h; exact ⟨M, Mem.le_refl _, hW, hu⟩
  | .fn a b, ow, ow', d', M, u, h, hW, hu => by simp only [frz] at h; simp at h; obtain ⟨rfl, rfl⟩ := h; exact ⟨M, Mem.le_refl _, hW, hu⟩
  | .ifc a b, ow, ow', d', M, u, h, hW, hu => by simp only [frz] at h; simp at h; obtain ⟨rfl, rfl⟩ := h; exact ⟨M, Mem.le_refl _, hW, hu⟩
  | .yl a, ow, ow', d', M, u, h, hW, hu => by simp only [frz] at h; simp at h; obtain ⟨rfl, rfl⟩ := h; exact ⟨M, Mem.le_refl _, hW, hu⟩
  | .mp a, ow, ow', d', M, u, h, hW, hu => by simp only [frz] at h; simp at h; obtain ⟨rfl, rfl⟩ := h; exact ⟨M, Mem.le_refl _, hW, hu⟩
  | .os a b c, ow, ow', d', M, u, h, hW, hu => by simp only [frz] at h; simp at h; obtain ⟨rfl, rfl⟩ := h; exact ⟨M, Mem.le_refl _, hW, hu⟩
  | .sd a, ow, ow', d', M, u, h, hW, hu => by simp only [frz] at h; simp at h; obtain ⟨rfl, rfl⟩ := h; exact ⟨M, Mem.le_refl _, hW, hu⟩
  | .junk, ow, ow', d', M, u, h, hW, hu => by simp only [frz] at h; simp at h; obtain ⟨rfl, rfl⟩ := h; exact ⟨M, Mem.le_refl _, hW, hu⟩
theorem frzL_sound : ∀ (l : List D) {ow ow' : List Own} {l' : List D} {M : Mem} {us : List Value}, frzL ow l = (l', ow') → WRel B w0 M0 M E ow w → RepL M E l us → ∃ M', M.le M' ∧ WRel B w0 M0 M' E ow' w ∧ RepL M' E l' us
  | [], ow, ow', l', M, us, h, hW, hu => by simp only [frzL] at h; simp at h; obtain ⟨rfl, rfl⟩ := h; exact ⟨M, Mem.le_refl _, hW, hu⟩
  | d :: ds, ow, ow', l', M, us, h, hW, hu => by
    simp only [frzL] at h
    cases hd : frz ow d with
    | mk d' ow1 =>
      rw [hd] at h
      simp only at h
      cases hl : frzL ow1 ds with
      | mk ds' ow2 =>
        rw [hl] at h
        simp at h; obtain ⟨rfl, rfl⟩ := h
        simp only [RepL] at hu
        obtain ⟨u, r, rfl, hu1, hr⟩ := hu
        obtain ⟨M1, h1, h2, h3⟩ := frz_sound d hd hW hu1
        obtain ⟨M2, h4, h5, h6⟩ := frzL_sound ds hl h2 (RepL.mono h1 (EnvLe.refl _) _ _ hr)
        exact ⟨M2, Mem.le_trans h1 h4, h5, RepL.cons (Rep.mono h4 (EnvLe.refl _) _ _ h3) h6⟩
end


theorem res_sound (hW : WRel B w0 M0 M E ow w) {d : D} {u : Value} (h : Rep M E d u) : Rep M E (res ow d) u := by
  cases d <;> simp only [res] <;> try exact h
  case row i =>
    split
    · rename_i sz n f ho
      simp only [Rep] at h
      have hH := hW.holds _ _ _ ho h
      simp only [Holds] at hH
      exact Rep.mono (Mem.le_refl _) (EnvLe.nil _) _ _ hH
    · exact h

mutual
theorem resA_sound (hW : WRel B w0 M0 M E ow w) : ∀ (d : D) (u : Value), Rep M E d u → Rep M E (resA ow d) u
  | .row i, u, h => by
    simp only [resA]
    split
    · rename_i sz n f ho
      simp only [Rep] at h
      have hH := hW.holds _ _ _ ho h
      simp only [Holds] at hH
      exact Rep.mono (Mem.le_refl _) (EnvLe.nil _) _ _ hH
    · exact h
  | .ag l, u, h => by
    simp only [Rep, resA] at h ⊢
    obtain ⟨us, rfl, hl⟩ := h
    exact ⟨us, rfl, resL_sound hW _ _ hl⟩
  | .tu l, u, h => by
    simp only [Rep, resA] at h ⊢
    obtain ⟨us, rfl, hl⟩ := h
    exact ⟨us, rfl, resL_sound hW _ _ hl⟩
  | .v _, u, h => by simpa only [resA] using h
  | .sl _ _ _, u, h => by simpa only [resA] using h
  | .pt _ _, u, h => by simpa only [resA] using h
  | .own _ _, u, h => by simpa only [resA] using h
  | .rp _ _ _ _, u, h => by simpa only [resA] using h
  | .fn _ _, u, h => by simpa only [resA] using h
  | .ifc _ _, u, h => by simpa only [resA] using h
  | .yl _, u, h => by simpa only [resA] using h
  | .mp _, u, h => by simpa only [resA] using h
  | .os _ _ _, u, h => by simpa only [resA] using h
  | .sd _, u, h => by simpa only [resA] using h
  | .junk, u, h => by simpa only [resA] using h
theorem resL_sound (hW : WRel B w0 M0 M E ow w) : ∀ (l : List D) (us : List Value), RepL M E l us → RepL M E (resL ow l) us
  | [], us, h => by simpa only [resL] using h
  | d :: ds, us, h => by
    simp only [RepL, resL] at h ⊢
    obtain ⟨u, r, rfl, hd, hr⟩ := h
    exact ⟨u, r, rfl, resA_sound hW _ _ hd, resL_sound hW _ _ hr⟩
end
end
end Go.Sx
