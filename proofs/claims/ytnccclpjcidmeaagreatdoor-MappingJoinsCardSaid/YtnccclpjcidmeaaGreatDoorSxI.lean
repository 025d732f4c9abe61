import Derived.Test.YtnccclpjcidmeaaGreatDoorSxH
namespace Go.Sx
open Go Go.RowKit

section
variable {P : Program} {T : TT} {B : Nat} {w0 w w' : World} {M0 M M' : Mem} {E E' : List Value} {ow : List Own}

theorem lt_of_heap {b : Nat} {o : Obj} (h : w.heap[b]? = some o) : b < w.heap.size := by
  rcases Nat.lt_or_ge b w.heap.size with h' | h'
  · exact h'
  · simp [Array.getElem?_eq_none h'] at h

theorem Fits.lt {o : Obj} {b : Nat} (h : Fits o (w.heap[b]?)) : b < w.heap.size := by
  obtain ⟨y, hy⟩ := h.some
  exact lt_of_heap hy

theorem HoldsRow.lt {e sz n : Nat} {f : Nat → Nat → D} {v : Value} {b : Nat} (h : HoldsRow B M w e sz n f v) (hb : blkOf v = some b) : b < w.heap.size ∧ B ≤ b ∧ M b = none := by
  obtain ⟨xs, hown, _, hm⟩ := h
  rcases hown.2 with ⟨rfl, _⟩ | ⟨g, cap, cur, rfl, h2, h3, _⟩
  · simp [blkOf] at hb
  · simp [blkOf] at hb; subst hb
    exact ⟨lt_of_heap h3, h2, hm g rfl⟩

theorem Holds.lt {o : Own} {v : Value} {b : Nat} (h : Holds B M E w o v) (hl : o.live = true) (hb : blkOf v = some b) : b < w.heap.size ∧ B ≤ b ∧ (o.free = true → M b = none) := by
  cases o with
  | cells t l =>
    simp only [Holds] at h
    obtain ⟨b', cs, rfl, hh, _, hm, hB⟩ := h
    simp [blkOf] at hb; subst hb
    exact ⟨lt_of_heap hh, hB, fun _ => hm⟩
  | row e sz n f => obtain ⟨h1, h2, h3⟩ := HoldsRow.lt h hb; exact ⟨h1, h2, fun _ => h3⟩
  | bytes e s => obtain ⟨h1, h2, h3⟩ := HoldsRow.lt h.1 hb; exact ⟨h1, h2, fun _ => h3⟩
  | map k v sh f =>
    simp only [Holds] at h
    obtain ⟨b', es, ck, rfl, hh, _, hm, hB⟩ := h
    simp [blkOf] at hb; subst hb
    exact ⟨lt_of_heap hh, hB, fun _ => hm⟩
  | lp st pe =>
    simp only [Holds] at h
    obtain ⟨b', r, rfl, hh, _, _, _, hB⟩ := h
    simp [blkOf] at hb; subst hb
    exact ⟨lt_of_heap hh, hB, fun hf => by simp [Own.free] at hf⟩
  | defd =>
    simp only [Holds] at h
    obtain ⟨b', rfl, hh, hm, hB⟩ := h
    simp [blkOf] at hb; subst hb
    exact ⟨lt_of_heap hh, hB, fun _ => hm⟩
  | iter =>
    simp only [Holds] at h
    obtain ⟨b', rfl, hh, hm, hB⟩ := h
    simp [blkOf] at hb; subst hb
    exact ⟨lt_of_heap hh, hB, fun _ => hm⟩
  | frozen => simp [Own.live] at hl
  | gone => simp [Own.live] at hl

theorem Own.free_live {o : Own} (h : o.free = true) : o.live = true := by cases o <;> simp_all [Own.free, Own.live]

theorem blk_of_own {v : Value} {g : Nat} (h : v.ownBlock = some g) : blkOf v = some g := by
  cases v <;> simp_all [Value.ownBlock, blkOf]
  rename_i a' _ _
  cases a' <;> simp_all

theorem HoldsRow.frame {e sz n : Nat} {f : Nat → Nat → D} {v : Value} (h : HoldsRow B M w e sz n f v) (hw : ∀ b, blkOf v = some b → w'.heap[b]? = w.heap[b]?) (hM : M.le M') (hn : ∀ b, blkOf v = some b → M' b = none) : HoldsRow B M' w' e sz n f v := by
  obtain ⟨xs, hown, hr, hm⟩ := h
  refine ⟨xs, ⟨hown.1, ?_⟩, fun a ha j hj => ?_, fun g hg => hn g (blk_of_own hg)⟩
  · rcases hown.2 with h1 | ⟨g, cap, cur, h1, h2, h3, h4⟩
    · exact .inl h1
    · exact .inr ⟨g, cap, cur, h1, h2, by rw [hw g (by rw [h1]; rfl)]; exact h3, h4⟩
  · obtain ⟨x, h1, h2, h3⟩ := hr a ha j hj
    exact ⟨x, h1, h2, Rep.mono hM (EnvLe.refl _) _ _ h3⟩

theorem MapRep.mono {sh : KS} {f : KV → Option D} {es : List MapEntry} (h : MapRep M E sh f es) (hM : M.le M') (hE : EnvLe E E') : MapRep M' E' sh f es :=
  ⟨fun k d hd => by obtain ⟨j, e, h1, h2, h3⟩ := h.has k d hd; exact ⟨j, e, h1, h2, Rep.mono hM hE _ _ h3⟩, h.lacks, h.keys, h.once⟩

theorem Holds.frame {o : Own} {v : Value} (h : Holds B M E w o v) (hw : ∀ b, o.live = true → blkOf v = some b → w'.heap[b]? = w.heap[b]?) (hM : M.le M') (hE : EnvLe E E')
    (hn : ∀ b, o.free = true → blkOf v = some b → M' b = none) : Holds B M' E' w' o v := by
  cases o with
  | cells t l =>
    simp only [Holds] at h ⊢
    obtain ⟨b', cs, rfl, hh, hr, hm, hB⟩ := h
    exact ⟨b', cs, rfl, by rw [hw b' rfl rfl]; exact hh, RepL.mono hM hE _ _ hr, hn b' rfl rfl, hB⟩
  | row e sz n f => exact HoldsRow.frame h (fun b hb => hw b rfl hb) hM (fun b hb => hn b rfl hb)
  | bytes e s => exact ⟨HoldsRow.frame h.1 (fun b hb => hw b rfl hb) hM (fun b hb => hn b rfl hb), h.2⟩
  | map k v sh f =>
    simp only [Holds] at h ⊢
    obtain ⟨b', es, ck, rfl, hh, hr, hm, hB⟩ := h
    exact ⟨b', es, ck, rfl, by rw [hw b' rfl rfl]; exact hh, hr.mono hM hE, hn b' rfl rfl, hB⟩
  | lp st pe =>
    simp only [Holds] at h ⊢
    obtain ⟨b', r, rfl, hh, h1, h2, ⟨r0, h3⟩, hB⟩ := h
    exact ⟨b', r, rfl, by rw [hw b' rfl rfl]; exact hh, h1, h2, ⟨r0, hM _ _ h3⟩, hB⟩
  | defd =>
    simp only [Holds] at h ⊢
    obtain ⟨b', rfl, hh, hm, hB⟩ := h
    exact ⟨b', rfl, by rw [hw b' rfl rfl]; exact hh, hn b' rfl rfl, hB⟩
  | iter s pos =>
    simp only [Holds] at h ⊢
    obtain ⟨b', rfl, hh, hm, hB⟩ := h
    exact ⟨b', rfl, by rw [hw b' rfl rfl]; exact hh, hn b' rfl rfl, hB⟩
  | frozen sz n f =>
    simp only [Holds] at h ⊢
    exact Rep.mono hM (EnvLe.refl _) _ _ h
  | gone => exact h

theorem getElem?_append_one {α : Type} {l : List α} {x y : α} {i : Nat} (h : (l ++ [x])[i]? = some y) : l[i]? = some y ∨ (i = l.length ∧ x = y) := by
  rcases Nat.lt_or_ge i l.length with hi | hi
  · rw [List.getElem?_append_left hi] at h; exact .inl h
  · rw [List.getElem?_append_right hi] at h
    rcases Nat.lt_or_ge 0 (i - l.length) with h0 | h0
    · rw [List.getElem?_eq_none (by simp; omega)] at h; simp at h
    · have : i = l.length := by omega
      subst this
      simp at h
      exact .inr ⟨rfl, h⟩

theorem get_lt {α : Type} {l : List α} {i : Nat} {x : α} (h : l[i]? = some x) : i < l.length := by
  rcases Nat.lt_or_ge i l.length with h' | h'
  · exact h'
  · simp [List.getElem?_eq_none h'] at h

/-- A new block of the call's own. -/
theorem WRel.alloc (h : WRel B w0 M0 M E ow w) {t : TypeId} {l : List D} {cs : Array Value} (hl : RepL M E l cs.toList) :
    WRel B w0 M0 M (E ++ [.pointer (some ⟨w.heap.size, 0, none⟩)]) (ow ++ [.cells t l]) (w.alloc (.cells cs t (0, 0))) := by
  have hnew : M w.heap.size = none := by
    cases hm : M w.heap.size with
    | none => rfl
    | some o => have := (h.fits _ _ hm).lt; omega
  refine ⟨fun b o hb => ?_, by simp; have := h.base; omega, h.below.alloc h.base _, by simp [h.len], fun i o v ho hv => ?_, fun i j o o' v v' b ho ho' hl1 hl2 hv hv' hb hb' => ?_, h.mle, h.new⟩
  · have := h.fits _ _ hb
    rw [heap_alloc_old _ _ _ this.lt]; exact this
  · rcases getElem?_append_one ho with ho | ⟨rfl, rfl⟩
    · have hi := get_lt ho
      rw [List.getElem?_append_left (by rw [h.len]; exact hi)] at hv
      have hH := h.holds _ _ _ ho hv
      exact hH.frame (fun b hlv hb => heap_alloc_old _ _ _ (hH.lt hlv hb).1) (Mem.le_refl _) (EnvLe.append _ _) (fun b hf hb => (hH.lt (Own.free_live hf) hb).2.2 hf)
    · rw [← h.len, List.getElem?_append_right (Nat.le_refl _)] at hv
      simp at hv; subst hv
      simp only [Holds]
      exact ⟨_, cs, rfl, heap_alloc_new _ _, RepL.mono (Mem.le_refl _) (EnvLe.append _ _) _ _ hl, hnew, h.base⟩
  · have key : ∀ (i : Nat) (o : Own) (v : Value) (b : Nat), ow[i]? = some o → o.live = true → (E ++ [Value.pointer (some ⟨w.heap.size, 0, none⟩)])[i]? = some v → blkOf v = some b → E[i]? = some v ∧ b < w.heap.size := by
      intro i o v b ho hlv hv hb
      rw [List.getElem?_append_left (by rw [h.len]; exact get_lt ho)] at hv
      exact ⟨hv, ((h.holds _ _ _ ho hv).lt hlv hb).1⟩
    rcases getElem?_append_one ho with ho1 | ⟨rfl, rfl⟩ <;> rcases getElem?_append_one ho' with ho2 | ⟨rfl, rfl⟩
    · exact h.inj _ _ _ _ _ _ _ ho1 ho2 hl1 hl2 (key _ _ _ _ ho1 hl1 hv hb).1 (key _ _ _ _ ho2 hl2 hv' hb').1 hb hb'
    · have hlt := (key _ _ _ _ ho1 hl1 hv hb).2
      rw [← h.len, List.getElem?_append_right (Nat.le_refl _)] at hv'
      simp at hv'; subst hv'
      simp [blkOf] at hb'
      omega
    · have hlt := (key _ _ _ _ ho2 hl2 hv' hb').2
      rw [← h.len, List.getElem?_append_right (Nat.le_refl _)] at hv
      simp at hv; subst hv
      simp [blkOf] at hb
      omega
    · rfl

/-- A new object of the call's own in a new block. -/
theorem WRel.allocOwn (h : WRel B w0 M0 M E ow w) {oN : Own} {vN : Value} {ob : Obj} (hb : blkOf vN = some w.heap.size ∨ blkOf vN = none) (hH : Holds B M (E ++ [vN]) (w.alloc ob) oN vN) :
    WRel B w0 M0 M (E ++ [vN]) (ow ++ [oN]) (w.alloc ob) := by
  refine ⟨fun b o hb => ?_, by simp; have := h.base; omega, h.below.alloc h.base _, by simp [h.len], fun i o v ho hv => ?_, fun i j o o' v v' b ho ho' hl1 hl2 hv hv' hb1 hb2 => ?_, h.mle, h.new⟩
  · have := h.fits _ _ hb
    rw [heap_alloc_old _ _ _ this.lt]; exact this
  · rcases getElem?_append_one ho with ho | ⟨rfl, rfl⟩
    · have hi := get_lt ho
      rw [List.getElem?_append_left (by rw [h.len]; exact hi)] at hv
      have hH := h.holds _ _ _ ho hv
      exact hH.frame (fun b hlv hb => heap_alloc_old _ _ _ (hH.lt hlv hb).1) (Mem.le_refl _) (EnvLe.append _ _) (fun b hf hb => (hH.lt (Own.free_live hf) hb).2.2 hf)
    · rw [← h.len, List.getElem?_append_right (Nat.le_refl _)] at hv
      simp at hv; subst hv
      exact hH
  · have key : ∀ (i : Nat) (o : Own) (u : Value) (b : Nat), ow[i]? = some o → o.live = true → (E ++ [vN])[i]? = some u → blkOf u = some b → E[i]? = some u ∧ b < w.heap.size := by
      intro i o u b ho hlv hv hb
      rw [List.getElem?_append_left (by rw [h.len]; exact get_lt ho)] at hv
      exact ⟨hv, ((h.holds _ _ _ ho hv).lt hlv hb).1⟩
    have last : ∀ (u : Value) (b : Nat), (E ++ [vN])[ow.length]? = some u → blkOf u = some b → b = w.heap.size := by
      intro u b hu hbu
      rw [← h.len, List.getElem?_append_right (Nat.le_refl _)] at hu
      simp at hu; subst hu
      rcases hb with hb | hb
      · rw [hb] at hbu; simp at hbu; exact hbu.symm
      · rw [hb] at hbu; simp at hbu
    rcases getElem?_append_one ho with ho1 | ⟨rfl, rfl⟩ <;> rcases getElem?_append_one ho' with ho2 | ⟨rfl, rfl⟩
    · exact h.inj _ _ _ _ _ _ _ ho1 ho2 hl1 hl2 (key _ _ _ _ ho1 hl1 hv hb1).1 (key _ _ _ _ ho2 hl2 hv' hb2).1 hb1 hb2
    · have hlt := (key _ _ _ _ ho1 hl1 hv hb1).2
      have := last _ _ hv' hb2
      omega
    · have hlt := (key _ _ _ _ ho2 hl2 hv' hb2).2
      have := last _ _ hv hb1
      omega
    · rfl

theorem WRel.fresh (h : WRel B w0 M0 M E ow w) : M w.heap.size = none := by
  cases hm : M w.heap.size with
  | none => rfl
  | some o => have := (h.fits _ _ hm).lt; omega

theorem WRel.allocRow (h : WRel B w0 M0 M E ow w) {e sz : Nat} {f : Nat → Nat → D} : WRel B w0 M0 M (E ++ [.slice (some ⟨w.heap.size, 0, none⟩) 0 0]) (ow ++ [.row e sz 0 f]) (w.alloc (.cells #[] e (0, 0))) := by
  refine h.allocOwn (.inl rfl) ?_
  refine ⟨[], ⟨by simp, .inr ⟨w.heap.size, 0, #[], rfl, h.base, heap_alloc_new _ _, Nat.le_refl _, by simp [maxLen], by simp, by simp⟩⟩, fun a ha => by omega, fun g hg => ?_⟩
  simp [Value.ownBlock] at hg; subst hg
  exact h.fresh

/-- New data. -/
theorem WRel.newData (h : WRel B w0 M0 M E ow w) (cs : Array Value) (e : TypeId) :
    ∃ M', M.le M' ∧ WRel B w0 M0 M' E ow (w.alloc (.cells cs e (0, 0))) ∧ ∀ j, M'.cell ⟨w.heap.size, j, none⟩ = cs[j]? := by
  have hfr := h.fresh
  refine ⟨fun b => if b = w.heap.size then some (.cells cs e (0, 0)) else M b, fun b o hb => ?_, ⟨fun b o hb => ?_, by simp; have := h.base; omega, h.below.alloc h.base _, h.len, fun i o v ho hv => ?_, h.inj, fun b o hb => ?_, fun b o hb => ?_⟩, fun j => by simp [Mem.cell]⟩
  · have : b ≠ w.heap.size := fun e => by subst e; rw [hfr] at hb; simp at hb
    simp [this, hb]
  · by_cases hbe : b = w.heap.size
    · subst hbe; simp at hb; subst hb; exact heap_alloc_new _ _
    · simp [hbe] at hb
      have := h.fits _ _ hb
      rw [heap_alloc_old _ _ _ this.lt]; exact this
  · have hH := h.holds _ _ _ ho hv
    refine hH.frame (fun b hlv hb => heap_alloc_old _ _ _ (hH.lt hlv hb).1) (fun b o hb => ?_) (EnvLe.refl _) (fun b hf hb => ?_)
    · have : b ≠ w.heap.size := fun e => by subst e; rw [hfr] at hb; simp at hb
      simp [this, hb]
    · have hq := hH.lt (Own.free_live hf) hb
      have : b ≠ w.heap.size := by omega
      simp [this, hq.2.2 hf]
  · have hq := h.mle _ _ hb
    have : b ≠ w.heap.size := fun e => by subst e; rw [hfr] at hq; simp at hq
    simp [this, hq]
  · by_cases hbe : b = w.heap.size
    · subst hbe; exact .inr h.base
    · simp [hbe] at hb; exact h.new _ _ hb

theorem getElem?_setOwn : ∀ {ow : List Own} {i j : Nat} {o : Own}, (setOwn ow i o)[j]? = if i = j then (if i < ow.length then some o else none) else ow[j]?
  | [], i, j, o => by simp [setOwn]
  | x :: ow, 0, 0, o => by simp [setOwn]
  | x :: ow, 0, j + 1, o => by simp [setOwn]
  | x :: ow, i + 1, 0, o => by simp [setOwn]
  | x :: ow, i + 1, j + 1, o => by simp [setOwn, getElem?_setOwn]

theorem length_setOwn : ∀ {ow : List Own} {i : Nat} {o : Own}, (setOwn ow i o).length = ow.length
  | [], _, _ => rfl
  | _ :: _, 0, _ => rfl
  | _ :: ow, i + 1, o => by simp [setOwn, length_setOwn]

/-- The object i of the call's own, in block b, has turned. -/
theorem WRel.update (h : WRel B w0 M0 M E ow w) {i : Nat} {o o' : Own} {v : Value} {b : Nat} (ho : ow[i]? = some o) (hf : o.free = true) (hv : E[i]? = some v) (hb : blkOf v = some b)
    (hw : ∀ k, k ≠ b → w'.heap[k]? = w.heap[k]?) (hsz : w'.heap.size = w.heap.size) (hos : w'.os = w.os) (htape : w'.tape = w.tape) (hout : w'.output = w.output) (hH : Holds B M E w' o' v) :
    WRel B w0 M0 M E (setOwn ow i o') w' := by
  have hlv := Own.free_live hf
  have hlt := (h.holds _ _ _ ho hv).lt hlv hb
  refine ⟨fun c x hc => ?_, by rw [hsz]; exact h.base, h.below.trans ⟨hos, htape, hout, by omega, fun k hk => hw k (by omega)⟩, by simp [length_setOwn, h.len], fun j p u hp hu => ?_, fun j k p p' u u' c hp hp' hl1 hl2 hu hu' hc hc' => ?_, h.mle, h.new⟩
  · rw [hw c (fun e => by subst e; rw [hlt.2.2 hf] at hc; simp at hc)]; exact h.fits _ _ hc
  · rw [getElem?_setOwn] at hp
    split at hp
    · rename_i hij; subst hij
      rw [if_pos (get_lt ho)] at hp
      simp at hp; subst hp
      rw [hv] at hu; simp at hu; subst hu
      exact hH
    · rename_i hij
      have hHj := h.holds _ _ _ hp hu
      refine hHj.frame (fun c hl hc => hw c (fun e => ?_)) (Mem.le_refl _) (EnvLe.refl _) (fun c hf' hc => (hHj.lt (Own.free_live hf') hc).2.2 hf')
      subst e
      exact hij (h.inj _ _ _ _ _ _ _ ho hp hlv hl hv hu hb hc)
  · have back : ∀ (j : Nat) (p : Own), (setOwn ow i o')[j]? = some p → p.live = true → ∃ q : Own, ow[j]? = some q ∧ q.live = true := by
      intro j p hp hl
      rw [getElem?_setOwn] at hp
      split at hp
      · rename_i hij; subst hij; exact ⟨o, ho, hlv⟩
      · exact ⟨p, hp, hl⟩
    obtain ⟨q, hq, hql⟩ := back _ _ hp hl1
    obtain ⟨q', hq', hql'⟩ := back _ _ hp' hl2
    exact h.inj _ _ _ _ _ _ _ hq hq' hql hql' hu hu' hc hc'

theorem run_storeCells {b off : Nat} {t : TypeId} : ∀ (vs : List Value) (k : Nat) (w : World) (cs : Array Value) (l' : List Value), w.heap[b]? = some (.cells cs t (0, 0)) → (∀ v ∈ vs, v.oneCell' = true) → splice cs.toList (off + k) vs = some l' →
    ∃ w', (storeCells ⟨b, off, none⟩ vs k).run P w = .ok () w' ∧ w'.heap[b]? = some (.cells l'.toArray t (0, 0)) ∧ (∀ j, j ≠ b → w'.heap[j]? = w.heap[j]?) ∧ w'.heap.size = w.heap.size ∧ w'.os = w.os ∧ w'.tape = w.tape ∧ w'.output = w.output
  | [], k, w, cs, l', h, _, hs => by
    have := splice_nil _ _ _ hs
    subst this
    exact ⟨w, by simp [storeCells], by simpa using h, fun _ _ => rfl, rfl, rfl, rfl, rfl⟩
  | v :: vs, k, w, cs, l', h, h1, hs => by
    obtain ⟨s1, s2, s3, s4⟩ := splice_spec hs
    have hk : off + k < cs.size := by simp at s2; omega
    have hcell : w.cell? ⟨b, off + k, none⟩ = some cs[off + k] := by
      rw [cell_of_row w b (off + k) cs t (0, 0) h]; simp [hk]
    have hfr := frozen_of_row w b (off + k) cs t h
    have hset := heap_setCell_same w b (off + k) cs t v h
    obtain ⟨w', r1, r2, r3, r4, r5, r6, r7⟩ := run_storeCells vs (k + 1) (w.setCell ⟨b, off + k, none⟩ v) (cs.setIfInBounds (off + k) v) l' hset (fun x hx => h1 x (by simp [hx])) (by
      rw [Array.toList_setIfInBounds]; exact splice_set hs)
    refine ⟨w', ?_, r2, fun j hj => (r3 j hj).trans (heap_setCell_other _ _ _ _ hj), by rw [r4]; simp, r5, r6, r7⟩
    have hst := run_store P w ⟨b, off + k, none⟩ v .plain (h1 v (by simp))
    rw [hcell] at hst
    simp only [hfr] at hst
    simp only [storeCells, Sem.run_bind, add_own]
    simp at hst
    rw [hst]
    simpa using r1
end
end Go.Sx
