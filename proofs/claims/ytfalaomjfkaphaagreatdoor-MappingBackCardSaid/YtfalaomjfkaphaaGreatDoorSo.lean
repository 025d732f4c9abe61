import Derived.Test.YtfalaomjfkaphaaGreatDoorEa
import Derived.Shelf.SlSortCmp.NoneTotal
set_option linter.unusedVariables false
set_option linter.unusedSimpArgs false
namespace Go.Sx
open Go Go.RowKit

/-! slices.SortFunc over a row that the call owns: by the shelf's contract; whatever ascending order comes out. -/
section
variable {B : Nat} {w0 w w' : World} {M0 M : Mem} {E : List Value} {ow : List Own}
/-- The object i of the call's own has turned in place; new blocks may lie behind. -/
theorem WRel.turn (h : WRel B w0 M0 M E ow w) {i : Nat} {o o' : Own} {v : Value} (ho : ow[i]? = some o) (hf : o.free = true) (hv : E[i]? = some v) (hgrow : w.grownBy w' (blkOf v)) (hH : Holds B M E w' o' v) :
    WRel B w0 M0 M E (setOwn ow i o') w' := by
  have hlv := Own.free_live hf
  have hlt : ∀ b, blkOf v = some b → b < w.heap.size ∧ B ≤ b ∧ M b = none := fun b hb => by
    obtain ⟨h1, h2, h3⟩ := (h.holds _ _ _ ho hv).lt hlv hb
    exact ⟨h1, h2, h3 hf⟩
  have hsame : ∀ b, b < w.heap.size → blkOf v ≠ some b → w'.heap[b]? = w.heap[b]? := fun b hb hne => hgrow.block b hb (fun e => hne e.symm)
  refine ⟨fun c x hc => ?_, Nat.le_trans h.base hgrow.size, h.below.trans ⟨hgrow.os, hgrow.tape, hgrow.output, hgrow.size, fun q hq => hsame q (Nat.lt_of_lt_of_le hq h.base) (fun hbu => ?_)⟩, by simp [length_setOwn, h.len], fun j p u hp hu => ?_, fun j k p p' u u' c hp hp' hl1 hl2 hu hu' hc hc' => ?_, h.mle, h.new⟩
  · have hfit := h.fits _ _ hc
    rw [hsame c hfit.lt (fun hbu => by rw [(hlt c hbu).2.2] at hc; simp at hc)]
    exact hfit
  · have := (hlt q hbu).2.1; omega
  · rw [getElem?_setOwn] at hp
    split at hp
    · rename_i hij; subst hij
      rw [if_pos (get_lt ho)] at hp
      simp at hp; subst hp
      rw [hv] at hu; simp at hu; subst hu
      exact hH
    · rename_i hij
      have hHj := h.holds _ _ _ hp hu
      exact hHj.frame (fun c hl hc => hsame c (hHj.lt hl hc).1 (fun hbu => hij (h.inj _ _ _ _ _ _ _ ho hp hlv hl hv hu hbu hc))) (Mem.le_refl _) (EnvLe.refl _) (fun c hf' hc => (hHj.lt (Own.free_live hf') hc).2.2 hf')
  · have back : ∀ (j : Nat) (p : Own), (setOwn ow i o')[j]? = some p → p.live = true → ∃ q : Own, ow[j]? = some q ∧ q.live = true := by
      intro j p hp hl
      rw [getElem?_setOwn] at hp
      split at hp
      · rename_i hij; subst hij; exact ⟨o, ho, hlv⟩
      · exact ⟨p, hp, hl⟩
    obtain ⟨q, hq, hql⟩ := back _ _ hp hl1
    obtain ⟨q', hq', hql'⟩ := back _ _ hp' hl2
    exact h.inj _ _ _ _ _ _ _ hq hq' hql hql' hu hu' hc hc'
end

theorem perm_pairs {α β : Type} {b b' : List β} (h : b.Perm b') : ∀ z : List (α × β), z.map Prod.snd = b → ∃ z' : List (α × β), z'.Perm z ∧ z'.map Prod.snd = b' := by
  induction h with
  | nil => intro z hz; exact ⟨z, List.Perm.refl _, hz⟩
  | cons x _ ih =>
    intro z hz
    match z, hz with
    | p :: z, hz =>
      simp at hz
      obtain ⟨z', h1, h2⟩ := ih z hz.2
      exact ⟨p :: z', h1.cons p, by simp [hz.1, h2]⟩
  | swap x y l =>
    intro z hz
    match z, hz with
    | p :: q :: z, hz =>
      simp at hz
      exact ⟨q :: p :: z, List.Perm.swap p q z, by simp [hz.1, hz.2.1, hz.2.2]⟩
  | trans _ _ ih1 ih2 =>
    intro z hz
    obtain ⟨z1, a1, a2⟩ := ih1 z hz
    obtain ⟨z2, b1, b2⟩ := ih2 z1 a2
    exact ⟨z2, b1.trans a1, b2⟩

section
variable {α : Type} [Inhabited α]
theorem sorted_world (encV : α → List Value) (k : Nat) {w : World} {blk n : Nat} {cur : Array Value} {e : TypeId} (d' : Array α) (os : Array Obj) (hb : w.heap[blk]? = some (.cells cur e (0, 0))) (hs : d'.size * k ≤ cur.size) :
    w.grownBy (Go.Proofs.sortWorldK encV k w blk 0 n d' os) (some blk) ∧ ∃ cur' : Array Value, (Go.Proofs.sortWorldK encV k w blk 0 n d' os).heap[blk]? = some (.cells cur' e (0, 0)) ∧ cur'.size = cur.size ∧ cur'.toList.take (d'.size * k) = (Go.Sort.flatK encV k d').toList := by
  have hlt : blk < w.heap.size := (Array.getElem?_eq_some_iff.1 hb).1
  have hh : (Go.Proofs.sortWorldK encV k w blk 0 n d' os).heap = w.heap.modify blk (Go.Sort.onCells (Go.Sort.putCells id 0 (Go.Sort.flatK encV k d'))) ++ os := rfl
  refine ⟨⟨rfl, rfl, rfl, by rw [hh]; simp, fun q hq hne => ?_⟩, Go.Sort.putCells id 0 (Go.Sort.flatK encV k d') cur, ?_, by simp [Go.Sort.putCells], ?_⟩
  · rw [hh, Array.getElem?_append_left (by simpa using hq), Array.getElem?_modify, if_neg (fun e => hne (by rw [e]))]
  · rw [hh, Array.getElem?_append_left (by simpa using hlt), Array.getElem?_modify, if_pos rfl, hb]
    rfl
  · apply List.ext_getElem?
    intro t
    rw [List.getElem?_take, Array.getElem?_toList, Array.getElem?_toList]
    by_cases ht : t < d'.size * k
    · rw [if_pos ht]
      simp only [Go.Sort.putCells, Array.getElem?_mapIdx]
      rw [Array.getElem?_eq_getElem (by omega), Option.map_some, if_pos ⟨Nat.zero_le _, by simpa using ht⟩, Array.getElem?_eq_getElem (by simpa using ht)]
      simp only [id, Nat.sub_zero]
      rw [getElem!_pos _ t (by simpa using ht)]
    · rw [if_neg ht, Array.getElem?_eq_none (by simpa using ht)]

/-- What a call of slices.SortFunc does to the row that it is given: some ascending order of its elements. -/
def sortT {β : Type} [Inhabited β] (sz : Nat) (g : FuncId) (enc : β → Nat → D) (lt : β → β → Bool) : Tr := fun _ ds ow k =>
  (∃ (i e n : Nat) (f : Nat → Nat → D) (l : List β), ds = [.row i, .fn g []] ∧ ow[i]? = some (.row e sz n f) ∧ n = l.length ∧ (∀ a, a < n → ∀ j, j < sz → Ent (f a j) (enc (l.getD a default) j)) ∧ l.length < 4611686018427387904 ∧
    ∀ l' : List β, l'.Perm l → (∀ p q, p < q → q < l'.length → lt (l'.getD q default) (l'.getD p default) = false) → k (.tu []) (setOwn ow i (.row e sz l'.length fun a j => enc (l'.getD a default) j))) ∨
    (ds = [.v (.slice none 0 0), .fn g []] ∧ k (.tu []) ow)

theorem sort_sound {β : Type} [Inhabited β] {P : Program} {Gl : Nat → Option D} {f g : FuncId} {sz : Nat} {enc : β → Nat → D} {lt : β → β → Bool} (hf : Enters P f) (hg : Enters P g)
    (encV : α → List Value) (cf : α → α → Int) (hk : ∀ x, (encV x).length = sz) (hpos : 0 < sz) (h1 : ∀ x, ∀ v ∈ encV x, v.oneCell' = true)
    (hS : ∀ blk cap (d : Array α) w, Go.Sort.HoldsK encV sz w blk 0 d → blk < w.heap.size → d.size < 4611686018427387904 →
      Calls P f #[.slice (some ⟨blk, 0, none⟩) d.size cap, .func (.func g) #[] #[]] w fun e w' => e = .returned (.tuple #[]) ∧ ∃ d' n os, Go.Sort.PermIn 0 d.size d d' ∧ Go.Sort.SortedIn (Go.Proofs.ltOf cf) 0 d.size d' ∧ w' = Go.Proofs.sortWorldK encV sz w blk 0 n d' os)
    (hN : ∀ p cap fv w, Calls P f #[.slice p 0 cap, fv] w fun e w' => e = .returned (.tuple #[]) ∧ w' = w)
    (R : Mem → β → α → Prop)
    (hR : ∀ M x cs, cs.length = sz → (∀ j, j < sz → ∃ u, cs[j]? = some u ∧ u.oneCell' = true ∧ Rep M [] (enc x j) u) → ∃ y : α, encV y = cs ∧ R M x y)
    (hB : ∀ M x y, R M x y → ∀ j, j < sz → ∃ u, (encV y)[j]? = some u ∧ u.oneCell' = true ∧ Rep M [] (enc x j) u)
    (hlt : ∀ M x y x' y', R M x y → R M x' y' → lt x x' = Go.Proofs.ltOf cf y y') : SoundT P Gl f (sortT sz g enc lt) := by
  refine ⟨hf, ?_⟩
  rintro Y ds ow k (⟨i, e, n, f0, l, rfl, hrow, hn, hent, hlen, hK⟩ | ⟨rfl, hK⟩) B w0 M0 M E w us hW hG hY hr n'
  · refine callsIn_wide.2 ?_
    simp only [RepL] at hr
    obtain ⟨v, r, hus, hv, u2, r2, rfl, hu2, rfl⟩ := hr
    simp only [Rep] at hv hu2
    obtain ⟨cs, rfl, hcs⟩ := hu2
    simp only [RepL] at hcs
    have hcs : cs = #[] := by apply Array.ext'; simpa using hcs
    subst hcs
    have hus : us = #[v, .func (.func g) #[] #[]] := by apply Array.ext'; simpa using hus
    subst hus
    have hH := hW.holds _ _ _ hrow hv
    simp only [Holds] at hH
    obtain ⟨xs, hown, hcells, hM⟩ := hH
    rcases Nat.eq_zero_or_pos n with h0 | h0
    · subst h0
      obtain ⟨a, cap, rfl⟩ := ownsRow_len hown
      have hl0 : l = [] := List.length_eq_zero_iff.1 hn.symm
      subst hl0
      refine (hN a cap _ w).mono ?_
      rintro e' w' ⟨rfl, rfl⟩
      refine ⟨.tu [], _, M, E, _, rfl, hK [] (List.Perm.refl _) (fun p q _ hq => by simp at hq), Mem.le_refl _, EnvLe.refl _, hW.swap hrow (fun _ => rfl) (fun v' hv' hH' => ?_), by simp [Rep, RepL]⟩
      simp only [Holds] at hH' ⊢
      obtain ⟨ys, a1, a2, a3⟩ := hH'
      exact ⟨ys, a1, fun a ha => by simp at ha, a3⟩
    · rcases hown.2 with ⟨_, hn0⟩ | ⟨blk, cap, cur, rfl, b2, b3, b4, b4', b5, b6⟩
      · omega
      have hxl : xs.length = n * sz := hown.1
      have hblt : blk < w.heap.size := (Array.getElem?_eq_some_iff.1 b3).1
      -- the elements
      have hex : ∀ a, ∃ y : α, a < n → encV y = (xs.drop (a * sz)).take sz ∧ R M (l.getD a default) y := by
        intro a
        by_cases ha : a < n
        · have hle : a * sz + sz ≤ n * sz := by
            have := Nat.mul_le_mul_right sz (show a + 1 ≤ n from ha)
            rwa [Nat.add_mul, Nat.one_mul] at this
          obtain ⟨y, y1, y2⟩ := hR M (l.getD a default) ((xs.drop (a * sz)).take sz) (by simp; omega) (fun j hj => by
            obtain ⟨x, x1, x2, x3⟩ := hcells a ha j hj
            refine ⟨x, ?_, x2, hent a ha j hj _ _ _ x3⟩
            rw [List.getElem?_take, if_pos hj, List.getElem?_drop]
            exact x1)
          exact ⟨y, fun _ => ⟨y1, y2⟩⟩
        · exact ⟨default, fun h => absurd h ha⟩
      obtain ⟨F, hF⟩ := Classical.axiomOfChoice hex
      have hd : ∀ a, a < n → ((List.range n).map F).toArray[a]! = F a := fun a ha => by
        rw [getElem!_pos _ a (by simpa using ha)]
        simp
      generalize hde : ((List.range n).map F).toArray = d at hd
      have hds : d.size = n := by rw [← hde]; simp
      have hdl : d.toList = (List.range n).map F := by rw [← hde]
      have hhold : Go.Sort.HoldsK encV sz w blk 0 d := by
        intro t ht
        have ht' : t < n * sz := by simpa [hds] using ht
        have hq : t / sz < n := Nat.div_lt_of_lt_mul (by rwa [Nat.mul_comm] at ht')
        constructor
        · rw [cell_of_row w blk (0 + t) cur e (0, 0) b3, Go.Sort.get_flatK _ _ _ t (by rw [hds]; exact ht'), hd _ hq, (hF _ hq).1]
          simp only [id]
          have hm : t % sz < sz := Nat.mod_lt _ hpos
          have hdm := Nat.div_add_mod t sz
          rw [Nat.mul_comm] at hdm
          have hle : t / sz * sz + t % sz < xs.length := by rw [hxl, hdm]; exact ht'
          rw [getElem!_pos _ (t % sz) (by simp; omega)]
          rw [List.getElem_take, List.getElem_drop]
          rw [Nat.zero_add, ← Array.getElem?_toList]
          have e1 : cur.toList[t]? = xs[t]? := by
            rw [← b6, List.getElem?_take, if_pos ht']
          rw [e1]
          conv => lhs; rw [← hdm]
          exact List.getElem?_eq_getElem hle
        · exact frozen_of_row w blk (0 + t) cur e b3
      have := hS blk cap d w hhold hblt (by rw [hds, hn]; exact hlen)
      rw [hds] at this
      refine this.mono ?_
      rintro e' w' ⟨rfl, d', m, os, hperm, hsort, rfl⟩
      have hds' : d'.size = n := by rw [hperm.1, hds]
      -- the same order of the plain elements
      have hpl : d.toList.Perm d'.toList := by
        have := hperm.2.2
        rw [← hds, Array.extract_size, hds, ← hds', Array.extract_size] at this
        exact this.symm
      obtain ⟨z', hz1, hz2⟩ := perm_pairs (α := β) hpl (l.zip d.toList) (by
        apply List.map_snd_zip
        simp [hds, hn])
      have hzl : (l.zip d.toList).map Prod.fst = l := by
        apply List.map_fst_zip
        simp [hds, hn]
      have hrel : ∀ p ∈ l.zip d.toList, R M p.1 p.2 := by
        intro p hp
        obtain ⟨a, ha, rfl⟩ := List.getElem_of_mem hp
        have ha' : a < n := by simp at ha; omega
        rw [List.getElem_zip]
        have h2 := (hF a ha').2
        have e1 : l.getD a default = l[a]'(by omega) := by simp [List.getD_eq_getElem?_getD, show a < l.length by omega]
        rw [e1] at h2
        have e2 : d.toList[a]'(by simp [hds]; exact ha') = F a := by
          simp only [hdl, List.getElem_map, List.getElem_range]
        have key : ∀ y, y = F a → R M (l[a]'(by omega)) y := fun y hy => by rw [hy]; exact h2
        exact key _ e2
      have hzn : z'.length = n := by rw [hz1.length_eq]; simp [hds, hn]
      have hpair : ∀ a, a < n → R M ((z'.map Prod.fst).getD a default) d'[a]! := by
        intro a ha
        have e1 : (z'.map Prod.fst).getD a default = (z'[a]'(by omega)).1 := by simp [List.getD_eq_getElem?_getD, show a < z'.length by omega]
        have e2 : d'[a]! = (z'[a]'(by omega)).2 := by
          rw [getElem!_pos _ a (by omega)]
          have h3 : d'.toList[a]? = some (z'[a]'(by omega)).2 := by
            rw [← hz2, List.getElem?_map, List.getElem?_eq_getElem (by omega)]
            rfl
          rw [Array.getElem?_toList, Array.getElem?_eq_getElem (by omega)] at h3
          exact Option.some.inj h3
        rw [e1, e2]
        exact hrel _ (hz1.mem_iff.1 (List.getElem_mem _))
      have hl'n : (z'.map Prod.fst).length = n := by simp [hzn]
      obtain ⟨g1, cur', c1, c2, c3⟩ := sorted_world (n := m) encV sz d' os b3 (by rw [hds', b5]; exact Nat.mul_le_mul_right _ b4)
      refine ⟨.tu [], _, M, E, _, rfl, hK (z'.map Prod.fst) ?_ ?_, Mem.le_refl _, EnvLe.refl _, hW.turn hrow rfl hv (by simpa [blkOf] using g1) ?_, by simp [Rep, RepL]⟩
      · have := hz1.map Prod.fst
        rwa [hzl] at this
      · intro p q hpq hq
        rw [hl'n] at hq
        rw [hlt M _ _ _ _ (hpair q hq) (hpair p (by omega))]
        exact hsort p q (Nat.zero_le _) hpq hq
      · simp only [Holds]
        rw [hl'n]
        refine ⟨(Go.Sort.flatK encV sz d').toList, ⟨by simp [hds'], .inr ⟨blk, cap, cur', rfl, b2, c1, b4, b4', by rw [c2, b5], by rw [← hds']; exact c3⟩⟩, fun a ha j hj => ?_, hM⟩
        have hle : a * sz + j < d'.size * sz := by
          have := Nat.mul_le_mul_right sz (show a + 1 ≤ n from ha)
          rw [Nat.add_mul, Nat.one_mul] at this
          rw [hds']; omega
        obtain ⟨u, u1, u2, u3⟩ := hB M _ _ (hpair a ha) j hj
        refine ⟨u, ?_, u2, u3⟩
        rw [Array.getElem?_toList, Array.getElem?_eq_getElem (by simpa using hle), ← getElem!_pos, Go.Sort.get_flatK _ _ _ _ hle]
        have d1 : (a * sz + j) / sz = a := by
          rw [Nat.mul_comm, Nat.mul_add_div hpos, Nat.div_eq_of_lt hj, Nat.add_zero]
        have d2 : (a * sz + j) % sz = j := by
          rw [Nat.mul_comm, Nat.mul_add_mod, Nat.mod_eq_of_lt hj]
        rw [d1, d2, getElem!_pos _ j (by rw [hk]; exact hj)]
        rw [List.getElem?_eq_getElem (by rw [hk]; exact hj)] at u1
        exact u1
  · refine callsIn_wide.2 ?_
    simp only [RepL] at hr
    obtain ⟨v, r, hus, hv, u2, r2, rfl, hu2, rfl⟩ := hr
    have hv : v = .slice none 0 0 := hv
    subst hv
    have hus : us = #[.slice none 0 0, u2] := by apply Array.ext'; simpa using hus
    subst hus
    refine (hN none 0 u2 w).mono ?_
    rintro e' w' ⟨rfl, rfl⟩
    exact ⟨.tu [], _, M, E, ow, rfl, hK, Mem.le_refl _, EnvLe.refl _, hW, by simp [Rep, RepL]⟩
end
#print axioms sort_sound
end Go.Sx
