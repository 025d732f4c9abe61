import Derived.Test.YtnccclpjcidmeaaGreatDoorSxB
import Derived.Laws.Slices
import Derived.Laws.Sem
import Derived.Laws.World
import Derived.Laws.Rows
import Derived.Laws.Cells
import Derived.Laws.Small
namespace Go.Sx
open Go Go.RowKit

/-! ### types -/
section types
variable {P : Program} {t : TypeId} {ti : TI} {w : World}

theorem tiOf_some (h : tiOf P t = some ti) : ∃ i d, P.info? t = some i ∧ P.underlying t = some d ∧ ti = { size := i.size, agg := aggOf d, zero := i.zero.map fun z => z.cells.toList, kind := tkOf P d, more := { flat := flatOf P t d, meths := methsOf i d, self := selfOf P t i d, fagg := faggOf P d, zok := zokOf i d } } := by
  unfold tiOf at h
  split at h
  · rename_i i d hi hd
    exact ⟨i, d, hi, hd, by simpa using h.symm⟩
  · simp at h

theorem run_underlying' {d : TypeDesc} (h : P.underlying t = some d) : (underlying t).run P w = .ok d w := by
  simp [underlying, h]

theorem run_typeInfo' {i : TypeInfo} (h : P.info? t = some i) : (typeInfo t).run P w = .ok i w := by
  simp [typeInfo, h]

theorem run_sizeOf' {i : TypeInfo} (h : P.info? t = some i) : (sizeOf t).run P w = .ok i.size w := by
  simp [sizeOf, run_typeInfo' h]

theorem run_isAgg' {d : TypeDesc} (h : P.underlying t = some d) : (isAgg t).run P w = .ok (aggOf d) w := by
  simp only [isAgg, Sem.run_bind, run_underlying' h, Result.andThen_ok]
  cases d <;> simp [aggOf]

theorem run_zeroValue' {i : TypeInfo} {z : Value} (h : P.info? t = some i) (hz : i.zero = some z) : (zeroValue t).run P w = .ok z w := by
  simp [zeroValue, run_typeInfo' h, hz]
end types

/-! ### lists -/
theorem RepL.length {M : Mem} {E : List Value} : ∀ {l : List D} {us : List Value}, RepL M E l us → l.length = us.length
  | [], us, h => by simp [RepL] at h; simp [h]
  | d :: ds, us, h => by
    simp only [RepL] at h
    obtain ⟨u, r, rfl, _, hr⟩ := h
    simp [RepL.length hr]

theorem RepL.get {M : Mem} {E : List Value} : ∀ {l : List D} {us : List Value} {i : Nat} {d : D}, RepL M E l us → l[i]? = some d → ∃ u, us[i]? = some u ∧ Rep M E d u
  | [], us, i, d, h, hi => by simp at hi
  | x :: l, us, i, d, h, hi => by
    simp only [RepL] at h
    obtain ⟨u, r, rfl, hu, hr⟩ := h
    cases i with
    | zero => simp at hi; subst hi; exact ⟨u, by simp, hu⟩
    | succ i => simp at hi ⊢; exact RepL.get hr hi

theorem RepL.cons {M : Mem} {E : List Value} {d : D} {ds : List D} {u : Value} {us : List Value} (h : Rep M E d u) (hs : RepL M E ds us) : RepL M E (d :: ds) (u :: us) := by
  simp only [RepL]; exact ⟨u, us, rfl, h, hs⟩

theorem RepL.nil {M : Mem} {E : List Value} : RepL M E [] [] := by simp [RepL]

theorem RepL.append {M : Mem} {E : List Value} : ∀ {l l' : List D} {us us' : List Value}, RepL M E l us → RepL M E l' us' → RepL M E (l ++ l') (us ++ us')
  | [], l', us, us', h, h' => by simp [RepL] at h; subst h; simpa using h'
  | d :: l, l', us, us', h, h' => by
    simp only [RepL] at h
    obtain ⟨u, r, rfl, hu, hr⟩ := h
    exact RepL.cons hu (RepL.append hr h')

theorem RepL.vals {M : Mem} {E : List Value} : ∀ (vs : List Value), RepL M E (vs.map .v) vs
  | [] => RepL.nil
  | v :: vs => RepL.cons (by simp [Rep]) (RepL.vals vs)

theorem RepL.splice {M : Mem} {E : List Value} : ∀ {l : List D} {us : List Value} {off : Nat} {cs : List D} {vs : List Value} {l' : List D}, RepL M E l us → RepL M E cs vs → splice l off cs = some l' →
    ∃ us', splice us off vs = some us' ∧ RepL M E l' us'
  | l, us, 0, [], vs, l', h, hc, hs => by
    simp [RepL] at hc; subst hc
    simp [Sx.splice] at hs; subst hs
    exact ⟨us, by simp [Sx.splice], h⟩
  | [], us, 0, c :: cs, vs, l', h, hc, hs => by simp [Sx.splice] at hs
  | d :: l, us, 0, c :: cs, vs, l', h, hc, hs => by
    simp only [RepL] at h hc
    obtain ⟨u, r, rfl, hu, hr⟩ := h
    obtain ⟨x, y, rfl, hx, hy⟩ := hc
    simp only [Sx.splice, Option.map_eq_some_iff] at hs
    obtain ⟨m, hm, rfl⟩ := hs
    obtain ⟨us', h1, h2⟩ := RepL.splice hr hy hm
    exact ⟨x :: us', by simp [Sx.splice, h1], RepL.cons hx h2⟩
  | [], us, n + 1, cs, vs, l', h, hc, hs => by simp [Sx.splice] at hs
  | d :: l, us, n + 1, cs, vs, l', h, hc, hs => by
    simp only [RepL] at h
    obtain ⟨u, r, rfl, hu, hr⟩ := h
    simp only [Sx.splice, Option.map_eq_some_iff] at hs
    obtain ⟨m, hm, rfl⟩ := hs
    obtain ⟨us', h1, h2⟩ := RepL.splice hr hc hm
    exact ⟨u :: us', by simp [Sx.splice, h1], RepL.cons hu h2⟩

theorem RepL.cut {M : Mem} {E : List Value} : ∀ {l : List D} {us : List Value} {off n : Nat} {l' : List D}, RepL M E l us → cut l off n = some l' →
    ∃ us', cut us off n = some us' ∧ RepL M E l' us'
  | l, us, 0, 0, l', h, hs => by simp [Sx.cut] at hs; subst hs; exact ⟨[], by simp [Sx.cut], RepL.nil⟩
  | [], us, 0, n + 1, l', h, hs => by simp [Sx.cut] at hs
  | d :: l, us, 0, n + 1, l', h, hs => by
    simp only [RepL] at h
    obtain ⟨u, r, rfl, hu, hr⟩ := h
    simp only [Sx.cut, Option.map_eq_some_iff] at hs
    obtain ⟨m, hm, rfl⟩ := hs
    obtain ⟨us', h1, h2⟩ := RepL.cut hr hm
    exact ⟨u :: us', by simp [Sx.cut, h1], RepL.cons hu h2⟩
  | [], us, o + 1, n, l', h, hs => by simp [Sx.cut] at hs
  | d :: l, us, o + 1, n, l', h, hs => by
    simp only [RepL] at h
    obtain ⟨u, r, rfl, hu, hr⟩ := h
    simp only [Sx.cut] at hs
    obtain ⟨us', h1, h2⟩ := RepL.cut hr hs
    exact ⟨us', by simpa [Sx.cut] using h1, h2⟩

theorem cut_spec {α : Type} : ∀ {l : List α} {off n : Nat} {l' : List α}, cut l off n = some l' → l'.length = n ∧ off + n ≤ l.length ∧ ∀ j, j < n → l'[j]? = l[off + j]?
  | l, 0, 0, l', h => by simp [cut] at h; subst h; simp
  | [], 0, n + 1, l', h => by simp [cut] at h
  | x :: l, 0, n + 1, l', h => by
    simp only [cut, Option.map_eq_some_iff] at h
    obtain ⟨m, hm, rfl⟩ := h
    obtain ⟨h1, h2, h3⟩ := cut_spec hm
    refine ⟨by simp [h1], by simp; omega, fun j hj => ?_⟩
    cases j with
    | zero => simp
    | succ j => have := h3 j (by omega); simpa using this
  | [], o + 1, n, l', h => by simp [cut] at h
  | x :: l, o + 1, n, l', h => by
    simp only [cut] at h
    obtain ⟨h1, h2, h3⟩ := cut_spec h
    refine ⟨h1, by simp; omega, fun j hj => ?_⟩
    rw [h3 j hj, show o + 1 + j = (o + j) + 1 by omega]; simp

theorem splice_spec {α : Type} : ∀ {l : List α} {off : Nat} {cs l' : List α}, splice l off cs = some l' → l'.length = l.length ∧ off + cs.length ≤ l.length ∧ (∀ j, j < cs.length → l'[off + j]? = cs[j]?) ∧ (∀ j, j < off ∨ off + cs.length ≤ j → l'[j]? = l[j]?)
  | l, 0, [], l', h => by simp [splice] at h; subst h; simp
  | [], 0, c :: cs, l', h => by simp [splice] at h
  | x :: l, 0, c :: cs, l', h => by
    simp only [splice, Option.map_eq_some_iff] at h
    obtain ⟨m, hm, rfl⟩ := h
    obtain ⟨h1, h2, h3, h4⟩ := splice_spec hm
    refine ⟨by simp [h1], by simp; omega, fun j hj => ?_, fun j hj => ?_⟩
    · cases j with
      | zero => simp
      | succ j => have := h3 j (by simpa using hj); simpa using this
    · cases j with
      | zero => simp at hj
      | succ j => have := h4 j (by simp at hj; omega); simpa using this
  | [], n + 1, cs, l', h => by simp [splice] at h
  | x :: l, n + 1, cs, l', h => by
    simp only [splice, Option.map_eq_some_iff] at h
    obtain ⟨m, hm, rfl⟩ := h
    obtain ⟨h1, h2, h3, h4⟩ := splice_spec hm
    refine ⟨by simp [h1], by simp; omega, fun j hj => ?_, fun j hj => ?_⟩
    · rw [show n + 1 + j = (n + j) + 1 by omega]; have := h3 j hj; simpa using this
    · cases j with
      | zero => simp
      | succ j => have := h4 j (by omega); simpa using this

theorem add_add' (a : Addr) (i j : Nat) : (a.add i).add j = a.add (i + j) := by
  unfold Addr.add
  by_cases hi : i = 0 <;> by_cases hj : j = 0 <;> simp [hi, hj, Nat.add_assoc]
theorem add_block (a : Addr) (n : Nat) : (a.add n).block = a.block := by unfold Addr.add; split <;> rfl
theorem add_own (b off o : Nat) : (⟨b, off, none⟩ : Addr).add o = ⟨b, off + o, none⟩ := by
  unfold Addr.add
  by_cases h : o = 0 <;> simp [h]

end Go.Sx
