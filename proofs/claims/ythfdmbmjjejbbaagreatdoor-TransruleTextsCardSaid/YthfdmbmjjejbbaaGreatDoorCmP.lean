import Derived.Test.YthfdmbmjjejbbaaGreatDoorUz
set_option linter.unusedVariables false
set_option linter.unusedSimpArgs false
namespace Go.Proofs
open Go Go.Sx
variable {mx : Int} {pb : Bool}

/-! two sets at once by cursors: plain -/
structure KInv (K : Int → Prop) (lo : Int) (out : List Rg) : Prop where
  pos : 0 ≤ lo
  le : lo ≤ 1114112
  mem : ∀ c, inR out c ↔ 0 ≤ c ∧ c < lo ∧ K c
  each : ∀ r ∈ out, 0 ≤ r.1 ∧ r.1 ≤ r.2 ∧ r.2 < lo
  asc : out.Pairwise (fun x y => x.1 < y.1)
theorem k_zero (K : Int → Prop) : KInv K 0 [] := ⟨Int.le_refl _, by decide, fun c => by rw [inR_nil]; exact ⟨fun h => h.elim, fun h => by omega⟩, fun r hr => by simp at hr, List.Pairwise.nil⟩
theorem k_more {K : Int → Prop} {lo hi : Int} {out : List Rg} (h : KInv K lo out) (h1 : lo ≤ hi) (h2 : hi ≤ 1114111) (hn : ∀ c, lo ≤ c → c ≤ hi → K c) : KInv K (hi + 1) (out ++ [(lo, hi)]) := by
  have h0 := h.pos
  refine ⟨by omega, by omega, fun c => ?_, fun r hr => ?_, ?_⟩
  · rw [inR_append, h.mem, inR_cons]
    constructor
    · rintro (⟨h3, h4, h5⟩ | h3 | h3)
      · exact ⟨h3, by omega, h5⟩
      · have h3 : lo ≤ c ∧ c ≤ hi := h3
        exact ⟨by omega, by omega, hn c h3.1 h3.2⟩
      · exact (inR_nil.1 h3).elim
    · rintro ⟨h3, h4, h5⟩
      by_cases h6 : c < lo
      · exact .inl ⟨h3, h6, h5⟩
      · exact .inr (.inl (show lo ≤ c ∧ c ≤ hi by omega))
  · rcases List.mem_append.1 hr with hr | hr
    · have := h.each r hr; omega
    · simp at hr; subst hr
      show 0 ≤ lo ∧ lo ≤ hi ∧ hi < hi + 1
      omega
  · refine List.pairwise_append.2 ⟨h.asc, List.pairwise_singleton _ _, fun r hr s hs => ?_⟩
    simp at hs; subst hs
    have := h.each r hr
    show r.1 < lo
    omega
theorem k_skip {K : Int → Prop} {lo hi : Int} {out : List Rg} (h : KInv K lo out) (h1 : lo ≤ hi) (h2 : hi ≤ 1114111) (hn : ∀ c, lo ≤ c → c ≤ hi → ¬ K c) : KInv K (hi + 1) out := by
  have h0 := h.pos
  refine ⟨by omega, by omega, fun c => ?_, fun r hr => ?_, h.asc⟩
  · rw [h.mem]
    constructor
    · rintro ⟨h3, h4, h5⟩; exact ⟨h3, by omega, h5⟩
    · rintro ⟨h3, h4, h5⟩
      refine ⟨h3, ?_, h5⟩
      refine Classical.byContradiction fun h6 => hn c (by omega) (by omega) h5
  · have := h.each r hr; omega
def Kc (a b : List Rg) (op : Int) (c : Int) : Prop := keepsB op (hasB a c) (hasB b c) = true
/-- how many ends of a set's ranges lie below a place -/
def posn (A : List Rg) (lo : Int) : Nat := A.countP (fun r => decide (r.1 ≤ lo)) + A.countP (fun r => decide (r.2 < lo))
theorem countP_more {α : Type} {p q : α → Bool} : ∀ {l : List α}, (∀ x ∈ l, p x = true → q x = true) → (∃ x ∈ l, q x = true ∧ p x = false) → l.countP p + 1 ≤ l.countP q
  | [], _, ⟨x, hx, _⟩ => by simp at hx
  | y :: l, h, ⟨x, hx, h1, h2⟩ => by
    have hm : l.countP p ≤ l.countP q := List.countP_mono_left fun z hz => h z (List.mem_cons_of_mem _ hz)
    rw [List.countP_cons, List.countP_cons]
    by_cases e : q y = true ∧ p y = false
    · rw [if_pos e.1, if_neg (by simp [e.2])]
      omega
    · rcases List.mem_cons.1 hx with rfl | hx
      · exact absurd ⟨h1, h2⟩ e
      · have ih := countP_more (l := l) (fun z hz => h z (List.mem_cons_of_mem _ hz)) ⟨x, hx, h1, h2⟩
        have hy := h y List.mem_cons_self
        by_cases hp : p y = true
        · rw [if_pos hp, if_pos (hy hp)]; omega
        · rw [if_neg hp]; omega
theorem posn_mono {A : List Rg} {lo lo' : Int} (h : lo ≤ lo') : posn A lo ≤ posn A lo' := by
  have h1 : A.countP (fun r => decide (r.1 ≤ lo)) ≤ A.countP (fun r => decide (r.1 ≤ lo')) := List.countP_mono_left fun r _ hr => by simp at hr ⊢; omega
  have h2 : A.countP (fun r => decide (r.2 < lo)) ≤ A.countP (fun r => decide (r.2 < lo')) := List.countP_mono_left fun r _ hr => by simp at hr ⊢; omega
  unfold posn; omega
theorem posn_lo {A : List Rg} {lo lo' : Int} {r : Rg} (hr : r ∈ A) (h1 : lo < r.1) (h2 : r.1 ≤ lo') : posn A lo + 1 ≤ posn A lo' := by
  have h3 : A.countP (fun r => decide (r.1 ≤ lo)) + 1 ≤ A.countP (fun r => decide (r.1 ≤ lo')) := countP_more (fun r _ hr => by simp at hr ⊢; omega) ⟨r, hr, by simp; omega, by simp; omega⟩
  have h4 : A.countP (fun r => decide (r.2 < lo)) ≤ A.countP (fun r => decide (r.2 < lo')) := List.countP_mono_left fun r _ hr => by simp at hr ⊢; omega
  unfold posn; omega
theorem posn_hi {A : List Rg} {lo lo' : Int} {r : Rg} (hr : r ∈ A) (h0 : lo ≤ lo') (h1 : lo ≤ r.2) (h2 : r.2 < lo') : posn A lo + 1 ≤ posn A lo' := by
  have h3 : A.countP (fun r => decide (r.2 < lo)) + 1 ≤ A.countP (fun r => decide (r.2 < lo')) := countP_more (fun r _ hr => by simp at hr ⊢; omega) ⟨r, hr, by simp; omega, by simp; omega⟩
  have h4 : A.countP (fun r => decide (r.1 ≤ lo)) ≤ A.countP (fun r => decide (r.1 ≤ lo')) := List.countP_mono_left fun r _ hr => by simp at hr ⊢; omega
  unfold posn; omega
theorem posn_le (A : List Rg) (lo : Int) : posn A lo ≤ 2 * A.length := by
  have h1 := List.countP_le_length (p := fun r : Rg => decide (r.1 ≤ lo)) (l := A)
  have h2 := List.countP_le_length (p := fun r : Rg => decide (r.2 < lo)) (l := A)
  unfold posn; omega
/-- What a cursor answers at a place: whether the set has it, and up to where this holds. -/
structure SegA (A : List Rg) (lo : Int) (s : Bool) (e : Int) : Prop where
  le : lo ≤ e
  max : e ≤ 1114111
  same : ∀ c, lo ≤ c → c ≤ e → (inR A c ↔ s = true)
  more : posn A lo + 1 ≤ posn A (e + 1) ∨ e = 1114111
theorem seg_end {A : List Rg} (hA : Canon A) {lo : Int} {i : Nat} (hc : CurInv A lo i) (hlo : lo ≤ 1114111) (hi : ¬ i < A.length) : SegA A lo false 1114111 :=
  ⟨hlo, Int.le_refl _, fun c c1 _ => ⟨fun h => absurd h (gap_out hA hc c1 (fun h => absurd h hi)), fun h => Bool.noConfusion h⟩, .inr rfl⟩
theorem seg_gap {A : List Rg} (hA : Canon A) {lo : Int} {i : Nat} (hc : CurInv A lo i) (hi : i < A.length) (h : lo < (A.getD i default).1) : SegA A lo false ((A.getD i default).1 - 1) := by
  have hr := canon_rg hA hi
  refine ⟨by omega, by omega, fun c c1 c2 => ⟨fun h => absurd h (gap_out hA hc c1 (fun _ => by omega)), fun h => Bool.noConfusion h⟩, .inl (posn_lo (getD_mem hi) h (by omega))⟩
theorem seg_in {A : List Rg} (hA : Canon A) {lo : Int} {i : Nat} (hi : i < A.length) (h : ¬ lo < (A.getD i default).1) (h2 : ¬ (A.getD i default).2 < lo) : SegA A lo true (A.getD i default).2 := by
  have hr := canon_rg hA hi
  refine ⟨by omega, by omega, fun c c1 c2 => ⟨fun _ => rfl, fun _ => inR_getD.2 ⟨i, hi, by omega, by omega⟩⟩, .inl (posn_hi (getD_mem hi) (by omega) (by omega) (by omega))⟩
def bndC (A B : List Rg) (lo : Int) (out : List Rg) : Prop := (lo ≤ 1114111 ∧ out.length ≤ posn A lo + posn B lo) ∨ (lo = 1114112 ∧ out.length ≤ 2 * A.length + 2 * B.length + 1)
theorem bndC_zero (A B : List Rg) : bndC A B 0 [] := .inl ⟨by decide, Nat.zero_le _⟩
theorem bndC_le {A B : List Rg} {lo : Int} {out : List Rg} (h : bndC A B lo out) : out.length ≤ 2 * A.length + 2 * B.length + 1 := by
  have h1 := posn_le A lo
  have h2 := posn_le B lo
  rcases h with h | h
  · omega
  · exact h.2
theorem bndC_step {A B : List Rg} {lo e f : Int} {s t : Bool} {out out' : List Rg} (h : bndC A B lo out) (hlo : lo ≤ 1114111) (ha : SegA A lo s e) (hb : SegA B lo t f) (ho : out'.length ≤ out.length + 1) : bndC A B (min e f + 1) out' := by
  have h0 : out.length ≤ posn A lo + posn B lo := by
    rcases h with h | h
    · exact h.2
    · omega
  have a1 := ha.le
  have a2 := ha.max
  have b1 := hb.le
  have b2 := hb.max
  have p1 := posn_le A lo
  have p2 := posn_le B lo
  by_cases hm : min e f = 1114111
  · exact .inr ⟨by omega, by omega⟩
  · refine .inl ⟨by omega, ?_⟩
    have m1 := posn_mono (A := A) (show lo ≤ min e f + 1 by omega)
    have m2 := posn_mono (A := B) (show lo ≤ min e f + 1 by omega)
    by_cases he : min e f = e
    · rcases ha.more with h3 | h3
      · rw [he] at m2 ⊢; omega
      · omega
    · have he : min e f = f := by omega
      rcases hb.more with h3 | h3
      · rw [he] at m1 ⊢; omega
      · omega
theorem hasB_canon {a : List Rg} {c : Int} : hasB a c = true ↔ inR (canon a) c := by
  rw [hasB_iff, canon_mem]
theorem seg_has {a : List Rg} {lo e c : Int} {s : Bool} (h : SegA (canon a) lo s e) (c1 : lo ≤ c) (c2 : c ≤ e) : hasB a c = s := by
  have := (hasB_canon (a := a) (c := c)).trans (h.same c c1 c2)
  cases hh : hasB a c <;> cases s <;> simp_all
theorem seg_keep {a b : List Rg} {op lo e f : Int} {s t : Bool} (ha : SegA (canon a) lo s e) (hb : SegA (canon b) lo t f) : ∀ c, lo ≤ c → c ≤ min e f → (Kc a b op c ↔ keepsB op s t = true) := by
  intro c c1 c2
  unfold Kc
  rw [seg_has ha c1 (by omega), seg_has hb c1 (by omega)]
theorem cmb_app {a b : List Rg} {op lo e f : Int} {s t : Bool} {out : List Rg} (h : KInv (Kc a b op) lo out) (ha : SegA (canon a) lo s e) (hb : SegA (canon b) lo t f) (hk : keepsB op s t = true) : KInv (Kc a b op) (min e f + 1) (out ++ [(lo, min e f)]) := by
  have a1 := ha.le
  have a2 := ha.max
  have b1 := hb.le
  exact k_more h (by omega) (by omega) fun c c1 c2 => (seg_keep ha hb c c1 c2).2 hk
theorem cmb_skip {a b : List Rg} {op lo e f : Int} {s t : Bool} {out : List Rg} (h : KInv (Kc a b op) lo out) (ha : SegA (canon a) lo s e) (hb : SegA (canon b) lo t f) (hk : keepsB op s t = false) : KInv (Kc a b op) (min e f + 1) out := by
  have a1 := ha.le
  have a2 := ha.max
  have b1 := hb.le
  exact k_skip h (by omega) (by omega) fun c c1 c2 hh => Bool.noConfusion (((seg_keep ha hb c c1 c2).1 hh).symm.trans hk)
theorem cmb_done {a b out : List Rg} {op : Int} (h : KInv (Kc a b op) 1114112 out) : canon out = combL a b op := by
  obtain ⟨h1, h2⟩ := comb_spec a b op
  refine canon_unique (canon_canon out) h1 fun c => ?_
  rw [canon_mem, h.mem, h2]
  constructor
  · rintro ⟨hb, _, _, hn⟩
    exact ⟨hb, hn⟩
  · rintro ⟨hb, hk⟩
    exact ⟨hb, hb.1, by omega, hk⟩
theorem k_mkOk {K : Int → Prop} {out : List Rg} {lo : Int} (h : KInv K lo out) (hl : out.length < 65536) : mkOk out := by
  refine ⟨hl, .inr ⟨fun r hr => ?_, fun p q hpq hq => ?_⟩⟩
  · have := h.each r hr
    have := h.le
    omega
  · have := List.pairwise_iff_getElem.1 h.asc p q (by omega) hq hpq
    rw [← Bool.not_eq_true, rgLt_iff]
    rw [List.getD_eq_getElem?_getD, List.getD_eq_getElem?_getD, List.getElem?_eq_getElem (show p < out.length by omega), List.getElem?_eq_getElem hq]
    show ¬ (out[q].1 < out[p].1 ∨ (out[q].1 = out[p].1 ∧ out[q].2 < out[p].2))
    omega
end Go.Proofs
