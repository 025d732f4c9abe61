import Derived.Test.YtimpmahlmfdccaaGreatDoorE6
namespace Go.Sx
open Go Go.RowKit

/-! Conditions as propositions; the walk by one word. -/
class BoolIs (c : Bool) (p n : outParam Prop) : Prop where
  t : c = true → p
  f : c = false → n
  x : p → n → False
instance (priority := low) boolIsV {c : Bool} : BoolIs c (c = true) (c = false) := ⟨id, id, fun a b => by rw [a] at b; exact Bool.noConfusion b⟩
instance boolIsD {p : Prop} {d : Decidable p} : BoolIs (@decide p d) p (¬ p) := ⟨of_decide_eq_true, of_decide_eq_false, fun a b => b a⟩
instance boolIsE {a b : Int} : BoolIs (a == b) (a = b) (¬ a = b) := ⟨fun h => by simpa using h, fun h => by simpa using h, fun a b => b a⟩
instance boolIsN {a b : Int} : BoolIs (a != b) (¬ a = b) (a = b) := ⟨fun h => by simpa using h, fun h => by simpa using h, fun a b => a b⟩
instance boolIsNot {c : Bool} {p n : Prop} [h : BoolIs c p n] : BoolIs (!c) n p := ⟨fun e => h.f (by simpa using e), fun e => h.t (by simpa using e), fun a b => h.x b a⟩
instance boolIsAnd {c d : Bool} {p n q m : Prop} [h : BoolIs c p n] [k : BoolIs d q m] : BoolIs (c && d) (p ∧ q) (n ∨ m) := ⟨fun e => by simp at e; exact ⟨h.t e.1, k.t e.2⟩, fun e => by
  cases hc : c
  · exact .inl (h.f hc)
  · rw [hc] at e; exact .inr (k.f (by simpa using e)), fun a b => b.elim (h.x a.1) (k.x a.2)⟩
instance boolIsOr {c d : Bool} {p n q m : Prop} [h : BoolIs c p n] [k : BoolIs d q m] : BoolIs (c || d) (p ∨ q) (n ∧ m) := ⟨fun e => by
  cases hc : c
  · rw [hc] at e; exact .inr (k.t (by simpa using e))
  · exact .inl (h.t hc), fun e => by simp at e; exact ⟨h.f e.1, k.f e.2⟩, fun a b => a.elim (fun a => h.x a b.1) (fun a => k.x a b.2)⟩
theorem br {c : Bool} {p n x y : Prop} [h : BoolIs c p n] (a : p → x) (b : n → y) : (c = true → x) ∧ (c = false → y) := ⟨fun e => a (h.t e), fun e => b (h.f e)⟩
theorem brF {c : Bool} {p n x y : Prop} [h : BoolIs c p n] (a : n → x) (b : p → y) : (c = false → x) ∧ (c = true → y) := ⟨fun e => a (h.f e), fun e => b (h.t e)⟩
theorem bt1 {c : Bool} {p n x y : Prop} [h : BoolIs c p n] (a : x) (e : p := by first | assumption | omega) : (c = true → x) ∧ (c = false → y) := ⟨fun _ => a, fun f => (h.x e (h.f f)).elim⟩
theorem bt0 {c : Bool} {p n x y : Prop} [h : BoolIs c p n] (a : x) (e : p := by with_reducible exact Eq.refl _) : (c = true → x) ∧ (c = false → y) := ⟨fun _ => a, fun f => (h.x e (h.f f)).elim⟩
theorem bt2 {c : Bool} {p n x y : Prop} [h : BoolIs c p n] (b : y) (e : n := by first | assumption | omega) : (c = true → x) ∧ (c = false → y) := ⟨fun f => (h.x (h.t f) e).elim, fun _ => b⟩
theorem bt3 {c : Bool} {p n x y : Prop} [h : BoolIs c p n] (a : x) (e : n := by first | assumption | omega) : (c = false → x) ∧ (c = true → y) := ⟨fun _ => a, fun f => (h.x (h.t f) e).elim⟩
theorem bt4 {c : Bool} {p n x y : Prop} [h : BoolIs c p n] (b : y) (e : p := by first | assumption | omega) : (c = false → x) ∧ (c = true → y) := ⟨fun f => (h.x e (h.f f)).elim, fun _ => b⟩
theorem mem_getD {α : Type} [Inhabited α] {l : List α} {k : Nat} (h : k < l.length) : l.getD k default ∈ l := by
  have e : l.getD k default = l[k] := by simp [List.getD_eq_getElem?_getD, h]
  rw [e]
  exact List.getElem_mem h
theorem lit_size (l : List UInt8) : (ByteArray.mk l.toArray).size = l.length := rfl
theorem bcat_size' (x y : ByteArray) : (bcat x y).size = x.size + y.size := by
  cases x; cases y; simp [bcat, ByteArray.size]
theorem wnb {p q : Prop} (k : q) (h : p := by simp only [fitsI64, Int.toNat_natCast, Src.len, bcat_size', lit_size, List.length_cons, List.length_nil]; omega) : p ∧ q := ⟨h, k⟩
theorem wca {α : Type} {P Q R : α → Prop} (x : α) (h : P x) (k : R x) (q : Q x := by first | exact trivial | assumption | omega | (refine And.intro ?_ ?_ <;> omega)) : ∃ x, P x ∧ Q x ∧ R x := ⟨x, h, q, k⟩
theorem wcb {α : Type} {P Q R : α → Prop} {c : Prop} (x : α) (h : P x) (k : R x) (q : c → Q x := by intro _; first | exact trivial | assumption | omega | (refine And.intro ?_ ?_ <;> omega)) : ∃ x, P x ∧ (c → Q x) ∧ R x := ⟨x, h, q, k⟩
theorem wa {a n : Nat} {q : Prop} (k : q) (h : Nat.ble a n = true := by exact rfl) : a ≤ n ∧ q := ⟨Nat.le_of_ble_eq_true h, k⟩
theorem ga {p q : Prop} (k : q) (h : q ∧ True → p := by intro hq; (repeat (first | refine wk1 ?_ | refine wk2 ?_ | refine wk3 ?_ | refine wt1 ?_ | refine wt2 ?_ | refine wt3 ?_ | refine wt4 ?_ | refine wca _ (EntL.refl _) ?_ | refine wcb _ (EntL.refl _) ?_ | refine bt1 ?_ | refine bt2 ?_ | refine bt3 ?_ | refine bt4 ?_ | refine wn1 ?_ | refine wn2 ?_ | refine wnb ?_ | refine wa ?_ | refine wn5 ?_)); exact hq.1) : p := h ⟨k, trivial⟩
theorem entR_eq {d d' : D} (h : d = d') (hp : pd d = true) : EntR d d' := h ▸ EntR.of hp (Ent.refl _)
theorem entR_eq' {d d' : D} (hp : pd d' = true) (h : d = d') : EntR d d' := h ▸ EntR.of (h ▸ hp) (Ent.refl _)
end Go.Sx
