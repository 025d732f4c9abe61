import Derived.Test.YtimpmahlmfdccaaGreatDoorSh2
import Derived.Test.YtimpmahlmfdccaaGreatDoorHxA
import Derived.Test.YtimpmahlmfdccaaGreatDoorC2
import Derived.Test.YtimpmahlmfdccaaGreatDoorSxX
namespace Go.Proofs
open Go Go.Sx
variable {mx : Int} {pb : Bool}

/-! small things -/
def emB (x : ByteArray) : Bool := @decide (x = ⟨#[]⟩) (baDec x ⟨#[]⟩)
def spB : ByteArray := ⟨#[32]⟩
def smB : ByteArray := ⟨#[59, 32]⟩
def nlB : ByteArray := ⟨#[10]⟩
theorem emB_iff {x : ByteArray} : emB x = true ↔ x = ⟨#[]⟩ := eqB_iff
theorem size_nil {x : ByteArray} (h : x.data.toList = []) : x = ⟨#[]⟩ := by
  rcases x with ⟨⟨l⟩⟩
  simp at h
  subst h
  rfl
theorem bcat_empty (a : ByteArray) : bcat a ⟨#[]⟩ = a := by
  rcases a with ⟨⟨l⟩⟩
  show (⟨⟨l ++ []⟩⟩ : ByteArray) = _
  rw [List.append_nil]
theorem getD_map {α β : Type} [Inhabited α] [Inhabited β] (f : α → β) {l : List α} {k : Nat} (h : k < l.length) : (l.map f).getD k default = f (l.getD k default) := by
  simp [List.getD_eq_getElem?_getD, h]
/-! a contract told by less -/
theorem sound_less {P : Program} {Gl : Nat → Option D} {f : FuncId} {ct ct' : Ct} (h : Sound P Gl f ct) (φ : ct'.ι → ct.ι) (hi : ∀ x, ct'.inp x = ct.inp (φ x)) (hp : ∀ x, ct'.pre x → ct.pre (φ x)) (ho : ∀ x, ct'.pre x → ct.out (φ x) = ct'.out x) : Sound P Gl f ct' := by
  refine ⟨h.1, fun x => by rw [hi]; exact h.2.1 _, fun x hx M w us hf hg hr n => ?_⟩
  have := h.2.2 (φ x) (hp x hx) M w us hf hg (by rw [← hi]; exact hr) n
  rw [ho x hx] at this
  exact this
theorem ent_sl1 {α : Type} [Inhabited α] {sz : Nat} {enc : α → Nat → D} {a : α} {f : Nat → Nat → D} (h : ∀ j, j < sz → Ent (f 0 j) (enc a j)) : Ent (.sl sz 1 f) (slD sz enc [a]) := Ent.sl rfl fun i hi j hj => by
  have : i = 0 := by omega
  subst this
  exact h j hj
theorem ent_sl2 {α : Type} [Inhabited α] {sz : Nat} {enc : α → Nat → D} {a b : α} {f : Nat → Nat → D} (h : ∀ j, j < sz → Ent (f 0 j) (enc a j)) (k : ∀ j, j < sz → Ent (f 1 j) (enc b j)) : Ent (.sl sz 2 f) (slD sz enc [a, b]) := Ent.sl rfl fun i hi j hj => by
  match i, hi with
  | 0, _ => exact h j hj
  | 1, _ => exact k j hj
theorem lt1 {p : Nat → Prop} (h : p 0) : ∀ j, j < 1 → p j := fun j hj => by
  have : j = 0 := by omega
  subst this
  exact h
theorem lt5 {p : Nat → Prop} (h0 : p 0) (h1 : p 1) (h2 : p 2) (h3 : p 3) (h4 : p 4) : ∀ j, j < 5 → p j := fun j hj => by
  match j, hj with
  | 0, _ => exact h0
  | 1, _ => exact h1
  | 2, _ => exact h2
  | 3, _ => exact h3
  | 4, _ => exact h4
end Go.Proofs
