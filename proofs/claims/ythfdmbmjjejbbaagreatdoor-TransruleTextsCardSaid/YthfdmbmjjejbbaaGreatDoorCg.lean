import Derived.Test.YthfdmbmjjejbbaaGreatDoorBz
import Derived.Test.YthfdmbmjjejbbaaGreatDoorP1
import Derived.Test.YthfdmbmjjejbbaaGreatDoorE6
set_option linter.unusedVariables false
set_option linter.unusedSimpArgs false
namespace Go.Proofs
open Go Go.Sx

/-! rows of lists, more -/
theorem own_swap {α : Type} [Inhabited α] {ρ : List Nat} {e sz : Nat} {enc : α → Nat → D} {X : List α} {a b : Nat} {c1 c2 : List D} (hab : a = b + 1) (ha : a < X.length)
    (h1 : ∀ j, j < sz → c1[j]? = some (enc (X.getD b default) j)) (h2 : ∀ j, j < sz → c2[j]? = some (enc (X.getD a default) j)) :
    OwnRen ρ (.row e sz X.length (updF (updF (fun i j => enc (X.getD i default) j) a 0 c1) b 0 c2)) (rowL e sz enc (swp X b)) := by
  refine ⟨rfl, rfl, swp_length.symm, fun i hi j hj => ?_⟩
  show Ent _ (enc ((swp X b).getD i default) j)
  rw [swp_getD (by omega)]
  unfold updF
  simp only [Nat.zero_le, if_true, Nat.sub_zero, h1 j hj, h2 j hj]
  by_cases hb : i = b
  · simp only [hb, if_true]; subst hab; exact Ent.refl _
  · by_cases h3 : i = b + 1
    · have e1 : i = a := by omega
      rw [if_neg hb, if_neg hb, if_pos e1, if_pos h3]; exact Ent.refl _
    · have e1 : ¬ i = a := by omega
      rw [if_neg hb, if_neg hb, if_neg e1, if_neg h3]; exact Ent.refl _

def nilV : D := .v (.slice none 0 0)
theorem StLe.two {tm tm' : List (Nat × D)} {ow ow' : List Own} (h1 : renT [0, 1] tm tm') (h2 : renO [0, 1] ow [0, 1] ow') : StLe 2 ⟨tm, ow, []⟩ ⟨tm', ow', []⟩ :=
  StLe.renm [0, 1] h1 h2 (by decide) (by decide) (by simp)
theorem toNat_pred {j : Nat} : ((j : Int) - 1).toNat = j - 1 := by omega
theorem StLe.three {tm tm' : List (Nat × D)} {ow ow' : List Own} (h1 : renT [0, 1, 2] tm tm') (h2 : renO [0, 1, 2] ow [0, 1, 2] ow') : StLe 3 ⟨tm, ow, []⟩ ⟨tm', ow', []⟩ :=
  StLe.renm [0, 1, 2] h1 h2 (by decide) (by decide) (by simp)
theorem own_app2 {α : Type} [Inhabited α] {ρ : List Nat} {e sz : Nat} {enc : α → Nat → D} {l : List α} {x y : α} {g1 g2 : Nat → Nat → D} (h1 : ∀ j, j < sz → Ent (g1 0 j) (enc x j)) (h2 : ∀ j, j < sz → Ent (g2 0 j) (enc y j)) :
    OwnRen ρ (.row e sz (l.length + 1 + 1) (catF (l.length + 1) (catF l.length (fun i j => enc (l.getD i default) j) g1) g2)) (rowL e sz enc (l ++ [x] ++ [y])) := by
  refine ⟨rfl, rfl, by simp, fun a ha j hj => ?_⟩
  show Ent _ (enc ((l ++ [x] ++ [y]).getD a default) j)
  rw [getD_snoc, List.length_append, List.length_singleton]
  unfold catF
  by_cases h3 : a < l.length + 1
  · rw [if_pos h3, if_pos h3, getD_snoc]
    by_cases h4 : a < l.length
    · rw [if_pos h4, if_pos h4]; exact Ent.refl _
    · have : a = l.length := by omega
      subst this
      rw [if_neg h4, if_neg h4, if_pos rfl, Nat.sub_self]; exact h1 j hj
  · have : a = l.length + 1 := by omega
    subst this
    rw [if_neg h3, if_neg h3, if_pos rfl, Nat.sub_self]; exact h2 j hj
theorem ent_app {α : Type} [Inhabited α] {sz : Nat} {enc : α → Nat → D} {l : List α} {x : α} {g : Nat → Nat → D} (hg : ∀ j, j < sz → Ent (g 0 j) (enc x j)) : Ent (.sl sz (l.length + 1) (catF l.length (fun i j => enc (l.getD i default) j) g)) (slD sz enc (l ++ [x])) := by
  obtain ⟨_, _, h1, h2⟩ := own_app (ρ := []) (e := 0) (l := l) (x := x) hg
  exact Ent.sl h1 h2
theorem drop_at {α : Type} [Inhabited α] {l : List α} {k : Nat} (h : k < l.length) : l.drop k = l.getD k default :: l.drop (k + 1) := by
  rw [List.drop_eq_getElem_cons h]
  simp [List.getD_eq_getElem?_getD, h]
theorem take_at {α : Type} [Inhabited α] {l : List α} {k : Nat} (hk : k < l.length) : l.take (k + 1) = l.take k ++ [l.getD k default] := by
  rw [List.take_add_one]
  simp [List.getD_eq_getElem?_getD, hk]
theorem bif_dec {p q : Prop} [Decidable p] [Decidable q] : (bif decide p then decide q else false) = true ↔ p ∧ q := by
  by_cases h : p <;> simp [h]
theorem bif_no {p q : Prop} [Decidable p] [Decidable q] : (bif decide p then decide q else false) = false ↔ ¬ (p ∧ q) := by
  by_cases h : p <;> simp [h]
theorem next_at {p : Nat → Prop} {k : Nat} (h : ∀ j, j < k → p j) (hk : p k) : ∀ j, j < k + 1 → p j := fun j hj => by
  by_cases e : j = k
  · subst e; exact hk
  · exact h j (by omega)
theorem eq_of_getD {α : Type} [Inhabited α] {l m : List α} (h : l.length = m.length) (hd : ∀ j, j < l.length → l.getD j default = m.getD j default) : l = m := by
  refine List.ext_getElem h fun i h1 h2 => ?_
  have := hd i h1
  simpa [List.getD_eq_getElem?_getD, h1, h2] using this
theorem own_appL {α : Type} [Inhabited α] {ρ : List Nat} {e sz : Nat} {enc : α → Nat → D} {l m : List α} : OwnRen ρ (.row e sz (l.length + m.length) (catF l.length (fun i j => enc (l.getD i default) j) fun i j => enc (m.getD i default) j)) (rowL e sz enc (l ++ m)) := by
  refine ⟨rfl, rfl, by simp, fun a ha j hj => Ent.of_eq ?_⟩
  show catF _ _ _ a j = enc ((l ++ m).getD a default) j
  unfold catF
  by_cases h : a < l.length
  · rw [if_pos h]
    simp only [List.getD_eq_getElem?_getD]
    rw [List.getElem?_append_left h]
  · rw [if_neg h]
    simp only [List.getD_eq_getElem?_getD]
    rw [List.getElem?_append_right (by omega)]
def flatL {α : Type} (sz : Nat) (enc : α → Nat → D) (l : List α) : List D := l.flatMap fun a => (List.range sz).map (enc a)
theorem flatL_get {α : Type} [Inhabited α] {sz : Nat} {enc : α → Nat → D} : ∀ {l : List α} {i j : Nat}, i < l.length → j < sz → (flatL sz enc l)[i * sz + j]? = some (enc (l.getD i default) j)
  | [], i, j, h, _ => by simp at h
  | a :: l, 0, j, _, hj => by
    have : flatL sz enc (a :: l) = (List.range sz).map (enc a) ++ flatL sz enc l := rfl
    rw [this, List.getElem?_append_left (by simpa using hj)]
    simp [hj]
  | a :: l, i + 1, j, h, hj => by
    have ih := flatL_get (enc := enc) (l := l) (i := i) (j := j) (by simpa using h) hj
    have : flatL sz enc (a :: l) = (List.range sz).map (enc a) ++ flatL sz enc l := rfl
    rw [this, List.getElem?_append_right (by simp; rw [Nat.add_mul]; omega)]
    have e : (i + 1) * sz + j - ((List.range sz).map (enc a)).length = i * sz + j := by simp; rw [Nat.add_mul]; omega
    rw [e, ih]
    rfl
theorem ent_lit {α : Type} [Inhabited α] {sz n : Nat} {enc : α → Nat → D} {cs : List D} {l : List α} (hn : n = l.length) (hc : cs = flatL sz enc l) : Ent (.sl sz n fun i j => (cs[i * sz + j]?).getD .junk) (slD sz enc l) := by
  subst hn hc
  refine Ent.sl rfl fun i hi j hj => Ent.of_eq ?_
  rw [flatL_get hi hj]
  rfl
end Go.Proofs
