import Derived.Test.YtnccclpjcidmeaaGreatDoorSxF
namespace Go.Sx
open Go Go.RowKit

theorem splice_set {α : Type} : ∀ {l : List α} {o : Nat} {c : α} {cs l' : List α}, splice l o (c :: cs) = some l' → splice (l.set o c) (o + 1) cs = some l'
  | [], 0, c, cs, l', h => by simp [splice] at h
  | x :: l, 0, c, cs, l', h => by simpa [splice] using h
  | [], n + 1, c, cs, l', h => by simp [splice] at h
  | x :: l, n + 1, c, cs, l', h => by
    simp only [splice, Option.map_eq_some_iff] at h
    obtain ⟨m, hm, rfl⟩ := h
    have := splice_set hm
    simp [splice, this]

theorem splice_nil {α : Type} : ∀ (l : List α) (o : Nat) (l' : List α), splice l o [] = some l' → l = l'
  | l, 0, l', h => by simpa [splice] using h
  | [], n + 1, l', h => by simp [splice] at h
  | x :: l, n + 1, l', h => by
    simp only [splice, Option.map_eq_some_iff] at h
    obtain ⟨m, hm, rfl⟩ := h
    rw [splice_nil l n m hm]

theorem foldl_splice (off : Nat) : ∀ (vs : List Value) (k : Nat) (cells : Array Value) (l' : List Value), splice cells.toList (off + k) vs = some l' →
    ((vs.zipIdx k).foldl (fun (cs : Array Value) (p : Value × Nat) => cs.setIfInBounds (off + p.2) p.1) cells).toList = l'
  | [], k, cells, l', h => by
    have := (splice_nil _ _ _ h)
    simpa using this
  | v :: vs, k, cells, l', h => by
    simp only [List.zipIdx_cons, List.foldl_cons]
    refine foldl_splice off vs (k + 1) _ l' ?_
    rw [Array.toList_setIfInBounds]
    exact splice_set h

theorem cells_one {u : Value} (h : u.oneCell' = true) : u.cells.toList = [u] := by
  cases u <;> simp_all [Value.cells, Value.oneCell']

theorem Rep_one {B : Nat} {w0 w : World} {M0 M : Mem} {E : List Value} {ow : List Own} (hW : WRel B w0 M0 M E ow w) {d : D} {u : Value} (h : oneD d = true) (hu : Rep M E d u) : u.oneCell' = true := by
  cases d <;> simp only [oneD] at h <;> try (simp at h; done)
  case v x => simp only [Rep] at hu; subst hu; exact h
  case sl => simp only [Rep] at hu; obtain ⟨a, cap, rfl, _⟩ := hu; rfl
  case pt => simp only [Rep] at hu; obtain ⟨a, rfl, _⟩ := hu; rfl
  case own => simp only [Rep] at hu; obtain ⟨a, _, rfl⟩ := hu; rfl
  case rp => simp only [Rep] at hu; obtain ⟨a, b, _, _, rfl⟩ := hu; rfl
  case fn => simp only [Rep] at hu; obtain ⟨a, rfl, _⟩ := hu; rfl
  case ifc => simp only [Rep] at hu; obtain ⟨a, rfl, _⟩ := hu; rfl
  case yl => simp only [Rep] at hu; obtain ⟨a, _, rfl⟩ := hu; rfl
  case mp => simp only [Rep] at hu; obtain ⟨a, _, rfl⟩ := hu; rfl
  case os => simp only [Rep] at hu; obtain ⟨a, _, _, _, rfl, _⟩ := hu; rfl
  case row i =>
    simp only [Rep] at hu
    obtain ⟨o, ho, hH⟩ := hW.row hu
    cases o with
    | cells t l => simp only [Holds] at hH; obtain ⟨b, cs, rfl, _⟩ := hH; rfl
    | row e sz n f => simp only [Holds] at hH; obtain ⟨xs, hown, _⟩ := hH; obtain ⟨a, cap, rfl⟩ := ownsRow_len hown; rfl
    | bytes e s => simp only [Holds] at hH; obtain ⟨⟨xs, hown, _⟩, _⟩ := hH; obtain ⟨a, cap, rfl⟩ := ownsRow_len hown; rfl
    | map k v sh f => simp only [Holds] at hH; obtain ⟨b, es, ck, rfl, _⟩ := hH; rfl
    | lp st pe => simp only [Holds] at hH; obtain ⟨b, r, rfl, _⟩ := hH; rfl
    | defd => simp only [Holds] at hH; obtain ⟨b, rfl, _⟩ := hH; rfl
    | iter => simp only [Holds] at hH; obtain ⟨b, rfl, _⟩ := hH; rfl
    | frozen sz n f => simp only [Holds, Rep] at hH; obtain ⟨a, cap, rfl, _⟩ := hH; rfl
    | gone => exact hH

theorem cellsD_rep {B : Nat} {w0 w : World} {M0 M : Mem} {E : List Value} {ow : List Own} (hW : WRel B w0 M0 M E ow w) {d : D} {cs : List D} {u : Value} (h : cellsD d = some cs) (hu : Rep M E d u) : RepL M E cs u.cells.toList := by
  have one : oneD d = true → cs = [d] → RepL M E cs u.cells.toList := by
    intro h1 h2
    subst h2
    rw [cells_one (Rep_one hW h1 hu)]
    exact RepL.cons hu RepL.nil
  cases d
  case ag l =>
    simp [cellsD] at h; subst h
    simp only [Rep] at hu
    obtain ⟨us, rfl, hl⟩ := hu
    exact hl
  all_goals
    simp only [cellsD] at h
    split at h
    · rename_i h1
      simp at h
      exact one h1 h.symm
    · simp at h

/-- What the parts of an aggregate are given as. -/
inductive RepP (M : Mem) (E : List Value) : List (Nat × D) → List (Nat × Value) → Prop
  | nil : RepP M E [] []
  | cons {i : Nat} {d : D} {u : Value} {ds : List (Nat × D)} {us : List (Nat × Value)} : Rep M E d u → RepP M E ds us → RepP M E ((i, d) :: ds) ((i, u) :: us)

theorem getParts_rep {M : Mem} {E : List Value} {g : Gets} {ρ : Operand → Value} (hg : ∀ x d, g x = some d → Rep M E d (ρ x)) : ∀ {ps : List (Nat × Operand)} {ds : List (Nat × D)}, getParts g ps = some ds → RepP M E ds (ps.map fun p => (p.1, ρ p.2))
  | [], ds, h => by simp [getParts] at h; subst h; exact .nil
  | (i, x) :: ps, ds, h => by
    simp only [getParts] at h
    split at h
    · rename_i d ds' h1 h2
      simp at h; subst h
      exact .cons (hg _ _ h1) (getParts_rep hg h2)
    · simp at h

theorem gets_rep {M : Mem} {E : List Value} {g : Gets} {ρ : Operand → Value} (hg : ∀ x d, g x = some d → Rep M E d (ρ x)) : ∀ {ps : List Operand} {ds : List D}, gets g ps = some ds → RepL M E ds (ps.map ρ)
  | [], ds, h => by simp [gets] at h; subst h; exact RepL.nil
  | x :: ps, ds, h => by
    simp only [gets] at h
    split at h
    · rename_i d ds' h1 h2
      simp at h; subst h
      exact RepL.cons (hg _ _ h1) (gets_rep hg h2)
    · simp at h

end Go.Sx
