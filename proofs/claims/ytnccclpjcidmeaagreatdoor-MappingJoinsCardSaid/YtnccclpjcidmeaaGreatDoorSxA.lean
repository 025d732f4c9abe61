import Derived.OrdersIn
import Derived.Below
namespace Go.Sx
open Go Go.RowKit

/-- The immutable blocks that are known. -/
abbrev Mem := Nat → Option Obj

def Mem.cell (M : Mem) (a : Addr) : Option Value :=
  match M a.block with
  | some (.cells c _ _) => if a.spot.isSome then none else c[a.off]?
  | _ => none

def Mem.le (M M' : Mem) : Prop := ∀ b o, M b = some o → M' b = some o
/-- What is known of a block: all of it; of a loop's record all but its state and its jump. -/
def Fits (o : Obj) (x : Option Obj) : Prop :=
  match o with
  | .loop r => ∃ st pe, x = some (.loop { r with state := st, pending := pe })
  | o => x = some o
def Mem.fits (M : Mem) (w : World) : Prop := ∀ b o, M b = some o → Fits o (w.heap[b]?)

theorem Fits.some {o : Obj} {x : Option Obj} (h : Fits o x) : ∃ y, x = some y := by
  cases o <;> simp only [Fits] at h <;> first | exact ⟨_, h⟩ | (obtain ⟨st, pe, h⟩ := h; exact ⟨_, h⟩)

/-- A symbolic value. -/
inductive D where
  | v (x : Value)
  | sl (sz n : Nat) (f : Nat → Nat → D)
  | ag (l : List D)
  | tu (l : List D)
  | pt (m : Nat) (f : Nat → D)
  | own (i off : Nat)
  | row (i : Nat)
  | rp (i sz idx off : Nat)
  | fn (g : FuncId) (caps : List D)
  | ifc (t : TypeId) (d : D)
  | yl (i : Nat)
  | mp (i : Nat)
  | os (i off n : Nat)
  | sd (i : Nat)
  | junk

instance : Inhabited D := ⟨.junk⟩

/-- A cell of a row of cells, by its number. -/
def rowBase : Value → Option Addr
  | .slice a _ _ => a
  | _ => none

mutual
/-- The value u represents d: M holds the immutable blocks, E the addresses and headers of what the call owns. -/
def Rep (M : Mem) (E : List Value) : D → Value → Prop
  | .v x, u => u = x
  | .sl sz n f, u => ∃ a cap, u = .slice a n cap ∧ n ≤ cap ∧ (0 < n → ∃ ad, a = some ad ∧ ∀ i, i < n → ∀ j, j < sz → ∃ x, M.cell (ad.add (i * sz + j)) = some x ∧ x.oneCell' = true ∧ Rep M [] (f i j) x)
  | .ag l, u => ∃ us, u = .agg us ∧ RepL M E l us.toList
  | .tu l, u => ∃ us, u = .tuple us ∧ RepL M E l us.toList
  | .pt m f, u => ∃ ad, u = .pointer (some ad) ∧ ∀ j, j < m → ∃ x, M.cell (ad.add j) = some x ∧ x.oneCell' = true ∧ Rep M [] (f j) x
  | .own i off, u => ∃ b, E[i]? = some (.pointer (some ⟨b, 0, none⟩)) ∧ u = .pointer (some ⟨b, off, none⟩)
  | .row i, u => E[i]? = some u
  | .rp i sz idx off, u => ∃ h b, E[i]? = some h ∧ rowBase h = some b ∧ u = .pointer (some (b.add (idx * sz + off)))
  | .fn g caps, u => ∃ us, u = .func (.func g) #[] us ∧ RepL M E caps us.toList
  | .ifc t d, u => ∃ x, u = .iface t x ∧ Rep M E d x
  | .yl i, u => ∃ b, E[i]? = some (.pointer (some ⟨b, 0, none⟩)) ∧ u = .func (.yield b) #[] #[]
  | .mp i, u => ∃ b, E[i]? = some (.pointer (some ⟨b, 0, none⟩)) ∧ u = .map (some b)
  | .os i off n, u => ∃ b o cap, E[i]? = some (.pointer (some ⟨b, 0, none⟩)) ∧ u = .slice (some ⟨b, o, none⟩) n cap ∧ n ≤ cap ∧ (0 < n → o = off)
  | .sd i, u => ∃ a n c p, E[i]? = some (.slice a n c) ∧ u = .pointer p ∧ (a = none → p = none) ∧ (∀ ad, a = some ad → c ≠ 0 → p = some ad)
  | .junk, _ => True
def RepL (M : Mem) (E : List Value) : List D → List Value → Prop
  | [], us => us = []
  | d :: ds, us => ∃ u r, us = u :: r ∧ Rep M E d u ∧ RepL M E ds r
end

theorem Mem.cell_le {M M' : Mem} (h : M.le M') {a : Addr} {x : Value} (hc : M.cell a = some x) : M'.cell a = some x := by
  unfold Mem.cell at *
  cases hb : M a.block with
  | none => simp [hb] at hc
  | some o => rw [h _ _ hb]; simpa [hb] using hc

theorem Mem.cell_fits {M : Mem} {w : World} (h : M.fits w) {a : Addr} {x : Value} (hc : M.cell a = some x) : w.cell? a = some x := by
  unfold Mem.cell at hc
  unfold World.cell?
  cases hb : M a.block with
  | none => simp [hb] at hc
  | some o =>
    have hf := h _ _ hb
    rw [hb] at hc
    cases o <;> simp only [Fits] at hf <;> first | (rw [hf]; simp_all; done) | simp_all

theorem Mem.le_refl (M : Mem) : M.le M := fun _ _ h => h
theorem Mem.le_trans {A B C : Mem} (h : A.le B) (k : B.le C) : A.le C := fun b o hb => k b o (h b o hb)

/-- The environment E' knows what E knew. -/
def EnvLe (E E' : List Value) : Prop := ∀ (i : Nat) (v : Value), E[i]? = some v → E'[i]? = some v
theorem EnvLe.refl (E : List Value) : EnvLe E E := fun _ _ h => h
theorem EnvLe.append (E F : List Value) : EnvLe E (E ++ F) := fun i v h => by
  have hi : i < E.length := by
    rcases Nat.lt_or_ge i E.length with h' | h'
    · exact h'
    · simp [List.getElem?_eq_none h'] at h
  rw [List.getElem?_append_left hi]; exact h
theorem EnvLe.nil (E : List Value) : EnvLe [] E := fun _ _ h => by simp at h

mutual
theorem Rep.mono {M M' : Mem} {E E' : List Value} (hM : M.le M') (hE : EnvLe E E') : ∀ (d : D) (u : Value), Rep M E d u → Rep M' E' d u
  | .v x, u, h => by simpa [Rep] using h
  | .sl sz n f, u, h => by
    simp only [Rep] at h ⊢
    obtain ⟨a, cap, rfl, hn, hc⟩ := h
    refine ⟨a, cap, rfl, hn, fun h0 => ?_⟩
    obtain ⟨ad, rfl, hcell⟩ := hc h0
    refine ⟨ad, rfl, fun i hi j hj => ?_⟩
    obtain ⟨x, hx, ho, hr⟩ := hcell i hi j hj
    exact ⟨x, Mem.cell_le hM hx, ho, Rep.mono hM (EnvLe.refl _) _ _ hr⟩
  | .ag l, u, h => by
    simp only [Rep] at h ⊢
    obtain ⟨us, rfl, hl⟩ := h
    exact ⟨us, rfl, RepL.mono hM hE _ _ hl⟩
  | .tu l, u, h => by
    simp only [Rep] at h ⊢
    obtain ⟨us, rfl, hl⟩ := h
    exact ⟨us, rfl, RepL.mono hM hE _ _ hl⟩
  | .pt m f, u, h => by
    simp only [Rep] at h ⊢
    obtain ⟨ad, rfl, hc⟩ := h
    refine ⟨ad, rfl, fun j hj => ?_⟩
    obtain ⟨x, hx, ho, hr⟩ := hc j hj
    exact ⟨x, Mem.cell_le hM hx, ho, Rep.mono hM (EnvLe.refl _) _ _ hr⟩
  | .own i off, u, h => by
    simp only [Rep] at h ⊢
    obtain ⟨b, hb, rfl⟩ := h
    exact ⟨b, hE _ _ hb, rfl⟩
  | .row i, u, h => by
    simp only [Rep] at h ⊢
    exact hE _ _ h
  | .rp i sz idx off, u, h => by
    simp only [Rep] at h ⊢
    obtain ⟨x, b, hx, hb, rfl⟩ := h
    exact ⟨x, b, hE _ _ hx, hb, rfl⟩
  | .fn g caps, u, h => by
    simp only [Rep] at h ⊢
    obtain ⟨us, rfl, hl⟩ := h
    exact ⟨us, rfl, RepL.mono hM hE _ _ hl⟩
  | .ifc t d, u, h => by
    simp only [Rep] at h ⊢
    obtain ⟨x, rfl, hx⟩ := h
    exact ⟨x, rfl, Rep.mono hM hE _ _ hx⟩
  | .yl i, u, h => by
    simp only [Rep] at h ⊢
    obtain ⟨b, hb, rfl⟩ := h
    exact ⟨b, hE _ _ hb, rfl⟩
  | .mp i, u, h => by
    simp only [Rep] at h ⊢
    obtain ⟨b, hb, rfl⟩ := h
    exact ⟨b, hE _ _ hb, rfl⟩
  | .os i off n, u, h => by
    simp only [Rep] at h ⊢
    obtain ⟨b, o, cap, hb, rfl, h1, h2⟩ := h
    exact ⟨b, o, cap, hE _ _ hb, rfl, h1, h2⟩
  | .sd i, u, h => by
    simp only [Rep] at h ⊢
    obtain ⟨a, n, c, p, hb, h1⟩ := h
    exact ⟨a, n, c, p, hE _ _ hb, h1⟩
  | .junk, u, _ => by simp [Rep]
theorem RepL.mono {M M' : Mem} {E E' : List Value} (hM : M.le M') (hE : EnvLe E E') : ∀ (l : List D) (us : List Value), RepL M E l us → RepL M' E' l us
  | [], us, h => by simpa [RepL] using h
  | d :: ds, us, h => by
    simp only [RepL] at h ⊢
    obtain ⟨u, r, rfl, hd, hr⟩ := h
    exact ⟨u, r, rfl, Rep.mono hM hE _ _ hd, RepL.mono hM hE _ _ hr⟩
end

#print axioms Rep.mono
end Go.Sx
