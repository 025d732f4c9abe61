import Derived.Test.YthfdmbmjjejbbaaGreatDoorSh
import Derived.Test.YthfdmbmjjejbbaaGreatDoorEa
import Derived.Test.YthfdmbmjjejbbaaGreatDoorBz
import Derived.Test.YthfdmbmjjejbbaaGreatDoorHxA
import Derived.Test.YthfdmbmjjejbbaaGreatDoorC2
import Derived.Test.YthfdmbmjjejbbaaGreatDoorCg
import Derived.WalkSmall
set_option linter.unusedVariables false
set_option linter.unusedSimpArgs false
namespace Go.Proofs
open Go Go.Sx Go.RowKit
variable {mx : Int} {pb : Bool}

/-! Go's library, by the shelf's contracts. -/
def listB (l : List UInt8) : ByteArray := ⟨⟨l⟩⟩
theorem ascii_all {l : List UInt8} (h : l.all (fun b => decide (b.toNat < 128)) = true) : ∀ (j : Nat) b, l[j]? = some b → b.toNat < 128 := by
  intro j b hb
  have := List.all_eq_true.1 h b (List.mem_of_getElem? hb)
  simpa using this

def blanks : ByteArray := ⟨#[32, 9, 13]⟩
def trimB (s : ByteArray) : ByteArray := listB (Lib.trimS s.data.toList [32, 9, 13])
def ctTrim : Ct := { ι := ByteArray, inp := fun s => [.v (.string s), .v (.string blanks)], out := fun s => .v (.string (trimB s)), pre := fun s => s.size ≤ 9223372036854775807 }
theorem trim_ok : Sound Tryz.prog (GlT mx pb) 53 ctTrim := by
  refine sound_calls Tryz.func53 (by kernel_rfl) (by kernel_rfl) (fun _ => rfl) fun s hs M w us hfit hG hr => ?_
  have := two_vals hr
  subst this
  refine (Any.strings_Trim_laid Tryz.lays160 (by kernel_rfl) s blanks w hs (by decide) (ascii_all (by decide))).mono ?_
  rintro e w' ⟨rfl, hb⟩
  exact ⟨_, rfl, rfl, hb⟩

def stops : ByteArray := ⟨#[59, 35, 10]⟩
def anyB (s : ByteArray) : Bool := Lib.containsAny s.data.toList [59, 35, 10]
def ctAny : Ct := { ι := ByteArray, inp := fun s => [.v (.string s), .v (.string stops)], out := fun s => .v (.bool (anyB s)), pre := fun s => s.size < 4294967281 ∧ s.data.toList.all (fun b => decide (b.toNat < 128)) = true }
def ctContains : Ct := { ι := ByteArray × ByteArray, inp := fun x => [.v (.string x.1), .v (.string x.2)], out := fun x => .v (.bool (Lib.contains x.1.data.toList x.2.data.toList)), pre := fun x => x.1.size < 4294967281 }
def strD (x : ByteArray) : Nat → D
  | 0 => .v (.string x)
  | _ => .junk
instance : Inhabited ByteArray := ⟨⟨#[]⟩⟩
def joinB (xs : List ByteArray) (sep : ByteArray) : ByteArray := listB (Lib.join (xs.map (·.data.toList)) sep.data.toList)
def ctJoinS : Ct := { ι := List ByteArray × ByteArray, inp := fun x => [slD 1 strD x.1, .v (.string x.2)], out := fun x => .v (.string (joinB x.1 x.2)), pre := fun x => x.1.length ≤ 140737488355328 ∧ (joinB x.1 x.2).size ≤ 140737488355328 }
end Go.Proofs

namespace Go.Proofs
open Go Go.Sx
variable {mx : Int} {pb : Bool}

/-! small things -/
def emB (x : ByteArray) : Bool := @decide (x = ⟨#[]⟩) (baDec x ⟨#[]⟩)
def spB : ByteArray := ⟨#[32]⟩
def smB : ByteArray := ⟨#[59, 32]⟩
def nlB : ByteArray := ⟨#[10]⟩
theorem emB_iff {x : ByteArray} : emB x = true ↔ x = ⟨#[]⟩ := eqB_iff
theorem size_nil {x : ByteArray} (h : x.data.toList = []) : x = ⟨#[]⟩ := by
  rcases x with ⟨⟨l⟩⟩
  simp at h
  subst h
  rfl
theorem bcat_empty (a : ByteArray) : bcat a ⟨#[]⟩ = a := by
  rcases a with ⟨⟨l⟩⟩
  show (⟨⟨l ++ []⟩⟩ : ByteArray) = _
  rw [List.append_nil]
theorem getD_map {α β : Type} [Inhabited α] [Inhabited β] (f : α → β) {l : List α} {k : Nat} (h : k < l.length) : (l.map f).getD k default = f (l.getD k default) := by
  simp [List.getD_eq_getElem?_getD, h]
/-! a contract told by less -/
theorem sound_less {P : Program} {Gl : Nat → Option D} {f : FuncId} {ct ct' : Ct} (h : Sound P Gl f ct) (φ : ct'.ι → ct.ι) (hi : ∀ x, ct'.inp x = ct.inp (φ x)) (hp : ∀ x, ct'.pre x → ct.pre (φ x)) (ho : ∀ x, ct'.pre x → ct.out (φ x) = ct'.out x) : Sound P Gl f ct' := by
  refine ⟨h.1, fun x => by rw [hi]; exact h.2.1 _, fun x hx M w us hf hg hr n => ?_⟩
  have := h.2.2 (φ x) (hp x hx) M w us hf hg (by rw [← hi]; exact hr) n
  rw [ho x hx] at this
  exact this
theorem ent_sl1 {α : Type} [Inhabited α] {sz : Nat} {enc : α → Nat → D} {a : α} {f : Nat → Nat → D} (h : ∀ j, j < sz → Ent (f 0 j) (enc a j)) : Ent (.sl sz 1 f) (slD sz enc [a]) := Ent.sl rfl fun i hi j hj => by
  have : i = 0 := by omega
  subst this
  exact h j hj
theorem ent_sl2 {α : Type} [Inhabited α] {sz : Nat} {enc : α → Nat → D} {a b : α} {f : Nat → Nat → D} (h : ∀ j, j < sz → Ent (f 0 j) (enc a j)) (k : ∀ j, j < sz → Ent (f 1 j) (enc b j)) : Ent (.sl sz 2 f) (slD sz enc [a, b]) := Ent.sl rfl fun i hi j hj => by
  match i, hi with
  | 0, _ => exact h j hj
  | 1, _ => exact k j hj
theorem lt1 {p : Nat → Prop} (h : p 0) : ∀ j, j < 1 → p j := fun j hj => by
  have : j = 0 := by omega
  subst this
  exact h
theorem lt5 {p : Nat → Prop} (h0 : p 0) (h1 : p 1) (h2 : p 2) (h3 : p 3) (h4 : p 4) : ∀ j, j < 5 → p j := fun j hj => by
  match j, hj with
  | 0, _ => exact h0
  | 1, _ => exact h1
  | 2, _ => exact h2
  | 3, _ => exact h3
  | 4, _ => exact h4
end Go.Proofs

namespace Go.Proofs
open Go Go.Sx Go.RowKit
variable {mx : Int} {pb : Bool}

/-! strings.Cut -/
def cutA (s sep : ByteArray) : ByteArray := listB (Lib.cut s.data.toList sep.data.toList).1
def cutZ (s sep : ByteArray) : ByteArray := listB (Lib.cut s.data.toList sep.data.toList).2.1
def cutF (s sep : ByteArray) : Bool := (Lib.cut s.data.toList sep.data.toList).2.2
def ctCutS : Ct := { ι := ByteArray × ByteArray, inp := fun x => [.v (.string x.1), .v (.string x.2)], out := fun x => .tu [.v (.string (cutA x.1 x.2)), .v (.string (cutZ x.1 x.2)), .v (.bool (cutF x.1 x.2))], pre := fun x => x.1.size < 4294967281 }
theorem tu3 {M : Mem} {E : List Value} {x y z : Value} : Rep M E (.tu [.v x, .v y, .v z]) (.tuple #[x, y, z]) := by
  simp only [Rep]
  refine ⟨_, rfl, ?_⟩
  simp only [RepL, Rep]
  exact ⟨_, _, rfl, rfl, _, _, rfl, rfl, _, _, rfl, rfl, rfl⟩
theorem tu2 {M : Mem} {E : List Value} {x y : Value} : Rep M E (.tu [.v x, .v y]) (.tuple #[x, y]) := by
  simp only [Rep]
  refine ⟨_, rfl, ?_⟩
  simp only [RepL, Rep]
  exact ⟨_, _, rfl, rfl, _, _, rfl, rfl, rfl⟩
theorem cutS_ok : Sound Tryz.prog (GlT mx pb) 52 ctCutS := by
  refine sound_calls Tryz.func52 (by kernel_rfl) (by kernel_rfl) (fun _ => rfl) fun x hs M w us hfit hG hr => ?_
  have := two_vals hr
  subst this
  refine (Any.strings_Cut Tryz.lays145 x.1 x.2 mx w hs (gl_cell hfit hG rfl)).mono ?_
  rintro e w' ⟨rfl, n, rfl⟩
  exact ⟨_, rfl, tu3, below_drewN (Below.refl _ _) n⟩

end Go.Proofs
