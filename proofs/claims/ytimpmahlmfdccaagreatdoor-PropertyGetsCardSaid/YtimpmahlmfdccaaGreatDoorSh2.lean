import Derived.Test.YtimpmahlmfdccaaGreatDoorSh
import Derived.Test.YtimpmahlmfdccaaGreatDoorSxW
import Derived.Test.YtimpmahlmfdccaaGreatDoorB0
namespace Go.Proofs
open Go Go.Sx Go.RowKit
variable {mx : Int} {pb : Bool}

/-! Go's library, by the shelf's contracts. -/
def listB (l : List UInt8) : ByteArray := ⟨⟨l⟩⟩
theorem ascii_all {l : List UInt8} (h : l.all (fun b => decide (b.toNat < 128)) = true) : ∀ (j : Nat) b, l[j]? = some b → b.toNat < 128 := by
  intro j b hb
  have := List.all_eq_true.1 h b (List.mem_of_getElem? hb)
  simpa using this

def blanks : ByteArray := ⟨#[32, 9, 13]⟩
def trimB (s : ByteArray) : ByteArray := listB (Lib.trimS s.data.toList [32, 9, 13])
def ctTrim : Ct := { ι := ByteArray, inp := fun s => [.v (.string s), .v (.string blanks)], out := fun s => .v (.string (trimB s)), pre := fun s => s.size ≤ 9223372036854775807 }
theorem trim_ok : Sound Tryz.prog (GlT mx pb) 130 ctTrim := by
  refine sound_calls Tryz.func130 (by kernel_rfl) (by kernel_rfl) (fun _ => rfl) fun s hs M w us hfit hG hr => ?_
  have := two_vals hr
  subst this
  refine (Any.strings_Trim_laid Tryz.lays160 (by kernel_rfl) s blanks w hs (by decide) (ascii_all (by decide))).mono ?_
  rintro e w' ⟨rfl, hb⟩
  exact ⟨_, rfl, rfl, hb⟩

def stops : ByteArray := ⟨#[59, 35, 10]⟩
def anyB (s : ByteArray) : Bool := Lib.containsAny s.data.toList [59, 35, 10]
def ctAny : Ct := { ι := ByteArray, inp := fun s => [.v (.string s), .v (.string stops)], out := fun s => .v (.bool (anyB s)), pre := fun s => s.size < 4294967281 ∧ s.data.toList.all (fun b => decide (b.toNat < 128)) = true }
theorem containsAny_ok : Sound Tryz.prog (GlT mx pb) 168 ctAny := by
  refine sound_calls Tryz.func168 (by kernel_rfl) (by kernel_rfl) (fun _ => rfl) fun s hs M w us hfit hG hr => ?_
  have := two_vals hr
  subst this
  refine (Any.strings_ContainsAny_laid Tryz.lays150 (by kernel_rfl) s stops w hs.1 (by decide) (ascii_all hs.2) (ascii_all (by decide))).mono ?_
  rintro e w' ⟨rfl, hb⟩
  exact ⟨_, rfl, rfl, hb⟩

def ctContains : Ct := { ι := ByteArray × ByteArray, inp := fun x => [.v (.string x.1), .v (.string x.2)], out := fun x => .v (.bool (Lib.contains x.1.data.toList x.2.data.toList)), pre := fun x => x.1.size < 4294967281 }
theorem contains_ok : Sound Tryz.prog (GlT mx pb) 169 ctContains := by
  refine sound_calls Tryz.func169 (by kernel_rfl) (by kernel_rfl) (fun _ => rfl) fun x hs M w us hfit hG hr => ?_
  have := two_vals hr
  subst this
  refine (Any.strings_Contains Tryz.lays144 x.1 x.2 mx w hs (gl_cell hfit hG rfl)).mono ?_
  rintro e w' ⟨rfl, rfl⟩
  exact ⟨_, rfl, rfl, Below.refl _ _⟩

def strD (x : ByteArray) : Nat → D
  | 0 => .v (.string x)
  | _ => .junk
instance : Inhabited ByteArray := ⟨⟨#[]⟩⟩
def joinB (xs : List ByteArray) (sep : ByteArray) : ByteArray := listB (Lib.join (xs.map (·.data.toList)) sep.data.toList)
def ctJoinS : Ct := { ι := List ByteArray × ByteArray, inp := fun x => [slD 1 strD x.1, .v (.string x.2)], out := fun x => .v (.string (joinB x.1 x.2)), pre := fun x => x.1.length ≤ 140737488355328 ∧ (joinB x.1 x.2).size ≤ 140737488355328 }
theorem joinS_ok : Sound Tryz.prog (GlT mx pb) 100 ctJoinS := by
  refine sound_calls Tryz.func100 (by kernel_rfl) (by kernel_rfl) (fun _ => rfl) fun x hs M w us hfit hG hr => ?_
  obtain ⟨xs, sep⟩ := x
  simp only [ctJoinS, RepL] at hr
  obtain ⟨u, r, h1, hu, v, r', rfl, hv, rfl⟩ := hr
  have hv : v = .string sep := hv
  subst hv
  have hus : us = #[u, .string sep] := by apply Array.ext'; simpa using h1
  subst hus
  simp only [slD, Rep] at hu
  obtain ⟨a, cap, rfl, hn, hc⟩ := hu
  rcases Nat.eq_zero_or_pos xs.length with h0 | h0
  · have e : xs = [] := List.length_eq_zero_iff.1 h0
    subst e
    refine (Any.strings_Join_none Tryz.lays156 Tryz.Builder_Extra_156 a cap sep w).mono ?_
    rintro e w' ⟨rfl, rfl⟩
    exact ⟨_, rfl, rfl, Below.refl _ _⟩
  · obtain ⟨ad, rfl, hcell⟩ := hc h0
    have key : ∀ j, j < xs.length → M.cell (ad.add j) = some (.string (xs.getD j default)) := by
      intro j hj
      obtain ⟨x, h2, _, h3⟩ := hcell j hj 0 (by omega)
      have h3 : x = .string (xs.getD j default) := h3
      rw [h3] at h2
      simpa using h2
    have hspot : ad.spot = none := by
      have := key 0 h0
      unfold Mem.cell at this
      split at this
      · split at this
        · simp at this
        · rename_i hs; simpa [Addr.add] using hs
      · simp at this
    obtain ⟨bk, o, sp⟩ := ad
    simp only at hspot
    subst hspot
    have hw : ∀ j, j < xs.length → w.cell? ⟨bk, o + j, none⟩ = some (.string (xs.getD j default)) := fun j hj => Mem.cell_fits hfit (by have := key j hj; rw [show (⟨bk, o, none⟩ : Addr).add j = ⟨bk, o + j, none⟩ from by by_cases h : j = 0 <;> simp [Addr.add, h]] at this; exact this)
    refine (Any.strings_Join Tryz.lays156 Tryz.Builder_Extra_156 bk o cap xs sep w (fun j x hj => ?_) (World.block_lt_of_cell? w ⟨bk, o + 0, none⟩ (hw 0 h0)) hs.1 hn hs.2).mono ?_
    · have hlt := get_lt hj
      rw [hw j hlt, List.getD_eq_getElem?_getD, hj]; rfl
    · rintro e w' ⟨rfl, hb⟩
      exact ⟨_, rfl, rfl, hb⟩
end Go.Proofs
