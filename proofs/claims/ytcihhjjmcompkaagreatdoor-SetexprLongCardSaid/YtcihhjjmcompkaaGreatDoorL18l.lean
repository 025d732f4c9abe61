import Derived.Test.YtcihhjjmcompkaaGreatDoorXlg
import Derived.Test.YtcihhjjmcompkaaGreatDoorXs
set_option linter.unusedVariables false
set_option linter.unusedSimpArgs false
namespace Go.Proofs
open Go Go.Sx
variable {mx : Int} {pb : Bool}
def lngF (k : Nat) : Nat → Nat → D := fun a _ => .v (.int .u8 (if a < k then 32 else 0))
theorem lngF_step {k a j : Nat} (hj : j < 1) : updF (lngF k) k 0 [.v (.int .u8 32)] a j = lngF (k + 1) a j := by
 obtain rfl : j = 0 := by omega
 unfold updF lngF
 by_cases h : a = k
 ·rw [if_pos h, if_pos (Nat.zero_le _), if_pos (show a < k + 1 by omega)]
  rfl
 ·rw [if_neg h]
  by_cases h2 : a < k
  ·rw [if_pos h2, if_pos (by omega)]
  ·rw [if_neg h2, if_neg (by omega)]
theorem lngF_end {N q : Nat} (h2 : 2 ≤ N) (hq : q = N - 1) (i : Nat) (hi : i < (lngL N).length) : updF (updF (lngF N) 0 0 [.v (.int .u8 91)]) q 0 [.v (.int .u8 93)] (0 + i) 0 = .v (.int .u8 ((lngL N)[i].toNat : Int)) := by
 have hl := lngL_len h2
 have hi2 : i < N := by omega
 have g : (lngL N)[i]? = some (lngL N)[i] := List.getElem?_eq_getElem hi
 rw [Nat.zero_add]
 unfold updF lngF
 by_cases h : i = q
 ·rw [if_pos h, if_pos (Nat.zero_le _)]
  have e : (lngL N)[i]? = some 93 := by rw [h, hq]; exact lngL_e h2
  rw [g] at e
  rw [Option.some.inj e]
  rfl
 ·rw [if_neg h]
  by_cases h0 : i = 0
  ·rw [if_pos h0, if_pos (Nat.zero_le _)]
   have e : (lngL N)[i]? = some 91 := by rw [h0]; rfl
   rw [g] at e
   rw [Option.some.inj e]
   rfl
  ·rw [if_neg h0, if_pos hi2]
   have e : (lngL N)[i]? = some 32 := lngL_m (by omega) (by omega)
   rw [g] at e
   rw [Option.some.inj e]
   rfl
theorem evB_row {t : TypeId} {N : Nat} {F : Nat → Nat → D} {l : List UInt8} {r : List Own} (h : bytesL (firstL F 0 N) = some l) : evBytes (.row t 1 N F :: r) (.row 0) = some ⟨⟨l⟩⟩ := by
 show (match bytesL (firstL F 0 N) with | some bs => some (⟨⟨bs⟩⟩ : ByteArray) | none => none) = _
 rw [h]
theorem cvB {X : List Oper → List (Nat × D) → Gs → List Own → (List (Nat × D) → List Own → Prop) → Prop} {cc : Bool} {Γ : Ctx} {Y : Ys} {T : TT} {Gl : Nat → Option D} {N : Nat} {all r : List Oper} {tm : List (Nat × D)} {gs : Gs} {ow : List Own} {k : List (Nat × D) → List Own → Prop} {dst : Option Nat} {a b : TypeId} {x : Operand} {ty : TypeId} {pos : String} {after : Array Edge} {d : D}
  (h1 : evPure T (.convert a b x) (fun x => opndR Gl (fun _ _ => false) tm gs ow x) ow = some ([], d)) (h : putK N dst gs d tm fun tm' => X r tm' gs ow k) : stepO X cc Γ Y T Gl N all (⟨dst, .convert a b x, ty, pos, after, none⟩ :: r) tm gs ow k := by
 unfold stepO
 dsimp only
 unfold exOp
 dsimp only
 rw [h1]
 exact h
def ctLaw18L : Ct := { ι := Int, inp := fun e => [.v (.int .u8 e)], out := fun _ => .v (.bool true), pre := fun e => 0 ≤ e ∧ e ≤ 255 }
noncomputable def Γll18 (mx : Int) (pb : Bool) : Ctx := fun f => match f with
 | 18 => some (.pure ctPrs)
 | 16 => some (.pure ctAl)
 | _ => none
theorem Γll18_ok : CtxOk Tryz.prog (GlT mx pb) (Γll18 mx pb) := by
 intro f h hh
 simp only [Γll18] at hh
 split at hh <;> simp at hh <;> subst hh
 ·exact prsC_ok
 ·exact al_ok
attribute [local irreducible] exPs exCk exSch exAlt
set_option maxHeartbeats 8000000 in
theorem lawSL_ok : Sound Tryz.prog (GlT mx pb) 8 ctLaw18L := by
 refine sound_by (cc := true) Γll18_ok Tryz.T_ok Tryz.mixed Tryz.func8 rfl (by kernel_rfl) (fun _ => rfl) (fun _ _ => by show 1 ≤ 60; decide) ?_
 rintro (e : Int) ⟨(h0 : 0 ≤ e), (h1 : e ≤ 255)⟩
 have a0 : ctAl.pre () := trivial
 obtain ⟨m, hm⟩ : ∃ m : Nat, IntKind.i64.wrap e = (m : Int) := ⟨e.toNat, by rw [wrap_fits ⟨by omega, by omega⟩]; omega⟩
 have he : e = (m : Int) := by rw [← hm, wrap_fits ⟨by omega, by omega⟩]
 have hm2 : m ≤ 255 := by omega
 repeat' (first | refine gl ?_ | (first | refine br ?_ ?_ | refine brF ?_ ?_) <;> intro q_ <;> try simp only [nz] at q_)
 rw [hm]
 repeat' (first | refine gl ?_ | (first | refine br ?_ ?_ | refine brF ?_ ?_) <;> intro q_ <;> try simp only [nz] at q_)
 refine ⟨0, Nat, fun k => ⟨[(0, .v (.int .u8 e)), (3, .row 0), (4, .v (.int .i64 k))], [.row 5 1 (65536 + m) (lngF k)], []⟩, fun k => k ≤ 65536 + m, fun k => 65536 + m - k, fun _ => Nat.zero_le _, ⟨0, Nat.zero_le _, StLe.ren [0] tmS ⟨⟨rfl, rfl, (by omega), fun a ha j hj => (by
  obtain rfl : j = 0 := by omega
  exact Ent.refl _)⟩, trivial⟩ (by decide)⟩, ?_⟩
 rintro k (hk : k ≤ 65536 + m)
 by_cases hlt : k < 65536 + m
 ·repeat' (first | refine gl ?_ | (first | refine br ?_ ?_ | refine brF ?_ ?_) <;> intro q_ <;> try simp only [nz] at q_)
  exact ⟨k + 1, hlt, (by show 65536 + m - (k + 1) < 65536 + m - k; omega), StLe.ren [0] tmS ⟨⟨rfl, rfl, rfl, fun a ha j hj => Ent.of_eq (lngF_step hj)⟩, trivial⟩ (by decide)⟩
 obtain rfl : k = 65536 + m := by omega
 repeat' (first | refine gl ?_ | (first | refine br ?_ ?_ | refine brF ?_ ?_) <;> intro q_ <;> try simp only [nz] at q_)
 simp only [setOwn, goneO, rowL, retD, nr, ns, Nat.reduceAdd, Nat.zero_add, reduceIte]
 have hbs := bytes_row (65536 + m) (l := lngL (65536 + m)) (k := 0) (lngL_len (by omega)) (lngF_end (N := 65536 + m) (q := (((65536 + m : Nat) : Int) - 1).toNat) (by omega) (by omega))
 refine cvB (d := .v (.string (lngB (65536 + m)))) ?_ ?_
 ·have hb := evB_row (t := 5) (r := []) hbs
  exact congrArg (fun o => match (match o with | some s => some (D.v (.string s)) | none => none) with | some d' => some (([] : List DP), d') | none => none) hb
 repeat' (first | refine gl ?_ | (first | refine br ?_ ?_ | refine brF ?_ ?_) <;> intro q_ <;> try simp only [nz] at q_)
 have hz := lng_sz (n := 65536 + m) (by omega)
 refine ⟨(zdb, lngB (65536 + m)), zdb_ent (EntL.refl _), zdb_sm, ?_⟩
 clear hbs
 by_cases h00 : m = 0
 ·subst h00
  rw [prs_out (prs_long (n := 65536 + 0) (by decide) (by decide))]
  have h5 : ¬ e > 0 := by omega
  simp only [setOwn, goneO, rowL, retD, nr, ns, Nat.reduceAdd, Nat.zero_add, reduceIte]
  repeat' (first | refine gl ?_ | (first | refine br ?_ ?_ | refine brF ?_ ?_) <;> intro q_ <;> try simp only [nz] at q_)
  all_goals first
   | (exfalso; simp at q_; done)
   | exact EntR.of rfl (Ent.refl _)
 ·rw [prs_out (prs_big (d := zdb) (s := lngB (65536 + m)) (by omega))]
  have h5 : e > 0 := by omega
  simp only [setOwn, goneO, rowL, retD, nr, ns, Nat.reduceAdd, Nat.zero_add, reduceIte]
  repeat' (first | refine gl ?_ | (first | refine br ?_ ?_ | refine brF ?_ ?_) <;> intro q_ <;> try simp only [nz] at q_)
  all_goals first
   | (exfalso; simp at q_; done)
   | exact EntR.of rfl (Ent.refl _)
end Go.Proofs
