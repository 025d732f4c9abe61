import Derived.Test.YtcihhjjmcompkaaGreatDoorCvz
import Derived.Test.YtcihhjjmcompkaaGreatDoorBz
import Derived.Test.YtcihhjjmcompkaaGreatDoorGc
import Derived.Test.YtcihhjjmcompkaaGreatDoorUz
set_option linter.unusedVariables false
set_option linter.unusedSimpArgs false
namespace Go.Proofs
open Go Go.Sx
variable {mx : Int} {pb : Bool}
theorem bAt_getZ {s : ByteArray} {k : Nat} (h : k < s.size) : bAt s k = ((s.data.toList[k]'h).toNat : Int) := by
 unfold bAt
 rw [List.getElem?_eq_getElem h]
 rfl
theorem u8_eqZ {a : UInt8} {c : UInt8} : ((a.toNat : Int) = (c.toNat : Int)) ↔ a = c := by
 constructor
 ·intro h
  have : a.toNat = c.toNat := by omega
  exact UInt8.toNat_inj.1 this
 ·intro h; rw [h]
def dropZ : List UInt8 → List UInt8
 | [] => []
 | b :: l => if b = 48 then dropZ l else b :: l
def shortL (l : List UInt8) : List UInt8 := if dropZ l = [] then [48] else dropZ l
theorem dropZ_len : ∀ l, (dropZ l).length ≤ l.length
 | [] => Nat.le_refl _
 | b :: l => by
  have := dropZ_len l
  unfold dropZ
  split <;> simp <;> omega
theorem dropZ_at {l : List UInt8} {k : Nat} (hk : k < l.length) : dropZ (l.drop k) = if l[k] = 48 then dropZ (l.drop (k + 1)) else l.drop k := by
 rw [List.drop_eq_getElem_cons hk, dropZ]
theorem bcut1 (l : List UInt8) (k : Nat) : bcut ⟨⟨l.drop k⟩⟩ 1 (l.drop k).length = ⟨⟨l.drop (k + 1)⟩⟩ := by
 show (⟨⟨((l.drop k).take (l.drop k).length).drop 1⟩⟩ : ByteArray) = _
 rw [List.take_length, List.drop_drop]
theorem bAt_drop {l : List UInt8} {k : Nat} (h : k < l.length) : bAt ⟨⟨l.drop k⟩⟩ 0 = (l[k].toNat : Int) := by
 have hsk : (⟨⟨l.drop k⟩⟩ : ByteArray).size = l.length - k := by show (l.drop k).length = _; rw [List.length_drop]
 rw [bAt_getZ (by rw [hsk]; omega)]
 show (((l.drop k)[0]'_).toNat : Int) = _
 rw [List.getElem_drop]
 rfl
def tzB (s : ByteArray) : ByteArray := ⟨⟨dropZ s.data.toList⟩⟩
theorem tzB_size (s : ByteArray) : (tzB s).size ≤ s.size := dropZ_len _
def ctTrimB : Ct := { ι := ByteArray, inp := fun s => [.v (.string s), .v (.int .u8 48)], out := fun s => .v (.string (tzB s)), pre := fun s => s.size ≤ 1000000 }
set_option maxHeartbeats 1000000 in
theorem trimB_ok : Sound Tryz.prog (GlT mx pb) 113 ctTrimB := by
 refine sound_by (cc := true) Γ0_ok Tryz.T_ok Tryz.mixed Tryz.func113 rfl (by kernel_rfl) (fun _ => rfl) (fun _ _ => by show 2 ≤ 17; decide) ?_
 intro (s : ByteArray) (hs : s.size ≤ 1000000)
 have hsz : s.data.toList.length = s.size := rfl
 obtain ⟨l, hl⟩ : ∃ l, l = s.data.toList := ⟨_, rfl⟩
 have hs2 : s = ⟨⟨l⟩⟩ := by rw [hl]
 subst hs2
 repeat' (first | refine gl ?_ | (first | refine br ?_ ?_ | refine brF ?_ ?_) <;> intro q_ <;> try simp only [nz] at q_)
 refine ⟨0, Nat, fun k => ⟨[(0, .v (.string ⟨⟨l.drop k⟩⟩)), (1, .v (.int .u8 48))], [], []⟩, fun k => k ≤ l.length ∧ dropZ (l.drop k) = dropZ l, fun k => l.length - k, fun _ => Nat.zero_le _, ⟨0, ⟨Nat.zero_le _, by rw [List.drop_zero]⟩, StLe.ren [] ⟨Ent.v (by rw [List.drop_zero]), rfl, Ent.refl _, rfl, trivial⟩ trivial (by decide)⟩, ?_⟩
 rintro k ⟨hk, hd⟩
 have hsk : (⟨⟨l.drop k⟩⟩ : ByteArray).size = l.length - k := by show (l.drop k).length = _; rw [List.length_drop]
 by_cases hlt : k < l.length
 ·have hb := bAt_drop hlt
  have h48 : ((l[k].toNat : Int) = 48) ↔ l[k] = 48 := u8_eqZ (c := 48)
  repeat' (first | refine gl ?_ | (first | refine br ?_ ?_ | refine brF ?_ ?_) <;> intro q_ <;> try simp only [nz] at q_)
  ·exact ⟨k + 1, ⟨by omega, by rw [← hd, dropZ_at hlt, if_pos (h48.1 (hb.symm.trans q_))]⟩, (by show l.length - (k + 1) < l.length - k; omega), StLe.ren [] ⟨Ent.v (congrArg Value.string (bcut1 l k)), rfl, Ent.refl _, rfl, trivial⟩ trivial (by decide)⟩
  ·refine EntR.str ?_
   show (⟨⟨l.drop k⟩⟩ : ByteArray) = ⟨⟨dropZ l⟩⟩
   rw [← hd, dropZ_at hlt, if_neg (fun h => q_ (hb.trans (h48.2 h)))]
 ·have he : l.drop k = [] := List.drop_eq_nil_of_le (by omega)
  repeat' (first | refine gl ?_ | (first | refine br ?_ ?_ | refine brF ?_ ?_) <;> intro q_ <;> try simp only [nz] at q_)
  refine EntR.str ?_
  show (⟨⟨l.drop k⟩⟩ : ByteArray) = ⟨⟨dropZ l⟩⟩
  rw [← hd, he]
  rfl
def zB : ByteArray := ⟨#[48]⟩
def ctTrimZ : Ct := { ι := ByteArray, inp := fun s => [.v (.string s), .v (.string zB)], out := fun s => .v (.string (tzB s)), pre := fun s => s.size ≤ 1000000 }
noncomputable def Γtz : Ctx := fun f => match f with
 | 113 => some (.pure ctTrimB)
 | _ => none
theorem Γtz_ok : CtxOk Tryz.prog (GlT mx pb) Γtz := by
 intro f h hh
 simp only [Γtz] at hh
 split at hh <;> simp at hh <;> subst hh
 ·exact trimB_ok
set_option maxHeartbeats 1000000 in
theorem trimZ_ok : Sound Tryz.prog (GlT mx pb) 97 ctTrimZ := by
 refine sound_by (cc := true) Γtz_ok Tryz.T_ok Tryz.mixed Tryz.func97 rfl (by kernel_rfl) (fun _ => rfl) (fun _ _ => by show 2 ≤ 37; decide) ?_
 intro (s : ByteArray) (hs : s.size ≤ 1000000)
 have p1 : ctTrimB.pre s := hs
 have hz1 : (zB.size : Int) = 1 := rfl
 have hz2 : zB.size = 1 := rfl
 by_cases h0 : s = ⟨#[]⟩
 ·subst h0
  repeat' (first | refine gd ?_ | (first | refine br ?_ ?_ | refine brF ?_ ?_) <;> intro q_ <;> try simp only [nz] at q_)
  exact EntR.str rfl
 ·repeat' (first | refine gd ?_ | (first | refine br ?_ ?_ | refine brF ?_ ?_) <;> intro q_ <;> try simp only [nz] at q_)
  exact EntR.str rfl
def escL (c : Int) : List UInt8 := [92, 117, 123] ++ shortL (hexL c) ++ [125]
theorem shortL_len (c : Int) : (shortL (hexL c)).length ≤ 6 := by
 have h1 := dropZ_len (hexL c)
 have h2 : (hexL c).length ≤ 6 := hexS_size c
 unfold shortL
 split
 ·simp
 ·omega
theorem escL_len (c : Int) : (escL c).length ≤ 10 := by
 have := shortL_len c
 simp only [escL, List.length_append, List.length_cons, List.length_nil]
 omega
def escS (c : Int) : ByteArray := ⟨⟨escL c⟩⟩
theorem escS_size (c : Int) : (escS c).size ≤ 10 := escL_len c
def ctCode : Ct := { ι := Int, inp := fun c => [.v (.int .i64 c)], out := fun c => .v (.string (escS c)), pre := fun c => validB c = true }
noncomputable def Γcd (mx : Int) (pb : Bool) : Ctx := fun f => match f with
 | 98 => some (.pure ctHex)
 | 97 => some (.pure ctTrimZ)
 | _ => none
theorem Γcd_ok : CtxOk Tryz.prog (GlT mx pb) (Γcd mx pb) := by
 intro f h hh
 simp only [Γcd] at hh
 split at hh <;> simp at hh <;> subst hh
 ·exact hex_ok
 ·exact trimZ_ok
set_option maxHeartbeats 1000000 in
theorem code_ok : Sound Tryz.prog (GlT mx pb) 51 ctCode := by
 refine sound_by (cc := true) Γcd_ok Tryz.T_ok Tryz.mixed Tryz.func51 rfl (by kernel_rfl) (fun _ => rfl) (fun _ _ => by show 1 ≤ 12; decide) ?_
 intro (c : Int) (hc : validB c = true)
 have p1 : ctTrimZ.pre (hexS c) := by have := hexS_size c; show (hexS c).size ≤ 1000000; omega
 have hl : (tzB (hexS c)).size ≤ 6 := Nat.le_trans (tzB_size _) (hexS_size c)
 by_cases h0 : tzB (hexS c) = ⟨#[]⟩
 ·have h1 : dropZ (hexL c) = [] := by
   have := congrArg (fun b : ByteArray => b.data.toList) h0
   exact this
  repeat' (first | refine gl ?_ | (first | refine br ?_ ?_ | refine brF ?_ ?_) <;> intro q_ <;> try simp only [nz] at q_)
  refine EntR.str ?_
  show _ = (⟨⟨escL c⟩⟩ : ByteArray)
  rw [escL, shortL, if_pos h1]
  rfl
 ·have h1 : ¬ dropZ (hexL c) = [] := fun h => h0 (by show (⟨⟨dropZ (hexL c)⟩⟩ : ByteArray) = _; rw [h])
  repeat' (first | refine gl ?_ | (first | refine br ?_ ?_ | refine brF ?_ ?_) <;> intro q_ <;> try simp only [nz] at q_)
  refine EntR.str ?_
  show _ = (⟨⟨escL c⟩⟩ : ByteArray)
  rw [escL, shortL, if_neg h1]
  rfl
end Go.Proofs
namespace Go.Proofs
open Go Go.Sx
variable {mx : Int} {pb : Bool}
def dashB : ByteArray := ⟨#[45]⟩
def rgW (b : ByteArray) (r : Rg) : ByteArray := if r.2 = r.1 then bcat b (escS r.1) else bcat (bcat b (escS r.1)) (bcat dashB (escS r.2))
def setTK (C : List Rg) : Nat → ByteArray
 | 0 => ⟨#[91]⟩
 | k + 1 => rgW (setTK C k) (C.getD k default)
def shutB : ByteArray := ⟨#[93]⟩
def setTx (l : List Rg) : ByteArray := bcat (setTK (canon l) (canon l).length) shutB
theorem rgW_size (b : ByteArray) (r : Rg) : (rgW b r).size ≤ b.size + 21 := by
 have h1 := escS_size r.1
 have h2 := escS_size r.2
 have h3 : dashB.size = 1 := rfl
 unfold rgW
 split <;> simp only [bcat_size', h3] <;> omega
theorem setTK_size (C : List Rg) : ∀ k, (setTK C k).size ≤ 1 + 21 * k
 | 0 => Nat.le_refl _
 | k + 1 => by
  have h1 := setTK_size C k
  have h2 := rgW_size (setTK C k) (C.getD k default)
  show (rgW _ _).size ≤ _
  omega
def ctSetTx : Ct := { ι := List Rg, inp := fun l => [setD l], out := fun l => .v (.string (setTx l)), pre := fun l => l.length ≤ 12 }
noncomputable def Γpt (mx : Int) (pb : Bool) : Ctx := fun f => match f with
 | 51 => some (.pure ctCode)
 | 50 => some (.pure ctMake)
 | 49 => some (.gen (inlW true (Γbw mx pb) Tryz.T (GlT mx pb) Tryz.f49 cWStr))
 | 52 => some (.gen (inlW true Γ0 Tryz.T (GlT mx pb) Tryz.f52 cBStr))
 | _ => none
theorem Γpt_ok : CtxOk Tryz.prog (GlT mx pb) (Γpt mx pb) := by
 intro f h hh
 simp only [Γpt] at hh
 split at hh <;> simp at hh <;> subst hh
 ·exact code_ok
 ·exact cpMake_ok
 ·exact soundT_inlW Γbw_ok Tryz.T_ok Tryz.mixed Tryz.func49 rfl (by kernel_rfl)
 ·exact soundT_inlW Γ0_ok Tryz.T_ok Tryz.mixed Tryz.func52 rfl (by kernel_rfl)
set_option maxHeartbeats 8000000 in
theorem pSetTx_ok : Sound Tryz.prog (GlT mx pb) 17 ctSetTx := by
 refine sound_by (cc := true) Γpt_ok Tryz.T_ok Tryz.mixed Tryz.func17 rfl (by kernel_rfl) (fun _ => rfl) (fun _ _ => by show 1 ≤ 33; decide) ?_
 intro (l : List Rg) (hl : l.length ≤ 12)
 have p1 : ctMake.pre l := ⟨by omega, .inl hl⟩
 have hC := canon_canon l
 have hlen := canon_len l
 have hout : ctSetTx.out l = .v (.string (bcat (setTK (canon l) (canon l).length) shutB)) := rfl
 repeat' (first | refine gl ?_ | (first | refine br ?_ ?_ | refine brF ?_ ?_) <;> intro q_ <;> try simp only [nz] at q_)
 generalize canon l = C at hC hlen hout ⊢
 refine ⟨0, Nat, fun k => ⟨[(3, .own 0 0), (10, rgsD C), (11, .v (.int .i64 C.length)), (12, .v (.int .i64 k))], [.cells 88 [.own 0 0, .row 1], .bytes 5 (setTK C k)], []⟩, fun k => k ≤ C.length, fun k => C.length - k, fun _ => Nat.zero_le _, ⟨0, Nat.zero_le _, StLe.ren [1, 2] tmS ⟨⟨rfl, EntL.refl _, rfl⟩, ⟨rfl, rfl⟩, trivial⟩ (by decide)⟩, ?_⟩
 intro k (hk : k ≤ C.length)
 have hs := setTK_size C k
 by_cases hlt : k < C.length
 ·obtain ⟨r1, r2, r3⟩ := canon_rg hC hlt
  have p2 : ctCode.pre (C.getD k default).1 := validB_iff.2 ⟨by omega, by omega⟩
  have p3 : ctCode.pre (C.getD k default).2 := validB_iff.2 ⟨by omega, by omega⟩
  have e1 := escS_size (C.getD k default).1
  have e2 := escS_size (C.getD k default).2
  repeat' (first | refine gl ?_ | (first | refine br ?_ ?_ | refine brF ?_ ?_) <;> intro q_ <;> try simp only [nz] at q_)
  ·exact ⟨k + 1, (by show k + 1 ≤ C.length; omega), (by show C.length - (k + 1) < C.length - k; omega), StLe.ren [0, 4] tmS ⟨⟨rfl, EntL.refl _, rfl⟩, ⟨rfl, by first | (show rgW (setTK C k) (C.getD k default) = _; rw [rgW, if_neg q_]; rfl) | (show _ = rgW (setTK C k) (C.getD k default); rw [rgW, if_neg q_]; rfl)⟩, trivial⟩ (by decide)⟩
  ·exact ⟨k + 1, (by show k + 1 ≤ C.length; omega), (by show C.length - (k + 1) < C.length - k; omega), StLe.ren [0, 3] tmS ⟨⟨rfl, EntL.refl _, rfl⟩, ⟨rfl, by first | (show rgW (setTK C k) (C.getD k default) = _; rw [rgW, if_pos q_]; rfl) | (show _ = rgW (setTK C k) (C.getD k default); rw [rgW, if_pos q_]; rfl)⟩, trivial⟩ (by decide)⟩
 ·have he : k = C.length := by omega
  repeat' (first | refine gl ?_ | (first | refine br ?_ ?_ | refine brF ?_ ?_) <;> intro q_ <;> try simp only [nz] at q_)
  refine EntR.str ?_
  show bcat (setTK C k) shutB = setTx l
  rw [he]
  exact (Value.string.inj (D.v.inj hout)).symm
end Go.Proofs
