import Derived.Test.YtcihhjjmcompkaaGreatDoorL18c
import Derived.Test.YtcihhjjmcompkaaGreatDoorXlc
set_option linter.unusedVariables false
set_option linter.unusedSimpArgs false
namespace Go.Proofs
open Go Go.Sx
variable {mx : Int} {pb : Bool}
theorem prF_sz : ∀ p, p < 7 → (prFl.getD p default).size ≤ 10 := fun p hp => by
 match p, hp with
 | 0, _ => decide
 | 1, _ => decide
 | 2, _ => decide
 | 3, _ => decide
 | 4, _ => decide
 | 5, _ => decide
 | 6, _ => decide
noncomputable def ctLaw18K : Ct := { ι := Db × Int × Int, inp := fun x => [dbA x.1, .v (.int .u8 x.2.1), .v (.int .u8 x.2.2)], out := fun _ => .v (.bool true), pre := fun x => fitDb x.1 ∧ (0 ≤ x.2.1 ∧ x.2.1 ≤ 255) ∧ 0 ≤ x.2.2 ∧ x.2.2 ≤ 255 }
noncomputable def Γlk18 (mx : Int) (pb : Bool) : Ctx := fun f => match f with
 | 27 => some (.pure ctSmDb)
 | 29 => some (.pure ctPropI)
 | 30 => some (.pure ctDbE)
 | 31 => some (.pure ctFiles)
 | 18 => some (.pure ctPrs)
 | 32 => some (.pure ctSetV)
 | 20 => some (.pure ctSameS)
 | 23 => some (.pure ctNotS)
 | 16 => some (.pure ctAl)
 | _ => none
theorem Γlk18_ok : CtxOk Tryz.prog (GlT mx pb) (Γlk18 mx pb) := by
 intro f h hh
 simp only [Γlk18] at hh
 split at hh <;> simp at hh <;> subst hh
 ·exact rSmDb_ok
 ·exact rProp_ok
 ·exact rDbE_ok
 ·exact rFiles_ok
 ·exact prsC_ok
 ·exact rSetV_ok
 ·exact r2Same_ok
 ·exact rNotS_ok
 ·exact al_ok
theorem rl1 {all : List Oper} {tm0 tm tm' : List (Nat × D)} {i t : Nat} {d : D} {is : List Nat} (h1 : dstOf all i = some t) (h2 : lk tm0 t = some d) (h : restL all tm0 is tm = tm') : restL all tm0 (i :: is) tm = (t, d) :: tm' := by
 show (match dstOf all i with | some t => (match lk tm0 t with | some d => setT (restL all tm0 is tm) t d | none => restL all tm0 is tm) | none => restL all tm0 is tm) = _
 simp only [h1, h2, h]
 rfl
theorem rl0 {all : List Oper} {tm0 tm tm' : List (Nat × D)} (h : tm = tm') : restL all tm0 [] tm = tm' := h
theorem jl1 {all : List Oper} {tm tm' : List (Nat × D)} {i t : Nat} {is : List Nat} (h1 : dstOf all i = some t) (h : junkL all tm is = tm') : junkL all tm (i :: is) = (t, .junk) :: tm' := by
 show (match dstOf all i with | some t => setT (junkL all tm is) t .junk | none => junkL all tm is) = _
 simp only [h1, h]
 rfl
theorem jl0 {all : List Oper} {tm : List (Nat × D)} : junkL all tm [] = tm := rfl
theorem st1 {tm tm' : List (Nat × D)} {t : Nat} {d : D} (h : tm = tm') : setT tm t d = (t, d) :: tm' := h ▸ rfl
theorem xrS {Γ : Ctx} {Y : Ys} {T : TT} {Gl : Nat → Option D} {N : Nat} {all : List Oper} {s : Sch} {pend : List Nat} {tm tm2 : List (Nat × D)} {ow : List Own} {k : List (Nat × D) → List Own → Prop} (h : tm = tm2) (h2 : exSch Γ Y T Gl N all s pend tm2 ow k) : exSch Γ Y T Gl N all s pend tm ow k := h ▸ h2
attribute [local irreducible] exPs exCk exSch exAlt bcat
set_option maxHeartbeats 100000000 in
theorem lawSK_ok : Sound Tryz.prog (GlT mx pb) 7 ctLaw18K := by
 refine sound_by (cc := true) Γlk18_ok Tryz.T_ok Tryz.mixed Tryz.func7 rfl (by kernel_rfl) (fun _ => rfl) (fun _ _ => by show 3 ≤ 109; decide) ?_
 rintro ⟨(d : Db), (i : Int), (v : Int)⟩ ⟨(hf : fitDb d), ⟨(hi0 : 0 ≤ i), (hi1 : i ≤ 255)⟩, (hv0 : 0 ≤ v), (hv1 : v ≤ 255)⟩
 have a0 : ctAl.pre () := trivial
 have a1 : ctSmDb.pre d := hf
 by_cases hd : SmD d
 ·have hsd : smDb d = true := smDb_iff.2 hd
  have hdf : Unit → SmD d := fun _ => hd
  have hpn := hd.prs
  clear hd
  have hwi : IntKind.i64.wrap i = i := wrap_fits ⟨by omega, by omega⟩
  have hwv : IntKind.i64.wrap v = v := wrap_fits ⟨by omega, by omega⟩
  obtain ⟨p, hp⟩ : ∃ p : Nat, IntKind.i64.wrap (d, i, v).2.1 % 7 = (p : Int) := ⟨(i % 7).toNat, by show IntKind.i64.wrap i % 7 = _; rw [hwi]; omega⟩
  have hp7 : p < 7 := by
   have h1 : IntKind.i64.wrap i % 7 = (p : Int) := hp
   rw [hwi] at h1
   omega
  have p1 : ctPropI.pre (d, (p : Int)) := ⟨by show (0 : Int) ≤ p; omega, by show (p : Int) < 7; omega⟩
  repeat' (first | refine gl ?_ | (first | refine br ?_ ?_ | refine brF ?_ ?_) <;> intro q_ <;> try simp only [nz] at q_)
  refine ⟨(d, (p : Int)), EntL.cons (Ent.refl _) (EntL.cons (Ent.of_eq (congrArg (fun n => D.v (.int .i64 n)) hp)) (EntL.refl [])), p1, ?_⟩
  rw [show ctPropI.out (d, (p : Int)) = prA (d.prs p) from rfl]
  obtain ⟨hpl, hps⟩ := hpn p hp7
  simp only [setOwn, goneO, rowL, retD, nr, ns, Nat.reduceAdd, Nat.zero_add, reduceIte]
  repeat' (first | refine gl ?_ | (first | refine br ?_ ?_ | refine brF ?_ ?_) <;> intro q_ <;> try simp only [nz] at q_)
  refine ⟨d, EntL.refl _, hdf (), ?_⟩
  rw [show ctDbE.out d = .v (.int .i64 (dbE d)) from rfl]
  by_cases h0 : dbE d = 0
  case neg =>
   have hu : usB d = false := decide_eq_false h0
   repeat' (first | refine gl ?_ | (first | refine br ?_ ?_ | refine brF ?_ ?_) <;> intro q_ <;> try simp only [nz] at q_)
   refine ⟨(d, casS), EntL.refl _, hdf (), ?_⟩
   rw [prs_out (prs_cas (hdf ()) hu)]
   simp only [setOwn, goneO, rowL, retD, nr, ns, Nat.reduceAdd, Nat.zero_add, reduceIte]
   repeat' (first | refine gl ?_ | (first | refine br ?_ ?_ | refine brF ?_ ?_) <;> intro q_ <;> try simp only [nz] at q_)
   refine ⟨(d, linS), EntL.refl _, hdf (), ?_⟩
   rw [prs_out (prs_lin (hdf ()) hu)]
   simp only [setOwn, goneO, rowL, retD, nr, ns, Nat.reduceAdd, Nat.zero_add, reduceIte]
   repeat' (first | refine gl ?_ | (first | refine br ?_ ?_ | refine brF ?_ ?_) <;> intro q_ <;> try simp only [nz] at q_)
   exact EntR.of rfl (Ent.refl _)
  have hu : usB d = true := decide_eq_true h0
  have hok := us_val hu p hp7
  have hl1 : 1 ≤ (d.prs p).names.length := by
   have h1 := hok.1
   simp only [namesB, Bool.and_eq_true, decide_eq_true_eq] at h1
   exact h1.1.1
  obtain ⟨w, hw⟩ : ∃ w : Nat, IntKind.i64.wrap (d, i, v).2.2 % ((d.prs p).names.length : Int) = (w : Int) := ⟨(v % ((d.prs p).names.length : Int)).toNat, by
   show IntKind.i64.wrap v % _ = _
   rw [hwv, Int.toNat_of_nonneg (Int.emod_nonneg _ (by omega))]⟩
  have hwl : w < (d.prs p).names.length := by
   have h1 : IntKind.i64.wrap v % ((d.prs p).names.length : Int) = (w : Int) := hw
   have h2 := Int.emod_lt_of_pos (IntKind.i64.wrap v) (show 0 < ((d.prs p).names.length : Int) by omega)
   omega
  have hfl : filesL.length = 21 := rfl
  have hfp : filesL.getD (1 + (p : Int)).toNat default = prFl.getD p default := by
   match p, hp7 with
   | 0, _ => rfl
   | 1, _ => rfl
   | 2, _ => rfl
   | 3, _ => rfl
   | 4, _ => rfl
   | 5, _ => rfl
   | 6, _ => rfl
  have hval := prs_val (hdf ()) hu hp7 hwl
  rw [hp]
  repeat' (first | refine gx ?_ | (first | refine br ?_ ?_ | refine brF ?_ ?_) <;> intro q_ <;> try simp only [nz] at q_)
  rw [hw]
  simp only [setOwn, goneO, rowL, retD, nr, ns, Nat.reduceAdd, Nat.zero_add, reduceIte]
  refine .inr ⟨.stage [0, 1, 2, 3, 4, 5, 6, 7, 8, 9, 10, 11, 12, 13, 14, 15, 16, 17] (.alt 18 [0, 1, 2, 3, 4, 5, 6, 7, 8, 9, 10, 11, 12, 13, 14, 15, 16, 17] (.stage [] (.alt 19 [0, 1, 2, 3, 4, 5, 6, 7, 8, 9, 10, 11, 12, 13, 14, 15, 16, 17] (.stage [] (.alt 20 [17] (.stage [] (.alt 21 [] (.done []) .nil)) .nil)) .nil)) (.alt 19 [0, 1, 2, 3, 4, 5, 6, 7, 8, 9, 10, 11, 12, 13, 14, 15, 16, 17] (.stage [] (.alt 18 [0, 1, 2, 3, 4, 5, 6, 7, 8, 9, 10, 11, 12, 13, 14, 15, 16, 17] (.stage [] (.alt 20 [17] (.stage [] (.alt 21 [] (.done []) .nil)) .nil)) .nil)) .nil)), by decide +kernel, ?_⟩
  refine xs1 ?_
  have z1 : (⟨#[91, 92, 112, 123]⟩ : ByteArray).size = 4 := rfl
  have z2 : (⟨#[61]⟩ : ByteArray).size = 1 := rfl
  have z3 : (⟨#[125, 93]⟩ : ByteArray).size = 2 := rfl
  have f1 : (filesL.getD (1 + (p : Int)).toNat default).size ≤ 10 := by rw [hfp]; exact prF_sz p hp7
  have n1 : ((d.prs p).names.getD ((w : Int)).toNat default).size ≤ 32 := by
   have h1 := (nmOk_of hok.1 w hwl).1
   simp only [isNameB, Bool.and_eq_true, decide_eq_true_eq] at h1
   exact h1.1.2
  have c1 : (bcat ⟨#[91, 92, 112, 123]⟩ (filesL.getD (1 + (p : Int)).toNat default)).size = 4 + (filesL.getD (1 + (p : Int)).toNat default).size := size_cat _ _
  have c2 : (bcat (bcat ⟨#[91, 92, 112, 123]⟩ (filesL.getD (1 + (p : Int)).toNat default)) ⟨#[61]⟩).size = 4 + (filesL.getD (1 + (p : Int)).toNat default).size + 1 := by rw [size_cat, c1]; rfl
  have c3 : (bcat (bcat (bcat ⟨#[91, 92, 112, 123]⟩ (filesL.getD (1 + (p : Int)).toNat default)) ⟨#[61]⟩) ((d.prs p).names.getD ((w : Int)).toNat default)).size = 4 + (filesL.getD (1 + (p : Int)).toNat default).size + 1 + ((d.prs p).names.getD ((w : Int)).toNat default).size := by rw [size_cat, c2]
  have hstr : D.v (.string (bcat (bcat (bcat (bcat opnC (filesL.getD (1 + (p : Int)).toNat default)) eqC) ((d.prs p).names.getD ((w : Int)).toNat default)) endC)) = D.v (.string (valC (prFl.getD p default) ((d.prs p).names.getD w default))) := by
   rw [hfp]
   rfl
  have hl2 := (hdf ()).sts 2 (by omega)
  have hC2 := us_ign hu
  have v1 := setV_len (d.prs p) (w : Int)
  have v2 := combL_len fullR (d.sts 2) 3
  have v3 : fullR.length = 1 := rfl
  have s1 : ctSetV.pre (d.prs p, (w : Int)) := by show (d.prs p).spans.length ≤ 1000; omega
  have s2 : ctSetV.pre (d.prs ((p : Int)).toNat, (w : Int)) := s1
  have s3 : ctSameS.pre (setV (d.prs p) w, setV (d.prs p) w) := ⟨(by show (setV (d.prs p) w).length ≤ 1000000; omega), (by show (setV (d.prs p) w).length ≤ 1000000; omega)⟩
  have s4 : ctNotS.pre (d.sts 2) := ⟨hC2 ▸ canon_mk (by omega), (by show (d.sts 2).length ≤ 10000; omega)⟩
  have s5 : ctSameS.pre (combL fullR (d.sts 2) 3, combL [(0, 1114111)] (d.sts 2) 3) := ⟨(by show (combL fullR (d.sts 2) 3).length ≤ 1000000; omega), (by show (combL fullR (d.sts 2) 3).length ≤ 1000000; omega)⟩
  have o2 : ctSameS.out (combL fullR (d.sts 2) 3, combL [(0, 1114111)] (d.sts 2) 3) = .v (.bool true) := congrArg (fun b => D.v (.bool b)) (decide_eq_true rfl)
  have o3 : ctSameS.out (setV (d.prs p) w, setV (d.prs p) w) = .v (.bool true) := congrArg (fun b => D.v (.bool b)) (decide_eq_true rfl)
  repeat' (first | refine gx ?_ | refine xp1 ?_ | refine xp0 ?_ | refine xc1 ?_ ?_ | refine xc0 ?_ | (apply xrS; apply rl1; exact rfl; exact rfl; (repeat (first | (apply rl1; exact rfl; exact rfl) | apply st1 | (apply jl1; exact rfl) | exact jl0))) | refine xs1 ?_ | refine xs2 ?_ | refine xs3 ?_ | refine xs4 ?_ ?_ | refine xa1 ?_ | exact rfl | refine ⟨(), EntL.refl _, fun _ => trivial, ?_⟩ | (refine ⟨(d, valC (prFl.getD p default) ((d.prs p).names.getD w default)), EntL.cons (Ent.refl _) (EntL.cons (Ent.of_eq hstr) (EntL.refl [])), fun _ => hdf (), ?_⟩; rw [prs_out hval]) | fail)
  all_goals (refine ⟨(d, ignS), EntL.refl _, hdf (), ?_⟩)
  all_goals (rw [prs_out (prs_ign (hdf ()) hu)])
  all_goals simp only [setOwn, goneO, rowL, retD, nr, ns, Nat.reduceAdd, Nat.zero_add, reduceIte]
  all_goals repeat' (first | refine gl ?_ | (first | refine br ?_ ?_ | refine brF ?_ ?_) <;> intro q_ <;> try simp only [nz] at q_)
  all_goals (refine ⟨(setV (d.prs p) w, setV (d.prs p) w), EntL.refl _, fun _ => s3, ?_⟩)
  all_goals (rw [o3])
  all_goals repeat' (first | refine gl ?_ | (first | refine br ?_ ?_ | refine brF ?_ ?_) <;> intro q_ <;> try simp only [nz] at q_)
  all_goals (first | exact EntR.of rfl (Ent.refl _) | exact absurd rfl q_)
 ·have hsd : smDb d = false := (smDb_f hd).symm
  repeat' (first | refine gl ?_ | (first | refine br ?_ ?_ | refine brF ?_ ?_) <;> intro q_ <;> try simp only [nz] at q_)
  exact EntR.of rfl (Ent.refl _)
end Go.Proofs
