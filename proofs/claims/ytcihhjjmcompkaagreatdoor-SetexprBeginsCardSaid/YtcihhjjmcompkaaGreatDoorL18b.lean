import Derived.Test.YtcihhjjmcompkaaGreatDoorL18c
import Derived.Test.YtcihhjjmcompkaaGreatDoorXs
import Derived.Test.YtcihhjjmcompkaaGreatDoorXl9
import Derived.Test.YtcihhjjmcompkaaGreatDoorDz
set_option linter.unusedVariables false
set_option linter.unusedSimpArgs false
namespace Go.Proofs
open Go Go.Sx
variable {mx : Int} {pb : Bool}
def ctVld : Ct := { ι := List Rg, inp := fun l => [setD l], out := fun l => .v (.bool (decide (l = canon l))), pre := fun l => l.length ≤ 10000 }
noncomputable def Γvld : Ctx := fun f => match f with
 | 21 => some (.pure ctMakeR)
 | 20 => some (.pure ctSameS)
 | _ => none
theorem Γvld_ok : CtxOk Tryz.prog (GlT mx pb) Γvld := by
 intro f h hh
 simp only [Γvld] at hh
 split at hh <;> simp at hh <;> subst hh
 ·exact r2Make_ok
 ·exact r2Same_ok
theorem rVld_ok : Sound Tryz.prog (GlT mx pb) 28 ctVld := by
 refine sound_by (cc := true) Γvld_ok Tryz.T_ok Tryz.mixed Tryz.func28 rfl (by kernel_rfl) (fun _ => rfl) (fun _ _ => by show 1 ≤ 8; decide) ?_
 intro (l : List Rg) (hl : l.length ≤ 10000)
 have p1 : ctMakeR.pre l := hl
 have hc := canon_len l
 have p2 : ctSameS.pre (l, canon l) := ⟨(by show l.length ≤ 1000000; omega), (by show (canon l).length ≤ 1000000; omega)⟩
 repeat' (first | refine gl ?_ | (first | refine br ?_ ?_ | refine brF ?_ ?_) <;> intro q_ <;> try simp only [nz] at q_)
 exact EntR.of rfl (Ent.refl _)
theorem vld_out {l : List Rg} (h : Canon l) : ctVld.out l = .v (.bool true) := congrArg (fun b => D.v (.bool b)) (decide_eq_true (canon_id h).symm)
theorem prs_len {d : Db} {s : ByteArray} {L : List Rg} {a : Int} (hd : SmD d) (hs : s.size ≤ 65536) (h : prs d s = (L, 0, a)) : L.length ≤ 6 * s.size := by
 obtain ⟨L', q, w, hp⟩ := prs_whole (d := d) (s := s) (h := ⟨hd, hs⟩) (by rw [h])
 rw [h] at hp
 have e : L = L' := congrArg (fun x => x.1) hp
 rw [e]
 exact w.len
noncomputable def ctLaw18B : Ct := { ι := Db × ByteArray, inp := fun x => [dbA x.1, .v (.string x.2)], out := fun _ => .v (.bool true), pre := fun x => fitDb x.1 }
noncomputable def Γlb18 (mx : Int) (pb : Bool) : Ctx := fun f => match f with
 | 27 => some (.pure ctSmDb)
 | 18 => some (.pure ctPrs)
 | 28 => some (.pure ctVld)
 | 16 => some (.pure ctAl)
 | _ => none
theorem Γlb18_ok : CtxOk Tryz.prog (GlT mx pb) (Γlb18 mx pb) := by
 intro f h hh
 simp only [Γlb18] at hh
 split at hh <;> simp at hh <;> subst hh
 ·exact rSmDb_ok
 ·exact prsC_ok
 ·exact rVld_ok
 ·exact al_ok
attribute [local irreducible] exPs exCk exSch exAlt
set_option maxHeartbeats 8000000 in
theorem lawSB_ok : Sound Tryz.prog (GlT mx pb) 6 ctLaw18B := by
 refine sound_by (cc := true) Γlb18_ok Tryz.T_ok Tryz.mixed Tryz.func6 rfl (by kernel_rfl) (fun _ => rfl) (fun _ _ => by show 2 ≤ 102; decide) ?_
 rintro ⟨(d : Db), (s : ByteArray)⟩ (hf : fitDb d)
 have a0 : ctAl.pre () := trivial
 have a1 : ctSmDb.pre d := hf
 by_cases hs : s.size ≤ 200
 ·have hg : ¬ (s.size : Int) > 200 := by omega
  by_cases hd : SmD d
  ·have hsd : smDb d = true := smDb_iff.2 hd
   have T := prs_tells hd (show s.size ≤ 65536 by omega)
   generalize hp : prs d s = P at T
   obtain ⟨L, e, a⟩ := P
   have T : Tells d s L e a := T
   have hdf : Unit → SmD d := fun _ => hd
   clear hd
   repeat' (first | refine gl ?_ | (first | refine br ?_ ?_ | refine brF ?_ ?_) <;> intro q_ <;> try simp only [nz] at q_)
   refine ⟨(d, s), EntL.refl _, hdf (), ?_⟩
   rw [prs_out hp]
   by_cases h0 : e = 0
   ·subst h0
    have hl := prs_len (hdf ()) (by omega) hp
    have hC := (T.good rfl).1
    repeat' (first | refine gl ?_ | (first | refine br ?_ ?_ | refine brF ?_ ?_) <;> intro q_ <;> try simp only [nz] at q_)
    refine ⟨L, EntL.refl _, (by show L.length ≤ 10000; omega), ?_⟩
    rw [vld_out hC]
    repeat' (first | refine gl ?_ | (first | refine br ?_ ?_ | refine brF ?_ ?_) <;> intro q_ <;> try simp only [nz] at q_)
    exact EntR.of rfl (Ent.refl _)
   ·obtain ⟨hL, ha, ha2⟩ := T.none h0
    obtain ⟨n, rfl⟩ := Int.eq_ofNat_of_zero_le ha
    subst hL
    have hn : n ≤ s.size := by omega
    have hg2 : ¬ (n : Int) > s.size := by omega
    by_cases h3 : e = 3
    ·subst h3
     simp only [setOwn, goneO, rowL, retD, nr, ns, Nat.reduceAdd, Nat.zero_add, reduceIte]
     repeat' (first | refine gx ?_ | (first | refine br ?_ ?_ | refine brF ?_ ?_) <;> intro q_ <;> try simp only [nz] at q_)
     refine .inr ⟨.stage [0, 1, 2, 3, 4, 5, 6, 7, 8] (.alt 9 [0, 1, 2, 3, 4, 5, 6, 7, 8] (.stage [] (.alt 10 [0, 1, 2, 3, 4, 5, 6, 7, 8] (.stage [] (.alt 11 [8] (.stage [] (.alt 12 [] (.done []) .nil)) .nil)) .nil)) (.alt 10 [0, 1, 2, 3, 4, 5, 6, 7, 8] (.stage [] (.alt 9 [0, 1, 2, 3, 4, 5, 6, 7, 8] (.stage [] (.alt 11 [8] (.stage [] (.alt 12 [] (.done []) .nil)) .nil)) .nil)) .nil)), by decide +kernel, ?_⟩
     refine xs1 ?_
     repeat' (first | refine gx ?_ | refine xp1 ?_ | refine xp0 ?_ | refine xc1 ?_ ?_ | refine xc0 ?_ | refine xs1 ?_ | refine xs2 ?_ | refine xs3 ?_ | refine xs4 ?_ ?_ | refine xa1 ?_ | exact rfl)
     simp only [setOwn, goneO, rowL, retD, nr, ns, Nat.reduceAdd, Nat.zero_add, reduceIte]
     refine ⟨(d, bcut s 0 n), EntL.refl _, fun _ => hdf (), ?_⟩
     have hcs : (bcut s 0 n).size ≤ 200 := by have := (tru_cut hn).sz; omega
     have hsyn : prs d (bcut s 0 n) = ([], 3, (n : Int)) ∨ ∃ K, prs d (bcut s 0 n) = (K, 0, 0) ∧ Canon K := T.syn rfl
     obtain hc | ⟨K, hc, hK⟩ := hsyn
     ·have hT : (3 : Int) = 3 ∧ (n : Int) = (n : Int) ∧ true = true := ⟨rfl, rfl, rfl⟩
      rw [prs_out hc]
      repeat' (first | refine gx ?_ | refine xp1 ?_ | refine xp0 ?_ | refine xc1 ?_ ?_ | refine xc0 ?_ | refine xs1 ?_ | refine xs2 ?_ | refine xs3 ?_ | refine xs4 ?_ ?_ | refine xa1 ?_ | exact rfl)
      iterate 5
       all_goals try (refine ⟨(d, bcut s 0 n), EntL.refl _, fun _ => hdf (), ?_⟩; rw [prs_out hc])
       all_goals repeat' (first | refine gx ?_ | refine xp1 ?_ | refine xp0 ?_ | refine xc1 ?_ ?_ | refine xc0 ?_ | refine xs1 ?_ | refine xs2 ?_ | refine xs3 ?_ | refine xs4 ?_ ?_ | refine xa1 ?_ | exact rfl)
      all_goals simp only [setOwn, goneO, rowL, retD, nr, ns, Nat.reduceAdd, Nat.zero_add, reduceIte]
      all_goals repeat' (first | refine gl ?_ | (first | refine br ?_ ?_ | refine brF ?_ ?_) <;> intro q_ <;> try simp only [nz] at q_)
      all_goals exact EntR.of rfl (Ent.refl _)
     ·have hl := prs_len (hdf ()) (by show (bcut s 0 n).size ≤ _; omega) hc
      have hl : K.length ≤ 6 * (bcut s 0 n).size := hl
      have hT : ¬ (0 : Int) = 3 ∨ ¬ (0 : Int) = (n : Int) ∨ true = false := .inl (by decide)
      have hT2 : (0 : Int) = 0 ∧ (0 : Int) = 0 ∧ true = true := ⟨rfl, rfl, rfl⟩
      have pv : ctVld.pre K := by show K.length ≤ 10000; omega
      have hk : K = canon K := (canon_id hK).symm
      rw [prs_out hc]
      repeat' (first | refine gx ?_ | refine xp1 ?_ | refine xp0 ?_ | refine xc1 ?_ ?_ | refine xc0 ?_ | refine xs1 ?_ | refine xs2 ?_ | refine xs3 ?_ | refine xs4 ?_ ?_ | refine xa1 ?_ | exact rfl)
      iterate 5
       all_goals try (refine ⟨(d, bcut s 0 n), EntL.refl _, fun _ => hdf (), ?_⟩; rw [prs_out hc])
       all_goals repeat' (first | refine gx ?_ | refine xp1 ?_ | refine xp0 ?_ | refine xc1 ?_ ?_ | refine xc0 ?_ | refine xs1 ?_ | refine xs2 ?_ | refine xs3 ?_ | refine xs4 ?_ ?_ | refine xa1 ?_ | exact rfl)
      all_goals simp only [setOwn, goneO, rowL, retD, nr, ns, Nat.reduceAdd, Nat.zero_add, reduceIte]
      all_goals repeat' (first | refine gl ?_ | (first | refine br ?_ ?_ | refine brF ?_ ?_) <;> intro q_ <;> try simp only [nz] at q_)
      all_goals exact EntR.of rfl (Ent.refl _)
    ·obtain ⟨hlt, ho⟩ := T.other h0 h3
     have hlt : n < s.size := by omega
     obtain rfl | ⟨rfl, hb⟩ := ho
     ·repeat' (first | refine gl ?_ | (first | refine br ?_ ?_ | refine brF ?_ ?_) <;> intro q_ <;> try simp only [nz] at q_)
      exact EntR.of rfl (Ent.refl _)
     ·have hb : bAt s n = 91 := hb
      repeat' (first | refine gl ?_ | (first | refine br ?_ ?_ | refine brF ?_ ?_) <;> intro q_ <;> try simp only [nz] at q_)
      exact EntR.of rfl (Ent.refl _)
  ·have hsd : smDb d = false := (smDb_f hd).symm
   repeat' (first | refine gl ?_ | (first | refine br ?_ ?_ | refine brF ?_ ?_) <;> intro q_ <;> try simp only [nz] at q_)
   exact EntR.of rfl (Ent.refl _)
 ·have hg : (s.size : Int) > 200 := by omega
  repeat' (first | refine gl ?_ | (first | refine br ?_ ?_ | refine brF ?_ ?_) <;> intro q_ <;> try simp only [nz] at q_)
  exact EntR.of rfl (Ent.refl _)
end Go.Proofs
