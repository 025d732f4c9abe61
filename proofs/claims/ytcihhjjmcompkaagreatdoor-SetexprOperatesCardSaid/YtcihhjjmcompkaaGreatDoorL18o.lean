import Derived.Test.YtcihhjjmcompkaaGreatDoorL18c
import Derived.Test.YtcihhjjmcompkaaGreatDoorXl5
set_option linter.unusedVariables false
set_option linter.unusedSimpArgs false
namespace Go.Proofs
open Go Go.Sx
variable {mx : Int} {pb : Bool}
def ctOrS : Ct := { ι := List Rg × List Rg, inp := fun x => [setD x.1, setD x.2], out := fun x => setD (combL x.1 x.2 1), pre := fun x => x.1.length ≤ 10000 ∧ x.2.length ≤ 10000 }
theorem rOr_ok : Sound Tryz.prog (GlT mx pb) 24 ctOrS := by
  refine sound_by (cc := true) Γmn_ok Tryz.T_ok Tryz.mixed Tryz.func24 rfl (by kernel_rfl) (fun _ => rfl) (fun _ _ => by show 2 ≤ 8; decide) ?_
  rintro ⟨(a : List Rg), (b : List Rg)⟩ ⟨(ha : a.length ≤ 10000), (hb : b.length ≤ 10000)⟩
  refine gA ?_
  refine ⟨(a, b, 1), EntL.refl _, ⟨ha, hb⟩, ?_⟩
  refine gA ?_
  exact EntR.of rfl (Ent.refl _)
theorem same_pre {a b : List Rg} (h : a.length ≤ 10000) (e : a = b) : ctSameS.pre (a, b) := by
  subst e
  exact ⟨(by show a.length ≤ 1000000; omega), (by show a.length ≤ 1000000; omega)⟩
theorem same_out {a b : List Rg} (e : a = b) : ctSameS.out (a, b) = .v (.bool true) := congrArg (fun b => D.v (.bool b)) (decide_eq_true e)
def ctLaw18O : Ct := { ι := ByteArray × ByteArray, inp := fun x => [.v (.string x.1), .v (.string x.2)], out := fun _ => .v (.bool true), pre := fun _ => True }
noncomputable def Γlo18 (mx : Int) (pb : Bool) : Ctx := fun f => match f with
  | 22 => some (.pure ctShort)
  | 18 => some (.pure ctPrs)
  | 20 => some (.pure ctSameS)
  | 24 => some (.pure ctOrS)
  | 25 => some (.pure ctAndS)
  | 26 => some (.pure ctMns)
  | 16 => some (.pure ctAl)
  | _ => none
theorem Γlo18_ok : CtxOk Tryz.prog (GlT mx pb) (Γlo18 mx pb) := by
  intro f h hh
  simp only [Γlo18] at hh
  split at hh <;> simp at hh <;> subst hh
  · exact sh18_ok
  · exact prsC_ok
  · exact r2Same_ok
  · exact rOr_ok
  · exact rAnd_ok
  · exact rMns_ok
  · exact al_ok
set_option maxHeartbeats 8000000 in
theorem lawSO_ok : Sound Tryz.prog (GlT mx pb) 5 ctLaw18O := by
  refine sound_by (cc := true) Γlo18_ok Tryz.T_ok Tryz.mixed Tryz.func5 rfl (by kernel_rfl) (fun _ => rfl) (fun _ _ => by show 2 ≤ 137; decide) ?_
  rintro ⟨(s : ByteArray), (t : ByteArray)⟩ _
  have a0 : ctAl.pre () := trivial
  have a1 : ctShort.pre s := trivial
  have a2 : ctShort.pre t := trivial
  by_cases hs : s.size ≤ 80 ∧ c91 s (min s.size 100) ≤ 6
  · have o1 := sh_yes hs
    have hs2 := sh_size hs
    by_cases ht : t.size ≤ 80 ∧ c91 t (min t.size 100) ≤ 6
    · have o2 := sh_yes ht
      have ht2 := sh_size ht
      repeat' (first | refine gl ?_ | (refine br (fun q_ => ?_) (fun q_ => ?_) <;> try simp only [Int.toNat_natCast, Nat.mul_one, Nat.add_zero] at q_) | (refine brF (fun q_ => ?_) (fun q_ => ?_) <;> try simp only [Int.toNat_natCast, Nat.mul_one, Nat.add_zero] at q_))
      rw [o1]
      repeat' (first | refine gl ?_ | (refine br (fun q_ => ?_) (fun q_ => ?_) <;> try simp only [Int.toNat_natCast, Nat.mul_one, Nat.add_zero] at q_) | (refine brF (fun q_ => ?_) (fun q_ => ?_) <;> try simp only [Int.toNat_natCast, Nat.mul_one, Nat.add_zero] at q_))
      rw [o2]
      repeat' (first | refine gl ?_ | (refine br (fun q_ => ?_) (fun q_ => ?_) <;> try simp only [Int.toNat_natCast, Nat.mul_one, Nat.add_zero] at q_) | (refine brF (fun q_ => ?_) (fun q_ => ?_) <;> try simp only [Int.toNat_natCast, Nat.mul_one, Nat.add_zero] at q_))
      refine ⟨(zdb, s), zdb_ent (EntL.refl _), zdb_sm, ?_⟩
      by_cases he : (prs zdb s).2.1 = 0
      · obtain ⟨L, q, w, hp⟩ := prs_whole (h := zS (by omega)) he
        have hc := w.w.canon
        have hl := w.len
        rw [prs_out hp]
        repeat' (first | refine gl ?_ | (refine br (fun q_ => ?_) (fun q_ => ?_) <;> try simp only [Int.toNat_natCast, Nat.mul_one, Nat.add_zero] at q_) | (refine brF (fun q_ => ?_) (fun q_ => ?_) <;> try simp only [Int.toNat_natCast, Nat.mul_one, Nat.add_zero] at q_))
        refine ⟨(zdb, t), zdb_ent (EntL.refl _), zdb_sm, ?_⟩
        by_cases he2 : (prs zdb t).2.1 = 0
        · obtain ⟨K, r, v, hp2⟩ := prs_whole (h := zS (by omega)) he2
          have hk := v.len
          have c1 := combL_len L K 1
          have c2 := combL_len L K 2
          have c3 := combL_len L K 3
          have p1 : ctOrS.pre (L, K) := ⟨(by show L.length ≤ 10000; omega), (by show K.length ≤ 10000; omega)⟩
          have p2 : ctAndS.pre (L, K) := p1
          have p3 : ctMns.pre (L, K) := p1
          have q1 : ctSameS.pre (combL L K 1, combL L K 1) := same_pre (by omega) rfl
          have q2 : ctSameS.pre (combL L K 2, combL L K 2) := same_pre (by omega) rfl
          have q3 : ctSameS.pre (combL L K 3, combL L K 3) := same_pre (by omega) rfl
          have e2 := op_bk v w zdb_us ht.1 hs.1 ht2 hs2
          rw [or_app, or_comm] at e2
          have e1 := op_or w v zdb_us hs.1 ht.1 hs2 ht2
          rw [or_app] at e1
          have e3 := op_an w v zdb_us hs.1 ht.1 hs2 ht2
          rw [end_op hc] at e3
          have e4 := op_mi w v zdb_us hs.1 ht.1 hs2 ht2
          rw [end_op hc] at e4
          rw [prs_out hp2]
          simp only [setOwn, goneO, rowL, retD, List.map_cons, List.map_nil, List.cons_append, List.nil_append, List.append_nil, List.length_cons, List.length_nil, List.length_append, Nat.reduceAdd, Nat.zero_add, reduceIte]
          repeat' (first | refine gl ?_ | (refine br (fun q_ => ?_) (fun q_ => ?_) <;> try simp only [Int.toNat_natCast, Nat.mul_one, Nat.add_zero] at q_) | (refine brF (fun q_ => ?_) (fun q_ => ?_) <;> try simp only [Int.toNat_natCast, Nat.mul_one, Nat.add_zero] at q_))
          refine ⟨(zdb, oprOr s t), zdb_ent (EntL.refl _), zdb_sm, ?_⟩
          rw [prs_out e1]
          simp only [setOwn, goneO, rowL, retD, List.map_cons, List.map_nil, List.cons_append, List.nil_append, List.append_nil, List.length_cons, List.length_nil, List.length_append, Nat.reduceAdd, Nat.zero_add, reduceIte]
          repeat' (first | refine gl ?_ | (refine br (fun q_ => ?_) (fun q_ => ?_) <;> try simp only [Int.toNat_natCast, Nat.mul_one, Nat.add_zero] at q_) | (refine brF (fun q_ => ?_) (fun q_ => ?_) <;> try simp only [Int.toNat_natCast, Nat.mul_one, Nat.add_zero] at q_))
          refine ⟨(zdb, oprBk t s), zdb_ent (EntL.refl _), zdb_sm, ?_⟩
          rw [prs_out e2]
          simp only [setOwn, goneO, rowL, retD, List.map_cons, List.map_nil, List.cons_append, List.nil_append, List.append_nil, List.length_cons, List.length_nil, List.length_append, Nat.reduceAdd, Nat.zero_add, reduceIte]
          repeat' (first | refine gl ?_ | (refine br (fun q_ => ?_) (fun q_ => ?_) <;> try simp only [Int.toNat_natCast, Nat.mul_one, Nat.add_zero] at q_) | (refine brF (fun q_ => ?_) (fun q_ => ?_) <;> try simp only [Int.toNat_natCast, Nat.mul_one, Nat.add_zero] at q_))
          refine ⟨(zdb, oprAn s t), zdb_ent (EntL.refl _), zdb_sm, ?_⟩
          rw [prs_out e3]
          simp only [setOwn, goneO, rowL, retD, List.map_cons, List.map_nil, List.cons_append, List.nil_append, List.append_nil, List.length_cons, List.length_nil, List.length_append, Nat.reduceAdd, Nat.zero_add, reduceIte]
          repeat' (first | refine gl ?_ | (refine br (fun q_ => ?_) (fun q_ => ?_) <;> try simp only [Int.toNat_natCast, Nat.mul_one, Nat.add_zero] at q_) | (refine brF (fun q_ => ?_) (fun q_ => ?_) <;> try simp only [Int.toNat_natCast, Nat.mul_one, Nat.add_zero] at q_))
          refine ⟨(zdb, oprMi s t), zdb_ent (EntL.refl _), zdb_sm, ?_⟩
          rw [prs_out e4]
          simp only [setOwn, goneO, rowL, retD, List.map_cons, List.map_nil, List.cons_append, List.nil_append, List.append_nil, List.length_cons, List.length_nil, List.length_append, Nat.reduceAdd, Nat.zero_add, reduceIte]
          repeat' (first | refine gl ?_ | (refine br (fun q_ => ?_) (fun q_ => ?_) <;> try simp only [Int.toNat_natCast, Nat.mul_one, Nat.add_zero] at q_) | (refine brF (fun q_ => ?_) (fun q_ => ?_) <;> try simp only [Int.toNat_natCast, Nat.mul_one, Nat.add_zero] at q_))
          refine ⟨(combL L K 1, combL L K 1), EntL.refl _, fun _ => q1, ?_⟩
          rw [same_out rfl]
          repeat' (first | refine gl ?_ | (refine br (fun q_ => ?_) (fun q_ => ?_) <;> try simp only [Int.toNat_natCast, Nat.mul_one, Nat.add_zero] at q_) | (refine brF (fun q_ => ?_) (fun q_ => ?_) <;> try simp only [Int.toNat_natCast, Nat.mul_one, Nat.add_zero] at q_))
          refine ⟨(combL L K 1, combL L K 1), EntL.refl _, fun _ => q1, ?_⟩
          rw [same_out rfl]
          repeat' (first | refine gl ?_ | (refine br (fun q_ => ?_) (fun q_ => ?_) <;> try simp only [Int.toNat_natCast, Nat.mul_one, Nat.add_zero] at q_) | (refine brF (fun q_ => ?_) (fun q_ => ?_) <;> try simp only [Int.toNat_natCast, Nat.mul_one, Nat.add_zero] at q_))
          refine ⟨(combL L K 2, combL L K 2), EntL.refl _, fun _ => q2, ?_⟩
          rw [same_out rfl]
          repeat' (first | refine gl ?_ | (refine br (fun q_ => ?_) (fun q_ => ?_) <;> try simp only [Int.toNat_natCast, Nat.mul_one, Nat.add_zero] at q_) | (refine brF (fun q_ => ?_) (fun q_ => ?_) <;> try simp only [Int.toNat_natCast, Nat.mul_one, Nat.add_zero] at q_))
          exact EntR.of rfl (Ent.refl _)
        · generalize hp2 : prs zdb t = P at he2
          obtain ⟨K, e, a⟩ := P
          rw [prs_out hp2]
          have he2 : ¬ e = 0 := he2
          repeat' (first | refine gl ?_ | (refine br (fun q_ => ?_) (fun q_ => ?_) <;> try simp only [Int.toNat_natCast, Nat.mul_one, Nat.add_zero] at q_) | (refine brF (fun q_ => ?_) (fun q_ => ?_) <;> try simp only [Int.toNat_natCast, Nat.mul_one, Nat.add_zero] at q_))
          exact EntR.of rfl (Ent.refl _)
      · generalize hp : prs zdb s = P at he
        obtain ⟨L, e, a⟩ := P
        rw [prs_out hp]
        have he : ¬ e = 0 := he
        repeat' (first | refine gl ?_ | (refine br (fun q_ => ?_) (fun q_ => ?_) <;> try simp only [Int.toNat_natCast, Nat.mul_one, Nat.add_zero] at q_) | (refine brF (fun q_ => ?_) (fun q_ => ?_) <;> try simp only [Int.toNat_natCast, Nat.mul_one, Nat.add_zero] at q_))
        refine ⟨(zdb, t), zdb_ent (EntL.refl _), zdb_sm, ?_⟩
        generalize hp2 : prs zdb t = P2
        obtain ⟨K, e2, a2⟩ := P2
        rw [prs_out hp2]
        simp only [setOwn, goneO, rowL, retD, List.map_cons, List.map_nil, List.cons_append, List.nil_append, List.append_nil, List.length_cons, List.length_nil, List.length_append, Nat.reduceAdd, Nat.zero_add, reduceIte]
        repeat' (first | refine gl ?_ | (refine br (fun q_ => ?_) (fun q_ => ?_) <;> try simp only [Int.toNat_natCast, Nat.mul_one, Nat.add_zero] at q_) | (refine brF (fun q_ => ?_) (fun q_ => ?_) <;> try simp only [Int.toNat_natCast, Nat.mul_one, Nat.add_zero] at q_))
        exact EntR.of rfl (Ent.refl _)
    · have o2 := sh_no ht
      repeat' (first | refine gl ?_ | (refine br (fun q_ => ?_) (fun q_ => ?_) <;> try simp only [Int.toNat_natCast, Nat.mul_one, Nat.add_zero] at q_) | (refine brF (fun q_ => ?_) (fun q_ => ?_) <;> try simp only [Int.toNat_natCast, Nat.mul_one, Nat.add_zero] at q_))
      rw [o1]
      repeat' (first | refine gl ?_ | (refine br (fun q_ => ?_) (fun q_ => ?_) <;> try simp only [Int.toNat_natCast, Nat.mul_one, Nat.add_zero] at q_) | (refine brF (fun q_ => ?_) (fun q_ => ?_) <;> try simp only [Int.toNat_natCast, Nat.mul_one, Nat.add_zero] at q_))
      rw [o2]
      repeat' (first | refine gl ?_ | (refine br (fun q_ => ?_) (fun q_ => ?_) <;> try simp only [Int.toNat_natCast, Nat.mul_one, Nat.add_zero] at q_) | (refine brF (fun q_ => ?_) (fun q_ => ?_) <;> try simp only [Int.toNat_natCast, Nat.mul_one, Nat.add_zero] at q_))
      exact EntR.of rfl (Ent.refl _)
  · have o1 := sh_no hs
    repeat' (first | refine gl ?_ | (refine br (fun q_ => ?_) (fun q_ => ?_) <;> try simp only [Int.toNat_natCast, Nat.mul_one, Nat.add_zero] at q_) | (refine brF (fun q_ => ?_) (fun q_ => ?_) <;> try simp only [Int.toNat_natCast, Nat.mul_one, Nat.add_zero] at q_))
    rw [o1]
    repeat' (first | refine gl ?_ | (refine br (fun q_ => ?_) (fun q_ => ?_) <;> try simp only [Int.toNat_natCast, Nat.mul_one, Nat.add_zero] at q_) | (refine brF (fun q_ => ?_) (fun q_ => ?_) <;> try simp only [Int.toNat_natCast, Nat.mul_one, Nat.add_zero] at q_))
    exact EntR.of rfl (Ent.refl _)
end Go.Proofs
