import Derived.Test.YtnegdnbodccgkaaGreatDoorRm
import Derived.Test.YtnegdnbodccgkaaGreatDoorPPz
import Derived.Test.YtnegdnbodccgkaaGreatDoorRz
set_option linter.unusedVariables false
set_option linter.unusedSimpArgs false
namespace Go.Proofs
open Go Go.Sx
variable {mx : Int} {pb : Bool}

/-! ref10.Same -/
open Classical in
noncomputable def eqP (a b : Pr) : Bool := decide (a = b)
theorem eqP_t (a : Pr) : eqP a a = true := @decide_eq_true _ (Classical.propDecidable _) rfl
theorem eqP_f {a b : Pr} (h : ¬ a = b) : false = eqP a b := (@decide_eq_false _ (Classical.propDecidable _) h).symm
noncomputable def ctSameP : Ct := { ι := Pr × Pr, inp := fun x => [prA x.1, prA x.2], out := fun x => .v (.bool (eqP x.1 x.2)), pre := fun x => x.1.names.length ≤ 1000000 ∧ x.1.spans.length ≤ 1000000 ∧ x.2.names.length ≤ 1000000 ∧ x.2.spans.length ≤ 1000000 }
theorem ext_getD {α : Type} [Inhabited α] {l m : List α} (hl : l.length = m.length) (h : ∀ i, i < l.length → l.getD i default = m.getD i default) : l = m := by
  refine List.ext_getElem hl fun i h1 h2 => ?_
  have := h i h1
  rwa [List.getD_eq_getElem?_getD, List.getD_eq_getElem?_getD, List.getElem?_eq_getElem h1, List.getElem?_eq_getElem h2] at this
theorem sp_ext {s t : Sp} (h1 : s.lo = t.lo) (h2 : s.hi = t.hi) (h3 : s.val = t.val) : s = t := by
  cases s; cases t; simp_all
set_option maxHeartbeats 4000000 in
theorem rSameP_ok : Sound Tryz.prog (GlT mx pb) 29 ctSameP := by
  refine sound_by (cc := true) Γ0_ok Tryz.T_ok Tryz.mixed Tryz.func29 rfl (by kernel_rfl) (fun _ => rfl) (fun _ _ => by show 2 ≤ 59; decide) ?_
  rintro ⟨(a : Pr), (b : Pr)⟩ ⟨(h1 : a.names.length ≤ 1000000), (h2 : a.spans.length ≤ 1000000), (h3 : b.names.length ≤ 1000000), (h4 : b.spans.length ≤ 1000000)⟩
  have nE : ∀ {i : Nat}, ¬ a.names.getD i default = b.names.getD i default → ¬ a = b := fun h e => h (by rw [e])
  have sE : ∀ {i : Nat}, ¬ a.spans.getD i default = b.spans.getD i default → ¬ a = b := fun h e => h (by rw [e])
  repeat' (first | refine gw ?_ | (refine br (fun q_ => ?_) (fun q_ => ?_) <;> try simp only [Int.toNat_natCast, Nat.mul_one, Nat.add_zero] at q_) | (refine brF (fun q_ => ?_) (fun q_ => ?_) <;> try simp only [Int.toNat_natCast, Nat.mul_one, Nat.add_zero] at q_))
  · exact EntR.bool (eqP_f fun e => q_ (by have e : a = b := e; rw [e]))
  · rename_i q1
    have hnl : a.names.length = b.names.length := by omega
    have hsl : a.spans.length = b.spans.length := by omega
    refine ⟨0, Nat, fun k => ⟨[(2, .own 0 0), (3, .own 1 0), (5, .v (.int .i64 k))], [.cells 27 [slD 1 strD a.names, spsD a.spans], .cells 27 [slD 1 strD b.names, spsD b.spans]], []⟩, fun k => k ≤ a.names.length ∧ ∀ i, i < k → a.names.getD i default = b.names.getD i default, fun k => a.names.length - k, fun _ => Nat.zero_le _, ⟨0, ⟨Nat.zero_le _, fun j hj => by omega⟩, StLe.ren [0, 1] tmS ⟨⟨rfl, EntL.refl _, rfl⟩, ⟨rfl, EntL.refl _, rfl⟩, trivial⟩ (by decide)⟩, ?_⟩
    rintro k ⟨hk, hd⟩
    by_cases hlt : k < a.names.length
    · have hlb : k < b.names.length := by omega
      repeat' (first | refine gw ?_ | (refine br (fun q_ => ?_) (fun q_ => ?_) <;> try simp only [Int.toNat_natCast, Nat.mul_one, Nat.add_zero] at q_) | (refine brF (fun q_ => ?_) (fun q_ => ?_) <;> try simp only [Int.toNat_natCast, Nat.mul_one, Nat.add_zero] at q_))
      · exact EntR.bool (eqP_f (nE q_))
      · exact ⟨k + 1, ⟨hlt, next_of hd q_⟩, (by show a.names.length - (k + 1) < a.names.length - k; omega), StLe.ren [0, 1] tmS ⟨⟨rfl, EntL.refl _, rfl⟩, ⟨rfl, EntL.refl _, rfl⟩, trivial⟩ (by decide)⟩
    · have hN : a.names = b.names := ext_getD hnl fun i hi => hd i (by omega)
      repeat' (first | refine gw ?_ | (refine br (fun q_ => ?_) (fun q_ => ?_) <;> try simp only [Int.toNat_natCast, Nat.mul_one, Nat.add_zero] at q_) | (refine brF (fun q_ => ?_) (fun q_ => ?_) <;> try simp only [Int.toNat_natCast, Nat.mul_one, Nat.add_zero] at q_))
      refine ⟨0, Nat, fun k => ⟨[(2, .own 0 0), (3, .own 1 0), (6, .v (.int .i64 k))], [.cells 27 [slD 1 strD a.names, spsD a.spans], .cells 27 [slD 1 strD b.names, spsD b.spans]], []⟩, fun k => k ≤ a.spans.length ∧ ∀ i, i < k → a.spans.getD i default = b.spans.getD i default, fun k => a.spans.length - k, fun _ => Nat.zero_le _, ⟨0, ⟨Nat.zero_le _, fun j hj => by omega⟩, StLe.ren [0, 1] tmS ⟨⟨rfl, EntL.refl _, rfl⟩, ⟨rfl, EntL.refl _, rfl⟩, trivial⟩ (by decide)⟩, ?_⟩
      clear hk hd hlt
      clear k
      rintro k ⟨hk, hd⟩
      by_cases hlt : k < a.spans.length
      · have hlb : k < b.spans.length := by omega
        repeat' (first | refine gw ?_ | (refine br (fun q_ => ?_) (fun q_ => ?_) <;> try simp only [Int.toNat_natCast, Nat.mul_one, Nat.add_zero] at q_) | (refine brF (fun q_ => ?_) (fun q_ => ?_) <;> try simp only [Int.toNat_natCast, Nat.mul_one, Nat.add_zero] at q_))
        · refine EntR.bool (eqP_f fun e => ?_)
          have e : a = b := e
          subst e
          rcases q_ with h | h | h | h
          · exact h rfl
          · exact h rfl
          · exact h rfl
          · exact Bool.noConfusion h
        · exact ⟨k + 1, ⟨hlt, next_of hd (sp_ext q_.1 q_.2.1 q_.2.2.1)⟩, (by show a.spans.length - (k + 1) < a.spans.length - k; omega), StLe.ren [0, 1] tmS ⟨⟨rfl, EntL.refl _, rfl⟩, ⟨rfl, EntL.refl _, rfl⟩, trivial⟩ (by decide)⟩
      · have hS : a.spans = b.spans := ext_getD hsl fun i hi => hd i (by omega)
        repeat' (first | refine gw ?_ | (refine br (fun q_ => ?_) (fun q_ => ?_) <;> try simp only [Int.toNat_natCast, Nat.mul_one, Nat.add_zero] at q_) | (refine brF (fun q_ => ?_) (fun q_ => ?_) <;> try simp only [Int.toNat_natCast, Nat.mul_one, Nat.add_zero] at q_))
        refine EntR.bool ?_
        have : a = b := by
          cases a; cases b
          simp only at hN hS
          rw [hN, hS]
        rw [this]
        exact (eqP_t b).symm
  · exact EntR.bool (eqP_f fun e => q_ (by have e : a = b := e; rw [e]))

/-! the laws of chapter 10: Makes, Order -/
def ctLawM : Ct := { ι := List ByteArray × List Sp, inp := fun x => [slD 1 strD x.1, spsD x.2], out := fun _ => .v (.bool true), pre := fun _ => True }
noncomputable def Γlm (mx : Int) : Ctx := fun f => match f with
  | 26 => some (.pure ctAlive)
  | 27 => some (.pure ctMk)
  | 28 => some (.pure ctMk)
  | 29 => some (.pure ctSameP)
  | 30 => some (.pure ctPV)
  | _ => none
theorem Γlm_ok {mx : Int} : CtxOk Tryz.prog (GlT mx false) (Γlm mx) := by
  intro f h hh
  simp only [Γlm] at hh
  split at hh <;> simp at hh <;> subst hh
  · exact awake_ok mx
  · exact pMake_ok
  · exact rMake_ok
  · exact rSameP_ok
  · exact pValid_ok
theorem mkP_nml {nm : List ByteArray} {l : List Sp} (h : nm.length ≤ 300) : (mkP nm l).names.length ≤ 300 := by
  unfold mkP
  split
  · exact h
  · exact Nat.zero_le _
set_option maxHeartbeats 4000000 in
theorem lawPMk_ok {mx : Int} : Sound Tryz.prog (GlT mx false) 7 ctLawM := by
  refine sound_by (cc := true) Γlm_ok Tryz.T_ok Tryz.mixed Tryz.func7 rfl (by kernel_rfl) (fun _ => rfl) (fun _ _ => by show 2 ≤ 49; decide) ?_
  rintro ⟨(nm : List ByteArray), (l : List Sp)⟩ _
  by_cases h1 : (nm.length : Int) > 300
  · repeat' (first | refine gl ?_ | (refine br (fun q_ => ?_) (fun q_ => ?_) <;> try simp only [Int.toNat_natCast, Nat.mul_one, Nat.add_zero] at q_) | (refine brF (fun q_ => ?_) (fun q_ => ?_) <;> try simp only [Int.toNat_natCast, Nat.mul_one, Nat.add_zero] at q_))
    exact EntR.bool rfl
  by_cases h2 : (l.length : Int) > 60
  · repeat' (first | refine gl ?_ | (refine br (fun q_ => ?_) (fun q_ => ?_) <;> try simp only [Int.toNat_natCast, Nat.mul_one, Nat.add_zero] at q_) | (refine brF (fun q_ => ?_) (fun q_ => ?_) <;> try simp only [Int.toNat_natCast, Nat.mul_one, Nat.add_zero] at q_))
    exact EntR.bool rfl
  have p1 : ctMk.pre (nm, l) := (by show l.length ≤ 100000; omega)
  have hn := mkP_nml (nm := nm) (l := l) (by omega)
  have hl := mkP_len nm l
  have p2 : ctSameP.pre (mkP nm l, mkP nm l) := ⟨by show (mkP nm l).names.length ≤ _; omega, by show (mkP nm l).spans.length ≤ _; omega, by show (mkP nm l).names.length ≤ _; omega, by show (mkP nm l).spans.length ≤ _; omega⟩
  have p3 : ctPV.pre (mkP nm l) := (by show (mkP nm l).spans.length ≤ 1000000000; omega)
  have e2 : ctSameP.out (mkP nm l, mkP nm l) = .v (.bool true) := congrArg (fun b => D.v (.bool b)) (eqP_t _)
  repeat' (first | refine gl ?_ | (refine br (fun q_ => ?_) (fun q_ => ?_) <;> try simp only [Int.toNat_natCast, Nat.mul_one, Nat.add_zero] at q_) | (refine brF (fun q_ => ?_) (fun q_ => ?_) <;> try simp only [Int.toNat_natCast, Nat.mul_one, Nat.add_zero] at q_))
  all_goals first
    | exact EntR.bool rfl
    | (exfalso; rename_i q; rw [eqP_t] at q; exact Bool.noConfusion q)
    | (exfalso
       have hv := (validP_t (mkP_ok (names := nm) (l := l) (by assumption)))
       rw [q_] at hv
       exact Bool.noConfusion hv)
    | (exfalso; rw [eqP_t] at q_; exact Bool.noConfusion q_)
#print axioms lawPMk_ok
end Go.Proofs

namespace Go.Proofs
open Go Go.Sx
variable {mx : Int} {pb : Bool}

/-! the law of chapter 10: Order -/
def ctLawO : Ct := { ι := List ByteArray × List Sp × Int, inp := fun x => [slD 1 strD x.1, spsD x.2.1, .v (.int .i64 x.2.2)], out := fun _ => .v (.bool true), pre := fun _ => True }
theorem ent_cat {α : Type} [Inhabited α] {sz k : Nat} {enc : α → Nat → D} {l m : List α} (hk : k ≤ m.length) : Ent (.sl sz (l.length + k) (catF l.length (fun i j => enc (l.getD i default) j) (fun i j => enc (m.getD i default) j))) (slD sz enc (l ++ m.take k)) := by
  refine Ent.sl (by rw [List.length_append, List.length_take]; omega) fun i hi j hj => Ent.of_eq ?_
  show catF l.length (fun i j => enc (l.getD i default) j) (fun i j => enc (m.getD i default) j) i j = enc ((l ++ m.take k).getD i default) j
  unfold catF
  by_cases h : i < l.length
  · rw [if_pos h]
    show enc (l.getD i default) j = _
    congr 1
    rw [List.getD_eq_getElem?_getD, List.getD_eq_getElem?_getD, List.getElem?_append_left h]
  · rw [if_neg h]
    show enc (m.getD (i - l.length) default) j = _
    congr 1
    rw [List.getD_eq_getElem?_getD, List.getD_eq_getElem?_getD, List.getElem?_append_right (by omega), List.getElem?_take, if_pos (by omega)]
set_option maxHeartbeats 4000000 in
theorem lawPOr_ok {mx : Int} : Sound Tryz.prog (GlT mx false) 12 ctLawO := by
  refine sound_by (cc := true) Γlm_ok Tryz.T_ok Tryz.mixed Tryz.func12 rfl (by kernel_rfl) (fun _ => rfl) (fun _ _ => by show 3 ≤ 75; decide) ?_
  rintro ⟨(nm : List ByteArray), (l : List Sp), (n : Int)⟩ _
  by_cases h1 : (nm.length : Int) > 300
  · repeat' (first | refine gl ?_ | (refine br (fun q_ => ?_) (fun q_ => ?_) <;> try simp only [Int.toNat_natCast, Nat.mul_one, Nat.add_zero] at q_) | (refine brF (fun q_ => ?_) (fun q_ => ?_) <;> try simp only [Int.toNat_natCast, Nat.mul_one, Nat.add_zero] at q_))
    exact EntR.bool rfl
  by_cases h2 : (l.length : Int) > 60
  · repeat' (first | refine gl ?_ | (refine br (fun q_ => ?_) (fun q_ => ?_) <;> try simp only [Int.toNat_natCast, Nat.mul_one, Nat.add_zero] at q_) | (refine brF (fun q_ => ?_) (fun q_ => ?_) <;> try simp only [Int.toNat_natCast, Nat.mul_one, Nat.add_zero] at q_))
    exact EntR.bool rfl
  by_cases h3 : n < 0
  · repeat' (first | refine gl ?_ | (refine br (fun q_ => ?_) (fun q_ => ?_) <;> try simp only [Int.toNat_natCast, Nat.mul_one, Nat.add_zero] at q_) | (refine brF (fun q_ => ?_) (fun q_ => ?_) <;> try simp only [Int.toNat_natCast, Nat.mul_one, Nat.add_zero] at q_))
    exact EntR.bool rfl
  by_cases h4 : n > (l.length : Int)
  · repeat' (first | refine gl ?_ | (refine br (fun q_ => ?_) (fun q_ => ?_) <;> try simp only [Int.toNat_natCast, Nat.mul_one, Nat.add_zero] at q_) | (refine brF (fun q_ => ?_) (fun q_ => ?_) <;> try simp only [Int.toNat_natCast, Nat.mul_one, Nat.add_zero] at q_))
    exact EntR.bool rfl
  have hn0 : ((n.toNat : Nat) : Int) = n := by omega
  repeat' (first | refine gl ?_ | (refine br (fun q_ => ?_) (fun q_ => ?_) <;> try simp only [Int.toNat_natCast, Nat.mul_one, Nat.add_zero] at q_) | (refine brF (fun q_ => ?_) (fun q_ => ?_) <;> try simp only [Int.toNat_natCast, Nat.mul_one, Nat.add_zero] at q_))
  refine ⟨0, Int × List Sp, fun | (i, acc) => ⟨[(0, slD 1 strD nm), (1, spsD l), (2, .v (.int .i64 n)), (7, .row 0), (8, .v (.int .i64 i))], [rowL 80 3 spD acc], []⟩, fun | (i, acc) => ∃ j : Nat, i = (l.length : Int) - 1 - j ∧ j + n.toNat ≤ l.length ∧ acc = l.reverse.take j, fun x => (x.1 + 1 - n).toNat, fun _ => Nat.zero_le _, ⟨((l.length : Int) - 1, []), ⟨0, by omega, by omega, rfl⟩, StLe.trans (StLe.nilRow (t := 7) 80 3 (fun _ _ => .junk) rfl) (StLe.ren [0] tmS ⟨own_nil, trivial⟩ (by decide))⟩, ?_⟩
  rintro ⟨i, acc⟩ ⟨j, hi, hj, ha⟩
  have hal : acc.length = j := by rw [ha, List.length_take, List.length_reverse]; omega
  by_cases hlt : i ≥ n
  · have hgi : l.getD i.toNat default = l.reverse.getD j default := by
      rw [List.getD_eq_getElem?_getD, List.getD_eq_getElem?_getD, List.getElem?_reverse (by omega)]
      congr 2
      omega
    have htk : acc ++ [l.getD i.toNat default] = l.reverse.take (j + 1) := by
      rw [List.take_succ_eq_append_getElem (by rw [List.length_reverse]; omega), ← ha, hgi, List.getD_eq_getElem?_getD, List.getElem?_eq_getElem (by rw [List.length_reverse]; omega)]
      rfl
    repeat' (first | refine gl ?_ | (refine br (fun q_ => ?_) (fun q_ => ?_) <;> try simp only [Int.toNat_natCast, Nat.mul_one, Nat.add_zero] at q_) | (refine brF (fun q_ => ?_) (fun q_ => ?_) <;> try simp only [Int.toNat_natCast, Nat.mul_one, Nat.add_zero] at q_))
    refine And.intro (show acc.length + 1 ≤ _ by omega) (And.intro (show (acc.length + 1) * 24 ≤ _ by omega) ?_)
    repeat' (first | refine gl ?_ | (refine br (fun q_ => ?_) (fun q_ => ?_) <;> try simp only [Int.toNat_natCast, Nat.mul_one, Nat.add_zero] at q_) | (refine brF (fun q_ => ?_) (fun q_ => ?_) <;> try simp only [Int.toNat_natCast, Nat.mul_one, Nat.add_zero] at q_))
    exact ⟨(i - 1, acc ++ [l.getD i.toNat default]), ⟨j + 1, by omega, by omega, htk⟩, (by show (i - 1 + 1 - n).toNat < (i + 1 - n).toNat; omega), StLe.ren [1] tmS ⟨own_app (fun j hj => match j, hj with | 0, _ => Ent.refl _ | 1, _ => Ent.refl _ | 2, _ => Ent.refl _), trivial⟩ (by decide)⟩
  · have hje : j = l.length - n.toNat := by omega
    have hpm : (acc ++ l.take n.toNat).Perm l := by
      have e : acc = (l.drop n.toNat).reverse := by rw [ha, hje, List.take_reverse]; congr 2; omega
      rw [e]
      exact (List.perm_append_comm.trans ((List.Perm.refl _).append (List.reverse_perm _))).trans (List.Perm.of_eq (List.take_append_drop _ _))
    have hout : ctMk.out (nm, acc ++ l.take n.toNat) = ctMk.out (nm, l) := by
      show D.tu [prA (mkP nm (acc ++ l.take n.toNat)), .v (.int .i64 (mkE nm (acc ++ l.take n.toNat)))] = D.tu [prA (mkP nm l), .v (.int .i64 (mkE nm l))]
      rw [mkP_perm hpm, mkE_perm hpm]
    have p1 : ctMk.pre (nm, l) := (by show l.length ≤ 100000; omega)
    have hnn := mkP_nml (nm := nm) (l := l) (by omega)
    have hl := mkP_len nm l
    have p2 : ctSameP.pre (mkP nm l, mkP nm l) := ⟨by show (mkP nm l).names.length ≤ _; omega, by show (mkP nm l).spans.length ≤ _; omega, by show (mkP nm l).names.length ≤ _; omega, by show (mkP nm l).spans.length ≤ _; omega⟩
    repeat' (first | refine gl ?_ | (refine br (fun q_ => ?_) (fun q_ => ?_) <;> try simp only [Int.toNat_natCast, Nat.mul_one, Nat.add_zero] at q_) | (refine brF (fun q_ => ?_) (fun q_ => ?_) <;> try simp only [Int.toNat_natCast, Nat.mul_one, Nat.add_zero] at q_))
    refine And.intro (show acc.length + n.toNat ≤ _ by omega) (And.intro (show (acc.length + n.toNat) * 24 ≤ _ by omega) ?_)
    repeat' (first | refine gl ?_ | (refine br (fun q_ => ?_) (fun q_ => ?_) <;> try simp only [Int.toNat_natCast, Nat.mul_one, Nat.add_zero] at q_) | (refine brF (fun q_ => ?_) (fun q_ => ?_) <;> try simp only [Int.toNat_natCast, Nat.mul_one, Nat.add_zero] at q_))
    refine ⟨(nm, acc ++ l.take n.toNat), EntL.cons (Ent.refl _) (EntL.cons (ent_cat (k := n.toNat) (by omega)) (EntL.refl _)), (by show (acc ++ l.take n.toNat).length ≤ 100000; rw [hpm.length_eq]; omega), ?_⟩
    rw [hout]
    repeat' (first | refine gl ?_ | (refine br (fun q_ => ?_) (fun q_ => ?_) <;> try simp only [Int.toNat_natCast, Nat.mul_one, Nat.add_zero] at q_) | (refine brF (fun q_ => ?_) (fun q_ => ?_) <;> try simp only [Int.toNat_natCast, Nat.mul_one, Nat.add_zero] at q_))
    all_goals first
      | exact EntR.bool rfl
      | (exfalso; rw [eqP_t] at q_; exact Bool.noConfusion q_)
#print axioms lawPOr_ok
end Go.Proofs
