import Derived.Test.YtnegdnbodccgkaaGreatDoorQ6
import Derived.Test.YtnegdnbodccgkaaGreatDoorVz
import Derived.Test.YtnegdnbodccgkaaGreatDoorRz
set_option linter.unusedVariables false
set_option linter.unusedSimpArgs false
namespace Go.Proofs
open Go Go.Sx
variable {mx : Int} {pb : Bool}

/-! the law of chapter 10: Divides -/
def fewP (p : Pr) (n : Int) : Bool := decide ((p.names.length : Int) ≤ 300) && decide ((p.spans.length : Int) ≤ n)
def ctFewP (n : Int) : Ct := { ι := Pr, inp := fun p => [prA p, .v (.int .i64 n)], out := fun p => .v (.bool (fewP p n)), pre := fun _ => True }
theorem rFewP_ok (n : Int) : Sound Tryz.prog (GlT mx pb) 31 (ctFewP n) := by
  refine sound_by (cc := true) Γ0_ok Tryz.T_ok Tryz.mixed Tryz.func31 rfl (by kernel_rfl) (fun _ => rfl) (fun _ _ => by show 2 ≤ 16; decide) ?_
  intro (p : Pr) _
  repeat' (first | refine gw ?_ | (refine br (fun q_ => ?_) (fun q_ => ?_) <;> try simp only [Int.toNat_natCast, Nat.mul_one, Nat.add_zero] at q_) | (refine brF (fun q_ => ?_) (fun q_ => ?_) <;> try simp only [Int.toNat_natCast, Nat.mul_one, Nat.add_zero] at q_))
  · exact EntR.bool (by unfold fewP; simp; omega)
  · exact EntR.bool (by unfold fewP; simp; omega)
theorem fewP_iff {p : Pr} {n : Int} : fewP p n = true ↔ (p.names.length : Int) ≤ 300 ∧ (p.spans.length : Int) ≤ n := by
  unfold fewP
  simp
theorem combL_len (a b : List Rg) (op : Int) : (combL a b op).length ≤ 2 * a.length + 2 * b.length + 2 := by
  unfold combL
  have h1 := combK_len (fun c => keepsB op (hasB a c) (hasB b c)) (cutsL (cutsL [] a) b) (cutsL (cutsL [] a) b).length
  have h2 := cutsL_len (l := cutsL [] a) (rs := b)
  have h3 := cutsL_len (l := []) (rs := a)
  simp only [List.length_nil] at h3
  omega
theorem setV_len {p : Pr} (v : Int) (h : p.spans.length ≤ 1000) : (setV p v).length ≤ 5000 := by
  have h1 := cnt_spl p
  have h2 := valS_len v (cntP p).spans
  have h3 := canon_len (valS v (cntP p).spans)
  unfold setV
  split
  · have := combL_len [(0, 1114111)] (canon (valS v (cntP p).spans)) 3
    simp only [List.length_cons, List.length_nil] at this
    omega
  · omega
def ctLawD : Ct := { ι := Pr × Int, inp := fun x => [prA x.1, .v (.int .i64 x.2)], out := fun _ => .v (.bool true), pre := fun _ => True }
noncomputable def Γld (mx : Int) : Ctx := fun f => match f with
  | 31 => some (.pure (ctFewP 20))
  | 26 => some (.pure ctAlive)
  | 40 => some (.pure ctGet)
  | 32 => some (.pure ctSetV)
  | 41 => some (.pure ctHas)
  | _ => none
theorem Γld_ok {mx : Int} : CtxOk Tryz.prog (GlT mx false) (Γld mx) := by
  intro f h hh
  simp only [Γld] at hh
  split at hh <;> simp at hh <;> subst hh
  · exact rFewP_ok 20
  · exact awake_ok mx
  · exact pGet_ok
  · exact pSetV_ok
  · exact r2Has_ok
set_option maxHeartbeats 4000000 in
theorem lawPDiv_ok {mx : Int} : Sound Tryz.prog (GlT mx false) 11 ctLawD := by
  refine sound_by (cc := true) Γld_ok Tryz.T_ok Tryz.mixed Tryz.func11 rfl (by kernel_rfl) (fun _ => rfl) (fun _ _ => by show 2 ≤ 38; decide) ?_
  rintro ⟨(p : Pr), (c : Int)⟩ _
  rcases Bool.eq_false_or_eq_true (fewP p 20) with h | h
  · by_cases h0 : c < 0
    · repeat' (first | refine gl ?_ | (refine br (fun q_ => ?_) (fun q_ => ?_) <;> try simp only [Int.toNat_natCast, Nat.mul_one, Nat.add_zero] at q_) | (refine brF (fun q_ => ?_) (fun q_ => ?_) <;> try simp only [Int.toNat_natCast, Nat.mul_one, Nat.add_zero] at q_))
      exact EntR.bool rfl
    by_cases h1 : 1114111 < c
    · repeat' (first | refine gl ?_ | (refine br (fun q_ => ?_) (fun q_ => ?_) <;> try simp only [Int.toNat_natCast, Nat.mul_one, Nat.add_zero] at q_) | (refine brF (fun q_ => ?_) (fun q_ => ?_) <;> try simp only [Int.toNat_natCast, Nat.mul_one, Nat.add_zero] at q_))
      exact EntR.bool rfl
    have hl := (fewP_iff.1 h).2
    have hs : p.spans.length ≤ 1000 := by omega
    have p2 : ctGet.pre (p, c) := (by show p.spans.length ≤ 1000000000; omega)
    have hv := getV_in p c
    have hn := cnt_len250 p
    have hb : hasB (setV p (getV p c + 1)) c = false := by
      rw [← Bool.not_eq_true, setV_has p (getV p c + 1) (by omega) (by omega)]; omega
    have e1 : ctHas.out (setV p (getV p c), c) = .v (.bool true) := congrArg (fun b => D.v (.bool b)) ((setV_has p (getV p c) (by omega) (by omega)).2 rfl)
    have e2 : ctHas.out (setV p (getV p c + 1), c) = .v (.bool false) := congrArg (fun b => D.v (.bool b)) hb
    repeat' (first | refine gl ?_ | (refine br (fun q_ => ?_) (fun q_ => ?_) <;> try simp only [Int.toNat_natCast, Nat.mul_one, Nat.add_zero] at q_) | (refine brF (fun q_ => ?_) (fun q_ => ?_) <;> try simp only [Int.toNat_natCast, Nat.mul_one, Nat.add_zero] at q_))
    refine ⟨(p, getV p c), EntL.refl _, hs, ?_⟩
    repeat' (first | refine gl ?_ | (refine br (fun q_ => ?_) (fun q_ => ?_) <;> try simp only [Int.toNat_natCast, Nat.mul_one, Nat.add_zero] at q_) | (refine brF (fun q_ => ?_) (fun q_ => ?_) <;> try simp only [Int.toNat_natCast, Nat.mul_one, Nat.add_zero] at q_))
    refine ⟨(setV p (getV p c), c), EntL.refl _, Nat.le_trans (setV_len _ hs) (by decide), ?_⟩
    rw [e1]
    repeat' (first | refine gl ?_ | (refine br (fun q_ => ?_) (fun q_ => ?_) <;> try simp only [Int.toNat_natCast, Nat.mul_one, Nat.add_zero] at q_) | (refine brF (fun q_ => ?_) (fun q_ => ?_) <;> try simp only [Int.toNat_natCast, Nat.mul_one, Nat.add_zero] at q_))
    refine ⟨(p, getV p c + 1), EntL.refl _, hs, ?_⟩
    repeat' (first | refine gl ?_ | (refine br (fun q_ => ?_) (fun q_ => ?_) <;> try simp only [Int.toNat_natCast, Nat.mul_one, Nat.add_zero] at q_) | (refine brF (fun q_ => ?_) (fun q_ => ?_) <;> try simp only [Int.toNat_natCast, Nat.mul_one, Nat.add_zero] at q_))
    refine ⟨(setV p (getV p c + 1), c), EntL.refl _, Nat.le_trans (setV_len _ hs) (by decide), ?_⟩
    rw [e2]
    repeat' (first | refine gl ?_ | (refine br (fun q_ => ?_) (fun q_ => ?_) <;> try simp only [Int.toNat_natCast, Nat.mul_one, Nat.add_zero] at q_) | (refine brF (fun q_ => ?_) (fun q_ => ?_) <;> try simp only [Int.toNat_natCast, Nat.mul_one, Nat.add_zero] at q_))
    exact EntR.bool rfl
  · repeat' (first | refine gl ?_ | (refine br (fun q_ => ?_) (fun q_ => ?_) <;> try simp only [Int.toNat_natCast, Nat.mul_one, Nat.add_zero] at q_) | (refine brF (fun q_ => ?_) (fun q_ => ?_) <;> try simp only [Int.toNat_natCast, Nat.mul_one, Nat.add_zero] at q_))
    exact EntR.bool rfl
#print axioms lawPDiv_ok
end Go.Proofs
