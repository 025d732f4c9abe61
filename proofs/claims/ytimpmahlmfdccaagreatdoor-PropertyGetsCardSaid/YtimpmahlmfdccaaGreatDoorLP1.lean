import Derived.Test.YtimpmahlmfdccaaGreatDoorQ7
import Derived.Test.YtimpmahlmfdccaaGreatDoorRw10
namespace Go.Proofs
open Go Go.Sx
variable {mx : Int} {pb : Bool}

def fewP (p : Pr) (n : Int) : Bool := decide ((p.names.length : Int) ≤ 300) && decide ((p.spans.length : Int) ≤ n)
def ctFewP (n : Int) : Ct := { ι := Pr, inp := fun p => [prA p, .v (.int .i64 n)], out := fun p => .v (.bool (fewP p n)), pre := fun _ => True }
theorem rFewP_ok (n : Int) : Sound Tryz.prog (GlT mx pb) 25 (ctFewP n) := by
  refine sound_by (cc := true) Γ0_ok Tryz.T_ok Tryz.mixed Tryz.func25 rfl (by kernel_rfl) (fun _ => rfl) (fun _ _ => by show 2 ≤ 16; decide) ?_
  intro (p : Pr) _
  repeat' (first | refine wk1 ?_ | refine wk2 ?_ | refine wk3 ?_ | refine wt1 ?_ | refine wt2 ?_ | refine wt3 ?_ | refine wt4 ?_ | refine wca _ (EntL.refl _) ?_ | refine wcb _ (EntL.refl _) ?_ | refine bt1 ?_ | refine bt2 ?_ | refine bt3 ?_ | refine bt4 ?_ | refine wn1 ?_ | refine wn2 ?_ | refine wnb ?_ | refine wa ?_ | refine wn5 ?_ | (refine br (fun q_ => ?_) (fun q_ => ?_) <;> try simp only [Int.toNat_natCast, Nat.mul_one, Nat.add_zero] at q_) | (refine brF (fun q_ => ?_) (fun q_ => ?_) <;> try simp only [Int.toNat_natCast, Nat.mul_one, Nat.add_zero] at q_))
  · exact EntR.bool (by unfold fewP; simp; omega)
  · exact EntR.bool (by unfold fewP; simp; omega)
theorem fewP_iff {p : Pr} {n : Int} : fewP p n = true ↔ (p.names.length : Int) ≤ 300 ∧ (p.spans.length : Int) ≤ n := by
  unfold fewP
  simp
def ctLawG : Ct := { ι := Pr × Int × ByteArray, inp := fun x => [prA x.1, .v (.int .i64 x.2.1), .v (.string x.2.2)], out := fun _ => .v (.bool true), pre := fun _ => True }
noncomputable def Γlg (mx : Int) : Ctx := fun f => match f with
  | 25 => some (.pure (ctFewP 60))
  | 26 => some (.pure ctAlive)
  | 29 => some (.pure ctPV)
  | 30 => some (.pure ctPV)
  | 31 => some (.pure ctGet)
  | 32 => some (.pure ctGet)
  | 21 => some (.pure ctPName)
  | 33 => some (.pure ctPName)
  | 27 => some (.pure ctFnd)
  | 28 => some (.pure ctFnd)
  | _ => none
theorem Γlg_ok {mx : Int} : CtxOk Tryz.prog (GlT mx false) (Γlg mx) := by
  intro f h hh
  simp only [Γlg] at hh
  split at hh <;> simp at hh <;> subst hh
  · exact rFewP_ok 60
  · exact awake_ok mx
  · exact pValid_ok
  · exact rPValid_ok
  · exact pGet_ok
  · exact rGet_ok
  · exact pNameV_ok
  · exact rNameV_ok
  · exact pFind_ok
  · exact rFind_ok
set_option maxHeartbeats 4000000 in
theorem lawPGets_ok : Sound Tryz.prog (GlT mx false) 8 ctLawG := by
  refine sound_by (cc := true) Γlg_ok Tryz.T_ok Tryz.mixed Tryz.func8 rfl (by kernel_rfl) (fun _ => rfl) (fun _ _ => by show 3 ≤ 63; decide) ?_
  rintro ⟨(p : Pr), (c : Int), (nm : ByteArray)⟩ _
  rcases Bool.eq_false_or_eq_true (fewP p 60) with h | h
  · have hl := (fewP_iff.1 h).2
    have p1 : ctPV.pre p := (by show p.spans.length ≤ 1000000000; omega)
    have p2 : ctGet.pre (p, c) := (by show p.spans.length ≤ 1000000000; omega)
    have p3 : ctPName.pre (p, c) := (by show p.spans.length ≤ 1000000000; omega)
    have p4 : ctFnd.pre (p, nm) := (by show p.spans.length ≤ 1000000000; omega)
    repeat' (first | refine wk1 ?_ | refine wk2 ?_ | refine wk3 ?_ | refine wt1 ?_ | refine wt2 ?_ | refine wt3 ?_ | refine wt4 ?_ | refine wca _ (EntL.refl _) ?_ | refine wcb _ (EntL.refl _) ?_ | refine wca () (EntL.refl _) ?_ | refine wcb () (EntL.refl _) ?_ | refine bt0 ?_ | refine bt1 ?_ | refine bt2 ?_ | refine bt3 ?_ | refine bt4 ?_ | refine wn1 ?_ | refine wn2 ?_ | refine wnb ?_ | refine wa ?_ | refine wn5 ?_ | (refine br (fun q_ => ?_) (fun q_ => ?_) <;> try simp only [Int.toNat_natCast, Nat.mul_one, Nat.add_zero] at q_) | (refine brF (fun q_ => ?_) (fun q_ => ?_) <;> try simp only [Int.toNat_natCast, Nat.mul_one, Nat.add_zero] at q_))
    all_goals first
      | exact EntR.bool rfl
      | (exfalso; simp at q_)
  · repeat' (first | refine wk1 ?_ | refine wk2 ?_ | refine wk3 ?_ | refine wt1 ?_ | refine wt2 ?_ | refine wt3 ?_ | refine wt4 ?_ | refine wca _ (EntL.refl _) ?_ | refine wcb _ (EntL.refl _) ?_ | refine wca () (EntL.refl _) ?_ | refine wcb () (EntL.refl _) ?_ | refine bt0 ?_ | refine bt1 ?_ | refine bt2 ?_ | refine bt3 ?_ | refine bt4 ?_ | refine wn1 ?_ | refine wn2 ?_ | refine wnb ?_ | refine wa ?_ | refine wn5 ?_ | (refine br (fun q_ => ?_) (fun q_ => ?_) <;> try simp only [Int.toNat_natCast, Nat.mul_one, Nat.add_zero] at q_) | (refine brF (fun q_ => ?_) (fun q_ => ?_) <;> try simp only [Int.toNat_natCast, Nat.mul_one, Nat.add_zero] at q_))
    exact EntR.bool rfl
#print axioms lawPGets_ok
end Go.Proofs
