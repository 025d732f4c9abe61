import Derived.Test.YtnegdnbodccgkaaGreatDoorDa
import Derived.Test.YtnegdnbodccgkaaGreatDoorQ3
import Derived.Test.YtnegdnbodccgkaaGreatDoorMz
import Derived.Test.YtnegdnbodccgkaaGreatDoorVv
set_option linter.unusedVariables false
set_option linter.unusedSimpArgs false
namespace Go.Proofs
open Go Go.Sx
variable {mx : Int} {pb : Bool}

/-! the reference's parts of a database -/
def ctFiles : Ct := { ι := Unit, inp := fun _ => [], out := fun _ => slD 1 strD filesL, pre := fun _ => True }
set_option maxHeartbeats 1000000 in
theorem rFiles_ok : Sound Tryz.prog (GlT mx pb) 102 ctFiles := by
  refine sound_by (cc := true) Γ0_ok Tryz.T_ok Tryz.mixed Tryz.func102 rfl (by kernel_rfl) (fun _ => rfl) (fun _ _ => by show 0 ≤ 2; decide) ?_
  intro (u : Unit) _
  repeat' (first | refine gl ?_ | (refine br (fun q_ => ?_) (fun q_ => ?_) <;> try simp only [Int.toNat_natCast, Nat.mul_one, Nat.add_zero] at q_) | (refine brF (fun q_ => ?_) (fun q_ => ?_) <;> try simp only [Int.toNat_natCast, Nat.mul_one, Nat.add_zero] at q_))
  exact EntR.of rfl (ent_lit rfl rfl)
set_option maxHeartbeats 1000000 in
theorem pFiles_ok : Sound Tryz.prog (GlT mx pb) 108 ctFiles := by
  refine sound_by (cc := true) Γ0_ok Tryz.T_ok Tryz.mixed Tryz.func108 rfl (by kernel_rfl) (fun _ => rfl) (fun _ _ => by show 0 ≤ 2; decide) ?_
  intro (u : Unit) _
  repeat' (first | refine gl ?_ | (refine br (fun q_ => ?_) (fun q_ => ?_) <;> try simp only [Int.toNat_natCast, Nat.mul_one, Nat.add_zero] at q_) | (refine brF (fun q_ => ?_) (fun q_ => ?_) <;> try simp only [Int.toNat_natCast, Nat.mul_one, Nat.add_zero] at q_))
  exact EntR.of rfl (ent_lit rfl rfl)
def ctPropI : Ct := { ι := Db × Int, inp := fun x => [dbA x.1, .v (.int .i64 x.2)], out := fun x => prA (x.1.prs x.2.toNat), pre := fun x => 0 ≤ x.2 ∧ x.2 < 7 }
set_option maxHeartbeats 4000000 in
theorem rProp_ok : Sound Tryz.prog (GlT mx pb) 99 ctPropI := by
  refine sound_by (cc := true) Γ0_ok Tryz.T_ok Tryz.mixed Tryz.func99 rfl (by kernel_rfl) (fun _ => rfl) (fun _ _ => by show 2 ≤ 35; decide) ?_
  rintro ⟨(d : Db), (i : Int)⟩ ⟨(h0 : 0 ≤ i), (h7 : i < 7)⟩
  repeat' (first | refine gl ?_ | (refine br (fun q_ => ?_) (fun q_ => ?_) <;> try simp only [Int.toNat_natCast, Nat.mul_one, Nat.add_zero] at q_) | (refine brF (fun q_ => ?_) (fun q_ => ?_) <;> try simp only [Int.toNat_natCast, Nat.mul_one, Nat.add_zero] at q_))
  all_goals first
    | (exfalso; omega)
    | (subst q_; exact EntR.of rfl (Ent.refl _))
    | (obtain rfl : i = 6 := by omega
       exact EntR.of rfl (Ent.refl _))
def ctSetI : Ct := { ι := Db × Int, inp := fun x => [dbA x.1, .v (.int .i64 x.2)], out := fun x => setD (x.1.sts x.2.toNat), pre := fun x => 0 ≤ x.2 ∧ x.2 < 6 }
set_option maxHeartbeats 4000000 in
theorem rSet_ok : Sound Tryz.prog (GlT mx pb) 101 ctSetI := by
  refine sound_by (cc := true) Γ0_ok Tryz.T_ok Tryz.mixed Tryz.func101 rfl (by kernel_rfl) (fun _ => rfl) (fun _ _ => by show 2 ≤ 37; decide) ?_
  rintro ⟨(d : Db), (i : Int)⟩ ⟨(h0 : 0 ≤ i), (h7 : i < 6)⟩
  repeat' (first | refine gl ?_ | (refine br (fun q_ => ?_) (fun q_ => ?_) <;> try simp only [Int.toNat_natCast, Nat.mul_one, Nat.add_zero] at q_) | (refine brF (fun q_ => ?_) (fun q_ => ?_) <;> try simp only [Int.toNat_natCast, Nat.mul_one, Nat.add_zero] at q_))
  all_goals first
    | (exfalso; omega)
    | (subst q_; exact EntR.of rfl (Ent.refl _))
    | (obtain rfl : i = 5 := by omega
       exact EntR.of rfl (Ent.refl _))
def mapI (d : Db) : Nat → List Mp
  | 9 => d.mps 0
  | 11 => d.mps 1
  | 12 => d.mps 2
  | 13 => d.mps 3
  | 14 => d.mps 4
  | _ => d.mps 5
theorem mapI_ex (d : Db) (k : Nat) : ∃ i, i < 6 ∧ mapI d k = d.mps i := by
  unfold mapI
  split
  · exact ⟨0, by decide, rfl⟩
  · exact ⟨1, by decide, rfl⟩
  · exact ⟨2, by decide, rfl⟩
  · exact ⟨3, by decide, rfl⟩
  · exact ⟨4, by decide, rfl⟩
  · exact ⟨5, by decide, rfl⟩
theorem mapI_all {d : Db} {p : List Mp → Prop} (h : ∀ k, k < 21 → p (mapI d k)) : ∀ i, i < 6 → p (d.mps i) := fun i hi => by
  match i, hi with
  | 0, _ => exact h 9 (by decide)
  | 1, _ => exact h 11 (by decide)
  | 2, _ => exact h 12 (by decide)
  | 3, _ => exact h 13 (by decide)
  | 4, _ => exact h 14 (by decide)
  | 5, _ => exact h 20 (by decide)
theorem filesL_len : filesL.length = 21 := rfl
def ctMapI : Ct := { ι := Db × Int, inp := fun x => [dbA x.1, .v (.int .i64 x.2)], out := fun x => mpsD (mapI x.1 x.2.toNat), pre := fun x => 0 ≤ x.2 ∧ x.2 < 21 }
def Γfl : Ctx := fun f => match f with
  | 102 => some (.pure ctFiles)
  | _ => none
theorem Γfl_ok : CtxOk Tryz.prog (GlT mx pb) Γfl := by
  intro f h hh
  simp only [Γfl] at hh
  split at hh <;> simp at hh <;> subst hh
  · exact rFiles_ok
set_option maxHeartbeats 8000000 in
theorem rMapI_ok : Sound Tryz.prog (GlT mx pb) 103 ctMapI := by
  refine sound_by (cc := true) Γfl_ok Tryz.T_ok Tryz.mixed Tryz.func103 rfl (by kernel_rfl) (fun _ => rfl) (fun _ _ => by show 2 ≤ 36; decide) ?_
  rintro ⟨(d : Db), (i : Int)⟩ ⟨(h0 : 0 ≤ i), (h7 : i < 21)⟩
  obtain ⟨n, rfl⟩ : ∃ n : Nat, i = n := ⟨i.toNat, by omega⟩
  have hn : n < 21 := by omega
  have hlen := filesL_len
  match n, hn with
  | 0, _ =>
    repeat' (first | refine gl ?_ | (refine br (fun q_ => ?_) (fun q_ => ?_) <;> try simp only [Int.toNat_natCast, Nat.mul_one, Nat.add_zero] at q_) | (refine brF (fun q_ => ?_) (fun q_ => ?_) <;> try simp only [Int.toNat_natCast, Nat.mul_one, Nat.add_zero] at q_))
    exact EntR.of rfl (Ent.refl _)
  | 1, _ =>
    repeat' (first | refine gl ?_ | (refine br (fun q_ => ?_) (fun q_ => ?_) <;> try simp only [Int.toNat_natCast, Nat.mul_one, Nat.add_zero] at q_) | (refine brF (fun q_ => ?_) (fun q_ => ?_) <;> try simp only [Int.toNat_natCast, Nat.mul_one, Nat.add_zero] at q_))
    exact EntR.of rfl (Ent.refl _)
  | 2, _ =>
    repeat' (first | refine gl ?_ | (refine br (fun q_ => ?_) (fun q_ => ?_) <;> try simp only [Int.toNat_natCast, Nat.mul_one, Nat.add_zero] at q_) | (refine brF (fun q_ => ?_) (fun q_ => ?_) <;> try simp only [Int.toNat_natCast, Nat.mul_one, Nat.add_zero] at q_))
    exact EntR.of rfl (Ent.refl _)
  | 3, _ =>
    repeat' (first | refine gl ?_ | (refine br (fun q_ => ?_) (fun q_ => ?_) <;> try simp only [Int.toNat_natCast, Nat.mul_one, Nat.add_zero] at q_) | (refine brF (fun q_ => ?_) (fun q_ => ?_) <;> try simp only [Int.toNat_natCast, Nat.mul_one, Nat.add_zero] at q_))
    exact EntR.of rfl (Ent.refl _)
  | 4, _ =>
    repeat' (first | refine gl ?_ | (refine br (fun q_ => ?_) (fun q_ => ?_) <;> try simp only [Int.toNat_natCast, Nat.mul_one, Nat.add_zero] at q_) | (refine brF (fun q_ => ?_) (fun q_ => ?_) <;> try simp only [Int.toNat_natCast, Nat.mul_one, Nat.add_zero] at q_))
    exact EntR.of rfl (Ent.refl _)
  | 5, _ =>
    repeat' (first | refine gl ?_ | (refine br (fun q_ => ?_) (fun q_ => ?_) <;> try simp only [Int.toNat_natCast, Nat.mul_one, Nat.add_zero] at q_) | (refine brF (fun q_ => ?_) (fun q_ => ?_) <;> try simp only [Int.toNat_natCast, Nat.mul_one, Nat.add_zero] at q_))
    exact EntR.of rfl (Ent.refl _)
  | 6, _ =>
    repeat' (first | refine gl ?_ | (refine br (fun q_ => ?_) (fun q_ => ?_) <;> try simp only [Int.toNat_natCast, Nat.mul_one, Nat.add_zero] at q_) | (refine brF (fun q_ => ?_) (fun q_ => ?_) <;> try simp only [Int.toNat_natCast, Nat.mul_one, Nat.add_zero] at q_))
    exact EntR.of rfl (Ent.refl _)
  | 7, _ =>
    repeat' (first | refine gl ?_ | (refine br (fun q_ => ?_) (fun q_ => ?_) <;> try simp only [Int.toNat_natCast, Nat.mul_one, Nat.add_zero] at q_) | (refine brF (fun q_ => ?_) (fun q_ => ?_) <;> try simp only [Int.toNat_natCast, Nat.mul_one, Nat.add_zero] at q_))
    exact EntR.of rfl (Ent.refl _)
  | 8, _ =>
    repeat' (first | refine gl ?_ | (refine br (fun q_ => ?_) (fun q_ => ?_) <;> try simp only [Int.toNat_natCast, Nat.mul_one, Nat.add_zero] at q_) | (refine brF (fun q_ => ?_) (fun q_ => ?_) <;> try simp only [Int.toNat_natCast, Nat.mul_one, Nat.add_zero] at q_))
    exact EntR.of rfl (Ent.refl _)
  | 9, _ =>
    repeat' (first | refine gl ?_ | (refine br (fun q_ => ?_) (fun q_ => ?_) <;> try simp only [Int.toNat_natCast, Nat.mul_one, Nat.add_zero] at q_) | (refine brF (fun q_ => ?_) (fun q_ => ?_) <;> try simp only [Int.toNat_natCast, Nat.mul_one, Nat.add_zero] at q_))
    exact EntR.of rfl (Ent.refl _)
  | 10, _ =>
    repeat' (first | refine gl ?_ | (refine br (fun q_ => ?_) (fun q_ => ?_) <;> try simp only [Int.toNat_natCast, Nat.mul_one, Nat.add_zero] at q_) | (refine brF (fun q_ => ?_) (fun q_ => ?_) <;> try simp only [Int.toNat_natCast, Nat.mul_one, Nat.add_zero] at q_))
    exact EntR.of rfl (Ent.refl _)
  | 11, _ =>
    repeat' (first | refine gl ?_ | (refine br (fun q_ => ?_) (fun q_ => ?_) <;> try simp only [Int.toNat_natCast, Nat.mul_one, Nat.add_zero] at q_) | (refine brF (fun q_ => ?_) (fun q_ => ?_) <;> try simp only [Int.toNat_natCast, Nat.mul_one, Nat.add_zero] at q_))
    exact EntR.of rfl (Ent.refl _)
  | 12, _ =>
    repeat' (first | refine gl ?_ | (refine br (fun q_ => ?_) (fun q_ => ?_) <;> try simp only [Int.toNat_natCast, Nat.mul_one, Nat.add_zero] at q_) | (refine brF (fun q_ => ?_) (fun q_ => ?_) <;> try simp only [Int.toNat_natCast, Nat.mul_one, Nat.add_zero] at q_))
    exact EntR.of rfl (Ent.refl _)
  | 13, _ =>
    repeat' (first | refine gl ?_ | (refine br (fun q_ => ?_) (fun q_ => ?_) <;> try simp only [Int.toNat_natCast, Nat.mul_one, Nat.add_zero] at q_) | (refine brF (fun q_ => ?_) (fun q_ => ?_) <;> try simp only [Int.toNat_natCast, Nat.mul_one, Nat.add_zero] at q_))
    exact EntR.of rfl (Ent.refl _)
  | 14, _ =>
    repeat' (first | refine gl ?_ | (refine br (fun q_ => ?_) (fun q_ => ?_) <;> try simp only [Int.toNat_natCast, Nat.mul_one, Nat.add_zero] at q_) | (refine brF (fun q_ => ?_) (fun q_ => ?_) <;> try simp only [Int.toNat_natCast, Nat.mul_one, Nat.add_zero] at q_))
    exact EntR.of rfl (Ent.refl _)
  | 15, _ =>
    repeat' (first | refine gl ?_ | (refine br (fun q_ => ?_) (fun q_ => ?_) <;> try simp only [Int.toNat_natCast, Nat.mul_one, Nat.add_zero] at q_) | (refine brF (fun q_ => ?_) (fun q_ => ?_) <;> try simp only [Int.toNat_natCast, Nat.mul_one, Nat.add_zero] at q_))
    exact EntR.of rfl (Ent.refl _)
  | 16, _ =>
    repeat' (first | refine gl ?_ | (refine br (fun q_ => ?_) (fun q_ => ?_) <;> try simp only [Int.toNat_natCast, Nat.mul_one, Nat.add_zero] at q_) | (refine brF (fun q_ => ?_) (fun q_ => ?_) <;> try simp only [Int.toNat_natCast, Nat.mul_one, Nat.add_zero] at q_))
    exact EntR.of rfl (Ent.refl _)
  | 17, _ =>
    repeat' (first | refine gl ?_ | (refine br (fun q_ => ?_) (fun q_ => ?_) <;> try simp only [Int.toNat_natCast, Nat.mul_one, Nat.add_zero] at q_) | (refine brF (fun q_ => ?_) (fun q_ => ?_) <;> try simp only [Int.toNat_natCast, Nat.mul_one, Nat.add_zero] at q_))
    exact EntR.of rfl (Ent.refl _)
  | 18, _ =>
    repeat' (first | refine gl ?_ | (refine br (fun q_ => ?_) (fun q_ => ?_) <;> try simp only [Int.toNat_natCast, Nat.mul_one, Nat.add_zero] at q_) | (refine brF (fun q_ => ?_) (fun q_ => ?_) <;> try simp only [Int.toNat_natCast, Nat.mul_one, Nat.add_zero] at q_))
    exact EntR.of rfl (Ent.refl _)
  | 19, _ =>
    repeat' (first | refine gl ?_ | (refine br (fun q_ => ?_) (fun q_ => ?_) <;> try simp only [Int.toNat_natCast, Nat.mul_one, Nat.add_zero] at q_) | (refine brF (fun q_ => ?_) (fun q_ => ?_) <;> try simp only [Int.toNat_natCast, Nat.mul_one, Nat.add_zero] at q_))
    exact EntR.of rfl (Ent.refl _)
  | 20, _ =>
    repeat' (first | refine gl ?_ | (refine br (fun q_ => ?_) (fun q_ => ?_) <;> try simp only [Int.toNat_natCast, Nat.mul_one, Nat.add_zero] at q_) | (refine brF (fun q_ => ?_) (fun q_ => ?_) <;> try simp only [Int.toNat_natCast, Nat.mul_one, Nat.add_zero] at q_))
    exact EntR.of rfl (Ent.refl _)

/-! small databases -/
structure SmD (d : Db) : Prop where
  cls : d.cls.length ≤ 16
  prs : ∀ i, i < 7 → (d.prs i).names.length ≤ 30 ∧ (d.prs i).spans.length ≤ 16
  sts : ∀ i, i < 6 → (d.sts i).length ≤ 12
  mps : ∀ i, i < 6 → smallB (d.mps i) = true
open Classical in
noncomputable def smDb (d : Db) : Bool := decide (SmD d)
theorem smDb_t {d : Db} (h : SmD d) : true = smDb d := (@decide_eq_true _ (Classical.propDecidable _) h).symm
theorem smDb_f {d : Db} (h : ¬ SmD d) : false = smDb d := (@decide_eq_false _ (Classical.propDecidable _) h).symm
theorem smDb_iff {d : Db} : smDb d = true ↔ SmD d := by
  unfold smDb
  exact @decide_eq_true_iff _ (Classical.propDecidable _)
def fitDb (d : Db) : Prop := ∀ i, (d.mps i).length ≤ 9223372036854775807
noncomputable def ctSmDb : Ct := { ι := Db, inp := fun d => [dbA d], out := fun d => .v (.bool (smDb d)), pre := fitDb }
def ctSm2 : Ct := { ι := List Rg, inp := fun l => [setD l], out := fun l => .v (.bool (decide ((l.length : Int) ≤ 12))), pre := fun _ => True }
theorem r2Small_ok : Sound Tryz.prog (GlT mx pb) 100 ctSm2 := by
  refine sound_by (cc := true) Γ0_ok Tryz.T_ok Tryz.mixed Tryz.func100 rfl (by kernel_rfl) (fun _ => rfl) (fun _ _ => by show 1 ≤ 7; decide) ?_
  intro (l : List Rg) _
  repeat' (first | refine gl ?_ | (refine br (fun q_ => ?_) (fun q_ => ?_) <;> try simp only [Int.toNat_natCast, Nat.mul_one, Nat.add_zero] at q_) | (refine brF (fun q_ => ?_) (fun q_ => ?_) <;> try simp only [Int.toNat_natCast, Nat.mul_one, Nat.add_zero] at q_))
  exact EntR.bool rfl
noncomputable def Γsm : Ctx := fun f => match f with
  | 102 => some (.pure ctFiles)
  | 99 => some (.pure ctPropI)
  | 101 => some (.pure ctSetI)
  | 103 => some (.pure ctMapI)
  | 100 => some (.pure ctSm2)
  | 21 => some (.pure ctSmall)
  | _ => none
theorem Γsm_ok : CtxOk Tryz.prog (GlT mx pb) Γsm := by
  intro f h hh
  simp only [Γsm] at hh
  split at hh <;> simp at hh <;> subst hh
  · exact rFiles_ok
  · exact rProp_ok
  · exact rSet_ok
  · exact rMapI_ok
  · exact r2Small_ok
  · exact rsmall_ok
set_option maxHeartbeats 8000000 in
theorem rSmDb_ok : Sound Tryz.prog (GlT mx pb) 42 ctSmDb := by
  refine sound_by (cc := true) Γsm_ok Tryz.T_ok Tryz.mixed Tryz.func42 rfl (by kernel_rfl) (fun _ => rfl) (fun _ _ => by show 1 ≤ 49; decide) ?_
  intro (d : Db) (hd : fitDb d)
  repeat' (first | refine gl ?_ | (refine br (fun q_ => ?_) (fun q_ => ?_) <;> try simp only [Int.toNat_natCast, Nat.mul_one, Nat.add_zero] at q_) | (refine brF (fun q_ => ?_) (fun q_ => ?_) <;> try simp only [Int.toNat_natCast, Nat.mul_one, Nat.add_zero] at q_))
  · exact EntR.bool (smDb_f fun h => by have := h.cls; omega)
  have hcls := q_
  refine ⟨0, Nat, fun k => ⟨[(1, .own 0 0), (3, .v (.int .i64 k))], [.cells 39 (dbL d)], []⟩, fun k => k ≤ 7 ∧ ∀ j, j < k → (d.prs j).names.length ≤ 30 ∧ (d.prs j).spans.length ≤ 16, fun k => 7 - k, fun _ => Nat.zero_le _, ⟨0, ⟨Nat.zero_le _, fun j hj => by omega⟩, StLe.ren [0] tmS ⟨⟨rfl, EntL.refl _, rfl⟩, trivial⟩ (by decide)⟩, ?_⟩
  rintro k ⟨hk, hdk⟩
  by_cases hlt : k < 7
  · have p1 : ctPropI.pre (d, (k : Int)) := ⟨by show 0 ≤ (k : Int); omega, by show (k : Int) < 7; omega⟩
    repeat' (first | refine gl ?_ | (refine br (fun q_ => ?_) (fun q_ => ?_) <;> try simp only [Int.toNat_natCast, Nat.mul_one, Nat.add_zero] at q_) | (refine brF (fun q_ => ?_) (fun q_ => ?_) <;> try simp only [Int.toNat_natCast, Nat.mul_one, Nat.add_zero] at q_))
    all_goals first
      | exact EntR.bool (smDb_f fun h => by have := h.prs k hlt; omega)
      | exact ⟨k + 1, ⟨by omega, next_of hdk ⟨by omega, by omega⟩⟩, (by show 7 - (k + 1) < 7 - k; omega), StLe.ren [0] tmS ⟨⟨rfl, EntL.refl _, rfl⟩, trivial⟩ (by decide)⟩
  have e7 : k = 7 := by omega
  subst e7
  repeat' (first | refine gl ?_ | (refine br (fun q_ => ?_) (fun q_ => ?_) <;> try simp only [Int.toNat_natCast, Nat.mul_one, Nat.add_zero] at q_) | (refine brF (fun q_ => ?_) (fun q_ => ?_) <;> try simp only [Int.toNat_natCast, Nat.mul_one, Nat.add_zero] at q_))
  refine ⟨0, Nat, fun k => ⟨[(1, .own 0 0), (5, .v (.int .i64 k))], [.cells 39 (dbL d)], []⟩, fun k => k ≤ 6 ∧ ∀ j, j < k → (d.sts j).length ≤ 12, fun k => 6 - k, fun _ => Nat.zero_le _, ⟨0, ⟨Nat.zero_le _, fun j hj => by omega⟩, StLe.ren [0] tmS ⟨⟨rfl, EntL.refl _, rfl⟩, trivial⟩ (by decide)⟩, ?_⟩
  rintro k ⟨hk, hds⟩
  by_cases hlt : k < 6
  · have p1 : ctSetI.pre (d, (k : Int)) := ⟨by show 0 ≤ (k : Int); omega, by show (k : Int) < 6; omega⟩
    repeat' (first | refine gl ?_ | (refine br (fun q_ => ?_) (fun q_ => ?_) <;> try simp only [Int.toNat_natCast, Nat.mul_one, Nat.add_zero] at q_) | (refine brF (fun q_ => ?_) (fun q_ => ?_) <;> try simp only [Int.toNat_natCast, Nat.mul_one, Nat.add_zero] at q_))
    all_goals first
      | exact EntR.bool (smDb_f fun h => by have := h.sts k hlt; omega)
      | exact ⟨k + 1, ⟨by omega, next_of hds (by omega)⟩, (by show 6 - (k + 1) < 6 - k; omega), StLe.ren [0] tmS ⟨⟨rfl, EntL.refl _, rfl⟩, trivial⟩ (by decide)⟩
  have e6 : k = 6 := by omega
  subst e6
  repeat' (first | refine gl ?_ | (refine br (fun q_ => ?_) (fun q_ => ?_) <;> try simp only [Int.toNat_natCast, Nat.mul_one, Nat.add_zero] at q_) | (refine brF (fun q_ => ?_) (fun q_ => ?_) <;> try simp only [Int.toNat_natCast, Nat.mul_one, Nat.add_zero] at q_))
  refine ⟨0, Nat, fun k => ⟨[(1, .own 0 0), (6, .v (.int .i64 k))], [.cells 39 (dbL d)], []⟩, fun k => k ≤ 21 ∧ ∀ j, j < k → smallB (mapI d j) = true, fun k => 21 - k, fun _ => Nat.zero_le _, ⟨0, ⟨Nat.zero_le _, fun j hj => by omega⟩, StLe.ren [0] tmS ⟨⟨rfl, EntL.refl _, rfl⟩, trivial⟩ (by decide)⟩, ?_⟩
  rintro k ⟨hk, hdm⟩
  have hlen := filesL_len
  by_cases hlt : k < 21
  · have p1 : ctMapI.pre (d, (k : Int)) := ⟨by show 0 ≤ (k : Int); omega, by show (k : Int) < 21; omega⟩
    have p2 : ctSmall.pre (mapI d k) := by
      obtain ⟨i, _, e⟩ := mapI_ex d k
      rw [e]; exact hd i
    repeat' (first | refine gl ?_ | (refine br (fun q_ => ?_) (fun q_ => ?_) <;> try simp only [Int.toNat_natCast, Nat.mul_one, Nat.add_zero] at q_) | (refine brF (fun q_ => ?_) (fun q_ => ?_) <;> try simp only [Int.toNat_natCast, Nat.mul_one, Nat.add_zero] at q_))
    · refine EntR.bool (smDb_f fun h => ?_)
      obtain ⟨i, hi, e⟩ := mapI_ex d k
      rw [e, h.mps i hi] at q_
      exact Bool.noConfusion q_
    · exact ⟨k + 1, ⟨by omega, next_of hdm q_⟩, (by show 21 - (k + 1) < 21 - k; omega), StLe.ren [0] tmS ⟨⟨rfl, EntL.refl _, rfl⟩, trivial⟩ (by decide)⟩
  · repeat' (first | refine gl ?_ | (refine br (fun q_ => ?_) (fun q_ => ?_) <;> try simp only [Int.toNat_natCast, Nat.mul_one, Nat.add_zero] at q_) | (refine brF (fun q_ => ?_) (fun q_ => ?_) <;> try simp only [Int.toNat_natCast, Nat.mul_one, Nat.add_zero] at q_))
    exact EntR.bool (smDb_t ⟨by omega, hdk, hds, mapI_all (p := fun l => smallB l = true) fun j hj => hdm j (by omega)⟩)
end Go.Proofs
