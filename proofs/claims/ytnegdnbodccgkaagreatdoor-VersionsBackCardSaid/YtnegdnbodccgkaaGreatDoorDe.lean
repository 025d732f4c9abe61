import Derived.Test.YtnegdnbodccgkaaGreatDoorDc
import Derived.Test.YtnegdnbodccgkaaGreatDoorC1
import Derived.Test.YtnegdnbodccgkaaGreatDoorP1
set_option linter.unusedVariables false
set_option linter.unusedSimpArgs false
namespace Go.Proofs
open Go Go.Sx
variable {mx : Int} {pb : Bool}

/-! the errors of the parts -/
def clsIn (s : Sp) : Prop := 0 ≤ s.lo ∧ s.lo ≤ s.hi ∧ s.hi ≤ 1114111 ∧ 1 ≤ s.val ∧ s.val ≤ 254
def clsAt (l : List Sp) (i : Nat) : Prop := clsIn (l.getD i default) ∧ (0 < i → spAft (l.getD (i - 1) default) (l.getD i default))
def clsOk (l : List Sp) : Prop := ∀ i, i < l.length → clsAt l i
open Classical in
noncomputable def clsB (l : List Sp) : Bool := decide (clsOk l)
theorem clsB_t {l : List Sp} (h : clsOk l) : true = clsB l := (@decide_eq_true _ (Classical.propDecidable _) h).symm
theorem clsB_f {l : List Sp} (h : ¬ clsOk l) : false = clsB l := (@decide_eq_false _ (Classical.propDecidable _) h).symm
theorem clsB_iff {l : List Sp} : clsB l = true ↔ clsOk l := by
  unfold clsB
  exact @decide_eq_true_iff _ (Classical.propDecidable _)
noncomputable def ptE : Pt → Int
  | .pr p => if validP p = true then 0 else 11
  | .cl l => if clsB l = true then 0 else 11
  | .st l => if canon l = l then 0 else 11
  | .mp l => checkE l
noncomputable def fileE (d : Db) : Nat → Int
  | 0 => 0
  | k + 1 => ptE (partOf d k)
noncomputable def firstE (d : Db) : Int := match (List.range 21).find? (fun k => decide (fileE d k ≠ 0)) with | some k => fileE d k | none => 0
theorem firstE_at {d : Db} {k : Nat} (hk : k < 21) (hn : ∀ j, j < k → fileE d j = 0) (h : ¬ fileE d k = 0) : firstE d = fileE d k := by
  have : (List.range 21).find? (fun k => decide (fileE d k ≠ 0)) = some k := by
    rw [List.find?_range_eq_some]
    refine ⟨decide_eq_true h, List.mem_range.2 hk, fun j hj => ?_⟩
    rw [decide_eq_false (fun hh => hh (hn j hj))]
    rfl
  rw [firstE, this]
theorem firstE_0 {d : Db} (hn : ∀ j, j < 21 → fileE d j = 0) : firstE d = 0 := by
  have : (List.range 21).find? (fun k => decide (fileE d k ≠ 0)) = none := by
    rw [List.find?_eq_none]
    intro j hj
    rw [decide_eq_false (fun hh => hh (hn j (List.mem_range.1 hj)))]
    decide
  rw [firstE, this]
theorem firstE_all {d : Db} (h : firstE d = 0) : ∀ j, j < 21 → fileE d j = 0 := by
  intro j hj
  cases hf : (List.range 21).find? (fun k => decide (fileE d k ≠ 0)) with
  | none =>
    rw [List.find?_eq_none] at hf
    have := hf j (List.mem_range.2 hj)
    simpa using this
  | some k =>
    have h1 := List.find?_some hf
    rw [firstE, hf] at h
    simp at h1
    exact absurd h h1
def verOk (d : Db) : Prop := 0 ≤ d.maj ∧ d.maj ≤ 9999 ∧ 0 ≤ d.mnr ∧ d.mnr ≤ 9999
instance (d : Db) : Decidable (verOk d) := inferInstanceAs (Decidable (_ ∧ _))
noncomputable def dbE (d : Db) : Int := if verOk d then firstE d else 1
noncomputable def ctDbE : Ct := { ι := Db, inp := fun d => [dbA d], out := fun d => .v (.int .i64 (dbE d)), pre := SmD }

/-! the reference's ClassesValid, Valid, SetOf, fileError, Check -/
noncomputable def ctCls : Ct := { ι := List Sp, inp := fun l => [spsD l], out := fun l => .v (.bool (clsB l)), pre := fun l => l.length ≤ 1000000000 }
theorem canon_len12 {l : List Rg} (h : l.length ≤ 12) : (canon l).length ≤ 1000 := by
  have := canon_len l
  omega
def ctVs : Ct := { ι := List Rg, inp := fun l => [setD l], out := fun l => .v (.bool (decide (canon l = l))), pre := fun l => l.length ≤ 12 }
noncomputable def Γvs : Ctx := fun f => match f with
  | 85 => some (.pure ctMakeR)
  | 33 => some (.pure ctSameS)
  | _ => none
theorem Γvs_ok : CtxOk Tryz.prog (GlT mx pb) Γvs := by
  intro f h hh
  simp only [Γvs] at hh
  split at hh <;> simp at hh <;> subst hh
  · exact r2Make_ok
  · exact r2Same_ok
noncomputable def Γvp (mx : Int) (pb : Bool) : Ctx := fun f => match f with
  | 82 => some (.pure ctMake)
  | _ => none
theorem Γvp_ok : CtxOk Tryz.prog (GlT mx pb) (Γvp mx pb) := by
  intro f h hh
  simp only [Γvp] at hh
  split at hh <;> simp at hh <;> subst hh
  · exact cpMake_ok
set_option maxHeartbeats 4000000 in
theorem pVs_ok : Sound Tryz.prog (GlT mx pb) 310 ctVs := by
  refine sound_by (cc := true) Γvp_ok Tryz.T_ok Tryz.mixed Tryz.func310 rfl (by kernel_rfl) (fun _ => rfl) (fun _ _ => by show 1 ≤ 32; decide) ?_
  intro (l : List Rg) (hl : l.length ≤ 12)
  have p1 : ctMake.pre l := ⟨by omega, .inl hl⟩
  have hc := canon_len12 hl
  repeat' (first | refine gl ?_ | (refine br (fun q_ => ?_) (fun q_ => ?_) <;> try simp only [Int.toNat_natCast, Nat.mul_one, Nat.add_zero] at q_) | (refine brF (fun q_ => ?_) (fun q_ => ?_) <;> try simp only [Int.toNat_natCast, Nat.mul_one, Nat.add_zero] at q_))
  · exact EntR.bool (decide_eq_false fun e => q_ (by rw [e])).symm
  have hle : (canon l).length = l.length := by omega
  refine ⟨0, Nat, fun k => ⟨[(1, .own 0 0), (17, rgsD (canon l)), (18, .v (.int .i64 (canon l).length)), (19, .v (.int .i64 k))], [.cells 31 [rgsD l]], []⟩, fun k => k ≤ (canon l).length ∧ ∀ j, j < k → (canon l).getD j default = l.getD j default, fun k => (canon l).length - k, fun _ => Nat.zero_le _, ⟨0, ⟨Nat.zero_le _, fun j hj => by omega⟩, StLe.ren [0] tmS ⟨⟨rfl, EntL.refl _, rfl⟩, trivial⟩ (by decide)⟩, ?_⟩
  rintro k ⟨hk, hd⟩
  by_cases hlt : k < (canon l).length
  · repeat' (first | refine gl ?_ | (refine br (fun q_ => ?_) (fun q_ => ?_) <;> try simp only [Int.toNat_natCast, Nat.mul_one, Nat.add_zero] at q_) | (refine brF (fun q_ => ?_) (fun q_ => ?_) <;> try simp only [Int.toNat_natCast, Nat.mul_one, Nat.add_zero] at q_))
    · refine EntR.bool (decide_eq_false fun e => ?_).symm
      rw [e] at q_
      simp at q_
    · exact ⟨k + 1, ⟨by omega, next_of hd (Prod.ext q_.1 q_.2.1)⟩, (by show _ - (k + 1) < _ - k; omega), StLe.ren [0] tmS ⟨⟨rfl, EntL.refl _, rfl⟩, trivial⟩ (by decide)⟩
  · repeat' (first | refine gl ?_ | (refine br (fun q_ => ?_) (fun q_ => ?_) <;> try simp only [Int.toNat_natCast, Nat.mul_one, Nat.add_zero] at q_) | (refine brF (fun q_ => ?_) (fun q_ => ?_) <;> try simp only [Int.toNat_natCast, Nat.mul_one, Nat.add_zero] at q_))
    exact EntR.bool (decide_eq_true (eq_of_getD hle fun j hj => hd j (by omega))).symm
def setOfI (s : ByteArray) : Int := if eqB s ⟨#[101, 120, 99, 108, 117, 115, 105, 111, 110, 115]⟩ = true then 0 else if eqB s ⟨#[99, 97, 115, 101, 100]⟩ = true then 1 else if eqB s ⟨#[105, 103, 110, 111, 114, 97, 98, 108, 101]⟩ = true then 2 else if eqB s ⟨#[115, 116, 97, 114, 116]⟩ = true then 3 else if eqB s ⟨#[99, 111, 110, 116, 105, 110, 117, 101]⟩ = true then 4 else if eqB s ⟨#[109, 101, 100, 105, 97, 108]⟩ = true then 5 else -1
def ctSetOf : Ct := { ι := ByteArray, inp := fun s => [.v (.string s)], out := fun s => .v (.int .i64 (setOfI s)), pre := fun _ => True }
def ctPart2 : Ct := { ι := Int, inp := fun n => [.v (.int .i64 n)], out := fun n => .v (.bool (decide (0 ≤ n ∧ n ≤ 9999))), pre := fun _ => True }
noncomputable def ctFileE : Ct := { ι := Db × Int, inp := fun x => [dbA x.1, .v (.int .i64 x.2)], out := fun x => .v (.int .i64 (fileE x.1 x.2.toNat)), pre := fun x => SmD x.1 ∧ 0 ≤ x.2 ∧ x.2 < 21 }
noncomputable def Γfe : Ctx := fun f => match f with
  | 102 => some (.pure ctFiles)
  | 99 => some (.pure ctPropI)
  | 101 => some (.pure ctSetI)
  | 103 => some (.pure ctMapI)
  | 88 => some (.pure ctPV)
  | _ => none
theorem Γfe_ok : CtxOk Tryz.prog (GlT mx pb) Γfe := by
  intro f h hh
  simp only [Γfe] at hh
  split at hh <;> simp at hh <;> subst hh
  · exact rFiles_ok
  · exact rProp_ok
  · exact rSet_ok
  · exact rMapI_ok
  · exact rPValid_ok
noncomputable def Γck : Ctx := fun f => match f with
  | 102 => some (.pure ctFiles)
  | _ => none
theorem Γck_ok : CtxOk Tryz.prog (GlT mx pb) Γck := by
  intro f h hh
  simp only [Γck] at hh
  split at hh <;> simp at hh <;> subst hh
  · exact rFiles_ok
end Go.Proofs
