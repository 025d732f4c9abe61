import Derived.Test.YtnegdnbodccgkaaGreatDoorQ4
set_option linter.unusedVariables false
set_option linter.unusedSimpArgs false
namespace Go.Proofs
open Go Go.Sx
variable {mx : Int} {pb : Bool}

/-! property.Get -/
theorem cnt_ok2 (p : Pr) : ∀ i, i < (cntP p).spans.length → spOk (cntP p) i := by
  intro i hi
  rcases Bool.eq_false_or_eq_true (validP p) with h | h
  · have hp : prOk p := @of_decide_eq_true _ (Classical.propDecidable _) h
    rw [cntP_t h] at hi ⊢
    exact hp.2 i hi
  · rw [cntP_f h] at hi
    simp at hi
theorem asc_of {p : Pr} (h : ∀ i, i < p.spans.length → spOk p i) : ∀ {d x : Nat}, x + d + 1 < p.spans.length → (p.spans.getD x default).hi < (p.spans.getD (x + d + 1) default).lo ∧ (p.spans.getD x default).hi ≤ (p.spans.getD (x + d + 1) default).hi
  | 0, x, hx => by
    have h1 := (h (x + 1) hx).2 (by omega)
    have h2 := (h (x + 1) hx).1
    unfold spAft at h1
    unfold spIn at h2
    simp only [Nat.add_sub_cancel] at h1
    simp only [Nat.add_zero]
    omega
  | d + 1, x, hx => by
    have ih := asc_of h (d := d) (x := x) (by omega)
    have h1 := (h (x + (d + 1) + 1) hx).2 (by omega)
    have h2 := (h (x + (d + 1) + 1) hx).1
    unfold spAft at h1
    unfold spIn at h2
    simp only [Nat.add_sub_cancel] at h1
    rw [show x + d + 1 = x + (d + 1) from by omega] at ih
    omega
theorem asc_lt {p : Pr} (h : ∀ i, i < p.spans.length → spOk p i) {x y : Nat} (hxy : x < y) (hy : y < p.spans.length) : (p.spans.getD x default).hi < (p.spans.getD y default).lo ∧ (p.spans.getD x default).hi ≤ (p.spans.getD y default).hi := by
  have := asc_of h (d := y - x - 1) (x := x) (by omega)
  rw [show x + (y - x - 1) + 1 = y from by omega] at this
  exact this
theorem StLe.m3 {tm tm' : List (Nat × D)} {ow ow' : List Own} (h1 : renT [0, 1, 2] tm tm') (h2 : renO [0, 1, 2] ow [0, 1, 2] ow') : StLe 3 ⟨tm, ow, []⟩ ⟨tm', ow', []⟩ :=
  StLe.renm [0, 1, 2] h1 h2 (by decide) (by decide) (by simp)
theorem wrap_id64 {n : Int} (h0 : 0 ≤ n) (h1 : n < 9223372036854775808) : IntKind.i64.wrap n = n ∧ IntKind.u64.wrap n = n := by
  have e1 : n % (2 ^ 64 : Int) = n := Int.emod_eq_of_lt h0 (by omega)
  constructor
  · show (if (true && decide (n % (2 ^ 64 : Int) ≥ (2 ^ 63 : Int))) = true then n % (2 ^ 64 : Int) - (2 ^ 64 : Int) else n % (2 ^ 64 : Int)) = n
    rw [e1, if_neg (by simp; omega)]
  · show (if (false && decide (n % (2 ^ 64 : Int) ≥ (2 ^ 63 : Int))) = true then n % (2 ^ 64 : Int) - (2 ^ 64 : Int) else n % (2 ^ 64 : Int)) = n
    rw [e1]
    rfl
theorem half_eq {i j : Nat} (h : i + j ≤ 4000000000) : IntKind.i64.wrap ((IntKind.u64.wrap ((i : Int) + (j : Int))).fdiv (2 ^ min (Int.toNat 1) IntKind.u64.bits)) = (((i + j) / 2 : Nat) : Int) := by
  rw [(wrap_id64 (n := (i : Int) + j) (by omega) (by omega)).2, show ((2 : Int) ^ min (Int.toNat 1) IntKind.u64.bits) = 2 from rfl, Int.fdiv_eq_ediv_of_nonneg _ (by decide), (wrap_id64 (n := ((i : Int) + j) / 2) (by omega) (by omega)).1]
  omega
noncomputable def cSearch : Code := (Tryz.f96.body).getD .skip
noncomputable def cGet1 : Code := (Tryz.f97.body).getD .skip
noncomputable def Γg1 (mx : Int) (pb : Bool) : Ctx := fun f => match f with
  | 97 => some (.gen (inlW true Γ0 Tryz.T (GlT mx pb) Tryz.f97 cGet1))
  | _ => none
theorem Γg1_ok : CtxOk Tryz.prog (GlT mx pb) (Γg1 mx pb) := by
  intro f h hh
  simp only [Γg1] at hh
  split at hh <;> simp at hh <;> subst hh
  · exact soundT_inlW Γ0_ok Tryz.T_ok Tryz.mixed Tryz.func97 rfl (by kernel_rfl)
noncomputable def Γpg (mx : Int) (pb : Bool) : Ctx := fun f => match f with
  | 80 => some (.pure ctCnt)
  | 96 => some (.gen (inlW true (Γg1 mx pb) Tryz.T (GlT mx pb) Tryz.f96 cSearch))
  | _ => none
theorem Γpg_ok : CtxOk Tryz.prog (GlT mx pb) (Γpg mx pb) := by
  intro f h hh
  simp only [Γpg] at hh
  split at hh <;> simp at hh <;> subst hh
  · exact pCnt_ok
  · exact soundT_inlW Γg1_ok Tryz.T_ok Tryz.mixed Tryz.func96 rfl (by kernel_rfl)
set_option maxHeartbeats 4000000 in
theorem pGet_ok : Sound Tryz.prog (GlT mx pb) 40 ctGet := by
  refine sound_by (cc := true) Γpg_ok Tryz.T_ok Tryz.mixed Tryz.func40 rfl (by kernel_rfl) (fun _ => rfl) (fun _ _ => by show 2 ≤ 32; decide) ?_
  rintro ⟨p, c⟩ hp
  have p1 : ctCnt.pre p := hp
  have hp : p.spans.length ≤ 1000000000 := hp
  have hl := cntP_len p
  have hasc := @asc_lt (cntP p) (cnt_ok2 p)
  repeat' (first | refine gw ?_ | (refine br (fun q_ => ?_) (fun q_ => ?_) <;> try simp only [Int.toNat_natCast, Nat.mul_one, Nat.add_zero] at q_) | (refine brF (fun q_ => ?_) (fun q_ => ?_) <;> try simp only [Int.toNat_natCast, Nat.mul_one, Nat.add_zero] at q_))
  refine ⟨0, Nat × Nat, fun | (i, j) => ⟨[(1, .fn 97 [.own 2 0, .own 1 0]), (5, .v (.int .i64 i)), (6, .v (.int .i64 j))], [.cells 27 [slD 1 strD p.names, spsD p.spans], .cells 3 [.v (.int .i64 c)], .cells 25 [spsD (cntP p).spans]], []⟩, fun | (i, j) => i ≤ j ∧ j ≤ (cntP p).spans.length ∧ (∀ x, x < i → ((cntP p).spans.getD x default).hi < c) ∧ (∀ x, j ≤ x → x < (cntP p).spans.length → c ≤ ((cntP p).spans.getD x default).hi), fun x => x.2 - x.1, fun _ => (by show 3 ≤ 3; decide), ⟨(0, (cntP p).spans.length), ⟨Nat.zero_le _, Nat.le_refl _, fun x hx => by omega, fun x h1 h2 => by omega⟩, StLe.m3 tmS ⟨⟨rfl, EntL.refl _, rfl⟩, ⟨rfl, EntL.refl _, rfl⟩, ⟨rfl, EntL.refl _, rfl⟩, trivial⟩⟩, ?_⟩
  rintro ⟨i, j⟩ ⟨hij, hjn, hlo, hhi⟩
  by_cases hlt : i < j
  · repeat' (first | refine gw ?_ | (refine br (fun q_ => ?_) (fun q_ => ?_) <;> try simp only [Int.toNat_natCast, Nat.mul_one, Nat.add_zero] at q_) | (refine brF (fun q_ => ?_) (fun q_ => ?_) <;> try simp only [Int.toNat_natCast, Nat.mul_one, Nat.add_zero] at q_))
    rw [half_eq (by omega)]
    repeat' (first | refine gw ?_ | (refine br (fun q_ => ?_) (fun q_ => ?_) <;> try simp only [Int.toNat_natCast, Nat.mul_one, Nat.add_zero] at q_) | (refine brF (fun q_ => ?_) (fun q_ => ?_) <;> try simp only [Int.toNat_natCast, Nat.mul_one, Nat.add_zero] at q_))
    · refine ⟨((i + j) / 2 + 1, j), ⟨by omega, hjn, fun x hx => ?_, hhi⟩, (by show j - ((i + j) / 2 + 1) < j - i; omega), StLe.m3 tmS ⟨⟨rfl, EntL.refl _, rfl⟩, ⟨rfl, EntL.refl _, rfl⟩, ⟨rfl, EntL.refl _, rfl⟩, trivial⟩⟩
      rcases Nat.lt_or_ge x ((i + j) / 2) with h1 | h1
      · have := (hasc h1 (by omega)).2
        omega
      · have : x = (i + j) / 2 := by omega
        rw [this]
        omega
    · refine ⟨(i, (i + j) / 2), ⟨by omega, by omega, hlo, fun x h1 h2 => ?_⟩, (by show (i + j) / 2 - i < j - i; omega), StLe.m3 tmS ⟨⟨rfl, EntL.refl _, rfl⟩, ⟨rfl, EntL.refl _, rfl⟩, ⟨rfl, EntL.refl _, rfl⟩, trivial⟩⟩
      rcases Nat.lt_or_ge ((i + j) / 2) x with h3 | h3
      · have := (hasc h3 h2).2
        omega
      · have : x = (i + j) / 2 := by omega
        rw [this]
        omega
  · have hie : i = j := by omega
    have hno : ∀ x, x < i → ¬ (((cntP p).spans.getD x default).lo ≤ c ∧ c ≤ ((cntP p).spans.getD x default).hi) := fun x hx h => by have := hlo x hx; omega
    repeat' (first | refine gw ?_ | (refine br (fun q_ => ?_) (fun q_ => ?_) <;> try simp only [Int.toNat_natCast, Nat.mul_one, Nat.add_zero] at q_) | (refine brF (fun q_ => ?_) (fun q_ => ?_) <;> try simp only [Int.toNat_natCast, Nat.mul_one, Nat.add_zero] at q_))
    · have hil : i < (cntP p).spans.length := by rename_i h; omega
      have := hhi i (by omega) hil
      exact EntR.int (valL_at hil hno ⟨q_, this⟩).symm
    · have hil : i < (cntP p).spans.length := by rename_i h; omega
      refine EntR.int (Eq.symm (show valL (cntP p).spans c = 0 from valL_no (fun x hx h => ?_)))
      rcases Nat.lt_trichotomy x i with h1 | h1 | h1
      · exact hno x h1 h
      · subst h1; exact q_ h.1
      · have h2 := (hasc h1 hx).1
        have h3 := hhi i (by omega) hil
        have h4 := (cnt_ok2 p i hil).1
        unfold spIn at h4
        omega
    · have hil : ¬ i < (cntP p).spans.length := by omega
      exact EntR.int (Eq.symm (show valL (cntP p).spans c = 0 from valL_no (fun x hx h => hno x (by omega) h)))
end Go.Proofs
