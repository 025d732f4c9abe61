import Derived.Test.YthfdmbmjjejbbaaGreatDoorCm1
import Derived.Test.YthfdmbmjjejbbaaGreatDoorCm2
import Derived.Test.YthfdmbmjjejbbaaGreatDoorCm3
set_option linter.unusedVariables false
set_option linter.unusedSimpArgs false
namespace Go.Proofs
open Go Go.Sx
variable {mx : Int} {pb : Bool}

/-! cpset.Or, And, Minus, Not -/
def ctOrP : Ct := { ι := List Rg × List Rg, inp := fun x => [setD x.1, setD x.2], out := fun x => setD (combL x.1 x.2 1), pre := fun x => mkOk x.1 ∧ x.1.length ≤ 10000 ∧ mkOk x.2 ∧ x.2.length ≤ 10000 }
def ctAndP : Ct := { ι := List Rg × List Rg, inp := fun x => [setD x.1, setD x.2], out := fun x => setD (combL x.1 x.2 2), pre := fun x => mkOk x.1 ∧ x.1.length ≤ 10000 ∧ mkOk x.2 ∧ x.2.length ≤ 10000 }
def ctMinP : Ct := { ι := List Rg × List Rg, inp := fun x => [setD x.1, setD x.2], out := fun x => setD (combL x.1 x.2 3), pre := fun x => mkOk x.1 ∧ x.1.length ≤ 10000 ∧ mkOk x.2 ∧ x.2.length ≤ 10000 }
def ctNotP : Ct := { ι := List Rg, inp := fun a => [setD a], out := fun a => setD (combL [(0, 1114111)] a 3), pre := fun a => mkOk a ∧ a.length ≤ 10000 }
noncomputable def Γor (mx : Int) (pb : Bool) : Ctx := fun f => match f with
  | 196 => some (.pure ctCmb1)
  | _ => none
theorem Γor_ok : CtxOk Tryz.prog (GlT mx pb) (Γor mx pb) := by
  intro f h hh
  simp only [Γor] at hh
  split at hh <;> simp at hh <;> subst hh
  · exact cmb1_ok
noncomputable def Γand (mx : Int) (pb : Bool) : Ctx := fun f => match f with
  | 196 => some (.pure ctCmb2)
  | _ => none
theorem Γand_ok : CtxOk Tryz.prog (GlT mx pb) (Γand mx pb) := by
  intro f h hh
  simp only [Γand] at hh
  split at hh <;> simp at hh <;> subst hh
  · exact cmb2_ok
noncomputable def Γmin (mx : Int) (pb : Bool) : Ctx := fun f => match f with
  | 196 => some (.pure ctCmb3)
  | _ => none
theorem Γmin_ok : CtxOk Tryz.prog (GlT mx pb) (Γmin mx pb) := by
  intro f h hh
  simp only [Γmin] at hh
  split at hh <;> simp at hh <;> subst hh
  · exact cmb3_ok
noncomputable def Γnot (mx : Int) (pb : Bool) : Ctx := fun f => match f with
  | 196 => some (.pure ctCmbN)
  | _ => none
theorem Γnot_ok : CtxOk Tryz.prog (GlT mx pb) (Γnot mx pb) := by
  intro f h hh
  simp only [Γnot] at hh
  split at hh <;> simp at hh <;> subst hh
  · exact cmbN_ok
set_option maxHeartbeats 1000000 in
theorem orP_ok : Sound Tryz.prog (GlT mx pb) 191 ctOrP := by
  refine sound_by (cc := true) Γor_ok Tryz.T_ok Tryz.mixed Tryz.func191 rfl (by kernel_rfl) (fun _ => rfl) (fun _ _ => by show 2 ≤ 8; decide) ?_
  rintro ⟨(a : List Rg), (b : List Rg)⟩ hp
  repeat' (first | refine gl ?_ | (refine br (fun q_ => ?_) (fun q_ => ?_) <;> try simp only [Int.toNat_natCast, Nat.mul_one, Nat.add_zero] at q_) | (refine brF (fun q_ => ?_) (fun q_ => ?_) <;> try simp only [Int.toNat_natCast, Nat.mul_one, Nat.add_zero] at q_))
  exact EntR.of rfl (Ent.refl _)
set_option maxHeartbeats 1000000 in
theorem andP_ok : Sound Tryz.prog (GlT mx pb) 190 ctAndP := by
  refine sound_by (cc := true) Γand_ok Tryz.T_ok Tryz.mixed Tryz.func190 rfl (by kernel_rfl) (fun _ => rfl) (fun _ _ => by show 2 ≤ 8; decide) ?_
  rintro ⟨(a : List Rg), (b : List Rg)⟩ hp
  repeat' (first | refine gl ?_ | (refine br (fun q_ => ?_) (fun q_ => ?_) <;> try simp only [Int.toNat_natCast, Nat.mul_one, Nat.add_zero] at q_) | (refine brF (fun q_ => ?_) (fun q_ => ?_) <;> try simp only [Int.toNat_natCast, Nat.mul_one, Nat.add_zero] at q_))
  exact EntR.of rfl (Ent.refl _)
set_option maxHeartbeats 1000000 in
theorem minP_ok : Sound Tryz.prog (GlT mx pb) 193 ctMinP := by
  refine sound_by (cc := true) Γmin_ok Tryz.T_ok Tryz.mixed Tryz.func193 rfl (by kernel_rfl) (fun _ => rfl) (fun _ _ => by show 2 ≤ 8; decide) ?_
  rintro ⟨(a : List Rg), (b : List Rg)⟩ hp
  repeat' (first | refine gl ?_ | (refine br (fun q_ => ?_) (fun q_ => ?_) <;> try simp only [Int.toNat_natCast, Nat.mul_one, Nat.add_zero] at q_) | (refine brF (fun q_ => ?_) (fun q_ => ?_) <;> try simp only [Int.toNat_natCast, Nat.mul_one, Nat.add_zero] at q_))
  exact EntR.of rfl (Ent.refl _)
set_option maxHeartbeats 1000000 in
theorem notP_ok : Sound Tryz.prog (GlT mx pb) 192 ctNotP := by
  refine sound_by (cc := true) Γnot_ok Tryz.T_ok Tryz.mixed Tryz.func192 rfl (by kernel_rfl) (fun _ => rfl) (fun _ _ => by show 1 ≤ 6; decide) ?_
  intro (a : List Rg) hp
  repeat' (first | refine gl ?_ | (refine br (fun q_ => ?_) (fun q_ => ?_) <;> try simp only [Int.toNat_natCast, Nat.mul_one, Nat.add_zero] at q_) | (refine brF (fun q_ => ?_) (fun q_ => ?_) <;> try simp only [Int.toNat_natCast, Nat.mul_one, Nat.add_zero] at q_))
  refine ⟨a, EntL.refl _, ⟨hp.1, Nat.le_trans hp.2 (by decide)⟩, ?_⟩
  repeat' (first | refine gl ?_ | (refine br (fun q_ => ?_) (fun q_ => ?_) <;> try simp only [Int.toNat_natCast, Nat.mul_one, Nat.add_zero] at q_) | (refine brF (fun q_ => ?_) (fun q_ => ?_) <;> try simp only [Int.toNat_natCast, Nat.mul_one, Nat.add_zero] at q_))
  exact EntR.of rfl (Ent.refl _)

/-! for runs -/
def rgsF (g : Nat → Nat → D) : Nat → Nat → Option (List Rg)
  | 0, _ => some []
  | n + 1, i => match g i 0, g i 1 with
    | .v (.int .i64 a), .v (.int .i64 b) => (match rgsF g n (i + 1) with | some l => some ((a, b) :: l) | none => none)
    | _, _ => none
theorem rgsF_len {g : Nat → Nat → D} : ∀ {n i : Nat} {l : List Rg}, rgsF g n i = some l → l.length = n
  | 0, i, l, h => by simp [rgsF] at h; subst h; rfl
  | n + 1, i, l, h => by
    simp only [rgsF] at h
    split at h <;> try (simp at h; done)
    split at h <;> try (simp at h; done)
    rename_i l' hl
    simp at h; subst h
    rw [List.length_cons, rgsF_len hl]
theorem rgsF_get {g : Nat → Nat → D} : ∀ {n i : Nat} {l : List Rg}, rgsF g n i = some l → ∀ k, k < n → ∀ j, j < 2 → g (i + k) j = rgD (l.getD k default) j
  | 0, i, l, h, k, hk => by omega
  | n + 1, i, l, h, k, hk => by
    simp only [rgsF] at h
    split at h <;> try (simp at h; done)
    rename_i a b h0 h1
    split at h <;> try (simp at h; done)
    rename_i l' hl
    simp at h; subst h
    match k with
    | 0 =>
      intro j hj
      match j, hj with
      | 0, _ => exact h0
      | 1, _ => exact h1
    | k + 1 =>
      have := rgsF_get hl k (by omega)
      rw [show i + 1 + k = i + (k + 1) from by omega] at this
      exact this
def rgOf : D → Option (List Rg)
  | .sl 2 n g => rgsF g n 0
  | .v (.slice none 0 0) => some []
  | _ => none
theorem rgOf_ent {d : D} {l : List Rg} (h : rgOf d = some l) : Ent d (rgsD l) := by
  unfold rgOf at h
  split at h <;> try (simp at h; done)
  · rename_i n g
    refine Ent.sl (rgsF_len h).symm fun i hi j hj => Ent.of_eq ?_
    have := rgsF_get h i hi j hj
    rw [Nat.zero_add] at this
    exact this
  · simp at h; subst h
    exact Ent.nil
theorem rgOf_pd {d : D} {l : List Rg} (h : rgOf d = some l) : pd d = true := by
  unfold rgOf at h
  split at h <;> first | rfl | simp at h
def setOf : D → Option (List Rg)
  | .ag [d] => rgOf d
  | _ => none
theorem setOf_ent {d : D} {l : List Rg} (h : setOf d = some l) : Ent d (setD l) := by
  unfold setOf at h
  split at h <;> try (simp at h; done)
  exact Ent.ag (EntL.cons (rgOf_ent h) (EntL.refl []))
theorem setOf_pd {d : D} {l : List Rg} (h : setOf d = some l) : pd d = true := by
  unfold setOf at h
  split at h <;> try (simp at h; done)
  simp [pd, pdL, rgOf_pd h]
def opG (op : Int) : List D → Option D
  | [x, y] => match setOf x, setOf y with
    | some a, some b => if decide (a.length ≤ 12) && decide (b.length ≤ 12) then some (setD (combL a b op)) else none
    | _, _ => none
  | _ => none
def notG : List D → Option D
  | [x] => match setOf x with
    | some a => if decide (a.length ≤ 12) then some (setD (combL [(0, 1114111)] a 3)) else none
    | _ => none
  | _ => none
theorem opG_pd {ι : Type} {x y : D} {a b : List Rg} (h : setOf x = some a) (k : setOf y = some b) : ∀ _ : ι, pdL [x, y] = true := fun _ => by simp [pdL, setOf_pd h, setOf_pd k]
theorem notG_pd {ι : Type} {x : D} {a : List Rg} (h : setOf x = some a) : ∀ _ : ι, pdL [x] = true := fun _ => by simp [pdL, setOf_pd h]
theorem mkOk12 {a : List Rg} (h : a.length ≤ 12) : mkOk a ∧ a.length ≤ 10000 := ⟨⟨by omega, .inl h⟩, by omega⟩
end Go.Proofs
