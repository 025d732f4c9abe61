import Derived.Test.YtnegdnbodccgkaaGreatDoorQ3
set_option linter.unusedVariables false
set_option linter.unusedSimpArgs false
namespace Go.Proofs
open Go Go.Sx
variable {mx : Int} {pb : Bool}

/-! what a property counts as -/
def otherB : ByteArray := ⟨#[79, 116, 104, 101, 114]⟩
noncomputable def cntP (p : Pr) : Pr := if validP p = true then p else ⟨[otherB], []⟩
noncomputable def ctCnt : Ct := { ι := Pr, inp := fun p => [prA p], out := fun p => prA (cntP p), pre := fun p => p.spans.length ≤ 1000000000 }
theorem cntP_t {p : Pr} (h : validP p = true) : cntP p = p := if_pos h
theorem cntP_f {p : Pr} (h : validP p = false) : cntP p = ⟨[otherB], []⟩ := if_neg (by rw [h]; decide)
noncomputable def Γcnt : Ctx := fun f => match f with
  | 30 => some (.pure ctPV)
  | 88 => some (.pure ctPV)
  | _ => none
theorem Γcnt_ok : CtxOk Tryz.prog (GlT mx pb) Γcnt := by
  intro f h hh
  simp only [Γcnt] at hh
  split at hh <;> simp at hh <;> subst hh
  · exact pValid_ok
  · exact rPValid_ok
set_option maxHeartbeats 1000000 in
theorem pCnt_ok : Sound Tryz.prog (GlT mx pb) 80 ctCnt := by
  refine sound_by (cc := true) Γcnt_ok Tryz.T_ok Tryz.mixed Tryz.func80 rfl (by kernel_rfl) (fun _ => rfl) (fun _ _ => by show 1 ≤ 8; decide) ?_
  intro (p : Pr) (hp : p.spans.length ≤ 1000000000)
  have p1 : ctPV.pre p := hp
  repeat' (first | refine gw ?_ | (refine br (fun q_ => ?_) (fun q_ => ?_) <;> try simp only [Int.toNat_natCast, Nat.mul_one, Nat.add_zero] at q_) | (refine brF (fun q_ => ?_) (fun q_ => ?_) <;> try simp only [Int.toNat_natCast, Nat.mul_one, Nat.add_zero] at q_))
  · exact entR_eq (show prA p = prA (cntP p) by rw [cntP_t q_]) rfl
  · refine EntR.of rfl ?_
    show Ent _ (prA (cntP p))
    rw [cntP_f q_]
    exact Ent.ag (EntL.cons (ent_sl1 (lt1 (Ent.refl _))) (EntL.cons Ent.nil (EntL.refl _)))
set_option maxHeartbeats 1000000 in
theorem rCnt_ok : Sound Tryz.prog (GlT mx pb) 83 ctCnt := by
  refine sound_by (cc := true) Γcnt_ok Tryz.T_ok Tryz.mixed Tryz.func83 rfl (by kernel_rfl) (fun _ => rfl) (fun _ _ => by show 1 ≤ 9; decide) ?_
  intro (p : Pr) (hp : p.spans.length ≤ 1000000000)
  have p1 : ctPV.pre p := hp
  repeat' (first | refine gw ?_ | (refine br (fun q_ => ?_) (fun q_ => ?_) <;> try simp only [Int.toNat_natCast, Nat.mul_one, Nat.add_zero] at q_) | (refine brF (fun q_ => ?_) (fun q_ => ?_) <;> try simp only [Int.toNat_natCast, Nat.mul_one, Nat.add_zero] at q_))
  · refine EntR.of rfl ?_
    show Ent _ (prA (cntP p))
    rw [cntP_f q_]
    exact Ent.ag (EntL.cons (ent_sl1 (lt1 (Ent.refl _))) (EntL.cons Ent.nil (EntL.refl _)))
  · exact entR_eq (show prA p = prA (cntP p) by rw [cntP_t q_]) rfl
theorem cntP_len (p : Pr) : (cntP p).spans.length ≤ p.spans.length := by
  unfold cntP
  split
  · exact Nat.le_refl _
  · exact Nat.zero_le _
/-- The value of a code point: of the first span that has it. -/
def valL (l : List Sp) (c : Int) : Int := match l.find? (fun s => decide (s.lo ≤ c ∧ c ≤ s.hi)) with | some s => s.val | none => 0
theorem valL_at : ∀ {l : List Sp} {c : Int} {k : Nat}, k < l.length → (∀ j, j < k → ¬ ((l.getD j default).lo ≤ c ∧ c ≤ (l.getD j default).hi)) → (l.getD k default).lo ≤ c ∧ c ≤ (l.getD k default).hi → valL l c = (l.getD k default).val
  | [], _, k, h, _, _ => by simp at h
  | s :: l, c, 0, _, _, h => by
    have h : s.lo ≤ c ∧ c ≤ s.hi := h
    unfold valL
    rw [List.find?_cons, decide_eq_true h]
    rfl
  | s :: l, c, k + 1, hk, hn, h => by
    have h0 : ¬ (s.lo ≤ c ∧ c ≤ s.hi) := hn 0 (by omega)
    have ih := valL_at (l := l) (c := c) (k := k) (by simpa using hk) (fun j hj => hn (j + 1) (by omega)) h
    unfold valL at ih ⊢
    rw [List.find?_cons, decide_eq_false h0]
    exact ih
theorem valL_no : ∀ {l : List Sp} {c : Int}, (∀ j, j < l.length → ¬ ((l.getD j default).lo ≤ c ∧ c ≤ (l.getD j default).hi)) → valL l c = 0
  | [], _, _ => rfl
  | s :: l, c, hn => by
    have h0 : ¬ (s.lo ≤ c ∧ c ≤ s.hi) := hn 0 (by simp)
    have ih := valL_no (l := l) (c := c) (fun j hj => hn (j + 1) (by simpa using hj))
    unfold valL at ih ⊢
    rw [List.find?_cons, decide_eq_false h0]
    exact ih
noncomputable def getV (p : Pr) (c : Int) : Int := valL (cntP p).spans c
noncomputable def ctGet : Ct := { ι := Pr × Int, inp := fun x => [prA x.1, .v (.int .i64 x.2)], out := fun x => .v (.int .i64 (getV x.1 x.2)), pre := fun x => x.1.spans.length ≤ 1000000000 }
end Go.Proofs
