import Derived.Test.YtnegdnbodccgkaaGreatDoorQ5
set_option linter.unusedVariables false
set_option linter.unusedSimpArgs false
namespace Go.Proofs
open Go Go.Sx
variable {mx : Int} {pb : Bool}

/-! Name of both -/
theorem valL_in {n : Nat} (hn : 1 ≤ n) : ∀ {l : List Sp}, (∀ s ∈ l, spIn n s) → ∀ c, 0 ≤ valL l c ∧ valL l c < n := by
  intro l h c
  unfold valL
  split
  · rename_i s hs
    have := h s (List.mem_of_find?_eq_some hs)
    unfold spIn at this
    omega
  · omega
theorem cnt_names (p : Pr) : 1 ≤ (cntP p).names.length := by
  rcases Bool.eq_false_or_eq_true (validP p) with h | h
  · have hp : prOk p := @of_decide_eq_true _ (Classical.propDecidable _) h
    rw [cntP_t h]
    have h1 := hp.1
    simp only [namesB, Bool.and_eq_true, decide_eq_true_eq] at h1
    exact h1.1.1
  · rw [cntP_f h]; decide
theorem getV_in (p : Pr) (c : Int) : 0 ≤ getV p c ∧ getV p c < (cntP p).names.length := by
  refine valL_in (cnt_names p) (fun s hs => ?_) c
  obtain ⟨i, hi, rfl⟩ := List.getElem_of_mem hs
  have h := (cnt_ok2 p i hi).1
  have e : (cntP p).spans.getD i default = (cntP p).spans[i] := by simp [List.getD_eq_getElem?_getD, hi]
  rw [e] at h
  exact h
noncomputable def nameV (p : Pr) (c : Int) : ByteArray := (cntP p).names.getD (getV p c).toNat default
noncomputable def ctPName : Ct := { ι := Pr × Int, inp := fun x => [prA x.1, .v (.int .i64 x.2)], out := fun x => .v (.string (nameV x.1 x.2)), pre := fun x => x.1.spans.length ≤ 1000000000 }
noncomputable def Γnv : Ctx := fun f => match f with
  | 80 => some (.pure ctCnt)
  | 40 => some (.pure ctGet)
  | _ => none
theorem Γnv_ok : CtxOk Tryz.prog (GlT mx pb) Γnv := by
  intro f h hh
  simp only [Γnv] at hh
  split at hh <;> simp at hh <;> subst hh
  · exact pCnt_ok
  · exact pGet_ok
set_option maxHeartbeats 1000000 in
theorem pNameV_ok : Sound Tryz.prog (GlT mx pb) 68 ctPName := by
  refine sound_by (cc := true) Γnv_ok Tryz.T_ok Tryz.mixed Tryz.func68 rfl (by kernel_rfl) (fun _ => rfl) (fun _ _ => by show 2 ≤ 13; decide) ?_
  rintro ⟨p, c⟩ hp
  have p1 : ctCnt.pre p := hp
  have p2 : ctGet.pre (p, c) := hp
  have hg := getV_in p c
  repeat' (first | refine gw ?_ | (refine br (fun q_ => ?_) (fun q_ => ?_) <;> try simp only [Int.toNat_natCast, Nat.mul_one, Nat.add_zero] at q_) | (refine brF (fun q_ => ?_) (fun q_ => ?_) <;> try simp only [Int.toNat_natCast, Nat.mul_one, Nat.add_zero] at q_))
  exact EntR.str rfl
/-! Find of both -/
def fndI (l : List ByteArray) (n : ByteArray) : Option Nat := (List.range l.length).find? fun i => eqB (l.getD i default) n
def fndV (l : List ByteArray) (n : ByteArray) : Int := match fndI l n with | some i => i | none => 0
def fndB (l : List ByteArray) (n : ByteArray) : Bool := (fndI l n).isSome
theorem fnd_at {l : List ByteArray} {n : ByteArray} {k : Nat} (hk : k < l.length) (hn : ∀ j, j < k → ¬ l.getD j default = n) (h : l.getD k default = n) : fndI l n = some k := by
  unfold fndI
  rw [List.find?_range_eq_some]
  refine ⟨eqB_iff.2 h, List.mem_range.2 hk, fun j hj => ?_⟩
  rw [show eqB (l.getD j default) n = false from by rw [← Bool.not_eq_true, eqB_iff]; exact hn j hj]
  rfl
theorem fnd_no {l : List ByteArray} {n : ByteArray} (hn : ∀ j, j < l.length → ¬ l.getD j default = n) : fndI l n = none := by
  unfold fndI
  rw [List.find?_eq_none]
  intro j hj
  rw [eqB_iff]
  exact hn j (List.mem_range.1 hj)
noncomputable def ctFnd : Ct := { ι := Pr × ByteArray, inp := fun x => [prA x.1, .v (.string x.2)], out := fun x => .tu [.v (.int .i64 (fndV (cntP x.1).names x.2)), .v (.bool (fndB (cntP x.1).names x.2))], pre := fun x => x.1.spans.length ≤ 1000000000 }
theorem cnt_len250 (p : Pr) : (cntP p).names.length ≤ 250 := by
  rcases Bool.eq_false_or_eq_true (validP p) with h | h
  · have hp : prOk p := @of_decide_eq_true _ (Classical.propDecidable _) h
    rw [cntP_t h]
    have h1 := hp.1
    simp only [namesB, Bool.and_eq_true, decide_eq_true_eq] at h1
    exact h1.1.2
  · rw [cntP_f h]; decide
end Go.Proofs
