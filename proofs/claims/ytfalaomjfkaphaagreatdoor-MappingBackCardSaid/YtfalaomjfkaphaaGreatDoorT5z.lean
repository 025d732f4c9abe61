import Derived.Test.YtfalaomjfkaphaaGreatDoorT3
import Derived.Test.YtfalaomjfkaphaaGreatDoorMz
set_option linter.unusedVariables false
set_option linter.unusedSimpArgs false
namespace Go.Proofs
open Go Go.Sx
variable {mx : Int} {pb : Bool}

/-! a row's field -/
def tagS (m : Mp) : ByteArray := if emB m.tag = true then ⟨#[]⟩ else bcat (bcat ⟨#[60]⟩ m.tag) ⟨#[62]⟩
def fieldS (m : Mp) : ByteArray := if emB m.tag = true then codesS m.to else bcat (tagS m) (if emB (codesS m.to) = true then codesS m.to else bcat spB (codesS m.to))
def ctField : Ct := { ι := Mp, inp := fun m => [mpA m], out := fun m => .v (.string (fieldS m)), pre := fun m => allV m.to = true ∧ m.to.length ≤ 100000 ∧ m.tag.size ≤ 1000000 }
def Γte : Ctx := fun f => match f with
  | 76 => some (.pure ctCodesT)
  | _ => none
theorem Γte_ok : CtxOk Tryz.prog (GlT mx pb) Γte := by
  intro f h hh
  simp only [Γte] at hh
  split at hh <;> simp at hh <;> subst hh
  exact r5Codes_ok
set_option maxHeartbeats 1000000 in
/-- The reference's Field. -/
theorem field_ok : Sound Tryz.prog (GlT mx pb) 42 ctField := by
  refine sound_by (cc := true) Γte_ok Tryz.T_ok Tryz.mixed Tryz.func42 rfl (by kernel_rfl) (fun _ => rfl) (fun _ _ => by show 1 ≤ 25; decide) ?_
  rintro (m : Mp) ⟨hv, hl, ht⟩
  have hv : allV m.to = true := hv
  have hl : m.to.length ≤ 100000 := hl
  have ht : m.tag.size ≤ 1000000 := ht
  have hs : (codesS m.to).size ≤ 7 * m.to.length := codesK_size _ _
  refine gA ?_
  refine ⟨m.to, EntL.refl _, hl, ?_⟩
  rw [show ctCodesT.out m.to = .tu [.v (.string (codesS m.to)), .v (.int .i64 0)] from if_pos hv]
  refine gA ?_
  rcases Bool.eq_false_or_eq_true (emB m.tag) with h1 | h1
  · refine And.intro (fun _ => ?_) (fun h => absurd (h1.symm.trans h) (by decide))
    refine gA ?_
    refine EntR.str ?_
    rw [fieldS, if_pos h1]
  · refine And.intro (fun h => absurd (h1.symm.trans h) (by decide)) (fun _ => ?_)
    refine gA ?_
    rcases Bool.eq_false_or_eq_true (emB (codesS m.to)) with h2 | h2
    · refine wgF (show (!emB (codesS m.to)) = false by rw [h2]; rfl) ?_
      refine gA ?_
      refine And.intro (show 1 + m.tag.size ≤ 9223372036854775807 by omega) ?_
      refine gA ?_
      refine And.intro (show (bcat ⟨#[60]⟩ m.tag).size + 1 ≤ 9223372036854775807 by rw [bcat_size, show (⟨#[60]⟩ : ByteArray).size = 1 from rfl]; omega) ?_
      refine gA ?_
      refine And.intro (show (bcat (bcat ⟨#[60]⟩ m.tag) ⟨#[62]⟩).size + (codesS m.to).size ≤ 9223372036854775807 by rw [bcat_size, bcat_size, show (⟨#[60]⟩ : ByteArray).size = 1 from rfl, show (⟨#[62]⟩ : ByteArray).size = 1 from rfl]; omega) ?_
      refine gA ?_
      refine EntR.str ?_
      rw [fieldS, if_neg (by rw [h1]; decide), tagS, if_neg (by rw [h1]; decide), if_pos h2]
    · refine wgT (show (!emB (codesS m.to)) = true by rw [h2]; rfl) ?_
      refine gA ?_
      refine And.intro (show 1 + (codesS m.to).size ≤ 9223372036854775807 by omega) ?_
      refine gA ?_
      refine And.intro (show 1 + m.tag.size ≤ 9223372036854775807 by omega) ?_
      refine gA ?_
      refine And.intro (show (bcat ⟨#[60]⟩ m.tag).size + 1 ≤ 9223372036854775807 by rw [bcat_size, show (⟨#[60]⟩ : ByteArray).size = 1 from rfl]; omega) ?_
      refine gA ?_
      refine And.intro (show (bcat (bcat ⟨#[60]⟩ m.tag) ⟨#[62]⟩).size + (bcat spB (codesS m.to)).size ≤ 9223372036854775807 by rw [bcat_size, bcat_size, bcat_size, show (⟨#[60]⟩ : ByteArray).size = 1 from rfl, show (⟨#[62]⟩ : ByteArray).size = 1 from rfl, show spB.size = 1 from rfl]; omega) ?_
      refine gA ?_
      refine EntR.str ?_
      rw [fieldS, if_neg (by rw [h1]; decide), tagS, if_neg (by rw [h1]; decide), if_neg (by rw [h2]; decide)]
      rfl
end Go.Proofs

namespace Go.Proofs
open Go Go.Sx
variable {mx : Int} {pb : Bool}

/-! the text of a list of mappings -/
def mtK (l : List Mp) : Nat → ByteArray
  | 0 => ⟨#[]⟩
  | k + 1 => bcat (bcat (bcat (bcat (mtK l k) (hexS (l.getD k default).frm)) smB) (fieldS (l.getD k default))) nlB
noncomputable def mtD (l : List Mp) : D := if checkE l = 0 then .tu [.v (.string (mtK l l.length)), .v (.int .i64 0)] else .tu [.v (.string ⟨#[]⟩), .v (.int .i64 (checkE l))]
theorem mtD_pd (l : List Mp) : pd (mtD l) = true := by unfold mtD; split <;> rfl
noncomputable def ctMt : Ct := { ι := List Mp, inp := fun l => [mpsD l], out := mtD, pre := fun l => smallB l = true }
theorem fieldS_size (m : Mp) : (fieldS m).size ≤ m.tag.size + 7 * m.to.length + 3 := by
  have hs : (codesS m.to).size ≤ 7 * m.to.length := codesK_size _ _
  have h1 : spB.size = 1 := rfl
  have h2 : (⟨#[60]⟩ : ByteArray).size = 1 := rfl
  have h3 : (⟨#[62]⟩ : ByteArray).size = 1 := rfl
  unfold fieldS tagS
  split
  · omega
  · split <;> simp only [bcat_size, h1, h2, h3] <;> omega
theorem mtK_size {l : List Mp} (h : ∀ k, k < l.length → (l.getD k default).to.length ≤ 65 ∧ (l.getD k default).tag.size ≤ 40) : ∀ k, k ≤ l.length → (mtK l k).size ≤ 1000 * k
  | 0, _ => by simp [mtK, ByteArray.size]
  | k + 1, hk => by
    have h1 := mtK_size h k (by omega)
    have h2 := hexS_size (l.getD k default).frm
    have h3 := fieldS_size (l.getD k default)
    have h4 := h k (by omega)
    have h5 : smB.size = 2 := rfl
    have h6 : nlB.size = 1 := rfl
    simp only [mtK, bcat_size, h5, h6]
    omega
def Γtf : Ctx := fun f => match f with
  | 82 => some (.pure ctHex)
  | 42 => some (.pure ctField)
  | _ => none
theorem Γtf_ok : CtxOk Tryz.prog (GlT mx pb) Γtf := by
  intro f h hh
  simp only [Γtf] at hh
  split at hh <;> simp at hh <;> subst hh
  · exact rHex_ok
  · exact field_ok
end Go.Proofs
