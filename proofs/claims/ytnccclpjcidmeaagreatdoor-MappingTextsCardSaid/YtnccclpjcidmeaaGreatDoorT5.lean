import Derived.Test.YtnccclpjcidmeaaGreatDoorT4
import Derived.Test.YtnccclpjcidmeaaGreatDoorM3
namespace Go.Proofs
open Go Go.Sx
variable {mx : Int}

/-! the text of a list of mappings -/
def smB : ByteArray := ⟨#[59, 32]⟩
def nlB : ByteArray := ⟨#[10]⟩
def mtK (l : List Mp) : Nat → ByteArray
  | 0 => ⟨#[]⟩
  | k + 1 => bcat (bcat (bcat (bcat (mtK l k) (hexS (l.getD k default).frm)) smB) (fieldS (l.getD k default))) nlB
noncomputable def mtD (l : List Mp) : D := if checkE l = 0 then .tu [.v (.string (mtK l l.length)), .v (.int .i64 0)] else .tu [.v (.string ⟨#[]⟩), .v (.int .i64 (checkE l))]
theorem mtD_pd (l : List Mp) : pd (mtD l) = true := by unfold mtD; split <;> rfl
noncomputable def ctMt : Ct := { ι := List Mp, inp := fun l => [mpsD l], out := mtD, pre := fun l => smallB l = true }
theorem fieldS_size (m : Mp) : (fieldS m).size ≤ m.tag.size + 7 * m.to.length + 3 := by
  have hs : (codesS m.to).size ≤ 7 * m.to.length := codesK_size _ _
  have h1 : spB.size = 1 := rfl
  have h2 : (⟨#[60]⟩ : ByteArray).size = 1 := rfl
  have h3 : (⟨#[62]⟩ : ByteArray).size = 1 := rfl
  unfold fieldS tagS
  split
  · omega
  · split <;> simp only [bcat_size, h1, h2, h3] <;> omega
theorem mtK_size {l : List Mp} (h : ∀ k, k < l.length → (l.getD k default).to.length ≤ 65 ∧ (l.getD k default).tag.size ≤ 40) : ∀ k, k ≤ l.length → (mtK l k).size ≤ 1000 * k
  | 0, _ => by simp [mtK, ByteArray.size]
  | k + 1, hk => by
    have h1 := mtK_size h k (by omega)
    have h2 := hexS_size (l.getD k default).frm
    have h3 := fieldS_size (l.getD k default)
    have h4 := h k (by omega)
    have h5 : smB.size = 2 := rfl
    have h6 : nlB.size = 1 := rfl
    simp only [mtK, bcat_size, h5, h6]
    omega
theorem check_codes {l : List Mp} (h : checkE l = 0) : partsE l = 0 := by
  unfold checkE at h
  cases e : partsE l == 0
  · rw [e] at h; simpa using h
  · simpa using e
theorem parts_codes {l : List Mp} (h : partsE l = 0) : l.all codesB = true ∧ l.all sizeB = true ∧ l.all tagB = true := by
  unfold partsE at h
  cases h1 : l.all codesB <;> cases h2 : l.all sizeB <;> cases h3 : l.all tagB <;> simp_all
theorem all_at {p : Mp → Bool} {l : List Mp} (h : l.all p = true) {k : Nat} (hk : k < l.length) : p (l.getD k default) = true := by
  have e : l.getD k default = l[k] := by simp [List.getD_eq_getElem?_getD, hk]
  rw [e]
  exact List.all_eq_true.1 h _ (List.getElem_mem hk)
def Γtf : Ctx := fun f => match f with
  | 43 => some (.pure ctHex)
  | 44 => some (.pure ctField)
  | _ => none
theorem Γtf_ok : CtxOk Tryz.prog (GlT mx) Γtf := by
  intro f h hh
  simp only [Γtf] at hh
  split at hh <;> simp at hh <;> subst hh
  · exact rHex_ok
  · exact field_ok
end Go.Proofs
