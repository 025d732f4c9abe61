import Derived.Test.YtnccclpjcidmeaaGreatDoorT3
namespace Go.Proofs
open Go Go.Sx
variable {mx : Int}

/-! a row's field -/
def emB (x : ByteArray) : Bool := @decide (x = ⟨#[]⟩) (baDec x ⟨#[]⟩)
def tagS (m : Mp) : ByteArray := if emB m.tag = true then ⟨#[]⟩ else bcat (bcat ⟨#[60]⟩ m.tag) ⟨#[62]⟩
def fieldS (m : Mp) : ByteArray := if emB m.tag = true then codesS m.to else bcat (tagS m) (if emB (codesS m.to) = true then codesS m.to else bcat spB (codesS m.to))
def ctField : Ct := { ι := Mp, inp := fun m => [mpA m], out := fun m => .v (.string (fieldS m)), pre := fun m => allV m.to = true ∧ m.to.length ≤ 100000 ∧ m.tag.size ≤ 1000000 }
def Γte : Ctx := fun f => match f with
  | 75 => some (.pure ctCodesT)
  | _ => none
theorem Γte_ok : CtxOk Tryz.prog (GlT mx) Γte := by
  intro f h hh
  simp only [Γte] at hh
  split at hh <;> simp at hh <;> subst hh
  exact r5Codes_ok
set_option maxHeartbeats 1000000 in
/-- The reference's Field. -/
theorem field_ok : Sound Tryz.prog (GlT mx) 44 ctField := by
  refine sound_by (cc := true) Γte_ok Tryz.T_ok Tryz.mixed Tryz.func44 rfl (by kernel_rfl) (fun _ => rfl) (fun _ _ => by show 1 ≤ 25; decide) ?_
  rintro (m : Mp) ⟨hv, hl, ht⟩
  have hv : allV m.to = true := hv
  have hl : m.to.length ≤ 100000 := hl
  have ht : m.tag.size ≤ 1000000 := ht
  have hs : (codesS m.to).size ≤ 7 * m.to.length := codesK_size _ _
  repeat first | refine wk1 ?_ | refine wk2 ?_ | refine wk3 ?_ | refine wt1 ?_ | refine wt2 ?_ | refine wt3 ?_ | refine wt4 ?_ | refine wn1 ?_ | refine wn2 ?_ | refine wn3 ?_ | refine wn4 ?_ | refine wn5 ?_
  refine ⟨m.to, EntL.refl _, hl, ?_⟩
  rw [show ctCodesT.out m.to = .tu [.v (.string (codesS m.to)), .v (.int .i64 0)] from if_pos hv]
  repeat first | refine wk1 ?_ | refine wk2 ?_ | refine wk3 ?_ | refine wt1 ?_ | refine wt2 ?_ | refine wt3 ?_ | refine wt4 ?_ | refine wn1 ?_ | refine wn2 ?_ | refine wn3 ?_ | refine wn4 ?_ | refine wn5 ?_
  rcases Bool.eq_false_or_eq_true (emB m.tag) with h1 | h1
  · refine And.intro (fun _ => ?_) (fun h => absurd (h1.symm.trans h) (by decide))
    repeat first | refine wk1 ?_ | refine wk2 ?_ | refine wk3 ?_ | refine wt1 ?_ | refine wt2 ?_ | refine wt3 ?_ | refine wt4 ?_ | refine wn1 ?_ | refine wn2 ?_ | refine wn3 ?_ | refine wn4 ?_ | refine wn5 ?_
    refine EntR.str ?_
    rw [fieldS, if_pos h1]
  · refine And.intro (fun h => absurd (h1.symm.trans h) (by decide)) (fun _ => ?_)
    repeat first | refine wk1 ?_ | refine wk2 ?_ | refine wk3 ?_ | refine wt1 ?_ | refine wt2 ?_ | refine wt3 ?_ | refine wt4 ?_ | refine wn1 ?_ | refine wn2 ?_ | refine wn3 ?_ | refine wn4 ?_ | refine wn5 ?_
    rcases Bool.eq_false_or_eq_true (emB (codesS m.to)) with h2 | h2
    · refine wgF (show (!emB (codesS m.to)) = false by rw [h2]; rfl) ?_
      repeat first | refine wk1 ?_ | refine wk2 ?_ | refine wk3 ?_ | refine wt1 ?_ | refine wt2 ?_ | refine wt3 ?_ | refine wt4 ?_ | refine wn1 ?_ | refine wn2 ?_ | refine wn3 ?_ | refine wn4 ?_ | refine wn5 ?_
      refine And.intro (show 1 + m.tag.size ≤ 9223372036854775807 by omega) ?_
      repeat first | refine wk1 ?_ | refine wk2 ?_ | refine wk3 ?_ | refine wt1 ?_ | refine wt2 ?_ | refine wt3 ?_ | refine wt4 ?_ | refine wn1 ?_ | refine wn2 ?_ | refine wn3 ?_ | refine wn4 ?_ | refine wn5 ?_
      refine And.intro (show (bcat ⟨#[60]⟩ m.tag).size + 1 ≤ 9223372036854775807 by rw [bcat_size, show (⟨#[60]⟩ : ByteArray).size = 1 from rfl]; omega) ?_
      repeat first | refine wk1 ?_ | refine wk2 ?_ | refine wk3 ?_ | refine wt1 ?_ | refine wt2 ?_ | refine wt3 ?_ | refine wt4 ?_ | refine wn1 ?_ | refine wn2 ?_ | refine wn3 ?_ | refine wn4 ?_ | refine wn5 ?_
      refine And.intro (show (bcat (bcat ⟨#[60]⟩ m.tag) ⟨#[62]⟩).size + (codesS m.to).size ≤ 9223372036854775807 by rw [bcat_size, bcat_size, show (⟨#[60]⟩ : ByteArray).size = 1 from rfl, show (⟨#[62]⟩ : ByteArray).size = 1 from rfl]; omega) ?_
      repeat first | refine wk1 ?_ | refine wk2 ?_ | refine wk3 ?_ | refine wt1 ?_ | refine wt2 ?_ | refine wt3 ?_ | refine wt4 ?_ | refine wn1 ?_ | refine wn2 ?_ | refine wn3 ?_ | refine wn4 ?_ | refine wn5 ?_
      refine EntR.str ?_
      rw [fieldS, if_neg (by rw [h1]; decide), tagS, if_neg (by rw [h1]; decide), if_pos h2]
    · refine wgT (show (!emB (codesS m.to)) = true by rw [h2]; rfl) ?_
      repeat first | refine wk1 ?_ | refine wk2 ?_ | refine wk3 ?_ | refine wt1 ?_ | refine wt2 ?_ | refine wt3 ?_ | refine wt4 ?_ | refine wn1 ?_ | refine wn2 ?_ | refine wn3 ?_ | refine wn4 ?_ | refine wn5 ?_
      refine And.intro (show 1 + (codesS m.to).size ≤ 9223372036854775807 by omega) ?_
      repeat first | refine wk1 ?_ | refine wk2 ?_ | refine wk3 ?_ | refine wt1 ?_ | refine wt2 ?_ | refine wt3 ?_ | refine wt4 ?_ | refine wn1 ?_ | refine wn2 ?_ | refine wn3 ?_ | refine wn4 ?_ | refine wn5 ?_
      refine And.intro (show 1 + m.tag.size ≤ 9223372036854775807 by omega) ?_
      repeat first | refine wk1 ?_ | refine wk2 ?_ | refine wk3 ?_ | refine wt1 ?_ | refine wt2 ?_ | refine wt3 ?_ | refine wt4 ?_ | refine wn1 ?_ | refine wn2 ?_ | refine wn3 ?_ | refine wn4 ?_ | refine wn5 ?_
      refine And.intro (show (bcat ⟨#[60]⟩ m.tag).size + 1 ≤ 9223372036854775807 by rw [bcat_size, show (⟨#[60]⟩ : ByteArray).size = 1 from rfl]; omega) ?_
      repeat first | refine wk1 ?_ | refine wk2 ?_ | refine wk3 ?_ | refine wt1 ?_ | refine wt2 ?_ | refine wt3 ?_ | refine wt4 ?_ | refine wn1 ?_ | refine wn2 ?_ | refine wn3 ?_ | refine wn4 ?_ | refine wn5 ?_
      refine And.intro (show (bcat (bcat ⟨#[60]⟩ m.tag) ⟨#[62]⟩).size + (bcat spB (codesS m.to)).size ≤ 9223372036854775807 by rw [bcat_size, bcat_size, bcat_size, show (⟨#[60]⟩ : ByteArray).size = 1 from rfl, show (⟨#[62]⟩ : ByteArray).size = 1 from rfl, show spB.size = 1 from rfl]; omega) ?_
      repeat first | refine wk1 ?_ | refine wk2 ?_ | refine wk3 ?_ | refine wt1 ?_ | refine wt2 ?_ | refine wt3 ?_ | refine wt4 ?_ | refine wn1 ?_ | refine wn2 ?_ | refine wn3 ?_ | refine wn4 ?_ | refine wn5 ?_
      refine EntR.str ?_
      rw [fieldS, if_neg (by rw [h1]; decide), tagS, if_neg (by rw [h1]; decide), if_neg (by rw [h2]; decide)]
      rfl
end Go.Proofs
