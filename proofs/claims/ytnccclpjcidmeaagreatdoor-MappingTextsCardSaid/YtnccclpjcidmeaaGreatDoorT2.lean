import Derived.Test.YtnccclpjcidmeaaGreatDoorT1
namespace Go.Proofs
open Go Go.Sx
variable {mx : Int}

/-! escape.Codes -/
def Γtb : Ctx := fun f => match f with
  | 66 => some (.pure ctValidT)
  | 67 => some (.pure ctHex)
  | 68 => some (.pure ctJoinS)
  | _ => none
theorem Γtb_ok : CtxOk Tryz.prog (GlT mx) Γtb := by
  intro f h hh
  simp only [Γtb] at hh
  split at hh <;> simp at hh <;> subst hh
  · exact validT_ok
  · exact hex_ok
  · exact joinS_ok
theorem hex_snoc {t : List Int} {k : Nat} (h : k < t.length) : (t.take k).map hexS ++ [hexS (t.getD k default)] = (t.take (k + 1)).map hexS := by
  rw [take_at h, List.map_append]; rfl
set_option maxHeartbeats 1000000 in
/-- escape.Codes. -/
theorem codes_ok : Sound Tryz.prog (GlT mx) 40 ctCodesT := by
  refine sound_by (cc := true) Γtb_ok Tryz.T_ok Tryz.mixed Tryz.func40 rfl (by kernel_rfl) (fun _ => rfl) (fun _ _ => by show 1 ≤ 24; decide) ?_
  intro (t : List Int) (ht : t.length ≤ 100000)
  repeat first | refine wk1 ?_ | refine wk2 ?_ | refine wk3 ?_ | refine wt1 ?_ | refine wt2 ?_ | refine wt3 ?_ | refine wt4 ?_ | refine wn1 ?_ | refine wn2 ?_ | refine wn3 ?_ | refine wn4 ?_ | refine wn5 ?_
  refine ⟨t, EntL.refl _, (show t.length ≤ 1000000 by omega), ?_⟩
  rw [show ctValidT.out t = .v (.bool (allV t)) from rfl]
  repeat first | refine wk1 ?_ | refine wk2 ?_ | refine wk3 ?_ | refine wt1 ?_ | refine wt2 ?_ | refine wt3 ?_ | refine wt4 ?_ | refine wn1 ?_ | refine wn2 ?_ | refine wn3 ?_ | refine wn4 ?_ | refine wn5 ?_
  refine And.intro (fun h1 => ?_) (fun h1 => ?_)
  · have h1 : allV t = false := by simpa using h1
    repeat first | refine wk1 ?_ | refine wk2 ?_ | refine wk3 ?_ | refine wt1 ?_ | refine wt2 ?_ | refine wt3 ?_ | refine wt4 ?_ | refine wn1 ?_ | refine wn2 ?_ | refine wn3 ?_ | refine wn4 ?_ | refine wn5 ?_
    refine EntR.of (codesD_pd t) ?_
    show Ent _ (codesD t)
    rw [codesD, if_neg (by rw [h1]; decide)]
    exact Ent.refl _
  · have h1 : allV t = true := by simpa using h1
    repeat first | refine wk1 ?_ | refine wk2 ?_ | refine wk3 ?_ | refine wt1 ?_ | refine wt2 ?_ | refine wt3 ?_ | refine wt4 ?_ | refine wn1 ?_ | refine wn2 ?_ | refine wn3 ?_ | refine wn4 ?_ | refine wn5 ?_
    refine ⟨0, Nat, fun k => ⟨[(4, .row 0), (10, slD 1 intD t), (11, .v (.int .i64 t.length)), (12, .v (.int .i64 k))], [rowL 9 1 strD ((t.take k).map hexS)], []⟩, fun k => k ≤ t.length, fun k => t.length - k, fun _ => Nat.zero_le _, ⟨0, Nat.zero_le _, StLe.trans (StLe.nilRow (t := 4) 9 1 (fun _ _ => .junk) rfl) (StLe.ren [0] (by repeat' (first | exact trivial | exact Ent.refl _ | exact rfl | exact Ent.int (by omega) | refine And.intro ?_ ?_)) ⟨own_nil, trivial⟩ (by decide))⟩, ?_⟩
    intro k hk
    repeat first | refine wk1 ?_ | refine wk2 ?_ | refine wk3 ?_ | refine wt1 ?_ | refine wt2 ?_ | refine wt3 ?_ | refine wt4 ?_ | refine wn1 ?_ | refine wn2 ?_ | refine wn3 ?_ | refine wn4 ?_ | refine wn5 ?_
    refine And.intro (fun h => ?_) (fun h => ?_)
    · have h : k < t.length := by have := of_decide_eq_true h; omega
      have hl : ((t.take k).map hexS).length = k := by simp; omega
      repeat first | refine wk1 ?_ | refine wk2 ?_ | refine wk3 ?_ | refine wt1 ?_ | refine wt2 ?_ | refine wt3 ?_ | refine wt4 ?_ | refine wn1 ?_ | refine wn2 ?_ | refine wn3 ?_ | refine wn4 ?_ | refine wn5 ?_
      refine ⟨t.getD k default, EntL.refl _, trivial, ?_⟩
      repeat first | refine wk1 ?_ | refine wk2 ?_ | refine wk3 ?_ | refine wt1 ?_ | refine wt2 ?_ | refine wt3 ?_ | refine wt4 ?_ | refine wn1 ?_ | refine wn2 ?_ | refine wn3 ?_ | refine wn4 ?_ | refine wn5 ?_
      exact ⟨k + 1, (show k + 1 ≤ t.length by omega), (show t.length - (k + 1) < t.length - k by omega), StLe.ren [1] (by repeat' (first | exact trivial | exact Ent.refl _ | exact rfl | exact Ent.int (by omega) | refine And.intro ?_ ?_)) ⟨(hex_snoc h) ▸ own_app (fun j hj => by match j, hj with | 0, _ => exact Ent.refl _), trivial⟩ (by decide)⟩
    · have h : k = t.length := by have := of_decide_eq_false h; omega
      repeat first | refine wk1 ?_ | refine wk2 ?_ | refine wk3 ?_ | refine wt1 ?_ | refine wt2 ?_ | refine wt3 ?_ | refine wt4 ?_ | refine wn1 ?_ | refine wn2 ?_ | refine wn3 ?_ | refine wn4 ?_ | refine wn5 ?_
      subst h
      have e := codes_join t t.length (Nat.le_refl _)
      have hs := codesK_size t t.length
      refine ⟨((t.take t.length).map hexS, spB), EntL.refl _, ⟨by simp; omega, show (joinB ((t.take t.length).map hexS) spB).size ≤ 140737488355328 by rw [e]; omega⟩, ?_⟩
      rw [show ctJoinS.out ((t.take t.length).map hexS, spB) = .v (.string (codesS t)) from by rw [codesS, ← e]; rfl]
      repeat first | refine wk1 ?_ | refine wk2 ?_ | refine wk3 ?_ | refine wt1 ?_ | refine wt2 ?_ | refine wt3 ?_ | refine wt4 ?_ | refine wn1 ?_ | refine wn2 ?_ | refine wn3 ?_ | refine wn4 ?_ | refine wn5 ?_
      refine EntR.of (codesD_pd t) ?_
      show Ent _ (codesD t)
      rw [codesD, if_pos h1]
      exact Ent.refl _
end Go.Proofs
