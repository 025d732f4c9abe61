import Derived.Test.YtimpmahlmfdccaaGreatDoorB0
namespace Go.Proofs
open Go Go.Sx
variable {mx : Int} {pb : Bool}
/-! comparisons of numbers -/
def ctNanI : Ct := { ι := Int, inp := fun c => [.v (.int .i64 c)], out := fun _ => .v (.bool false), pre := fun _ => True }
theorem nanI_ok : Sound Tryz.prog (GlT mx pb) 143 ctNanI := by
  refine sound_by (cc := false) Γ0_ok Tryz.T_ok Tryz.mixed Tryz.func143 rfl (by kernel_rfl) (fun _ => rfl) (fun _ _ => by show 1 ≤ 6; decide) ?_
  intro (c : Int) _
  repeat first | refine wk1 ?_ | refine wk2 ?_ | refine wk3 ?_
  refine EntR.bool ?_
  simp
def cmpI (a b : Int) : Int := if a < b then -1 else if a > b then 1 else 0
def ctCmpI : Ct := { ι := Int × Int, inp := fun x => [.v (.int .i64 x.1), .v (.int .i64 x.2)], out := fun x => .v (.int .i64 (cmpI x.1 x.2)), pre := fun _ => True }
def Γn1 : Ctx := fun f => match f with
  | 143 => some (.pure ctNanI)
  | _ => none
theorem Γn1_ok : CtxOk Tryz.prog (GlT mx pb) Γn1 := by
  intro f h hh
  simp only [Γn1] at hh
  split at hh <;> simp at hh <;> subst hh
  · exact nanI_ok
theorem cmpI_ok : Sound Tryz.prog (GlT mx pb) 108 ctCmpI := by
  refine sound_by (cc := false) Γn1_ok Tryz.T_ok Tryz.mixed Tryz.func108 rfl (by kernel_rfl) (fun _ => rfl) (fun _ _ => by show 2 ≤ 20; decide) ?_
  intro ((a : Int), (b : Int)) _
  repeat first | refine wk1 ?_ | refine wk2 ?_ | refine wk3 ?_
  refine ⟨a, EntL.refl _, trivial, ?_⟩
  repeat first | refine wk1 ?_ | refine wk2 ?_ | refine wk3 ?_
  refine ⟨b, EntL.refl _, trivial, ?_⟩
  repeat first | refine wk1 ?_ | refine wk2 ?_ | refine wk3 ?_
  refine And.intro (fun h => Bool.noConfusion (show false = true from h)) (fun _ => ?_)
  repeat first | refine wk1 ?_ | refine wk2 ?_ | refine wk3 ?_
  refine And.intro (fun h => Bool.noConfusion (show false = true from h)) (fun _ => ?_)
  repeat first | refine wk1 ?_ | refine wk2 ?_ | refine wk3 ?_
  refine And.intro (fun h => ?_) (fun h => ?_)
  · have h : a < b := by simpa using h
    repeat first | refine wk1 ?_ | refine wk2 ?_ | refine wk3 ?_
    exact EntR.int (by simp [cmpI, h])
  have h : ¬ a < b := by simpa using h
  repeat first | refine wk1 ?_ | refine wk2 ?_ | refine wk3 ?_
  refine And.intro (fun h1 => ?_) (fun h1 => ?_)
  · have h1 : a > b := by simpa using h1
    repeat first | refine wk1 ?_ | refine wk2 ?_ | refine wk3 ?_
    exact EntR.int (by simp [cmpI, h, h1])
  have h1 : ¬ a > b := by simpa using h1
  repeat first | refine wk1 ?_ | refine wk2 ?_ | refine wk3 ?_
  exact EntR.int (by simp [cmpI, h, h1])
def orF (a b : Int) (i j : Nat) : D := (([.v (.int .i64 a), .v (.int .i64 b)] : List D)[i * 1 + j]?).getD .junk
def ctOr : Ct := { ι := Int × Int, inp := fun x => [.sl 1 2 (orF x.1 x.2)], out := fun x => .v (.int .i64 (if x.1 = 0 then x.2 else x.1)), pre := fun _ => True }
theorem or_ok : Sound Tryz.prog (GlT mx pb) 107 ctOr := by
  refine sound_by (cc := false) Γ0_ok Tryz.T_ok Tryz.mixed Tryz.func107 rfl (by kernel_rfl) (fun _ => rfl) (fun _ _ => by show 1 ≤ 18; decide) ?_
  intro ((a : Int), (b : Int)) _
  repeat first | refine wk1 ?_ | refine wk2 ?_ | refine wk3 ?_
  refine ⟨4, ?_⟩
  repeat first | refine wk1 ?_ | refine wk2 ?_ | refine wk3 ?_
  refine And.intro (fun _ => ?_) (fun h => Bool.noConfusion (show true = false from h))
  repeat first | refine wk1 ?_ | refine wk2 ?_ | refine wk3 ?_
  refine And.intro ⟨by decide, by decide⟩ ?_
  repeat first | refine wk1 ?_ | refine wk2 ?_ | refine wk3 ?_
  refine And.intro (fun h => ?_) (fun h => ?_)
  · have h : (a != 0) = true := h
    repeat first | refine wk1 ?_ | refine wk2 ?_ | refine wk3 ?_
    exact EntR.int (by simp at h; simp [h])
  have h : (a != 0) = false := h
  have h : a = 0 := by simpa using h
  repeat first | refine wk1 ?_ | refine wk2 ?_ | refine wk3 ?_
  refine And.intro ⟨by decide, by decide⟩ ?_
  repeat first | refine wk1 ?_ | refine wk2 ?_ | refine wk3 ?_
  refine And.intro (fun _ => ?_) (fun h => Bool.noConfusion (show true = false from h))
  repeat first | refine wk1 ?_ | refine wk2 ?_ | refine wk3 ?_
  refine And.intro ⟨by decide, by decide⟩ ?_
  repeat first | refine wk1 ?_ | refine wk2 ?_ | refine wk3 ?_
  refine And.intro (fun h1 => ?_) (fun h1 => ?_)
  · have h1 : (b != 0) = true := h1
    repeat first | refine wk1 ?_ | refine wk2 ?_ | refine wk3 ?_
    exact EntR.int (by simp [h])
  have h1 : (b != 0) = false := h1
  have h1 : b = 0 := by simpa using h1
  repeat first | refine wk1 ?_ | refine wk2 ?_ | refine wk3 ?_
  refine And.intro ⟨by decide, by decide⟩ ?_
  repeat first | refine wk1 ?_ | refine wk2 ?_ | refine wk3 ?_
  refine And.intro (fun h => Bool.noConfusion (show false = true from h)) (fun _ => ?_)
  repeat first | refine wk1 ?_ | refine wk2 ?_ | refine wk3 ?_
  exact EntR.int (by simp [h, h1])

def Γm1 : Ctx := fun f => match f with
  | 108 => some (.pure ctCmpI)
  | 107 => some (.pure ctOr)
  | 60 => some (.pure ctValid)
  | 76 => some (.pure ctValid)
  | _ => none
theorem Γm1_ok : CtxOk Tryz.prog (GlT mx pb) Γm1 := by
  intro f h hh
  simp only [Γm1] at hh
  split at hh <;> simp at hh <;> subst hh
  · exact cmpI_ok
  · exact or_ok
  · exact valid_ok
  · exact rvalid_ok
end Go.Proofs
