import Derived.Test.YtnegdnbodccgkaaGreatDoorFvz
import Derived.Test.YtnegdnbodccgkaaGreatDoorFbz
import Derived.Test.YtnegdnbodccgkaaGreatDoorFp0z
set_option linter.unusedVariables false
set_option linter.unusedSimpArgs false
namespace Go.Proofs
open Go Go.Sx
variable {mx : Int} {pb : Bool}

/-! versions.files -/
def flsOf (d : Db) : List Fl := (List.range 20).map fun k => flP (nmK k) (partOf d k)
theorem flsOf_len (d : Db) : (flsOf d).length = 20 := by simp [flsOf]
theorem flsOf_get (d : Db) {k : Nat} (h : k < 20) : (flsOf d).getD k default = flP (nmK k) (partOf d k) := by
  simp [flsOf, List.getD_eq_getElem?_getD, h]
theorem OkD.prF {d : Db} (h : OkD d) (w : ByteArray) {k : Nat} (hk : k < 7) : ctPrF.pre (w, d.prs k) := by
  have hp : prOk (d.prs k) := @of_decide_eq_true _ (Classical.propDecidable _) (h.pr hk)
  have hn : 1 ≤ (d.prs k).names.length := by
    have := hp.1
    unfold namesB at this
    simp only [Bool.and_eq_true, decide_eq_true_eq] at this
    exact this.1.1
  have hl := (h.sm.prs k hk).2
  refine ⟨by show (d.prs k).spans.length ≤ 1000; omega, hn, fun i hi => ?_⟩
  have h1 := (hp.2 i hi).1
  unfold spIn at h1
  show 0 ≤ ((d.prs k).spans.getD i default).val ∧ ((d.prs k).spans.getD i default).val < ((d.prs k).names.length : Int)
  omega
theorem OkD.clF {d : Db} (h : OkD d) (w : ByteArray) : ctClF.pre (w, d.cls) := by
  have h1 := h.sm.cls
  refine ⟨by show d.cls.length ≤ 1000; omega, fun k hk => ?_⟩
  have := (h.cl k hk).1
  unfold clsIn at this
  show 0 ≤ (d.cls.getD k default).val ∧ (d.cls.getD k default).val ≤ 254
  omega
theorem OkD.stF {d : Db} (h : OkD d) (w : ByteArray) {k : Nat} (hk : k < 6) : ctStF.pre (w, d.sts k) := by
  have := h.sm.sts k hk
  show (d.sts k).length ≤ 1000
  omega
theorem OkD.mpF {d : Db} (h : OkD d) (w : ByteArray) {k : Nat} (hk : k < 6) : ctMpF.pre (w, d.mps k) := by
  obtain ⟨h1, h2⟩ := h.tgt hk 0
  exact ⟨h1, h2⟩
def ctFls : Ct := { ι := Db, inp := fun d => [dbA d], out := fun d => slD 3 flD (flsOf d), pre := OkD }
def Γfq : Ctx := fun f => match f with
  | 110 => some (.pure ctPrF)
  | 111 => some (.pure ctClF)
  | 112 => some (.pure ctMpF)
  | 113 => some (.pure ctStF)
  | _ => none
theorem Γfq_ok {mx : Int} : CtxOk Tryz.prog (GlT mx true) Γfq := by
  intro f h hh
  simp only [Γfq] at hh
  split at hh <;> simp at hh <;> subst hh
  · exact prF_ok
  · exact clF_ok
  · exact mpF_ok
  · exact stF_ok
set_option maxRecDepth 100000 in
set_option maxHeartbeats 16000000 in
theorem files_ok {mx : Int} : Sound Tryz.prog (GlT mx true) 48 ctFls := by
  refine sound_by (cc := true) Γfq_ok Tryz.T_ok Tryz.mixed Tryz.func48 rfl (by kernel_rfl) (fun _ => rfl) (fun _ _ => by show 1 ≤ 76; decide) ?_
  intro (d : Db) (hd : OkD d)
  refine gn ?_
  refine wo5 ?_
  refine gn ?_
  refine ⟨(nmK 0, d.prs 0), EntL.refl _, fun _ => hd.prF _ (by decide), ?_⟩
  refine gn ?_
  refine ⟨(nmK 1, d.prs 1), EntL.refl _, fun _ => hd.prF _ (by decide), ?_⟩
  refine gn ?_
  refine ⟨(nmK 2, d.prs 2), EntL.refl _, fun _ => hd.prF _ (by decide), ?_⟩
  refine gn ?_
  refine ⟨(nmK 3, d.prs 3), EntL.refl _, fun _ => hd.prF _ (by decide), ?_⟩
  refine gn ?_
  refine ⟨(nmK 4, d.prs 4), EntL.refl _, fun _ => hd.prF _ (by decide), ?_⟩
  refine gn ?_
  refine ⟨(nmK 5, d.prs 5), EntL.refl _, fun _ => hd.prF _ (by decide), ?_⟩
  refine gn ?_
  refine ⟨(nmK 6, d.prs 6), EntL.refl _, fun _ => hd.prF _ (by decide), ?_⟩
  refine gn ?_
  refine ⟨(nmK 7, d.cls), EntL.refl _, fun _ => hd.clF _, ?_⟩
  refine gn ?_
  refine ⟨(nmK 8, d.mps 0), EntL.refl _, fun _ => hd.mpF _ (by decide), ?_⟩
  refine gn ?_
  refine ⟨(nmK 9, d.sts 0), EntL.refl _, fun _ => hd.stF _ (by decide), ?_⟩
  refine gn ?_
  refine ⟨(nmK 10, d.mps 1), EntL.refl _, fun _ => hd.mpF _ (by decide), ?_⟩
  refine gn ?_
  refine ⟨(nmK 11, d.mps 2), EntL.refl _, fun _ => hd.mpF _ (by decide), ?_⟩
  refine gn ?_
  refine ⟨(nmK 12, d.mps 3), EntL.refl _, fun _ => hd.mpF _ (by decide), ?_⟩
  refine gn ?_
  refine ⟨(nmK 13, d.mps 4), EntL.refl _, fun _ => hd.mpF _ (by decide), ?_⟩
  refine gn ?_
  refine ⟨(nmK 14, d.sts 1), EntL.refl _, fun _ => hd.stF _ (by decide), ?_⟩
  refine gn ?_
  refine ⟨(nmK 15, d.sts 2), EntL.refl _, fun _ => hd.stF _ (by decide), ?_⟩
  refine gn ?_
  refine ⟨(nmK 16, d.sts 3), EntL.refl _, fun _ => hd.stF _ (by decide), ?_⟩
  refine gn ?_
  refine ⟨(nmK 17, d.sts 4), EntL.refl _, fun _ => hd.stF _ (by decide), ?_⟩
  refine gn ?_
  refine ⟨(nmK 18, d.sts 5), EntL.refl _, fun _ => hd.stF _ (by decide), ?_⟩
  refine gn ?_
  refine ⟨(nmK 19, d.mps 5), EntL.refl _, fun _ => hd.mpF _ (by decide), ?_⟩
  refine gn ?_
  exact EntR.of rfl (ent_lit rfl rfl)
end Go.Proofs
