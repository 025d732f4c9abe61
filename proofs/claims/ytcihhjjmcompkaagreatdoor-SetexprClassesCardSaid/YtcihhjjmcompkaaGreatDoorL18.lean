import Derived.Test.YtcihhjjmcompkaaGreatDoorXz
import Derived.Test.YtcihhjjmcompkaaGreatDoorSyz
import Derived.Test.YtcihhjjmcompkaaGreatDoorC2
set_option linter.unusedVariables false
set_option linter.unusedSimpArgs false
namespace Go.Proofs
open Go Go.Sx
variable {mx : Int} {pb : Bool}
def zdb : Db := ⟨0, 0, fun _ => ⟨[], []⟩, [], fun _ => [], fun _ => []⟩
theorem zdb_ent {r r' : List D} (h : EntL r r') : EntL (.ag [.v (.int .i64 0), .v (.int .i64 0), nilV, nilV, nilV, nilV, nilV, nilV, nilV, nilV, nilV, nilV, nilV, nilV, nilV, nilV, nilV, nilV, nilV, nilV, nilV, nilV, nilV, nilV, nilV, nilV, nilV, nilV, nilV] :: r) (dbA zdb :: r') := by
 refine EntL.cons (Ent.ag (EntL.cons (Ent.refl _) (EntL.cons (Ent.refl _) ?_))) h
 iterate 27 refine EntL.cons Ent.nil ?_
 exact EntL.refl _
theorem zdb_sm : SmD zdb := ⟨Nat.zero_le _, fun _ _ => ⟨Nat.zero_le _, Nat.zero_le _⟩, fun _ _ => Nat.zero_le _, fun _ _ => (by show smallB [] = true; decide)⟩
theorem zdb_us : usB zdb = false := by
 unfold usB
 refine decide_eq_false fun h => ?_
 unfold dbE at h
 split at h
 ·have h1 := firstE_all h 1 (by decide)
  have h2 : ptE (partOf zdb 0) = 0 := h1
  have h3 : (if validP ⟨[], []⟩ = true then (0 : Int) else 11) = 0 := h2
  rw [if_neg] at h3
  ·omega
  ·intro hv
   have : prOk ⟨[], []⟩ := @of_decide_eq_true _ (Classical.propDecidable _) hv
   have := this.1
   revert this
   decide
 ·omega
def cnL (l : List Rg) : Nat → Int
 | 0 => 0
 | k + 1 => cnL l k + (l.getD k default).2 - (l.getD k default).1 + 1
def ctCntR : Ct := { ι := List Rg, inp := fun l => [setD l], out := fun l => .v (.int .i64 (cnL (canon l) (canon l).length)), pre := fun l => l.length ≤ 8000 }
noncomputable def Γcnr : Ctx := fun f => match f with
 | 21 => some (.pure ctMakeR)
 | _ => none
theorem Γcnr_ok : CtxOk Tryz.prog (GlT mx pb) Γcnr := by
 intro f h hh
 simp only [Γcnr] at hh
 split at hh <;> simp at hh <;> subst hh
 ·exact r2Make_ok
theorem cnL_bd {l : List Rg} (h : Canon l) : ∀ k, k ≤ l.length → 0 ≤ cnL l k ∧ cnL l k ≤ 1114112 * k
 | 0, _ => by show (0 : Int) ≤ 0 ∧ (0 : Int) ≤ _; omega
 | k + 1, hk => by
  have h1 := cnL_bd h k (by omega)
  have h2 := h.ok _ (getD_mem (show k < l.length by omega))
  show 0 ≤ cnL l k + _ - _ + 1 ∧ cnL l k + _ - _ + 1 ≤ _
  omega
set_option maxHeartbeats 2000000 in
theorem rCnt_ok2 : Sound Tryz.prog (GlT mx pb) 48 ctCntR := by
 refine sound_by (cc := true) Γcnr_ok Tryz.T_ok Tryz.mixed Tryz.func48 rfl (by kernel_rfl) (fun _ => rfl) (fun _ _ => by show 1 ≤ 32; decide) ?_
 intro (l : List Rg) (hl : l.length ≤ 8000)
 have p1 : ctMakeR.pre l := (by show l.length ≤ 10000; omega)
 have hC := canon_canon l
 have hlen := canon_len l
 have hout : ctCntR.out l = .v (.int .i64 (cnL (canon l) (canon l).length)) := rfl
 rw [hout]
 repeat' (first | refine gl ?_ | (first | refine br ?_ ?_ | refine brF ?_ ?_) <;> intro q_ <;> try simp only [nz] at q_)
 generalize canon l = C at hC hlen ⊢
 refine ⟨0, Nat, fun k => ⟨[(1, .own 0 0), (3, .v (.int .i64 (cnL C k))), (4, .v (.int .i64 k))], [.cells 24 [rgsD C]], []⟩, fun k => k ≤ C.length, fun k => C.length - k, fun _ => Nat.zero_le _, ⟨0, Nat.zero_le _, StLe.ren [0] tmS ⟨⟨rfl, EntL.refl _, rfl⟩, trivial⟩ (by decide)⟩, ?_⟩
 intro k (hk : k ≤ C.length)
 have hb := cnL_bd hC k hk
 by_cases hlt : k < C.length
 ·have hr := hC.ok _ (getD_mem hlt)
  repeat' (first | refine gl ?_ | (first | refine br ?_ ?_ | refine brF ?_ ?_) <;> intro q_ <;> try simp only [nz] at q_)
  exact ⟨k + 1, (by show k + 1 ≤ C.length; omega), (by show C.length - (k + 1) < C.length - k; omega), StLe.ren [0] tmS ⟨⟨rfl, EntL.refl _, rfl⟩, trivial⟩ (by decide)⟩
 ·have e : k = C.length := by omega
  subst e
  repeat' (first | refine gl ?_ | (first | refine br ?_ ?_ | refine brF ?_ ?_) <;> intro q_ <;> try simp only [nz] at q_)
  exact EntR.of rfl (Ent.refl _)
def exA : ByteArray := ⟨#[91, 97, 45, 122, 45, 45, 91, 97, 101, 105, 111, 117, 93, 93]⟩
def exB : ByteArray := ⟨#[91, 97, 45, 99, 45, 101, 93]⟩
def exL : List Rg := [(98, 100), (102, 104), (106, 110), (112, 116), (118, 122)]
theorem zS {s : ByteArray} (h : s.size ≤ 65536) : OkS zdb s := ⟨zdb_sm, h⟩
theorem exA_prs : prs zdb exA = (exL, 0, 0) := by
 rw [prs_at (zS (by decide))]
 decide +kernel
theorem exB_prs : prs zdb exB = ([], 3, 5) := by
 rw [prs_at (zS (by decide))]
 decide +kernel
def ctAl : Ct := { ι := Unit, inp := fun _ => [], out := fun _ => .v (.bool true), pre := fun _ => True }
noncomputable def Γal (mx : Int) (pb : Bool) : Ctx := fun f => match f with
 | 18 => some (.pure ctPrs)
 | 47 => some (.pure ctHas)
 | 48 => some (.pure ctCntR)
 | 17 => some (.pure ctSetTx)
 | _ => none
theorem Γal_ok : CtxOk Tryz.prog (GlT mx pb) (Γal mx pb) := by
 intro f h hh
 simp only [Γal] at hh
 split at hh <;> simp at hh <;> subst hh
 ·exact prsC_ok
 ·exact r2Has_ok
 ·exact rCnt_ok2
 ·exact pSetTx_ok
theorem prs_out {d : Db} {s : ByteArray} {L : List Rg} {e a : Int} (h : prs d s = (L, e, a)) : ctPrs.out (d, s) = .tu [setD L, .ag [.v (.int .i64 e), .v (.int .i64 a)]] := by
 show D.tu [setD (prs d s).1, .ag [.v (.int .i64 (prs d s).2.1), .v (.int .i64 (prs d s).2.2)]] = _
 rw [h]
set_option maxHeartbeats 4000000 in
theorem al_ok : Sound Tryz.prog (GlT mx pb) 16 ctAl := by
 refine sound_by (cc := true) Γal_ok Tryz.T_ok Tryz.mixed Tryz.func16 rfl (by kernel_rfl) (fun _ => rfl) (fun _ _ => by show 0 ≤ 42; decide) ?_
 intro _ _
 have a1 : ctHas.pre (exL, 98) := by show exL.length ≤ 1000000; decide
 have a2 : ctHas.pre (exL, 101) := by show exL.length ≤ 1000000; decide
 have a3 : ctCntR.pre exL := by show exL.length ≤ 8000; decide
 have a4 : ctSetTx.pre exL := by show exL.length ≤ 12; decide
 have b1 : ctHas.out (exL, 98) = .v (.bool true) := congrArg (fun b => D.v (.bool b)) (show hasB exL 98 = true by decide +kernel)
 have b2 : ctHas.out (exL, 101) = .v (.bool false) := congrArg (fun b => D.v (.bool b)) (show hasB exL 101 = false by decide +kernel)
 have b3 : ctCntR.out exL = .v (.int .i64 21) := congrArg (fun b => D.v (.int .i64 b)) (show cnL (canon exL) (canon exL).length = 21 by decide +kernel)
 repeat' (first | refine gl ?_ | (first | refine br ?_ ?_ | refine brF ?_ ?_) <;> intro q_ <;> try simp only [nz] at q_)
 refine ⟨(zdb, exA), zdb_ent (EntL.refl _), zdb_sm, ?_⟩
 rw [prs_out exA_prs]
 repeat' (first | refine gl ?_ | (first | refine br ?_ ?_ | refine brF ?_ ?_) <;> intro q_ <;> try simp only [nz] at q_)
 refine ⟨(zdb, exB), zdb_ent (EntL.refl _), zdb_sm, ?_⟩
 rw [prs_out exB_prs]
 repeat' (first | refine gl ?_ | (first | refine br ?_ ?_ | refine brF ?_ ?_) <;> intro q_ <;> try simp only [nz] at q_)
 refine ⟨(exL, 98), EntL.refl _, a1, ?_⟩
 rw [b1]
 repeat' (first | refine gl ?_ | (first | refine br ?_ ?_ | refine brF ?_ ?_) <;> intro q_ <;> try simp only [nz] at q_)
 refine entR_eq (show D.v (.bool (!(eqB (setTx exL) ⟨#[]⟩))) = D.v (.bool true) from congrArg (fun b => D.v (.bool b)) (show (!(eqB (setTx exL) ⟨#[]⟩)) = true by decide +kernel)) rfl
end Go.Proofs
