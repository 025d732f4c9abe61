import Derived.Test.YtnegdnbodccgkaaGreatDoorEa
import Derived.Test.YtnegdnbodccgkaaGreatDoorP1
import Derived.Test.YtnegdnbodccgkaaGreatDoorFvz
set_option linter.unusedVariables false
set_option linter.unusedSimpArgs false
namespace Go.Proofs
open Go Go.Sx

/-- The walk, ten steps and the state in normal form, again and again. -/
theorem gn {p q : Prop} (k : q) (h : q ∧ True → p := by intro hq; (repeat ((first | refine wk1 ?_ | refine wk2 ?_ | refine wk3 ?_ | refine wt1 ?_ | refine wt2 ?_ | refine wt3 ?_ | refine wt4 ?_ | refine wca _ (EntL.refl _) ?_ | refine wcb _ (EntL.refl _) ?_ | refine bt1 ?_ | refine bt2 ?_ | refine bt3 ?_ | refine bt4 ?_ | refine wn1 ?_ | refine wn2 ?_ | refine wnb ?_ | refine wa ?_ | refine wn5 ?_); (iterate 9 (try (first | refine wk1 ?_ | refine wk2 ?_ | refine wk3 ?_ | refine wt1 ?_ | refine wt2 ?_ | refine wt3 ?_ | refine wt4 ?_ | refine wca _ (EntL.refl _) ?_ | refine wcb _ (EntL.refl _) ?_ | refine bt1 ?_ | refine bt2 ?_ | refine bt3 ?_ | refine bt4 ?_ | refine wn1 ?_ | refine wn2 ?_ | refine wnb ?_ | refine wa ?_ | refine wn5 ?_))); (try simp only [setOwn, goneO, rowL, retD, List.map_cons, List.map_nil, List.cons_append, List.nil_append, List.append_nil, List.length_cons, List.length_nil, List.length_append, Nat.reduceAdd, Nat.zero_add, reduceIte]))); exact hq.1) : p := h ⟨k, trivial⟩
end Go.Proofs

namespace Go.Proofs
open Go Go.Sx
variable {mx : Int} {pb : Bool}

/-! versions.compare -/
noncomputable def cAll : Code := (Tryz.f116.body).getD .skip
noncomputable def cAll1 : Code := (Tryz.f164.body).getD .skip
noncomputable def cColl : Code := (Tryz.f115.body).getD .skip
noncomputable def cAppS : Code := (Tryz.f163.body).getD .skip
noncomputable def cCmp1 : Code := (Tryz.f114.body).getD .skip
noncomputable def Γas (mx : Int) (pb : Bool) : Ctx := fun f => match f with
  | 164 => some (.gen (inlW true Γ0 Tryz.T (GlT mx pb) Tryz.f164 cAll1))
  | _ => none
theorem Γas_ok : CtxOk Tryz.prog (GlT mx pb) (Γas mx pb) := by
  intro f h hh
  simp only [Γas] at hh
  split at hh <;> simp at hh <;> subst hh
  · exact soundT_inlW Γ0_ok Tryz.T_ok Tryz.mixed Tryz.func164 rfl (by kernel_rfl)
noncomputable def Γco (mx : Int) (pb : Bool) : Ctx := fun f => match f with
  | 163 => some (.gen (inlW true (Γas mx pb) Tryz.T (GlT mx pb) Tryz.f163 cAppS))
  | _ => none
theorem Γco_ok : CtxOk Tryz.prog (GlT mx pb) (Γco mx pb) := by
  intro f h hh
  simp only [Γco] at hh
  split at hh <;> simp at hh <;> subst hh
  · exact soundT_inlW Γas_ok Tryz.T_ok Tryz.mixed Tryz.func163 rfl (by kernel_rfl)
noncomputable def Γpc (mx : Int) (pb : Bool) : Ctx := fun f => match f with
  | 116 => some (.gen (inlW true Γ0 Tryz.T (GlT mx pb) Tryz.f116 cAll))
  | 164 => some (.gen (inlW true Γ0 Tryz.T (GlT mx pb) Tryz.f164 cAll1))
  | 115 => some (.gen (inlW true (Γco mx pb) Tryz.T (GlT mx pb) Tryz.f115 cColl))
  | 114 => some (.gen (inlW true Γ0 Tryz.T (GlT mx pb) Tryz.f114 cCmp1))
  | _ => none
theorem Γpc_ok : CtxOk Tryz.prog (GlT mx pb) (Γpc mx pb) := by
  intro f h hh
  simp only [Γpc] at hh
  split at hh <;> simp at hh <;> subst hh
  · exact soundT_inlW Γ0_ok Tryz.T_ok Tryz.mixed Tryz.func116 rfl (by kernel_rfl)
  · exact soundT_inlW Γ0_ok Tryz.T_ok Tryz.mixed Tryz.func164 rfl (by kernel_rfl)
  · exact soundT_inlW Γco_ok Tryz.T_ok Tryz.mixed Tryz.func115 rfl (by kernel_rfl)
  · exact soundT_inlW Γ0_ok Tryz.T_ok Tryz.mixed Tryz.func114 rfl (by kernel_rfl)
theorem StLe.r8 {tm tm' : List (Nat × D)} {ow ow' : List Own} {n : Nat} (hn : [0, 1, 2, 3, 4, 5, 6, 7, n].Nodup) (h1 : renT [0, 1, 2, 3, 4, 5, 6, 7, n] tm tm') (h2 : renO [0, 1, 2, 3, 4, 5, 6, 7, n] ow [0, 1, 2, 3, 4, 5, 6, 7, n] ow') : StLe 8 ⟨tm, ow, []⟩ ⟨tm', ow', []⟩ :=
  StLe.renm [0, 1, 2, 3, 4, 5, 6, 7, n] h1 h2 hn (fun i hi => by
    match i, hi with
    | 0, _ => rfl
    | 1, _ => rfl
    | 2, _ => rfl
    | 3, _ => rfl
    | 4, _ => rfl
    | 5, _ => rfl
    | 6, _ => rfl
    | 7, _ => rfl) (by simp)
def fnC : Own := .cells 181 [.fn 114 [.own 2 0, .own 0 0]]
def flO (f : Fl) : Own := .cells 97 [flD f 0, flD f 1, flD f 2]
theorem drop_cons {α : Type} [Inhabited α] {l : List α} {k : Nat} (h : k < l.length) : l.drop k = l.getD k default :: l.drop (k + 1) := by
  rw [List.drop_eq_getElem_cons h]
  simp [List.getD_eq_getElem?_getD, h]
structure CoInv (other : ByteArray) (pcs : List Pc) (x : Nat × Int × List Pc) : Prop where
  le : x.1 ≤ pcs.length
  nn : 0 ≤ x.2.1
  asc : AscP x.2.1 (pcs.drop x.1)
  len : x.2.2.length ≤ 2 * x.1
  eq : x.2.2 ++ segsP other x.2.1 (pcs.drop x.1) = segsP other 0 pcs

/-! the inner loop: plain -/
def sqA : Code → Code | .seq a _ => a | c => c
def sqB : Code → Code | .seq _ b => b | c => c
def blkC : Code → Code | .block _ a => a | c => c
def rfB : Code → Code | .rangeFunc _ _ _ b => b | c => c
noncomputable def cPC : Code := (Tryz.f49.body).getD .skip
noncomputable def cIn : Code := blkC (sqB (blkC (rfB (blkC (sqB (sqA (sqB (sqB (sqB (sqB cPC))))))))))
def pcL (p : Pc) : List D := [.v (.int .i64 p.lo), .v (.int .i64 p.hi), .v (.string p.s)]
def InInv (a b : Fl) (x : Pc) : Int × List Pc × List Ch → Prop
  | (lo, rest, out) => x.lo ≤ lo ∧ lo ≤ x.hi + 1 ∧ Tiles (flV b) lo rest ∧ rest.length ≤ 1000000 ∧ out = chB a.what (flV a) (flV b) lo
theorem tiles_at {v : Int → ByteArray} {lo : Int} {rest : List Pc} (h : Tiles v lo rest) (hl : lo ≤ 1114111) : 0 < rest.length ∧ (rest.getD 0 default).lo ≤ lo ∧ lo ≤ (rest.getD 0 default).hi ∧ (rest.getD 0 default).hi ≤ 1114111 ∧ (∀ c, lo ≤ c → c ≤ (rest.getD 0 default).hi → v c = (rest.getD 0 default).s) ∧ Tiles v ((rest.getD 0 default).hi + 1) (rest.drop 1) := by
  cases rest with
  | nil => have h : lo = 1114112 := h; omega
  | cons q r => exact ⟨by simp, h.1, h.2.1, h.2.2.1, h.2.2.2.1, h.2.2.2.2⟩
theorem tiles_to {v : Int → ByteArray} {lo x : Int} {rest : List Pc} (h : Tiles v lo rest) (hl : lo ≤ x) (hx : x ≤ 1114111) (hq : x ≤ (rest.getD 0 default).hi) : Tiles v x rest := by
  cases rest with
  | nil => have h : lo = 1114112 := h; omega
  | cons q r =>
    have hq : x ≤ q.hi := hq
    exact ⟨by have := h.1; omega, hq, h.2.2.1, fun c h1 h2 => h.2.2.2.1 c (by omega) h2, h.2.2.2.2⟩
theorem in_one {a b : Fl} {x : Pc} {lo hi : Int} {out : List Ch} {s : ByteArray} (h0 : 0 ≤ x.lo) (hva : ∀ c, x.lo ≤ c → c ≤ x.hi → flV a c = x.s) (h1 : x.lo ≤ lo) (hh : lo ≤ hi) (hx : hi ≤ x.hi) (hq : ∀ c, lo ≤ c → c ≤ hi → flV b c = s) (ho : out = chB a.what (flV a) (flV b) lo) : addC a.what out lo hi x.s s = chB a.what (flV a) (flV b) (hi + 1) := by
  have := chB_seg (w := a.what) (va := flV a) (vb := flV b) (lo := lo) (hi := hi) (by omega) hh (fun c c1 c2 => ⟨by rw [hva c (by omega) (by omega), hva lo (by omega) (by omega)], by rw [hq c c1 c2, hq lo (Int.le_refl _) hh]⟩)
  rw [← this, ho, hva lo (by omega) (by omega), hq lo (Int.le_refl _) hh]
theorem in_last {a b : Fl} {lo : Int} {out : List Ch} (hl : lo ≤ 1114112) (ho : out = chB a.what (flV a) (flV b) lo) (h0 : 0 < out.length) : (out.getD (out.length - 1) default).hi ≤ 1114111 ∧ 0 ≤ (out.getD (out.length - 1) default).hi := by
  have hinv := chU_inv a.what (flV a) (flV b) lo.toNat
  have hm : out.getD (out.length - 1) default ∈ chU a.what (flV a) (flV b) lo.toNat := by
    have : out = chU a.what (flV a) (flV b) lo.toNat := ho
    rw [← this]; exact getD_mem (by omega)
  have := hinv.each _ hm
  omega
theorem ent_dropP {l : List Pc} : Ent (.sl 3 (l.length - 1) fun i j => pcD (l.getD (1 + i) default) j) (slD 3 pcD (l.drop 1)) := by
  refine Ent.sl (by rw [List.length_drop]) fun i hi j hj => Ent.of_eq ?_
  show pcD (l.getD (1 + i) default) j = pcD ((l.drop 1).getD i default) j
  rw [show (l.drop 1).getD i default = l.getD (1 + i) default by simp [List.getD_eq_getElem?_getD, Nat.add_comm]]
end Go.Proofs
