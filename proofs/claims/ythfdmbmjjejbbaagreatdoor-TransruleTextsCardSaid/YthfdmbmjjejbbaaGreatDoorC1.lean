import Derived.Test.YthfdmbmjjejbbaaGreatDoorBz
import Derived.Test.YthfdmbmjjejbbaaGreatDoorE6
import Derived.Test.YthfdmbmjjejbbaaGreatDoorP1
import Derived.Test.YthfdmbmjjejbbaaGreatDoorCg
import Derived.IntWalk
set_option linter.unusedVariables false
set_option linter.unusedSimpArgs false
namespace Go.Proofs
open Go Go.Sx
variable {mx : Int} {pb : Bool}

/-! ranges -/
def rgD (r : Rg) : Nat → D
  | 0 => .v (.int .i64 r.1)
  | 1 => .v (.int .i64 r.2)
  | _ => .junk
def rgA (r : Rg) : D := .ag [rgD r 0, rgD r 1]
def rgsD (l : List Rg) : D := slD 2 rgD l
def rgC (a b : Rg) : Int := if cmpI a.1 b.1 = 0 then cmpI a.2 b.2 else cmpI a.1 b.1
def rgLt (a b : Rg) : Bool := decide (rgC a b < 0)
theorem rgLt_iff {a b : Rg} : rgLt a b = true ↔ a.1 < b.1 ∨ (a.1 = b.1 ∧ a.2 < b.2) := by
  unfold rgLt rgC cmpI
  simp only [decide_eq_true_eq]
  split <;> split <;> (try split) <;> omega
theorem rgLt_no {a b : Rg} : rgLt a b = false ↔ b.1 < a.1 ∨ (a.1 = b.1 ∧ b.2 ≤ a.2) := by
  rw [← Bool.not_eq_true, rgLt_iff]; omega
def ctRgC : Ct := { ι := Rg × Rg, inp := fun x => [rgA x.1, rgA x.2], out := fun x => .v (.int .i64 (rgC x.1 x.2)), pre := fun _ => True }
theorem rgC_ok : Sound Tryz.prog (GlT mx pb) 71 ctRgC := by
  refine sound_by (cc := false) Γm1_ok Tryz.T_ok Tryz.mixed Tryz.func71 rfl (by kernel_rfl) (fun _ => rfl) (fun _ _ => by show 2 ≤ 17; decide) ?_
  intro ((a : Rg), (b : Rg)) _
  refine gA ?_
  refine ⟨(a.1, b.1), EntL.refl _, fun _ => trivial, ?_⟩
  refine gA ?_
  refine ⟨(a.2, b.2), EntL.refl _, fun _ => trivial, ?_⟩
  refine gA ?_
  refine ⟨(cmpI a.1 b.1, cmpI a.2 b.2), EntL.refl _, fun _ => trivial, ?_⟩
  refine gA ?_
  exact EntR.int rfl
end Go.Proofs

namespace Go.Proofs
open Go Go.Sx
variable {mx : Int} {pb : Bool}

/-! bits.Len -/
def tabN (i : Nat) : UInt8 := if i = 0 then 0 else UInt8.ofNat (Nat.log2 i + 1)
def tabB : ByteArray := ⟨⟨(List.range 256).map tabN⟩⟩
def tabAt (n : Int) : Int := IntKind.i64.wrap (bAt tabB (IntKind.u8.wrap n).toNat)
def lenF (n : Int) : Int := if n ≥ 256 then 0 + 8 + tabAt (n.fdiv (2 ^ (min (8 : Int).toNat 64))) else 0 + tabAt n
theorem tab_ok : ∀ i : Fin 256, 0 ≤ bAt tabB i.1 ∧ bAt tabB i.1 ≤ 8 ∧ (0 < i.1 → 1 ≤ bAt tabB i.1) := by decide +kernel
theorem tabAt_ok {n : Int} : 0 ≤ tabAt n ∧ tabAt n ≤ 8 := by
  unfold tabAt
  have h1 : 0 ≤ IntKind.u8.wrap n ∧ IntKind.u8.wrap n < 256 := by rw [IntKind.wrap_u8]; omega
  have h2 := tab_ok ⟨(IntKind.u8.wrap n).toNat, by omega⟩
  simp only at h2
  rw [IntWalk.i64_in _ (by omega)]; omega
theorem tabAt_pos {n : Int} (h : 1 ≤ n ∧ n < 256) : 1 ≤ tabAt n := by
  unfold tabAt
  rw [IntWalk.u8_in n (by omega)]
  have h2 := tab_ok ⟨n.toNat, by omega⟩
  simp only at h2
  have h3 := h2.2.2 (by omega)
  rw [IntWalk.i64_in _ (by omega)]; exact h3
theorem lenF_pos {n : Int} (h : 1 ≤ n) : lenF n ≠ 0 := by
  unfold lenF
  split
  · have := tabAt_ok (n := n.fdiv (2 ^ (min (8 : Int).toNat 64))); omega
  · have := tabAt_pos (n := n) (by omega); omega
def ctLen : Ct := { ι := Int, inp := fun n => [.v (.int .u64 n)], out := fun n => .v (.int .i64 (lenF n)), pre := fun n => 0 ≤ n ∧ n < 65536 }
set_option maxRecDepth 20000 in
theorem len64_ok : Sound Tryz.prog (GlT mx pb) 110 ctLen := by
  refine sound_by (cc := false) Γ0_ok Tryz.T_ok Tryz.mixed Tryz.func110 rfl (by kernel_rfl) (fun _ => rfl) (fun _ _ => by show 1 ≤ 25; decide) ?_
  intro (n : Int) ⟨(h0 : 0 ≤ n), (h1 : n < 65536)⟩
  refine gO ?_
  refine And.intro (fun h => ?_) (fun _ => ?_)
  · have := of_decide_eq_true h; omega
  refine gO ?_
  refine And.intro (fun h => ?_) (fun _ => ?_)
  · have := of_decide_eq_true h; omega
  refine gO ?_
  refine And.intro (fun h => ?_) (fun h => ?_)
  · have h : n ≥ 256 := of_decide_eq_true h
    refine gO ?_
    refine And.intro (by decide) ?_
    refine gO ?_
    refine And.intro ⟨by decide, by decide⟩ ?_
    refine gO ?_
    have h2 : 0 ≤ IntKind.u8.wrap (n.fdiv (2 ^ (min (8 : Int).toNat 64))) ∧ IntKind.u8.wrap (n.fdiv (2 ^ (min (8 : Int).toNat 64))) < 256 := by rw [IntKind.wrap_u8]; omega
    refine And.intro h2 ?_
    refine gO ?_
    have h3 := tabAt_ok (n := n.fdiv (2 ^ (min (8 : Int).toNat 64)))
    refine And.intro (show fitsI64 (0 + 8 + tabAt (n.fdiv (2 ^ (min (8 : Int).toNat 64)))) from ⟨by omega, by omega⟩) ?_
    refine gO ?_
    refine EntR.int ?_
    simp only [lenF, h, if_true]
    rfl
  · have h : ¬ n ≥ 256 := of_decide_eq_false h
    refine gO ?_
    have h2 : 0 ≤ IntKind.u8.wrap n ∧ IntKind.u8.wrap n < 256 := by rw [IntKind.wrap_u8]; omega
    refine And.intro h2 ?_
    refine gO ?_
    have h3 := tabAt_ok (n := n)
    refine And.intro (show fitsI64 (0 + tabAt n) from ⟨by omega, by omega⟩) ?_
    refine gO ?_
    refine EntR.int ?_
    simp only [lenF, h, if_false]
    rfl
def Γlen : Ctx := fun f => match f with
  | 110 => some (.pure ctLen)
  | _ => none
theorem Γlen_ok : CtxOk Tryz.prog (GlT mx pb) Γlen := by
  intro f h hh
  simp only [Γlen] at hh
  split at hh <;> simp at hh <;> subst hh
  exact len64_ok
theorem len_ok : Sound Tryz.prog (GlT mx pb) 64 ctLen := by
  refine sound_by (cc := false) Γlen_ok Tryz.T_ok Tryz.mixed Tryz.func64 rfl (by kernel_rfl) (fun _ => rfl) (fun _ _ => by show 1 ≤ 8; decide) ?_
  intro (n : Int) hn
  refine gT ?_
  refine ⟨n, EntL.refl _, hn, ?_⟩
  refine gT ?_
  exact EntR.int rfl
end Go.Proofs

namespace Go.Proofs
open Go Go.Sx
variable {mx : Int} {pb : Bool}

/-- What cpset.Make owns while it sorts. -/
def owR (L : List Rg) : List Own := [.cells 40 [nilV], rowL 42 2 rgD L]
def Γrc : Ctx := fun f => match f with
  | 71 => some (.pure ctRgC)
  | _ => none
theorem Γrc_ok : CtxOk Tryz.prog (GlT mx pb) Γrc := by
  intro f h hh
  simp only [Γrc] at hh
  split at hh <;> simp at hh <;> subst hh
  exact rgC_ok
noncomputable def cInsR : Code := (Tryz.f145.body).getD .skip
theorem own_set0 {ρ : List Nat} : OwnRen ρ (.cells 40 [nilV]) (.cells 40 [nilV]) := ⟨rfl, EntL.refl _, rfl⟩
set_option maxHeartbeats 1000000 in
theorem insR_in {Y : Ys} {L : List Rg} {k : D → List Own → Prop} (hn : L.length ≤ 1000000) (hk : k (.tu []) (owR (outerS rgLt L (L.length - 1)))) :
    inlW true Γrc Tryz.T (GlT mx pb) Tryz.f145 cInsR Y [.row 1, .v (.int .i64 0), .v (.int .i64 L.length), .fn 71 []] (owR L) k := by
  refine ⟨by show 4 ≤ 53; decide, ?_⟩
  refine gA ?_
  refine ⟨0, Nat, fun i => ⟨[(0, .row 1), (1, .v (.int .i64 0)), (2, .v (.int .i64 L.length)), (3, .fn 71 []), (8, .v (.int .i64 i))], owR (outerS rgLt L (i - 1)), []⟩, fun i => 1 ≤ i ∧ i ≤ max 1 L.length, fun i => L.length - i, fun _ => Nat.le_refl _, ⟨1, ⟨Nat.le_refl _, by omega⟩, StLe.two tmS ⟨own_set0, own_refl, trivial⟩⟩, ?_⟩
  rintro i ⟨hi1, hi2⟩
  refine gA ?_
  refine And.intro (fun h => ?_) (fun h => ?_)
  · have h : i < L.length := by have := of_decide_eq_true h; omega
    refine gA ?_
    refine ⟨0, Nat × List Rg, fun x => ⟨[(0, .row 1), (1, .v (.int .i64 0)), (2, .v (.int .i64 L.length)), (3, .fn 71 []), (8, .v (.int .i64 i)), (9, .v (.int .i64 x.1))], owR x.2, []⟩, fun x => x.1 ≤ i ∧ x.2.length = L.length ∧ innerS rgLt x.2 x.1 = outerS rgLt L i, fun x => x.1, fun _ => Nat.le_refl _, ⟨(i, outerS rgLt L (i - 1)), ⟨Nat.le_refl _, outerS_length _, ?_⟩, StLe.two tmS ⟨own_set0, own_refl, trivial⟩⟩, ?_⟩
    · obtain ⟨i', rfl⟩ : ∃ i', i = i' + 1 := ⟨i - 1, by omega⟩
      rfl
    rintro ⟨j, X⟩ ⟨hj, hX, hin⟩
    have hj : j ≤ i := hj
    have hX : X.length = L.length := hX
    refine gA ?_
    generalize hp : decide ((j : Int) > 0) = p
    cases p with
    | true =>
      have hp : 0 < j := by have := of_decide_eq_true hp; omega
      refine gA ?_
      refine ⟨(X.getD j default, X.getD ((j : Int) - 1).toNat default), EntL.refl _, trivial, ?_⟩
      refine gA ?_
      refine And.intro (fun hlt => ?_) (fun hlt => ?_)
      · have hlt : rgLt (X.getD j default) (X.getD (j - 1) default) = true := by rw [← toNat_pred]; exact hlt
        have e0 : innerS rgLt (swp X (j - 1)) (j - 1) = outerS rgLt L i := by
          obtain ⟨j', rfl⟩ : ∃ j', j = j' + 1 := ⟨j - 1, by omega⟩
          have hin : innerS rgLt X (j' + 1) = outerS rgLt L i := hin
          exact (if_pos hlt).symm.trans hin
        refine gA ?_
        exact ⟨(j - 1, swp X (j - 1)), ⟨by show j - 1 ≤ i; omega, by rw [← hX]; exact swp_length, e0⟩, by show j - 1 < j; omega, StLe.two tmS ⟨own_set0, by rw [← toNat_pred]; exact own_swap (by show j = ((j : Int) - 1).toNat + 1; omega) (by show j < X.length; omega) (fun q hq => by match q, hq with | 0, _ => rfl | 1, _ => rfl) (fun q hq => by match q, hq with | 0, _ => rfl | 1, _ => rfl), trivial⟩⟩
      · have hlt : rgLt (X.getD j default) (X.getD (j - 1) default) = false := by rw [← toNat_pred]; exact hlt
        have e0 : X = outerS rgLt L i := by
          obtain ⟨j', rfl⟩ : ∃ j', j = j' + 1 := ⟨j - 1, by omega⟩
          have hin : innerS rgLt X (j' + 1) = outerS rgLt L i := hin
          exact (if_neg (fun hh => Bool.noConfusion (hlt.symm.trans hh))).symm.trans hin
        refine gA ?_
        exact ⟨i + 1, ⟨by omega, by omega⟩, by show L.length - (i + 1) < L.length - i; omega, StLe.two tmS ⟨own_set0, own_eq e0, trivial⟩⟩
    | false =>
      have hp : j = 0 := by have := of_decide_eq_false hp; omega
      subst hp
      refine gA ?_
      exact ⟨i + 1, ⟨by omega, by omega⟩, by show L.length - (i + 1) < L.length - i; omega, StLe.two tmS ⟨own_set0, own_eq hin, trivial⟩⟩
  · have h : ¬ i < L.length := by have := of_decide_eq_false h; omega
    have e : i - 1 = L.length - 1 := by omega
    have hk' : k (.tu []) (owR (outerS rgLt L (i - 1))) := by rw [e]; exact hk
    refine gA ?_
    exact hk'
end Go.Proofs

namespace Go.Proofs
open Go Go.Sx
variable {mx : Int} {pb : Bool}

/-! pdqsort of what is ascending -/
def owS (L : List Rg) : List Own := [.cells 40 [nilV], rowL 42 2 rgD L, .cells 3 [.v (.int .i64 0)]]
noncomputable def cOrdR : Code := (Tryz.f189.body).getD .skip
noncomputable def cMedR : Code := (Tryz.f175.body).getD .skip
noncomputable def cMedaR : Code := (Tryz.f174.body).getD .skip
noncomputable def cChoR : Code := (Tryz.f148.body).getD .skip
noncomputable def cParR : Code := (Tryz.f150.body).getD .skip
noncomputable def cPdqR : Code := (Tryz.f113.body).getD .skip
noncomputable def cSortR : Code := (Tryz.f70.body).getD .skip
section
variable {Y : Ys} {L : List Rg} {k : D → List Own → Prop}
theorem ordR_in {a b : Int} (h0 : 0 ≤ a) (ha : a < b) (hb : b < L.length) (hs : AscTo rgLt L L.length) (hk : k (.tu [.v (.int .i64 a), .v (.int .i64 b)]) (owS L)) :
    inlW true Γrc Tryz.T (GlT mx pb) Tryz.f189 cOrdR Y [.row 1, .v (.int .i64 a), .v (.int .i64 b), .own 2 0, .fn 71 []] (owS L) k := by
  refine ⟨by show 5 ≤ 32; decide, ?_⟩
  refine gA ?_
  refine ⟨(L.getD b.toNat default, L.getD a.toNat default), EntL.refl _, trivial, ?_⟩
  refine gA ?_
  refine And.intro (fun h => ?_) (fun _ => ?_)
  · have h : rgLt (L.getD b.toNat default) (L.getD a.toNat default) = true := h
    rw [hs a.toNat b.toNat (by omega) (by omega)] at h; cases h
  refine gA ?_
  exact hk
end
noncomputable def Γrd (mx : Int) (pb : Bool) : Ctx := fun f => match f with
  | 189 => some (.gen (inlW true Γrc Tryz.T (GlT mx pb) Tryz.f189 cOrdR))
  | _ => none
theorem Γrd_ok : CtxOk Tryz.prog (GlT mx pb) (Γrd mx pb) := by
  intro f h hh
  simp only [Γrd] at hh
  split at hh <;> simp at hh <;> subst hh
  exact soundT_inlW Γrc_ok Tryz.T_ok Tryz.mixed Tryz.func189 rfl (by kernel_rfl)
section
variable {Y : Ys} {L : List Rg} {k : D → List Own → Prop}
theorem medR_in {a b c : Int} (h0 : 0 ≤ a) (ha : a < b) (hb : b < c) (hc : c < L.length) (hs : AscTo rgLt L L.length) (hk : k (.v (.int .i64 b)) (owS L)) :
    inlW true (Γrd mx pb) Tryz.T (GlT mx pb) Tryz.f175 cMedR Y [.row 1, .v (.int .i64 a), .v (.int .i64 b), .v (.int .i64 c), .own 2 0, .fn 71 []] (owS L) k := by
  refine ⟨by show 6 ≤ 41; decide, ?_⟩
  refine gA ?_
  refine ordR_in h0 ha (by omega) hs ?_
  refine gA ?_
  refine ordR_in (by omega) hb hc hs ?_
  refine gA ?_
  refine ordR_in h0 ha (by omega) hs ?_
  refine gA ?_
  exact hk
end
noncomputable def Γre (mx : Int) (pb : Bool) : Ctx := fun f => match f with
  | 175 => some (.gen (inlW true (Γrd mx pb) Tryz.T (GlT mx pb) Tryz.f175 cMedR))
  | _ => none
theorem Γre_ok : CtxOk Tryz.prog (GlT mx pb) (Γre mx pb) := by
  intro f h hh
  simp only [Γre] at hh
  split at hh <;> simp at hh <;> subst hh
  exact soundT_inlW Γrd_ok Tryz.T_ok Tryz.mixed Tryz.func175 rfl (by kernel_rfl)
section
variable {Y : Ys} {L : List Rg} {k : D → List Own → Prop}
theorem medaR_in {a : Int} (ha : 0 < a) (hc : a + 1 < L.length) (hn : L.length < 65536) (hs : AscTo rgLt L L.length) (hk : k (.v (.int .i64 a)) (owS L)) :
    inlW true (Γre mx pb) Tryz.T (GlT mx pb) Tryz.f174 cMedaR Y [.row 1, .v (.int .i64 a), .own 2 0, .fn 71 []] (owS L) k := by
  refine ⟨by show 4 ≤ 18; decide, ?_⟩
  refine gA ?_
  refine medR_in (by omega) (by omega) (by omega) hc hs ?_
  refine gA ?_
  exact hk
end
noncomputable def Γrf (mx : Int) (pb : Bool) : Ctx := fun f => match f with
  | 175 => some (.gen (inlW true (Γrd mx pb) Tryz.T (GlT mx pb) Tryz.f175 cMedR))
  | 174 => some (.gen (inlW true (Γre mx pb) Tryz.T (GlT mx pb) Tryz.f174 cMedaR))
  | _ => none
theorem Γrf_ok : CtxOk Tryz.prog (GlT mx pb) (Γrf mx pb) := by
  intro f h hh
  simp only [Γrf] at hh
  split at hh <;> simp at hh <;> subst hh
  · exact soundT_inlW Γrd_ok Tryz.T_ok Tryz.mixed Tryz.func175 rfl (by kernel_rfl)
  · exact soundT_inlW Γre_ok Tryz.T_ok Tryz.mixed Tryz.func174 rfl (by kernel_rfl)
section
variable {Y : Ys} {L : List Rg} {k : D → List Own → Prop}
theorem choR_in (h12 : 12 < L.length) (hn : L.length < 65536) (hs : AscTo rgLt L L.length) (hk : ∀ j : Int, k (.tu [.v (.int .i64 j), .v (.int .i64 1)]) (owS L)) :
    inlW true (Γrf mx pb) Tryz.T (GlT mx pb) Tryz.f148 cChoR Y [.row 1, .v (.int .i64 0), .v (.int .i64 L.length), .fn 71 []] (owR L) k := by
  refine ⟨by show 4 ≤ 63; decide, ?_⟩
  refine gA ?_
  refine And.intro (fun _ => ?_) (fun h => absurd (of_decide_eq_false h) (by omega))
  refine gA ?_
  refine And.intro (fun h => ?_) (fun _ => ?_)
  · have h := of_decide_eq_true h
    refine gA ?_
    refine medaR_in (by omega) (by omega) hn hs ?_
    refine gA ?_
    refine medaR_in (by omega) (by omega) hn hs ?_
    refine gA ?_
    refine medaR_in (by omega) (by omega) hn hs ?_
    refine gA ?_
    refine medR_in (by omega) (by omega) (by omega) (by omega) hs ?_
    refine gA ?_
    exact hk _
  · refine gA ?_
    refine medR_in (by omega) (by omega) (by omega) (by omega) hs ?_
    refine gA ?_
    exact hk _
set_option maxHeartbeats 1000000 in
theorem parR_in (h2 : 2 ≤ L.length) (hn : L.length < 65536) (hs : AscTo rgLt L L.length) (hk : k (.v (.bool true)) (owS L)) :
    inlW true Γrc Tryz.T (GlT mx pb) Tryz.f150 cParR Y [.row 1, .v (.int .i64 0), .v (.int .i64 L.length), .fn 71 []] (owS L) k := by
  refine ⟨by show 4 ≤ 141; decide, ?_⟩
  refine gA ?_
  refine ⟨2, ?_⟩
  refine gA ?_
  refine ⟨0, Nat, fun i => ⟨[(0, .row 1), (1, .v (.int .i64 0)), (2, .v (.int .i64 L.length)), (3, .fn 71 []), (9, .v (.int .i64 i)), (10, .v (.int .i64 0))], owS L, []⟩, fun i => 1 ≤ i ∧ i ≤ L.length, fun i => L.length - i, fun _ => Nat.le_refl _, ⟨1, ⟨Nat.le_refl _, by omega⟩, StLe.three tmS ⟨own_set0, own_refl, ⟨rfl, EntL.refl _, rfl⟩, trivial⟩⟩, ?_⟩
  rintro i ⟨hi1, hi2⟩
  refine gA ?_
  generalize hp : decide ((i : Int) < (L.length : Int)) = p
  cases p with
  | true =>
    have hp : i < L.length := by have := of_decide_eq_true hp; omega
    refine gA ?_
    refine ⟨(L.getD i default, L.getD ((i : Int) - 1).toNat default), EntL.refl _, trivial, ?_⟩
    refine gA ?_
    refine And.intro (fun _ => ?_) (fun h => ?_)
    · refine gA ?_
      exact ⟨i + 1, ⟨by omega, by omega⟩, by show L.length - (i + 1) < L.length - i; omega, StLe.three tmS ⟨own_set0, own_refl, ⟨rfl, EntL.refl _, rfl⟩, trivial⟩⟩
    · have h : (!rgLt (L.getD i default) (L.getD ((i : Int) - 1).toNat default)) = false := h
      rw [hs ((i : Int) - 1).toNat i (by omega) hp] at h; cases h
  | false =>
    have hp : i = L.length := by have := of_decide_eq_false hp; omega
    subst hp
    refine gA ?_
    refine And.intro (fun _ => ?_) (fun h => ?_)
    · refine gA ?_
      exact hk
    · simp at h
end
noncomputable def Γrg (mx : Int) (pb : Bool) : Ctx := fun f => match f with
  | 145 => some (.gen (inlW true Γrc Tryz.T (GlT mx pb) Tryz.f145 cInsR))
  | 148 => some (.gen (inlW true (Γrf mx pb) Tryz.T (GlT mx pb) Tryz.f148 cChoR))
  | 150 => some (.gen (inlW true Γrc Tryz.T (GlT mx pb) Tryz.f150 cParR))
  | _ => none
theorem Γrg_ok : CtxOk Tryz.prog (GlT mx pb) (Γrg mx pb) := by
  intro f h hh
  simp only [Γrg] at hh
  split at hh <;> simp at hh <;> subst hh
  · exact soundT_inlW Γrc_ok Tryz.T_ok Tryz.mixed Tryz.func145 rfl (by kernel_rfl)
  · exact soundT_inlW Γrf_ok Tryz.T_ok Tryz.mixed Tryz.func148 rfl (by kernel_rfl)
  · exact soundT_inlW Γrc_ok Tryz.T_ok Tryz.mixed Tryz.func150 rfl (by kernel_rfl)
section
variable {Y : Ys} {L : List Rg} {k : D → List Own → Prop}
/-- Few ranges are sorted, ascending ones are left. -/
theorem pdqR_in {lim : Int} (hn : L.length < 65536) (hl : 12 < L.length → lim ≠ 0) (hs : L.length ≤ 12 ∨ AscTo rgLt L L.length)
    (hk : ∀ ow, (ow = [] ∨ ow = [.cells 3 [.v (.int .i64 0)]]) → k (.tu []) (owR (outerS rgLt L (L.length - 1)) ++ ow)) :
    inlW true (Γrg mx pb) Tryz.T (GlT mx pb) Tryz.f113 cPdqR Y [.row 1, .v (.int .i64 0), .v (.int .i64 L.length), .v (.int .i64 lim), .fn 71 []] (owR L) k := by
  refine ⟨by show 5 ≤ 148; decide, ?_⟩
  refine gA ?_
  refine ⟨2, ?_⟩
  refine gA ?_
  refine And.intro (fun _ => ?_) (fun h => ?_)
  · refine gA ?_
    refine insR_in (by omega) ?_
    refine gA ?_
    exact hk [] (.inl rfl)
  · have h : 12 < L.length := by have := of_decide_eq_false h; omega
    have hs := hs.resolve_left (by omega)
    have hlim := hl h
    refine gA ?_
    refine And.intro (fun h => absurd (eq_of_beq h) hlim) (fun _ => ?_)
    refine gA ?_
    refine choR_in h hn hs fun j => ?_
    refine gA ?_
    refine parR_in (by omega) hn hs ?_
    refine gA ?_
    have e : outerS rgLt L (L.length - 1) = L := by
      have : ∀ i, i < L.length → outerS rgLt L i = L := by
        intro i
        induction i with
        | zero => intro _; rfl
        | succ i ih =>
          intro hi
          rw [outerS, ih (by omega)]
          exact innerS_id fun p q h1 h2 => hs p q h1 (by omega)
      exact this _ (by omega)
    have := hk [.cells 3 [.v (.int .i64 0)]] (.inr rfl)
    rw [e] at this
    exact this
end
noncomputable def Γrh (mx : Int) (pb : Bool) : Ctx := fun f => match f with
  | 113 => some (.gen (inlW true (Γrg mx pb) Tryz.T (GlT mx pb) Tryz.f113 cPdqR))
  | 64 => some (.pure ctLen)
  | _ => none
theorem Γrh_ok : CtxOk Tryz.prog (GlT mx pb) (Γrh mx pb) := by
  intro f h hh
  simp only [Γrh] at hh
  split at hh <;> simp at hh <;> subst hh
  · exact soundT_inlW Γrg_ok Tryz.T_ok Tryz.mixed Tryz.func113 rfl (by kernel_rfl)
  · exact len_ok
section
variable {Y : Ys} {L : List Rg} {k : D → List Own → Prop}
theorem sortR_in (hn : L.length < 65536) (hs : L.length ≤ 12 ∨ AscTo rgLt L L.length)
    (hk : ∀ ow, (ow = [] ∨ ow = [.cells 3 [.v (.int .i64 0)]]) → k (.tu []) (owR (outerS rgLt L (L.length - 1)) ++ ow)) :
    inlW true (Γrh mx pb) Tryz.T (GlT mx pb) Tryz.f70 cSortR Y [.row 1, .fn 71 []] (owR L) k := by
  refine ⟨by show 2 ≤ 14; decide, ?_⟩
  refine gA ?_
  refine ⟨(L.length : Int), EntL.cons (Ent.int (IntWalk.u64_in _ (by omega))) (EntL.refl _), (show 0 ≤ (L.length : Int) ∧ (L.length : Int) < 65536 by omega), ?_⟩
  refine gA ?_
  refine pdqR_in hn (fun h => lenF_pos (by omega)) hs fun ow how => ?_
  refine gA ?_
  exact hk ow how
end
end Go.Proofs

namespace Go.Proofs
open Go Go.Sx
variable {mx : Int} {pb : Bool}

/-! cpset.Make -/
def clipK (l : List Rg) : Nat → List Rg
  | 0 => []
  | k + 1 => if (clipR (l.getD k default)).1 ≤ (clipR (l.getD k default)).2 then clipK l k ++ [clipR (l.getD k default)] else clipK l k
theorem clipK_len (l : List Rg) : ∀ k, (clipK l k).length ≤ k
  | 0 => by simp [clipK]
  | k + 1 => by
    have := clipK_len l k
    simp only [clipK]
    split
    · simp; omega
    · omega
theorem clipK_ok (l : List Rg) : ∀ k, ∀ r ∈ clipK l k, 0 ≤ r.1 ∧ r.1 ≤ r.2 ∧ r.2 ≤ 1114111
  | 0, r, h => by simp [clipK] at h
  | k + 1, r, h => by
    simp only [clipK] at h
    split at h
    · rename_i h1
      rcases List.mem_append.1 h with h | h
      · exact clipK_ok l k r h
      · rw [List.mem_singleton.1 h]; simp only [clipR] at h1 ⊢; omega
    · exact clipK_ok l k r h
theorem clipK_mem (l : List Rg) (c : Int) : ∀ k, k ≤ l.length → (inR (clipK l k) c ↔ (0 ≤ c ∧ c ≤ 1114111) ∧ inR (l.take k) c)
  | 0, _ => by simp [clipK, inR]
  | k + 1, hk => by
    have ih := clipK_mem l c k (by omega)
    have e : l.take (k + 1) = l.take k ++ [l.getD k default] := by
      rw [List.take_add_one]
      simp [List.getD_eq_getElem?_getD, show k < l.length by omega]
    rw [e, inR_append, inR_cons]
    simp only [clipK, inR_nil, or_false]
    split
    · rename_i h1
      rw [inR_append, ih, inR_cons]
      simp only [inR_nil, or_false, clipR]
      constructor
      · rintro (h | h)
        · exact ⟨h.1, .inl h.2⟩
        · exact ⟨by omega, .inr (by omega)⟩
      · rintro ⟨h, h2 | h2⟩
        · exact .inl ⟨h, h2⟩
        · exact .inr (by omega)
    · rename_i h1
      rw [ih]
      simp only [clipR] at h1
      constructor
      · rintro ⟨h, h2⟩; exact ⟨h, .inl h2⟩
      · rintro ⟨h, h2 | h2⟩
        · exact ⟨h, h2⟩
        · exfalso; omega
/-- The ranges that come of ascending ones. -/
structure MrgInv (P : List Rg) (k : Nat) (out : List Rg) : Prop where
  canon : Canon out
  mem : ∀ c, inR out c ↔ inR (P.take k) c
  lo : ∀ r ∈ out, ∀ j, k ≤ j → j < P.length → r.1 ≤ (P.getD j default).1
theorem take_snoc {P : List Rg} {k : Nat} (hk : k < P.length) : P.take (k + 1) = P.take k ++ [P.getD k default] := by
  rw [List.take_add_one]
  simp [List.getD_eq_getElem?_getD, hk]
theorem mrg_app {P out : List Rg} {k : Nat} (h : MrgInv P k out) (hk : k < P.length) (hok : ∀ r ∈ P, 0 ≤ r.1 ∧ r.1 ≤ r.2 ∧ r.2 ≤ 1114111) (hs : ∀ p q, p < q → q < P.length → (P.getD p default).1 ≤ (P.getD q default).1)
    (hc : ¬ (out.length > 0 ∧ (P.getD k default).1 ≤ (out.getD (out.length - 1) default).2 + 1)) : MrgInv P (k + 1) (out ++ [P.getD k default]) := by
  have hr := hok _ (getD_mem hk)
  refine ⟨Canon.snoc h.canon hr fun t ht => ?_, fun c => ?_, fun r hr' j hj hjl => ?_⟩
  · have hpos : 0 < out.length := List.length_pos_of_mem ht
    have hlast : (out.getD (out.length - 1) default).2 + 1 < (P.getD k default).1 := by
      rcases Int.lt_or_le ((out.getD (out.length - 1) default).2 + 1) ((P.getD k default).1) with h1 | h1
      · exact h1
      · exact absurd ⟨hpos, h1⟩ hc
    obtain ⟨i, hi, rfl⟩ := List.getElem_of_mem ht
    rcases Nat.lt_or_ge i (out.length - 1) with h1 | h1
    · have h2 := List.pairwise_iff_getElem.1 h.canon.sep i (out.length - 1) hi (by omega) h1
      have h3 := h.canon.ok _ (List.getElem_mem (show out.length - 1 < out.length by omega))
      have e : out.getD (out.length - 1) default = out[out.length - 1]'(by omega) := by simp [List.getD_eq_getElem?_getD, show out.length - 1 < out.length by omega]
      rw [e] at hlast
      omega
    · have e : out.getD (out.length - 1) default = out[i] := by
        have : i = out.length - 1 := by omega
        subst this
        simp [List.getD_eq_getElem?_getD, hi]
      rw [e] at hlast
      exact hlast
  · rw [inR_append, h.mem c, take_snoc hk, inR_append]
  · rcases List.mem_append.1 hr' with h1 | h1
    · exact h.lo r h1 j (by omega) hjl
    · rw [List.mem_singleton.1 h1]; exact hs k j (by omega) hjl
theorem mrg_set {P out : List Rg} {k : Nat} (h : MrgInv P k out) (hk : k < P.length) (hok : ∀ r ∈ P, 0 ≤ r.1 ∧ r.1 ≤ r.2 ∧ r.2 ≤ 1114111)
    (hpos : 0 < out.length) (hc : (P.getD k default).1 ≤ (out.getD (out.length - 1) default).2 + 1) :
    MrgInv P (k + 1) (out.set (out.length - 1) ((out.getD (out.length - 1) default).1, max (out.getD (out.length - 1) default).2 (P.getD k default).2)) := by
  obtain ⟨init, x, rfl⟩ : ∃ init x, out = init ++ [x] := ⟨out.dropLast, out.getLast (by intro e; simp [e] at hpos), (List.dropLast_concat_getLast _).symm⟩
  have ex : (init ++ [x]).getD ((init ++ [x]).length - 1) default = x := by simp [List.getD_eq_getElem?_getD]
  rw [ex] at hc ⊢
  have es : (init ++ [x]).set ((init ++ [x]).length - 1) (x.1, max x.2 (P.getD k default).2) = init ++ [(x.1, max x.2 (P.getD k default).2)] := by simp [List.set_append_right]
  rw [es]
  have hr := hok _ (getD_mem hk)
  have hx := h.canon.ok x (by simp)
  have hp := List.pairwise_append.1 h.canon.sep
  have hlo := h.lo x (by simp) k (Nat.le_refl _) hk
  refine ⟨Canon.snoc ⟨fun t ht => h.canon.ok t (by simp [ht]), hp.1⟩ (by simp only; omega) (fun t ht => hp.2.2 t ht x (by simp)), fun c => ?_, fun r hr' j hj hjl => ?_⟩
  · have hm := h.mem c
    rw [inR_append] at hm
    rw [take_snoc hk, inR_append, inR_append, ← hm, inR_cons, inR_cons, inR_cons]
    simp only [inR_nil, or_false, or_assoc]
    refine or_congr_right ?_
    omega
  · rcases List.mem_append.1 hr' with h1 | h1
    · exact h.lo r (by simp [h1]) j (by omega) hjl
    · rw [List.mem_singleton.1 h1]; exact h.lo x (by simp) j (by omega) hjl
theorem rgLt_asym : ∀ x y, rgLt x y = true → rgLt y x = false := fun x y h => by rw [rgLt_iff] at h; rw [rgLt_no]; omega
theorem rgLt_tr : ∀ x y z, rgLt y x = false → rgLt z y = false → rgLt z x = false := fun x y z h1 h2 => by rw [rgLt_no] at h1 h2 ⊢; omega
theorem sorted_ok {L : List Rg} : AscTo rgLt (outerS rgLt L (L.length - 1)) L.length := by
  rcases Nat.eq_zero_or_pos L.length with h | h
  · intro p q h1 h2; omega
  · have := outerS_asc rgLt_asym rgLt_tr (L := L) (k := L.length - 1) (by omega)
    rw [show L.length - 1 + 1 = L.length by omega] at this
    exact this
theorem sorted_perm {L : List Rg} : (outerS rgLt L (L.length - 1)).Perm L := by
  rcases Nat.eq_zero_or_pos L.length with h | h
  · rw [h]; exact List.Perm.refl _
  · exact outerS_perm rgLt (by omega)
theorem inR_perm {l m : List Rg} (h : l.Perm m) (c : Int) : inR l c ↔ inR m c := by
  unfold inR
  constructor
  · rintro ⟨r, hr, h1⟩; exact ⟨r, h.mem_iff.1 hr, h1⟩
  · rintro ⟨r, hr, h1⟩; exact ⟨r, h.mem_iff.2 hr, h1⟩
theorem mrg_done {l out : List Rg} (h : MrgInv (outerS rgLt (clipK l l.length) ((clipK l l.length).length - 1)) (clipK l l.length).length out) : out = canon l := by
  refine canon_of h.canon fun c => ?_
  rw [h.mem c]
  have e : ((outerS rgLt (clipK l l.length) ((clipK l l.length).length - 1)).take (clipK l l.length).length) = outerS rgLt (clipK l l.length) ((clipK l l.length).length - 1) := List.take_of_length_le (by rw [outerS_length]; exact Nat.le_refl _)
  rw [e, inR_perm sorted_perm, clipK_mem l c _ (Nat.le_refl _), List.take_length]
/-- Ascending ranges stay so. -/
theorem clipK_asc {l : List Rg} (hok : ∀ r ∈ l, 0 ≤ r.1 ∧ r.2 ≤ 1114111) (h : AscTo rgLt l l.length) : ∀ k, k ≤ l.length → AscTo rgLt (clipK l k) (clipK l k).length ∧ ∀ r ∈ clipK l k, ∀ j, k ≤ j → j < l.length → rgLt (clipR (l.getD j default)) r = false
  | 0, _ => ⟨fun p q h1 h2 => by simp [clipK] at h2, fun r hr => by simp [clipK] at hr⟩
  | k + 1, hk => by
    obtain ⟨ih1, ih2⟩ := clipK_asc hok h k (by omega)
    have step : ∀ j, k + 1 ≤ j → j < l.length → rgLt (clipR (l.getD j default)) (clipR (l.getD k default)) = false := by
      intro j hj hjl
      have := h k j (by omega) hjl
      have := hok _ (getD_mem hjl)
      have := hok _ (getD_mem (show k < l.length by omega))
      rw [rgLt_no] at *
      simp only [clipR]
      omega
    simp only [clipK]
    split
    · refine ⟨fun p q hpq hq => ?_, fun r hr j hj hjl => ?_⟩
      · simp only [List.length_append, List.length_singleton] at hq
        rw [getD_snoc, getD_snoc]
        rcases Nat.lt_or_ge q (clipK l k).length with h1 | h1
        · rw [if_pos h1, if_pos (by omega)]; exact ih1 p q hpq h1
        · have : q = (clipK l k).length := by omega
          subst this
          rw [if_neg (by omega), if_pos rfl, if_pos hpq]
          exact ih2 _ (getD_mem hpq) k (Nat.le_refl _) (by omega)
      · rcases List.mem_append.1 hr with h1 | h1
        · exact ih2 r h1 j (by omega) hjl
        · rw [List.mem_singleton.1 h1]; exact step j hj hjl
    · exact ⟨ih1, fun r hr j hj hjl => ih2 r hr j (by omega) hjl⟩
end Go.Proofs

namespace Go.Proofs
open Go Go.Sx
variable {mx : Int} {pb : Bool}

def setD (l : List Rg) : D := .ag [rgsD l]
/-- Few ranges, or ascending ones. -/
def mkOk (l : List Rg) : Prop := l.length < 65536 ∧ (l.length ≤ 12 ∨ ((∀ r ∈ l, 0 ≤ r.1 ∧ r.2 ≤ 1114111) ∧ AscTo rgLt l l.length))
def ctMake : Ct := { ι := List Rg, inp := fun l => [rgsD l], out := fun l => setD (canon l), pre := mkOk }
noncomputable def Γrk (mx : Int) (pb : Bool) : Ctx := fun f => match f with
  | 70 => some (.gen (inlW true (Γrh mx pb) Tryz.T (GlT mx pb) Tryz.f70 cSortR))
  | _ => none
theorem Γrk_ok : CtxOk Tryz.prog (GlT mx pb) (Γrk mx pb) := by
  intro f h hh
  simp only [Γrk] at hh
  split at hh <;> simp at hh <;> subst hh
  exact soundT_inlW Γrh_ok Tryz.T_ok Tryz.mixed Tryz.func70 rfl (by kernel_rfl)
set_option maxHeartbeats 2000000 in
theorem cpMake_ok : Sound Tryz.prog (GlT mx pb) 44 ctMake := by
  refine sound_by (cc := true) Γrk_ok Tryz.T_ok Tryz.mixed Tryz.func44 rfl (by kernel_rfl) (fun _ => rfl) (fun _ _ => by show 1 ≤ 79; decide) ?_
  intro (l : List Rg) ⟨(hl : l.length < 65536), (hs : l.length ≤ 12 ∨ ((∀ r ∈ l, 0 ≤ r.1 ∧ r.2 ≤ 1114111) ∧ AscTo rgLt l l.length))⟩
  refine gA ?_
  refine ⟨0, Nat, fun k => ⟨[(2, .own 0 0), (3, .row 1), (11, rgsD l), (12, .v (.int .i64 l.length)), (13, .v (.int .i64 k))], owR (clipK l k), []⟩, fun k => k ≤ l.length, fun k => l.length - k, fun _ => Nat.zero_le _, ⟨0, Nat.zero_le _, StLe.trans (StLe.nilRow (t := 3) 42 2 (fun _ _ => .junk) rfl) (StLe.ren [0, 1] tmS ⟨own_set0, own_nil, trivial⟩ (by decide))⟩, ?_⟩
  intro k hk
  have hk : k ≤ l.length := hk
  have hcl := clipK_len l k
  refine gA ?_
  refine And.intro (fun h => ?_) (fun h => ?_)
  · have h : k < l.length := by have := of_decide_eq_true h; omega
    refine gA ?_
    refine And.intro (fun h1 => ?_) (fun h1 => ?_)
    · have h1 : (clipR (l.getD k default)).1 ≤ (clipR (l.getD k default)).2 := of_decide_eq_true h1
      have e : clipK l (k + 1) = clipK l k ++ [clipR (l.getD k default)] := by simp only [clipK, h1, if_true]
      refine gA ?_
      exact ⟨k + 1, (show k + 1 ≤ l.length by omega), (show l.length - (k + 1) < l.length - k by omega), StLe.ren [0, 4] tmS ⟨own_set0, by rw [e]; exact own_app (fun j hj => by match j, hj with | 0, _ => exact Ent.refl _ | 1, _ => exact Ent.refl _), trivial⟩ (by decide)⟩
    · have h1 : ¬ (clipR (l.getD k default)).1 ≤ (clipR (l.getD k default)).2 := of_decide_eq_false h1
      have e : clipK l (k + 1) = clipK l k := by simp only [clipK, h1, if_false]
      refine gA ?_
      exact ⟨k + 1, (show k + 1 ≤ l.length by omega), (show l.length - (k + 1) < l.length - k by omega), StLe.ren [0, 1] tmS ⟨own_set0, own_eq e.symm, trivial⟩ (by decide)⟩
  · have h : k = l.length := by have := of_decide_eq_false h; omega
    subst h
    have hX : (clipK l l.length).length ≤ 12 ∨ AscTo rgLt (clipK l l.length) (clipK l l.length).length := by
      rcases hs with hs | ⟨h1, h2⟩
      · left; omega
      · exact .inr (clipK_asc h1 h2 _ (Nat.le_refl _)).1
    have hok := clipK_ok l l.length
    have hdone := fun out => mrg_done (l := l) (out := out)
    have hasc := sorted_ok (L := clipK l l.length)
    have hperm := sorted_perm (L := clipK l l.length)
    refine gA ?_
    refine sortR_in (by omega) hX fun ow how => ?_
    generalize outerS rgLt (clipK l l.length) ((clipK l l.length).length - 1) = X at hdone hasc hperm ⊢
    have hXl : X.length = (clipK l l.length).length := hperm.length_eq
    have hXok : ∀ r ∈ X, 0 ≤ r.1 ∧ r.1 ≤ r.2 ∧ r.2 ≤ 1114111 := fun r hr => hok r (hperm.mem_iff.1 hr)
    have hXs : ∀ p q, p < q → q < X.length → (X.getD p default).1 ≤ (X.getD q default).1 := fun p q h1 h2 => by
      have := hasc p q h1 (by omega)
      rw [rgLt_no] at this; omega
    rw [← hXl] at hdone
    refine gA ?_
    refine ⟨0, Nat × List Rg, fun | (k, out) => ⟨[(2, .own 0 0), (7, .row 2), (36, .row 1), (37, .v (.int .i64 X.length)), (38, .v (.int .i64 k))], [.cells 40 [nilV], rowL 42 2 rgD X, rowL 42 2 rgD out], []⟩, fun | (k, out) => k ≤ X.length ∧ out.length ≤ k ∧ MrgInv X k out, fun x => X.length - x.1, fun _ => Nat.zero_le _, ⟨(0, []), ⟨Nat.zero_le _, Nat.le_refl _, ⟨Canon.nil, fun c => by simp [inR], fun r hr => by simp at hr⟩⟩, ?_⟩, ?_⟩
    · rcases how with rfl | rfl
      · exact StLe.trans (StLe.nilRow (t := 7) 42 2 (fun _ _ => .junk) rfl) (StLe.ren [0, 1, 2] tmS ⟨own_set0, own_refl, own_nil, trivial⟩ (by decide))
      · exact StLe.trans (StLe.nilRow (t := 7) 42 2 (fun _ _ => .junk) rfl) (StLe.ren [0, 1, 3] tmS ⟨own_set0, own_refl, own_nil, trivial⟩ (by decide))
    rintro ⟨k, out⟩ ⟨hk, hol, hI⟩
    refine gA ?_
    refine And.intro (fun h => ?_) (fun h => ?_)
    · have h : k < X.length := by have := of_decide_eq_true h; omega
      refine gA ?_
      generalize hp : decide ((out.length : Int) > 0) = p
      cases p with
      | true =>
        have hp : 0 < out.length := by have := of_decide_eq_true hp; omega
        have hlast := hI.canon.ok _ (getD_mem (show out.length - 1 < out.length by omega))
        rw [← toNat_pred] at hlast
        refine gA ?_
        refine And.intro (fun hc => ?_) (fun hc => ?_)
        · have hc : (X.getD k default).1 ≤ (out.getD ((out.length : Int) - 1).toNat default).2 + 1 := of_decide_eq_true hc
          rw [toNat_pred] at hc
          have hI' := mrg_set hI h hXok hp hc
          refine gA ?_
          exact ⟨(k + 1, _), ⟨by omega, by rw [List.length_set]; omega, hI'⟩, (show X.length - (k + 1) < X.length - k by omega), StLe.ren [0, 1, 2] tmS ⟨own_set0, own_refl, by rw [← toNat_pred]; exact own_set (fun j hj => by match j, hj with | 0, _ => exact Ent.refl _ | 1, _ => exact Ent.refl _) (by omega), trivial⟩ (by decide)⟩
        · have hc : ¬ (X.getD k default).1 ≤ (out.getD ((out.length : Int) - 1).toNat default).2 + 1 := of_decide_eq_false hc
          rw [toNat_pred] at hc
          have hI' := mrg_app hI h hXok hXs (fun hh => hc hh.2)
          refine gA ?_
          exact ⟨(k + 1, out ++ [X.getD k default]), ⟨by omega, by rw [List.length_append, List.length_singleton]; omega, hI'⟩, (show X.length - (k + 1) < X.length - k by omega), StLe.ren [0, 1, 4] tmS ⟨own_set0, own_refl, own_app (fun j hj => by match j, hj with | 0, _ => exact Ent.refl _ | 1, _ => exact Ent.refl _), trivial⟩ (by decide)⟩
      | false =>
        have hp : ¬ out.length > 0 := by have := of_decide_eq_false hp; omega
        have hI' := mrg_app hI h hXok hXs (fun hh => hp hh.1)
        refine gA ?_
        exact ⟨(k + 1, out ++ [X.getD k default]), ⟨by omega, by rw [List.length_append, List.length_singleton]; omega, hI'⟩, (show X.length - (k + 1) < X.length - k by omega), StLe.ren [0, 1, 4] tmS ⟨own_set0, own_refl, own_app (fun j hj => by match j, hj with | 0, _ => exact Ent.refl _ | 1, _ => exact Ent.refl _), trivial⟩ (by decide)⟩
    · have h : k = X.length := by have := of_decide_eq_false h; omega
      subst h
      have e := hdone _ hI
      subst e
      refine gA ?_
      exact EntR.of rfl (Ent.refl _)
#print axioms cpMake_ok
end Go.Proofs
