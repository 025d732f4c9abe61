import Derived.Test.YtnccclpjcidmeaaGreatDoorSxO
namespace Go.Sx
open Go Go.RowKit

/-! A run is an evaluation. -/

section
variable {X : Env} {n m : Nat}

theorem opR_eq {ok : Nat → Bool → Bool} {tm : RTm} {x : Operand} : opnd X.Gl ok tm [] x = opR X tm x := by
  cases x <;> rfl

theorem opRR_eq {ok : Nat → Bool → Bool} {tm : RTm} {ow : List Own} {x : Operand} : opndR X.Gl ok tm [] ow x = opRR X tm ow x := by
  unfold opndR opRR
  rw [opR_eq]
  cases opR X tm x with
  | none => rfl
  | some d =>
    cases d <;> rfl

theorem putK_of {N : Nat} {dst : Option Nat} {d : D} {tm tm' : RTm} {k : RTm → Prop} (h : putR N dst d tm = some tm') (hk : k tm') : putK N dst [] d tm k := by
  unfold putR at h
  unfold putK
  cases dst with
  | none => simp at h; subst h; exact hk
  | some t =>
    simp only at h ⊢
    split at h
    · rename_i hlt
      simp at h; subst h
      simp [hlt, freeG]; exact hk
    · simp at h

theorem thenPut_of {N : Nat} {dst : Option Nat} {tm tm' : RTm} {ow' : List Own} {r : Option (D × List Own)} (h : thenPut N dst tm r = some (tm', ow')) : ∃ d, r = some (d, ow') ∧ putR N dst d tm = some tm' := by
  unfold thenPut at h
  split at h
  · rename_i d o
    split at h
    · rename_i t ht
      simp at h; obtain ⟨rfl, rfl⟩ := h
      exact ⟨d, rfl, ht⟩
    · simp at h
  · simp at h

theorem decP_all : ∀ {vs : List DP}, decP vs = true → AllP vs
  | [], _ => trivial
  | ⟨p, d⟩ :: r, h => by
    simp only [decP] at h
    split at h
    · rename_i hd
      exact ⟨@of_decide_eq_true p d hd, decP_all h⟩
    · simp at h

def preR (X : Env) (n : Nat) (f : FuncId) : Ct :=
  ⟨{ p : List D × D // pdL p.1 = true }, fun p => p.1.1, fun p => p.1.2, fun p => ∃ m, m < n ∧ callV X (runC X m) f p.1.1 = some p.1.2⟩

def YR (X : Env) (q : Nat) (Y : Ys) (Yc : List YC) : Prop :=
  ∀ i j N tm ps as bd Y', lkY Yc i = some (.mk j N tm ps as bd Y') → ∃ t, Y i = some t ∧ ∀ m, m < q → ∀ ds ow d ow' (k : D → List Own → Prop), roundR (runC X m) N tm ps j as bd Y' ds ow = some (d, ow') → k d ow' → t ds ow k

def trR (X : Env) (n : Nat) (f : FuncId) : Tr := fun Y ds ow k => ∃ m Yc d ow', m < n ∧ YR X m Y Yc ∧ callI X (runC X m) f Yc ds ow = some (d, ow') ∧ k d ow'

def ctxR (X : Env) (n : Nat) : Ctx := fun f =>
  if X.same f then some (.ext (X.ext f))
  else if X.pf f then some (.pure (preR X n f))
  else match X.fn f with
    | some fn => if fn.body.isSome then some (.gen (trR X n f)) else none
    | none => none

theorem YR.mono {q q' : Nat} {Y : Ys} {Yc : List YC} (h : YR X q Y Yc) (hq : q' ≤ q) : YR X q' Y Yc := by
  intro i j N tm ps as bd Y' hl
  obtain ⟨t, h1, h2⟩ := h i j N tm ps as bd Y' hl
  exact ⟨t, h1, fun m hm => h2 m (by omega)⟩

theorem YR.nil {q : Nat} {Y : Ys} : YR X q Y [] := fun i j N tm ps as bd Y' h => by simp [lkY] at h

theorem isPure_ctxR : isPure (ctxR X n) = isPureR X := by
  funext f
  unfold isPure isPureR ctxR
  cases h1 : X.same f <;> cases h2 : X.pf f <;> simp
  split <;> try rfl
  rename_i h
  split at h <;> simp at h

theorem callV_pd {rc : RC} {f : FuncId} {ds : List D} {d : D} (h : callV X rc f ds = some d) : pdL ds = true := by
  unfold callV at h
  split at h
  · split at h
    · assumption
    · simp at h
  split at h <;> try (simp at h; done)
  split at h <;> try (simp at h; done)
  split at h
  · assumption
  · simp at h

theorem callI_fn {rc : RC} {f : FuncId} {Y : List YC} {ds : List D} {ow : List Own} {r : D × List Own} (h : callI X rc f Y ds ow = some r) : ∃ fn, X.fn f = some fn ∧ fn.body.isSome = true := by
  unfold callI at h
  split at h <;> try (simp at h; done)
  rename_i fn hfn
  split at h <;> try (simp at h; done)
  rename_i c hc
  exact ⟨fn, hfn, by simp [hc]⟩

theorem callR_ex (hm : m < n) {Y : Ys} {Yc : List YC} (hY : YR X m Y Yc) {N : Nat} {f : FuncId} {dst : Option Nat} {ds : List D} {tm tm' : RTm} {ow ow' : List Own} {d : D} {k : RTm → List Own → Prop}
    (h : callR X (runC X m) f Yc ds ow = some (d, ow')) (hp : putR N dst d tm = some tm') (hk : k tm' ow') : exCall (ctxR X n) Y N f dst ds tm [] ow k := by
  unfold callR at h
  unfold exCall ctxR
  cases h1 : X.same f with
  | true =>
    simp only [h1, if_true] at h ⊢
    split at h
    · rename_i d0 hd0
      simp at h; obtain ⟨rfl, rfl⟩ := h
      simp only [hd0]
      exact putK_of hp hk
    · simp at h
  | false =>
    simp only [h1] at h ⊢
    cases h2 : X.pf f with
    | true =>
      simp only [h2, if_true] at h ⊢
      cases hfr : frzL ow ds with
      | mk ds' ow2 =>
        rw [hfr] at h
        simp at h ⊢
        split at h <;> try (simp at h; done)
        rename_i d2 hc
        simp at h; obtain ⟨rfl, rfl⟩ := h
        exact ⟨⟨(ds', d2), callV_pd hc⟩, fun _ _ _ hh => hh, ⟨m, hm, hc⟩, putK_of hp hk⟩
    | false =>
      simp only [h2] at h ⊢
      simp at h ⊢
      obtain ⟨fn, hfn, hb⟩ := callI_fn h
      simp only [hfn, hb, if_true]
      exact ⟨m, Yc, d, ow', hm, hY, h, putK_of hp hk⟩

theorem runOp_ex (hm : m < n) {Y : Ys} {Yc : List YC} (hY : YR X (m + 1) Y Yc) {N : Nat} {op : Op} {dst : Option Nat} {tm tm' : RTm} {ow ow' : List Own} {k : RTm → List Own → Prop}
    (h : runOp X (runC X m) Yc N op dst tm ow = some (tm', ow')) (hk : k tm' ow') : exOp true (ctxR X n) Y X.T X.Gl N op dst tm [] ow k := by
  have hY' := hY.mono (Nat.le_succ m)
  unfold runOp at h
  split at h
  case h_1 s a b =>
    simp only [exOp, opR_eq]
    split at h <;> try (simp at h; done)
    rename_i x hx
    split at h <;> try (simp at h; done)
    rename_i d hd
    obtain ⟨d', h1, h2⟩ := thenPut_of h
    simp at h1; obtain ⟨rfl, rfl⟩ := h1
    have hx' : opR X tm (.tmp s) = some (.v (.bool x)) := hx
    rw [hx']
    cases x with
    | true => simp only at hd ⊢; rw [hd]; exact ⟨fun _ => putK_of h2 hk, fun e => by simp at e⟩
    | false => simp only at hd ⊢; rw [hd]; exact ⟨fun e => by simp at e, fun _ => putK_of h2 hk⟩
  case h_2 f args _ =>
    simp only [exOp, opR_eq]
    split at h <;> try (simp at h; done)
    rename_i ds hds
    obtain ⟨d', h1, h2⟩ := thenPut_of h
    rw [hds]
    exact callR_ex hm hY' h1 h2 hk
  case h_3 y args _ =>
    simp only [exOp, opR_eq]
    have e1 : opR X tm (.tmp y) = lk tm y := rfl
    rw [e1]
    split at h <;> try (simp at h; done)
    · rename_i f caps ds hy hds
      obtain ⟨d', h1, h2⟩ := thenPut_of h
      rw [hy, hds]
      exact callR_ex hm hY' h1 h2 hk
    · rename_i i ds hy hds
      split at h <;> try (simp at h; done)
      rename_i j N' tm2 ps as bd Y2 hl
      obtain ⟨d', h1, h2⟩ := thenPut_of h
      obtain ⟨t, ht, hr⟩ := hY _ _ _ _ _ _ _ _ hl
      rw [hy, hds]
      simp only [ht]
      exact hr m (Nat.lt_succ_self m) _ _ _ _ _ h1 (putK_of h2 hk)
  case h_4 x name args _ =>
    simp only [exOp, opR_eq]
    split at h <;> try (simp at h; done)
    rename_i t d ds hx hds
    split at h <;> try (simp at h; done)
    rename_i ti hti
    split at h <;> try (simp at h; done)
    rename_i f hf
    obtain ⟨d', h1, h2⟩ := thenPut_of h
    rw [hx, hds]
    simp only [hti, hf]
    exact callR_ex hm hY' h1 h2 hk
  case h_5 s x t t' =>
    simp only [exOp, opR_eq, opRR_eq]
    split at h <;> try (simp at h; done)
    rename_i ds dx hs hx
    split at h <;> try (simp at h; done)
    rename_i vs i o hev
    split at h <;> try (simp at h; done)
    rename_i hvs
    obtain ⟨d', h1, h2⟩ := thenPut_of h
    simp at h1; obtain ⟨rfl, rfl⟩ := h1
    rw [hs, hx]
    simp only [hev]
    exact need_iff.2 ⟨decP_all hvs, putK_of h2 hk⟩
  case h_6 t x ix ok =>
    simp only [exOp, opR_eq]
    split at h <;> try (simp at h; done)
    rename_i h1 h2 h3
    split at h <;> try (simp at h; done)
    rename_i h4 h5 h6 h7
    split at h <;> try (simp at h; done)
    rename_i hc
    split at h <;> try (simp at h; done)
    rename_i z hz
    simp only [h1, h2, h3, h4, h5, h6, h7, hc, hz]
    simp only [and_self, if_true]
    split at h
    · rename_i d hd
      obtain ⟨d', q1, q2⟩ := thenPut_of h
      simp at q1; obtain ⟨rfl, rfl⟩ := q1
      refine ⟨fun d2 hd2 => ?_, fun e => by rw [hd] at e; simp at e⟩
      rw [hd] at hd2; simp at hd2; subst hd2
      exact putK_of q2 hk
    · rename_i hd
      obtain ⟨d', q1, q2⟩ := thenPut_of h
      simp at q1; obtain ⟨rfl, rfl⟩ := q1
      refine ⟨fun d2 hd2 => by rw [hd] at hd2; simp at hd2, fun _ => putK_of q2 hk⟩
  case h_7 op n1 n2 n3 n4 n5 n6 =>
    have e1 : (fun x => opndR X.Gl (fun _ _ => false) tm [] ow x) = opRR X tm ow := by funext x; exact opRR_eq
    unfold exOp
    split
    · exact absurd rfl (n1 _ _ _)
    · exact absurd rfl (n2 _ _ _)
    · exact absurd rfl (n3 _ _ _)
    · exact absurd rfl (n4 _ _ _ _)
    · exact absurd rfl (n5 _ _ _ _)
    · exact absurd rfl (n6 _ _ _ _)
    · rw [e1]
      split at h
      · rename_i vs d hev
        split at h <;> try (simp at h; done)
        rename_i hvs
        obtain ⟨d', q1, q2⟩ := thenPut_of h
        simp at q1; obtain ⟨rfl, rfl⟩ := q1
        simp only [hev]
        exact need_iff.2 ⟨decP_all hvs, putK_of q2 hk⟩
      · rename_i hev
        simp only [hev]
        split at h
        · rename_i d ow2 hen
          obtain ⟨d', q1, q2⟩ := thenPut_of h
          simp at q1; obtain ⟨rfl, rfl⟩ := q1
          simp only [hen]
          exact putK_of q2 hk
        · rename_i hen
          simp only [hen]
          split at h
          · rename_i vs d ow2 heo
            split at h <;> try (simp at h; done)
            rename_i hvs
            obtain ⟨d', q1, q2⟩ := thenPut_of h
            simp at q1; obtain ⟨rfl, rfl⟩ := q1
            simp only [heo]
            exact need_iff.2 ⟨decP_all hvs, putK_of q2 hk⟩
          · rename_i heo
            simp only [heo]
            split at h <;> try (simp at h; done)
            rename_i n neg hnc
            obtain ⟨d', q1, q2⟩ := thenPut_of h
            simp only [Option.some.injEq, Prod.mk.injEq] at q1
            obtain ⟨rfl, rfl⟩ := q1
            simp only [hnc]
            intro q hq
            cases q with
            | true => exact absurd (hq rfl) (by omega)
            | false => exact putK_of q2 hk

theorem runOps_ex (hm : m < n) {Y : Ys} {Yc : List YC} (hY : YR X (m + 1) Y Yc) {N : Nat} {all : List Oper} : ∀ (l : List Oper) {tm tm' : RTm} {ow ow' : List Own} {k : RTm → List Own → Prop},
    runOps X (runC X m) Yc N all l tm ow = some (tm', ow') → k tm' ow' → exOps true (ctxR X n) Y X.T X.Gl N all l tm [] ow k
  | [], tm, tm', ow, ow', k, h, hk => by
    simp [runOps] at h; obtain ⟨rfl, rfl⟩ := h
    exact hk
  | ⟨dst, op, _, _, _, none⟩ :: r, tm, tm', ow, ow', k, h, hk => by
    simp only [runOps] at h
    split at h <;> try (simp at h; done)
    rename_i tm1 ow1 h1
    simp only [exOps]
    exact runOp_ex hm hY h1 (runOps_ex hm hY r h hk)
  | ⟨dst, op, _, _, _, some (j, b)⟩ :: r, tm, tm', ow, ow', k, h, hk => by
    simp only [runOps] at h
    simp only [exOps]
    split at h <;> try (simp at h; done)
    rename_i s _ _ _ _ _ hj
    simp only [hj]
    split at h <;> try (simp at h; done)
    · rename_i x hx
      simp only [lkG, hx]
      split at h
      · rename_i hxb
        split at h <;> try (simp at h; done)
        rename_i tm1 ow1 h1
        exact ⟨fun _ => runOp_ex hm hY h1 (runOps_ex hm hY r h hk), fun e => by rw [hxb] at e; cases b <;> simp at e⟩
      · rename_i hxb
        split at h <;> try (simp at h; done)
        rename_i tm1 h1
        exact ⟨fun e => absurd e hxb, fun _ => putK_of h1 (runOps_ex hm hY r h hk)⟩
    · rename_i x hx
      simp only [lkG, hx]
      split at h <;> try (simp at h; done)
      rename_i tm1 h1
      exact putK_of h1 (runOps_ex hm hY r h hk)

theorem runQ_ex (hm : m < n) {op : Op} {tm : RTm} {ow : List Own} {d : D} {k : D → Prop} (h : runQ X (runC X m) op tm ow = some d) (hk : k d) : exQ true (ctxR X n) X.T X.Gl op (fun _ _ => false) True tm [] ow k := by
  unfold runQ at h
  split at h
  case h_1 s a b =>
    simp only [exQ, opR_eq]
    split at h <;> try (simp at h; done)
    rename_i x hx
    have hx' : opR X tm (.tmp s) = some (.v (.bool x)) := hx
    rw [hx']
    cases x with
    | true => simp only at h ⊢; rw [h]; exact ⟨fun _ => hk, fun e => by simp at e⟩
    | false => simp only at h ⊢; rw [h]; exact ⟨fun e => by simp at e, fun _ => hk⟩
  case h_2 f args _ =>
    simp only [exQ, opR_eq]
    unfold ctxR
    split at h <;> try (simp at h; done)
    rename_i h1
    split at h <;> try (simp at h; done)
    rename_i h2
    split at h <;> try (simp at h; done)
    rename_i ds hds
    simp only [h1, h2, if_true, hds]
    exact ⟨⟨(resL ow ds, d), callV_pd h⟩, fun _ _ _ hh => hh, fun _ => ⟨m, hm, h⟩, hk⟩
  case h_3 op n1 n2 =>
    have e1 : (fun x => opndR X.Gl (fun _ _ => false) tm [] ow x) = opRR X tm ow := by funext x; exact opRR_eq
    unfold exQ
    split
    · exact absurd rfl (n1 _ _ _)
    · exact absurd rfl (n2 _ _ _)
    · rw [e1]
      split at h
      · rename_i vs d' hev
        split at h <;> try (simp at h; done)
        rename_i hvs
        simp at h; subst h
        simp only [hev]
        exact needIf_iff.2 ⟨fun _ => decP_all hvs, hk⟩
      · rename_i hev
        simp only [hev, h]
        exact hk

theorem runPre_ex (hm : m < n) {N : Nat} {all : List Oper} : ∀ (l : List Oper) (p : Nat) {tm tm' : RTm} {ow : List Own} {k : RTm → Gs → Prop},
    runPre X (runC X m) N all l p tm ow = some tm' → k tm' [] → exPre true (ctxR X n) X.T X.Gl N all l p tm [] ow k
  | _, 0, tm, tm', ow, k, h, hk => by
    simp [runPre] at h; subst h
    simp only [exPre]; exact hk
  | [], p + 1, tm, tm', ow, k, h, hk => by
    simp [runPre] at h; subst h
    simp only [exPre]; exact hk
  | ⟨some t, op, _, _, _, none⟩ :: r, p + 1, tm, tm', ow, k, h, hk => by
    simp only [runPre] at h
    simp only [exPre]
    split at h <;> try (simp at h; done)
    rename_i ht
    split at h <;> try (simp at h; done)
    rename_i d hd
    rw [if_pos ht]
    exact runQ_ex hm hd (runPre_ex hm r p h hk)
  | ⟨some t, op, _, _, _, some (j, b)⟩ :: r, p + 1, tm, tm', ow, k, h, hk => by
    simp only [runPre] at h
    simp only [exPre]
    split at h <;> try (simp at h; done)
    rename_i s _ _ _ _ _ hj
    simp only [hj]
    split at h <;> try (simp at h; done)
    · rename_i x hx
      simp only [lkG, hx]
      split at h <;> try (simp at h; done)
      rename_i ht
      split at h <;> try (simp at h; done)
      rename_i hts
      rw [if_pos ht, if_neg hts]
      split at h
      · rename_i hxb
        split at h <;> try (simp at h; done)
        rename_i d hd
        exact ⟨fun _ => runQ_ex hm hd (runPre_ex hm r p h hk), fun e => by rw [hxb] at e; cases b <;> simp at e⟩
      · rename_i hxb
        exact ⟨fun e => absurd e hxb, fun _ => runPre_ex hm r p h hk⟩
    · rename_i x hx
      simp only [lkG, hx]
      split at h <;> try (simp at h; done)
      rename_i ht
      split at h <;> try (simp at h; done)
      rename_i hts
      rw [if_pos ht, if_neg hts]
      exact runPre_ex hm r p h hk
  | ⟨none, _, _, _, _, _⟩ :: r, p + 1, tm, tm', ow, k, h, hk => by simp [runPre] at h

end
end Go.Sx
