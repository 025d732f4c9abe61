import Derived.Test.YtnccclpjcidmeaaGreatDoorSxL
namespace Go.Sx
open Go Go.RowKit

section
variable {P : Program} {T : TT} {B : Nat} {w0 w w' : World} {M0 M M' : Mem} {E E' : List Value} {ow : List Own} {dv : List Deferred}

theorem TRel.putG {N : Nat} {tm : List (Nat × D)} {gs : Gs} {a : Act} (h : TRel dv N M E tm gs a) (hM : M.le M') {t s : Nat} {b : Bool} {d : D} {u : Value} (hu : a.tmps.getD s undef = .bool b → Rep M' E d u) (ht : t < N) (hf : freeG gs t = true) (hne : t ≠ s) :
    TRel dv N M' E (setT tm t .junk) ((t, s, b, d) :: gs) (a.put (some t) u) := by
  refine ⟨by simp [Act.put, h.size], by simp [Act.put, h.defers], fun r x hs => ?_, fun r g c x hs hb => ?_⟩
  · rw [getD_put h.size ht]
    rw [lk_setT] at hs
    split at hs
    · simp at hs; subst hs; simp [Rep]
    · rename_i hst
      rw [if_neg (fun e => hst e.symm)]
      exact Rep.mono hM (EnvLe.refl _) _ _ (h.tmps _ _ hs)
  · simp only [lkG] at hs
    split at hs
    · rename_i hst
      simp at hs; obtain ⟨rfl, rfl, rfl⟩ := hs
      rw [getD_put h.size ht, if_neg (fun e => hne e.symm)] at hb
      rw [getD_put h.size ht, if_pos hst.symm]
      exact hu hb
    · rename_i hst
      obtain ⟨h1, h2⟩ := freeG_spec hf hs
      rw [getD_put h.size ht, if_neg h2] at hb
      rw [getD_put h.size ht, if_neg h1]
      exact Rep.mono hM (EnvLe.refl _) _ _ (h.guarded _ _ _ _ hs hb)

theorem TRel.drop {N : Nat} {tm : List (Nat × D)} {gs : Gs} {a : Act} (h : TRel dv N M E tm gs a) : TRel dv N M E tm [] a :=
  ⟨h.size, h.defers, h.tmps, fun _ _ _ _ hh => by simp [lkG] at hh⟩

/-- One guarded operation. -/
theorem exOpG_sound {Γ : Ctx} {Gl : Nat → Option D} (hΓ : CtxOk P Gl Γ) (hT : TOk P T) {N : Nat} {op : Op} {dst : Option Nat} {s j : Nat} {b : Bool} {tm : List (Nat × D)} {gs : Gs} {k : List (Nat × D) → Gs → Prop} (h : exOpG Γ T Gl N op dst s b tm gs ow k)
    {ops : Array Oper} (hj : ∃ oj, ops[j]? = some oj ∧ oj.dst = some s)
    {a : Act} (hW : WRel B w0 M0 M E ow w) (hR : TRel dv N M E tm gs a) (hG : GlOk M Gl) {ro : Option Nat} {n : Nat} (ty : TypeId) (pos : String) (after : Array Edge) (K : Act → World → Prop) (Q : Exit → Act → World → Prop)
    (hK : ∀ a' w', (∃ M' tm' gs', M.le M' ∧ k tm' gs' ∧ WRel B w0 M0 M' E ow w' ∧ TRel dv N M' E tm' gs' a') → K a' w') :
    if Region.wanted ⟨dst, op, ty, pos, after, some (j, b)⟩ (yielded ops a.tmps) then (⟨dst, op, ty, pos, after, some (j, b)⟩ : Oper).wpIn (FW ro) n P a w K Q
    else (∀ f, (⟨dst, op, ty, pos, after, some (j, b)⟩ : Oper).about P w a.eval = some f → (FW ro).fn f) ∧ K (a.put dst undef) w := by
  unfold exOpG at h
  split at h
  · rename_i t dst hgs htm
    split at h <;> try exact h.elim
    split at h <;> try exact h.elim
    split at h <;> try exact h.elim
    rename_i hN hfree hne
    have hsv : a.tmps.getD s undef = .bool t := by simpa only [Rep] using hR.tmps _ _ htm
    have hsome : a.tmps[s]? = some (.bool t) := by
      rw [Array.getD_eq_getD_getElem?] at hsv
      cases hs : a.tmps[s]? with
      | none => rw [hs] at hsv; simp [undef] at hsv
      | some x => rw [hs] at hsv; simp at hsv; rw [hsv]
    obtain ⟨oj, hoj, hdj⟩ := hj
    have hy : yielded ops a.tmps j = some t := by simp [yielded, hoj, hdj, hsome]
    have hw : Region.wanted ⟨some dst, op, ty, pos, after, some (j, b)⟩ (yielded ops a.tmps) = (t == b) := by
      simp [Region.wanted, hy]
    rw [hw]
    have hok : t = b → ∀ s' b', (s' == s && b' == b) = true → a.tmps.getD s' undef = .bool b' := by
      rintro rfl s' b' hb; simp at hb; obtain ⟨rfl, rfl⟩ := hb; exact hsv
    by_cases htb : t = b
    · simp only [htb, beq_self_eq_true, if_true]
      have hnd : ∀ c, op ≠ .defer c := by rintro c rfl; simp [evPure] at h
      refine wpIn_of hnd ?_
      split at h
      · rename_i f args ats
        split at h
        · rename_i ct ds hf hds
          have hS : Sound P Gl f ct := hΓ _ _ hf
          obtain ⟨x, hent, hpre, hk⟩ := h
          have hcall : (execOp a.eval ⟨some dst, .call ⟨.value (.func f), args, ats⟩, ty, pos, after, some (j, b)⟩).run P w = .ok (.enter f (args.map a.eval)) w := by
            have := run_callFunc (w := w) (args := #[] ++ args.map a.eval ++ #[]) hS.1
            show (callFunc f (#[] ++ args.map a.eval ++ #[])).run P w = _
            rw [this]; simp
          rw [hcall]
          have hds' := gets_rep (ρ := a.eval) (M := M) (E := E) (fun x d hx => opnd_sound hR hG (hok htb) hx) hds
          have hin := RepL.pd _ _ (hS.2.1 x) (hent _ _ _ (resL_sound hW _ _ hds')) (E' := [])
          refine ⟨fun hh => by simp [FW, Fence.wide] at hh, ?_⟩
          refine CallsIn.mono (F := FW ro) (hS.2.2 x (hpre htb) M w (args.map a.eval) hW.fits hG (by simpa using hin) (n - 1)) ?_
          rintro e w' ⟨M', u, rfl, hle, hnew, hfit, hrep, hb⟩
          exact hK _ _ ⟨M', _, _, hle, hk, hW.call hle hnew hfit hb, hR.putG hle (fun _ => Rep.mono (Mem.le_refl _) (EnvLe.nil _) _ _ hrep) hN hfree hne⟩
        · exact h.elim
      · split at h
        · rename_i vs d hev
          rw [needIf_iff] at h
          obtain ⟨u, hr, hrep⟩ := evPure_sound (ρ := a.eval) hT hev (h.1 htb) (fun x d hx => by
            rw [opndR_eq, Option.map_eq_some_iff] at hx
            obtain ⟨d0, h1, rfl⟩ := hx
            exact res_sound hW (opnd_sound hR hG (hok htb) h1)) hW (some dst) ty pos after (some (j, b))
          rw [hr]
          exact hK _ _ ⟨M, _, _, Mem.le_refl _, h.2, hW, hR.putG (Mem.le_refl _) (fun _ => hrep) hN hfree hne⟩
        · exact h.elim
    · have : (t == b) = false := by simpa using htb
      simp only [this, Bool.false_eq_true, if_false]
      refine ⟨fun _ _ => trivial, ?_⟩
      have hno : ∀ d, a.tmps.getD s undef = .bool b → Rep M E d undef := by
        intro d hb; rw [hsv] at hb; simp at hb; exact absurd hb htb
      split at h
      · split at h
        · obtain ⟨x, _, _, hk⟩ := h
          exact hK _ _ ⟨M, _, _, Mem.le_refl _, hk, hW, hR.putG (Mem.le_refl _) (hno _) hN hfree hne⟩
        · exact h.elim
      · split at h
        · rename_i vs d hev
          rw [needIf_iff] at h
          exact hK _ _ ⟨M, _, _, Mem.le_refl _, h.2, hW, hR.putG (Mem.le_refl _) (hno _) hN hfree hne⟩
        · exact h.elim
  · exact h.elim

theorem bne_not {x b : Bool} (h : ¬ x = b) : x = !b := by cases x <;> cases b <;> simp_all

/-- The operations of a region, one behind the other. -/
theorem exOps_sound {cc : Bool} {Γ : Ctx} {Y : Ys} {Gl : Nat → Option D} (hΓ : CtxOk P Gl Γ) (hT : TOk P T) {N : Nat} {ops : Array Oper} {ro : Option Nat} {n : Nat} {Q : Exit → Act → World → Prop} : ∀ (r : List Oper) (i : Nat) {tm : List (Nat × D)} {gs : Gs} {ow : List Own} {k : List (Nat × D) → List Own → Prop} {M : Mem} {E : List Value} {a : Act} {w : World},
    ops.toList.drop i = r → exOps cc Γ Y T Gl N ops.toList r tm gs ow k → WRel B w0 M0 M E ow w → TRel dv N M E tm gs a → GlOk M Gl → YOk P Gl B w0 M E Y →
    (∀ a' w', Next dv N B w0 M0 M E [] k a' w' → Q .normal a' w') → wpOpsIn (FW ro) n P ops Q (List.range' i r.length) a w
  | [], i, tm, gs, ow, k, M, E, a, w, hr, h, hW, hR, hG, hY, hQ => by
    simp only [exOps] at h
    simp only [List.length_nil, List.range'_zero, wpOpsIn]
    exact hQ _ _ ⟨M, E, tm, ow, Mem.le_refl _, EnvLe.refl _, h, hW, hR.drop⟩
  | ⟨dst, op, ty, pos, after, guard⟩ :: r, i, tm, gs, ow, k, M, E, a, w, hr, h, hW, hR, hG, hY, hQ => by
    have hget : ops[i]? = some ⟨dst, op, ty, pos, after, guard⟩ := by
      have : (ops.toList.drop i)[0]? = some ⟨dst, op, ty, pos, after, guard⟩ := by rw [hr]; rfl
      simpa using this
    have hdrop : ops.toList.drop (i + 1) = r := by
      have := congrArg List.tail hr
      simpa using this
    rw [List.length_cons, List.range'_succ, wpOpsIn_cons]
    unfold wpOpIn
    simp only [hget]
    have next : ∀ {k' : List (Nat × D) → List Own → Prop} {a' : Act} {w' : World}, (∀ tm' ow', k' tm' ow' → exOps cc Γ Y T Gl N ops.toList r tm' gs ow' k) → Next dv N B w0 M0 M E gs k' a' w' → wpOpsIn (FW ro) n P ops Q (List.range' (i + 1) r.length) a' w' := by
      rintro k' a' w' hk' ⟨M', E', tm', ow', hle, hEP, hk, hW', hR'⟩
      exact exOps_sound hΓ hT r (i + 1) hdrop (hk' _ _ hk) hW' hR' (hG.mono hle) (hY.mono hle hEP) (fun a'' w'' ⟨M2, E2, t2, o2, q1, q2, q3, q4, q5⟩ => hQ _ _ ⟨M2, E2, t2, o2, Mem.le_trans hle q1, hEP.trans q2, q3, q4, q5⟩)
    cases guard with
    | none =>
      simp only [exOps] at h
      have hw : Region.wanted ⟨dst, op, ty, pos, after, none⟩ (yielded ops a.tmps) = true := rfl
      simp only [hw, if_true]
      exact Oper.wpIn_mono (fun a' w' hn => next (fun _ _ h => h) hn) (exOp_sound hΓ hT h hW hR hG hY ty pos after none Q)
    | some g =>
      obtain ⟨j, b⟩ := g
      simp only [exOps] at h
      split at h <;> try exact h.elim
      rename_i s op' ty' pos' after' guard' hj
      have hj' : ops[j]? = some ⟨some s, op', ty', pos', after', guard'⟩ := by simpa using hj
      split at h
      · -- all is told
        have skip : ∀ (v : Value), a.tmps.getD s undef = v → v ≠ .bool b → putK N dst gs (.v undef) tm (fun tm' => exOps true Γ Y T Gl N ops.toList r tm' gs ow k) →
            if Region.wanted ⟨dst, op, ty, pos, after, some (j, b)⟩ (yielded ops a.tmps) then (⟨dst, op, ty, pos, after, some (j, b)⟩ : Oper).wpIn (FW ro) n P a w (wpOpsIn (FW ro) n P ops Q (List.range' (i + 1) r.length)) Q
            else (∀ f, (⟨dst, op, ty, pos, after, some (j, b)⟩ : Oper).about P w a.eval = some f → (FW ro).fn f) ∧ wpOpsIn (FW ro) n P ops Q (List.range' (i + 1) r.length) (a.put dst undef) w := by
          intro v hv hne hp
          have hnw : Region.wanted ⟨dst, op, ty, pos, after, some (j, b)⟩ (yielded ops a.tmps) = false := by
            have hy : yielded ops a.tmps j ≠ some b := by
              intro hy
              simp only [yielded, hj', Option.bind_some] at hy
              cases hs : a.tmps[s]? with
              | none => simp [hs] at hy
              | some x =>
                rw [Array.getD_eq_getD_getElem?, hs] at hv
                simp at hv; subst hv
                simp only [hs] at hy
                cases x <;> simp at hy
                subst hy; exact hne rfl
            simpa [Region.wanted] using hy
          rw [hnw]
          simp only [Bool.false_eq_true, if_false]
          refine ⟨fun _ _ => trivial, ?_⟩
          exact next (k' := fun tm' ow' => exOps true Γ Y T Gl N ops.toList r tm' gs ow' k) (fun _ _ h => h) (putK_sound hp hR (Mem.le_refl _) (EnvLe.refl _) hW (Rep.val _) (Mem.le_refl _) (EnvLe.refl _))
        split at h <;> try exact h.elim
        · rename_i x hgs htm
          have hsv : a.tmps.getD s undef = .bool x := by simpa only [Rep] using hR.tmps _ _ htm
          by_cases hxb : x = b
          · have hsome : a.tmps[s]? = some (.bool x) := by
              rw [Array.getD_eq_getD_getElem?] at hsv
              cases hs : a.tmps[s]? with
              | none => rw [hs] at hsv; simp [undef] at hsv
              | some x => rw [hs] at hsv; simp at hsv; rw [hsv]
            have hw : Region.wanted ⟨dst, op, ty, pos, after, some (j, b)⟩ (yielded ops a.tmps) = true := by
              simp [Region.wanted, yielded, hj', hsome, hxb]
            rw [hw]
            simp only [if_true]
            exact Oper.wpIn_mono (fun a' w' hn => next (fun _ _ h => h) hn) (exOp_sound hΓ hT (h.1 hxb) hW hR hG hY ty pos after (some (j, b)) Q)
          · exact skip _ hsv (fun e => hxb (by simpa using e)) (h.2 (bne_not hxb))
        · rename_i vs hgs htm
          have hsv : a.tmps.getD s undef = .tuple vs := by simpa only [Rep] using hR.tmps _ _ htm
          exact skip _ hsv (by simp) h
      · refine exOpG_sound hΓ hT h (ops := ops) ⟨_, hj', rfl⟩ hW hR hG ty pos after _ Q ?_
        rintro a' w' ⟨M', tm', gs', hle, hk, hW', hR'⟩
        exact exOps_sound hΓ hT r (i + 1) hdrop hk hW' hR' (hG.mono hle) (hY.mono hle (EnvLe.refl _)) (fun a'' w'' ⟨M2, E2, t2, o2, q1, q2, q3, q4, q5⟩ => hQ _ _ ⟨M2, E2, t2, o2, Mem.le_trans hle q1, q2, q3, q4, q5⟩)

theorem least (p : Nat → Prop) (h : ∃ m, p m) : ∃ m, p m ∧ ∀ k, p k → m ≤ k := by
  obtain ⟨m, hm⟩ := h
  induction m using Nat.strongRecOn with
  | _ m ih =>
    by_cases hh : ∃ k, k < m ∧ p k
    · obtain ⟨k, hk, hp⟩ := hh; exact ih k hk hp
    · refine ⟨m, hm, fun k hk => ?_⟩
      rcases Nat.lt_or_ge k m with hlt | hge
      · exact absurd ⟨k, hlt, hk⟩ hh
      · exact hge
end
end Go.Sx
