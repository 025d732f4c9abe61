import Derived.Test.YtnccclpjcidmeaaGreatDoorSxT
namespace Go.Sx
open Go Go.RowKit

section
variable {X : Env} {n m : Nat}

/-- A run of code of fuel m is an evaluation in the context of fuel n. -/
def RunsEx (X : Env) (n m : Nat) : Prop := ∀ (c : Code) (N : Nat) (Y : Ys) (Yc : List YC) (mm : Nat) (R : Bool) (s s' : St) (e : Exit) (k : Exit → St → Prop),
  YR X m Y Yc → runC X m c N Yc R s = some (e, s') → k e s' → ex true (ctxR X n) X.T X.Gl N c Y mm R s k

theorem loop_ex (hIH : ∀ m', m' < m → RunsEx X n m') {a : Code} {N : Nat} {Y : Ys} {Yc : List YC} {mm : Nat} {R : Bool} (hY : YR X m Y Yc) : ∀ (j : Nat), j ≤ m → ∀ (s s' : St) (e : Exit) (k : Exit → St → Prop),
    runC X j (.loop a) N Yc R s = some (e, s') → k e s' → ∃ q, exRounds (fun s k => ex true (ctxR X n) X.T X.Gl N a Y mm R s k) k q s
  | 0, _, s, s', e, k, h, _ => by simp [runC] at h
  | j + 1, hj, s, s', e, k, h, hk => by
    simp only [runC] at h
    have hIHj := hIH j (by omega)
    split at h
    · rename_i s1 h1
      obtain ⟨q, hq⟩ := loop_ex hIH hY j (by omega) s1 s' e k h hk
      refine ⟨q + 1, ?_⟩
      simp only [exRounds]
      exact hIHj a N Y Yc mm R s s1 .normal _ (hY.mono (by omega)) h1 hq
    · rename_i hne
      refine ⟨1, ?_⟩
      simp only [exRounds]
      refine hIHj a N Y Yc mm R s s' e _ (hY.mono (by omega)) h ?_
      cases e with
      | normal => exact absurd h (hne s')
      | _ => exact hk

theorem runsEx (hn : ∀ m', m' < m → RunsEx X n m') (hm : m ≤ n) : RunsEx X n m := by
  intro c N Y Yc mm R s s' e k hY h hk
  cases m with
  | zero => simp [runC] at h
  | succ m =>
    have hI := hn m (Nat.lt_succ_self m)
    have hYm := hY.mono (Nat.le_succ m)
    have hmn : m < n := hm
    obtain ⟨tm, ow, df⟩ := s
    cases c with
    | skip => simp [runC] at h; obtain ⟨rfl, rfl⟩ := h; simp only [ex]; exact hk
    | label _ => simp [runC] at h; obtain ⟨rfl, rfl⟩ := h; simp only [ex]; exact hk
    | region id ops draw =>
      simp only [runC] at h
      cases draw with
      | false =>
        simp only [ex]
        simp only at h
        split at h <;> try (simp at h; done)
        rename_i tm1 ow1 h1
        simp at h; obtain ⟨rfl, rfl⟩ := h
        exact runOps_ex hmn hY _ h1 hk
      | true =>
        simp only [ex, isPure_ctxR]
        simp only at h
        split at h
        · rename_i hal
          split at h <;> try (simp at h; done)
          rename_i hok
          split at h <;> try (simp at h; done)
          rename_i tm0 h0
          split at h <;> try (simp at h; done)
          rename_i tm1 ow1 h1
          simp at h; obtain ⟨rfl, rfl⟩ := h
          simp only [hal]
          exact ⟨hok, runPre_ex hmn _ _ h0 (runOps_ex hmn hY _ h1 hk)⟩
        · rename_i t e hal
          split at h <;> try (simp at h; done)
          rename_i hok
          split at h <;> try (simp at h; done)
          rename_i tm0 sz ag z kd mo h0 hTe
          split at h <;> try (simp at h; done)
          rename_i htN
          split at h <;> try (simp at h; done)
          rename_i tm1 ow1 h1
          simp at h; obtain ⟨rfl, rfl⟩ := h
          simp only [hal]
          refine ⟨hok, runPre_ex hmn _ _ h0 ?_⟩
          simp only [exAl, hTe, htN, if_true, freeG]
          exact runOps_ex hmn hY _ h1 hk
    | seq a b =>
      simp only [runC] at h
      simp only [ex]
      split at h
      · rename_i s1 h1
        exact hI a N Y Yc mm R _ s1 .normal _ hYm h1 (hI b N Y Yc mm R _ s' e _ hYm h hk)
      · rename_i hne
        refine hI a N Y Yc mm R _ s' e _ hYm h ?_
        cases e with
        | normal => exact absurd h (hne s')
        | _ => exact hk
    | cond x a b =>
      simp only [runC] at h
      simp only [ex, opR_eq]
      split at h <;> try (simp at h; done)
      · rename_i hx
        simp only [hx]
        exact ⟨fun _ => hI a N Y Yc mm R _ s' e _ hYm h hk, fun e => by simp at e⟩
      · rename_i hx
        simp only [hx]
        exact ⟨fun e => by simp at e, fun _ => hI b N Y Yc mm R _ s' e _ hYm h hk⟩
    | block id a =>
      simp only [runC] at h
      simp only [ex]
      split at h
      · rename_i i s1 h1
        split at h
        · rename_i hi
          simp at h; obtain ⟨rfl, rfl⟩ := h
          refine hI a N Y Yc mm R _ s1 (.exit i) _ hYm h1 ?_
          simp only [hi, if_true]; exact hk
        · rename_i hi
          simp at h; obtain ⟨rfl, rfl⟩ := h
          refine hI a N Y Yc mm R _ s1 (.exit i) _ hYm h1 ?_
          simp only [hi, if_false]; exact hk
      · rename_i hne
        refine hI a N Y Yc mm R _ s' e _ hYm h ?_
        cases e with
        | exit i => exact absurd h (hne i s')
        | _ => exact hk
    | scope a =>
      simp only [runC] at h
      simp only [ex]
      split at h
      · simp at h
      · rename_i hne
        refine hI a N Y Yc mm R _ s' e _ hYm h ?_
        cases e with
        | goto i => exact absurd h (hne i s')
        | _ => exact hk
    | exit id => simp [runC] at h; obtain ⟨rfl, rfl⟩ := h; simp only [ex]; exact hk
    | ret => simp [runC] at h; obtain ⟨rfl, rfl⟩ := h; simp only [ex]; exact hk
    | loop a =>
      obtain ⟨q, hq⟩ := loop_ex (mm := mm) hn hY (m + 1) (Nat.le_refl _) _ _ _ _ h hk
      simp only [ex]
      exact ⟨q + 1, hq⟩
    | rangeFunc f ps as bd =>
      simp only [runC] at h
      split at h <;> try (simp at h; done)
      rename_i g caps hf
      simp only [ex, opR_eq, hf]
      split at h <;> try (simp at h; done)
      rename_i hpf
      simp at hpf
      split at h <;> try (simp at h; done)
      rename_i d ow1 hc
      obtain ⟨fn, hfn, hb⟩ := callI_fn hc
      have hg : ctxR X n g = some (.gen (trR X n g)) := by
        unfold ctxR; simp [hpf.1, hpf.2, hfn, hb]
      simp only [hg]
      refine ⟨m, _, d, ow1, hmn, ?_, hc, ?_⟩
      · intro i j N' tm' ps' as' bd' Y' hl
        simp only [lkY] at hl
        split at hl
        · rename_i hi
          simp at hl
          obtain ⟨rfl, rfl, rfl, rfl, rfl, rfl, rfl⟩ := hl
          subst hi
          refine ⟨_, if_pos rfl, fun m' hm' ds ow2 d2 ow3 k2 hr hk2 => ?_⟩
          have hA := hn m' (by omega)
          have hYr := hY.mono (show m' ≤ m + 1 by omega)
          unfold roundR at hr
          unfold roundT
          split at hr <;> try (simp at hr; done)
          rename_i tm2 hps
          simp only [hps]
          split at hr <;> try (simp at hr; done)
          rename_i s2 h2
          refine hA as N Y Yc _ true _ s2 .normal _ hYr h2 ?_
          simp only
          split at hr <;> try (simp at hr; done)
          rename_i p hlp hdf
          simp only [hlp, hdf]
          split at hr <;> try (simp at hr; done)
          rename_i e3 s3 h3
          refine hA bd N Y Yc _ true _ s3 e3 _ hYr h3 ?_
          split at hr <;> try (simp at hr; done)
          rename_i st pe hlp3 hdf3
          simp only [hlp3, hdf3]
          cases e3 <;> simp at hr <;> (obtain ⟨rfl, rfl⟩ := hr; exact hk2)
        · rename_i hi
          obtain ⟨t, h1, h2⟩ := hY _ _ _ _ _ _ _ _ hl
          refine ⟨t, ?_, fun m' hm' => h2 m' (by omega)⟩
          exact (if_neg (fun e => hi e.symm)).trans h1
      · split at h <;> (try (simp at h; done)) <;> (rename_i hl; simp at h; obtain ⟨rfl, rfl⟩ := h; simp only [hl]; exact hk)
    | _ => simp [runC] at h

theorem runsEx_all (n : Nat) : ∀ m, m ≤ n → RunsEx X n m := by
  intro m
  induction m using Nat.strongRecOn with
  | _ m ih => exact fun hm => runsEx (fun m' h' => ih m' h' (by omega)) hm

variable {P : Program}

/-- What a run is told is true of the program. -/
structure EnvOk (P : Program) (X : Env) : Prop where
  types : TOk P X.T
  mixed : P.follows .mixedOrders = true
  funcs : ∀ f fn, X.fn f = some fn → P.funcs[f]? = some fn
  names : ∀ f fn, X.fn f = some fn → (fn.name == "runtime.NumGoroutine") = false
  pures : ∀ f, X.pf f = true → X.same f = false → ∃ fn, X.fn f = some fn ∧ fn.body.isSome = true
  sames : ∀ f, X.same f = true → SoundS P X.Gl f (X.ext f)
  sums : ∀ f ds d, X.sum f ds = some d → Sound P X.Gl f ⟨Unit, fun _ => ds, fun _ => d, fun _ => True⟩

theorem callV_sound (hX : EnvOk P X) (hΓ : CtxOk P X.Gl (ctxR X m)) {f : FuncId} {ds : List D} {d : D} (h : callV X (runC X m) f ds = some d) : Sound P X.Gl f ⟨Unit, fun _ => ds, fun _ => d, fun _ => True⟩ := by
  have hpd := callV_pd h
  unfold callV at h
  split at h
  · rename_i d0 hs
    rw [if_pos hpd] at h
    simp at h; subst h
    exact hX.sums _ _ _ hs
  split at h <;> try (simp at h; done)
  rename_i fn hfn
  split at h <;> try (simp at h; done)
  rename_i c hc
  rw [if_pos hpd] at h
  split at h <;> try (simp at h; done)
  rename_i hlen
  split at h <;> try (simp at h; done)
  rename_i e s hr
  refine sound_of (cc := true) hΓ hX.types hX.mixed (hX.funcs _ _ hfn) hc (hX.names _ _ hfn) (fun _ => hpd) (fun _ _ => hlen) fun _ _ => ?_
  refine runsEx_all m m (Nat.le_refl _) c fn.ntmps _ [] 0 false _ s e _ YR.nil hr ?_
  have key : (match shutO s.ow s.df with
      | some ow' =>
        (match resDL X.T s.tm ow' fn.results.toList with
        | some rs => (match frzL ow' rs with | (rs', _) => if pd (retD rs') then some (retD rs') else none)
        | none => none)
      | none => none) = some d → fin X.T fn.results.toList s fun d' _ => EntR d' d := by
    intro h
    split at h <;> try (simp at h; done)
    rename_i ow1 hsh
    split at h <;> try (simp at h; done)
    rename_i rs hrs
    cases hfr : frzL ow1 rs with
    | mk rs' ow2 =>
      rw [hfr] at h
      simp only at h
      split at h <;> try (simp at h; done)
      rename_i hp
      simp at h; subst h
      obtain ⟨tm, ow, df⟩ := s
      simp only [fin]
      simp only at hsh hrs
      simp only [hsh, hrs, hfr]
      intro M E u hu
      exact Rep.pd _ _ hp hu
  cases e <;> first | exact key h | simp at h

theorem callI_sound (hX : EnvOk P X) {f : FuncId} {Yc : List YC} {Y : Ys} {ds : List D} {ow ow' : List Own} {d : D} (hY : YR X m Y Yc) (h : callI X (runC X m) f Yc ds ow = some (d, ow')) :
    ∃ fn c, P.funcs[f]? = some fn ∧ fn.body = some c ∧ (fn.name == "runtime.NumGoroutine") = false ∧ ∀ (k : D → List Own → Prop), k d ow' → inlT true (ctxR X m) X.T X.Gl fn c Y ds ow k := by
  unfold callI at h
  split at h <;> try (simp at h; done)
  rename_i fn hfn
  split at h <;> try (simp at h; done)
  rename_i c hc
  split at h <;> try (simp at h; done)
  rename_i hlen
  split at h <;> try (simp at h; done)
  rename_i e s hr
  refine ⟨fn, c, hX.funcs _ _ hfn, hc, hX.names _ _ hfn, fun k hk => ⟨hlen, ?_⟩⟩
  refine runsEx_all m m (Nat.le_refl _) c fn.ntmps _ Yc _ false _ s e _ hY hr ?_
  have key : (match shutO s.ow s.df with
      | some ow' =>
        (match resDL X.T s.tm ow' fn.results.toList with
        | some rs => some (retD rs, ow')
        | none => none)
      | none => none) = some (d, ow') → fin0 X.T fn.results.toList s k := by
    intro h
    split at h <;> try (simp at h; done)
    rename_i ow1 hsh
    split at h <;> try (simp at h; done)
    rename_i rs hrs
    simp at h; obtain ⟨rfl, rfl⟩ := h
    obtain ⟨tm, ow, df⟩ := s
    simp only [fin0]
    simp only at hsh hrs
    simp only [hsh, hrs]
    exact hk
  cases e <;> first | exact key h | simp at h

theorem ctxR_ok (hX : EnvOk P X) (n : Nat) : CtxOk P X.Gl (ctxR X n) := by
  induction n using Nat.strongRecOn with
  | _ n ih =>
    intro f hd hf
    unfold ctxR at hf
    split at hf
    · rename_i hs
      simp at hf; subst hf
      exact hX.sames f hs
    · rename_i hs
      split at hf
      · rename_i hp
        simp at hf; subst hf
        obtain ⟨fn, h1, h2⟩ := hX.pures f hp (by simpa using hs)
        refine ⟨⟨fn, hX.funcs _ _ h1, hX.names _ _ h1, by cases hb : fn.body <;> simp_all⟩, fun x => x.2, fun x hx => ?_⟩
        obtain ⟨m, hm, hc⟩ := hx
        have := callV_sound hX (ih m hm) hc
        exact this.2.2 () trivial
      · split at hf <;> try (simp at hf; done)
        rename_i fn hfn
        split at hf <;> try (simp at hf; done)
        rename_i hb
        simp at hf; subst hf
        refine ⟨⟨fn, hX.funcs _ _ hfn, hX.names _ _ hfn, by cases hb' : fn.body <;> simp_all⟩, fun Y ds ow k hk B w0 M0 M E w us hW hG hYo hrep q => ?_⟩
        obtain ⟨m, Yc, d, ow', hm, hY, hc, hkd⟩ := hk
        obtain ⟨fn, c, q1, q2, q3, q4⟩ := callI_sound hX hY hc
        exact (soundT_inl (cc := true) (ih m hm) hX.types hX.mixed q1 q2 q3).2 Y ds ow k (q4 k hkd) B w0 M0 M E w us hW hG hYo hrep q

/-- **A run of a function tells what the function hands back.** -/
theorem run_sound (hX : EnvOk P X) {f : FuncId} {ds : List D} {d : D} (h : callV X (runC X m) f ds = some d) : Sound P X.Gl f ⟨Unit, fun _ => ds, fun _ => d, fun _ => True⟩ :=
  callV_sound hX (ctxR_ok hX m) h

end
#print axioms run_sound
end Go.Sx
