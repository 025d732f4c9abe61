import Derived.Test.YtnccclpjcidmeaaGreatDoorSxN
import Derived.Test.YtnccclpjcidmeaaGreatDoorSxS
namespace Go.Sx
open Go Go.RowKit

/-- The results of a function. -/
def fin (T : TT) (rs : List ResultVar) (s : St) (k : D → List Own → Prop) : Prop :=
  match s with
  | ⟨tm, ow, df⟩ => match shutO ow df with
    | some ow1 => (match resDL T tm ow1 rs with
      | some ds => (match frzL ow1 ds with | (ds', ow') => k (retD ds') ow')
      | none => False)
    | none => False

def fin0 (T : TT) (rs : List ResultVar) (s : St) (k : D → List Own → Prop) : Prop :=
  match s with
  | ⟨tm, ow, df⟩ => match shutO ow df with
    | some ow1 => (match resDL T tm ow1 rs with
      | some ds => k (retD ds) ow1
      | none => False)
    | none => False

/-- Data that are as good as d', whatever was owned. -/
def EntR (d d' : D) : Prop := ∀ M E u, Rep M E d u → Rep M [] d' u

section
variable {P : Program} {T : TT} {B : Nat} {w0 w : World} {M0 M : Mem} {E : List Value} {dv : List Deferred}

def retV : List Value → Value
  | [u] => u
  | us => .tuple us.toArray

def resF (tmps : Array Value) : ResultVar → Sem Value
  | .tmp t => pure (tmps.getD t undef)
  | .cell x t => do loadVar t (← asAddr (tmps.getD x undef))

theorem results_eq (fn : Func) (tmps : Array Value) : results fn tmps = (do let vs ← fn.results.mapM (resF tmps); pure (if h : vs.size = 1 then vs[0] else .tuple vs) : Sem Value) := by
  unfold results
  refine congrArg (fun F => (do let vs ← fn.results.mapM F; pure (if h : vs.size = 1 then vs[0] else .tuple vs) : Sem Value)) ?_
  funext r
  cases r <;> rfl

theorem resDL_sound (hT : TOk P T) {N : Nat} {tm : List (Nat × D)} {ow : List Own} {a : Act} (hW : WRel B w0 M0 M E ow w) (hR : TRel dv N M E tm [] a) : ∀ (rs : List ResultVar) {ds : List D}, resDL T tm ow rs = some ds →
    ∃ us : List Value, RepL M E ds us ∧ (rs.mapM (m := Sem) (resF a.tmps)).run P w = .ok us w
  | [], ds, h => by
    simp [resDL] at h; subst h
    exact ⟨[], RepL.nil, by simp⟩
  | r :: rs, ds, h => by
    simp only [resDL] at h
    split at h
    · rename_i d ds' h1 h2
      simp at h; subst h
      obtain ⟨us, hus, hrun⟩ := resDL_sound hT hW hR rs h2
      cases r with
      | tmp t =>
        simp only [resD1] at h1
        refine ⟨_ :: us, RepL.cons (hR.tmps _ _ h1) hus, ?_⟩
        rw [List.mapM_cons]
        simp only [resF, Sem.run_bind, Sem.run_pure, Result.andThen_ok]
        rw [hrun]; rfl
      | cell x t =>
        simp only [resD1] at h1
        split at h1
        · rename_i ti i off hTt hx
          split at h1
          · rename_i d' hl
            simp at h1; subst h1
            have hx' := hR.tmps _ _ hx
            obtain ⟨y, hy1, hy2⟩ := evLoad_sound (hT _ _ hTt) hl trivial hW hx'
            refine ⟨y :: us, RepL.cons hy2 hus, ?_⟩
            simp only [Rep] at hx'
            obtain ⟨b, _, hu⟩ := hx'
            rw [List.mapM_cons]
            rw [hu] at hy1
            simp only [resF, hu]
            simp only [Instr.loadAt, Sem.run_bind, run_sureAddr, Result.andThen_ok] at hy1
            have hasA : (asAddr (.pointer (some ⟨b, off, none⟩))).run P w = .ok ⟨b, off, none⟩ w := rfl
            simp only [Sem.run_bind, hasA, Result.andThen_ok, hy1]
            rw [hrun]; rfl
          · simp at h1
        · simp at h1
    · simp at h

theorem run_results {fn : Func} {tmps : Array Value} {us : List Value} (h : (fn.results.toList.mapM (m := Sem) (resF tmps)).run P w = .ok us w) :
    (results fn tmps).run P w = .ok (retV us) w := by
  have hm : (fn.results.mapM (m := Sem) (resF tmps)).run P w = .ok us.toArray w := by
    rw [Array.mapM_eq_mapM_toList, Sem.run_map, h]
    rfl
  rw [results_eq, Sem.run_bind, hm]
  simp only [Result.andThen_ok, Sem.run_pure]
  match us with
  | [] => simp [retV]
  | [u] => simp [retV]
  | u :: v :: r => simp [retV]

theorem Rep.ret {us : List Value} {ds : List D} (h : RepL M E ds us) : Rep M E (retD ds) (retV us) := by
  match ds, us, h with
  | [], us, h => simp [RepL] at h; subst h; simp only [retD, Rep]; exact ⟨#[], rfl, RepL.nil⟩
  | [d], us, h =>
    simp only [RepL] at h
    obtain ⟨u, r, rfl, hu, rfl⟩ := h
    exact hu
  | d :: e :: ds, us, h =>
    have h' := h
    simp only [RepL] at h
    obtain ⟨u, r, rfl, hu, v, r', rfl, hv, hr⟩ := h
    simp only [retD, Rep]
    exact ⟨_, rfl, by simpa using h'⟩

theorem lk_parTm : ∀ (ds : List D) (i t : Nat) (d : D), lk (parTm i ds) t = some d → i ≤ t ∧ ds[t - i]? = some d
  | [], i, t, d, h => by simp [parTm, lk] at h
  | x :: ds, i, t, d, h => by
    simp only [parTm, lk] at h
    split at h
    · rename_i hi; subst hi; simp at h; subst h; simp
    · rename_i hi
      obtain ⟨h1, h2⟩ := lk_parTm ds (i + 1) t d h
      refine ⟨by omega, ?_⟩
      rw [show t - i = (t - (i + 1)) + 1 by omega]
      simpa using h2

theorem TRel.start {N : Nat} {ds : List D} {us : Array Value} (h : RepL M E ds us.toList) (hN : ds.length ≤ N) : TRel [] N M E (parTm 0 ds) [] { tmps := us ++ Array.replicate (N - us.size) undef, defers := [] } := by
  have hl := h.length
  refine ⟨by simp at hl ⊢; omega, rfl, fun t d ht => ?_, fun _ _ _ _ hh => by simp [lkG] at hh⟩
  obtain ⟨_, h2⟩ := lk_parTm ds 0 t d ht
  obtain ⟨u, h3, h4⟩ := RepL.get h h2
  have : (us ++ Array.replicate (N - us.size) undef).getD t undef = u := by
    have h5 : us[t]? = some u := by simpa using h3
    have h6 : t < us.size := by
      rcases Nat.lt_or_ge t us.size with h' | h'
      · exact h'
      · simp [Array.getElem?_eq_none h'] at h5
    rw [Array.getD_eq_getD_getElem?, Array.getElem?_append_left h6, h5]; rfl
  rw [this]; exact h4

theorem WRel.start (h : M.fits w) : WRel w.heap.size w M M [] [] w :=
  ⟨h, Nat.le_refl _, Below.refl _ _, rfl, fun i o v ho => by simp at ho, fun i j o o' v v' b ho => by simp at ho, Mem.le_refl _, fun b o hb => .inl hb⟩

theorem shut_sound {fn : Func} {n : Nat} {R : Ending → World → Prop} {tmps : Array Value} : ∀ (df : List Nat) {ow ow1 : List Own} {dv : List Deferred} {w : World}, shutO ow df = some ow1 → WRel B w0 M0 M E ow w → DvOk E df dv →
    (∀ w', WRel B w0 M0 M E ow1 w' → ∃ v, (results fn tmps).run P w' = .ok v w' ∧ R (.returned v) w') → LeavesInM Fence.wide n P fn tmps R dv .returning w
  | [], ow, ow1, dv, w, h, hW, hD, hk => by
    simp [shutO] at h; subst h
    have : dv = [] := hD
    subst this
    exact hk w hW
  | i :: is, ow, ow1, dv, w, h, hW, hD, hk => by
    simp only [shutO] at h
    split at h <;> try (simp at h; done)
    rename_i ho
    obtain ⟨b, r, h1, h2, h3⟩ := hD
    subst h2
    have hH := hW.holds _ _ _ ho h1
    simp only [Holds] at hH
    obtain ⟨b', hb', hheap, _, _⟩ := hH
    simp at hb'; subst hb'
    refine ⟨by simp, .inl ⟨b, _, rfl, run_takeDeferred hheap, ?_⟩⟩
    refine shut_sound is h (hW.endIn ho rfl h1 rfl (fun k hk => ?_) ?_ rfl rfl rfl) h3 hk
    · simp [World.putObj, Ne.symm hk]
    · simp [World.putObj]

theorem YOk.none {Gl : Nat → Option D} : YOk P Gl B w0 M E (fun _ => none) := fun i t h => by simp at h

/-- The contract of a function, by the evaluation of its body. -/
theorem sound_of {cc : Bool} {Γ : Ctx} {Gl : Nat → Option D} (hΓ : CtxOk P Gl Γ) (hT : TOk P T) (hmix : P.follows .mixedOrders = true) {f : FuncId} {fn : Func} {c : Code} {ct : Ct} (hf : P.funcs[f]? = some fn) (hb : fn.body = some c) (hname : (fn.name == "runtime.NumGoroutine") = false) (hpd : ∀ x, pdL (ct.inp x) = true)
    (hlen : ∀ x, ct.pre x → (ct.inp x).length ≤ fn.ntmps)
    (h : ∀ x, ct.pre x → ex cc Γ T Gl fn.ntmps c (fun _ => none) 0 false ⟨parTm 0 (ct.inp x), [], []⟩ fun e s => match e with | .ret => fin T fn.results.toList s fun d _ => EntR d (ct.out x) | .normal => fin T fn.results.toList s fun d _ => EntR d (ct.out x) | _ => False) : Sound P Gl f ct := by
  refine ⟨⟨fn, hf, hname, by simp [hb]⟩, hpd, fun x hx M w us hfit hG hrep n => ?_⟩
  refine callsIn_of_wp_marks hf hb trivial ?_
  refine ex_sound (ro := none) (E0 := []) hΓ hT hmix c (h x hx) hG YOk.none (Nat.zero_le _) (fun _ => rfl) (WRel.start hfit) (TRel.start hrep (hlen x hx)) rfl (EnvLe.refl _) ?_
  rintro e a' w' ⟨M', E', s', dv', q1, q2, q3, q4, q5⟩
  have key : fin T fn.results.toList s' (fun d _ => EntR d (ct.out x)) → LeavesInM Fence.wide n P fn a'.tmps (fun e w' => ∃ M' u, e = .returned u ∧ M.le M' ∧ (∀ b o, M' b = some o → M b = some o ∨ w.heap.size ≤ b) ∧ M'.fits w' ∧ Rep M' [] (ct.out x) u ∧ Below w.heap.size w w') a'.defers .returning w' := by
    intro hfin
    obtain ⟨tm, ow, df⟩ := s'
    simp only [fin] at hfin
    split at hfin
    · rename_i ow1 hsh
      split at hfin
      · rename_i ds hds
        rw [q4.defers]
        refine shut_sound df hsh q3 q5 fun w2 hW2 => ?_
        obtain ⟨us', h1, h2⟩ := resDL_sound hT hW2 q4 _ hds
        cases hfr : frzL ow1 ds with
        | mk ds' ow' =>
          rw [hfr] at hfin
          obtain ⟨M2, h3, h4, h5⟩ := frzL_sound ds hfr hW2 h1
          exact ⟨_, run_results h2, M2, _, rfl, h4.mle, h4.new, h4.fits, hfin _ _ _ (Rep.ret h5), h4.below⟩
      · exact hfin.elim
    · exact hfin.elim
  cases e with
  | normal => exact key q2
  | ret => exact key q2
  | exit i => exact q2.elim
  | goto i => exact q2.elim
  | panic i => exact q2.elim
  | outgrown => exact q2.elim

/-- A function that is walked in place. -/
def inlT (cc : Bool) (Γ : Ctx) (T : TT) (Gl : Nat → Option D) (fn : Func) (c : Code) : Tr := fun Y ds ow k =>
  ds.length ≤ fn.ntmps ∧ ex cc Γ T Gl fn.ntmps c Y ow.length false ⟨parTm 0 ds, ow, []⟩ fun e s => match e with | .ret => fin0 T fn.results.toList s k | .normal => fin0 T fn.results.toList s k | _ => False

theorem soundT_inl {cc : Bool} {Γ : Ctx} {Gl : Nat → Option D} (hΓ : CtxOk P Gl Γ) (hT : TOk P T) (hmix : P.follows .mixedOrders = true) {f : FuncId} {fn : Func} {c : Code} (hf : P.funcs[f]? = some fn) (hb : fn.body = some c) (hname : (fn.name == "runtime.NumGoroutine") = false) : SoundT P Gl f (inlT cc Γ T Gl fn c) := by
  refine ⟨⟨fn, hf, hname, by simp [hb]⟩, fun Y ds ow k ⟨hlen, h⟩ B w0 M0 M E w us hW hG hY hrep n => ?_⟩
  refine callsIn_of_wp_marks hf hb trivial ?_
  refine ex_sound (ro := none) (E0 := E) (m := ow.length) (M0 := M) hΓ hT hmix c h hG hY (by rw [hW.len]; exact Nat.le_refl _) (fun _ => rfl) hW.self (TRel.start hrep hlen) rfl (EnvLe.refl _) ?_
  rintro e a' w' ⟨M', E', s', dv', q1, q2, q3, q4, q5⟩
  have key : fin0 T fn.results.toList s' k → LeavesInM Fence.wide n P fn a'.tmps (fun e w' => ∃ d u M' E' ow', e = .returned u ∧ k d ow' ∧ M.le M' ∧ EnvLe E E' ∧ WRel B w0 M0 M' E' ow' w' ∧ Rep M' E' d u) a'.defers .returning w' := by
    intro hfin
    obtain ⟨tm, ow1, df⟩ := s'
    simp only [fin0] at hfin
    split at hfin
    · rename_i ow2 hsh
      split at hfin
      · rename_i ds' hds
        rw [q4.defers]
        refine shut_sound df hsh q3 q5 fun w2 hW2 => ?_
        obtain ⟨us', h1, h2⟩ := resDL_sound hT hW2 q4 _ hds
        exact ⟨_, run_results h2, _, _, M', E', ow2, rfl, hfin, q3.mle, q1, hW2.rebase hW.mle hW.new, Rep.ret h1⟩
      · exact hfin.elim
    · exact hfin.elim
  cases e with
  | normal => exact key q2
  | ret => exact key q2
  | exit i => exact q2.elim
  | goto i => exact q2.elim
  | panic i => exact q2.elim
  | outgrown => exact q2.elim

end
end Go.Sx
