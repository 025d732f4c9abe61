import Derived.Test.YthfdmbmjjejbbaaGreatDoorE5
import Derived.RecoverIn
set_option linter.unusedVariables false
set_option linter.unusedSimpArgs false
namespace Go.Sx
open Go Go.RowKit

/-! deferred closures that ask recover first -/

/-- What recover answers in a closure that is called while the function below leaves in mode u, and the mode behind it. -/
def recOut : FrameMode → Value × FrameMode
  | .panicking ({ v, recovered := false, goexit := false } :: older) => (v, .panicking ({ v, recovered := true } :: older))
  | u => (.nilIface, u)

theorem recoverD_out (c₀ : Frame) (cs : List Frame) : (recoverD (c₀ :: cs) = some ((recOut c₀.mode).1, { c₀ with mode := (recOut c₀.mode).2 } :: cs)) ∨ (recoverD (c₀ :: cs) = none ∧ recOut c₀.mode = (.nilIface, c₀.mode)) := by
  unfold recOut
  simp only [recoverD]
  cases hm : c₀.mode with
  | run => right; simp
  | returning => right; simp
  | panicking ch =>
    cases ch with
    | nil => right; simp
    | cons e older =>
      obtain ⟨v, r, g⟩ := e
      cases r <;> cases g <;> simp

section
variable {P : Program}

/-- A region that begins with recover. -/
theorem wpSIn_rec {n : Nat} {id : Nat} {ops : Array Oper} {t : Nat} {ty : TypeId} {pos : String} {after : Array Edge} {Q : Exit → Act → List Frame → World → Prop} {a : Act} {c₀ : Frame} {cs : List Frame} {w : World} 
    (ho : ops[0]? = some ⟨some t, .call ⟨.builtin .recover, #[], #[]⟩, ty, pos, after, none⟩)
    (h : wpOpsIn Fence.wide n P ops (fun e a' w' => Q e a' ({ c₀ with mode := (recOut c₀.mode).2 } :: cs) w') (List.range' 1 (ops.size - 1)) (a.put (some t) (recOut c₀.mode).1) w) : (Code.region id ops false).wpSIn Fence.wide n P Q a (c₀ :: cs) w := by
  intro b k hb hro hF hroom
  obtain ⟨e, a', w', q, arr⟩ := wp_opsIn _ _ _ h b k ({ c₀ with mode := (recOut c₀.mode).2 } :: cs) hro hF hroom
  have hsz : 0 < ops.size := (Array.getElem?_eq_some_iff.1 ho).1
  have hr : List.range ops.size = 0 :: List.range' 1 (ops.size - 1) := by
    rw [List.range_eq_range', show ops.size = (ops.size - 1) + 1 by omega, List.range'_succ]
    simp
  have i0 : (lone (b.atR a (.code (.region id ops false) :: k)) (c₀ :: cs) w).fenced P Fence.wide := fenced_calm hF hroom rfl
  have habout : ∀ f, (⟨some t, .call ⟨.builtin .recover, #[], #[]⟩, ty, pos, after, none⟩ : Oper).about P w a.eval = some f → Fence.wide.fn f := fun _ _ => trivial
  have i1 : (lone (b.atR a (.inRegion ops (0 :: List.range' 1 (ops.size - 1)) :: k)) (c₀ :: cs) w).fenced P Fence.wide := fenced_oper hF hroom ho habout
  have hw : Region.wanted (⟨some t, .call ⟨.builtin .recover, #[], #[]⟩, ty, pos, after, none⟩ : Oper) (yielded ops a.tmps) = true := rfl
  have hg := stepGR_op (P := P) (b := b) (k := k) (cs := c₀ :: cs) (w := w) (rest := List.range' 1 (ops.size - 1)) ho hw
  rw [hro, Oper.semAt_none] at hg
  have hfin : ∀ v, (b.atR a (.inRegion ops (0 :: List.range' 1 (ops.size - 1)) :: k)).finish v = b.atR (a.put (some t) v) (.inRegion ops (List.range' 1 (ops.size - 1)) :: k) := by
    intro v; rw [Frame.finish_atR, ho]; rfl
  have hrun : (execOp a.eval (⟨some t, .call ⟨.builtin .recover, #[], #[]⟩, ty, pos, after, none⟩ : Oper)).run P w = .ok .recover w := by
    simp [execOp, resolve, invoke, builtin]
  have htr := tryRecover_deferred (fr := b.atR a (.inRegion ops (0 :: List.range' 1 (ops.size - 1)) :: k)) hb (c₀ :: cs)
  refine ⟨e, a', _, w', by simp, q, .of_steps (.head i0 (hr ▸ stepR_region) (.one i1 (step_lone_go ?_))) arr⟩
  rw [hg, ← hfin]
  simp only [Frame.atR, hro] at htr ⊢
  rcases recoverD_out c₀ cs with h1 | ⟨h1, h2⟩
  · simp [stepG.apply, hrun, htr, h1]
  · simp [stepG.apply, hrun, htr, h1, h2]

variable {T : TT} {B : Nat} {w0 w : World} {M0 M : Mem} {E : List Value} {ow : List Own}
/-- A deferred closure that begins with recover. -/
theorem dclo_sound {cc : Bool} {Γ : Ctx} {Gl : Nat → Option D} (hΓ : CtxOk P Gl Γ) (hT : TOk P T) (hmix : P.follows .mixedOrders = true) {f : FuncId} {fn : Func} {id : Nat} {ops : Array Oper} {c2 : Code} {t : Nat} {ty : TypeId} {pos : String} {after : Array Edge} (hf : P.funcs[f]? = some fn) (hb : fn.body = some (.seq (.region id ops false) c2)) (hres : fn.results.toList = [])
    (ho : ops[0]? = some ⟨some t, .call ⟨.builtin .recover, #[], #[]⟩, ty, pos, after, none⟩) (ht : t < fn.ntmps) {u : FrameMode} {dv : D} {ds : List D} {us : Array Value} {k : List Own → Prop} {n : Nat} (hlen : ds.length ≤ fn.ntmps) (hdv : Rep M E dv (recOut u).1)
    (h : exOps cc Γ (fun _ => none) T Gl fn.ntmps ops.toList (ops.toList.drop 1) (setT (parTm 0 ds) t dv) [] ow fun tm ow1 => ex cc Γ T Gl fn.ntmps c2 (fun _ => none) ow.length false ⟨tm, ow1, []⟩ fun e s => match e with | .ret => s.df = [] ∧ k s.ow | .normal => s.df = [] ∧ k s.ow | _ => False)
    (hW : WRel B w0 M0 M E ow w) (hG : GlOk M Gl) (hds : RepL M E ds us.toList) :
    CallsDIn Fence.wide n P f us u w fun e u' w' => (∃ v, e = .returned v) ∧ u' = (recOut u).2 ∧ ∃ M' E' ow', M.le M' ∧ EnvLe E E' ∧ k ow' ∧ WRel B w0 M0 M' E' ow' w' := by
  refine callsDIn_of_wpSIn hf hb trivial fun c₀ cs hu => ?_
  subst hu
  refine wpSIn_seq (wpSIn_rec ho ?_)
  have hs := TRel.start hds hlen
  have hlk : TRel [] fn.ntmps M E (setT (parTm 0 ds) t dv) [] ((({ tmps := us ++ Array.replicate (fn.ntmps - us.size) undef, defers := [] } : Act)).put (some t) (recOut c₀.mode).1) := hs.put (Mem.le_refl _) (EnvLe.refl _) hdv ht rfl
  have hlen2 : (ops.toList.drop 1).length = ops.size - 1 := by simp
  rw [← hlen2]
  refine exOps_soundT (ro := none) hΓ hT (ops.toList.drop 1) [] 1 (by simp) h hW.self hlk hG (fun i t h => by simp at h) ?_
  rintro a' w' ⟨M1, E1, tm1, ow1, q1, q2, q3, q4, q5⟩
  show c2.wpSIn Fence.wide n P _ a' _ w'
  refine wpSIn_of_wpIn rfl ?_
  refine ex_sound (ro := none) (E0 := E) (m := ow.length) (M0 := M) hΓ hT hmix c2 q3 hG (fun i t h => by simp at h) (by rw [hW.len]; exact Nat.le_refl _) (fun _ => rfl) q4 q5 rfl q2 ?_
  rintro e a2 w2 ⟨M', E', s', dv', p1, p2, p3, p4, p5⟩
  have key : (s'.df = [] ∧ k s'.ow) → a2.defers = [] ∧ ∃ u', ({ c₀ with mode := (recOut c₀.mode).2 } :: cs) = { c₀ with mode := u' } :: cs ∧ ∃ v, (results fn a2.tmps).run P w2 = .ok v w2 ∧ ((∃ v', Ending.returned v = .returned v') ∧ u' = (recOut c₀.mode).2 ∧ ∃ M' E' ow', M.le M' ∧ EnvLe E E' ∧ k ow' ∧ WRel B w0 M0 M' E' ow' w2) := by
    rintro ⟨hdf, hk⟩
    rw [hdf] at p5
    have hdv' : dv' = [] := p5
    refine ⟨by rw [p4.defers, hdv'], _, rfl, retV [], run_results (us := []) (by rw [hres]; simp), ⟨_, rfl⟩, rfl, M', E', s'.ow, p3.mle, p1, hk, p3.rebase hW.mle hW.new⟩
  cases e with
  | normal => exact key p2
  | ret => exact key p2
  | exit i => exact p2.elim
  | goto i => exact p2.elim
  | panic i => exact p2.elim
  | outgrown => exact p2.elim

/-- A closure that asks recover first and does nothing where nothing fell. -/
theorem dquiet_of {cc : Bool} {Γ : Ctx} (hΓ : CtxOk P (fun _ => none) Γ) (hT : TOk P T) (hmix : P.follows .mixedOrders = true) {f : FuncId} {fn : Func} {id : Nat} {ops : Array Oper} {c2 : Code} {t : Nat} {ty : TypeId} {pos : String} {after : Array Edge} (hf : P.funcs[f]? = some fn) (hname : (fn.name == "runtime.NumGoroutine") = false) (hb : fn.body = some (.seq (.region id ops false) c2)) (hres : fn.results.toList = [])
    (ho : ops[0]? = some ⟨some t, .call ⟨.builtin .recover, #[], #[]⟩, ty, pos, after, none⟩) (ht : t < fn.ntmps)
    (hn : 2 ≤ fn.ntmps) (h : exOps cc Γ (fun _ => none) T (fun _ => none) fn.ntmps ops.toList (ops.toList.drop 1) (setT [(0, .junk), (1, .junk)] t (.v .nilIface)) [] [] fun tm ow1 => ex cc Γ T (fun _ => none) fn.ntmps c2 (fun _ => none) 0 false ⟨tm, ow1, []⟩ fun e s => match e with | .ret => s.df = [] ∧ True | .normal => s.df = [] ∧ True | _ => False) : DQuiet P f := by
  refine ⟨⟨fn, hf, hname, by simp [hb]⟩, fun n cs w hcs => ?_⟩
  have hfit : Mem.fits (fun _ => none) w := fun b o h => by simp at h
  have hds : RepL (fun _ => none) [] [.junk, .junk] cs.toList := by
    match hl : cs.toList with
    | [a, b] => exact RepL.cons trivial (RepL.cons trivial RepL.nil)
    | [] => have := congrArg List.length hl; simp [hcs] at this
    | [_] => have := congrArg List.length hl; simp [hcs] at this
    | _ :: _ :: _ :: _ => have := congrArg List.length hl; simp [hcs] at this
  refine CallsDIn.mono (dclo_sound (Gl := fun _ => none) (k := fun _ => True) (u := .returning) (dv := .v .nilIface) (ds := [.junk, .junk]) hΓ hT hmix hf hb hres ho ht hn (Rep.val _) h (WRel.start hfit) (fun g d hg => by simp at hg) hds) ?_
  rintro e u' w' ⟨h1, h2, M', E', ow', _, _, _, hW⟩
  exact ⟨h1, h2, hW.below⟩
end
end Go.Sx
