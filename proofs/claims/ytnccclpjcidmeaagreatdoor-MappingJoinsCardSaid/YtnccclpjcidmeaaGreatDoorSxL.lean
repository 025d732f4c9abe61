import Derived.Test.YtnccclpjcidmeaaGreatDoorSxK
namespace Go.Sx
open Go Go.RowKit

/-- The wide fence, in a round or in none. -/
def FW (ro : Option Nat) : Fence := { Fence.wide with round := ro }

def Enters (P : Program) (f : FuncId) : Prop := ∃ fn, P.funcs[f]? = some fn ∧ (fn.name == "runtime.NumGoroutine") = false ∧ fn.body.isNone = false

mutual
theorem Rep.pd {M : Mem} {E E' : List Value} : ∀ (d : D) (u : Value), Sx.pd d = true → Rep M E d u → Rep M E' d u
  | .v x, u, _, h => by simpa only [Rep] using h
  | .sl _ _ _, u, _, h => by simpa only [Rep] using h
  | .pt _ _, u, _, h => by simpa only [Rep] using h
  | .ag l, u, hp, h => by
    simp only [Rep] at h ⊢
    obtain ⟨us, rfl, hl⟩ := h
    exact ⟨us, rfl, RepL.pd _ _ (by simpa [Sx.pd] using hp) hl⟩
  | .tu l, u, hp, h => by
    simp only [Rep] at h ⊢
    obtain ⟨us, rfl, hl⟩ := h
    exact ⟨us, rfl, RepL.pd _ _ (by simpa [Sx.pd] using hp) hl⟩
  | .own _ _, u, hp, _ => by simp [Sx.pd] at hp
  | .row _, u, hp, _ => by simp [Sx.pd] at hp
  | .rp _ _ _ _, u, hp, _ => by simp [Sx.pd] at hp
  | .fn g l, u, hp, h => by
    simp only [Rep] at h ⊢
    obtain ⟨us, rfl, hl⟩ := h
    exact ⟨us, rfl, RepL.pd _ _ (by simpa [Sx.pd] using hp) hl⟩
  | .ifc t d, u, hp, h => by
    simp only [Rep] at h ⊢
    obtain ⟨x, rfl, hx⟩ := h
    exact ⟨x, rfl, Rep.pd _ _ (by simpa [Sx.pd] using hp) hx⟩
  | .yl _, u, hp, _ => by simp [Sx.pd] at hp
  | .mp _, u, hp, _ => by simp [Sx.pd] at hp
  | .os _ _ _, u, hp, _ => by simp [Sx.pd] at hp
  | .sd _, u, hp, _ => by simp [Sx.pd] at hp
  | .junk, u, _, _ => by simp [Rep]
theorem RepL.pd {M : Mem} {E E' : List Value} : ∀ (l : List D) (us : List Value), Sx.pdL l = true → RepL M E l us → RepL M E' l us
  | [], us, _, h => by simpa only [RepL] using h
  | d :: ds, us, hp, h => by
    simp only [RepL] at h ⊢
    obtain ⟨u, r, rfl, hd, hr⟩ := h
    simp [Sx.pdL] at hp
    exact ⟨u, r, rfl, Rep.pd _ _ hp.1 hd, RepL.pd _ _ hp.2 hr⟩
end

/-- The contract of a function. -/
def Sound (P : Program) (Gl : Nat → Option D) (f : FuncId) (ct : Ct) : Prop :=
  Enters P f ∧ (∀ x, pdL (ct.inp x) = true) ∧ ∀ x, ct.pre x → ∀ (M : Mem) (w : World) (us : Array Value), M.fits w → GlOk M Gl → RepL M [] (ct.inp x) us.toList →
    ∀ n, CallsIn Fence.wide n P f us w fun e w' => ∃ M' u, e = .returned u ∧ M.le M' ∧ (∀ b o, M' b = some o → M b = some o ∨ w.heap.size ≤ b) ∧ M'.fits w' ∧ Rep M' [] (ct.out x) u ∧ Below w.heap.size w w'

/-- What a call of yield comes to. -/
def YieldsTo (P : Program) (l : Nat) (us : Array Value) (w : World) (n : Nat) (R : Ending → World → Prop) : Prop :=
  ∃ f tmps assign body, (Instr.yield l us).run P w = .ok (.round l f tmps assign body) w ∧ RoundIn Fence.wide n P l f tmps assign body w R

/-- The loops over functions that are under way. -/
def YOk (P : Program) (Gl : Nat → Option D) (B : Nat) (w0 : World) (M : Mem) (E : List Value) (Y : Ys) : Prop :=
  ∀ i t, Y i = some t → ∃ l, E[i]? = some (.pointer (some ⟨l, 0, none⟩)) ∧ ∀ ds ow k, t ds ow k → ∀ M0 M' E' w (us : Array Value), M.le M' → EnvLe E E' → WRel B w0 M0 M' E' ow w → GlOk M' Gl → RepL M' E' ds us.toList →
    ∀ n, YieldsTo P l us w n fun e w' => ∃ d u M'' E'' ow', e = .returned u ∧ k d ow' ∧ M'.le M'' ∧ EnvLe E' E'' ∧ WRel B w0 M0 M'' E'' ow' w' ∧ Rep M'' E'' d u

theorem YOk.mono {P : Program} {Gl : Nat → Option D} {B : Nat} {w0 : World} {M M1 : Mem} {E E1 : List Value} {Y : Ys} (h : YOk P Gl B w0 M E Y) (hM : M.le M1) (hE : EnvLe E E1) : YOk P Gl B w0 M1 E1 Y := by
  intro i t ht
  obtain ⟨l, h1, h2⟩ := h i t ht
  exact ⟨l, hE _ _ h1, fun ds ow k hk M0 M' E' w us hM' hE' => h2 ds ow k hk M0 M' E' w us (Mem.le_trans hM hM') (hE.trans hE')⟩

/-- A transformer of what the caller owns. -/
def SoundT (P : Program) (Gl : Nat → Option D) (f : FuncId) (tr : Tr) : Prop :=
  Enters P f ∧ ∀ Y ds ow k, tr Y ds ow k → ∀ B w0 M0 M E w (us : Array Value), WRel B w0 M0 M E ow w → GlOk M Gl → YOk P Gl B w0 M E Y → RepL M E ds us.toList →
    ∀ n, CallsIn Fence.wide n P f us w fun e w' => ∃ d u M' E' ow', e = .returned u ∧ k d ow' ∧ M.le M' ∧ EnvLe E E' ∧ WRel B w0 M0 M' E' ow' w' ∧ Rep M' E' d u

/-- A function without a text: what it answers. -/
def SoundS (P : Program) (Gl : Nat → Option D) (f : FuncId) (g : List D → Option D) : Prop := ∀ ds d, g ds = some d → ∀ (M : Mem) (E : List Value) (us : Array Value) (w : World), M.fits w → GlOk M Gl → RepL M E ds us.toList → ∃ u, (callFunc f us).run P w = .ok (.value u) w ∧ Rep M E d u

def HdOk (P : Program) (Gl : Nat → Option D) (f : FuncId) : Hd → Prop
  | .pure ct => Sound P Gl f ct
  | .gen tr => SoundT P Gl f tr
  | .ext g => SoundS P Gl f g

def CtxOk (P : Program) (Gl : Nat → Option D) (Γ : Ctx) : Prop := ∀ f h, Γ f = some h → HdOk P Gl f h

section
variable {P : Program} {T : TT} {B : Nat} {w0 w w' : World} {M0 M M' : Mem} {E E' : List Value} {ow : List Own} {dv : List Deferred}

theorem GlOk.mono {Gl : Nat → Option D} (h : GlOk M Gl) (hM : M.le M') : GlOk M' Gl := fun g d hd => Rep.mono hM (EnvLe.refl _) _ _ (h g d hd)

theorem WRel.call (h : WRel B w0 M0 M E ow w) (hle : M.le M') (hnew : ∀ b o, M' b = some o → M b = some o ∨ w.heap.size ≤ b) (hfit : M'.fits w') (hb : Below w.heap.size w w') : WRel B w0 M0 M' E ow w' := by
  refine ⟨hfit, Nat.le_trans h.base hb.size, h.below.trans (hb.mono h.base), h.len, fun i o v ho hv => ?_, h.inj, Mem.le_trans h.mle hle, fun b o hbo => ?_⟩
  · have hH := h.holds _ _ _ ho hv
    refine hH.frame (fun b hl hbk => hb.block b (hH.lt hl hbk).1) hle (EnvLe.refl _) (fun b hf hbk => ?_)
    obtain ⟨h1, h2, h3'⟩ := hH.lt (Own.free_live hf) hbk
    have h3 := h3' hf
    cases hm : M' b with
    | none => rfl
    | some o' =>
      rcases hnew _ _ hm with h4 | h4
      · rw [h3] at h4; simp at h4
      · omega
  · rcases hnew _ _ hbo with h4 | h4
    · exact h.new _ _ h4
    · exact .inr (Nat.le_trans h.base h4)

theorem run_callFunc {f : FuncId} {args : Array Value} (h : Enters P f) : (callFunc f args).run P w = .ok (.enter f args) w := by
  obtain ⟨fn, h1, h2, h3⟩ := h
  simp only [callFunc, Sem.run_bind, run_program, Result.andThen_ok, h1]
  simp [h2, h3]

theorem execOp_call (ρ : Operand → Value) (dst : Option Tmp) (f : FuncId) (xs : Array Operand) (ats : Array TypeId) (ty : TypeId) (pos : String) (after : Array Edge) (guard : Option (Nat × Bool)) :
    execOp ρ { dst, op := .call { callee := .value (.func f), args := xs, argTypes := ats }, type := ty, pos, after, guard } = (do let d ← Deferred.ofValue (ρ (.func f)) (xs.map ρ); invoke d.target d.args) := rfl

theorem methOf_sound {t : TypeId} {ti : TI} {name : String} {f : Nat} {v : Value} (hti : tiOf P t = some ti) (h : methOf ti name = some f) : (method (P.types.size + Made.depth) t v name).run P w = .ok (f, v) w := by
  obtain ⟨i, d, hi, hd, rfl⟩ := tiOf_some hti
  unfold methOf at h
  split at h <;> simp at h
  rename_i nm f' hfind
  subst h
  simp only [methsOf] at hfind
  split at hfind
  · simp at hfind
  · rename_i hnp
    rw [List.find?_map] at hfind
    simp only [Option.map_eq_some_iff, Prod.mk.injEq] at hfind
    obtain ⟨m, hm, _, hfn⟩ := hfind
    have hfind' : i.methods.find? (fun x => x.name == name) = some m := by
      rw [← Array.find?_toList]; exact hm
    split at hfn <;> try (simp at hfn; done)
    rename_i g hg
    split at hfn <;> try (simp at hfn; done)
    rename_i hp
    simp at hfn; subst hfn
    have hpl : m.path.toList = [] := by simpa [Array.isEmpty_iff] using hp
    have hfuel : P.types.size + Made.depth = (P.types.size + Made.depth - 1) + 1 := by
      have : 0 < Made.depth := by decide
      omega
    rw [hfuel]
    simp only [method, Sem.run_bind]
    rw [show (typeInfo t).run P w = .ok i w by simp [typeInfo, hi]]
    simp only [Result.andThen_ok, hfind', hpl, follow, Sem.run_pure, hg, Sem.run_bind]
    have hrec : (receiverAt t (.val v) false (if m.path.isEmpty then some ((name.splitOn ".").getLastD name) else none)).run P w = .ok v w := by
      simp only [receiverAt, Sem.run_bind, run_underlying' hd, Result.andThen_ok]
      cases d <;> first | rfl | exact absurd rfl (hnp _)
    rw [hrec]
    rfl

/-- The fence lets all by. -/
theorem wpIn_of {ro : Option Nat} {n : Nat} {o : Oper} {a : Act} {K : Act → World → Prop} {Q : Exit → Act → World → Prop} (hd : ∀ c, o.op ≠ .defer c) (h : o.uponIn (FW ro) n P a K Q ((execOp a.eval o).run P w)) : o.wpIn (FW ro) n P a w K Q :=
  ⟨fun _ _ => trivial, by rw [Oper.semAt_eq _ _ _ hd]; exact h⟩

def Next (dv : List Deferred) (N B : Nat) (w0 : World) (M0 M : Mem) (E : List Value) (gs : Gs) (k : List (Nat × D) → List Own → Prop) (a : Act) (w : World) : Prop :=
  ∃ M' E' tm' ow', M.le M' ∧ EnvLe E E' ∧ k tm' ow' ∧ WRel B w0 M0 M' E' ow' w ∧ TRel dv N M' E' tm' gs a

theorem putK_sound {N : Nat} {dst : Option Nat} {gs : Gs} {d : D} {tm : List (Nat × D)} {ow' : List Own} {k : List (Nat × D) → List Own → Prop} {a : Act} {u : Value} {E0 : List Value} {Mb : Mem} (h : putK N dst gs d tm fun tm' => k tm' ow') (hT : TRel dv N M E tm gs a)
    (hM : M.le M') (hE : EnvLe E E') (hW : WRel B w0 M0 M' E' ow' w') (hu : Rep M' E' d u) (hMb : Mb.le M) (hE0 : EnvLe E0 E) : Next dv N B w0 M0 Mb E0 gs k (a.put dst u) w' := by
  unfold putK at h
  split at h
  · rename_i t
    split at h <;> try exact h.elim
    split at h <;> try exact h.elim
    rename_i h1 h2
    exact ⟨M', E', _, _, Mem.le_trans hMb hM, hE0.trans hE, h, hW, hT.put hM hE hu h1 h2⟩
  · exact ⟨M', E', _, _, Mem.le_trans hMb hM, hE0.trans hE, h, hW, by simpa [Act.put] using hT.mono hM hE⟩

theorem exCall_sound {Γ : Ctx} {Y : Ys} {Gl : Nat → Option D} (hΓ : CtxOk P Gl Γ) {N : Nat} {f : FuncId} {dst : Option Nat} {ds : List D} {tm : List (Nat × D)} {gs : Gs} {k : List (Nat × D) → List Own → Prop} (h : exCall Γ Y N f dst ds tm gs ow k)
    {a : Act} (hW : WRel B w0 M0 M E ow w) (hR : TRel dv N M E tm gs a) (hG : GlOk M Gl) (hY : YOk P Gl B w0 M E Y) {us : Array Value} (hds : RepL M E ds us.toList) {ro : Option Nat} {n : Nat} {o : Oper} (hdst : o.dst = dst) (Q : Exit → Act → World → Prop) :
    o.uponIn (FW ro) n P a (Next dv N B w0 M0 M E gs k) Q ((callFunc f us).run P w) := by
  unfold exCall at h
  split at h
  · rename_i ct hf
    have hS : Sound P Gl f ct := hΓ _ _ hf
    rw [run_callFunc hS.1]
    cases hfr : frzL ow ds with
    | mk ds' ow' =>
      rw [hfr] at h
      obtain ⟨x, hent, hpre, hput⟩ := h
      obtain ⟨M1, hle1, hW1, hrep1⟩ := frzL_sound ds hfr hW hds
      have hin := RepL.pd _ _ (hS.2.1 x) (hent _ _ _ hrep1) (E' := [])
      refine ⟨fun hh => by simp [FW, Fence.wide] at hh, ?_⟩
      refine CallsIn.mono (F := FW ro) (hS.2.2 x hpre M1 w us hW1.fits (hG.mono hle1) hin (n - 1)) ?_
      rintro e w' ⟨M', u, rfl, hle, hnew, hfit, hrep, hb⟩
      rw [hdst]
      exact putK_sound hput hR (Mem.le_trans hle1 hle) (EnvLe.refl _) (hW1.call hle hnew hfit hb) (Rep.mono (Mem.le_refl _) (EnvLe.nil _) _ _ hrep) (Mem.le_refl _) (EnvLe.refl _)
  · rename_i tr hf
    have hS : SoundT P Gl f tr := hΓ _ _ hf
    rw [run_callFunc hS.1]
    refine ⟨fun hh => by simp [FW, Fence.wide] at hh, ?_⟩
    refine CallsIn.mono (F := FW ro) (hS.2 _ _ _ _ h B w0 M0 M E w us hW hG hY hds (n - 1)) ?_
    rintro e w' ⟨d, u, M', E', ow', rfl, hk, hle, hEP, hW', hrep⟩
    rw [hdst]
    exact putK_sound hk hR hle hEP hW' hrep (Mem.le_refl _) (EnvLe.refl _)
  · rename_i g hf
    have hS : SoundS P Gl f g := hΓ _ _ hf
    split at h
    · rename_i d hgd
      obtain ⟨u, hrun, hu⟩ := hS _ _ hgd M E us w hW.fits hG hds
      rw [hrun]
      show Next dv N B w0 M0 M E gs k (a.put o.dst u) w
      rw [hdst]
      exact putK_sound h hR (Mem.le_refl _) (EnvLe.refl _) hW hu (Mem.le_refl _) (EnvLe.refl _)
    · exact h.elim
  · exact h.elim

theorem exOp_sound {cc : Bool} {Γ : Ctx} {Y : Ys} {Gl : Nat → Option D} (hΓ : CtxOk P Gl Γ) (hT : TOk P T) {N : Nat} {op : Op} {dst : Option Nat} {tm : List (Nat × D)} {gs : Gs} {k : List (Nat × D) → List Own → Prop} (h : exOp cc Γ Y T Gl N op dst tm gs ow k)
    {a : Act} (hW : WRel B w0 M0 M E ow w) (hR : TRel dv N M E tm gs a) (hG : GlOk M Gl) (hY : YOk P Gl B w0 M E Y) {ro : Option Nat} {n : Nat} (ty : TypeId) (pos : String) (after : Array Edge) (guard : Option (Nat × Bool)) (Q : Exit → Act → World → Prop) :
    (⟨dst, op, ty, pos, after, guard⟩ : Oper).wpIn (FW ro) n P a w (Next dv N B w0 M0 M E gs k) Q := by
  have hnd : ∀ c, op ≠ .defer c := by rintro c rfl; simp [exOp, evPure, evNew, evNewD, evOwn, nilCmp] at h
  refine wpIn_of hnd ?_
  have hok : ∀ s b, (fun (_ : Nat) (_ : Bool) => false) s b = true → a.tmps.getD s undef = .bool b := by intro s b h; simp at h
  unfold exOp at h
  split at h
  · -- pick
    rename_i s x y
    split at h
    · split at h <;> try exact h.elim
      rename_i t hc
      have h1 := opnd_sound hR hG hok hc
      simp only [Rep] at h1
      have hrun : (execOp a.eval ⟨dst, .pick (.tmp s) x y, ty, pos, after, guard⟩).run P w = .ok (.value (if t then a.eval x else a.eval y)) w := by
        simp only [execOp, h1]; simp [asBool]
      rw [hrun]
      cases t with
      | true =>
        have h2 := h.1 rfl
        split at h2 <;> try exact h2.elim
        rename_i d hd
        exact putK_sound h2 hR (Mem.le_refl _) (EnvLe.refl _) hW (opnd_sound hR hG hok hd) (Mem.le_refl _) (EnvLe.refl _)
      | false =>
        have h2 := h.2 rfl
        split at h2 <;> try exact h2.elim
        rename_i d hd
        exact putK_sound h2 hR (Mem.le_refl _) (EnvLe.refl _) hW (opnd_sound hR hG hok hd) (Mem.le_refl _) (EnvLe.refl _)
    · split at h <;> try exact h.elim
      rename_i c xa yb hc hx hy
      split at h <;> try exact h.elim
      rename_i d hd
      unfold pickD at hd
      split at hd
      · rename_i t px py
        simp at hd; subst hd
        have h1 := opnd_sound hR hG hok hc
        simp only [Rep] at h1
        have hrun : ∃ u, (execOp a.eval ⟨dst, .pick (.tmp s) x y, ty, pos, after, guard⟩).run P w = .ok (.value u) w ∧ u = .bool (cond t px py) := by
          refine ⟨_, by simp only [execOp, h1]; simp [asBool]; rfl, ?_⟩
          cases t with
          | true =>
            have hx' := opnd_sound hR hG (ok := fun s' b' => s' == s && b') (fun s' b' hb => by
              simp at hb; obtain ⟨rfl, rfl⟩ := hb; simpa [Act.eval] using h1) hx
            simp only [Rep] at hx'
            simp [hx']
          | false =>
            have hy' := opnd_sound hR hG (ok := fun s' b' => s' == s && !b') (fun s' b' hb => by
              simp at hb; obtain ⟨rfl, rfl⟩ := hb; simpa [Act.eval] using h1) hy
            simp only [Rep] at hy'
            simp [hy']
        obtain ⟨u, hr, rfl⟩ := hrun
        rw [hr]
        exact putK_sound h hR (Mem.le_refl _) (EnvLe.refl _) hW (Rep.val _) (Mem.le_refl _) (EnvLe.refl _)
      · simp at hd
  · -- a call
    rename_i f args ats
    split at h <;> try exact h.elim
    rename_i ds hds
    have hds' := gets_rep (ρ := a.eval) (M := M) (E := E) (fun x d hx => opnd_sound hR hG hok hx) hds
    have hup := exCall_sound hΓ h hW hR hG hY (us := args.map a.eval) (by simpa using hds') (ro := ro) (n := n) (o := ⟨dst, .call ⟨.value (.func f), args, ats⟩, ty, pos, after, guard⟩) rfl Q
    have hcall : (execOp a.eval ⟨dst, .call ⟨.value (.func f), args, ats⟩, ty, pos, after, guard⟩).run P w = (callFunc f (args.map a.eval)).run P w := by
      show (callFunc f (#[] ++ args.map a.eval ++ #[])).run P w = _
      simp
    rw [hcall]; exact hup
  · -- a call of a function's value
    rename_i y args ats
    split at h <;> try exact h.elim
    · rename_i f caps ds hy hds
      have hds' := gets_rep (ρ := a.eval) (M := M) (E := E) (fun x d hx => opnd_sound hR hG hok hx) hds
      have hfv := opnd_sound hR hG hok hy
      simp only [Rep] at hfv
      obtain ⟨cs, hfv, hcs⟩ := hfv
      have hup := exCall_sound hΓ h hW hR hG hY (us := args.map a.eval ++ cs) (by simpa using RepL.append hds' hcs) (ro := ro) (n := n) (o := ⟨dst, .call ⟨.value (.tmp y), args, ats⟩, ty, pos, after, guard⟩) rfl Q
      have hcall : (execOp a.eval ⟨dst, .call ⟨.value (.tmp y), args, ats⟩, ty, pos, after, guard⟩).run P w = (callFunc f (args.map a.eval ++ cs)).run P w := by
        simp only [execOp, resolve, hfv, Deferred.ofValue, Sem.run_bind, Sem.run_pure, Result.andThen_ok, invoke]
        simp
      rw [hcall]; exact hup
    · rename_i i ds hy hds
      split at h <;> try exact h.elim
      rename_i t ht
      have hds' := gets_rep (ρ := a.eval) (M := M) (E := E) (fun x d hx => opnd_sound hR hG hok hx) hds
      have hfv := opnd_sound hR hG hok hy
      simp only [Rep] at hfv
      obtain ⟨l, hEl, hfv⟩ := hfv
      obtain ⟨l', hE', hyl⟩ := hY i t ht
      rw [hEl] at hE'; simp at hE'; subst hE'
      obtain ⟨f, tmps, as, bd, hr, hround⟩ := hyl _ _ _ h M0 M E w (args.map a.eval) (Mem.le_refl _) (EnvLe.refl _) hW hG (by simpa using hds') (n - 1)
      have hcall : (execOp a.eval ⟨dst, .call ⟨.value (.tmp y), args, ats⟩, ty, pos, after, guard⟩).run P w = .ok (.round l f tmps as bd) w := by
        simp only [execOp, resolve, hfv, Deferred.ofValue, Sem.run_bind, Sem.run_pure, Result.andThen_ok, invoke]
        simp
        exact hr
      rw [hcall]
      refine ⟨fun hh => by simp [FW, Fence.wide] at hh, ?_⟩
      refine RoundIn.mono (F := FW ro) hround ?_
      rintro e w' ⟨d, u, M', E', ow', rfl, hk, hle, hEP, hW', hrep⟩
      exact putK_sound hk hR hle hEP hW' hrep (Mem.le_refl _) (EnvLe.refl _)
  · -- a method's call
    rename_i y name args ats
    split at h <;> try exact h.elim
    rename_i t d ds hy hds
    split at h <;> try exact h.elim
    rename_i ti hti
    split at h <;> try exact h.elim
    rename_i f hf
    have hds' := gets_rep (ρ := a.eval) (M := M) (E := E) (fun x d hx => opnd_sound hR hG hok hx) hds
    have hfv := opnd_sound hR hG hok hy
    simp only [Rep] at hfv
    obtain ⟨rv, hfv, hrv⟩ := hfv
    have hup := exCall_sound hΓ h hW hR hG hY (us := #[rv] ++ args.map a.eval) (by
      have e0 : (#[rv] ++ args.map a.eval).toList = rv :: (args.map a.eval).toList := by simp
      rw [e0]
      simp only [RepL]
      exact ⟨rv, _, rfl, hrv, by simpa using hds'⟩) (ro := ro) (n := n) (o := ⟨dst, .call ⟨.invoke y name, args, ats⟩, ty, pos, after, guard⟩) rfl Q
    have hm := methOf_sound (w := w) (v := rv) (hT _ _ hti) hf
    have hcall : (execOp a.eval ⟨dst, .call ⟨.invoke y name, args, ats⟩, ty, pos, after, guard⟩).run P w = (callFunc f (#[rv] ++ args.map a.eval)).run P w := by
      have e1 : (execOp a.eval ⟨dst, .call ⟨.invoke y name, args, ats⟩, ty, pos, after, guard⟩).run P w = (callMethod (a.eval y) name ((#[a.eval y] ++ args.map a.eval).extract 1 (#[a.eval y] ++ args.map a.eval).size)).run P w := by
        have h0 : (#[a.eval y] ++ args.map a.eval)[0]? = some (a.eval y) := by
          rw [Array.getElem?_append_left (by simp)]; rfl
        simp [execOp, resolve, invoke, h0]
      have e2 : (#[a.eval y] ++ args.map a.eval).extract 1 (#[a.eval y] ++ args.map a.eval).size = args.map a.eval := by
        apply Array.ext'
        simp
        exact List.take_of_length_le (by simp)
      rw [e1, e2, hfv]
      simp only [callMethod, Sem.run_bind, run_program, Result.andThen_ok]
      rw [hm]
      rfl
    rw [hcall]; exact hup
  · -- append
    rename_i sx xx t t'
    split at h <;> try exact h.elim
    rename_i ds dx hds hdx
    split at h <;> try exact h.elim
    rename_i vs i o hev
    rw [need_iff] at h
    have hs := opnd_sound hR hG hok hds
    have hx : Rep M E dx (a.eval xx) := by
      rw [opndR_eq, Option.map_eq_some_iff] at hdx
      obtain ⟨d0, h1, rfl⟩ := hdx
      exact res_sound hW (opnd_sound hR hG hok h1)
    obtain ⟨v', w', hr, hW'⟩ := evApp_sound (ty := ty) hT hev h.1 hW hs hx
    have hrun : (execOp a.eval ⟨dst, .call ⟨.builtin .append, #[sx, xx], #[t, t']⟩, ty, pos, after, guard⟩).run P w = .ok (.value v') w' := by
      simp [execOp, resolve, invoke, builtin, hr]
    rw [hrun]
    exact putK_sound h.2 hR (Mem.le_refl _) (EnvLe.append _ _) hW' (by simp only [Rep]; rw [← hW.len, List.getElem?_append_right (Nat.le_refl _)]; simp) (Mem.le_refl _) (EnvLe.refl _)
  · -- a look-up
    rename_i t x ix ok
    split at h <;> try exact h.elim
    rename_i kt vt mo i kd hTt hx hix
    split at h <;> try exact h.elim
    rename_i ki vi kt' vt' sh f key hTk hTv ho hkv
    split at h <;> try exact h.elim
    rename_i hc
    obtain ⟨rfl, rfl, hsh, hks⟩ := hc
    split at h <;> try exact h.elim
    rename_i z hz
    obtain ⟨r, hr1, hr2⟩ := lookup_sound (P := P) (ok := ok) hT hTt rfl hTk hTv ho hsh hks hz hkv hW (opnd_sound hR hG hok hx) (opnd_sound hR hG hok hix)
    have hrun : (execOp a.eval ⟨dst, .lookup t x ix ok, ty, pos, after, guard⟩).run P w = .ok (.value r) w := by
      simp [execOp, hr1]
    rw [hrun]
    rcases hr2 with ⟨d, hd, hrep⟩ | ⟨hn, hrep⟩
    · exact putK_sound (h.1 d hd) hR (Mem.le_refl _) (EnvLe.refl _) hW hrep (Mem.le_refl _) (EnvLe.refl _)
    · exact putK_sound (h.2 hn) hR (Mem.le_refl _) (EnvLe.refl _) hW hrep (Mem.le_refl _) (EnvLe.refl _)
  · -- the others
    split at h
    · rename_i vs d hev
      rw [need_iff] at h
      obtain ⟨u, hr, hrep⟩ := evPure_sound (ρ := a.eval) hT hev h.1 (fun x d hx => by
        rw [opndR_eq, Option.map_eq_some_iff] at hx
        obtain ⟨d0, h1, rfl⟩ := hx
        exact res_sound hW (opnd_sound hR hG hok h1)) hW dst ty pos after guard
      rw [hr]
      exact putK_sound h.2 hR (Mem.le_refl _) (EnvLe.refl _) hW hrep (Mem.le_refl _) (EnvLe.refl _)
    · split at h
      · rename_i d ow' hev
        obtain ⟨u, w', M', hr, hle, hrep, hW'⟩ := evNew_sound (ρ := a.eval) hT hev (fun x d hx => by
          rw [opndR_eq, Option.map_eq_some_iff] at hx
          obtain ⟨d0, h1, rfl⟩ := hx
          exact res_sound hW (opnd_sound hR hG hok h1)) hW dst ty pos after guard
        rw [hr]
        exact putK_sound h hR hle (EnvLe.refl _) hW' hrep (Mem.le_refl _) (EnvLe.refl _)
      · split at h
        · rename_i vs d ow' hev
          rw [need_iff] at h
          obtain ⟨u, w', M', E', hr, hle, hrep, hW', hEE⟩ := evOwn_sound (ρ := a.eval) hT hev h.1 (fun x d hx => by
            rw [opndR_eq, Option.map_eq_some_iff] at hx
            obtain ⟨d0, h1, rfl⟩ := hx
            exact res_sound hW (opnd_sound hR hG hok h1)) hW dst ty pos after guard
          rcases hr with hr | ⟨hr, rfl⟩
          · rw [hr]; exact putK_sound h.2 hR hle hEE hW' hrep (Mem.le_refl _) (EnvLe.refl _)
          · rw [hr]; exact putK_sound h.2 hR hle hEE hW' hrep (Mem.le_refl _) (EnvLe.refl _)
        · split at h
          · rename_i n neg hev
            obtain ⟨q, hq, hr⟩ := nilCmp_sound (ρ := a.eval) hT hev (fun x d hx => by
              rw [opndR_eq, Option.map_eq_some_iff] at hx
              obtain ⟨d0, h1, rfl⟩ := hx
              exact res_sound hW (opnd_sound hR hG hok h1)) hW dst ty pos after guard
            rw [hr]
            exact putK_sound (h q hq) hR (Mem.le_refl _) (EnvLe.refl _) hW (Rep.val _) (Mem.le_refl _) (EnvLe.refl _)
          · exact h.elim
end
end Go.Sx
