import Derived.Test.YtnccclpjcidmeaaGreatDoorSxJ3
namespace Go.Sx
open Go Go.RowKit

section
variable {P : Program} {T : TT} {B : Nat} {w0 w w' : World} {M0 M M' : Mem} {E E' : List Value} {ow : List Own} {dv : List Deferred}

theorem EnvLe.trans {E1 E2 E3 : List Value} (h : EnvLe E1 E2) (k : EnvLe E2 E3) : EnvLe E1 E3 := fun _ _ hb => k _ _ (h _ _ hb)

theorem getD_put {a : Act} {t : Nat} {u : Value} {N : Nat} (hN : a.tmps.size = N) (ht : t < N) (s : Nat) : (a.put (some t) u).tmps.getD s undef = if s = t then u else a.tmps.getD s undef := by
  simp only [Act.put, Array.getD_eq_getD_getElem?, Array.getElem?_setIfInBounds]
  by_cases h : s = t
  · subst h; simp [hN, ht]
  · have : t ≠ s := fun e => h e.symm
    simp [h, this]

theorem freeG_spec : ∀ {gs : Gs} {t : Nat}, freeG gs t = true → ∀ {s g : Nat} {b : Bool} {d : D}, lkG gs s = some (g, b, d) → s ≠ t ∧ g ≠ t
  | [], t, _, s, g, b, d, h => by simp [lkG] at h
  | (s', g', b', d') :: r, t, hf, s, g, b, d, h => by
    simp only [freeG] at hf
    split at hf <;> try (simp at hf; done)
    split at hf <;> try (simp at hf; done)
    rename_i h1 h2
    simp only [lkG] at h
    split at h
    · rename_i hs
      simp at h; obtain ⟨rfl, rfl, rfl⟩ := h
      exact ⟨by rw [← hs]; exact h1, h2⟩
    · exact freeG_spec hf h

theorem TRel.put {N : Nat} {tm : List (Nat × D)} {gs : Gs} {a : Act} (h : TRel dv N M E tm gs a) (hM : M.le M') (hE : EnvLe E E') {t : Nat} {d : D} {u : Value} (hu : Rep M' E' d u) (ht : t < N) (hf : freeG gs t = true) :
    TRel dv N M' E' (setT tm t d) gs (a.put (some t) u) := by
  refine ⟨by simp [Act.put, h.size], by simp [Act.put, h.defers], fun s x hs => ?_, fun s g b x hs hb => ?_⟩
  · rw [getD_put h.size ht]
    rw [lk_setT] at hs
    split at hs
    · rename_i hst; simp at hs; subst hs; subst hst; simpa using hu
    · rename_i hst
      rw [if_neg (fun e => hst e.symm)]
      exact Rep.mono hM hE _ _ (h.tmps _ _ hs)
  · obtain ⟨h1, h2⟩ := freeG_spec hf hs
    rw [getD_put h.size ht, if_neg h2] at hb
    rw [getD_put h.size ht, if_neg h1]
    exact Rep.mono hM hE _ _ (h.guarded _ _ _ _ hs hb)

theorem TRel.mono {N : Nat} {tm : List (Nat × D)} {gs : Gs} {a : Act} (h : TRel dv N M E tm gs a) (hM : M.le M') (hE : EnvLe E E') : TRel dv N M' E' tm gs a :=
  ⟨h.size, h.defers, fun _ _ hs => Rep.mono hM hE _ _ (h.tmps _ _ hs), fun _ _ _ _ hs hb => Rep.mono hM hE _ _ (h.guarded _ _ _ _ hs hb)⟩

def GlOk (M : Mem) (Gl : Nat → Option D) : Prop := ∀ g d, Gl g = some d → Rep M [] d (.pointer (some ⟨g, 0, none⟩))

theorem opnd_sound {N : Nat} {Gl : Nat → Option D} {ok : Nat → Bool → Bool} {tm : List (Nat × D)} {gs : Gs} {a : Act} (hT : TRel dv N M E tm gs a) (hG : GlOk M Gl) (hok : ∀ s b, ok s b = true → a.tmps.getD s undef = .bool b)
    {x : Operand} {d : D} (h : opnd Gl ok tm gs x = some d) : Rep M E d (a.eval x) := by
  cases x with
  | tmp t =>
    simp only [opnd] at h
    split at h
    · rename_i s b d' hs
      split at h
      · rename_i hk
        simp at h; subst h
        exact hT.guarded _ _ _ _ hs (hok _ _ hk)
      · simp at h
    · exact hT.tmps _ _ h
  | const v => simp only [opnd] at h; simp at h; subst h; exact Rep.val _
  | global g => simp only [opnd] at h; exact Rep.mono (Mem.le_refl _) (EnvLe.nil _) _ _ (hG _ _ h)
  | func f =>
    simp only [opnd] at h; simp at h; subst h
    simp only [Rep]
    exact ⟨#[], rfl, RepL.nil⟩

/-- A map's look-up. -/
theorem lookup_sound (hT : TOk P T) {t kt vt : TypeId} {ti ki vi : TI} (hTt : T t = some ti) (hk : ti.kind = .map kt vt) (hTk : T kt = some ki) (hTv : T vt = some vi) {i : Nat} {sh : KS} {f : KV → Option D} {key : KV} {kd z : D} {u v : Value} {ok : Bool} (ho : ow[i]? = some (.map kt vt sh f)) (hsh : ksOf ki = some sh) (hks : kvSh key = sh)
    (hz : zeroD vi = some z) (hkv : kvOf kd = some key) (hW : WRel B w0 M0 M E ow w) (hu : Rep M E (.mp i) u) (hv : Rep M E kd v) :
    ∃ r, (Instr.lookup t u v ok).run P w = .ok r w ∧ ((∃ d, f key = some d ∧ Rep M E (if ok then .tu [d, .v (.bool true)] else d) r) ∨ (f key = none ∧ Rep M E (if ok then .tu [z, .v (.bool false)] else z) r)) := by
  obtain ⟨i1, td, hi1, hd1, rfl⟩ := tiOf_some (hT _ _ hTt)
  obtain rfl := tkOf_map hk
  simp only [Rep] at hu
  obtain ⟨b, hE, rfl⟩ := hu
  have hH := hW.holds _ _ _ ho hE
  simp only [Holds] at hH
  obtain ⟨b', es, ck, hb', hheap, hmr, hMb, hB⟩ := hH
  simp at hb'; subst hb'
  have hku := kvOf_rep hkv hv
  subst hku
  obtain ⟨r, hr1, hr2⟩ := run_findKey (P := P) (w := w) (hT _ _ hTk) hsh hks hmr.keys
  have hck := run_checkKey (P := P) (w := w) (b := es.isEmpty) (n := 9998) (hT _ _ hTk) hsh hks
  have hgetm : (getObj b).run P w = .ok (.map es ck) w := by simp [getObj, Sem.run, hheap]
  obtain ⟨zv, hzv, hzr⟩ := zeroD_rep (P := P) (w := w) (M := M) (E := E) (hT _ _ hTv) hz
  cases r with
  | none =>
    simp only [FindOk] at hr2
    have hnone : f key = none := by
      cases hf : f key with
      | none => rfl
      | some d =>
        obtain ⟨j, e, h1, h2, _⟩ := hmr.has key d hf
        exact absurd h2 (hr2 e (List.mem_of_getElem? h1))
    refine ⟨_, by simp [Instr.lookup, run_underlying' hd1, hgetm, hck, hr1, hzv]; rfl, .inr ⟨hnone, ?_⟩⟩
    cases ok with
    | true => simp only [if_true, Rep]; exact ⟨_, rfl, RepL.cons hzr (RepL.cons (Rep.val _) RepL.nil)⟩
    | false => exact hzr
  | some p =>
    obtain ⟨j0, v0⟩ := p
    simp only [FindOk, Nat.sub_zero] at hr2
    obtain ⟨_, e0, he0, hk0, rfl⟩ := hr2
    have hsome : ∃ d, f key = some d := by
      cases hf : f key with
      | some d => exact ⟨d, rfl⟩
      | none => exact absurd hk0 (hmr.lacks key hf e0 (List.mem_of_getElem? he0))
    obtain ⟨d, hd⟩ := hsome
    obtain ⟨j, e, h1, h2, h3⟩ := hmr.has key d hd
    have := hmr.once _ _ _ _ he0 h1 (hk0.trans h2.symm)
    subst this
    rw [he0] at h1; simp at h1; subst h1
    refine ⟨_, by simp [Instr.lookup, run_underlying' hd1, hgetm, hck, hr1]; rfl, .inl ⟨d, hd, ?_⟩⟩
    cases ok with
    | true => simp only [if_true, Rep]; exact ⟨_, rfl, RepL.cons h3 (RepL.cons (Rep.val _) RepL.nil)⟩
    | false => exact h3
end
end Go.Sx
