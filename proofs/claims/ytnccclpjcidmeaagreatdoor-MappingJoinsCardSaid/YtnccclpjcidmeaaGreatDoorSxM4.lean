import Derived.Test.YtnccclpjcidmeaaGreatDoorSxM3
namespace Go.Sx
open Go Go.RowKit

/-- What an operation of the head leaves: plain; under a guard; with a guard that is told to hold; not carried out. -/
inductive En where
  | pl (t : Nat) (d : D)
  | gd (t s : Nat) (b : Bool) (d : D)
  | kt (t s : Nat) (b : Bool) (d : D)
  | sk (t s : Nat) (b : Bool) (v : Value)

def En.slot : En → Nat
  | .pl t _ => t
  | .gd t _ _ _ => t
  | .kt t _ _ _ => t
  | .sk t _ _ _ => t

def En.val : En → Option D
  | .pl _ d => some d
  | .gd _ _ _ _ => none
  | .kt _ _ _ d => some d
  | .sk _ _ _ _ => some (.v undef)

def pushT (tm : List (Nat × D)) (e : En) : List (Nat × D) := setT tm e.slot (e.val.getD .junk)

def pushG (gs : Gs) : En → Gs
  | .gd t s b d => (t, s, b, d) :: gs
  | _ => gs

def stT (tm : List (Nat × D)) (es : List En) : List (Nat × D) := es.foldl pushT tm
def stG (gs : Gs) (es : List En) : Gs := es.foldl pushG gs

def QOne (cc : Bool) (Γ : Ctx) (T : TT) (Gl : Nat → Option D) (N : Nat) (all : List Oper) (o : Oper) (tm : List (Nat × D)) (gs : Gs) (ow : List Own) : En → Prop
  | .pl t d => o.dst = some t ∧ t < N ∧ o.guard = none ∧ exQ cc Γ T Gl o.op (fun _ _ => false) True tm gs ow (· = d)
  | .gd t s b d => o.dst = some t ∧ t < N ∧ (∃ j q, o.guard = some (j, b) ∧ all[j]? = some q ∧ q.dst = some s) ∧ t ≠ s ∧ lkG gs s = none ∧ ∃ x, lk tm s = some (.v (.bool x)) ∧ exQ false Γ T Gl o.op (fun s' b' => s' == s && b' == b) (x = b) tm gs ow (· = d)
  | .kt t s b d => o.dst = some t ∧ t < N ∧ (∃ j q, o.guard = some (j, b) ∧ all[j]? = some q ∧ q.dst = some s) ∧ t ≠ s ∧ lk tm s = some (.v (.bool b)) ∧ exQ true Γ T Gl o.op (fun _ _ => false) True tm gs ow (· = d)
  | .sk t s b v => o.dst = some t ∧ t < N ∧ (∃ j q, o.guard = some (j, b) ∧ all[j]? = some q ∧ q.dst = some s) ∧ t ≠ s ∧ lk tm s = some (.v v) ∧ v ≠ .bool b

theorem QOne.dst {cc : Bool} {Γ : Ctx} {T : TT} {Gl : Nat → Option D} {N : Nat} {all : List Oper} {o : Oper} {tm : List (Nat × D)} {gs : Gs} {ow : List Own} {e : En} (h : QOne cc Γ T Gl N all o tm gs ow e) : o.dst = some e.slot := by
  cases e <;> exact h.1
theorem QOne.lt {cc : Bool} {Γ : Ctx} {T : TT} {Gl : Nat → Option D} {N : Nat} {all : List Oper} {o : Oper} {tm : List (Nat × D)} {gs : Gs} {ow : List Own} {e : En} (h : QOne cc Γ T Gl N all o tm gs ow e) : e.slot < N := by
  cases e <;> exact h.2.1

theorem exPre_ents {cc : Bool} {Γ : Ctx} {T : TT} {Gl : Nat → Option D} {N : Nat} {all : List Oper} {ow : List Own} : ∀ (r : List Oper) (p : Nat) {tm : List (Nat × D)} {gs : Gs} {k : List (Nat × D) → Gs → Prop}, exPre cc Γ T Gl N all r p tm gs ow k → p ≤ r.length →
    ∃ es : List En, es.length = p ∧ (∀ (i : Nat) (o : Oper) (e : En), r[i]? = some o → es[i]? = some e → QOne cc Γ T Gl N all o (stT tm (es.take i)) (stG gs (es.take i)) ow e) ∧ k (stT tm es) (stG gs es)
  | _, 0, tm, gs, k, h, _ => by
    simp only [exPre] at h
    exact ⟨[], rfl, fun i o e _ he => by simp at he, h⟩
  | [], p + 1, tm, gs, k, h, hp => by simp at hp
  | ⟨none, op, ty, pos, after, g⟩ :: r, p + 1, tm, gs, k, h, hp => by
    cases g <;> simp [exPre] at h
  | ⟨some t, op, ty, pos, after, none⟩ :: r, p + 1, tm, gs, k, h, hp => by
    simp only [exPre] at h
    split at h <;> try exact h.elim
    rename_i hN
    obtain ⟨d, hd, hk⟩ := exQ_ex h
    obtain ⟨es, h1, h2, h3⟩ := exPre_ents r p hk (by simp at hp; exact hp)
    refine ⟨.pl t d :: es, by simp [h1], fun i o e hi he => ?_, h3⟩
    cases i with
    | zero => simp at hi he; subst hi; subst he; exact ⟨rfl, hN, rfl, hd⟩
    | succ i => simp at hi he; exact h2 i o e hi he
  | ⟨some t, op, ty, pos, after, some (j, b)⟩ :: r, p + 1, tm, gs, k, h, hp => by
    simp only [exPre] at h
    split at h <;> try exact h.elim
    rename_i s op' ty' pos' after' g' hj
    have skip : ∀ (v : Value), v ≠ .bool b → t < N → t ≠ s → lk tm s = some (.v v) → exPre cc Γ T Gl N all r p (setT tm t (.v undef)) gs ow k →
        ∃ es : List En, es.length = p + 1 ∧ (∀ (i : Nat) (o : Oper) (e : En), ((⟨some t, op, ty, pos, after, some (j, b)⟩ : Oper) :: r)[i]? = some o → es[i]? = some e → QOne cc Γ T Gl N all o (stT tm (es.take i)) (stG gs (es.take i)) ow e) ∧ k (stT tm es) (stG gs es) := by
      intro v hv hN hts htm hk
      obtain ⟨es, h1, h2, h3⟩ := exPre_ents r p hk (by simp at hp; exact hp)
      refine ⟨.sk t s b v :: es, by simp [h1], fun i o e hi he => ?_, h3⟩
      cases i with
      | zero => simp at hi he; subst hi; subst he; exact ⟨rfl, hN, ⟨j, _, rfl, hj, rfl⟩, hts, htm, hv⟩
      | succ i => simp at hi he; exact h2 i o e hi he
    split at h <;> try exact h.elim
    · rename_i x hgs htm
      split at h <;> try exact h.elim
      rename_i hN
      split at h <;> try exact h.elim
      rename_i hts
      split at h
      · by_cases hxb : x = b
        · subst hxb
          obtain ⟨d, hd, hk⟩ := exQ_ex (h.1 rfl)
          obtain ⟨es, h1, h2, h3⟩ := exPre_ents r p hk (by simp at hp; exact hp)
          refine ⟨.kt t s x d :: es, by simp [h1], fun i o e hi he => ?_, h3⟩
          cases i with
          | zero => simp at hi he; subst hi; subst he; exact ⟨rfl, hN, ⟨j, _, rfl, hj, rfl⟩, hts, htm, hd⟩
          | succ i => simp at hi he; exact h2 i o e hi he
        · exact skip (.bool x) (fun e => hxb (by simpa using e)) hN hts htm (h.2 (bne_not hxb))
      · obtain ⟨d, hd, hk⟩ := exQ_ex h
        obtain ⟨es, h1, h2, h3⟩ := exPre_ents r p hk (by simp at hp; exact hp)
        refine ⟨.gd t s b d :: es, by simp [h1], fun i o e hi he => ?_, h3⟩
        cases i with
        | zero => simp at hi he; subst hi; subst he; exact ⟨rfl, hN, ⟨j, _, rfl, hj, rfl⟩, hts, hgs, x, htm, hd⟩
        | succ i => simp at hi he; exact h2 i o e hi he
    · rename_i vs hgs htm
      split at h <;> try exact h.elim
      rename_i hN
      split at h <;> try exact h.elim
      rename_i hts
      split at h <;> try exact h.elim
      exact skip (.tuple vs) (by simp) hN hts htm h

theorem snoc_ind {p : List En → Prop} (h0 : p []) (h1 : ∀ l e, p l → p (l ++ [e])) (l : List En) : p l := by
  have : ∀ l : List En, p l.reverse := by
    intro l
    induction l with
    | nil => exact h0
    | cons e l ih => rw [List.reverse_cons]; exact h1 _ _ ih
  have h := this l.reverse
  rwa [List.reverse_reverse] at h

theorem lk_stT {tm : List (Nat × D)} : ∀ (es : List En) (t : Nat) (d : D), lk (stT tm es) t = some d → (∃ (j : Nat) (e : En), es[j]? = some e ∧ e.slot = t ∧ e.val = some d) ∨ d = .junk ∨ (lk tm t = some d ∧ ∀ (j : Nat) (e : En), es[j]? = some e → e.slot ≠ t) := by
  refine fun es => snoc_ind (p := fun es => ∀ (t : Nat) (d : D), lk (stT tm es) t = some d → (∃ (j : Nat) (e : En), es[j]? = some e ∧ e.slot = t ∧ e.val = some d) ∨ d = .junk ∨ (lk tm t = some d ∧ ∀ (j : Nat) (e : En), es[j]? = some e → e.slot ≠ t)) ?_ ?_ es
  · intro t d h; exact .inr (.inr ⟨h, fun j e he => by simp at he⟩)
  · intro es e ih t d h
    simp only [stT, List.foldl_append, List.foldl_cons, List.foldl_nil, pushT, lk_setT] at h
    split at h
    · rename_i hs
      simp only [Option.some.injEq] at h
      cases hv : e.val with
      | none => rw [hv] at h; exact .inr (.inl h.symm)
      | some d' =>
        rw [hv] at h
        simp at h; subst h
        exact .inl ⟨es.length, e, by simp, hs, hv⟩
    · rename_i hs
      rcases ih t d h with ⟨j, e', h1, h2⟩ | h1 | ⟨h1, h2⟩
      · exact .inl ⟨j, e', by rw [List.getElem?_append_left (get_lt h1)]; exact h1, h2⟩
      · exact .inr (.inl h1)
      · refine .inr (.inr ⟨h1, fun j e' he' => ?_⟩)
        rcases getElem?_append_one he' with h3 | ⟨_, rfl⟩
        · exact h2 j e' h3
        · exact hs

theorem lkG_stG : ∀ (es : List En) (t s : Nat) (b : Bool) (d : D), lkG (stG [] es) t = some (s, b, d) → ∃ j : Nat, es[j]? = some (En.gd t s b d) := by
  refine fun es => snoc_ind (p := fun es => ∀ (t s : Nat) (b : Bool) (d : D), lkG (stG [] es) t = some (s, b, d) → ∃ j : Nat, es[j]? = some (En.gd t s b d)) ?_ ?_ es
  · intro t s b d h; simp [stG, lkG] at h
  · intro es e ih t s b d h
    simp only [stG, List.foldl_append, List.foldl_cons, List.foldl_nil] at h
    have old : lkG (es.foldl pushG []) t = some (s, b, d) → ∃ j : Nat, (es ++ [e])[j]? = some (En.gd t s b d) := by
      intro h'
      obtain ⟨j, hj⟩ := ih t s b d h'
      exact ⟨j, by rw [List.getElem?_append_left (get_lt hj)]; exact hj⟩
    cases e with
    | gd t' s' b' d' =>
      simp only [pushG, lkG] at h
      split at h
      · rename_i ht
        simp at h; obtain ⟨rfl, rfl, rfl⟩ := h
        subst ht
        exact ⟨es.length, by simp⟩
      · exact old h
    | _ => exact old h

theorem get_take {α : Type} {l : List α} {i j : Nat} {x : α} (h : (l.take i)[j]? = some x) : j < i ∧ l[j]? = some x := by
  rcases Nat.lt_or_ge j i with hj | hj
  · rw [List.getElem?_take_of_lt hj] at h; exact ⟨hj, h⟩
  · rw [List.getElem?_eq_none (by simp; omega)] at h; simp at h

def EOk (M : Mem) (E : List Value) (a : Act) : En → Prop
  | .gd t s b d => a.tmps.getD s undef = .bool b → Rep M E d (a.tmps.getD t undef)
  | e => Rep M E (e.val.getD .junk) (a.tmps.getD e.slot undef)

theorem EOk.plain {M : Mem} {E : List Value} {a : Act} {e : En} {d : D} (h : EOk M E a e) (hv : e.val = some d) : Rep M E d (a.tmps.getD e.slot undef) := by
  cases e <;> simp [En.val] at hv <;> subst hv <;> exact h

def GoodS (dv : List Deferred) (N B : Nat) (w0 : World) (M0 M : Mem) (E : List Value) (ow : List Own) (tm : List (Nat × D)) (es : List En) (S : Nat → Prop) (a : Act) (w : World) : Prop :=
  ∃ M', M.le M' ∧ WRel B w0 M0 M' E ow w ∧ a.tmps.size = N ∧ a.defers = dv ∧ (∀ t d, lk tm t = some d → (∀ (i : Nat) (e : En), es[i]? = some e → S i → e.slot ≠ t) → Rep M' E d (a.tmps.getD t undef)) ∧ ∀ (i : Nat) (e : En), es[i]? = some e → S i → EOk M' E a e

section
variable {P : Program} {T : TT} {B : Nat} {w0 w w' : World} {M0 M M' : Mem} {E E' : List Value} {ow : List Own} {Γ : Ctx} {Gl : Nat → Option D} {Y : Ys} {cc : Bool} {dv : List Deferred}

theorem EOk.mono {a : Act} {e : En} (h : EOk M E a e) (hM : M.le M') : EOk M' E a e := by
  cases e with
  | gd t s b d => exact fun hb => Rep.mono hM (EnvLe.refl _) _ _ (h hb)
  | pl t d => exact Rep.mono hM (EnvLe.refl _) _ _ (h : Rep M E _ _)
  | kt t s b d => exact Rep.mono hM (EnvLe.refl _) _ _ (h : Rep M E _ _)
  | sk t s b v => exact Rep.mono hM (EnvLe.refl _) _ _ (h : Rep M E _ _)

/-- What an entry has to do with its operation. -/
def QDst (N : Nat) (all : List Oper) (o : Oper) (e : En) : Prop := o.dst = some e.slot ∧ e.slot < N ∧ match e with
  | .gd _ s b _ => ∃ j q, o.guard = some (j, b) ∧ all[j]? = some q ∧ q.dst = some s
  | _ => True
theorem QOne.q {cc : Bool} {Γ : Ctx} {T : TT} {Gl : Nat → Option D} {N : Nat} {all : List Oper} {o : Oper} {tm : List (Nat × D)} {gs : Gs} {ow : List Own} {e : En} (h : QOne cc Γ T Gl N all o tm gs ow e) : QDst N all o e := by
  cases e with
  | gd t s b d => exact ⟨h.1, h.2.1, h.2.2.1⟩
  | pl t d => exact ⟨h.1, h.2.1, trivial⟩
  | kt t s b d => exact ⟨h.1, h.2.1, trivial⟩
  | sk t s b v => exact ⟨h.1, h.2.1, trivial⟩

/-- An operation of the head, whenever its turn comes. -/
theorem draw_step (hΓ : CtxOk P Gl Γ) (hT : TOk P T) {N : Nat} {ops : Array Oper} {p : Nat} {ro : Option Nat} {n : Nat} {Q : Exit → Act → World → Prop} {tm : List (Nat × D)} {es : List En} (hG : GlOk M Gl) (hel : es.length = p)
    (hent : ∀ (i : Nat) (o : Oper), i < p → ops[i]? = some o → ∃ e, es[i]? = some e ∧ QDst N ops.toList o e)
    (hopi : ∀ i, i < p → ∃ o, ops[i]? = some o)
    (hpair : ∀ (i j : Nat) (x y : Oper), i < p → j < p → i ≠ j → ops[i]? = some x → ops[j]? = some y → x.dst ≠ y.dst ∧ (∀ t, y.dst = some t → t ∈ reads ops.toList x → ((masks ops.toList []).getD (max i j) 0).testBit (min i j) = true))
    (hguard : ∀ (i : Nat) (x : Oper) (g : Nat) (b : Bool), i < p → ops[i]? = some x → x.guard = some (g, b) → g < i)
    (listed : Array Bool) (a : Act) (w : World) (i : Nat) (o : Oper) (hsz : listed.size = ops.size) (hcl : Closed ops.toList (LS listed)) (hip : i < p) (ho : ops[i]? = some o) (h0 : ¬ LS listed i) (hd : ∀ d ∈ deps o, LS listed d) (hg : GoodS dv N B w0 M0 M E ow tm es (LS listed) a w)
    {e : En} (he : es[i]? = some e) (hone : QOne cc Γ T Gl N ops.toList o (stT tm (es.take i)) (stG [] (es.take i)) ow e) :
    wpOpIn (FW ro) n P ops Q i (GoodS dv N B w0 M0 M E ow tm es (LS (listed.setIfInBounds i true))) a w := by
  obtain ⟨M', hle, hW', hN, hdef, hinit, hents⟩ := hg
  have hdst := hone.dst
  -- what the operation looks at is as it is told
  have hlook : ∀ t, t ∈ reads ops.toList o → (∀ (j : Nat) (e' : En), j < i → es[j]? = some e' → e'.slot = t → LS listed j) ∧ ((∀ (j : Nat) (e' : En), j < i → es[j]? = some e' → e'.slot ≠ t) → ∀ (j : Nat) (e' : En), es[j]? = some e' → LS listed j → e'.slot ≠ t) := by
    intro t ht
    refine ⟨fun j e' hj he' hst => ?_, fun hno j e' he' hS hst => ?_⟩
    · have hjp : j < p := by omega
      obtain ⟨oj, hoj⟩ := hopi j hjp
      obtain ⟨ej, hej, hqj⟩ := hent j oj hjp hoj
      rw [he'] at hej; simp at hej; subst hej
      have hm := (hpair i j o oj hip hjp (by omega) ho hoj).2 t (by rw [hqj.1, hst]) ht
      rw [show max i j = i by omega, show min i j = j by omega] at hm
      exact masks_before hcl (by simpa using ho) hm hd
    · have hjp : j < p := by have := get_lt he'; omega
      have hji : j ≠ i := fun e => by subst e; exact h0 hS
      rcases Nat.lt_or_ge j i with hlt | hge
      · exact hno j e' hlt he' hst
      · obtain ⟨oj, hoj⟩ := hopi j hjp
        obtain ⟨ej, hej, hqj⟩ := hent j oj hjp hoj
        rw [he'] at hej; simp at hej; subst hej
        have hm := (hpair i j o oj hip hjp (fun e => hji e.symm) ho hoj).2 t (by rw [hqj.1, hst]) ht
        rw [show max i j = j by omega, show min i j = i by omega] at hm
        exact h0 (masks_before hcl (by simpa using hoj) hm (hcl j oj (by simpa using hoj) hS))
  have hlk : ∀ t d, t ∈ reads ops.toList o → lk (stT tm (es.take i)) t = some d → Rep M' E d (a.tmps.getD t undef) := by
    intro t d ht hl
    rcases lk_stT _ _ _ hl with ⟨j, e', hj, hst, hv⟩ | rfl | ⟨h1, h2⟩
    · obtain ⟨hji, hj'⟩ := get_take hj
      have := (hents j _ hj' ((hlook t ht).1 j _ hji hj' hst)).plain hv
      rw [hst] at this; exact this
    · simp [Rep]
    · refine hinit t d h1 ((hlook t ht).2 fun j e' hji he' => h2 j e' ?_)
      rw [List.getElem?_take_of_lt hji]; exact he'
  have hopsR : ∀ x ∈ o.op.operands.toList, ∀ ok' d', (∀ s b, ok' s b = true → a.tmps.getD s undef = .bool b) → opnd Gl ok' (stT tm (es.take i)) (stG [] (es.take i)) x = some d' → Rep M' E d' (a.eval x) := by
    intro x hx ok' d' hokk hxd
    cases x with
    | tmp t =>
      have ht : t ∈ reads ops.toList o := by
        simp only [reads, List.mem_append]
        exact .inl (by simp only [tmpsOf, List.mem_filterMap]; exact ⟨_, hx, rfl⟩)
      simp only [opnd] at hxd
      split at hxd
      · rename_i s b d'' hs
        split at hxd <;> try (simp at hxd; done)
        rename_i hk
        simp at hxd; subst hxd
        obtain ⟨j, hj⟩ := lkG_stG _ _ _ _ _ hs
        obtain ⟨hji, hj'⟩ := get_take hj
        exact hents j _ hj' ((hlook t ht).1 j _ hji hj' rfl) (hokk _ _ hk)
      · exact hlk t _ ht hxd
    | const v => simp only [opnd] at hxd; simp at hxd; subst hxd; exact Rep.val _
    | global g => simp only [opnd] at hxd; exact Rep.mono (Mem.le_refl _) (EnvLe.nil _) _ _ ((hG.mono hle) _ _ hxd)
    | func f =>
      simp only [opnd] at hxd; simp at hxd; subst hxd
      simp only [Rep]
      exact ⟨#[], rfl, RepL.nil⟩
  have hiS : i < listed.size := by rw [hsz]; exact (Array.getElem?_eq_some_iff.1 ho).1
  -- behind the operation
  have behind : ∀ (u : Value) (w2 : World) (M2 : Mem), M'.le M2 → WRel B w0 M0 M2 E ow w2 → EOk M2 E (a.put o.dst u) e → GoodS dv N B w0 M0 M E ow tm es (LS (listed.setIfInBounds i true)) (a.put o.dst u) w2 := by
    intro u w2 M2 hle2 hW2 hE2
    rw [hdst] at hE2 ⊢
    have htN : e.slot < N := hone.lt
    refine ⟨M2, Mem.le_trans hle hle2, hW2, by simp [Act.put, hN], by simp [Act.put, hdef], fun t d ht hno => ?_, fun j e' he' hS => ?_⟩
    · have hne : t ≠ e.slot := fun hh => hno i e he ((LS_set hiS i).2 (.inl rfl)) hh.symm
      rw [getD_put hN htN, if_neg hne]
      exact Rep.mono hle2 (EnvLe.refl _) _ _ (hinit t d ht fun j e' he' hS => hno j e' he' ((LS_set hiS j).2 (.inr hS)))
    · rw [LS_set hiS] at hS
      rcases hS with rfl | hS
      · rw [he] at he'; simp at he'; subst he'; exact hE2
      · have hji : j ≠ i := fun hh => by subst hh; exact h0 hS
        have hjp : j < p := by have := get_lt he'; omega
        obtain ⟨oj, hoj⟩ := hopi j hjp
        obtain ⟨ej, hej, hqj⟩ := hent j oj hjp hoj
        rw [he'] at hej; simp at hej; subst hej
        have hsl : e'.slot ≠ e.slot := by
          have := (hpair j i oj o hjp hip hji hoj ho).1
          rw [hqj.1, hdst] at this
          intro hh; exact this (by rw [hh])
        have hold := (hents j e' he' hS).mono hle2
        cases e' with
        | pl t d =>
          have hsl' : t ≠ e.slot := hsl
          have hold' : Rep M2 E ((En.pl t d).val.getD .junk) (a.tmps.getD t undef) := hold
          show Rep M2 E ((En.pl t d).val.getD .junk) ((a.put (some e.slot) u).tmps.getD t undef)
          rw [getD_put hN htN, if_neg hsl']; exact hold'
        | kt t s b d =>
          have hsl' : t ≠ e.slot := hsl
          have hold' : Rep M2 E ((En.kt t s b d).val.getD .junk) (a.tmps.getD t undef) := hold
          show Rep M2 E ((En.kt t s b d).val.getD .junk) ((a.put (some e.slot) u).tmps.getD t undef)
          rw [getD_put hN htN, if_neg hsl']; exact hold'
        | sk t s b v =>
          have hsl' : t ≠ e.slot := hsl
          have hold' : Rep M2 E ((En.sk t s b v).val.getD .junk) (a.tmps.getD t undef) := hold
          show Rep M2 E ((En.sk t s b v).val.getD .junk) ((a.put (some e.slot) u).tmps.getD t undef)
          rw [getD_put hN htN, if_neg hsl']; exact hold'
        | gd t s b d =>
          have hsl' : t ≠ e.slot := hsl
          simp only [EOk] at hold ⊢
          have hs : s ≠ e.slot := by
            intro hh
            obtain ⟨_, _, gj, gq, hgd, hgq, hgs⟩ := hqj
            have hgj := hguard j oj _ _ hjp hoj hgd
            have hgq' : ops[gj]? = some gq := by simpa using hgq
            have hgi : gj = i := by
              by_cases hq : gj = i
              · exact hq
              · have := (hpair gj i gq o (by omega) hip hq hgq' ho).1
                rw [hgs, hdst, hh] at this
                exact absurd rfl this
            subst hgi
            have hrd : e.slot ∈ reads ops.toList oj := by
              simp only [reads, List.mem_append]
              right
              rw [hgd]
              simp only [hgq, hgs]
              simp [hh]
            have hm := (hpair j gj oj o hjp hip hji hoj ho).2 _ hdst hrd
            rw [show max j gj = j by omega, show min j gj = gj by omega] at hm
            exact h0 (masks_before hcl (by simpa using hoj) hm (hcl j oj (by simpa using hoj) hS))
          rw [getD_put hN htN, if_neg hs, getD_put hN htN, if_neg hsl']; exact hold
  unfold wpOpIn
  simp only [ho]
  obtain ⟨dst, op, ty, pos, after, guard⟩ := o
  cases e with
  | pl t d =>
    obtain ⟨_, htN, hgd, hq⟩ := hone
    simp only at hgd hq hopsR
    subst hgd
    have hw : Region.wanted ⟨dst, op, ty, pos, after, none⟩ (yielded ops a.tmps) = true := rfl
    simp only [hw, if_true]
    refine Oper.wpIn_mono ?_ (exQ_sound hΓ hT hq trivial hW' (hG.mono hle) (fun s b hb => by simp at hb) hopsR dst ty pos after none Q)
    rintro a' w2 ⟨M2, u, rfl, hle2, hW2, hrep⟩
    refine behind u w2 M2 hle2 hW2 ?_
    simp only [EOk, En.slot, En.val, Option.getD_some]
    have hd' : dst = some t := hdst
    rw [hd', getD_put hN htN, if_pos rfl]
    exact hrep
  | kt t s b d =>
    obtain ⟨_, htN, ⟨j, q, hgd, hjq, hqs⟩, hts, htm, hq⟩ := hone
    simp only at hgd hq hopsR
    subst hgd
    have hd' : dst = some t := hdst
    have hrs : s ∈ reads ops.toList ⟨dst, op, ty, pos, after, some (j, b)⟩ := by
      simp only [reads, List.mem_append]
      right
      simp only [hjq, hqs]
      simp
    have hsv : a.tmps.getD s undef = .bool b := by simpa only [Rep] using hlk s _ hrs htm
    have hsome : a.tmps[s]? = some (.bool b) := by
      rw [Array.getD_eq_getD_getElem?] at hsv
      cases hs : a.tmps[s]? with
      | none => rw [hs] at hsv; simp [undef] at hsv
      | some y => rw [hs] at hsv; simp at hsv; rw [hsv]
    have hw : Region.wanted ⟨dst, op, ty, pos, after, some (j, b)⟩ (yielded ops a.tmps) = true := by
      have : ops[j]? = some q := by simpa using hjq
      simp [Region.wanted, yielded, this, hqs, hsome]
    rw [hw]
    simp only [if_true]
    refine Oper.wpIn_mono ?_ (exQ_sound hΓ hT hq trivial hW' (hG.mono hle) (fun s b hb => by simp at hb) hopsR dst ty pos after (some (j, b)) Q)
    rintro a' w2 ⟨M2, u, rfl, hle2, hW2, hrep⟩
    refine behind u w2 M2 hle2 hW2 ?_
    simp only [EOk, En.slot, En.val, Option.getD_some]
    rw [hd', getD_put hN htN, if_pos rfl]
    exact hrep
  | sk t s b v =>
    obtain ⟨_, htN, ⟨j, q, hgd, hjq, hqs⟩, hts, htm, hv⟩ := hone
    simp only at hgd hopsR
    subst hgd
    have hd' : dst = some t := hdst
    have hrs : s ∈ reads ops.toList ⟨dst, op, ty, pos, after, some (j, b)⟩ := by
      simp only [reads, List.mem_append]
      right
      simp only [hjq, hqs]
      simp
    have hsv : a.tmps.getD s undef = v := by simpa only [Rep] using hlk s _ hrs htm
    have hw : Region.wanted ⟨dst, op, ty, pos, after, some (j, b)⟩ (yielded ops a.tmps) = false := by
      have hj' : ops[j]? = some q := by simpa using hjq
      have hy : yielded ops a.tmps j ≠ some b := by
        intro hy
        simp only [yielded, hj', Option.bind_some, hqs] at hy
        cases hs : a.tmps[s]? with
        | none => simp [hs] at hy
        | some x =>
          rw [Array.getD_eq_getD_getElem?, hs] at hsv
          simp at hsv; subst hsv
          simp only [hs] at hy
          cases x <;> simp at hy
          subst hy; exact hv rfl
      simpa [Region.wanted] using hy
    rw [hw]
    simp only [Bool.false_eq_true, if_false]
    refine ⟨fun _ _ => trivial, behind undef w M' (Mem.le_refl _) hW' ?_⟩
    simp only [EOk, En.slot, En.val, Option.getD_some]
    rw [hd', getD_put hN htN, if_pos rfl]
    exact Rep.val _
  | gd t s b d =>
    obtain ⟨_, htN, ⟨j, q, hgd, hjq, hqs⟩, hts, hgs, x, htm, hq⟩ := hone
    simp only at hgd hq hopsR
    subst hgd
    have hd' : dst = some t := hdst
    have hrs : s ∈ reads ops.toList ⟨dst, op, ty, pos, after, some (j, b)⟩ := by
      simp only [reads, List.mem_append]
      right
      simp only [hjq, hqs]
      simp
    have hsv : a.tmps.getD s undef = .bool x := by simpa only [Rep] using hlk s _ hrs htm
    have hsome : a.tmps[s]? = some (.bool x) := by
      rw [Array.getD_eq_getD_getElem?] at hsv
      cases hs : a.tmps[s]? with
      | none => rw [hs] at hsv; simp [undef] at hsv
      | some y => rw [hs] at hsv; simp at hsv; rw [hsv]
    have hy : yielded ops a.tmps j = some x := by
      have : ops[j]? = some q := by simpa using hjq
      simp [yielded, this, hqs, hsome]
    have hw : Region.wanted ⟨dst, op, ty, pos, after, some (j, b)⟩ (yielded ops a.tmps) = (x == b) := by simp [Region.wanted, hy]
    rw [hw]
    have hokk : x = b → ∀ s' b', (s' == s && b' == b) = true → a.tmps.getD s' undef = .bool b' := by
      rintro rfl s' b' hb; simp at hb; obtain ⟨rfl, rfl⟩ := hb; exact hsv
    by_cases hxb : x = b
    · simp only [hxb, beq_self_eq_true, if_true]
      refine Oper.wpIn_mono ?_ (exQ_sound hΓ hT hq hxb hW' (hG.mono hle) (hokk hxb) hopsR dst ty pos after (some (j, b)) Q)
      rintro a' w2 ⟨M2, u, rfl, hle2, hW2, hrep⟩
      refine behind u w2 M2 hle2 hW2 ?_
      simp only [EOk]
      intro _
      rw [hd', getD_put hN htN, if_pos rfl]
      exact hrep
    · have hf : (x == b) = false := by simpa using hxb
      simp only [hf, Bool.false_eq_true, if_false]
      refine ⟨fun _ _ => trivial, behind undef w M' (Mem.le_refl _) hW' ?_⟩
      simp only [EOk]
      intro hb
      rw [hd', getD_put hN htN, if_neg (fun e => hts e.symm), hsv] at hb
      simp at hb; exact absurd hb hxb

/-- A region that draws its order. -/
theorem exDraw_sound (hΓ : CtxOk P Gl Γ) (hT : TOk P T) (hmix : P.follows .mixedOrders = true) {N : Nat} {ops : Array Oper} {p : Nat} (hpl : p ≤ ops.size) (hok : okDraw ops.toList p = true) {ro : Option Nat} {n : Nat} {Q : Exit → Act → World → Prop}
    {tm : List (Nat × D)} {k : List (Nat × D) → List Own → Prop} {a : Act} {id : Nat}
    (h : exPre cc Γ T Gl N ops.toList ops.toList p tm [] ow fun tm' gs' => exOps cc Γ Y T Gl N ops.toList (ops.toList.drop p) tm' gs' ow k) (hW : WRel B w0 M0 M E ow w) (hR : TRel dv N M E tm [] a) (hG : GlOk M Gl) (hY : YOk P Gl B w0 M E Y)
    (hQ : ∀ a' w', Next dv N B w0 M0 M E [] k a' w' → Q .normal a' w') : (Code.region id ops true).wpIn (FW ro) n P Q a w := by
  simp only [okDraw, Bool.and_eq_true, List.all_eq_true, List.mem_range] at hok
  obtain ⟨⟨⟨hk1, hk2⟩, hk4⟩, hk3⟩ := hok
  have hback : ∀ (i : Nat) (o : Oper), ops[i]? = some o → ∀ d ∈ deps o, d < i := by
    intro i o ho d hd
    have hi := (Array.getElem?_eq_some_iff.1 ho).1
    have := hk1 i (by simpa using hi)
    have ho' : ops.toList[i]? = some o := by simpa using ho
    rw [ho'] at this
    simp only [List.all_eq_true, decide_eq_true_eq] at this
    exact this d hd
  have htail : ∀ q, p ≤ q → q < ops.size → ∀ i, i < q → ((masks ops.toList []).getD q 0).testBit i = true := by
    intro q hq1 hq2 i hi
    have := hk2 q (by simpa using hq2)
    simp only [Bool.or_eq_true, decide_eq_true_eq, List.all_eq_true, List.mem_range] at this
    rcases this with h1 | h1
    · omega
    · exact h1 i hi
  obtain ⟨es, hel, hq1, hkk⟩ := exPre_ents ops.toList p h (by simpa using hpl)
  have hent : ∀ (i : Nat) (o : Oper), i < p → ops[i]? = some o → ∃ e, es[i]? = some e ∧ QOne cc Γ T Gl N ops.toList o (stT tm (es.take i)) (stG [] (es.take i)) ow e := by
    intro i o hi ho
    have he : es[i]? = some (es[i]'(by omega)) := List.getElem?_eq_getElem _
    exact ⟨_, he, hq1 i o _ (by simpa using ho) he⟩
  have hopi : ∀ i, i < p → ∃ o, ops[i]? = some o := fun i hi => ⟨ops[i]'(by omega), by simp [show i < ops.size by omega]⟩
  -- two operations of the head
  have hpair : ∀ (i j : Nat) (x y : Oper), i < p → j < p → i ≠ j → ops[i]? = some x → ops[j]? = some y → x.dst ≠ y.dst ∧ (∀ t, y.dst = some t → t ∈ reads ops.toList x → ((masks ops.toList []).getD (max i j) 0).testBit (min i j) = true) := by
    intro i j x y hi hj hij hx hy
    have := hk3 i hi j hj
    have hx' : ops.toList[i]? = some x := by simpa using hx
    have hy' : ops.toList[j]? = some y := by simpa using hy
    rw [hx', hy'] at this
    simp only [Bool.or_eq_true, beq_iff_eq, hij, false_or, Bool.and_eq_true, bne_iff_ne, ne_eq] at this
    obtain ⟨h1, h2⟩ := this
    refine ⟨h1, fun t ht hm => ?_⟩
    · rw [ht] at h2
      simp only [Bool.or_eq_true, Bool.not_eq_true', List.contains_eq_mem, decide_eq_false_iff_not] at h2
      rcases h2 with h2 | h2
      · exact absurd hm h2
      · exact h2
  have hguard : ∀ (i : Nat) (x : Oper) (g : Nat) (b : Bool), i < p → ops[i]? = some x → x.guard = some (g, b) → g < i := by
    intro i x g b hi hx hg
    have := hk4 i hi
    have hx' : ops.toList[i]? = some x := by simpa using hx
    rw [hx'] at this
    simp only [hg] at this
    simpa using this
  refine wpIn_region_any hmix ?_
  refine any_order hback hpl htail (Good := GoodS dv N B w0 M0 M E ow tm es) ?_ ?_ ops.size _ a _ (by simp) ?_ ?_ ?_ ?_
  · -- a step
    intro listed a w i o hsz hcl hip ho h0 hd _ hg
    obtain ⟨e, he, hone⟩ := hent i o hip ho
    exact draw_step hΓ hT hG hel (fun i o hi ho => let ⟨e, h1, h2⟩ := hent i o hi ho; ⟨e, h1, h2.q⟩) hopi hpair hguard listed a w i o hsz hcl hip ho h0 hd hg he hone
  · -- the head is done
    intro listed a w hl ⟨M', hle, hW', hN, hdef, hinit, hents⟩
    have hall : ∀ (i : Nat) (e : En), es[i]? = some e → LS listed i := fun i e he => (hl i).2 (by have := get_lt he; omega)
    have huniq : ∀ (i j : Nat) (e e' : En), es[i]? = some e → es[j]? = some e' → e.slot = e'.slot → i = j := by
      intro i j e e' he he' hs
      by_cases hij : i = j
      · exact hij
      · have hi : i < p := by have := get_lt he; omega
        have hj : j < p := by have := get_lt he'; omega
        obtain ⟨oi, hoi⟩ := hopi i hi
        obtain ⟨oj, hoj⟩ := hopi j hj
        obtain ⟨ei, hei, hqi⟩ := hent i oi hi hoi
        obtain ⟨ej, hej, hqj⟩ := hent j oj hj hoj
        rw [he] at hei; simp at hei; subst hei
        rw [he'] at hej; simp at hej; subst hej
        have := (hpair i j oi oj hi hj hij hoi hoj).1
        rw [hqi.dst, hqj.dst, hs] at this
        exact absurd rfl this
    have hR' : TRel dv N M' E (stT tm es) (stG [] es) a := by
      refine ⟨hN, hdef, fun t d hd => ?_, fun t s b d hs hb => ?_⟩
      · rcases lk_stT _ _ _ hd with ⟨j, e', hj, hst, hv⟩ | rfl | ⟨h1, h2⟩
        · have := (hents j _ hj (hall j _ hj)).plain hv
          rw [hst] at this; exact this
        · simp [Rep]
        · exact hinit t d h1 fun j e he _ => h2 j e he
      · obtain ⟨j, hj⟩ := lkG_stG _ _ _ _ _ hs
        exact hents j _ hj (hall j _ hj) hb
    have := exOps_sound hΓ hT (ops.toList.drop p) p (ops := ops) (ro := ro) (n := n) (Q := Q) rfl hkk hW' hR' (hG.mono hle) (hY.mono hle (EnvLe.refl _)) (fun a' w' ⟨M2, E2, t2, o2, q1, q2, q3, q4, q5⟩ => hQ _ _ ⟨M2, E2, t2, o2, Mem.le_trans hle q1, q2, q3, q4, q5⟩)
    simpa using this
  · intro j o hj hS
    simp [LS, Array.getD_eq_getD_getElem?, Array.getElem?_replicate] at hS
    split at hS <;> simp at hS
  · intro q hS
    simp [LS, Array.getD_eq_getD_getElem?, Array.getElem?_replicate] at hS
    split at hS <;> simp at hS
  · have : ∀ m f, unl m f ≤ m := by
      intro m f
      induction m with
      | zero => simp [unl]
      | succ m ih => simp only [unl]; split <;> omega
    exact this _ _
  · have hW2 : WRel B w0 M0 M E ow { w with drawn := w.drawn + 1 } := ⟨hW.fits, hW.base, hW.below.trans ⟨rfl, rfl, rfl, Nat.le_refl _, fun _ _ => rfl⟩, hW.len, fun i o v ho hv => (hW.holds i o v ho hv).frame (fun _ _ _ => rfl) (Mem.le_refl _) (EnvLe.refl _) (fun b hf hb => ((hW.holds i o v ho hv).lt (Own.free_live hf) hb).2.2 hf), hW.inj, hW.mle, hW.new⟩
    refine ⟨M, Mem.le_refl _, hW2, hR.size, hR.defers, fun t d ht _ => hR.tmps _ _ ht, fun i e he hS => ?_⟩
    simp [LS, Array.getD_eq_getD_getElem?, Array.getElem?_replicate] at hS
    split at hS <;> simp at hS
end
end Go.Sx
