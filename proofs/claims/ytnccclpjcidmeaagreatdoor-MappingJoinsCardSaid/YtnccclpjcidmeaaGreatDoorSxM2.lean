import Derived.Test.YtnccclpjcidmeaaGreatDoorSxM
namespace Go.Sx
open Go Go.RowKit

theorem gets_congr {g g' : Gets} : ∀ {l : List Operand}, (∀ x ∈ l, g x = g' x) → gets g l = gets g' l
  | [], _ => rfl
  | x :: l, h => by simp only [gets, h x (by simp), gets_congr (l := l) (fun y hy => h y (by simp [hy]))]

theorem getParts_congr {g g' : Gets} : ∀ {l : List (Nat × Operand)}, (∀ p ∈ l, g p.2 = g' p.2) → getParts g l = getParts g' l
  | [], _ => rfl
  | (i, x) :: l, h => by simp only [getParts, h (i, x) (by simp), getParts_congr (l := l) (fun y hy => h y (by simp [hy]))]

theorem getO_congr {g g' : Gets} : ∀ {o : Option Operand}, (∀ x ∈ o.toList, g x = g' x) → getO g o = getO g' o
  | none, _ => rfl
  | some x, h => by simp only [getO, h x (by simp)]

theorem evPure_congr {T : TT} {op : Op} {g g' : Gets} {ow : List Own} (h : ∀ x ∈ op.operands.toList, g x = g' x) : evPure T op g ow = evPure T op g' ow := by
  cases op with
  | move x => simp only [evPure, h x (by simp [Op.operands])]
  | assign x => simp only [evPure, h x (by simp [Op.operands])]
  | build t ps =>
    have : getParts g ps.toList = getParts g' ps.toList := getParts_congr fun p hp => h p.2 (by
      simp only [Op.operands, List.toList_toArray, List.mem_map]; exact ⟨p, hp, rfl⟩)
    simp only [evPure, this]
  | load t a => simp only [evPure, h a (by simp [Op.operands])]
  | nilCheck x => simp only [evPure, h x (by simp [Op.operands])]
  | binOp b t x y t2 => simp only [evPure, h x (by simp [Op.operands]), h y (by simp [Op.operands])]
  | unOp u t x => simp only [evPure, h x (by simp [Op.operands])]
  | fieldAddr t x k => simp only [evPure, h x (by simp [Op.operands])]
  | field t x k => simp only [evPure, h x (by simp [Op.operands])]
  | indexAddr t x i => simp only [evPure, h x (by simp [Op.operands]), h i (by simp [Op.operands])]
  | index t x i => simp only [evPure, h x (by simp [Op.operands]), h i (by simp [Op.operands])]
  | extract x i => simp only [evPure, h x (by simp [Op.operands])]
  | convert a b x => simp only [evPure, h x (by simp [Op.operands])]
  | slice t x lo hi mx =>
    have h1 : getO g lo = getO g' lo := getO_congr fun y hy => h y (by simp [Op.operands] at hy ⊢; simp [hy])
    have h2 : getO g hi = getO g' hi := getO_congr fun y hy => h y (by simp [Op.operands] at hy ⊢; simp [hy])
    cases mx <;> simp only [evPure, h x (by simp [Op.operands]), h1, h2]
  | makeInterface t x => simp only [evPure, h x (by simp [Op.operands])]
  | makeFunc fn first caps =>
    have h1 : gets g caps.toList = gets g' caps.toList := gets_congr fun y hy => h y (by simp [Op.operands] at hy ⊢; simp [hy])
    unfold evPure
    split <;> simp_all
  | call c =>
    obtain ⟨callee, args, ats⟩ := c
    unfold evPure
    split <;> try (first | rfl | contradiction)
    all_goals (rename_i heq; simp only [Op.call.injEq, Call.mk.injEq] at heq; obtain ⟨rfl, rfl, _⟩ := heq; simp_all [Op.operands, Call.operands])
  | _ => rfl

theorem evNewD_congr {T : TT} {op : Op} {g g' : Gets} {ow : List Own} (h : ∀ x ∈ op.operands.toList, g x = g' x) : evNewD T op g ow = evNewD T op g' ow := by
  cases op with
  | call c =>
    obtain ⟨callee, args, ats⟩ := c
    unfold evNewD
    split <;> try (first | rfl | contradiction)
    all_goals (rename_i heq; simp only [Op.call.injEq, Call.mk.injEq] at heq; obtain ⟨rfl, rfl, _⟩ := heq; simp_all [Op.operands, Call.operands])
  | buildSlice t n ps =>
    have : getParts g ps.toList = getParts g' ps.toList := getParts_congr fun p hp => h p.2 (by
      simp only [Op.operands, List.toList_toArray, List.mem_map]; exact ⟨p, hp, rfl⟩)
    simp only [evNewD, this]
  | _ => rfl


section
variable {P : Program} {T : TT} {B : Nat} {w0 w w' : World} {M0 M M' : Mem} {E E' : List Value} {ow : List Own} {Γ : Ctx} {Gl : Nat → Option D} {cc : Bool}

theorem exQ_ex {op : Op} {ok : Nat → Bool → Bool} {c : Prop} {tm : List (Nat × D)} {gs : Gs} {k : D → Prop} (h : exQ cc Γ T Gl op ok c tm gs ow k) : ∃ d, exQ cc Γ T Gl op ok c tm gs ow (· = d) ∧ k d := by
  unfold exQ at h ⊢
  split at h
  · split at h
    · split at h <;> try exact h.elim
      rename_i x hx
      cases x with
      | true =>
        have h1 := h.1 rfl
        split at h1 <;> try exact h1.elim
        rename_i d hd
        exact ⟨d, ⟨fun _ => rfl, fun e => by simp at e⟩, h1⟩
      | false =>
        have h1 := h.2 rfl
        split at h1 <;> try exact h1.elim
        rename_i d hd
        exact ⟨d, ⟨fun e => by simp at e, fun _ => rfl⟩, h1⟩
    · split at h
      · split at h
        · rename_i d hd
          exact ⟨d, by simp, h⟩
        · exact h.elim
      · exact h.elim
  · split at h
    · rename_i ct ds hf hds
      obtain ⟨x, h1, h2, h3⟩ := h
      exact ⟨_, ⟨x, h1, h2, rfl⟩, h3⟩
    · exact h.elim
  · split at h
    · rename_i vs d hev
      rw [needIf_iff] at h
      exact ⟨d, by rw [needIf_iff]; exact ⟨h.1, rfl⟩, h.2⟩
    · split at h
      · rename_i d hev
        exact ⟨d, rfl, h⟩
      · exact h.elim

/-- One quiet operation, wherever its operands are as they are told. -/
theorem exQ_sound (hΓ : CtxOk P Gl Γ) (hT : TOk P T) {op : Op} {ok : Nat → Bool → Bool} {c : Prop} {tm : List (Nat × D)} {gs : Gs} {d : D} (h : exQ cc Γ T Gl op ok c tm gs ow (· = d)) (hc : c)
    {a : Act} (hW : WRel B w0 M0 M E ow w) (hG : GlOk M Gl) (hok : ∀ s b, ok s b = true → a.tmps.getD s undef = .bool b)
    (hops : ∀ x ∈ op.operands.toList, ∀ ok' d', (∀ s b, ok' s b = true → a.tmps.getD s undef = .bool b) → opnd Gl ok' tm gs x = some d' → Rep M E d' (a.eval x))
    {ro : Option Nat} {n : Nat} (dst : Option Tmp) (ty : TypeId) (pos : String) (after : Array Edge) (guard : Option (Nat × Bool)) (Q : Exit → Act → World → Prop) :
    (⟨dst, op, ty, pos, after, guard⟩ : Oper).wpIn (FW ro) n P a w (fun a' w' => ∃ M' u, a' = a.put dst u ∧ M.le M' ∧ WRel B w0 M0 M' E ow w' ∧ Rep M' E d u) Q := by
  have hnd : ∀ c, op ≠ .defer c := by rintro c rfl; simp [exQ, evPure, evNewD] at h
  refine wpIn_of hnd ?_
  have hres : ∀ x ∈ op.operands.toList, ∀ d', opndR Gl ok tm gs ow x = some d' → Rep M E d' (a.eval x) := by
    intro x hx d' hd'
    rw [opndR_eq, Option.map_eq_some_iff] at hd'
    obtain ⟨d0, h1, rfl⟩ := hd'
    exact res_sound hW (hops x hx ok d0 hok h1)
  unfold exQ at h
  split at h
  · rename_i s x y
    split at h
    · split at h <;> try exact h.elim
      rename_i t hcx
      have h1 := hops (.tmp s) (by simp [Op.operands]) ok _ hok hcx
      simp only [Rep] at h1
      have hrun : (execOp a.eval ⟨dst, .pick (.tmp s) x y, ty, pos, after, guard⟩).run P w = .ok (.value (if t then a.eval x else a.eval y)) w := by
        simp only [execOp, h1]; simp [asBool]
      rw [hrun]
      cases t with
      | true =>
        have h2 := h.1 rfl
        split at h2 <;> try exact h2.elim
        rename_i d' hd
        subst h2
        exact ⟨M, _, rfl, Mem.le_refl _, hW, hops x (by simp [Op.operands]) ok _ hok hd⟩
      | false =>
        have h2 := h.2 rfl
        split at h2 <;> try exact h2.elim
        rename_i d' hd
        subst h2
        exact ⟨M, _, rfl, Mem.le_refl _, hW, hops y (by simp [Op.operands]) ok _ hok hd⟩
    split at h
    · rename_i cx xa yb hcx hx hy
      split at h
      · rename_i d' hd
        subst h
        unfold pickD at hd
        split at hd
        · rename_i t px py
          simp at hd; subst hd
          have h1 := hops (.tmp s) (by simp [Op.operands]) ok _ hok hcx
          simp only [Rep] at h1
          have hts : a.tmps.getD s undef = .bool t := h1
          have hrun : ∃ u, (execOp a.eval ⟨dst, .pick (.tmp s) x y, ty, pos, after, guard⟩).run P w = .ok (.value u) w ∧ u = .bool (cond t px py) := by
            refine ⟨_, by simp only [execOp, h1]; simp [asBool]; rfl, ?_⟩
            cases t with
            | true =>
              have hx' := hops x (by simp [Op.operands]) _ _ (fun s' b' hb => by
                simp at hb
                rcases hb with hb | ⟨rfl, rfl⟩
                · exact hok _ _ hb
                · exact hts) hx
              simp only [Rep] at hx'
              simp [hx']
            | false =>
              have hy' := hops y (by simp [Op.operands]) _ _ (fun s' b' hb => by
                simp at hb
                rcases hb with hb | ⟨rfl, rfl⟩
                · exact hok _ _ hb
                · exact hts) hy
              simp only [Rep] at hy'
              simp [hy']
          obtain ⟨u, hr, rfl⟩ := hrun
          rw [hr]
          exact ⟨M, _, rfl, Mem.le_refl _, hW, Rep.val _⟩
        · simp at hd
      · exact h.elim
    · exact h.elim
  · rename_i f args ats
    split at h
    · rename_i ct ds hf hds
      have hS : Sound P Gl f ct := hΓ _ _ hf
      obtain ⟨x, hent, hpre, rfl⟩ := h
      have hcall : (execOp a.eval ⟨dst, .call ⟨.value (.func f), args, ats⟩, ty, pos, after, guard⟩).run P w = .ok (.enter f (args.map a.eval)) w := by
        have := run_callFunc (w := w) (args := #[] ++ args.map a.eval ++ #[]) hS.1
        show (callFunc f (#[] ++ args.map a.eval ++ #[])).run P w = _
        rw [this]; simp
      rw [hcall]
      have hds' : RepL M E ds (args.toList.map a.eval) := by
        have hall : ∀ (l : List Operand) (ds : List D), (∀ x ∈ l, x ∈ args.toList) → gets (fun x => opnd Gl ok tm gs x) l = some ds → RepL M E ds (l.map a.eval) := by
          intro l
          induction l with
          | nil => intro ds _ hh; simp [gets] at hh; subst hh; exact RepL.nil
          | cons y l ih =>
            intro ds hmem hh
            simp only [gets] at hh
            split at hh
            · rename_i d1 ds1 h1 h2
              simp at hh; subst hh
              refine RepL.cons (hops y ?_ ok d1 hok h1) (ih _ (fun z hz => hmem z (by simp [hz])) h2)
              have := hmem y (by simp)
              simp only [Op.operands, Call.operands]
              simp at this ⊢
              exact .inr this
            · simp at hh
        exact hall _ _ (fun _ hx => hx) hds
      have hin := RepL.pd _ _ (hS.2.1 x) (hent _ _ _ (resL_sound hW _ _ hds')) (E' := [])
      refine ⟨fun hh => by simp [FW, Fence.wide] at hh, ?_⟩
      refine CallsIn.mono (F := FW ro) (hS.2.2 x (hpre hc) M w (args.map a.eval) hW.fits hG (by simpa using hin) (n - 1)) ?_
      rintro e w' ⟨M', u, rfl, hle, hnew, hfit, hrep, hb⟩
      exact ⟨M', u, rfl, hle, hW.call hle hnew hfit hb, Rep.mono (Mem.le_refl _) (EnvLe.nil _) _ _ hrep⟩
    · exact h.elim
  · let g' : Gets := fun x => open Classical in if x ∈ op.operands.toList then opndR Gl ok tm gs ow x else none
    have hg' : ∀ x ∈ op.operands.toList, opndR Gl ok tm gs ow x = g' x := fun x hx => by simp only [g', if_pos hx]
    have hg2 : ∀ x d', g' x = some d' → Rep M E d' (a.eval x) := by
      intro x d' hx
      simp only [g'] at hx
      split at hx
      · rename_i hm; exact hres x hm d' hx
      · simp at hx
    split at h
    · rename_i vs d' hev
      rw [needIf_iff] at h
      obtain ⟨h1, rfl⟩ := h
      rw [evPure_congr hg'] at hev
      obtain ⟨u, hr, hrep⟩ := evPure_sound (ρ := a.eval) hT hev (h1 hc) hg2 hW dst ty pos after guard
      rw [hr]
      exact ⟨M, u, rfl, Mem.le_refl _, hW, hrep⟩
    · split at h
      · rename_i d' hev
        subst h
        rw [evNewD_congr hg'] at hev
        obtain ⟨u, w', M', hr, hle, hrep, hW'⟩ := evNewD_sound (ρ := a.eval) hT hev hg2 hW dst ty pos after guard
        rw [hr]
        exact ⟨M', u, rfl, hle, hW', hrep⟩
      · exact h.elim
end

/-! ### what comes before what -/

theorem maskOf_bit {acc : List Nat} {o : Oper} {i : Nat} (h : (maskOf acc o).testBit i = true) : ∃ d ∈ deps o, i = d ∨ (acc.getD d 0).testBit i = true := by
  have : ∀ (l : List Nat) (m : Nat), (l.foldl (fun m d => m ||| 2 ^ d ||| acc.getD d 0) m).testBit i = true → m.testBit i = true ∨ ∃ d ∈ l, i = d ∨ (acc.getD d 0).testBit i = true := by
    intro l
    induction l with
    | nil => intro m hm; exact .inl hm
    | cons d l ih =>
      intro m hm
      simp only [List.foldl_cons] at hm
      rcases ih _ hm with h1 | ⟨d', hd', h1⟩
      · simp only [Nat.testBit_or, Bool.or_eq_true] at h1
        rcases h1 with (h1 | h1) | h1
        · exact .inl h1
        · rw [Nat.testBit_two_pow] at h1
          have h2 : d = i := by simpa using h1
          exact .inr ⟨d, by simp, .inl h2.symm⟩
        · exact .inr ⟨d, by simp, .inr h1⟩
      · exact .inr ⟨d', by simp [hd'], h1⟩
  rcases this _ _ h with h1 | h1
  · simp at h1
  · exact h1

/-- A set that holds with an operation all that it waits for. -/
def Closed (ops : List Oper) (S : Nat → Prop) : Prop := ∀ j o, ops[j]? = some o → S j → ∀ d ∈ deps o, S d

theorem masks_spec {ops : List Oper} {S : Nat → Prop} (hS : Closed ops S) : ∀ (r : List Oper) (acc : List Nat), ops.drop acc.length = r → (∀ (j i : Nat) (o : Oper), j < acc.length → ops[j]? = some o → (acc.getD j 0).testBit i = true → (∀ d ∈ deps o, S d) → S i) →
    ∀ (j i : Nat) (o : Oper), ops[j]? = some o → ((masks r acc).getD j 0).testBit i = true → (∀ d ∈ deps o, S d) → S i
  | [], acc, hr, hacc, j, i, o, hj, hb, hd => by
    simp only [masks] at hb
    rcases Nat.lt_or_ge j acc.length with h | h
    · exact hacc j i o h hj hb hd
    · rw [List.getD_eq_getElem?_getD, List.getElem?_eq_none h] at hb; simp at hb
  | o' :: r, acc, hr, hacc, j, i, o, hj, hb, hd => by
    simp only [masks] at hb
    have hget : ops[acc.length]? = some o' := by
      have : (ops.drop acc.length)[0]? = some o' := by rw [hr]; rfl
      simpa using this
    refine masks_spec hS r (acc ++ [maskOf acc o']) ?_ ?_ j i o hj hb hd
    · have := congrArg List.tail hr
      simpa using this
    · intro j i o hlt hj hb hd
      simp at hlt
      rcases Nat.lt_or_ge j acc.length with h | h
      · rw [List.getD_eq_getElem?_getD, List.getElem?_append_left h, ← List.getD_eq_getElem?_getD] at hb
        exact hacc j i o h hj hb hd
      · have : j = acc.length := by omega
        subst this
        rw [hget] at hj; simp at hj; subst hj
        rw [List.getD_eq_getElem?_getD, List.getElem?_append_right (Nat.le_refl _)] at hb
        simp at hb
        obtain ⟨d, hdm, h1 | h1⟩ := maskOf_bit hb
        · subst h1; exact hd _ hdm
        · have hSd := hd d hdm
          rcases Nat.lt_or_ge d acc.length with h2 | h2
          · have hod : ops[d]? = some (ops[d]'(by
              have := get_lt hget; omega)) := List.getElem?_eq_getElem _
            exact hacc d i _ h2 hod h1 (hS d _ hod hSd)
          · rw [List.getD_eq_getElem?_getD, List.getElem?_eq_none h2] at h1; simp at h1

theorem masks_before {ops : List Oper} {S : Nat → Prop} (hS : Closed ops S) {j i : Nat} {o : Oper} (hj : ops[j]? = some o) (hb : ((masks ops []).getD j 0).testBit i = true) (hd : ∀ d ∈ deps o, S d) : S i :=
  masks_spec hS ops [] (by simp) (fun j i o h => by simp at h) j i o hj hb hd

end Go.Sx
