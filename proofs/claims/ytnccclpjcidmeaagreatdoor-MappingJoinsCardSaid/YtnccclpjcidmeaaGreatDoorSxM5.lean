import Derived.Test.YtnccclpjcidmeaaGreatDoorSxM4
namespace Go.Sx
open Go Go.RowKit

/-! One cell more is owned: what was told is told still. -/
section
variable {T : TT} {ow : List Own} {e0 : TypeId} {l0 : List D}

theorem app_get {c : Own} {i : Nat} {o : Own} (h : ow[i]? = some o) : (ow ++ [c])[i]? = some o := by
  rw [List.getElem?_append_left (get_lt h)]; exact h

theorem app_frozen {i sz n : Nat} {f : Nat → Nat → D} : (ow ++ [Own.cells e0 l0])[i]? = some (.frozen sz n f) ↔ ow[i]? = some (.frozen sz n f) := by
  rcases Nat.lt_or_ge i ow.length with h | h
  · rw [List.getElem?_append_left h]
  · rw [List.getElem?_append_right h, List.getElem?_eq_none h]
    cases hi : i - ow.length with
    | zero => simp
    | succ n => simp

theorem opndR_app {Gl : Nat → Option D} {ok : Nat → Bool → Bool} {tm : List (Nat × D)} {gs : Gs} {x : Operand} : opndR Gl ok tm gs (ow ++ [Own.cells e0 l0]) x = opndR Gl ok tm gs ow x := by
  unfold opndR
  cases h : opnd Gl ok tm gs x with
  | none => rfl
  | some d =>
    cases d <;> try rfl
    rename_i i
    simp only
    cases ho : ow[i]? with
    | some o => rw [app_get ho]
    | none =>
      cases ho' : (ow ++ [Own.cells e0 l0])[i]? with
      | none => rfl
      | some o' =>
        cases o' <;> try rfl
        rename_i sz n f
        have := app_frozen.1 ho'
        rw [ho] at this; simp at this

mutual
theorem resA_app : ∀ d : D, resA (ow ++ [Own.cells e0 l0]) d = resA ow d
  | .row i => by
    simp only [resA]
    cases ho : ow[i]? with
    | some o => rw [app_get ho]
    | none =>
      cases ho' : (ow ++ [Own.cells e0 l0])[i]? with
      | none => rfl
      | some o' =>
        cases o' <;> try rfl
        have := app_frozen.1 ho'
        rw [ho] at this; simp at this
  | .ag l => by simp only [resA]; rw [resL_app l]
  | .tu l => by simp only [resA]; rw [resL_app l]
  | .v _ => rfl
  | .sl _ _ _ => rfl
  | .pt _ _ => rfl
  | .own _ _ => rfl
  | .rp _ _ _ _ => rfl
  | .fn _ _ => rfl
  | .ifc _ _ => rfl
  | .yl _ => rfl
  | .mp _ => rfl
  | .os _ _ _ => rfl
  | .sd _ => rfl
  | .junk => rfl
theorem resL_app : ∀ l : List D, resL (ow ++ [Own.cells e0 l0]) l = resL ow l
  | [] => rfl
  | d :: l => by simp only [resL]; rw [resA_app d, resL_app l]
end

theorem evLoad_app {ti : TI} {p : D} {r : List DP × D} {c : Own} (h : evLoad ti ow p = some r) : evLoad ti (ow ++ [c]) p = some r := by
  cases p <;> simp only [evLoad] at h ⊢ <;> try exact h
  case own i off =>
    cases ho : ow[i]? with
    | none => rw [ho] at h; simp at h
    | some o => rw [app_get ho]; rw [ho] at h; exact h
  case rp i sz a off =>
    cases ho : ow[i]? with
    | none => rw [ho] at h; simp at h
    | some o => rw [app_get ho]; rw [ho] at h; exact h

theorem evIndexAddr_app {tk : TK} {x i : D} {r : List DP × D} {c : Own} (h : evIndexAddr tk ow x i = some r) : evIndexAddr tk (ow ++ [c]) x i = some r := by
  unfold evIndexAddr at h ⊢
  split at h <;> try exact h
  rename_i r0 _ k0
  cases ho : ow[r0]? with
  | none => rw [ho] at h; simp at h
  | some o => simp only [app_get ho]; rw [ho] at h; exact h

theorem evLen_app {tk : TK} {x d : D} {c : Own} (h : evLen tk ow x = some d) : evLen tk (ow ++ [c]) x = some d := by
  unfold evLen at h ⊢
  split at h <;> try exact h
  rename_i r0
  cases ho : ow[r0]? with
  | none => rw [ho] at h; simp at h
  | some o => simp only [app_get ho]; rw [ho] at h; exact h

theorem evBytes_app {x : D} {s : ByteArray} {c : Own} (h : evBytes ow x = some s) : evBytes (ow ++ [c]) x = some s := by
  unfold evBytes at h ⊢
  split at h <;> try exact h
  · rename_i i off n
    cases ho : ow[i]? with
    | none => rw [ho] at h; simp at h
    | some o => simp only [app_get ho]; rw [ho] at h; exact h
  · rename_i i
    cases ho : ow[i]? with
    | none => rw [ho] at h; simp at h
    | some o => simp only [app_get ho]; rw [ho] at h; exact h

theorem evConv_app {a b : TK} {x d : D} {c : Own} (h : evConv T ow a b x = some d) : evConv T (ow ++ [c]) a b x = some d := by
  unfold evConv at h ⊢
  split at h <;> try exact h
  · split at h <;> try (simp at h; done)
    rename_i hTe
    split at h <;> try (simp at h; done)
    rename_i s hs
    simp only [hTe, evBytes_app hs]
    exact h
  · rename_i t i
    cases ho : ow[i]? with
    | none => rw [ho] at h; cases hT : T t <;> simp [hT] at h
    | some o => simp only [app_get ho]; rw [ho] at h; exact h
  · rename_i t i
    cases ho : ow[i]? with
    | none => rw [ho] at h; cases hT : T t <;> simp [hT] at h
    | some o => simp only [app_get ho]; rw [ho] at h; exact h

theorem evPure_app {op : Op} {g : Gets} {r : List DP × D} {c : Own} (h : evPure T op g ow = some r) : evPure T op g (ow ++ [c]) = some r := by
  unfold evPure at h ⊢
  split at h <;> try (simp at h; done)
  all_goals try exact h
  · rename_i t a
    split at h <;> try (simp at h; done)
    rename_i ti p hT hp
    exact evLoad_app h
  · rename_i t x i
    split at h <;> try (simp at h; done)
    rename_i hT hx hi
    exact evIndexAddr_app h
  · rename_i a b x
    split at h <;> try (simp at h; done)
    rename_i hTa hTb hx
    split at h <;> try (simp at h; done)
    rename_i d' hd
    simp only [hTa, hTb, hx, evConv_app hd]
    exact h
  · rename_i x t
    split at h <;> try (simp at h; done)
    rename_i hT hx
    split at h <;> try (simp at h; done)
    rename_i d' hd
    simp only [hT, hx, evLen_app hd]
    exact h

theorem evNewD_app {op : Op} {g : Gets} {d : D} {c : Own} (h : evNewD T op g ow = some d) : evNewD T op g (ow ++ [c]) = some d ∧ ∀ ow', evPure T op g ow' = none := by
  unfold evNewD at h ⊢
  split at h <;> try (simp at h; done)
  · rename_i x ats
    refine ⟨?_, fun _ => rfl⟩
    split at h <;> try (simp at h; done)
    · exact h
    · rename_i i hx
      cases ho : ow[i]? with
      | none => rw [ho] at h; simp at h
      | some o => simp only [hx, app_get ho]; rw [ho] at h; exact h
  · exact ⟨h, fun _ => rfl⟩

theorem exQ_app {cc : Bool} {Γ : Ctx} {Gl : Nat → Option D} {op : Op} {ok : Nat → Bool → Bool} {c : Prop} {tm : List (Nat × D)} {gs : Gs} {k : D → Prop} (h : exQ cc Γ T Gl op ok c tm gs ow k) : exQ cc Γ T Gl op ok c tm gs (ow ++ [Own.cells e0 l0]) k := by
  unfold exQ at h ⊢
  split at h
  · exact h
  · split at h <;> try exact h.elim
    rename_i hf hds
    simp only [hf, hds, resL_app]
    exact h
  · have e1 : (fun x => opndR Gl ok tm gs (ow ++ [Own.cells e0 l0]) x) = fun x => opndR Gl ok tm gs ow x := by funext x; exact opndR_app
    simp only [e1]
    split at h
    · rename_i vs d hev
      simp only [evPure_app hev]
      exact h
    · split at h <;> try exact h.elim
      rename_i d hev
      obtain ⟨h1, h2⟩ := evNewD_app (c := Own.cells e0 l0) hev
      simp only [h2, h1]
      exact h

theorem QOne_app {cc : Bool} {Γ : Ctx} {Gl : Nat → Option D} {N : Nat} {all : List Oper} {o : Oper} {tm : List (Nat × D)} {gs : Gs} {e : En} (h : QOne cc Γ T Gl N all o tm gs ow e) : QOne cc Γ T Gl N all o tm gs (ow ++ [Own.cells e0 l0]) e := by
  cases e with
  | pl t d => exact ⟨h.1, h.2.1, h.2.2.1, exQ_app h.2.2.2⟩
  | gd t s b d =>
    obtain ⟨h1, h2, h3, h4, h5, x, h6, h7⟩ := h
    exact ⟨h1, h2, h3, h4, h5, x, h6, exQ_app h7⟩
  | kt t s b d =>
    obtain ⟨h1, h2, h3, h4, h5, h6⟩ := h
    exact ⟨h1, h2, h3, h4, h5, exQ_app h6⟩
  | sk t s b v => exact h
end

section
variable {P : Program} {T : TT} {B : Nat} {w0 w w' : World} {M0 M M' : Mem} {E E' : List Value} {ow : List Own} {Γ : Ctx} {Gl : Nat → Option D} {Y : Ys} {cc : Bool} {dv : List Deferred}

theorem EOk.monoE {a : Act} {e : En} (h : EOk M E a e) (hM : M.le M') (hE : EnvLe E E') : EOk M' E' a e := by
  cases e with
  | gd t s b d => exact fun hb => Rep.mono hM hE _ _ (h hb)
  | pl t d => exact Rep.mono hM hE _ _ (h : Rep M E _ _)
  | kt t s b d => exact Rep.mono hM hE _ _ (h : Rep M E _ _)
  | sk t s b v => exact Rep.mono hM hE _ _ (h : Rep M E _ _)

theorem allocAt_some {l : List Oper} {p t : Nat} {e : TypeId} (h : allocAt l p = some (t, e)) : ∃ o, l[p]? = some o ∧ o.dst = some t ∧ o.op = .alloc e ∧ o.guard = none ∧ deps o = [] := by
  unfold allocAt at h
  split at h <;> try (simp at h; done)
  rename_i o ho
  split at h <;> try (simp at h; done)
  rename_i t' e' h1 h2 h3 h4
  simp at h; obtain ⟨rfl, rfl⟩ := h
  exact ⟨o, ho, h1, h2, h3, h4⟩

/-- A region that draws its order, a cell being laid somewhere in it. -/
theorem exDrawA_sound (hΓ : CtxOk P Gl Γ) (hT : TOk P T) (hmix : P.follows .mixedOrders = true) {N : Nat} {ops : Array Oper} {p t : Nat} {e0 : TypeId} (hal : allocAt ops.toList p = some (t, e0)) (hok : okDraw ops.toList (p + 1) = true) {ro : Option Nat} {n : Nat} {Q : Exit → Act → World → Prop}
    {tm : List (Nat × D)} {k : List (Nat × D) → List Own → Prop} {a : Act} {id : Nat}
    (h : exPre cc Γ T Gl N ops.toList ops.toList p tm [] ow fun tm' gs' => exAl T N e0 t tm' gs' ow fun tm2 ow2 => exOps cc Γ Y T Gl N ops.toList (ops.toList.drop (p + 1)) tm2 gs' ow2 k) (hW : WRel B w0 M0 M E ow w) (hR : TRel dv N M E tm [] a) (hG : GlOk M Gl) (hY : YOk P Gl B w0 M E Y)
    (hQ : ∀ a' w', Next dv N B w0 M0 M E [] k a' w' → Q .normal a' w') : (Code.region id ops true).wpIn (FW ro) n P Q a w := by
  obtain ⟨oA, hoA, hAd, hAo, hAg, hAdep⟩ := allocAt_some hal
  have hoA' : ops[p]? = some oA := by simpa using hoA
  have hpl : p + 1 ≤ ops.size := (Array.getElem?_eq_some_iff.1 hoA').1
  simp only [okDraw, Bool.and_eq_true, List.all_eq_true, List.mem_range] at hok
  obtain ⟨⟨⟨hk1, hk2⟩, hk4⟩, hk3⟩ := hok
  have hback : ∀ (i : Nat) (o : Oper), ops[i]? = some o → ∀ d ∈ deps o, d < i := by
    intro i o ho d hd
    have hi := (Array.getElem?_eq_some_iff.1 ho).1
    have := hk1 i (by simpa using hi)
    have ho' : ops.toList[i]? = some o := by simpa using ho
    rw [ho'] at this
    simp only [List.all_eq_true, decide_eq_true_eq] at this
    exact this d hd
  have htail : ∀ q, p + 1 ≤ q → q < ops.size → ∀ i, i < q → ((masks ops.toList []).getD q 0).testBit i = true := by
    intro q hq1 hq2 i hi
    have := hk2 q (by simpa using hq2)
    simp only [Bool.or_eq_true, decide_eq_true_eq, List.all_eq_true, List.mem_range] at this
    rcases this with h1 | h1
    · omega
    · exact h1 i hi
  obtain ⟨es, hel, hq1, hkk⟩ := exPre_ents ops.toList p h (by simp; omega)
  unfold exAl at hkk
  split at hkk <;> try exact hkk.elim
  rename_i sz0 ag0 z0 kd0 mo0 hTe
  split at hkk <;> try exact hkk.elim
  rename_i htN
  split at hkk <;> try exact hkk.elim
  rename_i hfree
  let eA : En := .pl t (.own ow.length 0)
  let es' : List En := es ++ [eA]
  let ow' : List Own := ow ++ [.cells e0 (z0.map .v)]
  have hel' : es'.length = p + 1 := by simp [es', hel]
  have hesA : es'[p]? = some eA := by simp [es', ← hel]
  have hesI : ∀ i, i < p → es'[i]? = es[i]? := fun i hi => List.getElem?_append_left (by omega)
  have htk : ∀ i, i ≤ p → es'.take i = es.take i := fun i hi => List.take_append_of_le_length (by omega)
  have hstT : stT tm es' = setT (stT tm es) t (.own ow.length 0) := by simp [es', stT, pushT, eA, En.slot, En.val]
  have hstG : stG [] es' = stG [] es := by simp [es', stG, pushG, eA]
  have hopi : ∀ i, i < p + 1 → ∃ o, ops[i]? = some o := fun i hi => ⟨ops[i]'(by omega), by simp [show i < ops.size by omega]⟩
  -- two operations of the head
  have hpair : ∀ (i j : Nat) (x y : Oper), i < p + 1 → j < p + 1 → i ≠ j → ops[i]? = some x → ops[j]? = some y → x.dst ≠ y.dst ∧ (∀ t, y.dst = some t → t ∈ reads ops.toList x → ((masks ops.toList []).getD (max i j) 0).testBit (min i j) = true) := by
    intro i j x y hi hj hij hx hy
    have := hk3 i hi j hj
    have hx' : ops.toList[i]? = some x := by simpa using hx
    have hy' : ops.toList[j]? = some y := by simpa using hy
    rw [hx', hy'] at this
    simp only [Bool.or_eq_true, beq_iff_eq, hij, false_or, Bool.and_eq_true, bne_iff_ne, ne_eq] at this
    obtain ⟨h1, h2⟩ := this
    refine ⟨h1, fun t ht hm => ?_⟩
    · rw [ht] at h2
      simp only [Bool.or_eq_true, Bool.not_eq_true', List.contains_eq_mem, decide_eq_false_iff_not] at h2
      rcases h2 with h2 | h2
      · exact absurd hm h2
      · exact h2
  have hguard : ∀ (i : Nat) (x : Oper) (g : Nat) (b : Bool), i < p + 1 → ops[i]? = some x → x.guard = some (g, b) → g < i := by
    intro i x g b hi hx hg
    have := hk4 i hi
    have hx' : ops.toList[i]? = some x := by simpa using hx
    rw [hx'] at this
    simp only [hg] at this
    simpa using this
  have hent : ∀ (i : Nat) (o : Oper), i < p → ops[i]? = some o → ∃ e, es[i]? = some e ∧ QOne cc Γ T Gl N ops.toList o (stT tm (es.take i)) (stG [] (es.take i)) ow e := by
    intro i o hi ho
    have he : es[i]? = some (es[i]'(by omega)) := List.getElem?_eq_getElem _
    exact ⟨_, he, hq1 i o _ (by simpa using ho) he⟩
  have hentQ : ∀ (i : Nat) (o : Oper), i < p + 1 → ops[i]? = some o → ∃ e, es'[i]? = some e ∧ QDst N ops.toList o e := by
    intro i o hi ho
    by_cases hip : i = p
    · subst hip
      rw [hoA'] at ho; simp at ho; subst ho
      exact ⟨eA, hesA, hAd, htN, trivial⟩
    · obtain ⟨e, he, hq⟩ := hent i o (by omega) ho
      exact ⟨e, by rw [hesI i (by omega)]; exact he, hq.q⟩
  refine wpIn_region_any hmix ?_
  refine any_order hback hpl htail (Good := fun S a w => (¬ S p ∧ GoodS dv N B w0 M0 M E ow tm es' S a w) ∨ (S p ∧ ∃ E1, EnvLe E E1 ∧ GoodS dv N B w0 M0 M E1 ow' tm es' S a w)) ?_ ?_ ops.size _ a _ (by simp) ?_ ?_ ?_ ?_
  · -- a step
    intro listed a w i o hsz hcl hip ho h0 hd _ hg
    have hiS : i < listed.size := by rw [hsz]; exact (Array.getElem?_eq_some_iff.1 ho).1
    by_cases hipp : i = p
    · subst hipp
      rw [hoA'] at ho; simp at ho; subst ho
      rcases hg with ⟨hSp, hg⟩ | ⟨hSp, _⟩
      · obtain ⟨M', hle, hW', hN, hdef, hinit, hents⟩ := hg
        unfold wpOpIn
        simp only [hoA']
        obtain ⟨dst, op, ty, pos, after, guard⟩ := oA
        simp only at hAd hAo hAg
        subst hAd; subst hAo; subst hAg
        have hw : Region.wanted ⟨some t, .alloc e0, ty, pos, after, none⟩ (yielded ops a.tmps) = true := rfl
        simp only [hw, if_true]
        refine wpIn_of (fun c => by simp) ?_
        have hev : evOwn T (.alloc e0) (fun _ => none) ow = some ([], .own ow.length 0, ow') := by simp only [evOwn, hTe, ow']
        obtain ⟨u, w2, M2, E2, hr, hle2, hrep2, hW2, hEE⟩ := evOwn_sound (ρ := a.eval) hT hev trivial (fun x d hx => by simp at hx) hW' (some t) ty pos after none
        have hfin : (¬ LS (listed.setIfInBounds i true) i ∧ GoodS dv N B w0 M0 M E ow tm es' (LS (listed.setIfInBounds i true)) (a.put (some t) u) w2) ∨ (LS (listed.setIfInBounds i true) i ∧ ∃ E1, EnvLe E E1 ∧ GoodS dv N B w0 M0 M E1 ow' tm es' (LS (listed.setIfInBounds i true)) (a.put (some t) u) w2) := by
          refine .inr ⟨(LS_set hiS i).2 (.inl rfl), E2, hEE, M2, Mem.le_trans hle hle2, hW2, by simp [Act.put, hN], by simp [Act.put, hdef], fun t' d ht hno => ?_, fun j e' he' hS => ?_⟩
          · have hne : t' ≠ t := fun hh => hno i eA hesA ((LS_set hiS i).2 (.inl rfl)) hh.symm
            rw [getD_put hN htN, if_neg hne]
            exact Rep.mono hle2 hEE _ _ (hinit t' d ht fun j e' he' hS => hno j e' he' ((LS_set hiS j).2 (.inr hS)))
          · rw [LS_set hiS] at hS
            rcases hS with rfl | hS
            · rw [hesA] at he'; simp at he'; subst he'
              show Rep M2 E2 (.own ow.length 0) ((a.put (some t) u).tmps.getD t undef)
              rw [getD_put hN htN, if_pos rfl]; exact hrep2
            · have hji : j ≠ i := fun hh => by subst hh; exact hSp hS
              have hjp : j < i + 1 := by have := get_lt he'; omega
              obtain ⟨oj, hoj⟩ := hopi j hjp
              obtain ⟨ej, hej, hqj⟩ := hentQ j oj hjp hoj
              rw [he'] at hej; simp at hej; subst hej
              have hsl : e'.slot ≠ t := by
                have := (hpair j i oj _ hjp (by omega) hji hoj hoA').1
                rw [hqj.1] at this
                intro hh; exact this (by rw [hh])
              have hold := (hents j e' he' hS).monoE hle2 hEE
              cases e' with
              | pl t' d =>
                have hsl' : t' ≠ t := hsl
                have hold' : Rep M2 E2 ((En.pl t' d).val.getD .junk) (a.tmps.getD t' undef) := hold
                show Rep M2 E2 ((En.pl t' d).val.getD .junk) ((a.put (some t) u).tmps.getD t' undef)
                rw [getD_put hN htN, if_neg hsl']; exact hold'
              | kt t' s b d =>
                have hsl' : t' ≠ t := hsl
                have hold' : Rep M2 E2 ((En.kt t' s b d).val.getD .junk) (a.tmps.getD t' undef) := hold
                show Rep M2 E2 ((En.kt t' s b d).val.getD .junk) ((a.put (some t) u).tmps.getD t' undef)
                rw [getD_put hN htN, if_neg hsl']; exact hold'
              | sk t' s b v =>
                have hsl' : t' ≠ t := hsl
                have hold' : Rep M2 E2 ((En.sk t' s b v).val.getD .junk) (a.tmps.getD t' undef) := hold
                show Rep M2 E2 ((En.sk t' s b v).val.getD .junk) ((a.put (some t) u).tmps.getD t' undef)
                rw [getD_put hN htN, if_neg hsl']; exact hold'
              | gd t' s b d =>
                have hsl' : t' ≠ t := hsl
                simp only [EOk] at hold ⊢
                have hs : s ≠ t := by
                  intro hh
                  obtain ⟨_, _, gj, gq, hgd, hgq, hgs⟩ := hqj
                  have hgj := hguard j oj _ _ hjp hoj hgd
                  have hgq' : ops[gj]? = some gq := by simpa using hgq
                  have := (hpair gj i gq _ (by omega) (by omega) (by omega) hgq' hoA').1
                  rw [hgs, hh] at this
                  exact absurd rfl this
                rw [getD_put hN htN, if_neg hs, getD_put hN htN, if_neg hsl']; exact hold
        rcases hr with hr | ⟨_, hu⟩
        · rw [hr]; exact hfin
        · rw [hu] at hrep2
          simp only [Rep] at hrep2
          obtain ⟨b, _, hb⟩ := hrep2
          simp [undef] at hb
      · exact absurd hSp h0
    · have hip' : i < p := by omega
      obtain ⟨e, he, hone⟩ := hent i o hip' ho
      have he' : es'[i]? = some e := by rw [hesI i hip']; exact he
      rcases hg with ⟨hSp, hg⟩ | ⟨hSp, E1, hE1, hg⟩
      · refine wpOpIn_mono (fun a' w' hg' => .inl ⟨?_, hg'⟩) (draw_step hΓ hT hG hel' hentQ hopi hpair hguard listed a w i o hsz hcl hip ho h0 hd hg he' (by rw [htk i (by omega)]; exact hone))
        rw [LS_set hiS]
        rintro (hh | hh)
        · exact hipp hh.symm
        · exact hSp hh
      · refine wpOpIn_mono (fun a' w' hg' => .inr ⟨(LS_set hiS p).2 (.inr hSp), E1, hE1, hg'⟩) (draw_step hΓ hT hG hel' hentQ hopi hpair hguard listed a w i o hsz hcl hip ho h0 hd hg he' (by rw [htk i (by omega)]; exact QOne_app hone))
  · -- the head is done
    intro listed a w hl hg
    rcases hg with ⟨hSp, _⟩ | ⟨hSp, E1, hE1, M', hle, hW', hN, hdef, hinit, hents⟩
    · exact absurd ((hl p).2 (by omega)) hSp
    have hall : ∀ (i : Nat) (e : En), es'[i]? = some e → LS listed i := fun i e he => (hl i).2 (by have := get_lt he; omega)
    have hR' : TRel dv N M' E1 (stT tm es') (stG [] es') a := by
      refine ⟨hN, hdef, fun t d hd => ?_, fun t s b d hs hb => ?_⟩
      · rcases lk_stT _ _ _ hd with ⟨j, e', hj, hst, hv⟩ | rfl | ⟨h1, h2⟩
        · have := (hents j _ hj (hall j _ hj)).plain hv
          rw [hst] at this; exact this
        · simp [Rep]
        · exact hinit t d h1 fun j e he _ => h2 j e he
      · obtain ⟨j, hj⟩ := lkG_stG _ _ _ _ _ hs
        exact hents j _ hj (hall j _ hj) hb
    rw [hstT, hstG] at hR'
    have := exOps_sound hΓ hT (ops.toList.drop (p + 1)) (p + 1) (ops := ops) (ro := ro) (n := n) (Q := Q) rfl hkk hW' hR' (hG.mono hle) (hY.mono hle hE1) (fun a' w' ⟨M2, E2, t2, o2, q1, q2, q3, q4, q5⟩ => hQ _ _ ⟨M2, E2, t2, o2, Mem.le_trans hle q1, hE1.trans q2, q3, q4, q5⟩)
    simpa using this
  · intro j o hj hS
    simp [LS, Array.getD_eq_getD_getElem?, Array.getElem?_replicate] at hS
    split at hS <;> simp at hS
  · intro q hS
    simp [LS, Array.getD_eq_getD_getElem?, Array.getElem?_replicate] at hS
    split at hS <;> simp at hS
  · have : ∀ m f, unl m f ≤ m := by
      intro m f
      induction m with
      | zero => simp [unl]
      | succ m ih => simp only [unl]; split <;> omega
    exact this _ _
  · have hW2 : WRel B w0 M0 M E ow { w with drawn := w.drawn + 1 } := ⟨hW.fits, hW.base, hW.below.trans ⟨rfl, rfl, rfl, Nat.le_refl _, fun _ _ => rfl⟩, hW.len, fun i o v ho hv => (hW.holds i o v ho hv).frame (fun _ _ _ => rfl) (Mem.le_refl _) (EnvLe.refl _) (fun b hf hb => ((hW.holds i o v ho hv).lt (Own.free_live hf) hb).2.2 hf), hW.inj, hW.mle, hW.new⟩
    refine .inl ⟨fun hS => ?_, M, Mem.le_refl _, hW2, hR.size, hR.defers, fun t d ht _ => hR.tmps _ _ ht, fun i e he hS => ?_⟩
    · simp [LS, Array.getD_eq_getD_getElem?, Array.getElem?_replicate] at hS
      split at hS <;> simp at hS
    · simp [LS, Array.getD_eq_getD_getElem?, Array.getElem?_replicate] at hS
      split at hS <;> simp at hS
end
end Go.Sx
