import Derived.Test.YtnccclpjcidmeaaGreatDoorRa
import Derived.Lib.IndexEntry
namespace Go.Proofs
open Go Go.Sx
variable {mx : Int}

/-! stringslite.Index of two points, at the three strings that a run asks for, whatever bytealg.MaxLen is -/
def idx3G : List D → Option D
  | [.v (.string a), .v (.string b)] => if b.size = 2 ∧ a.size ≤ 64 then some (.v (.int .i64 (Lib.index a.data.toList b.data.toList))) else none
  | _ => none
theorem idx3_ok (hmx : 2 ≤ mx) : SoundS Tryz.prog (GlT mx) 171 idx3G := by
  intro ds d hg M E us w hfit hGl hr
  unfold idx3G at hg
  split at hg <;> try (simp at hg; done)
  rename_i a b
  split at hg <;> try (simp at hg; done)
  rename_i hc
  simp at hg; subst hg
  have := two_args hr
  subst this
  refine ⟨_, ?_, Rep.val _⟩
  have hf : Tryz.prog.funcs[171]? = some Tryz.f171 := by kernel_rfl
  have h1 : (Tryz.f171.name == "runtime.NumGoroutine") = false := by kernel_rfl
  have h2 : Tryz.f171.body.isNone = true := by kernel_rfl
  have h3 : Extern.findNext Tryz.f171 = none := by kernel_rfl
  have h4 : Extern.find Tryz.f171 = some Extern.BytealgIndex.index := by kernel_rfl
  have hcell : w.cell? ⟨1, 0, none⟩ = some (.int .i64 mx) := by
    have h := hGl 1 (.pt 1 fun _ => .v (.int .i64 mx)) rfl
    simp only [Rep] at h
    obtain ⟨ad, h5, h6⟩ := h
    obtain ⟨x, h7, _, h8⟩ := h6 0 (by omega)
    simp at h5; subst h5
    rw [h8] at h7
    exact Mem.cell_fits hfit h7
  have h5 : (Extern.BytealgIndex.index #[.string a, .string b]).run Tryz.prog w = .ok (.int .i64 (Lib.index a.data.toList b.data.toList)) w :=
    Lib.run_indexString a b w 1 mx (by kernel_rfl) hcell (by omega) (by omega) (by omega)
  have h6 : ∀ m, Sem.run Tryz.prog (Sem.mark m (Sem.pure ())) w = .ok () w := fun _ => rfl
  simp only [callFunc, Sem.run_bind, run_program, Result.andThen_ok, hf, h1, h2, h3, h4]
  simp [h5, h6, mark]

noncomputable def c174 : Code := (Tryz.f174.body).getD .skip
def Γi : Ctx := fun f => match f with
  | 179 => some (.ext idxG)
  | _ => none
theorem Γi_ok : CtxOk Tryz.prog (GlT mx) Γi := by
  intro f h hh
  simp only [Γi] at hh
  split at hh <;> simp at hh <;> subst hh
  exact idx_ok
noncomputable def Γj (mx : Int) : Ctx := fun f => match f with
  | 174 => some (.gen (inlW true Γi Tryz.T (GlT mx) Tryz.f174 c174))
  | _ => none
theorem Γj_ok : CtxOk Tryz.prog (GlT mx) (Γj mx) := by
  intro f h hh
  simp only [Γj] at hh
  split at hh <;> simp at hh <;> subst hh
  exact soundT_inlW Γi_ok Tryz.T_ok Tryz.mixed Tryz.func174 rfl (by kernel_rfl)
def Γ3 : Ctx := fun f => match f with
  | 171 => some (.ext idx3G)
  | _ => none
theorem Γ3_ok (hmx : 2 ≤ mx) : CtxOk Tryz.prog (GlT mx) Γ3 := by
  intro f h hh
  simp only [Γ3] at hh
  split at hh <;> simp at hh <;> subst hh
  exact idx3_ok hmx
theorem dots_size : (dots.size : Int) = 2 := rfl

theorem indexA_ok : Sound Tryz.prog (GlT mx) 159 ⟨Unit, fun _ => [.v (.string sA), .v (.string dots)], fun _ => .v (.int .i64 (-1)), fun _ => True⟩ := by
  by_cases hmx : 2 ≤ mx
  · refine sound_by (cc := true) (Γ3_ok hmx) Tryz.T_ok Tryz.mixed Tryz.func159 rfl (by kernel_rfl) (fun _ => rfl) (fun _ _ => by show 2 ≤ 143; decide) ?_
    intro _ _
    repeat first | refine wk1 ?_ | refine wk2 ?_ | refine wk3 ?_ | refine wt1 ?_ | refine wt2 ?_ | refine wt3 ?_ | refine wt4 ?_ | refine wn6 ?_
    generalize hp : decide ((dots.size : Int) ≤ mx) = p
    cases p with
    | false =>
      rw [dots_size] at hp
      exact absurd hmx (of_decide_eq_false hp)
    | true =>
      repeat first | refine wk1 ?_ | refine wk2 ?_ | refine wk3 ?_ | refine wt1 ?_ | refine wt2 ?_ | refine wt3 ?_ | refine wt4 ?_ | refine wn6 ?_
      exact EntR.int (by decide)
  · refine sound_by (cc := true) Γj_ok Tryz.T_ok Tryz.mixed Tryz.func159 rfl (by kernel_rfl) (fun _ => rfl) (fun _ _ => by show 2 ≤ 143; decide) ?_
    intro _ _
    repeat first | refine wk1 ?_ | refine wk2 ?_ | refine wk3 ?_ | refine wt1 ?_ | refine wt2 ?_ | refine wt3 ?_ | refine wt4 ?_ | refine wn6 ?_
    generalize hp : decide ((dots.size : Int) ≤ mx) = p
    cases p with
    | true =>
      rw [dots_size] at hp
      exact absurd (of_decide_eq_true hp) hmx
    | false =>
      repeat first | refine wk1 ?_ | refine wk2 ?_ | refine wk3 ?_ | refine wt1 ?_ | refine wt2 ?_ | refine wt3 ?_ | refine wt4 ?_ | refine wn6 ?_
      refine ⟨8, ?_⟩
      repeat first | refine wk1 ?_ | refine wk2 ?_ | refine wk3 ?_ | refine wt1 ?_ | refine wt2 ?_ | refine wt3 ?_ | refine wt4 ?_ | refine wn6 ?_
      exact EntR.int (by decide)
theorem indexB_ok : Sound Tryz.prog (GlT mx) 159 ⟨Unit, fun _ => [.v (.string sB), .v (.string dots)], fun _ => .v (.int .i64 (-1)), fun _ => True⟩ := by
  by_cases hmx : 2 ≤ mx
  · refine sound_by (cc := true) (Γ3_ok hmx) Tryz.T_ok Tryz.mixed Tryz.func159 rfl (by kernel_rfl) (fun _ => rfl) (fun _ _ => by show 2 ≤ 143; decide) ?_
    intro _ _
    repeat first | refine wk1 ?_ | refine wk2 ?_ | refine wk3 ?_ | refine wt1 ?_ | refine wt2 ?_ | refine wt3 ?_ | refine wt4 ?_ | refine wn6 ?_
    generalize hp : decide ((dots.size : Int) ≤ mx) = p
    cases p with
    | false =>
      rw [dots_size] at hp
      exact absurd hmx (of_decide_eq_false hp)
    | true =>
      repeat first | refine wk1 ?_ | refine wk2 ?_ | refine wk3 ?_ | refine wt1 ?_ | refine wt2 ?_ | refine wt3 ?_ | refine wt4 ?_ | refine wn6 ?_
      exact EntR.int (by decide)
  · refine sound_by (cc := true) Γj_ok Tryz.T_ok Tryz.mixed Tryz.func159 rfl (by kernel_rfl) (fun _ => rfl) (fun _ _ => by show 2 ≤ 143; decide) ?_
    intro _ _
    repeat first | refine wk1 ?_ | refine wk2 ?_ | refine wk3 ?_ | refine wt1 ?_ | refine wt2 ?_ | refine wt3 ?_ | refine wt4 ?_ | refine wn6 ?_
    generalize hp : decide ((dots.size : Int) ≤ mx) = p
    cases p with
    | true =>
      rw [dots_size] at hp
      exact absurd (of_decide_eq_true hp) hmx
    | false =>
      repeat first | refine wk1 ?_ | refine wk2 ?_ | refine wk3 ?_ | refine wt1 ?_ | refine wt2 ?_ | refine wt3 ?_ | refine wt4 ?_ | refine wn6 ?_
      refine ⟨8, ?_⟩
      repeat first | refine wk1 ?_ | refine wk2 ?_ | refine wk3 ?_ | refine wt1 ?_ | refine wt2 ?_ | refine wt3 ?_ | refine wt4 ?_ | refine wn6 ?_
      exact EntR.int (by decide)
theorem indexC_ok : Sound Tryz.prog (GlT mx) 159 ⟨Unit, fun _ => [.v (.string sC), .v (.string dots)], fun _ => .v (.int .i64 4), fun _ => True⟩ := by
  by_cases hmx : 2 ≤ mx
  · refine sound_by (cc := true) (Γ3_ok hmx) Tryz.T_ok Tryz.mixed Tryz.func159 rfl (by kernel_rfl) (fun _ => rfl) (fun _ _ => by show 2 ≤ 143; decide) ?_
    intro _ _
    repeat first | refine wk1 ?_ | refine wk2 ?_ | refine wk3 ?_ | refine wt1 ?_ | refine wt2 ?_ | refine wt3 ?_ | refine wt4 ?_ | refine wn6 ?_
    generalize hp : decide ((dots.size : Int) ≤ mx) = p
    cases p with
    | false =>
      rw [dots_size] at hp
      exact absurd hmx (of_decide_eq_false hp)
    | true =>
      repeat first | refine wk1 ?_ | refine wk2 ?_ | refine wk3 ?_ | refine wt1 ?_ | refine wt2 ?_ | refine wt3 ?_ | refine wt4 ?_ | refine wn6 ?_
      exact EntR.int (by decide)
  · refine sound_by (cc := true) Γj_ok Tryz.T_ok Tryz.mixed Tryz.func159 rfl (by kernel_rfl) (fun _ => rfl) (fun _ _ => by show 2 ≤ 143; decide) ?_
    intro _ _
    repeat first | refine wk1 ?_ | refine wk2 ?_ | refine wk3 ?_ | refine wt1 ?_ | refine wt2 ?_ | refine wt3 ?_ | refine wt4 ?_ | refine wn6 ?_
    generalize hp : decide ((dots.size : Int) ≤ mx) = p
    cases p with
    | true =>
      rw [dots_size] at hp
      exact absurd (of_decide_eq_true hp) hmx
    | false =>
      repeat first | refine wk1 ?_ | refine wk2 ?_ | refine wk3 ?_ | refine wt1 ?_ | refine wt2 ?_ | refine wt3 ?_ | refine wt4 ?_ | refine wn6 ?_
      refine ⟨8, ?_⟩
      repeat first | refine wk1 ?_ | refine wk2 ?_ | refine wk3 ?_ | refine wt1 ?_ | refine wt2 ?_ | refine wt3 ?_ | refine wt4 ?_ | refine wn6 ?_
      exact EntR.int (by decide)
theorem sums_ok : ∀ f ds d, sumT f ds = some d → Sound Tryz.prog (GlT mx) f ⟨Unit, fun _ => ds, fun _ => d, fun _ => True⟩ := by
  intro f ds d h
  unfold sumT at h
  split at h <;> try (simp at h; done)
  rename_i hf
  subst hf
  unfold idx2 at h
  split at h <;> try (simp at h; done)
  rename_i s t
  split at h <;> try (simp at h; done)
  rename_i ht
  have ht : t = dots := (@decide_eq_true_iff _ (baDec t dots)).1 ht
  subst ht
  split at h
  · rename_i hs
    have hs : s = sA := (@decide_eq_true_iff _ (baDec s sA)).1 hs
    subst hs
    simp at h; subst h
    exact indexA_ok
  split at h
  · rename_i hs
    have hs : s = sB := (@decide_eq_true_iff _ (baDec s sB)).1 hs
    subst hs
    simp at h; subst h
    exact indexB_ok
  split at h
  · rename_i hs
    have hs : s = sC := (@decide_eq_true_iff _ (baDec s sC)).1 hs
    subst hs
    simp at h; subst h
    exact indexC_ok
  · simp at h
end Go.Proofs

namespace Go.Proofs
open Go Go.Sx
def okNames (P : Program) : Nat → Bool
  | 0 => true
  | n + 1 => (match P.funcs[n]? with | some fn => !(fn.name == "runtime.NumGoroutine") | none => true) && okNames P n
def okPures (P : Program) (off : List Nat) : Nat → Bool
  | 0 => true
  | n + 1 => (match P.funcs[n]? with | some fn => fn.body.isSome || off.contains n | none => false) && okPures P off n
theorem okNames_of {P : Program} : ∀ {n f : Nat} {fn : Func}, okNames P n = true → f < n → P.funcs[f]? = some fn → (fn.name == "runtime.NumGoroutine") = false
  | 0, f, fn, _, h, _ => by omega
  | n + 1, f, fn, ho, h, hf => by
    simp only [okNames, Bool.and_eq_true] at ho
    by_cases hfn : f = n
    · subst hfn; have := ho.1; rw [hf] at this; simpa using this
    · exact okNames_of ho.2 (by omega) hf
theorem okPures_of {P : Program} {off : List Nat} : ∀ {n f : Nat}, okPures P off n = true → f < n → off.contains f = false → ∃ fn, P.funcs[f]? = some fn ∧ fn.body.isSome = true
  | 0, f, _, h, _ => by omega
  | n + 1, f, ho, h, hf => by
    simp only [okPures, Bool.and_eq_true] at ho
    by_cases hfn : f = n
    · subst hfn
      have := ho.1
      cases hx : P.funcs[f]? with
      | none => rw [hx] at this; simp at this
      | some fn => rw [hx] at this; simp only [hf, Bool.or_false] at this; exact ⟨fn, rfl, this⟩
    · exact okPures_of ho.2 (by omega) hf
theorem names_ok : okNames Tryz.prog 206 = true := by kernel_rfl
theorem pures_ok : okPures Tryz.prog offT 206 = true := by kernel_rfl
theorem size_ok : Tryz.prog.funcs.size = 206 := by kernel_rfl
theorem runX_ok (mx : Int) : EnvOk Tryz.prog (runX mx) where
  types := Tryz.T_ok
  mixed := Tryz.mixed
  funcs := fun f fn h => h
  names := fun f fn h => okNames_of names_ok (by have := (Array.getElem?_eq_some_iff.1 h).1; rw [size_ok] at this; exact this) h
  pures := fun f h _ => by
    simp only [runX, Bool.and_eq_true, decide_eq_true_eq, Bool.not_eq_true'] at h
    exact okPures_of pures_ok h.1 h.2
  sames := fun f h => by
    have h : f = 121 ∨ f = 179 ∨ f = 182 := by
      simp only [runX, Bool.or_eq_true, beq_iff_eq] at h
      rcases h with (h | h) | h
      · exact .inl h
      · exact .inr (.inl h)
      · exact .inr (.inr h)
    rcases h with rfl | rfl | rfl
    · exact same_ok
    · exact idx_ok
    · exact cnt_ok
  sums := fun f ds d h => sums_ok f ds d h
theorem aliveRun (mx : Int) : isV (callV (runX mx) (runC (runX mx) 500) 16 []) = true := by kernel_rfl
theorem alive_ok (mx : Int) : Sound Tryz.prog (GlT mx) 16 ⟨Unit, fun _ => [], fun _ => .v (.bool true), fun _ => True⟩ := run_sound (runX_ok mx) (isV_of (aliveRun mx))
#print axioms alive_ok
end Go.Proofs
