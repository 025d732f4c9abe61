import Derived.Test.YtnegdnbodccgkaaGreatDoorMiP
import Derived.Test.YtnegdnbodccgkaaGreatDoorEa
set_option linter.unusedVariables false
set_option linter.unusedSimpArgs false
namespace Go.Proofs
open Go Go.Sx
variable {mx : Int} {pb : Bool}

/-! the twin of mapping.Make -/
/-- The walk's step that leaves a drawn region to be told. -/
theorem gx {p q : Prop} (k : q) (h : q ∧ True → p := by intro hq; (first | refine wk1 ?_ | refine wk2 ?_ | refine wk3 ?_ | refine wt1 ?_ | refine wt2 ?_ | refine wt3 ?_ | refine wt4 ?_ | refine wca _ (EntL.refl _) ?_ | refine wcb _ (EntL.refl _) ?_ | refine bt1 ?_ | refine bt2 ?_ | refine bt3 ?_ | refine bt4 ?_ | refine wn1 ?_ | refine wn2 ?_ | refine wnb ?_ | refine wa ?_ | refine wn5 ?_); (repeat (first | refine wk1 ?_ | refine wk2 ?_ | refine wk3 ?_ | refine wt1 ?_ | refine wt2 ?_ | refine wt3 ?_ | refine wt4 ?_ | refine wca _ (EntL.refl _) ?_ | refine wcb _ (EntL.refl _) ?_ | refine bt1 ?_ | refine bt2 ?_ | refine bt3 ?_ | refine bt4 ?_ | refine wn1 ?_ | refine wn2 ?_ | refine wnb ?_ | refine wa ?_ | refine wn5 ?_)); exact hq.1) : p := h ⟨k, trivial⟩
/-! a schedule, step by step -/
theorem xp0 {Γ : Ctx} {T : TT} {Gl : Nat → Option D} {N : Nat} {all : List Oper} {tm : List (Nat × D)} {ow : List Own} {k : List (Nat × D) → Prop} (h : k tm) : exPs Γ T Gl N all [] tm ow k := h
theorem xp1 {Γ : Ctx} {T : TT} {Gl : Nat → Option D} {N : Nat} {all : List Oper} {i : Nat} {is : List Nat} {tm : List (Nat × D)} {ow : List Own} {k : List (Nat × D) → Prop} (h : WkP true Γ T Gl N all (all.drop i) 1 tm [] ow fun tm' _ => exPs Γ T Gl N all is tm' ow k) : exPs Γ T Gl N all (i :: is) tm ow k := by
  rw [WkP_eq] at h
  exact h
theorem xc0 {Γ : Ctx} {T : TT} {Gl : Nat → Option D} {N : Nat} {all : List Oper} {tm : List (Nat × D)} {ow : List Own} {k : Prop} (h : k) : exCk Γ T Gl N all [] tm ow k := h
theorem xc1 {Γ : Ctx} {T : TT} {Gl : Nat → Option D} {N : Nat} {all : List Oper} {i : Nat} {is : List Nat} {tm : List (Nat × D)} {ow : List Own} {k : Prop} (hk : exCk Γ T Gl N all is tm ow k) (h : WkP true Γ T Gl N all (all.drop i) 1 tm [] ow fun tm' _ => match dstOf all i with | some t => lk tm' t = lk tm t | none => False) : exCk Γ T Gl N all (i :: is) tm ow k := by
  rw [WkP_eq] at h
  exact ⟨h, hk⟩
theorem xs1 {Γ : Ctx} {Y : Ys} {T : TT} {Gl : Nat → Option D} {N : Nat} {all : List Oper} {new pend : List Nat} {alts : Sch} {tm : List (Nat × D)} {ow : List Own} {k : List (Nat × D) → List Own → Prop} (h : exPs Γ T Gl N all new tm ow fun tm => exCk Γ T Gl N all (pend ++ new) tm ow (exSch Γ Y T Gl N all alts [] tm ow k)) : exSch Γ Y T Gl N all (.stage new alts) pend tm ow k := h
theorem xs2 {Γ : Ctx} {Y : Ys} {T : TT} {Gl : Nat → Option D} {N : Nat} {all : List Oper} {last pend : List Nat} {tm : List (Nat × D)} {ow : List Own} {k : List (Nat × D) → List Own → Prop} (h : exPs Γ T Gl N all last tm ow fun tm => exCk Γ T Gl N all (pend ++ last) tm ow (k tm ow)) : exSch Γ Y T Gl N all (.done last) pend tm ow k := h
theorem xs3 {Γ : Ctx} {Y : Ys} {T : TT} {Gl : Nat → Option D} {N : Nat} {all : List Oper} {c : Nat} {late pend : List Nat} {sub : Sch} {tm : List (Nat × D)} {ow : List Own} {k : List (Nat × D) → List Own → Prop} (h : exAlt Γ Y T Gl N all c late tm ow fun tm' ow' => exSch Γ Y T Gl N all sub late tm' ow' k) : exSch Γ Y T Gl N all (.alt c late sub .nil) pend tm ow k := h
theorem xa1 {Γ : Ctx} {Y : Ys} {T : TT} {Gl : Nat → Option D} {N : Nat} {all : List Oper} {c : Nat} {late : List Nat} {tm : List (Nat × D)} {ow : List Own} {k : List (Nat × D) → List Own → Prop} (h : match all[c]? with
  | some ⟨dst, op, _, _, _, none⟩ => exOp true Γ Y T Gl N op dst (junkL all tm late) [] ow fun tm' ow' => k (restL all tm late tm') ow'
  | _ => False) : exAlt Γ Y T Gl N all c late tm ow k := h
attribute [local irreducible] exPs exCk exSch exAlt
noncomputable def cIns11 : Code := (Tryz.f60.body).getD .skip
theorem StLe.m3 {tm tm' : List (Nat × D)} {ow ow' : List Own} (h1 : renT [0, 1, 2, 3, 4] tm tm') (h2 : renO [0, 1, 2, 3, 4] ow [0, 1, 2, 3, 4] ow') : StLe 3 ⟨tm, ow, []⟩ ⟨tm', ow', []⟩ := StLe.renm [0, 1, 2, 3, 4] h1 h2 (by decide) (fun i hi => by match i, hi with | 0, _ => rfl | 1, _ => rfl | 2, _ => rfl) (by simp)
theorem insM_end (L : List Mp) (x : Mp) : insM L L.length x = L ++ [x] := by simp [insM]
def insOw (L : List Mp) (x : Mp) (j : Nat) : List Own := [.gone, .gone, .frozen 1 x.to.length (fun i j => intD (x.to.getD i default) j), .cells 86 [mpD x 0, .row 2, mpD x 2], rowL 86 3 mpD (insM L j x)]
def Γin11 : Ctx := fun f => match f with
  | 130 => some (.pure ctBefore)
  | _ => none
theorem Γin11_ok : CtxOk Tryz.prog (GlT mx pb) Γin11 := by
  intro f h hh
  simp only [Γin11] at hh
  split at hh <;> simp at hh <;> subst hh
  · exact rbefore_ok
noncomputable def Γmk11 (mx : Int) (pb : Bool) : Ctx := fun f => match f with
  | 66 => some (.pure ctUnsorted)
  | 60 => some (.gen (inlW true Γin11 Tryz.T (GlT mx pb) Tryz.f60 cIns11))
  | _ => none
theorem Γmk11_ok : CtxOk Tryz.prog (GlT mx pb) (Γmk11 mx pb) := by
  intro f h hh
  simp only [Γmk11] at hh
  split at hh <;> simp at hh <;> subst hh
  · exact runsorted_ok
  · exact soundT_inlW Γin11_ok Tryz.T_ok Tryz.mixed Tryz.func60 rfl (by kernel_rfl)
set_option maxHeartbeats 8000000 in
theorem rMakeM_ok : Sound Tryz.prog (GlT mx pb) 25 ctMakeM := by
  refine sound_by (cc := true) Γmk11_ok Tryz.T_ok Tryz.mixed Tryz.func25 rfl (by kernel_rfl) (fun _ => rfl) (fun _ _ => by show 1 ≤ 39; decide) ?_
  intro (l : List Mp) (hs : smallB l = true)
  obtain ⟨hl20, hto⟩ := small_facts hs
  have p1 : ctUnsorted.pre l := small_fit hs
  have hcs := check_sort l
  by_cases hu : unsortedE l = 0
  · repeat' (first | refine gx ?_ | (refine br (fun q_ => ?_) (fun q_ => ?_) <;> try simp only [Int.toNat_natCast, Nat.mul_one, Nat.add_zero] at q_) | (refine brF (fun q_ => ?_) (fun q_ => ?_) <;> try simp only [Int.toNat_natCast, Nat.mul_one, Nat.add_zero] at q_))
    refine ⟨0, Nat × List Mp, fun | (k, out) => ⟨[(0, mpsD l), (5, .row 0), (6, .v (.int .i64 k))], [rowL 86 3 mpD out], []⟩, fun | (k, out) => k ≤ l.length ∧ out.Perm (l.take k) ∧ upM out, fun x => l.length - x.1, fun _ => Nat.zero_le _, ⟨(0, []), ⟨Nat.zero_le _, List.Perm.refl _, List.Pairwise.nil⟩, StLe.trans (StLe.nilRow (t := 5) 86 3 (fun _ _ => .junk) rfl) (StLe.ren [0] tmS ⟨own_nil, trivial⟩ (by decide))⟩, ?_⟩
    rintro ⟨k, out⟩ ⟨(hk : k ≤ l.length), (hp : out.Perm (l.take k)), (hup : upM out)⟩
    have hol : out.length = k := by rw [hp.length_eq, List.length_take]; omega
    by_cases hlt : k < l.length
    · have hto := hto k hlt
      have hperm : ∀ j, (insM out j (l.getD k default)).Perm (l.take (k + 1)) := fun j => by
        refine (insM_perm out j _).trans ((hp.cons _).trans ?_)
        rw [List.take_succ_eq_append_getElem hlt, List.getD_eq_getElem?_getD, List.getElem?_eq_getElem hlt]
        exact List.perm_append_comm (l₁ := [l[k]])
      have hix : True → (0 ≤ (k : Int) ∧ (k : Int) < l.length) := fun _ => ⟨by omega, by omega⟩
      repeat' (first | refine gx ?_ | (refine br (fun q_ => ?_) (fun q_ => ?_) <;> try simp only [Int.toNat_natCast, Nat.mul_one, Nat.add_zero] at q_) | (refine brF (fun q_ => ?_) (fun q_ => ?_) <;> try simp only [Int.toNat_natCast, Nat.mul_one, Nat.add_zero] at q_))
      refine .inr ⟨.stage [0, 1, 2, 3, 4, 5, 7, 8, 9, 10, 11, 13, 14, 15, 16, 17] (.alt 6 [0, 1, 2, 3, 4, 5, 7, 8, 9, 10, 11, 13, 14, 15, 16, 17] (.stage [] (.alt 12 [0, 1, 2, 3, 4, 5, 13, 14, 15, 16, 17] (.stage [18] (.alt 19 [] (.done [20]) .nil)) .nil)) .nil), by decide +kernel, ?_⟩
      refine xs1 ?_
      repeat' (first | refine gx ?_ | refine xp1 ?_ | refine xp0 ?_ | refine xc1 ?_ ?_ | refine xc0 ?_ | refine xs1 ?_ | refine xs2 ?_ | refine xs3 ?_ | refine xa1 ?_ | exact rfl)
      refine ⟨0, Nat, fun j => ⟨[(0, .row 4), (3, .own 3 0), (5, .v (.int .i64 j))], insOw out (l.getD k default) j, []⟩, fun j => j ≤ out.length ∧ ∀ q, j ≤ q → q < out.length → lessB (l.getD k default) (out.getD q default) = true, fun j => j, fun _ => (by show 3 ≤ 5; decide), ⟨out.length, ⟨Nat.le_refl _, fun q h1 h2 => by omega⟩, ?_⟩, ?_⟩
      · refine StLe.m3 (by repeat' (first | exact trivial | exact Ent.refl _ | exact rfl | exact Ent.int (show ((out.length + 1 : Nat) : Int) - 1 = out.length by omega) | refine And.intro ?_ ?_)) ⟨trivial, trivial, Ent.sl (Nat.zero_add _) fun i hi j hj => Ent.of_eq ?_, ⟨rfl, EntL.refl _, rfl⟩, ?_, trivial⟩
        · simp only [catF, Src.fn]
          rw [if_neg (by omega)]
          rfl
        · rw [insM_end]
          refine own_app fun j hj => ?_
          match j, hj with
          | 0, _ => exact Ent.refl _
          | 1, _ =>
            refine Ent.sl (Nat.zero_add _) fun i hi j hj => Ent.of_eq ?_
            simp only [catF, Src.fn]
            rw [if_neg (by omega)]
            rfl
          | 2, _ => exact Ent.refl _
      · rintro j ⟨hj, hd⟩
        unfold insOw
        have hil := insM_len (x := l.getD k default) hj
        by_cases h0 : 0 < j
        · have eg : (insM out j (l.getD k default)).getD (j - 1) default = out.getD (j - 1) default := by rw [insM_at hj, if_pos (by omega)]
          have ej : (insM out j (l.getD k default)).getD j default = l.getD k default := by rw [insM_at hj, if_neg (by omega), if_pos rfl]
          have e1 : ((j : Int) - 1).toNat = j - 1 := by omega
          repeat' (first | refine gx ?_ | (refine br (fun q_ => ?_) (fun q_ => ?_) <;> try simp only [Int.toNat_natCast, Nat.mul_one, Nat.add_zero] at q_) | (refine brF (fun q_ => ?_) (fun q_ => ?_) <;> try simp only [Int.toNat_natCast, Nat.mul_one, Nat.add_zero] at q_))
          refine .inl (And.intro (by decide +kernel) ?_)
          repeat' (first | refine gx ?_ | (refine br (fun q_ => ?_) (fun q_ => ?_) <;> try simp only [Int.toNat_natCast, Nat.mul_one, Nat.add_zero] at q_) | (refine brF (fun q_ => ?_) (fun q_ => ?_) <;> try simp only [Int.toNat_natCast, Nat.mul_one, Nat.add_zero] at q_))
          refine ⟨(l.getD k default, (insM out j (l.getD k default)).getD ((j : Int) - 1).toNat default), EntL.refl _, fun _ => trivial, ?_⟩
          by_cases hb : lessB (l.getD k default) (out.getD (j - 1) default) = true
          · rw [show ctBefore.out (l.getD k default, (insM out j (l.getD k default)).getD ((j : Int) - 1).toNat default) = .v (.bool true) from by show D.v (.bool (lessB _ _)) = _; rw [e1, eg, hb]]
            have es : swp (insM out j (l.getD k default)) (j - 1) = insM out (j - 1) (l.getD k default) := by
              unfold swp
              rw [show j - 1 + 1 = j by omega, ej]
              exact ins_shift h0 hj
            repeat' (first | refine gx ?_ | refine xp1 ?_ | refine xp0 ?_ | refine xc1 ?_ ?_ | refine xc0 ?_ | refine xs1 ?_ | refine xs2 ?_ | refine xs3 ?_ | refine xa1 ?_ | exact rfl)
            refine ⟨j - 1, ⟨by omega, fun q h1 h2 => ?_⟩, (by show j - 1 < j; omega), StLe.m3 tmS ⟨trivial, trivial, Ent.refl _, ⟨rfl, EntL.refl _, rfl⟩, ?_, trivial⟩⟩
            · rcases Nat.lt_or_ge q j with h3 | h3
              · rw [show q = j - 1 by omega]; exact hb
              · exact hd q h3 h2
            · rw [e1, ← es]
              exact own_swap (a := j) (by omega) (by omega) (fun q hq => by match q, hq with | 0, _ => rfl | 1, _ => rfl | 2, _ => rfl) (fun q hq => by rw [ej]; match q, hq with | 0, _ => rfl | 1, _ => rfl | 2, _ => rfl)
          · have hb : lessB (l.getD k default) (out.getD (j - 1) default) = false := by simpa using hb
            rw [show ctBefore.out (l.getD k default, (insM out j (l.getD k default)).getD ((j : Int) - 1).toNat default) = .v (.bool false) from by show D.v (.bool (lessB _ _)) = _; rw [e1, eg, hb]]
            repeat' (first | refine gx ?_ | refine xp1 ?_ | refine xp0 ?_ | refine xc1 ?_ ?_ | refine xc0 ?_ | refine xs1 ?_ | refine xs2 ?_ | refine xs3 ?_ | refine xa1 ?_ | exact rfl)
            all_goals try exact ⟨(k + 1, insM out j (l.getD k default)), ⟨hlt, hperm j, insM_up hup hj hd (.inr hb)⟩, (by show _ - (k + 1) < _ - k; omega), StLe.ren [4] tmS ⟨own_refl, trivial⟩ (by decide)⟩
            all_goals trace_state
        · have hj0 : j = 0 := by omega
          repeat' (first | refine gx ?_ | (refine br (fun q_ => ?_) (fun q_ => ?_) <;> try simp only [Int.toNat_natCast, Nat.mul_one, Nat.add_zero] at q_) | (refine brF (fun q_ => ?_) (fun q_ => ?_) <;> try simp only [Int.toNat_natCast, Nat.mul_one, Nat.add_zero] at q_))
          refine .inl (And.intro (by decide +kernel) ?_)
          repeat' (first | refine gx ?_ | (refine br (fun q_ => ?_) (fun q_ => ?_) <;> try simp only [Int.toNat_natCast, Nat.mul_one, Nat.add_zero] at q_) | (refine brF (fun q_ => ?_) (fun q_ => ?_) <;> try simp only [Int.toNat_natCast, Nat.mul_one, Nat.add_zero] at q_))
          repeat' (first | refine gx ?_ | refine xp1 ?_ | refine xp0 ?_ | refine xc1 ?_ ?_ | refine xc0 ?_ | refine xs1 ?_ | refine xs2 ?_ | refine xs3 ?_ | refine xa1 ?_ | exact rfl)
          all_goals try exact ⟨(k + 1, insM out j (l.getD k default)), ⟨hlt, hperm j, insM_up hup hj hd (.inl hj0)⟩, (by show _ - (k + 1) < _ - k; omega), StLe.ren [4] tmS ⟨own_refl, trivial⟩ (by decide)⟩
          all_goals trace_state
    · have e := sort_one hu (by rw [List.take_of_length_le (by omega)] at hp; exact hp) hup
      repeat' (first | refine gx ?_ | (refine br (fun q_ => ?_) (fun q_ => ?_) <;> try simp only [Int.toNat_natCast, Nat.mul_one, Nat.add_zero] at q_) | (refine brF (fun q_ => ?_) (fun q_ => ?_) <;> try simp only [Int.toNat_natCast, Nat.mul_one, Nat.add_zero] at q_))
      refine EntR.of (makeD_pd l) ?_
      show Ent _ (makeD l)
      rw [makeD, if_pos (hcs.trans hu), ← e]
      exact Ent.refl _
  · repeat' (first | refine gx ?_ | (refine br (fun q_ => ?_) (fun q_ => ?_) <;> try simp only [Int.toNat_natCast, Nat.mul_one, Nat.add_zero] at q_) | (refine brF (fun q_ => ?_) (fun q_ => ?_) <;> try simp only [Int.toNat_natCast, Nat.mul_one, Nat.add_zero] at q_))
    refine EntR.of (makeD_pd l) ?_
    show Ent _ (makeD l)
    rw [makeD, if_neg (by rw [hcs]; exact hu), hcs]
    exact Ent.refl _
#print axioms rMakeM_ok
end Go.Proofs
