import Derived.Test.YtfalaomjfkaphaaGreatDoorPPz
import Derived.Test.YtfalaomjfkaphaaGreatDoorMiP
import Derived.Test.YtfalaomjfkaphaaGreatDoorEa
set_option linter.unusedVariables false
set_option linter.unusedSimpArgs false
namespace Go.Proofs
open Go Go.Sx
variable {mx : Int} {pb : Bool}

/-! lines.Parse of strings of whatever size; how long the fields of lines are -/
theorem sound_or {P : Program} {Gl : Nat → Option D} {f : FuncId} {ct : Ct} {p q : ct.ι → Prop} (h1 : Sound P Gl f { ct with pre := p }) (h2 : Sound P Gl f { ct with pre := q }) (h : ∀ x, p x ∨ q x) : Sound P Gl f { ct with pre := fun _ => True } :=
  ⟨h1.1, h1.2.1, fun x _ => (h x).elim (h1.2.2 x) (h2.2.2 x)⟩
noncomputable def ctLpT : Ct := { ctLp with pre := fun _ => True }
noncomputable def ctLpG : Ct := { ctLp with pre := fun s : ByteArray => s.size > 65536 }
theorem pLinesG : Sound Tryz.prog (GlT mx pb) 33 ctLpG := by
  refine sound_by (cc := true) Γ0_ok Tryz.T_ok Tryz.mixed Tryz.func33 rfl (by kernel_rfl) (fun _ => rfl) (fun _ _ => by show 1 ≤ 58; decide) ?_
  intro (s : ByteArray) (hbig : s.size > 65536)
  repeat' (first | refine gw ?_ | (refine br (fun q_ => ?_) (fun q_ => ?_) <;> try simp only [Int.toNat_natCast, Nat.mul_one, Nat.add_zero] at q_) | (refine brF (fun q_ => ?_) (fun q_ => ?_) <;> try simp only [Int.toNat_natCast, Nat.mul_one, Nat.add_zero] at q_))
  refine EntR.of rfl ?_
  show Ent _ (D.tu [lnsD (linesP s).1, faultA (linesP s).2.1 (linesP s).2.2])
  rw [linesP, if_pos hbig]
  exact Ent.tu2 Ent.nil (Ent.refl _)
theorem rLinesG : Sound Tryz.prog (GlT mx pb) 13 ctLpG := by
  refine sound_by (cc := true) Γ0_ok Tryz.T_ok Tryz.mixed Tryz.func13 rfl (by kernel_rfl) (fun _ => rfl) (fun _ _ => by show 1 ≤ 82; decide) ?_
  intro (s : ByteArray) (hbig : s.size > 65536)
  repeat' (first | refine gw ?_ | (refine br (fun q_ => ?_) (fun q_ => ?_) <;> try simp only [Int.toNat_natCast, Nat.mul_one, Nat.add_zero] at q_) | (refine brF (fun q_ => ?_) (fun q_ => ?_) <;> try simp only [Int.toNat_natCast, Nat.mul_one, Nat.add_zero] at q_))
  refine EntR.of rfl ?_
  show Ent _ (D.tu [lnsD (linesP s).1, faultA (linesP s).2.1 (linesP s).2.2])
  rw [linesP, if_pos hbig]
  exact Ent.tu2 Ent.nil (Ent.refl _)
theorem big_or (s : ByteArray) : s.size ≤ 1000000000 ∨ s.size > 65536 := by omega
theorem pLinesT_ok : Sound Tryz.prog (GlT mx pb) 33 ctLpT := sound_or (ct := ctLp) pLines_ok pLinesG big_or
theorem rLinesT_ok : Sound Tryz.prog (GlT mx pb) 13 ctLpT := sound_or (ct := ctLp) rLines_ok rLinesG big_or

theorem linesP_few (s : ByteArray) : (linesP s).1.length ≤ 65537 := by
  have h := (linesP_ok s).2.1
  unfold linesP at *
  split
  · simp
  · rename_i hb
    rw [if_neg hb] at h
    omega
theorem cutP_mem {x f : ByteArray} (h : f ∈ cutP x) : f.size ≤ x.size := by
  unfold cutP at h
  obtain ⟨y, hy, rfl⟩ := List.mem_map.1 h
  obtain ⟨i, hi, rfl⟩ := List.getElem_of_mem hy
  have h1 := trimB_len ((splB 59 x)[i])
  have h2 := (splB_len (c := 59) (s := x)).2.2 i
  have e : (splB 59 x).getD i default = (splB 59 x)[i] := by simp [List.getD_eq_getElem?_getD, hi]
  rw [e] at h2
  omega
theorem lnMk_fld {n : Int} {x f : ByteArray} (h : f ∈ (lnMk n x).fields) : f.size ≤ x.size := by
  have h : f ∈ (lnParts x).drop 1 := h
  have h1 := cutP_mem (List.mem_of_mem_drop h)
  have h2 := comA_len x
  omega
theorem goP_fld (B : Nat) : ∀ (xs : List ByteArray) (n : Int) (acc : List Ln), (∀ x ∈ xs, x.size ≤ B) → (∀ y ∈ acc, ∀ f ∈ y.fields, f.size ≤ B) → ∀ y ∈ (goP xs n acc).1, ∀ f ∈ y.fields, f.size ≤ B
  | [], _, _, _, h => h
  | x :: xs, n, acc, hx, h => by
    rw [goP]
    have hx' : ∀ y ∈ xs, y.size ≤ B := fun y hy => hx y (List.mem_cons_of_mem _ hy)
    split
    · exact goP_fld B xs _ acc hx' h
    · split
      · refine goP_fld B xs _ _ hx' (fun y hy => ?_)
        rcases List.mem_append.1 hy with hy | hy
        · exact h y hy
        · rw [List.mem_singleton.1 hy]
          intro f hf
          exact Nat.le_trans (lnMk_fld hf) (hx x (List.mem_cons_self))
      · intro y hy; simp at hy
theorem linesP_fld (s : ByteArray) : ∀ y ∈ (linesP s).1, ∀ f ∈ y.fields, f.size ≤ 65536 := by
  unfold linesP
  split
  · intro y hy; simp at hy
  · rename_i hb
    refine goP_fld 65536 _ _ _ (fun x hx => ?_) (fun y hy => by simp at hy)
    obtain ⟨i, hi, rfl⟩ := List.getElem_of_mem hx
    have h2 := (splB_len (c := 10) (s := s)).2.2 i
    have e : (splB 10 s).getD i default = (splB 10 s)[i] := by simp [List.getD_eq_getElem?_getD, hi]
    rw [e] at h2
    omega
theorem fld_size {s : ByteArray} {x : Ln} (h : x ∈ (linesP s).1) : (fld x).size ≤ 65536 := by
  unfold fld
  by_cases h0 : 0 < x.fields.length
  · exact linesP_fld s x h _ (by
      have e : x.fields.getD 0 default = x.fields[0] := by simp [List.getD_eq_getElem?_getD, h0]
      rw [e]; exact List.getElem_mem _)
  · have e : x.fields.getD 0 default = default := by simp [List.getD_eq_getElem?_getD, List.getElem?_eq_none (Nat.le_of_not_lt h0)]
    rw [e]
    exact Nat.zero_le _
end Go.Proofs

namespace Go.Proofs
open Go Go.Sx
variable {mx : Int} {pb : Bool}

/-- The walk's step that leaves a drawn region to be told. -/
theorem gx {p q : Prop} (k : q) (h : q ∧ True → p := by intro hq; (first | refine wk1 ?_ | refine wk2 ?_ | refine wk3 ?_ | refine wt1 ?_ | refine wt2 ?_ | refine wt3 ?_ | refine wt4 ?_ | refine wca _ (EntL.refl _) ?_ | refine wcb _ (EntL.refl _) ?_ | refine bt1 ?_ | refine bt2 ?_ | refine bt3 ?_ | refine bt4 ?_ | refine wn1 ?_ | refine wn2 ?_ | refine wnb ?_ | refine wa ?_ | refine wn5 ?_); (repeat (first | refine wk1 ?_ | refine wk2 ?_ | refine wk3 ?_ | refine wt1 ?_ | refine wt2 ?_ | refine wt3 ?_ | refine wt4 ?_ | refine wca _ (EntL.refl _) ?_ | refine wcb _ (EntL.refl _) ?_ | refine bt1 ?_ | refine bt2 ?_ | refine bt3 ?_ | refine bt4 ?_ | refine wn1 ?_ | refine wn2 ?_ | refine wnb ?_ | refine wa ?_ | refine wn5 ?_)); exact hq.1) : p := h ⟨k, trivial⟩
/-! a schedule, step by step -/
theorem xp0 {Γ : Ctx} {T : TT} {Gl : Nat → Option D} {N : Nat} {all : List Oper} {tm : List (Nat × D)} {ow : List Own} {k : List (Nat × D) → Prop} (h : k tm) : exPs Γ T Gl N all [] tm ow k := h
theorem xp1 {Γ : Ctx} {T : TT} {Gl : Nat → Option D} {N : Nat} {all : List Oper} {i : Nat} {is : List Nat} {tm : List (Nat × D)} {ow : List Own} {k : List (Nat × D) → Prop} (h : WkP true Γ T Gl N all (all.drop i) 1 tm [] ow fun tm' _ => exPs Γ T Gl N all is tm' ow k) : exPs Γ T Gl N all (i :: is) tm ow k := by
  rw [WkP_eq] at h
  exact h
theorem xc0 {Γ : Ctx} {T : TT} {Gl : Nat → Option D} {N : Nat} {all : List Oper} {tm : List (Nat × D)} {ow : List Own} {k : Prop} (h : k) : exCk Γ T Gl N all [] tm ow k := h
theorem xc1 {Γ : Ctx} {T : TT} {Gl : Nat → Option D} {N : Nat} {all : List Oper} {i : Nat} {is : List Nat} {tm : List (Nat × D)} {ow : List Own} {k : Prop} (hk : exCk Γ T Gl N all is tm ow k) (h : WkP true Γ T Gl N all (all.drop i) 1 tm [] ow fun tm' _ => match dstOf all i with | some t => lk tm' t = lk tm t | none => False) : exCk Γ T Gl N all (i :: is) tm ow k := by
  rw [WkP_eq] at h
  exact ⟨h, hk⟩
theorem xs1 {Γ : Ctx} {Y : Ys} {T : TT} {Gl : Nat → Option D} {N : Nat} {all : List Oper} {new pend : List Nat} {alts : Sch} {tm : List (Nat × D)} {ow : List Own} {k : List (Nat × D) → List Own → Prop} (h : exPs Γ T Gl N all new tm ow fun tm => exCk Γ T Gl N all (pend ++ new) tm ow (exSch Γ Y T Gl N all alts [] tm ow k)) : exSch Γ Y T Gl N all (.stage new alts) pend tm ow k := h
theorem xs2 {Γ : Ctx} {Y : Ys} {T : TT} {Gl : Nat → Option D} {N : Nat} {all : List Oper} {last pend : List Nat} {tm : List (Nat × D)} {ow : List Own} {k : List (Nat × D) → List Own → Prop} (h : exPs Γ T Gl N all last tm ow fun tm => exCk Γ T Gl N all (pend ++ last) tm ow (k tm ow)) : exSch Γ Y T Gl N all (.done last) pend tm ow k := h
theorem xs3 {Γ : Ctx} {Y : Ys} {T : TT} {Gl : Nat → Option D} {N : Nat} {all : List Oper} {c : Nat} {late pend : List Nat} {sub : Sch} {tm : List (Nat × D)} {ow : List Own} {k : List (Nat × D) → List Own → Prop} (h : exAlt Γ Y T Gl N all c late tm ow fun tm' ow' => exSch Γ Y T Gl N all sub late tm' ow' k) : exSch Γ Y T Gl N all (.alt c late sub .nil) pend tm ow k := h
theorem xa1 {Γ : Ctx} {Y : Ys} {T : TT} {Gl : Nat → Option D} {N : Nat} {all : List Oper} {c : Nat} {late : List Nat} {tm : List (Nat × D)} {ow : List Own} {k : List (Nat × D) → List Own → Prop} (h : match all[c]? with
  | some ⟨dst, op, _, _, _, none⟩ => exOp true Γ Y T Gl N op dst (junkL all tm late) [] ow fun tm' ow' => k (restL all tm late tm') ow'
  | _ => False) : exAlt Γ Y T Gl N all c late tm ow k := h
attribute [local irreducible] exPs exCk exSch exAlt
noncomputable def cIns11 : Code := (Tryz.f23.body).getD .skip
theorem StLe.m3 {tm tm' : List (Nat × D)} {ow ow' : List Own} (h1 : renT [0, 1, 2, 3, 4] tm tm') (h2 : renO [0, 1, 2, 3, 4] ow [0, 1, 2, 3, 4] ow') : StLe 3 ⟨tm, ow, []⟩ ⟨tm', ow', []⟩ := StLe.renm [0, 1, 2, 3, 4] h1 h2 (by decide) (fun i hi => by match i, hi with | 0, _ => rfl | 1, _ => rfl | 2, _ => rfl) (by simp)
theorem insM_end (L : List Mp) (x : Mp) : insM L L.length x = L ++ [x] := by simp [insM]
end Go.Proofs
