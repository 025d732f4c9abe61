import Derived.Test.YtnegdnbodccgkaaGreatDoorFc0
set_option linter.unusedVariables false
set_option linter.unusedSimpArgs false
namespace Go.Proofs
open Go Go.Sx
variable {mx : Int} {pb : Bool}

/-! Compare of both: plain -/
noncomputable def chK (a b : Db) (k : Nat) : List Ch := chB (nmK k) (ptV (partOf a k)) (ptV (partOf b k)) 1114112
noncomputable def chsTo (a b : Db) : Nat → List Ch
  | 0 => []
  | k + 1 => chsTo a b k ++ chK a b k
noncomputable def cmpE (a b : Db) : Int := if dbE a = 0 then dbE b else dbE a
noncomputable def cmpL (a b : Db) : List Ch := if cmpE a b = 0 then chsTo a b 20 else []
noncomputable def ctVCmp : Ct := { ι := Db × Db, inp := fun x => [dbA x.1, dbA x.2], out := fun x => .tu [chsD (cmpL x.1 x.2), .v (.int .i64 (cmpE x.1 x.2))], pre := fun x => SmD x.1 ∧ SmD x.2 }
theorem cmpL_ok {a b : Db} (h : cmpE a b = 0) : cmpL a b = chsTo a b 20 := by unfold cmpL; rw [if_pos h]
theorem cmpL_no {a b : Db} (h : ¬ cmpE a b = 0) : cmpL a b = [] := by unfold cmpL; rw [if_neg h]
theorem chK_len (a b : Db) (k : Nat) : (chK a b k).length ≤ 1114112 := chB_len _ _ _ (Int.le_refl _)
theorem chsTo_len (a b : Db) : ∀ k, (chsTo a b k).length ≤ k * 1114112
  | 0 => Nat.le_refl _
  | k + 1 => by
    have h1 := chsTo_len a b k
    have h2 := chK_len a b k
    rw [chsTo, List.length_append]
    omega
theorem own_appL {α : Type} [Inhabited α] {ρ : List Nat} {e sz : Nat} {enc : α → Nat → D} {l m : List α} : OwnRen ρ (.row e sz (l.length + m.length) (catF l.length (fun i j => enc (l.getD i default) j) fun i j => enc (m.getD i default) j)) (rowL e sz enc (l ++ m)) := by
  refine ⟨rfl, rfl, by simp, fun a ha j hj => Ent.of_eq ?_⟩
  show catF _ _ _ a j = enc ((l ++ m).getD a default) j
  unfold catF
  by_cases h : a < l.length
  · rw [if_pos h]
    simp only [List.getD_eq_getElem?_getD]
    rw [List.getElem?_append_left h]
  · rw [if_neg h]
    simp only [List.getD_eq_getElem?_getD]
    rw [List.getElem?_append_right (by omega)]
end Go.Proofs

namespace Go.Proofs
open Go Go.Sx
variable {mx : Int} {pb : Bool}

/-! the program's files give what the reference's parts give: plain -/
def flP (w : ByteArray) : Pt → Fl
  | .pr p => prF w p
  | .cl l => clF w l
  | .st l => stF w l
  | .mp l => mpF w l
def flV (f : Fl) : Int → ByteArray := pcV f.other f.pcs
theorem pair_of {α : Type} [Inhabited α] {R : α → α → Prop} {l : List α} (h : ∀ i j, i < j → j < l.length → R (l.getD i default) (l.getD j default)) : l.Pairwise R := by
  rw [List.pairwise_iff_getElem]
  intro i j hi hj hij
  have := h i j hij hj
  simpa [List.getD_eq_getElem?_getD, hi, hj] using this
theorem asc_cls {l : List Sp} (h : clsOk l) : ∀ d x, x + d + 1 < l.length → (l.getD x default).hi < (l.getD (x + d + 1) default).lo
  | 0, x, hx => by
    have h1 := (h (x + 1) hx).2 (by omega)
    unfold spAft at h1
    simp only [Nat.add_sub_cancel] at h1
    simp only [Nat.add_zero]
    omega
  | d + 1, x, hx => by
    have ih := asc_cls h d x (by omega)
    have h1 := (h (x + (d + 1) + 1) hx).2 (by omega)
    have h2 := (h (x + d + 1) (by omega)).1
    unfold spAft at h1
    unfold clsIn at h2
    simp only [Nat.add_sub_cancel] at h1
    rw [show x + d + 1 = x + (d + 1) from by omega] at ih h2
    omega
theorem fl_pr {w : ByteArray} {p : Pr} (hv : validP p = true) : AscP 0 (prF w p).pcs ∧ ∀ c, flV (prF w p) c = nameV p c := by
  have hp : prOk p := @of_decide_eq_true _ (Classical.propDecidable _) hv
  refine ⟨ascP_of (by decide) (fun q hq => ?_) ?_, fun c => ?_⟩
  · obtain ⟨s, hs, rfl⟩ := List.mem_map.1 hq
    obtain ⟨i, hi, rfl⟩ := List.getElem_of_mem hs
    have h1 := (hp.2 i hi).1
    have e : p.spans.getD i default = p.spans[i] := by simp [List.getD_eq_getElem?_getD, hi]
    rw [e] at h1
    unfold spIn at h1
    exact ⟨h1.1, h1.2.1, h1.2.2.1⟩
  · refine List.Pairwise.map _ (fun a b h => h) (R := fun (a b : Sp) => a.hi < b.lo) ?_
    exact pair_of fun i j hij hj => (asc_lt hp.2 hij hj).1
  · unfold flV pcV nameV getV valL
    show (match (p.spans.map (spPc p.names)).find? _ with | some q => q.s | none => p.names.getD 0 default) = _
    rw [find_map (spPc p.names) c (fun s => decide (s.lo ≤ c ∧ c ≤ s.hi)) p.spans (fun a _ => rfl), cntP_t hv]
    cases p.spans.find? (fun s => decide (s.lo ≤ c ∧ c ≤ s.hi)) <;> rfl
theorem fl_cl {w : ByteArray} {l : List Sp} (h : clsOk l) : AscP 0 (clF w l).pcs ∧ ∀ c, flV (clF w l) c = decB (valL l c) := by
  refine ⟨ascP_of (by decide) (fun q hq => ?_) ?_, fun c => ?_⟩
  · obtain ⟨s, hs, rfl⟩ := List.mem_map.1 hq
    obtain ⟨i, hi, rfl⟩ := List.getElem_of_mem hs
    have h1 := (h i hi).1
    have e : l.getD i default = l[i] := by simp [List.getD_eq_getElem?_getD, hi]
    rw [e] at h1
    unfold clsIn at h1
    exact ⟨h1.1, h1.2.1, h1.2.2.1⟩
  · refine List.Pairwise.map _ (fun a b h => h) (R := fun (a b : Sp) => a.hi < b.lo) ?_
    refine pair_of fun i j hij hj => ?_
    have := asc_cls h (j - i - 1) i (by omega)
    rwa [show i + (j - i - 1) + 1 = j from by omega] at this
  · unfold flV pcV valL
    show (match (l.map clPc).find? _ with | some q => q.s | none => zrS) = _
    rw [find_map clPc c (fun s => decide (s.lo ≤ c ∧ c ≤ s.hi)) l (fun a _ => rfl)]
    cases l.find? (fun s => decide (s.lo ≤ c ∧ c ≤ s.hi)) <;> rfl
theorem fl_st {w : ByteArray} {l : List Rg} (h : canon l = l) : AscP 0 (stF w l).pcs ∧ ∀ c, 0 ≤ c → c ≤ 1114111 → flV (stF w l) c = yesB (hasB l c) := by
  have hc : Canon l := h ▸ canon_canon l
  refine ⟨ascP_of (by decide) (fun q hq => ?_) ?_, fun c h0 h1 => ?_⟩
  · obtain ⟨r, hr, rfl⟩ := List.mem_map.1 hq
    exact hc.ok r hr
  · refine List.Pairwise.map _ (fun a b h => h) (R := fun (a b : Rg) => a.2 < b.1) ?_
    exact hc.sep.imp fun h => by omega
  · unfold flV pcV
    show (match (l.map stPc).find? _ with | some q => q.s | none => noS) = _
    rw [find_map stPc c (fun r => decide (r.1 ≤ c) && decide (c ≤ r.2)) l (fun a _ => by
      show decide (a.1 ≤ c ∧ c ≤ a.2) = _
      by_cases h2 : a.1 ≤ c <;> by_cases h3 : c ≤ a.2 <;> simp [h2, h3])]
    unfold hasB
    rw [decide_eq_true (show 0 ≤ c ∧ c ≤ 1114111 from ⟨h0, h1⟩), Bool.true_and]
    cases hf : l.find? (fun r => decide (r.1 ≤ c) && decide (c ≤ r.2)) with
    | none =>
      have : (l.any fun r => decide (r.1 ≤ c) && decide (c ≤ r.2)) = false := by
        rw [List.any_eq_false]
        intro r hr
        have := List.find?_eq_none.1 hf r hr
        simpa using this
      rw [this]; rfl
    | some r =>
      have : (l.any fun r => decide (r.1 ≤ c) && decide (c ≤ r.2)) = true := by
        rw [List.any_eq_true]
        exact ⟨r, List.mem_of_find?_eq_some hf, List.find?_some (p := fun (r : Rg) => decide (r.1 ≤ c) && decide (c ≤ r.2)) hf⟩
      rw [this]; rfl
theorem ascK_frm {l : List Mp} : ∀ {n : Nat}, ascK l n = true → ∀ k, k + 1 < n → (l.getD k default).frm ≤ (l.getD (k + 1) default).frm := by
  intro n h k hk
  have h1 := ascK_mono h (show k + 2 ≤ n by omega)
  simp only [ascK, Bool.and_eq_true] at h1
  have h2 := h1.2
  unfold lessB at h2
  by_cases a : (l.getD k default).frm < (l.getD (k + 1) default).frm
  · omega
  · simp only [a, decide_false, cond_false] at h2
    cases e : ((l.getD k default).frm == (l.getD (k + 1) default).frm) with
    | true => have := eq_of_beq e; omega
    | false => rw [e] at h2; simp at h2
theorem fl_mp {w : ByteArray} {l : List Mp} (h : checkE l = 0) : AscP 0 (mpF w l).pcs ∧ ∀ c, flV (mpF w l) c = tgtV l c := by
  obtain ⟨h1, h2⟩ := valid_asc h
  have hi := mp_inv h2 (ascK_frm h1) l.length (Nat.le_refl _)
  refine ⟨ascP_of (by decide) (fun q hq => ?_) ?_, fun c => (hi.val c).1⟩
  · have := hi.one q hq
    omega
  · refine (List.pairwise_iff_forall_sublist.2 fun {a b} hs => ?_)
    have hab := List.pairwise_iff_forall_sublist.1 hi.asc hs
    have := hi.one a (hs.subset (by simp))
    omega
def ptOk : Pt → Prop
  | .pr p => validP p = true
  | .cl l => clsOk l
  | .st l => canon l = l
  | .mp l => checkE l = 0
theorem fl_pt {w : ByteArray} : ∀ {P : Pt}, ptOk P → AscP 0 (flP w P).pcs ∧ ∀ c, 0 ≤ c → c ≤ 1114111 → flV (flP w P) c = ptV P c
  | .pr _, h => ⟨(fl_pr h).1, fun c _ _ => (fl_pr h).2 c⟩
  | .cl _, h => ⟨(fl_cl h).1, fun c _ _ => (fl_cl h).2 c⟩
  | .st _, h => fl_st h
  | .mp _, h => ⟨(fl_mp h).1, fun c _ _ => (fl_mp h).2 c⟩
end Go.Proofs
