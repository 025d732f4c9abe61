import Derived.Test.YtfalaomjfkaphaaGreatDoorSmz
set_option linter.unusedVariables false
set_option linter.unusedSimpArgs false
namespace Go.Proofs
open Go Go.Sx
variable {mx : Int} {pb : Bool}

/-! the order of mappings -/
theorem less_total : ∀ {x y : List UInt8}, Op.bytesLess x y = false → Op.bytesLess y x = false → x = y
  | [], [], _, _ => rfl
  | [], b :: y, h, _ => by simp [Op.bytesLess] at h
  | a :: x, [], _, h => by simp [Op.bytesLess] at h
  | a :: x, b :: y, h, h' => by
    simp only [Op.bytesLess, Bool.or_eq_false_iff, decide_eq_false_iff_not, Bool.and_eq_false_iff] at h h'
    have e : a = b := UInt8.le_antisymm (UInt8.not_lt.1 h'.1) (UInt8.not_lt.1 h.1)
    subst e
    have h1 : Op.bytesLess x y = false := by rcases h.2 with h2 | h2 <;> simp_all
    have h2 : Op.bytesLess y x = false := by rcases h'.2 with h3 | h3 <;> simp_all
    rw [less_total h1 h2]
theorem lessS_total {a b : ByteArray} (h : lessS a b = false) (h' : lessS b a = false) : a = b := by
  have := less_total h h'
  cases a; cases b
  simp at this ⊢
  exact this
theorem lessB_no {a b : Mp} : lessB a b = false ↔ b.frm < a.frm ∨ (a.frm = b.frm ∧ lessS a.tag b.tag = false) := by
  rw [← Bool.not_eq_true, lessB_iff]
  constructor
  · intro h
    by_cases h1 : b.frm < a.frm
    · exact .inl h1
    · have h2 : ¬ a.frm < b.frm := fun hh => h (.inl hh)
      have e : a.frm = b.frm := by omega
      refine .inr ⟨e, ?_⟩
      cases hl : lessS a.tag b.tag with
      | false => rfl
      | true => exact absurd (.inr ⟨e, hl⟩) h
  · rintro (h | ⟨e, h⟩) (h1 | ⟨e1, h1⟩)
    · omega
    · omega
    · omega
    · rw [h] at h1; cases h1
theorem lessS_asym {a b : ByteArray} (h : lessS a b = true) : lessS b a = false := by
  cases hl : lessS b a with
  | false => rfl
  | true =>
    have := less_trans h hl
    rw [less_irrefl] at this; cases this
theorem ltM_asym : ∀ x y, ltM x y = true → ltM y x = false := by
  intro x y h
  rw [ltM_less] at *
  rw [lessB_iff] at h
  rw [lessB_no]
  rcases h with h | ⟨e, h⟩
  · exact .inl h
  · exact .inr ⟨e.symm, lessS_asym h⟩
theorem lessS_tr {a b c : ByteArray} (h : lessS b a = false) (h' : lessS c b = false) : lessS c a = false := by
  cases hl : lessS c a with
  | false => rfl
  | true =>
    cases h1 : lessS a b with
    | true =>
      have := less_trans (show Op.bytesLess c.data.toList a.data.toList = true from hl) (show Op.bytesLess a.data.toList b.data.toList = true from h1)
      have h' : Op.bytesLess c.data.toList b.data.toList = false := h'
      rw [this] at h'; cases h'
    | false =>
      have e := lessS_total h h1
      subst e
      rw [h'] at hl; cases hl
theorem ltM_tr : ∀ x y z, ltM y x = false → ltM z y = false → ltM z x = false := by
  intro x y z h h'
  rw [ltM_less] at *
  rw [lessB_no] at *
  rcases h with h | ⟨e, h⟩ <;> rcases h' with h' | ⟨e', h'⟩
  · exact .inl (by omega)
  · exact .inl (by omega)
  · exact .inl (by omega)
  · exact .inr ⟨by omega, lessS_tr h h'⟩
theorem sortM_asc {l : List Mp} : AscTo ltM (sortM l) (sortM l).length := by
  rw [sortM_len]
  unfold sortM
  rcases Nat.eq_zero_or_pos l.length with h | h
  · intro p q h1 h2; omega
  · have := outerS_asc ltM_asym ltM_tr (L := l) (k := l.length - 1) (by omega)
    rw [show l.length - 1 + 1 = l.length by omega] at this
    exact this
theorem sortM_id {l : List Mp} (h : ascK l l.length = true) : sortM l = l := by
  unfold sortM
  have hs : AscTo ltM l l.length := fun p q h1 h2 => by
    have := asc_less h h1 h2
    rw [← ltM_less] at this
    exact ltM_asym _ _ this
  have : ∀ i, i < l.length → outerS ltM l i = l := by
    intro i
    induction i with
    | zero => intro _; rfl
    | succ i ih =>
      intro hi
      rw [outerS, ih (by omega)]
      exact innerS_id fun p q h1 h2 => hs p q h1 (by omega)
  rcases Nat.eq_zero_or_pos l.length with h0 | h0
  · rw [h0]; rfl
  · exact this _ (by omega)
theorem all_perm {α : Type} {p : α → Bool} {l m : List α} (h : l.Perm m) : l.all p = m.all p := by
  rw [Bool.eq_iff_iff, List.all_eq_true, List.all_eq_true]
  constructor
  · intro hh x hx; exact hh x (h.mem_iff.2 hx)
  · intro hh x hx; exact hh x (h.mem_iff.1 hx)
theorem parts_perm {l m : List Mp} (h : l.Perm m) : partsE l = partsE m := by
  unfold partsE
  rw [all_perm h, all_perm h, all_perm h]
theorem sameK_symm {a b : Mp} (h : sameK a b = true) : sameK b a = true := by
  rw [sameK_iff] at *; exact ⟨h.1.symm, h.2.symm⟩
theorem dup_pair {l : List Mp} : dupB l = false ↔ l.Pairwise fun a b => sameK a b = false := by
  constructor
  · intro h
    rw [List.pairwise_iff_getElem]
    intro i j hi hj hij
    cases hk : sameK l[i] l[j] with
    | false => rfl
    | true =>
      have : Dup l j i := ⟨hij, hj, by
        have e1 : l.getD i default = l[i] := by simp [List.getD_eq_getElem?_getD, hi]
        have e2 : l.getD j default = l[j] := by simp [List.getD_eq_getElem?_getD, hj]
        rw [e1, e2]; exact sameK_symm hk⟩
      rw [dup_yes this] at h; cases h
  · intro h
    refine dup_no fun i j hd => ?_
    have h1 := List.pairwise_iff_getElem.1 h j i (by have := hd.1; have := hd.2.1; omega) hd.2.1 hd.1
    have hk := hd.2.2
    have hi := hd.2.1
    have hj : j < l.length := by have := hd.1; omega
    have e1 : l.getD i default = l[i] := by simp [List.getD_eq_getElem?_getD, hi]
    have e2 : l.getD j default = l[j] := by simp [List.getD_eq_getElem?_getD, hj]
    rw [e1, e2] at hk
    rw [sameK_symm hk] at h1; cases h1
theorem dup_perm {l m : List Mp} (h : l.Perm m) : dupB l = dupB m := by
  have key : ∀ {l m : List Mp}, l.Perm m → dupB l = false → dupB m = false := by
    intro l m h hl
    rw [dup_pair] at *
    exact h.pairwise hl (fun {a b} hab => by
      cases hk : sameK b a with
      | false => rfl
      | true => rw [sameK_symm hk] at hab; cases hab)
  cases hl : dupB l with
  | false => exact (key h hl).symm
  | true =>
    cases hm : dupB m with
    | true => rfl
    | false => rw [key h.symm hm] at hl; cases hl
theorem asc_of {l : List Mp} (h : AscTo ltM l l.length) (hd : dupB l = false) : ∀ n, n ≤ l.length → ascK l n = true
  | 0, _ => rfl
  | 1, _ => rfl
  | n + 2, hn => by
    simp only [ascK, Bool.and_eq_true]
    refine ⟨asc_of h hd (n + 1) (by omega), ?_⟩
    have h1 := h n (n + 1) (by omega) (by omega)
    rw [ltM_less, lessB_no] at h1
    rw [lessB_iff]
    rcases h1 with h1 | ⟨e, h1⟩
    · exact .inl h1
    · refine .inr ⟨e.symm, ?_⟩
      cases hl : lessS (l.getD n default).tag (l.getD (n + 1) default).tag with
      | true => rfl
      | false =>
        have et := lessS_total hl h1
        have : Dup l (n + 1) n := ⟨by omega, by omega, sameK_iff.2 ⟨e, et.symm⟩⟩
        rw [dup_yes this] at hd; cases hd
/-- The error of what is sorted. -/
theorem check_sort (l : List Mp) : checkE (sortM l) = unsortedE l := by
  have hp := parts_perm (sortM_perm (l := l))
  have hd := dup_perm (sortM_perm (l := l))
  unfold checkE unsortedE
  rw [hp, hd]
  cases partsE l == 0 with
  | false => rfl
  | true =>
    simp only [cond_true]
    cases hdl : dupB l with
    | false =>
      rw [hdl] at hd
      rw [asc_of sortM_asc hd _ (Nat.le_refl _)]; rfl
    | true =>
      rw [hdl] at hd
      cases ha : ascK (sortM l) (sortM l).length with
      | false => rfl
      | true => rw [asc_nodup ha] at hd; cases hd
theorem sort_bad {l : List Mp} (h : checkE (sortM l) ≠ 0) : checkE (sortM l) = checkE l := by
  rw [check_sort] at *
  unfold unsortedE checkE at *
  cases hp : partsE l == 0 with
  | false => rfl
  | true =>
    rw [hp] at h
    simp only [cond_true] at h ⊢
    cases hd : dupB l with
    | false => rw [hd] at h; simp at h
    | true =>
      cases ha : ascK l l.length with
      | false => rfl
      | true => rw [asc_nodup ha] at hd; cases hd
theorem sort_good {l : List Mp} (h : checkE (sortM l) = 0) : partsE l = 0 ∧ dupB l = false := by
  rw [check_sort] at h
  unfold unsortedE at h
  cases hp : partsE l == 0 with
  | false => rw [hp] at h; simp only [cond_false] at h; rw [h] at hp; simp at hp
  | true =>
    rw [hp] at h
    simp only [cond_true] at h
    refine ⟨eq_of_beq hp, ?_⟩
    cases hd : dupB l with
    | false => rfl
    | true => rw [hd] at h; simp at h
theorem check_order {l : List Mp} (h : checkE (sortM l) = 0) : checkE l = 4 ↔ ¬ l = sortM l := by
  obtain ⟨hp, hd⟩ := sort_good h
  have ha : checkE l = bif ascK l l.length then 0 else 4 := by
    unfold checkE
    have : (partsE l == 0) = true := by simpa using hp
    rw [this, hd]; simp
  rw [ha]
  constructor
  · intro h1 e
    have : ascK l l.length = true := by
      rw [e]
      exact asc_of sortM_asc (by rw [dup_perm sortM_perm]; exact hd) _ (Nat.le_refl _)
    rw [this] at h1; simp at h1
  · intro h1
    cases hk : ascK l l.length with
    | true => exact absurd (sortM_id hk).symm h1
    | false => rfl
theorem sort_twice {l : List Mp} (h : checkE (sortM l) = 0) : sortM (sortM l) = sortM l := by
  obtain ⟨hp, hd⟩ := sort_good h
  exact sortM_id (asc_of sortM_asc (by rw [dup_perm sortM_perm]; exact hd) _ (Nat.le_refl _))
noncomputable def eqMs (a b : List Mp) : Bool := @decide (a = b) (Classical.propDecidable _)
theorem eqMs_iff {a b : List Mp} : eqMs a b = true ↔ a = b := by unfold eqMs; exact @decide_eq_true_iff _ (Classical.propDecidable _)
theorem eqMs_no {a b : List Mp} (h : a ≠ b) : eqMs a b = false := by
  cases hh : eqMs a b with
  | false => rfl
  | true => exact absurd (eqMs_iff.1 hh) h
noncomputable def ctSameM : Ct := { ι := List Mp × List Mp, inp := fun x => [mpsD x.1, mpsD x.2], out := fun x => .v (.bool (eqMs x.1 x.2)), pre := fun x => x.1.length ≤ 1000000 ∧ x.2.length ≤ 1000000 ∧ (∀ k, k < x.1.length → (x.1.getD k default).to.length ≤ 1000000) ∧ ∀ k, k < x.2.length → (x.2.getD k default).to.length ≤ 1000000 }
def Γse : Ctx := fun f => match f with
  | 15 => some (.pure ctEqualL)
  | _ => none
theorem Γse_ok : CtxOk Tryz.prog (GlT mx pb) Γse := by
  intro f h hh
  simp only [Γse] at hh
  split at hh <;> simp at hh <;> subst hh
  exact requal_ok
set_option maxHeartbeats 2000000 in
theorem rSameM_ok : Sound Tryz.prog (GlT mx pb) 9 ctSameM := by
  refine sound_by (cc := true) Γse_ok Tryz.T_ok Tryz.mixed Tryz.func9 rfl (by kernel_rfl) (fun _ => rfl) (fun _ _ => by show 2 ≤ 55; decide) ?_
  intro ((a : List Mp), (b : List Mp)) ⟨(ha : a.length ≤ 1000000), (hb : b.length ≤ 1000000), (ha' : ∀ k, k < a.length → (a.getD k default).to.length ≤ 1000000), (hb' : ∀ k, k < b.length → (b.getD k default).to.length ≤ 1000000)⟩
  refine gA ?_
  refine And.intro (fun h => ?_) (fun h => ?_)
  · have h : a.length ≠ b.length := by
      have h : ((a.length : Int) != (b.length : Int)) = true := h
      simp at h; omega
    refine gA ?_
    exact EntR.bool (eqMs_no fun e => h (congrArg List.length e)).symm
  have h : a.length = b.length := by
    have h : ((a.length : Int) != (b.length : Int)) = false := h
    simp at h; omega
  refine gA ?_
  refine ⟨0, Nat, fun k => ⟨[(0, mpsD a), (1, mpsD b), (5, .v (.int .i64 k))], [], []⟩, fun k => k ≤ a.length ∧ ∀ j, j < k → a.getD j default = b.getD j default, fun k => a.length - k, fun _ => Nat.zero_le _, ⟨0, ⟨Nat.zero_le _, fun j hj => by omega⟩, StLe.ren [] tmS trivial (by decide)⟩, ?_⟩
  rintro k ⟨hk, hd⟩
  refine gA ?_
  refine And.intro (fun h1 => ?_) (fun h1 => ?_)
  · have h1 : k < a.length := by have := of_decide_eq_true h1; omega
    have hla := ha' k h1
    have hlb := hb' k (by omega)
    have hno : a.getD k default ≠ b.getD k default → eqMs a b = false := fun hne => eqMs_no fun e => hne (by rw [e])
    refine gA ?_
    generalize hp : ((a.getD ((k : Int)).toNat default).frm != (b.getD ((k : Int)).toNat default).frm) = p
    cases p with
    | true =>
      have hp : ((a.getD k default).frm != (b.getD k default).frm) = true := hp
      have hp : (a.getD k default).frm ≠ (b.getD k default).frm := by simpa only [bne_iff_ne] using hp
      refine gA ?_
      exact EntR.bool (hno fun e => hp (by rw [e])).symm
    | false =>
      have hp : ((a.getD k default).frm != (b.getD k default).frm) = false := hp
      have hp : (a.getD k default).frm = (b.getD k default).frm := by simpa only [bne_eq_false_iff_eq] using hp
      refine gA ?_
      generalize hq : (!@decide ((a.getD ((k : Int)).toNat default).tag = (b.getD ((k : Int)).toNat default).tag) (baDec _ _)) = q
      cases q with
      | true =>
        have hq : (!eqB (a.getD k default).tag (b.getD k default).tag) = true := hq
        refine gA ?_
        exact EntR.bool (hno fun e => by rw [e, eqB_iff.2 rfl] at hq; cases hq).symm
      | false =>
        have hq : (!eqB (a.getD k default).tag (b.getD k default).tag) = false := hq
        have hq : (a.getD k default).tag = (b.getD k default).tag := eqB_iff.1 (by simpa using hq)
        refine gA ?_
        refine ⟨((a.getD k default).to, (b.getD k default).to), EntL.refl _, fun _ => ⟨by show (a.getD k default).to.length ≤ _; omega, by show (b.getD k default).to.length ≤ _; omega⟩, ?_⟩
        rw [show ctEqualL.out ((a.getD k default).to, (b.getD k default).to) = .v (.bool (decide ((a.getD k default).to = (b.getD k default).to))) from rfl]
        refine gA ?_
        refine And.intro (fun h2 => ?_) (fun h2 => ?_)
        · have h2 : (!decide ((a.getD k default).to = (b.getD k default).to)) = true := h2
          refine gA ?_
          exact EntR.bool (hno fun e => by rw [e] at h2; simp at h2).symm
        · have h2 : (!decide ((a.getD k default).to = (b.getD k default).to)) = false := h2
          have h2 : (a.getD k default).to = (b.getD k default).to := by simpa only [Bool.not_eq_false', decide_eq_true_eq] using h2
          have e : a.getD k default = b.getD k default := by
            cases ea : a.getD k default with
            | mk f1 t1 g1 =>
              cases eb : b.getD k default with
              | mk f2 t2 g2 =>
                rw [ea, eb] at hp hq h2
                simp only at hp hq h2
                rw [hp, hq, h2]
          refine gA ?_
          exact ⟨k + 1, ⟨by omega, next_at hd e⟩, (show a.length - (k + 1) < a.length - k by omega), StLe.ren [] tmS trivial (by decide)⟩
  · have h1 : k = a.length := by have := of_decide_eq_false h1; omega
    subst h1
    refine gA ?_
    exact EntR.bool (eqMs_iff.2 (eq_of_getD h hd)).symm
end Go.Proofs
