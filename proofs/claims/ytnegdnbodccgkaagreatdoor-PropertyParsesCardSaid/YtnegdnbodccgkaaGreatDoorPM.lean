import Derived.Test.YtnegdnbodccgkaaGreatDoorQ4
set_option linter.unusedVariables false
set_option linter.unusedSimpArgs false
namespace Go.Proofs
open Go Go.Sx

/-! property.Make: plain -/
def ovS (a b : Sp) : Prop := a.lo ≤ b.hi ∧ b.lo ≤ a.hi
instance (a b : Sp) : Decidable (ovS a b) := inferInstanceAs (Decidable (_ ∧ _))
def mkS (n : Nat) (s : Sp) : Prop := insB s = true ∧ 0 ≤ s.val ∧ s.val < n
instance (n : Nat) (s : Sp) : Decidable (mkS n s) := inferInstanceAs (Decidable (_ ∧ _))
def allS (n : Nat) (l : List Sp) : Prop := ∀ i, i < l.length → mkS n (l.getD i default)
/-- The span at a place overlaps an earlier one. -/
def ovAt (l : List Sp) (i : Nat) : Prop := ∃ k, k < i ∧ ovS (l.getD k default) (l.getD i default)
def noOv (l : List Sp) : Prop := ∀ i, i < l.length → ¬ ovAt l i
theorem insB_iff {s : Sp} : insB s = true ↔ 0 ≤ s.lo ∧ s.lo ≤ s.hi ∧ s.hi ≤ 1114111 := by unfold insB; exact decide_eq_true_iff
theorem mkS_lo {n : Nat} {s : Sp} (h : mkS n s) : 0 ≤ s.lo ∧ s.lo ≤ s.hi ∧ s.hi ≤ 1114111 := insB_iff.1 h.1
theorem getD_get {l : List Sp} {i : Nat} (h : i < l.length) : l.getD i default = l[i] := by
  rw [List.getD_eq_getElem?_getD, List.getElem?_eq_getElem h]; rfl
theorem allS_iff {n : Nat} {l : List Sp} : allS n l ↔ ∀ s ∈ l, mkS n s := by
  constructor
  · intro h s hs
    obtain ⟨i, hi, rfl⟩ := List.getElem_of_mem hs
    rw [← getD_get hi]; exact h i hi
  · intro h i hi
    exact h _ (getD_mem hi)
/-- Apart: none overlaps another one. -/
def apart (l : List Sp) : Prop := l.Pairwise fun a b => ¬ ovS a b
theorem noOv_iff {l : List Sp} : noOv l ↔ apart l := by
  unfold noOv apart ovAt
  rw [List.pairwise_iff_getElem]
  constructor
  · intro h i j hi hj hij ho
    exact h j hj ⟨i, hij, by rw [getD_get hi, getD_get hj]; exact ho⟩
  · rintro h i hi ⟨k, hk, ho⟩
    rw [getD_get hi, getD_get (show k < l.length by omega)] at ho
    exact h k i (by omega) hi hk ho
theorem ovS_comm {a b : Sp} : ovS a b ↔ ovS b a := And.comm
theorem apart_perm {l m : List Sp} (h : l.Perm m) : apart l ↔ apart m :=
  h.pairwise_iff fun hab hba => hab (ovS_comm.1 hba)
/-! ascending -/
def ascS (l : List Sp) : Prop := l.Pairwise fun a b => a.hi < b.lo
def leS (a b : Sp) : Bool := decide (a.lo ≤ b.lo)
def srt (l : List Sp) : List Sp := l.mergeSort leS
theorem srt_perm (l : List Sp) : (srt l).Perm l := List.mergeSort_perm l leS
theorem srt_sorted (l : List Sp) : (srt l).Pairwise (fun a b => a.lo ≤ b.lo) := by
  have := List.pairwise_mergeSort (le := leS) (fun a b c h1 h2 => by simp [leS] at *; omega) (fun a b => by simp [leS]; omega) l
  exact this.imp (fun h => by simpa [leS] using h)
/-- One ascending order alone, where none overlaps another. -/
theorem srt_one {n : Nat} {l m : List Sp} (hn : allS n l) (ha : apart l) (hp : m.Perm l) (hs : m.Pairwise (fun a b => a.lo ≤ b.lo)) : m = srt l := by
  refine List.Perm.eq_of_pairwise (le := fun a b : Sp => a.lo ≤ b.lo) (fun a b ha' hb h1 h2 => ?_) hs (srt_sorted l) (hp.trans (srt_perm l).symm)
  have ha2 : a ∈ l := hp.mem_iff.1 ha'
  have hb2 : b ∈ l := (srt_perm l).mem_iff.1 hb
  obtain ⟨i, hi, rfl⟩ := List.getElem_of_mem ha2
  obtain ⟨j, hj, rfl⟩ := List.getElem_of_mem hb2
  have k1 := mkS_lo (allS_iff.1 hn _ ha2)
  have k2 := mkS_lo (allS_iff.1 hn _ hb2)
  have hq := List.pairwise_iff_getElem.1 ha
  rcases Nat.lt_trichotomy i j with h | h | h
  · exact absurd (show ovS l[i] l[j] from ⟨by omega, by omega⟩) (hq i j hi hj h)
  · subst h; rfl
  · exact absurd (show ovS l[j] l[i] from ⟨by omega, by omega⟩) (hq j i hj hi h)
theorem srt_congr {n : Nat} {l m : List Sp} (hn : allS n l) (ha : apart l) (hp : m.Perm l) : srt m = srt l := srt_one hn ha ((srt_perm m).trans hp) (srt_sorted m)
theorem srt_asc {n : Nat} {l : List Sp} (hn : allS n l) (ha : apart l) : ascS (srt l) := by
  have h1 : apart (srt l) := (apart_perm (srt_perm l)).2 ha
  unfold ascS
  refine List.Pairwise.imp_of_mem (R := fun a b => a.lo ≤ b.lo ∧ ¬ ovS a b) (fun {a b} hma hmb h => ?_) (List.Pairwise.and (srt_sorted l) h1)
  have k1 := mkS_lo (allS_iff.1 hn _ ((srt_perm l).mem_iff.1 hma))
  have k2 := mkS_lo (allS_iff.1 hn _ ((srt_perm l).mem_iff.1 hmb))
  obtain ⟨h2, h3⟩ := h
  unfold ovS at h3
  omega
/-! the spans, joined -/
def joinS1 (out : List Sp) (s : Sp) : List Sp :=
  if s.val = 0 then out
  else if 0 < out.length ∧ (out.getD (out.length - 1) default).hi + 1 = s.lo ∧ (out.getD (out.length - 1) default).val = s.val then out.set (out.length - 1) ⟨(out.getD (out.length - 1) default).lo, s.hi, (out.getD (out.length - 1) default).val⟩
  else out ++ [s]
def joinSp (l : List Sp) : List Sp := l.foldl joinS1 []
theorem joinSp_take {l : List Sp} {k : Nat} (h : k < l.length) : joinSp (l.take (k + 1)) = joinS1 (joinSp (l.take k)) (l.getD k default) := by
  rw [List.take_succ_eq_append_getElem h, getD_get h]
  unfold joinSp
  rw [List.foldl_append]
  rfl
theorem joinS1_len (out : List Sp) (s : Sp) : (joinS1 out s).length ≤ out.length + 1 := by
  unfold joinS1
  split
  · omega
  · split
    · simp
    · simp
theorem joinSp_len (l : List Sp) : ∀ k, k ≤ l.length → (joinSp (l.take k)).length ≤ k
  | 0, _ => by simp [joinSp]
  | k + 1, h => by
    rw [joinSp_take (by omega)]
    have := joinS1_len (joinSp (l.take k)) (l.getD k default)
    have := joinSp_len l k (by omega)
    omega
/-- What is joined so far is in order, and ahead of what follows. -/
structure JoinInv (names : List ByteArray) (out : List Sp) (x : Int) : Prop where
  ok : ∀ i, i < out.length → spOk ⟨names, out⟩ i
  bef : ∀ i, i < out.length → (out.getD i default).hi < x
theorem JoinInv.mono {names : List ByteArray} {out : List Sp} {x y : Int} (h : JoinInv names out x) (hxy : x ≤ y) : JoinInv names out y := ⟨h.ok, fun i hi => Int.lt_of_lt_of_le (h.bef i hi) hxy⟩
theorem getD_app {out : List Sp} {s : Sp} {i : Nat} : (out ++ [s]).getD i default = if i < out.length then out.getD i default else if i = out.length then s else default := by
  simp only [List.getD_eq_getElem?_getD, List.getElem?_append]
  split
  · rfl
  · rename_i h
    by_cases e : i = out.length
    · subst e; simp
    · rw [if_neg e, List.getElem?_eq_none (by simp; omega)]; rfl
theorem getD_setS {out : List Sp} {s : Sp} {a i : Nat} (ha : a < out.length) : (out.set a s).getD i default = if a = i then s else out.getD i default := by
  simp only [List.getD_eq_getElem?_getD, List.getElem?_set]
  split
  · rename_i h; subst h; simp [ha]
  · rfl
theorem joinInv_step {names : List ByteArray} {out : List Sp} {s : Sp} (h : JoinInv names out s.lo) (hs : mkS names.length s) : JoinInv names (joinS1 out s) (s.hi + 1) := by
  have k := mkS_lo hs
  have hs2 := hs.2
  unfold joinS1
  split
  · exact h.mono (by omega)
  · rename_i hv
    split
    · rename_i hc
      obtain ⟨h1, h2, h3⟩ := hc
      have ho := h.ok (out.length - 1) (by omega)
      refine ⟨fun i hi => ?_, fun i hi => ?_⟩
      · have hi' : i < out.length := by simpa using hi
        have hoi := h.ok i hi'
        unfold spOk at hoi ho ⊢
        simp only at hoi ho ⊢
        rw [getD_setS (by omega), getD_setS (by omega)]
        have hne : 0 < i → ¬ out.length - 1 = i - 1 := fun hi0 => by omega
        by_cases e : out.length - 1 = i
        · subst e
          refine ⟨?_, fun hi0 => ?_⟩
          · rw [if_pos rfl]
            unfold spIn at ho ⊢
            simp only
            omega
          · rw [if_neg (hne hi0), if_pos rfl]
            have := ho.2 hi0
            unfold spAft at this ⊢
            exact this
        · refine ⟨?_, fun hi0 => ?_⟩
          · rw [if_neg e]; exact hoi.1
          · rw [if_neg (hne hi0), if_neg e]; exact hoi.2 hi0
      · have hi' : i < out.length := by simpa using hi
        have := h.bef i hi'
        rw [getD_setS (by omega)]
        split
        · show s.hi < s.hi + 1; omega
        · omega
    · rename_i hc
      refine ⟨fun i hi => ?_, fun i hi => ?_⟩
      · have hi' : i < out.length + 1 := by simpa using hi
        unfold spOk
        simp only
        rw [getD_app, getD_app]
        by_cases e : i < out.length
        · have hoi := h.ok i e
          unfold spOk at hoi
          simp only at hoi
          rw [if_pos e, if_pos (show i - 1 < out.length by omega)]
          exact hoi
        · have e2 : i = out.length := by omega
          subst e2
          rw [if_neg e, if_pos rfl]
          refine ⟨?_, fun hi0 => ?_⟩
          · unfold spIn
            omega
          · rw [if_pos (show out.length - 1 < out.length by omega)]
            have hb := h.bef (out.length - 1) (by omega)
            unfold spAft
            refine ⟨hb, fun hh => hc ⟨hi0, hh.1.symm, hh.2.symm⟩⟩
      · have hi' : i < out.length + 1 := by simpa using hi
        rw [getD_app]
        by_cases e : i < out.length
        · rw [if_pos e]
          have := h.bef i e
          omega
        · rw [if_neg e, if_pos (by omega)]; omega
theorem joinInv_all {names : List ByteArray} {l : List Sp} (ha : ascS l) (hn : allS names.length l) : ∀ k, k ≤ l.length → JoinInv names (joinSp (l.take k)) (if k < l.length then (l.getD k default).lo else 1114112)
  | 0, _ => ⟨fun i hi => by simp [joinSp] at hi, fun i hi => by simp [joinSp] at hi⟩
  | k + 1, h => by
    have ih := joinInv_all ha hn k (by omega)
    rw [if_pos (by omega)] at ih
    rw [joinSp_take (by omega)]
    refine (joinInv_step ih (hn k (by omega))).mono ?_
    have k1 := mkS_lo (hn k (by omega))
    split
    · rename_i h2
      have := List.pairwise_iff_getElem.1 ha k (k + 1) (by omega) h2 (by omega)
      rw [← getD_get, ← getD_get] at this
      omega
    · omega
/-! overlapping spans -/
def ovB (l : List Sp) (i : Nat) : Bool := (List.range i).any fun k => decide (ovS (l.getD k default) (l.getD i default))
theorem ovB_iff {l : List Sp} {i : Nat} : ovB l i = true ↔ ovAt l i := by
  unfold ovB ovAt
  rw [List.any_eq_true]
  constructor
  · rintro ⟨k, hk, h⟩
    exact ⟨k, by simpa using hk, by simpa using h⟩
  · rintro ⟨k, hk, h⟩
    exact ⟨k, by simpa using hk, by simpa using h⟩
def ovI (l : List Sp) : Int := match (List.range l.length).find? (ovB l) with | some i => i | none => -1
theorem ovI_no {l : List Sp} (h : noOv l) : ovI l = -1 := by
  unfold ovI
  rw [List.find?_eq_none.2 (fun i hi => by rw [ovB_iff]; exact h i (by simpa using hi))]
theorem find_range {p : Nat → Bool} {i n : Nat} (hi : i < n) (h : p i = true) (hn : ∀ j, j < i → ¬ p j = true) : (List.range n).find? p = some i := by
  have e : List.range n = List.range i ++ (i :: (List.range (n - i - 1)).map (· + (i + 1))) := by
    apply List.ext_getElem
    · simp; omega
    · intro t h1 h2
      rw [List.getElem_range, List.getElem_append]
      split
      · simp
      · rename_i h3
        simp only [List.length_range] at h3 ⊢
        rw [List.getElem_cons]
        split
        · omega
        · simp; omega
  rw [e, List.find?_append, List.find?_eq_none.2 (fun j hj => hn j (by simpa using hj)), List.find?_cons, h]
  rfl
theorem ovI_at {l : List Sp} {i : Nat} (hi : i < l.length) (h : ovAt l i) (hn : ∀ j, j < i → ¬ ovAt l j) : ovI l = i := by
  unfold ovI
  rw [find_range hi (ovB_iff.2 h) (fun j hj => by rw [ovB_iff]; exact hn j hj)]
theorem ovI_cases (l : List Sp) : (noOv l ∧ ovI l = -1) ∨ ∃ i : Nat, i < l.length ∧ ovAt l i ∧ (∀ j, j < i → ¬ ovAt l j) ∧ ovI l = i := by
  rcases Classical.em (noOv l) with h | h
  · exact .inl ⟨h, ovI_no h⟩
  · right
    have h2 : ∃ i, i < l.length ∧ ovAt l i := by
      rcases Classical.em (∃ i, i < l.length ∧ ovAt l i) with h3 | h3
      · exact h3
      · exact absurd (fun i hi ho => h3 ⟨i, hi, ho⟩) h
    obtain ⟨i, hi, ho⟩ := h2
    have key : ∀ n i, i ≤ n → i < l.length → ovAt l i → ∃ i, i < l.length ∧ ovAt l i ∧ ∀ j, j < i → ¬ ovAt l j := by
      intro n
      induction n with
      | zero => intro i h0 hi ho; exact ⟨i, hi, ho, fun j hj => by omega⟩
      | succ n ih =>
        intro i h0 hi ho
        rcases Classical.em (∃ j, j < i ∧ ovAt l j) with ⟨j, hj, hjo⟩ | hno
        · exact ih j (by omega) (by omega) hjo
        · exact ⟨i, hi, ho, fun j hj hjo => hno ⟨j, hj, hjo⟩⟩
    obtain ⟨j, h1, h2, h3⟩ := key i i (Nat.le_refl _) hi ho
    exact ⟨j, h1, h2, h3, ovI_at h1 h2 h3⟩
def insAt (m : List Sp) (k : Nat) (s : Sp) : List Sp := m.take k ++ s :: m.drop k
theorem insAt_perm (m : List Sp) (k : Nat) (s : Sp) : (insAt m k s).Perm (s :: m) := by
  unfold insAt
  refine List.perm_middle.trans ?_
  rw [List.take_append_drop]
theorem insAt_take {m l : List Sp} {i k : Nat} (hi : i < l.length) (hp : m.Perm (l.take i)) : (insAt m k (l.getD i default)).Perm (l.take (i + 1)) := by
  rw [List.take_succ_eq_append_getElem hi, getD_get hi]
  refine (insAt_perm _ _ _).trans ((hp.cons _).trans ?_)
  exact (List.perm_append_singleton _ _).symm
theorem insAt_pair {R : Sp → Sp → Prop} {m : List Sp} {k : Nat} {s : Sp} (hk : k ≤ m.length) (h : m.Pairwise R) (h1 : ∀ x, x < k → R (m.getD x default) s) (h2 : ∀ x, k ≤ x → x < m.length → R s (m.getD x default)) : (insAt m k s).Pairwise R := by
  unfold insAt
  have h0 : (m.take k ++ m.drop k).Pairwise R := by rw [List.take_append_drop]; exact h
  rw [List.pairwise_append] at h0 ⊢
  have m1 : ∀ a ∈ m.take k, R a s := fun a ha => by
    obtain ⟨i, hi, rfl⟩ := List.getElem_of_mem ha
    have hi' : i < k ∧ i < m.length := by simp at hi; omega
    have := h1 i hi'.1
    rw [getD_get hi'.2] at this
    rw [List.getElem_take]; exact this
  have m2 : ∀ a ∈ m.drop k, R s a := fun a ha => by
    obtain ⟨i, hi, rfl⟩ := List.getElem_of_mem ha
    have hi' : k + i < m.length := by simp at hi; omega
    have := h2 (k + i) (by omega) hi'
    rw [getD_get hi'] at this
    rw [List.getElem_drop]; exact this
  refine ⟨h0.1, List.pairwise_cons.2 ⟨m2, h0.2.1⟩, fun a ha b hb => ?_⟩
  rcases List.mem_cons.1 hb with rfl | hb
  · exact m1 a ha
  · exact h0.2.2 a ha b hb
theorem ov_take {l m : List Sp} {i : Nat} (hi : i < l.length) (hp : m.Perm (l.take i)) : ovAt l i ↔ ∃ x, x < m.length ∧ ovS (m.getD x default) (l.getD i default) := by
  constructor
  · rintro ⟨k, hk, h⟩
    have hm : l.getD k default ∈ m := by
      rw [hp.mem_iff, List.mem_take_iff_getElem]
      exact ⟨k, by omega, (getD_get (by omega)).symm⟩
    obtain ⟨x, hx, e⟩ := List.getElem_of_mem hm
    exact ⟨x, hx, by rw [getD_get hx, e]; exact h⟩
  · rintro ⟨x, hx, h⟩
    have hm : m.getD x default ∈ l.take i := hp.mem_iff.1 (getD_mem hx)
    rw [List.mem_take_iff_getElem] at hm
    obtain ⟨k, hk, e⟩ := hm
    exact ⟨k, by omega, by rw [getD_get (show k < l.length by omega), e]; exact h⟩
/-- Where a span overlaps one of an ascending list. -/
theorem ov_asc {m : List Sp} {s : Sp} {k : Nat} (hm : ascS m) (hv : ∀ x, x < m.length → (m.getD x default).lo ≤ (m.getD x default).hi) (hs : s.lo ≤ s.hi) (hk : k ≤ m.length) (h1 : ∀ x, x < k → (m.getD x default).lo < s.lo) (h2 : ∀ x, k ≤ x → x < m.length → s.lo ≤ (m.getD x default).lo) :
    (∃ x, x < m.length ∧ ovS (m.getD x default) s) ↔ ((k < m.length ∧ (m.getD k default).lo ≤ s.hi) ∨ (0 < k ∧ s.lo ≤ (m.getD (k - 1) default).hi)) := by
  have hlt : ∀ x y, x < y → y < m.length → (m.getD x default).hi < (m.getD y default).lo := fun x y hxy hy => by
    have := List.pairwise_iff_getElem.1 hm x y (by omega) hy hxy
    rw [getD_get hy, getD_get (show x < m.length by omega)]
    exact this
  constructor
  · rintro ⟨x, hx, h⟩
    unfold ovS at h
    rcases Nat.lt_or_ge x k with h3 | h3
    · right
      refine ⟨by omega, ?_⟩
      rcases Nat.lt_or_ge x (k - 1) with h4 | h4
      · have a1 := hlt x (k - 1) h4 (by omega)
        have a2 := hv (k - 1) (by omega)
        have a3 := h1 (k - 1) (by omega)
        omega
      · have : x = k - 1 := by omega
        subst this
        exact h.2
    · left
      refine ⟨by omega, ?_⟩
      rcases Nat.lt_or_ge k x with h4 | h4
      · have a1 := hlt k x h4 hx
        have a2 := hv k (by omega)
        omega
      · have : x = k := by omega
        subst this
        exact h.1
  · rintro (⟨h3, h4⟩ | ⟨h3, h4⟩)
    · have := h2 k (Nat.le_refl _) h3
      have a2 := hv k h3
      exact ⟨k, h3, by unfold ovS; omega⟩
    · have := h1 (k - 1) (by omega)
      exact ⟨k - 1, by omega, by unfold ovS; omega⟩
theorem ins_asc {m : List Sp} {s : Sp} {k : Nat} (hm : ascS m) (hv : ∀ x, x < m.length → (m.getD x default).lo ≤ (m.getD x default).hi) (hs : s.lo ≤ s.hi) (hk : k ≤ m.length) (h1 : ∀ x, x < k → (m.getD x default).lo < s.lo) (h2 : ∀ x, k ≤ x → x < m.length → s.lo ≤ (m.getD x default).lo)
    (hn : ¬ ∃ x, x < m.length ∧ ovS (m.getD x default) s) : ascS (insAt m k s) := by
  refine insAt_pair hk hm (fun x hx => ?_) (fun x hx hx2 => ?_)
  · have a1 := h1 x hx
    have a2 : ¬ ovS (m.getD x default) s := fun h => hn ⟨x, by omega, h⟩
    unfold ovS at a2
    omega
  · have a1 := h2 x hx hx2
    have a2 : ¬ ovS (m.getD x default) s := fun h => hn ⟨x, hx2, h⟩
    have a3 := hv x hx2
    unfold ovS at a2
    show s.hi < (m.getD x default).lo
    omega
/-! Make -/
open Classical in
noncomputable def mkE (names : List ByteArray) (l : List Sp) : Int := if ¬ namesB names = true then 6 else if ¬ allS names.length l then 1 else if ¬ noOv l then 5 else 0
noncomputable def mkP (names : List ByteArray) (l : List Sp) : Pr := if mkE names l = 0 then ⟨names, joinSp (srt l)⟩ else ⟨[], []⟩
theorem mkE_name {names : List ByteArray} {l : List Sp} (h : namesB names = false) : mkE names l = 6 := by unfold mkE; rw [if_pos (by rw [h]; decide)]
theorem mkE_range {names : List ByteArray} {l : List Sp} (h : namesB names = true) (h2 : ¬ allS names.length l) : mkE names l = 1 := by unfold mkE; rw [if_neg (by rw [h]; decide), if_pos h2]
theorem mkE_twice {names : List ByteArray} {l : List Sp} (h : namesB names = true) (h2 : allS names.length l) (h3 : ¬ noOv l) : mkE names l = 5 := by unfold mkE; rw [if_neg (by rw [h]; decide), if_neg (fun h => h h2), if_pos h3]
theorem mkE_ok {names : List ByteArray} {l : List Sp} (h : namesB names = true) (h2 : allS names.length l) (h3 : noOv l) : mkE names l = 0 := by unfold mkE; rw [if_neg (by rw [h]; decide), if_neg (fun h => h h2), if_neg (fun h => h h3)]
theorem mkE_cases (names : List ByteArray) (l : List Sp) : (namesB names = false ∧ mkE names l = 6) ∨ (namesB names = true ∧ ¬ allS names.length l ∧ mkE names l = 1) ∨ (namesB names = true ∧ allS names.length l ∧ ¬ noOv l ∧ mkE names l = 5) ∨ (namesB names = true ∧ allS names.length l ∧ noOv l ∧ mkE names l = 0) := by
  rcases Bool.eq_false_or_eq_true (namesB names) with h | h
  · by_cases h2 : allS names.length l
    · by_cases h3 : noOv l
      · exact .inr (.inr (.inr ⟨h, h2, h3, mkE_ok h h2 h3⟩))
      · exact .inr (.inr (.inl ⟨h, h2, h3, mkE_twice h h2 h3⟩))
    · exact .inr (.inl ⟨h, h2, mkE_range h h2⟩)
  · exact .inl ⟨h, mkE_name h⟩
theorem mkP_no {names : List ByteArray} {l : List Sp} {e : Int} (h : mkE names l = e) (h0 : ¬ e = 0) : mkP names l = ⟨[], []⟩ := if_neg (by rw [h]; exact h0)
theorem mkP_yes {names : List ByteArray} {l : List Sp} (h : mkE names l = 0) : mkP names l = ⟨names, joinSp (srt l)⟩ := if_pos h
theorem mkE_perm {names : List ByteArray} {l m : List Sp} (h : l.Perm m) : mkE names l = mkE names m := by
  have h1 : allS names.length l ↔ allS names.length m := by
    rw [allS_iff, allS_iff]
    exact ⟨fun k s hs => k s (h.mem_iff.2 hs), fun k s hs => k s (h.mem_iff.1 hs)⟩
  have h2 : noOv l ↔ noOv m := by rw [noOv_iff, noOv_iff, apart_perm h]
  rcases mkE_cases names l with ⟨a, e⟩ | ⟨a, b, e⟩ | ⟨a, b, c, e⟩ | ⟨a, b, c, e⟩
  · rw [e, mkE_name a]
  · rw [e, mkE_range a (fun h => b (h1.2 h))]
  · rw [e, mkE_twice a (h1.1 b) (fun h => c (h2.2 h))]
  · rw [e, mkE_ok a (h1.1 b) (h2.1 c)]
theorem mkP_perm {names : List ByteArray} {l m : List Sp} (h : l.Perm m) : mkP names l = mkP names m := by
  unfold mkP
  rw [mkE_perm h]
  rcases mkE_cases names m with ⟨_, e⟩ | ⟨_, _, e⟩ | ⟨_, _, _, e⟩ | ⟨_, h2, h3, e⟩
  · rw [e]; rfl
  · rw [e]; rfl
  · rw [e]; rfl
  · rw [if_pos e, if_pos e, srt_congr h2 (noOv_iff.1 h3) h]
theorem mkP_ok {names : List ByteArray} {l : List Sp} (h : mkE names l = 0) : prOk (mkP names l) := by
  rcases mkE_cases names l with ⟨_, e⟩ | ⟨_, _, e⟩ | ⟨_, _, _, e⟩ | ⟨h1, h2, h3, e⟩
  · omega
  · omega
  · omega
  · rw [mkP_yes h]
    have hp := srt_perm l
    have h4 : allS names.length (srt l) := by
      rw [allS_iff] at h2 ⊢
      exact fun s hs => h2 s (hp.mem_iff.1 hs)
    have := (joinInv_all (srt_asc h2 (noOv_iff.1 h3)) h4 (srt l).length (Nat.le_refl _)).ok
    rw [List.take_length] at this
    exact ⟨h1, this⟩
theorem mkP_len (names : List ByteArray) (l : List Sp) : (mkP names l).spans.length ≤ l.length := by
  unfold mkP
  split
  · have := joinSp_len (srt l) (srt l).length (Nat.le_refl _)
    rw [List.take_length, (srt_perm l).length_eq] at this
    exact this
  · exact Nat.zero_le _
end Go.Proofs
