import Derived.Test.YtfalaomjfkaphaaGreatDoorSm2
set_option linter.unusedVariables false
set_option linter.unusedSimpArgs false
namespace Go.Proofs
open Go Go.Sx

/-! putting a mapping into a sorted list: plain -/
def insM (L : List Mp) (j : Nat) (x : Mp) : List Mp := L.take j ++ x :: L.drop j
theorem insM_len {L : List Mp} {j : Nat} {x : Mp} (h : j ≤ L.length) : (insM L j x).length = L.length + 1 := by
  unfold insM
  rw [List.length_append, List.length_cons, List.length_take, List.length_drop]
  omega
theorem insM_get {L : List Mp} {j : Nat} {x : Mp} (h : j ≤ L.length) (i : Nat) : (insM L j x)[i]? = if i < j then L[i]? else if i = j then some x else L[i - 1]? := by
  unfold insM
  have hl : (L.take j).length = j := by rw [List.length_take]; omega
  by_cases h1 : i < j
  · rw [if_pos h1, List.getElem?_append_left (by omega), List.getElem?_take, if_pos h1]
  · rw [if_neg h1, List.getElem?_append_right (by omega), hl]
    by_cases h2 : i = j
    · rw [if_pos h2, h2, Nat.sub_self]; rfl
    · rw [if_neg h2, show i - j = (i - j - 1) + 1 by omega, List.getElem?_cons_succ, List.getElem?_drop]
      congr 1
      omega
theorem insM_at {L : List Mp} {j : Nat} {x : Mp} (h : j ≤ L.length) (i : Nat) : (insM L j x).getD i default = if i < j then L.getD i default else if i = j then x else L.getD (i - 1) default := by
  rw [List.getD_eq_getElem?_getD, insM_get h]
  split
  · rw [List.getD_eq_getElem?_getD]
  · split
    · rfl
    · rw [List.getD_eq_getElem?_getD]
theorem ins_shift {L : List Mp} {j : Nat} {x : Mp} (h0 : 0 < j) (h : j ≤ L.length) : ((insM L j x).set j ((insM L j x).getD (j - 1) default)).set (j - 1) x = insM L (j - 1) x := by
  have hl := insM_len (x := x) h
  refine List.ext_getElem? fun i => ?_
  rw [List.getElem?_set, List.getElem?_set, insM_get (show j - 1 ≤ L.length by omega), insM_get h, insM_at h, if_pos (show j - 1 < j by omega)]
  rw [List.length_set, hl]
  have hj1 : L[j - 1]? = some (L.getD (j - 1) default) := by
    rw [List.getD_eq_getElem?_getD, List.getElem?_eq_getElem (show j - 1 < L.length by omega)]; rfl
  by_cases e1 : j - 1 = i
  · rw [if_pos e1, if_pos (by omega), if_neg (by omega), if_pos e1.symm]
  · rw [if_neg e1]
    by_cases e2 : j = i
    · rw [if_pos e2, if_pos (by omega), if_neg (by omega), if_neg (by omega), ← e2, hj1]
    · rw [if_neg e2]
      by_cases e3 : i < j
      · rw [if_pos e3, if_pos (by omega)]
      · rw [if_neg e3, if_neg (Ne.symm e2), if_neg (by omega), if_neg (by omega)]
theorem insM_perm (L : List Mp) (j : Nat) (x : Mp) : (insM L j x).Perm (x :: L) := by
  unfold insM
  exact List.perm_middle.trans ((List.Perm.of_eq (List.take_append_drop j L)).cons x)
def upM (L : List Mp) : Prop := L.Pairwise fun a b => lessB b a = false
theorem insM_up {L : List Mp} {j : Nat} {x : Mp} (hL : upM L) (h : j ≤ L.length) (h1 : ∀ q, j ≤ q → q < L.length → lessB x (L.getD q default) = true) (h2 : j = 0 ∨ lessB x (L.getD (j - 1) default) = false) : upM (insM L j x) := by
  have tr : ∀ a b c : Mp, lessB b a = false → lessB c b = false → lessB c a = false := fun a b c p q => by
    have := ltM_tr a b c (by rw [ltM_less]; exact p) (by rw [ltM_less]; exact q)
    rw [ltM_less] at this
    exact this
  have asy : ∀ a b : Mp, lessB a b = true → lessB b a = false := fun a b p => by
    have := ltM_asym a b (by rw [ltM_less]; exact p)
    rw [ltM_less] at this
    exact this
  have hp : ∀ a b, a < b → b < L.length → lessB (L.getD b default) (L.getD a default) = false := fun a b hab hb => by
    have := List.pairwise_iff_getElem.1 hL a b (by omega) hb hab
    rw [List.getD_eq_getElem?_getD, List.getD_eq_getElem?_getD, List.getElem?_eq_getElem hb, List.getElem?_eq_getElem (show a < L.length by omega)]
    exact this
  have hl := insM_len (x := x) h
  unfold upM
  rw [List.pairwise_iff_getElem]
  intro a b ha hb hab
  have ea : (insM L j x)[a] = (insM L j x).getD a default := by rw [List.getD_eq_getElem?_getD, List.getElem?_eq_getElem ha]; rfl
  have eb : (insM L j x)[b] = (insM L j x).getD b default := by rw [List.getD_eq_getElem?_getD, List.getElem?_eq_getElem hb]; rfl
  rw [ea, eb, insM_at h, insM_at h]
  have lowx : ∀ a, a < j → lessB x (L.getD a default) = false := fun a ha' => by
    rcases h2 with h0 | h2
    · omega
    · by_cases e : a = j - 1
      · rw [e]; exact h2
      · exact tr _ _ _ (hp a (j - 1) (by omega) (by omega)) h2
  by_cases a1 : a < j
  · rw [if_pos a1]
    by_cases b1 : b < j
    · rw [if_pos b1]; exact hp a b hab (by omega)
    · rw [if_neg b1]
      by_cases b2 : b = j
      · rw [if_pos b2]; exact lowx a a1
      · rw [if_neg b2]; exact hp a (b - 1) (by omega) (by omega)
  · rw [if_neg a1]
    by_cases a2 : a = j
    · rw [if_pos a2, if_neg (show ¬ b < j by omega), if_neg (show ¬ b = j by omega)]
      exact asy _ _ (h1 (b - 1) (by omega) (by omega))
    · rw [if_neg a2, if_neg (show ¬ b < j by omega), if_neg (show ¬ b = j by omega)]
      exact hp (a - 1) (b - 1) (by omega) (by omega)
theorem uns_zero {l : List Mp} (h : unsortedE l = 0) : dupB l = false := by
  unfold unsortedE at h
  cases hp : partsE l == 0 with
  | true =>
    rw [hp] at h
    cases hd : dupB l with
    | true => rw [hd] at h; exact absurd (show (5 : Int) = 0 from h) (by decide)
    | false => rfl
  | false =>
    rw [hp] at h
    have h : partsE l = 0 := h
    rw [h] at hp
    exact absurd hp (by decide)
theorem key_eq {a b : Mp} (h1 : lessB a b = false) (h2 : lessB b a = false) : sameK a b = true := by
  have k1 := lessB_no.1 h1
  have k2 := lessB_no.1 h2
  have hf : a.frm = b.frm := by omega
  have t1 : lessS a.tag b.tag = false := by
    rcases k1 with h | h
    · omega
    · exact h.2
  have t2 : lessS b.tag a.tag = false := by
    rcases k2 with h | h
    · omega
    · exact h.2
  have ht := lessS_total t1 t2
  unfold sameK
  rw [hf, ht]
  simp [eqB_iff]
theorem sort_one {l m : List Mp} (h : unsortedE l = 0) (hp : m.Perm l) (hu : upM m) : m = sortM l := by
  have hs : upM (sortM l) := by
    unfold upM
    rw [List.pairwise_iff_getElem]
    intro i j hi hj hij
    have := sortM_asc (l := l) i j hij hj
    rw [ltM_less, List.getD_eq_getElem?_getD, List.getD_eq_getElem?_getD, List.getElem?_eq_getElem hi, List.getElem?_eq_getElem hj] at this
    exact this
  have hd := dup_pair.1 (uns_zero h)
  refine List.Perm.eq_of_pairwise (le := fun a b : Mp => lessB b a = false) (fun a b ha hb h1 h2 => ?_) hu hs (hp.trans sortM_perm.symm)
  have ha2 : a ∈ l := hp.mem_iff.1 ha
  have hb2 : b ∈ l := sortM_perm.mem_iff.1 hb
  obtain ⟨i, hi, rfl⟩ := List.getElem_of_mem ha2
  obtain ⟨j, hj, rfl⟩ := List.getElem_of_mem hb2
  have hk := key_eq h2 h1
  have hk' := key_eq h1 h2
  rcases Nat.lt_trichotomy i j with h | h | h
  · have := List.pairwise_iff_getElem.1 hd i j hi hj h
    rw [hk] at this
    exact Bool.noConfusion this
  · subst h; rfl
  · have := List.pairwise_iff_getElem.1 hd j i hj hi h
    rw [hk'] at this
    exact Bool.noConfusion this
end Go.Proofs
