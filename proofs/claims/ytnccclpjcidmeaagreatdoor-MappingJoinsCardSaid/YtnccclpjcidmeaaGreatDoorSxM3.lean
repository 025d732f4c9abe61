import Derived.Test.YtnccclpjcidmeaaGreatDoorSxM2
namespace Go.Sx
open Go Go.RowKit

/-! ### any order that the edges let -/

def unl : Nat → (Nat → Bool) → Nat
  | 0, _ => 0
  | n + 1, f => unl n f + if f n then 0 else 1

theorem unl_set {f f' : Nat → Bool} {i : Nat} (hi : f i = false) (hi' : f' i = true) (ho : ∀ j, j ≠ i → f' j = f j) : ∀ n, i < n → unl n f' + 1 = unl n f
  | 0, h => by omega
  | n + 1, h => by
    simp only [unl]
    by_cases hn : n = i
    · subst hn
      have : unl n f' = unl n f := by
        have : ∀ m, m ≤ n → unl m f' = unl m f := by
          intro m
          induction m with
          | zero => intro _; rfl
          | succ m ih => intro hm; simp only [unl, ih (by omega), ho m (by omega)]
        exact this n (Nat.le_refl _)
      simp [this, hi, hi']
    · have := unl_set hi hi' ho n (by omega)
      rw [ho n hn]
      omega

theorem unl_zero {f : Nat → Bool} : ∀ n, unl n f = 0 → ∀ i, i < n → f i = true
  | 0, _, i, h => by omega
  | n + 1, h, i, hi => by
    simp only [unl] at h
    by_cases hn : i = n
    · subst hn
      cases hf : f i with
      | true => rfl
      | false => rw [hf] at h; simp at h
    · exact unl_zero n (by omega) i (by omega)

def LS (listed : Array Bool) : Nat → Prop := fun j => listed.getD j false = true

theorem mem_deps {o : Oper} {d : Nat} : d ∈ deps o ↔ ∃ e ∈ o.after, Region.binds .any e = true ∧ e.on = d := by
  simp only [deps, List.mem_filterMap]
  constructor
  · rintro ⟨e, he, h⟩
    split at h
    · rename_i hb; simp at h; exact ⟨e, by simpa using he, hb, h⟩
    · simp at h
  · rintro ⟨e, he, hb, rfl⟩
    exact ⟨e, by simpa using he, by simp [hb]⟩

theorem getD_in {l : Array Bool} {i : Nat} (h : i < l.size) : l.getD i true = l.getD i false := by
  simp [Array.getD_eq_getD_getElem?, h]

theorem LS_set {l : Array Bool} {i : Nat} (h : i < l.size) (j : Nat) : LS (l.setIfInBounds i true) j ↔ j = i ∨ LS l j := by
  unfold LS
  by_cases hj : j = i
  · subst hj; simp [Array.getD_eq_getD_getElem?, h]
  · rw [getD_set_ne false (fun e => hj e.symm)]
    simp [hj]

section
variable {P : Program} {ops : Array Oper} {Q : Exit → Act → World → Prop} {ro : Option Nat} {n : Nat}

theorem ready_iff {listed : Array Bool} (hsz : listed.size = ops.size) {i : Nat} : i ∈ Region.ready .any ops listed ↔ ∃ o, ops[i]? = some o ∧ ¬ LS listed i ∧ ∀ d ∈ deps o, LS listed d := by
  rw [mem_ready]
  constructor
  · rintro ⟨h0, o, ho, h1⟩
    have hi : i < listed.size := by rw [hsz]; exact (Array.getElem?_eq_some_iff.1 ho).1
    refine ⟨o, ho, ?_, fun d hd => ?_⟩
    · unfold LS; rw [← getD_in hi, h0]; simp
    · obtain ⟨e, he, hb, rfl⟩ := mem_deps.1 hd
      exact h1 e he hb
  · rintro ⟨o, ho, h0, h1⟩
    have hi : i < listed.size := by rw [hsz]; exact (Array.getElem?_eq_some_iff.1 ho).1
    refine ⟨by rw [getD_in hi]; unfold LS at h0; simpa using h0, o, ho, fun e he hb => h1 _ (mem_deps.2 ⟨e, he, hb, rfl⟩)⟩

theorem closed_set {listed : Array Bool} (hsz : listed.size = ops.size) (hcl : Closed ops.toList (LS listed)) {i : Nat} {o : Oper} (ho : ops[i]? = some o) (hd : ∀ d ∈ deps o, LS listed d) : Closed ops.toList (LS (listed.setIfInBounds i true)) := by
  have hi : i < listed.size := by rw [hsz]; exact (Array.getElem?_eq_some_iff.1 ho).1
  intro j q hj hS d hdq
  rw [LS_set hi] at hS ⊢
  rcases hS with rfl | hS
  · have hj' : ops[j]? = some q := by simpa using hj
    rw [ho] at hj'; simp at hj'; subst hj'
    exact .inr (hd d hdq)
  · exact .inr (hcl j q hj hS d hdq)

/-- Behind the head all comes in the text's order. -/
theorem tail_order (hback : ∀ (i : Nat) (o : Oper), ops[i]? = some o → ∀ d ∈ deps o, d < i) {p : Nat} (htail : ∀ q, p ≤ q → q < ops.size → ∀ i, i < q → ((masks ops.toList []).getD q 0).testBit i = true) :
    ∀ (fuel q : Nat) (listed : Array Bool) (a : Act) (w : World), listed.size = ops.size → p ≤ q → q ≤ ops.size → (∀ i, LS listed i ↔ i < q) → ops.size - q ≤ fuel → wpOpsIn (FW ro) n P ops Q (List.range' q (ops.size - q)) a w →
      wpAnyIn (FW ro) n P .any ops Q fuel listed a w := by
  intro fuel
  induction fuel with
  | zero =>
    intro q listed a w hsz hpq hq hl hf h
    have hqe : q = ops.size := by omega
    subst hqe
    simp [wpOpsIn] at h
    refine ⟨?_, h⟩
    rw [List.eq_nil_iff_forall_not_mem]
    intro i hi
    obtain ⟨o, ho, h0, _⟩ := (ready_iff hsz).1 hi
    exact h0 ((hl i).2 (Array.getElem?_eq_some_iff.1 ho).1)
  | succ fuel ih =>
    intro q listed a w hsz hpq hq hl hf h
    have hcl : Closed ops.toList (LS listed) := by
      intro j o hj hS d hd
      have := hback j o (by simpa using hj) d hd
      have := (hl j).1 hS
      exact (hl d).2 (by omega)
    have hready : ∀ i, i ∈ Region.ready .any ops listed → i = q := by
      intro i hi
      obtain ⟨o, ho, h0, hd⟩ := (ready_iff hsz).1 hi
      have hi' := (Array.getElem?_eq_some_iff.1 ho).1
      rw [hl] at h0
      rcases Nat.lt_or_ge q i with hlt | hge
      · have hb := htail i (by omega) hi' q hlt
        have := masks_before hcl (by simpa using ho) hb hd
        rw [hl] at this; omega
      · omega
    rcases Nat.lt_or_ge q ops.size with hlt | hge
    · have hoq : ops[q]? = some ops[q] := by simp [hlt]
      have hqr : q ∈ Region.ready .any ops listed := (ready_iff hsz).2 ⟨_, hoq, by rw [hl]; omega, fun d hd => (hl d).2 (hback q _ hoq d hd)⟩
      refine ⟨fun he => by rw [he] at hqr; simp at hqr, fun i hi => ?_⟩
      obtain rfl := hready i hi
      rw [show ops.size - i = (ops.size - (i + 1)) + 1 by omega, List.range'_succ, wpOpsIn_cons] at h
      refine wpOpIn_mono (fun a' w' h' => ?_) h
      refine ih (i + 1) _ a' w' (by simp [hsz]) (by omega) (by omega) (fun j => ?_) (by omega) h'
      rw [LS_set (by omega), hl]; omega
    · have hqe : q = ops.size := by omega
      subst hqe
      simp [wpOpsIn] at h
      refine ⟨fun _ => h, fun i hi => ?_⟩
      have := hready i hi
      obtain ⟨o, ho, _⟩ := (ready_iff hsz).1 hi
      have := (Array.getElem?_eq_some_iff.1 ho).1
      omega

/-- The head in whatever order, then the rest. -/
theorem any_order (hback : ∀ (i : Nat) (o : Oper), ops[i]? = some o → ∀ d ∈ deps o, d < i) {p : Nat} (hp : p ≤ ops.size) (htail : ∀ q, p ≤ q → q < ops.size → ∀ i, i < q → ((masks ops.toList []).getD q 0).testBit i = true)
    {Good : (Nat → Prop) → Act → World → Prop}
    (hstep : ∀ (listed : Array Bool) (a : Act) (w : World) (i : Nat) (o : Oper), listed.size = ops.size → Closed ops.toList (LS listed) → i < p → ops[i]? = some o → ¬ LS listed i → (∀ d ∈ deps o, LS listed d) → (∀ q, LS listed q → q < p) → Good (LS listed) a w →
      wpOpIn (FW ro) n P ops Q i (Good (LS (listed.setIfInBounds i true))) a w)
    (hdone : ∀ (listed : Array Bool) (a : Act) (w : World), (∀ i, LS listed i ↔ i < p) → Good (LS listed) a w → wpOpsIn (FW ro) n P ops Q (List.range' p (ops.size - p)) a w) :
    ∀ (fuel : Nat) (listed : Array Bool) (a : Act) (w : World), listed.size = ops.size → Closed ops.toList (LS listed) → (∀ q, LS listed q → q < p) → unl ops.size (fun j => listed.getD j false) ≤ fuel → Good (LS listed) a w → wpAnyIn (FW ro) n P .any ops Q fuel listed a w := by
  have full : ∀ (listed : Array Bool), listed.size = ops.size → Closed ops.toList (LS listed) → (∀ q, LS listed q → q < p) → (∀ i, i < p → LS listed i) → ∀ i, LS listed i ↔ i < p := fun listed _ _ h1 h2 i => ⟨h1 i, h2 i⟩
  intro fuel
  induction fuel with
  | zero =>
    intro listed a w hsz hcl hq hf hg
    have hall := unl_zero ops.size (Nat.le_zero.1 hf)
    have hpe : p = ops.size := by
      rcases Nat.lt_or_ge p ops.size with h | h
      · have := hq p (hall p h); omega
      · omega
    exact tail_order hback htail 0 p listed a w hsz (Nat.le_refl _) hp (full listed hsz hcl hq (fun i hi => hall i (by omega))) (by omega) (hdone listed a w (full listed hsz hcl hq (fun i hi => hall i (by omega))) hg)
  | succ fuel ih =>
    intro listed a w hsz hcl hq hf hg
    by_cases hpre : ∀ i, i < p → LS listed i
    · refine tail_order hback htail (fuel + 1) p listed a w hsz (Nat.le_refl _) hp (full listed hsz hcl hq hpre) ?_ (hdone listed a w (full listed hsz hcl hq hpre) hg)
      have : ∀ m, p ≤ m → unl m (fun j => listed.getD j false) = m - p := by
        intro m
        induction m with
        | zero => intro h; simp [unl]
        | succ m ihm =>
          intro h
          simp only [unl]
          rcases Nat.lt_or_ge m p with h1 | h1
          · have hmp : p = m + 1 := by omega
            have : ∀ k, k ≤ p → unl k (fun j => listed.getD j false) = 0 := by
              intro k
              induction k with
              | zero => intro _; rfl
              | succ k ihk =>
                intro hk
                have := hpre k (by omega)
                unfold LS at this
                simp only [unl, ihk (by omega), this]; rfl
            have h2 := this (m + 1) (by omega)
            simp only [unl] at h2
            omega
          · rw [ihm h1]
            have hm : ¬ LS listed m := fun hh => by have := hq m hh; omega
            unfold LS at hm
            simp only [Bool.not_eq_true] at hm
            simp only [hm]
            simp
            omega
      rw [this ops.size hp] at hf
      exact hf
    · have hex : ∃ i, i < p ∧ ¬ LS listed i := by
        by_cases hh : ∃ i, i < p ∧ ¬ LS listed i
        · exact hh
        · exact absurd (fun i hi => by
            by_cases hl : LS listed i
            · exact hl
            · exact absurd ⟨i, hi, hl⟩ hh) hpre
      have hready : ∀ i, i ∈ Region.ready .any ops listed → i < p := by
        intro i hi
        obtain ⟨o, ho, h0, hd⟩ := (ready_iff hsz).1 hi
        have hi' := (Array.getElem?_eq_some_iff.1 ho).1
        rcases Nat.lt_or_ge i p with hlt | hge
        · exact hlt
        · obtain ⟨j, hj, hnj⟩ := hex
          exact absurd (masks_before hcl (by simpa using ho) (htail i hge hi' j (by omega)) hd) hnj
      have hne : Region.ready .any ops listed ≠ [] := by
        obtain ⟨m, ⟨hm1, hm2⟩, hmin⟩ := least (fun i => i < p ∧ ¬ LS listed i) hex
        have hom : ops[m]? = some (ops[m]'(by omega)) := by simp [show m < ops.size by omega]
        have : m ∈ Region.ready .any ops listed := (ready_iff hsz).2 ⟨_, hom, hm2, fun d hd => by
          have hlt := hback m _ hom d hd
          by_cases hl : LS listed d
          · exact hl
          · have := hmin d ⟨by omega, hl⟩; omega⟩
        intro he; rw [he] at this; simp at this
      refine ⟨fun he => absurd he hne, fun i hi => ?_⟩
      obtain ⟨o, ho, h0, hd⟩ := (ready_iff hsz).1 hi
      have hip := hready i hi
      have hi' := (Array.getElem?_eq_some_iff.1 ho).1
      refine wpOpIn_mono (fun a' w' h' => ?_) (hstep listed a w i o hsz hcl hip ho h0 hd hq hg)
      refine ih _ a' w' (by simp [hsz]) (closed_set hsz hcl ho hd) (fun q hqq => ?_) ?_ h'
      · rw [LS_set (by omega)] at hqq
        rcases hqq with rfl | hqq
        · exact hip
        · exact hq q hqq
      · have h1 : (fun j => listed.getD j false) i = false := by unfold LS at h0; simpa using h0
        have h2 : (fun j => (listed.setIfInBounds i true).getD j false) i = true := by
          have := (LS_set (l := listed) (i := i) (by omega) i).2 (.inl rfl)
          exact this
        have := unl_set (f := fun j => listed.getD j false) (f' := fun j => (listed.setIfInBounds i true).getD j false) h1 h2 (fun j hj => getD_set_ne false (fun e => hj e.symm)) ops.size hi'
        omega
end
end Go.Sx
