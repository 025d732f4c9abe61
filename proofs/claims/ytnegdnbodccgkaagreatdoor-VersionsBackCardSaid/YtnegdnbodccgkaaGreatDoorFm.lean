import Derived.Test.YtnegdnbodccgkaaGreatDoorVv
import Derived.Test.YtnegdnbodccgkaaGreatDoorQ5
set_option linter.unusedVariables false
set_option linter.unusedSimpArgs false
namespace Go.Proofs
open Go Go.Sx
variable {mx : Int} {pb : Bool}

/-! pieces of mappings: plain -/
theorem bcat_assoc' (a b c : ByteArray) : bcat (bcat a b) c = bcat a (bcat b c) := by
  show (⟨⟨(a.data.toList ++ b.data.toList) ++ c.data.toList⟩⟩ : ByteArray) = ⟨⟨a.data.toList ++ (b.data.toList ++ c.data.toList)⟩⟩
  rw [List.append_assoc]
theorem nil_bcat (a : ByteArray) : bcat ⟨#[]⟩ a = a := by
  rcases a with ⟨⟨l⟩⟩
  rfl
def mpS (m : Mp) : ByteArray := bcat (bcat m.tag gtS) (codesS m.to)
def lastP (ps : List Pc) : Pc := ps.getD (ps.length - 1) default
def addM (ps : List Pc) (m : Mp) : List Pc :=
  if 0 < ps.length ∧ (lastP ps).lo = m.frm then ps.set (ps.length - 1) ⟨(lastP ps).lo, (lastP ps).hi, bcat (lastP ps).s (bcat barS (mpS m))⟩ else ps ++ [⟨m.frm, m.frm, mpS m⟩]
def mpK (l : List Mp) : Nat → List Pc
  | 0 => []
  | k + 1 => addM (mpK l k) (l.getD k default)
theorem addM_len (ps : List Pc) (m : Mp) : (addM ps m).length ≤ ps.length + 1 := by
  unfold addM
  split <;> simp
theorem mpK_len (l : List Mp) : ∀ k, (mpK l k).length ≤ k
  | 0 => Nat.le_refl _
  | k + 1 => by
    have h1 := mpK_len l k
    have h2 := addM_len (mpK l k) (l.getD k default)
    simp only [mpK]; omega
theorem lastP_snoc (init : List Pc) (z : Pc) : lastP (init ++ [z]) = z := by simp [lastP, List.getD_eq_getElem?_getD]
theorem mpK_size {l : List Mp} {B : Nat} (h : ∀ k, k < l.length → (mpS (l.getD k default)).size ≤ B) : ∀ k, k ≤ l.length → ∀ p ∈ mpK l k, p.s.size ≤ k * (B + 1)
  | 0, _, p, hp => by simp [mpK] at hp
  | k + 1, hk, p, hp => by
    have ih := mpK_size h k (by omega)
    have hb := h k (by omega)
    have e : (k + 1) * (B + 1) = k * (B + 1) + (B + 1) := by rw [Nat.add_mul]; omega
    rw [mpK] at hp
    unfold addM at hp
    split at hp
    · rename_i hc
      obtain ⟨init, hi⟩ := snoc_of hc.1 (default : Pc)
      change mpK l k = init ++ [lastP (mpK l k)] at hi
      generalize lastP (mpK l k) = z at hi hp
      rw [hi] at hp ih
      rw [show (init ++ [z]).set ((init ++ [z]).length - 1) ⟨z.lo, z.hi, bcat z.s (bcat barS (mpS (l.getD k default)))⟩ = init ++ [⟨z.lo, z.hi, bcat z.s (bcat barS (mpS (l.getD k default)))⟩] from by simp [List.set_append_right]] at hp
      rcases List.mem_append.1 hp with hp | hp
      · have := ih p (by simp [hp]); omega
      · simp at hp; subst hp
        have := ih z (by simp)
        show (bcat z.s (bcat barS (mpS (l.getD k default)))).size ≤ _
        rw [bcat_size', bcat_size', show barS.size = 1 from rfl]
        omega
    · rcases List.mem_append.1 hp with hp | hp
      · have := ih p hp; omega
      · simp at hp; subst hp
        show (mpS (l.getD k default)).size ≤ _
        omega
theorem pcV_snoc_no {o : ByteArray} {ps : List Pc} {p : Pc} {c : Int} (h : ¬ (p.lo ≤ c ∧ c ≤ p.hi)) : pcV o (ps ++ [p]) c = pcV o ps c := by
  unfold pcV
  rw [List.find?_append]
  have : [p].find? (fun p => decide (p.lo ≤ c ∧ c ≤ p.hi)) = none := by rw [List.find?_cons, decide_eq_false h]; rfl
  rw [this, Option.or_none]
theorem pcV_snoc_yes {o : ByteArray} {ps : List Pc} {p : Pc} {c : Int} (h : p.lo ≤ c ∧ c ≤ p.hi) (hn : ∀ q ∈ ps, ¬ (q.lo ≤ c ∧ c ≤ q.hi)) : pcV o (ps ++ [p]) c = p.s := by
  unfold pcV
  rw [List.find?_append, List.find?_eq_none.2 (fun q hq => by simpa using hn q hq)]
  have : [p].find? (fun p => decide (p.lo ≤ c ∧ c ≤ p.hi)) = some p := by rw [List.find?_cons, decide_eq_true h]
  rw [this]
  rfl
/-- What the pieces are like behind k mappings. -/
structure MpInv (l : List Mp) (k : Nat) (ps : List Pc) : Prop where
  one : ∀ p ∈ ps, p.lo = p.hi ∧ 0 ≤ p.lo ∧ p.lo ≤ 1114111
  asc : ps.Pairwise (fun p q => p.lo < q.lo)
  last : 0 < k → 0 < ps.length ∧ (lastP ps).lo = (l.getD (k - 1) default).frm
  val : ∀ c, pcV ⟨#[]⟩ ps c = (tgtK l c k).1 ∧ ((tgtK l c k).2 = true ↔ ∃ p ∈ ps, p.lo = c)
theorem asc_last {ps : List Pc} (h : ps.Pairwise (fun p q => p.lo < q.lo)) {p : Pc} (hp : p ∈ ps) : p.lo ≤ (lastP ps).lo := by
  have h0 : 0 < ps.length := List.length_pos_of_mem hp
  obtain ⟨init, hi⟩ := snoc_of h0 (default : Pc)
  change ps = init ++ [lastP ps] at hi
  generalize lastP ps = z at hi ⊢
  subst hi
  rcases List.mem_append.1 hp with hp | hp
  · have := (List.pairwise_append.1 h).2.2 p hp z (by simp); omega
  · simp at hp; subst hp; exact Int.le_refl _
theorem mp_inv {l : List Mp} (hv : ∀ k, k < l.length → 0 ≤ (l.getD k default).frm ∧ (l.getD k default).frm ≤ 1114111) (hs : ∀ k, k + 1 < l.length → (l.getD k default).frm ≤ (l.getD (k + 1) default).frm) : ∀ k, k ≤ l.length → MpInv l k (mpK l k)
  | 0, _ => ⟨fun p hp => by simp [mpK] at hp, List.Pairwise.nil, fun h => by omega, fun c => ⟨rfl, by simp [tgtK, mpK]⟩⟩
  | k + 1, hk => by
    have ih := mp_inv hv hs k (by omega)
    have hvk := hv k (by omega)
    have hle : 0 < k → (l.getD (k - 1) default).frm ≤ (l.getD k default).frm := fun h0 => by
      have := hs (k - 1) (by omega)
      rwa [show k - 1 + 1 = k from by omega] at this
    rw [mpK]
    generalize mpK l k = ps at ih ⊢
    have htk : ∀ c, tgtK l c (k + 1) = tgtS c (tgtK l c k) (l.getD k default) := fun _ => rfl
    generalize hm : l.getD k default = m at hvk hle htk ⊢
    by_cases hc : 0 < ps.length ∧ (lastP ps).lo = m.frm
    · rw [addM, if_pos hc]
      obtain ⟨init, hi⟩ := snoc_of hc.1 (default : Pc)
      change ps = init ++ [lastP ps] at hi
      have hc2 := hc.2
      generalize lastP ps = z at hi hc2 ⊢
      subst hi
      rw [show (init ++ [z]).set ((init ++ [z]).length - 1) ⟨z.lo, z.hi, bcat z.s (bcat barS (mpS m))⟩ = init ++ [⟨z.lo, z.hi, bcat z.s (bcat barS (mpS m))⟩] from by simp [List.set_append_right]]
      have hz := ih.one z (by simp)
      have hp := List.pairwise_append.1 ih.asc
      have hno : ∀ q ∈ init, ¬ (q.lo ≤ m.frm ∧ m.frm ≤ q.hi) := fun q hq => by
        have h1 := hp.2.2 q hq z (by simp)
        have h2 := ih.one q (by simp [hq])
        omega
      refine ⟨fun p hpm => ?_, List.pairwise_append.2 ⟨hp.1, List.pairwise_singleton _ _, fun a ha b hb => ?_⟩, fun _ => ⟨by simp, ?_⟩, fun c => ?_⟩
      · rcases List.mem_append.1 hpm with hpm | hpm
        · exact ih.one p (by simp [hpm])
        · simp at hpm; subst hpm; exact hz
      · simp at hb; subst hb; exact hp.2.2 a ha z (by simp)
      · rw [lastP_snoc, Nat.add_sub_cancel, hm]
        exact hc2
      · have hval := ih.val c
        rw [htk c, tgtS]
        by_cases hcf : m.frm = c
        · rw [if_pos hcf]
          subst hcf
          have hst : (tgtK l m.frm k).2 = true := hval.2.2 ⟨z, by simp, hc2⟩
          have h1 : pcV ⟨#[]⟩ (init ++ [z]) m.frm = z.s := pcV_snoc_yes (by omega) hno
          refine ⟨?_, by simp; exact .inr hc2⟩
          rw [pcV_snoc_yes (by show z.lo ≤ _ ∧ _ ≤ z.hi; omega) hno, if_pos hst, ← hval.1, h1]
          show bcat z.s (bcat barS (bcat (bcat m.tag gtS) (codesS m.to))) = _
          simp only [bcat_assoc']
        · rw [if_neg hcf]
          have hne : ¬ (z.lo ≤ c ∧ c ≤ z.hi) := by omega
          refine ⟨?_, ?_⟩
          · rw [pcV_snoc_no (p := ⟨z.lo, z.hi, bcat z.s (bcat barS (mpS m))⟩) hne, ← hval.1, pcV_snoc_no (p := z) hne]
          · rw [hval.2]
            simp
    · rw [addM, if_neg hc]
      have hgt : ∀ q ∈ ps, q.lo < m.frm := fun q hq => by
        have h0 : 0 < ps.length := List.length_pos_of_mem hq
        have h1 := asc_last ih.asc hq
        have hk0 : 0 < k := by
          rcases Nat.eq_zero_or_pos k with h | h
          · subst h
            have := ih.val q.lo
            have h2 := this.2.2 ⟨q, hq, rfl⟩
            simp [tgtK] at h2
          · exact h
        have h2 := (ih.last hk0).2
        have h3 := hle hk0
        have h4 : ¬ (lastP ps).lo = m.frm := fun e => hc ⟨h0, e⟩
        omega
      have hno : ∀ q ∈ ps, ¬ (q.lo ≤ m.frm ∧ m.frm ≤ q.hi) := fun q hq => by
        have h1 := hgt q hq
        have h2 := ih.one q hq
        omega
      refine ⟨fun p hpm => ?_, List.pairwise_append.2 ⟨ih.asc, List.pairwise_singleton _ _, fun a ha b hb => ?_⟩, fun _ => ⟨by simp, ?_⟩, fun c => ?_⟩
      · rcases List.mem_append.1 hpm with hpm | hpm
        · exact ih.one p hpm
        · simp at hpm; subst hpm; exact ⟨rfl, hvk.1, hvk.2⟩
      · simp at hb; subst hb; exact hgt a ha
      · rw [lastP_snoc, Nat.add_sub_cancel, hm]
      · have hval := ih.val c
        rw [htk c, tgtS]
        by_cases hcf : m.frm = c
        · rw [if_pos hcf]
          subst hcf
          have hst : ¬ (tgtK l m.frm k).2 = true := fun h => by
            obtain ⟨q, hq, e⟩ := hval.2.1 h
            have := hgt q hq
            omega
          have h1 : pcV ⟨#[]⟩ ps m.frm = ⟨#[]⟩ := pcV_none hno
          refine ⟨?_, by simp⟩
          rw [pcV_snoc_yes ⟨Int.le_refl _, Int.le_refl _⟩ hno, if_neg hst, ← hval.1, h1, nil_bcat]
          rfl
        · rw [if_neg hcf]
          have hne : ¬ (m.frm ≤ c ∧ c ≤ m.frm) := by omega
          refine ⟨?_, ?_⟩
          · rw [pcV_snoc_no hne]; exact hval.1
          · rw [hval.2]
            simp [hcf]

/-! ascending pieces; their values -/
theorem ascP_of : ∀ {ps : List Pc} {b : Int}, b ≤ 1114112 → (∀ p ∈ ps, b ≤ p.lo ∧ p.lo ≤ p.hi ∧ p.hi ≤ 1114111) → ps.Pairwise (fun p q => p.hi < q.lo) → AscP b ps
  | [], b, hb, _, _ => hb
  | p :: ps, b, hb, h, hs => by
    have hp := h p (by simp)
    have hc := List.pairwise_cons.1 hs
    refine ⟨hp.1, hp.2.1, hp.2.2, ascP_of (by omega) (fun q hq => ?_) hc.2⟩
    have h1 := hc.1 q hq
    have h2 := h q (by simp [hq])
    omega
theorem find_map {α : Type} (f : α → Pc) (c : Int) (q : α → Bool) (l : List α) (h : ∀ a ∈ l, decide ((f a).lo ≤ c ∧ c ≤ (f a).hi) = q a) : (l.map f).find? (fun p => decide (p.lo ≤ c ∧ c ≤ p.hi)) = (l.find? q).map f := by
  induction l with
  | nil => rfl
  | cons a l ih =>
    have ih := ih (fun b hb => h b (by simp [hb]))
    rw [List.map_cons, List.find?_cons, List.find?_cons, h a (by simp), ih]
    cases q a <;> rfl
end Go.Proofs
