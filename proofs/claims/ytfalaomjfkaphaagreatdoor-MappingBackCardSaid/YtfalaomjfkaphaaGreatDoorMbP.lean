import Derived.Test.YtfalaomjfkaphaaGreatDoorPPz
import Derived.Test.YtfalaomjfkaphaaGreatDoorT17
import Derived.Test.YtfalaomjfkaphaaGreatDoorMiP
set_option linter.unusedVariables false
set_option linter.unusedSimpArgs false
namespace Go.Proofs
open Go Go.Sx

/-! mapping.Parse: plain -/
noncomputable def bdF (x : Ln) : Bool := one1 x || !fdB (fld x)
noncomputable def bgR (x : Ln) : Bool := decide (64 < (fdT (fld x)).length) || decide (1024 < x.hi - x.lo + 1)
noncomputable def rwM (x : Ln) (i : Nat) : Mp := ⟨x.lo + i, fdT (fld x), fdG (fld x)⟩
def rwN (x : Ln) : Nat := (x.hi - x.lo + 1).toNat
noncomputable def rwL (x : Ln) : List Mp := (List.range (rwN x)).map (rwM x)
noncomputable def rwsL (L : List Ln) : List Mp := L.flatMap rwL
def clP (L : List Ln) (i : Nat) : Prop := ∃ k, k < i ∧ fdG (fld (L.getD k default)) = fdG (fld (L.getD i default)) ∧ (L.getD k default).lo ≤ (L.getD i default).hi ∧ (L.getD i default).lo ≤ (L.getD k default).hi
noncomputable def clB (L : List Ln) (i : Nat) : Bool := @decide (clP L i) (Classical.propDecidable _)
theorem cl_iff {L : List Ln} {i : Nat} : clB L i = true ↔ clP L i := ⟨fun h => @of_decide_eq_true _ (Classical.propDecidable _) h, fun h => @decide_eq_true _ (Classical.propDecidable _) h⟩
noncomputable def mrO (s : ByteArray) : List Ln × Int × Int :=
  if (linesP s).2.1 = 0 then
    match (linesP s).1.find? bdF with
    | some x => ([], 3, x.num)
    | none => match (linesP s).1.find? bgR with
      | some x => ([], 2, x.num)
      | none => ((linesP s).1, 0, 0)
  else ([], (linesP s).2.1, (linesP s).2.2)
noncomputable def mpO (s : ByteArray) : List Mp × Int × Int :=
  if (mrO s).2.1 = 0 then
    match (List.range (mrO s).1.length).find? (clB (mrO s).1) with
    | some i => ([], 5, ((mrO s).1.getD i default).num)
    | none => (sortM (rwsL (mrO s).1), 0, 0)
  else ([], (mrO s).2.1, (mrO s).2.2)
theorem mr_lines {s : ByteArray} (h : ¬ (linesP s).2.1 = 0) : mrO s = ([], (linesP s).2.1, (linesP s).2.2) := if_neg h
theorem mr_bad {s : ByteArray} {x : Ln} (h : (linesP s).2.1 = 0) (h1 : (linesP s).1.find? bdF = some x) : mrO s = ([], 3, x.num) := by
  rw [mrO, if_pos h, h1]
theorem mr_big {s : ByteArray} {x : Ln} (h : (linesP s).2.1 = 0) (h1 : (linesP s).1.find? bdF = none) (h2 : (linesP s).1.find? bgR = some x) : mrO s = ([], 2, x.num) := by
  rw [mrO, if_pos h, h1]
  simp only
  rw [h2]
theorem mr_ok {s : ByteArray} (h : (linesP s).2.1 = 0) (h1 : (linesP s).1.find? bdF = none) (h2 : (linesP s).1.find? bgR = none) : mrO s = ((linesP s).1, 0, 0) := by
  rw [mrO, if_pos h, h1]
  simp only
  rw [h2]
theorem mp_rows {s : ByteArray} (h : ¬ (mrO s).2.1 = 0) : mpO s = ([], (mrO s).2.1, (mrO s).2.2) := if_neg h
theorem range_at {n i : Nat} (h : i < n) : (List.range n).getD i default = i := by
  simp [List.getD_eq_getElem?_getD, h]
theorem mp_twice {s : ByteArray} {i : Nat} (h : (mrO s).2.1 = 0) (hi : i < (mrO s).1.length) (hn : ∀ j, j < i → ¬ clP (mrO s).1 j) (hc : clP (mrO s).1 i) : mpO s = ([], 5, ((mrO s).1.getD i default).num) := by
  have e : (List.range (mrO s).1.length).find? (clB (mrO s).1) = some i := by
    have := find_at (l := List.range (mrO s).1.length) (p := clB (mrO s).1) (k := i) (by simpa using hi) (fun j hj => by
      rw [range_at (by omega)]
      exact fun hh => hn j hj (cl_iff.1 hh)) (by rw [range_at hi]; exact cl_iff.2 hc)
    rwa [range_at hi] at this
  rw [mpO, if_pos h, e]
theorem mp_ok {s : ByteArray} (h : (mrO s).2.1 = 0) (hn : ∀ j, j < (mrO s).1.length → ¬ clP (mrO s).1 j) : mpO s = (sortM (rwsL (mrO s).1), 0, 0) := by
  have e : (List.range (mrO s).1.length).find? (clB (mrO s).1) = none := find_no fun j hj => by
    rw [List.length_range] at hj
    rw [range_at hj]
    exact fun hh => hn j hj (cl_iff.1 hh)
  rw [mpO, if_pos h, e]

/-! a field that has the form -/
theorem fd_good {s : ByteArray} (h : fdB s = true) : (fdG s = ⟨#[]⟩ ∨ isNameB (fdG s) = true) ∧ allV (fdT s) = true := by
  have h1 := rd_mp h
  have h2 := (rd_ok s).1 h
  have e1 : fdT s = (rdM s).to := by rw [h1]
  have e2 : fdG s = (rdM s).tag := by rw [h1]
  rw [e1, e2, rdM, if_neg h2.1]
  refine ⟨?_, ?_⟩
  · by_cases hL : fdL s = true
    · refine .inr ?_
      have hC : fdC s = true := by
        cases hc : fdC s with
        | true => rfl
        | false => exact absurd ⟨hL, by rw [hc]; decide⟩ h2.1
      simp only [fdC, Bool.and_eq_true] at hC
      show isNameB (if fdL s = true then fdN s else ⟨#[]⟩) = true
      rw [if_pos hL]
      exact hC.2
    · exact .inl (if_neg hL)
  · show allV (pcsT (rdP s)) = true
    rw [(pcs_yes (pcs_ok h2.2.1)).1]
    exact allV_pcs (pcs_ok h2.2.1)

/-! the rows of mappings -/
theorem rwL_len (x : Ln) : (rwL x).length = rwN x := by simp [rwL]
theorem rwL_at {x : Ln} {i : Nat} (h : i < rwN x) : (rwL x).getD i default = rwM x i := by
  simp [rwL, List.getD_eq_getElem?_getD, h]
theorem rwL_mem {x : Ln} {m : Mp} : m ∈ rwL x ↔ ∃ i, i < rwN x ∧ rwM x i = m := by simp [rwL]
theorem rws_mem {L : List Ln} {k : Nat} (hk : k ≤ L.length) {m : Mp} : m ∈ rwsL (L.take k) ↔ ∃ j, j < k ∧ ∃ i, i < rwN (L.getD j default) ∧ rwM (L.getD j default) i = m := by
  unfold rwsL
  rw [List.mem_flatMap]
  constructor
  · rintro ⟨x, hx, hm⟩
    obtain ⟨j, hj, rfl⟩ := List.getElem_of_mem hx
    rw [List.length_take] at hj
    rw [List.getElem_take] at hm
    refine ⟨j, by omega, ?_⟩
    have e : L.getD j default = L[j]'(by omega) := by simp [List.getD_eq_getElem?_getD, show j < L.length by omega]
    rw [e]
    exact rwL_mem.1 hm
  · rintro ⟨j, hj, hm⟩
    have e : L.getD j default = L[j]'(by omega) := by simp [List.getD_eq_getElem?_getD, show j < L.length by omega]
    rw [e] at hm
    refine ⟨L[j]'(by omega), ?_, rwL_mem.2 hm⟩
    rw [List.mem_take_iff_getElem]
    exact ⟨j, by omega, rfl⟩
theorem rws_snoc {L : List Ln} {k : Nat} (hk : k < L.length) : rwsL (L.take (k + 1)) = rwsL (L.take k) ++ rwL (L.getD k default) := by
  rw [take_at hk]
  simp [rwsL]
theorem rwL_snoc {x : Ln} {i : Nat} (h : i < rwN x) : (rwL x).take (i + 1) = (rwL x).take i ++ [rwM x i] := by
  rw [take_at (by rw [rwL_len]; exact h), rwL_at h]
theorem rws_len {L : List Ln} (h : ∀ x ∈ L, rwN x ≤ 1024) : ∀ k, k ≤ L.length → (rwsL (L.take k)).length ≤ 1024 * k
  | 0, _ => by simp [rwsL]
  | k + 1, hk => by
    have := rws_len h k (by omega)
    have h2 := h _ (mem_getD (show k < L.length by omega))
    rw [rws_snoc (by omega), List.length_append, rwL_len]
    omega
/-- A code point of a line that an earlier line has with the same tag. -/
theorem cl_of {L : List Ln} (hok : ∀ x ∈ L, x.lo ≤ x.hi) {k : Nat} (hk : k < L.length) : (∃ i, i < rwN (L.getD k default) ∧ ∃ m, m ∈ rwsL (L.take k) ∧ m.frm = (L.getD k default).lo + i ∧ m.tag = fdG (fld (L.getD k default))) ↔ clP L k := by
  have ok1 := hok _ (mem_getD hk)
  constructor
  · rintro ⟨i, hi, m, hm, h1, h2⟩
    obtain ⟨j, hj, a, ha, rfl⟩ := (rws_mem (Nat.le_of_lt hk)).1 hm
    have h1 : (L.getD j default).lo + a = (L.getD k default).lo + i := h1
    refine ⟨j, hj, h2, ?_, ?_⟩
    · unfold rwN at hi; omega
    · unfold rwN at ha; omega
  · rintro ⟨j, hj, h1, h2, h3⟩
    have ok2 := hok _ (mem_getD (show j < L.length by omega))
    refine ⟨(max (L.getD j default).lo (L.getD k default).lo - (L.getD k default).lo).toNat, ?_, rwM (L.getD j default) (max (L.getD j default).lo (L.getD k default).lo - (L.getD j default).lo).toNat, (rws_mem (Nat.le_of_lt hk)).2 ⟨j, hj, _, ?_, rfl⟩, ?_, h1⟩
    · unfold rwN; omega
    · unfold rwN; omega
    · show (L.getD j default).lo + _ = _
      omega
theorem keyN {a b : Mp} (h : ¬ (a.frm = b.frm ∧ a.tag = b.tag)) : sameK a b = false := by
  cases hs : sameK a b with
  | false => rfl
  | true => exact absurd (sameK_iff.1 hs) h
theorem rws_dup {L : List Ln} (hok : ∀ x ∈ L, x.lo ≤ x.hi) (hn : ∀ j, j < L.length → ¬ clP L j) : dupB (rwsL L) = false := by
  rw [dup_pair]
  unfold rwsL
  rw [List.pairwise_flatMap]
  refine ⟨fun x _ => ?_, ?_⟩
  · unfold rwL
    rw [List.pairwise_map]
    refine List.Pairwise.imp (fun {a b} hab => keyN fun h => ?_) List.pairwise_lt_range
    have h : x.lo + (a : Int) = x.lo + (b : Int) := h.1
    omega
  · rw [List.pairwise_iff_getElem]
    intro i j hi hj hij x hx y hy
    refine keyN fun h => ?_
    obtain ⟨a, ha, rfl⟩ := rwL_mem.1 hx
    obtain ⟨b, hb, rfl⟩ := rwL_mem.1 hy
    have ei : L.getD i default = L[i] := by simp [List.getD_eq_getElem?_getD, hi]
    have ej : L.getD j default = L[j] := by simp [List.getD_eq_getElem?_getD, hj]
    refine hn j hj ⟨i, hij, ?_, ?_, ?_⟩
    · rw [ei, ej]; exact h.2
    · have h := h.1
      rw [ei, ej]
      simp only [rwM] at h
      unfold rwN at ha hb
      omega
    · have h := h.1
      rw [ei, ej]
      simp only [rwM] at h
      unfold rwN at ha hb
      omega
theorem parts_zero {l : List Mp} (h1 : l.all codesB = true) (h2 : l.all sizeB = true) (h3 : l.all tagB = true) : partsE l = 0 := by
  simp [partsE, h1, h2, h3]
theorem uns_of {l : List Mp} (h : partsE l = 0) (hd : dupB l = false) : unsortedE l = 0 := by
  simp [unsortedE, h, hd]
theorem rws_parts {L : List Ln} (hok : ∀ x ∈ L, okLn x) (hf : ∀ x ∈ L, fdB (fld x) = true) (hb : ∀ x ∈ L, (fdT (fld x)).length ≤ 64) : partsE (rwsL L) = 0 := by
  have key : ∀ m ∈ rwsL L, codesB m = true ∧ sizeB m = true ∧ tagB m = true := by
    intro m hm
    unfold rwsL at hm
    obtain ⟨x, hx, hm⟩ := List.mem_flatMap.1 hm
    obtain ⟨i, hi, rfl⟩ := rwL_mem.1 hm
    obtain ⟨g1, g2⟩ := fd_good (hf x hx)
    obtain ⟨o1, o2, o3⟩ := hok x hx
    rw [validB_iff] at o1 o2
    refine ⟨?_, ?_, ?_⟩
    · unfold codesB
      have e1 : (rwM x i).to.all validB = true := g2
      have e2 : validB (rwM x i).frm = true := by
        rw [validB_iff]
        show 0 ≤ x.lo + (i : Int) ∧ x.lo + (i : Int) ≤ 1114111
        unfold rwN at hi
        omega
      rw [e1, e2]; rfl
    · exact decide_eq_true (hb x hx)
    · unfold tagB
      show (eqB (fdG (fld x)) ⟨#[]⟩ || isNameB (fdG (fld x))) = true
      rcases g1 with g | g
      · rw [eqB_iff.2 g]; rfl
      · rw [g, Bool.or_true]
  exact parts_zero (List.all_eq_true.2 fun m hm => (key m hm).1) (List.all_eq_true.2 fun m hm => (key m hm).2.1) (List.all_eq_true.2 fun m hm => (key m hm).2.2)
/-- Two ascending orders of mappings with keys of their own are one. -/
theorem sort_one' {l m : List Mp} (h : dupB l = false) (hp : m.Perm l) (hu : upM m) : m = sortM l := by
  have hs : upM (sortM l) := by
    unfold upM
    rw [List.pairwise_iff_getElem]
    intro i j hi hj hij
    have := sortM_asc (l := l) i j hij hj
    rw [ltM_less, List.getD_eq_getElem?_getD, List.getD_eq_getElem?_getD, List.getElem?_eq_getElem hi, List.getElem?_eq_getElem hj] at this
    exact this
  have hd := dup_pair.1 h
  refine List.Perm.eq_of_pairwise (le := fun a b : Mp => lessB b a = false) (fun a b ha hb h1 h2 => ?_) hu hs (hp.trans sortM_perm.symm)
  have ha2 : a ∈ l := hp.mem_iff.1 ha
  have hb2 : b ∈ l := sortM_perm.mem_iff.1 hb
  obtain ⟨i, hi, rfl⟩ := List.getElem_of_mem ha2
  obtain ⟨j, hj, rfl⟩ := List.getElem_of_mem hb2
  have hk := key_eq h2 h1
  have hk' := key_eq h1 h2
  rcases Nat.lt_trichotomy i j with h | h | h
  · have := List.pairwise_iff_getElem.1 hd i j hi hj h
    rw [hk] at this
    exact Bool.noConfusion this
  · subst h; rfl
  · have := List.pairwise_iff_getElem.1 hd j i hj hi h
    rw [hk'] at this
    exact Bool.noConfusion this

/-! the facts of a text that is read -/
theorem find_all {α : Type} {p : α → Bool} {l : List α} (h : l.find? p = none) : ∀ x ∈ l, p x = false := fun x hx => by
  have := List.find?_eq_none.1 h x hx
  simpa using this
theorem mr_facts {s : ByteArray} (h : (mrO s).2.1 = 0) : (mrO s).1 = (linesP s).1 ∧ (mrO s).2.2 = 0 ∧ (linesP s).2.1 = 0 ∧ ∀ x ∈ (mrO s).1, okLn x ∧ x.fields.length = 1 ∧ fdB (fld x) = true ∧ (fdT (fld x)).length ≤ 64 ∧ x.hi - x.lo + 1 ≤ 1024 := by
  by_cases h0 : (linesP s).2.1 = 0
  · cases h1 : (linesP s).1.find? bdF with
    | some x => rw [mr_bad h0 h1] at h; exact absurd h (show ¬ (3 : Int) = 0 by decide)
    | none =>
      cases h2 : (linesP s).1.find? bgR with
      | some x => rw [mr_big h0 h1 h2] at h; exact absurd h (show ¬ (2 : Int) = 0 by decide)
      | none =>
        rw [mr_ok h0 h1 h2]
        refine ⟨rfl, rfl, h0, fun x hx => ?_⟩
        have a1 := find_all h1 x hx
        have a2 := find_all h2 x hx
        simp only [bdF, Bool.or_eq_false_iff, Bool.not_eq_false', one1, beq_iff_eq, bgR, decide_eq_false_iff_not] at a1 a2
        exact ⟨((linesP_ok s).1 x hx).1, a1.1, a1.2, by omega, by omega⟩
  · rw [mr_lines h0] at h
    exact absurd h h0
theorem mr_e (s : ByteArray) : 0 ≤ (mrO s).2.1 ∧ ((mrO s).2.1 = 0 ∨ (mrO s).1 = []) := by
  by_cases h0 : (linesP s).2.1 = 0
  · cases h1 : (linesP s).1.find? bdF with
    | some x => rw [mr_bad h0 h1]; exact ⟨(show (0 : Int) ≤ 3 by decide), .inr rfl⟩
    | none =>
      cases h2 : (linesP s).1.find? bgR with
      | some x => rw [mr_big h0 h1 h2]; exact ⟨(show (0 : Int) ≤ 2 by decide), .inr rfl⟩
      | none => rw [mr_ok h0 h1 h2]; exact ⟨Int.le_refl _, .inl rfl⟩
  · rw [mr_lines h0]
    exact ⟨(linesP_ok s).2.2.2.1, .inr rfl⟩
theorem mr_len (s : ByteArray) : (mrO s).1.length ≤ s.size + 1 := by
  rcases (mr_e s).2 with h | h
  · rw [(mr_facts h).1]; exact (linesP_ok s).2.1
  · rw [h]; simp
theorem mr_cases (s : ByteArray) : ((mrO s).2.1 = 0 ∧ ∀ j, j < (mrO s).1.length → ¬ clP (mrO s).1 j) ∨ (¬ (mpO s).2.1 = 0 ∧ (mpO s).1 = []) := by
  by_cases h : (mrO s).2.1 = 0
  · by_cases hn : ∀ j, j < (mrO s).1.length → ¬ clP (mrO s).1 j
    · exact .inl ⟨h, hn⟩
    · refine .inr ?_
      rw [mpO, if_pos h]
      cases hf : (List.range (mrO s).1.length).find? (clB (mrO s).1) with
      | some i => exact ⟨(show ¬ (5 : Int) = 0 by decide), rfl⟩
      | none =>
        refine absurd (fun j hj => ?_) hn
        have := find_all hf j (by simpa using hj)
        exact fun hc => by rw [cl_iff.2 hc] at this; exact Bool.noConfusion this
  · rw [mp_rows h]
    exact .inr ⟨h, rfl⟩
/-- What is read without a fault is valid. -/
theorem mp_check {s : ByteArray} (h : (mpO s).2.1 = 0) : checkE (mpO s).1 = 0 ∧ mpO s = (sortM (rwsL (mrO s).1), 0, 0) ∧ (mrO s).2.1 = 0 := by
  rcases mr_cases s with ⟨h0, hn⟩ | ⟨h0, _⟩
  · rw [mp_ok h0 hn]
    obtain ⟨e1, e2, e3, hf⟩ := mr_facts h0
    refine ⟨?_, rfl, h0⟩
    rw [check_sort]
    exact uns_of (rws_parts (fun x hx => (hf x hx).1) (fun x hx => (hf x hx).2.2.1) (fun x hx => (hf x hx).2.2.2.1)) (rws_dup (fun x hx => (hf x hx).1.2.2) hn)
  · exact absurd h h0
theorem mp_e (s : ByteArray) : 0 ≤ (mpO s).2.1 ∧ ((mpO s).2.1 = 0 ∨ (mpO s).1 = []) := by
  rcases mr_cases s with ⟨h0, hn⟩ | ⟨h0, h1⟩
  · rw [mp_ok h0 hn]; exact ⟨Int.le_refl _, .inl rfl⟩
  · refine ⟨?_, .inr h1⟩
    unfold mpO
    split
    · split
      · exact (show (0 : Int) ≤ 5 by decide)
      · exact Int.le_refl _
    · exact (mr_e s).1
end Go.Proofs
