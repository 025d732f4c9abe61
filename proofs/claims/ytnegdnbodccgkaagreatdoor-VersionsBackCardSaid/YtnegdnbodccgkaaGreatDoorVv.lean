import Derived.Test.YtnegdnbodccgkaaGreatDoorP1
import Derived.Test.YtnegdnbodccgkaaGreatDoorQ6
import Derived.Test.YtnegdnbodccgkaaGreatDoorDa
import Derived.Test.YtnegdnbodccgkaaGreatDoorTz
set_option linter.unusedVariables false
set_option linter.unusedSimpArgs false
namespace Go.Proofs
open Go Go.Sx
variable {mx : Int} {pb : Bool}

/-! the parts of a database; what they give a code point -/
inductive Pt where
  | pr (p : Pr)
  | cl (l : List Sp)
  | st (l : List Rg)
  | mp (l : List Mp)
def partOf (d : Db) : Nat → Pt
  | 0 => .pr (d.prs 0)
  | 1 => .pr (d.prs 1)
  | 2 => .pr (d.prs 2)
  | 3 => .pr (d.prs 3)
  | 4 => .pr (d.prs 4)
  | 5 => .pr (d.prs 5)
  | 6 => .pr (d.prs 6)
  | 7 => .cl d.cls
  | 8 => .mp (d.mps 0)
  | 9 => .st (d.sts 0)
  | 10 => .mp (d.mps 1)
  | 11 => .mp (d.mps 2)
  | 12 => .mp (d.mps 3)
  | 13 => .mp (d.mps 4)
  | 14 => .st (d.sts 1)
  | 15 => .st (d.sts 2)
  | 16 => .st (d.sts 3)
  | 17 => .st (d.sts 4)
  | 18 => .st (d.sts 5)
  | _ => .mp (d.mps 5)
def ptR : Pt → List Rg
  | .pr p => p.spans.map fun s => (s.lo, s.hi)
  | .cl l => l.map fun s => (s.lo, s.hi)
  | .st l => l
  | .mp l => l.map fun m => (m.frm, m.frm)
def decK : Nat → Nat → List UInt8
  | 0, _ => []
  | f + 1, n => if n < 10 then [UInt8.ofNat (48 + n)] else decK f (n / 10) ++ [UInt8.ofNat (48 + n % 10)]
def decB (n : Int) : ByteArray := ⟨⟨decK 20 n.toNat⟩⟩
def yesS : ByteArray := ⟨#[121, 101, 115]⟩
def noS : ByteArray := ⟨#[110, 111]⟩
def yesB (b : Bool) : ByteArray := if b = true then yesS else noS
def barS : ByteArray := ⟨#[124]⟩
def gtS : ByteArray := ⟨#[62]⟩
def tgtS (c : Int) (st : ByteArray × Bool) (m : Mp) : ByteArray × Bool :=
  if m.frm = c then (bcat (bcat (bcat (if st.2 = true then bcat st.1 barS else st.1) m.tag) gtS) (codesS m.to), true) else st
def tgtK (l : List Mp) (c : Int) : Nat → ByteArray × Bool
  | 0 => (⟨#[]⟩, false)
  | k + 1 => tgtS c (tgtK l c k) (l.getD k default)
def tgtV (l : List Mp) (c : Int) : ByteArray := (tgtK l c l.length).1
noncomputable def ptV : Pt → Int → ByteArray
  | .pr p, c => nameV p c
  | .cl l, c => decB (valL l c)
  | .st l, c => yesB (hasB l c)
  | .mp l, c => tgtV l c

/-! within the cuts they give one value -/
theorem in_const {rs : List Rg} {s t : Int} (h0 : 0 ≤ s) (ht : t ≤ 1114111) (hcut : ∀ r ∈ rs, ∀ x ∈ stepL [] r, ¬ (s < x ∧ x ≤ t)) {c : Int} (hc : s ≤ c ∧ c ≤ t) : ∀ r ∈ rs, (r.1 ≤ c ∧ c ≤ r.2) ↔ (r.1 ≤ s ∧ s ≤ r.2) := by
  intro r hr
  have h1 : 0 ≤ r.1 → r.1 ≤ 1114111 → ¬ (s < r.1 ∧ r.1 ≤ t) := fun a b => hcut r hr r.1 (mem_stepL.2 (.inr (.inl ⟨a, b, rfl⟩)))
  have h2 : 0 ≤ r.2 → r.2 < 1114111 → ¬ (s < r.2 + 1 ∧ r.2 + 1 ≤ t) := fun a b => hcut r hr (r.2 + 1) (mem_stepL.2 (.inl ⟨a, b, rfl⟩))
  omega
theorem valL_const {c s : Int} : ∀ {l : List Sp}, (∀ x ∈ l, (x.lo ≤ c ∧ c ≤ x.hi) ↔ (x.lo ≤ s ∧ s ≤ x.hi)) → valL l c = valL l s
  | [], _ => rfl
  | x :: l, h => by
    have ih := valL_const (l := l) (fun y hy => h y (by simp [hy]))
    have hx := h x (by simp)
    unfold valL at ih ⊢
    rw [List.find?_cons, List.find?_cons]
    by_cases hc : x.lo ≤ c ∧ c ≤ x.hi
    · rw [decide_eq_true hc, decide_eq_true (hx.1 hc)]
    · rw [decide_eq_false hc, decide_eq_false (fun e => hc (hx.2 e))]
      exact ih
theorem tgtK_const {c s : Int} {l : List Mp} (h : ∀ x ∈ l, x.frm = c ↔ x.frm = s) : ∀ k, k ≤ l.length → tgtK l c k = tgtK l s k
  | 0, _ => rfl
  | k + 1, hk => by
    rw [tgtK, tgtK, tgtK_const h k (by omega)]
    have hx := h _ (getD_mem (show k < l.length by omega))
    unfold tgtS
    by_cases e : (l.getD k default).frm = c
    · rw [if_pos e, if_pos (hx.1 e)]
    · rw [if_neg e, if_neg (fun e' => e (hx.2 e'))]
theorem ptV_const {P : Pt} {s t : Int} (h0 : 0 ≤ s) (ht : t ≤ 1114111) (hcut : ∀ r ∈ ptR P, ∀ x ∈ stepL [] r, ¬ (s < x ∧ x ≤ t)) {c : Int} (hc : s ≤ c ∧ c ≤ t) (hv : ∀ p, P = .pr p → validP p = true) : ptV P c = ptV P s := by
  have hi := in_const h0 ht hcut hc
  cases P with
  | pr p =>
    have hp := cntP_t (hv p rfl)
    show nameV p c = nameV p s
    unfold nameV getV
    rw [hp, valL_const (l := p.spans) (fun x hx => hi (x.lo, x.hi) (List.mem_map.2 ⟨x, hx, rfl⟩))]
  | cl l =>
    show decB (valL l c) = decB (valL l s)
    rw [valL_const (l := l) (fun x hx => hi (x.lo, x.hi) (List.mem_map.2 ⟨x, hx, rfl⟩))]
  | st l =>
    show yesB (hasB l c) = yesB (hasB l s)
    rw [has_const (rs := l) h0 ht hcut hc]
  | mp l =>
    show (tgtK l c l.length).1 = (tgtK l s l.length).1
    have key : ∀ x ∈ l, x.frm = c ↔ x.frm = s := fun x hx => by
      have := hi (x.frm, x.frm) (List.mem_map.2 ⟨x, hx, rfl⟩)
      simp only at this
      omega
    rw [tgtK_const key _ (Nat.le_refl _)]

/-! pieces -/
structure Pc where
  lo : Int
  hi : Int
  s : ByteArray
instance : Inhabited Pc := ⟨⟨0, 0, ⟨#[]⟩⟩⟩
def pcV (other : ByteArray) (ps : List Pc) (c : Int) : ByteArray := match ps.find? (fun p => decide (p.lo ≤ c ∧ c ≤ p.hi)) with | some p => p.s | none => other
/-- Ascending pieces from a bound on. -/
def AscP : Int → List Pc → Prop
  | b, [] => b ≤ 1114112
  | b, p :: ps => b ≤ p.lo ∧ p.lo ≤ p.hi ∧ p.hi ≤ 1114111 ∧ AscP (p.hi + 1) ps
/-- Pieces that cover all from a bound on, with the values of v. -/
def Tiles (v : Int → ByteArray) : Int → List Pc → Prop
  | b, [] => b = 1114112
  | b, p :: ps => p.lo ≤ b ∧ b ≤ p.hi ∧ p.hi ≤ 1114111 ∧ (∀ c, b ≤ c → c ≤ p.hi → v c = p.s) ∧ Tiles v (p.hi + 1) ps
def segsP (other : ByteArray) : Int → List Pc → List Pc
  | b, [] => if b ≤ 1114111 then [⟨b, 1114111, other⟩] else []
  | b, p :: ps => if b < p.lo then ⟨b, p.lo - 1, other⟩ :: p :: segsP other (p.hi + 1) ps else p :: segsP other (p.hi + 1) ps
theorem AscP.le : ∀ {ps : List Pc} {b : Int}, AscP b ps → b ≤ 1114112
  | [], _, h => h
  | p :: ps, b, h => by have h1 := h.1; have h2 := h.2.1; have h3 := h.2.2.1; omega
theorem AscP.mem : ∀ {ps : List Pc} {b : Int} {q : Pc}, AscP b ps → q ∈ ps → b ≤ q.lo ∧ q.lo ≤ q.hi ∧ q.hi ≤ 1114111
  | [], _, _, _, h => by simp at h
  | p :: ps, b, q, h, hq => by
    rcases List.mem_cons.1 hq with rfl | hq
    · exact ⟨h.1, h.2.1, h.2.2.1⟩
    · have := AscP.mem h.2.2.2 hq
      have h1 := h.1; have h2 := h.2.1
      omega
theorem pcV_cons_no {o : ByteArray} {p : Pc} {ps : List Pc} {c : Int} (h : ¬ (p.lo ≤ c ∧ c ≤ p.hi)) : pcV o (p :: ps) c = pcV o ps c := by
  unfold pcV
  rw [List.find?_cons, decide_eq_false h]
theorem pcV_cons_yes {o : ByteArray} {p : Pc} {ps : List Pc} {c : Int} (h : p.lo ≤ c ∧ c ≤ p.hi) : pcV o (p :: ps) c = p.s := by
  unfold pcV
  rw [List.find?_cons, decide_eq_true h]
theorem pcV_none {o : ByteArray} {ps : List Pc} {c : Int} (h : ∀ p ∈ ps, ¬ (p.lo ≤ c ∧ c ≤ p.hi)) : pcV o ps c = o := by
  unfold pcV
  rw [List.find?_eq_none.2 (fun p hp => by simpa using h p hp)]
theorem tiles_congr {v v' : Int → ByteArray} : ∀ {l : List Pc} {b : Int}, Tiles v b l → (∀ c, b ≤ c → v c = v' c) → Tiles v' b l
  | [], _, h, _ => h
  | p :: l, b, h, hv => ⟨h.1, h.2.1, h.2.2.1, fun c h1 h2 => by rw [← hv c h1]; exact h.2.2.2.1 c h1 h2, tiles_congr h.2.2.2.2 (fun c hc => hv c (by have := h.2.1; omega))⟩
theorem segs_tiles {o : ByteArray} : ∀ {ps : List Pc} {b : Int}, AscP b ps → Tiles (pcV o ps) b (segsP o b ps)
  | [], b, h => by
    unfold segsP
    split
    · rename_i hb
      exact ⟨Int.le_refl _, hb, Int.le_refl _, fun c _ _ => rfl, rfl⟩
    · have h : b ≤ 1114112 := h
      show b = 1114112
      omega
  | p :: ps, b, h => by
    have h1 := h.1; have h2 := h.2.1; have h3 := h.2.2.1
    have ih := segs_tiles (o := o) h.2.2.2
    have ih' : Tiles (pcV o (p :: ps)) (p.hi + 1) (segsP o (p.hi + 1) ps) := tiles_congr ih fun c hc => (pcV_cons_no (by omega)).symm
    have hp : ∀ c, p.lo ≤ c → c ≤ p.hi → pcV o (p :: ps) c = p.s := fun c a b => pcV_cons_yes ⟨a, b⟩
    unfold segsP
    split
    · refine ⟨Int.le_refl _, by show b ≤ p.lo - 1; omega, by show p.lo - 1 ≤ _; omega, fun c hc1 hc2 => ?_, ?_⟩
      · have hc2 : c ≤ p.lo - 1 := hc2
        rw [pcV_cons_no (by omega)]
        exact pcV_none fun q hq hh => by have := h.2.2.2.mem hq; omega
      · show Tiles _ (p.lo - 1 + 1) (p :: segsP o (p.hi + 1) ps)
        rw [Int.sub_add_cancel]
        exact ⟨Int.le_refl _, h2, h3, hp, ih'⟩
    · exact ⟨by omega, by omega, h3, fun c hc1 hc2 => hp c (by omega) hc2, ih'⟩
end Go.Proofs
