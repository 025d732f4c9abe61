import Derived.Test.YthfdmbmjjejbbaaGreatDoorCv
set_option linter.unusedVariables false
set_option linter.unusedSimpArgs false
namespace Go.Proofs
open Go Go.Sx
variable {mx : Int} {pb : Bool}

/-! transliteration rules: as data, small ones, their errors -/
structure Tl where
  bef : List (List Rg)
  mat : List (List Rg)
  aft : List (List Rg)
  res : List Rg
instance : Inhabited Tl := ⟨⟨[], [], [], []⟩⟩
def stD (l : List Rg) : Nat → D
  | 0 => rgsD l
  | _ => .junk
def stsD (L : List (List Rg)) : D := slD 1 stD L
def tlD (x : Tl) : Nat → D
  | 0 => stsD x.bef
  | 1 => stsD x.mat
  | 2 => stsD x.aft
  | 3 => rgsD x.res
  | _ => .junk
def tlA (x : Tl) : D := .ag [tlD x 0, tlD x 1, tlD x 2, tlD x 3]
def tlsD (l : List Tl) : D := slD 4 tlD l

/-! small -/
def smS (L : List (List Rg)) : Prop := L.length ≤ 10 ∧ ∀ i, i < L.length → (L.getD i default).length ≤ 12
def smT (x : Tl) : Prop := smS x.bef ∧ smS x.mat ∧ smS x.aft ∧ x.res.length ≤ 20
def smL (l : List Tl) : Prop := l.length ≤ 6 ∧ ∀ i, i < l.length → smT (l.getD i default)
open Classical in
noncomputable def smSB (L : List (List Rg)) : Bool := decide (smS L)
theorem smSB_t {L : List (List Rg)} (h : smS L) : true = smSB L := (@decide_eq_true _ (Classical.propDecidable _) h).symm
theorem smSB_f {L : List (List Rg)} (h : ¬ smS L) : false = smSB L := (@decide_eq_false _ (Classical.propDecidable _) h).symm
theorem smSB_iff {L : List (List Rg)} : smSB L = true ↔ smS L := by
  unfold smSB
  exact @decide_eq_true_iff _ (Classical.propDecidable _)
open Classical in
noncomputable def smLB (l : List Tl) : Bool := decide (smL l)
theorem smLB_t {l : List Tl} (h : smL l) : true = smLB l := (@decide_eq_true _ (Classical.propDecidable _) h).symm
theorem smLB_f {l : List Tl} (h : ¬ smL l) : false = smLB l := (@decide_eq_false _ (Classical.propDecidable _) h).symm
theorem smLB_iff {l : List Tl} : smLB l = true ↔ smL l := by
  unfold smLB
  exact @decide_eq_true_iff _ (Classical.propDecidable _)
noncomputable def ctSmS : Ct := { ι := List (List Rg), inp := fun L => [stsD L], out := fun L => .v (.bool (smSB L)), pre := fun _ => True }
noncomputable def ctSmL : Ct := { ι := List Tl, inp := fun l => [tlsD l], out := fun l => .v (.bool (smLB l)), pre := fun _ => True }

/-! errors -/
def okS (s : List Rg) : Prop := canon s = s ∧ ¬ s.length = 0
instance (s : List Rg) : Decidable (okS s) := inferInstanceAs (Decidable (_ ∧ _))
def rgtS (L : List (List Rg)) : Prop := ∀ i, i < L.length → okS (L.getD i default)
open Classical in
noncomputable def rgtB (L : List (List Rg)) : Bool := decide (rgtS L)
theorem rgtB_t {L : List (List Rg)} (h : rgtS L) : true = rgtB L := (@decide_eq_true _ (Classical.propDecidable _) h).symm
theorem rgtB_f {L : List (List Rg)} (h : ¬ rgtS L) : false = rgtB L := (@decide_eq_false _ (Classical.propDecidable _) h).symm
theorem rgtB_iff {L : List (List Rg)} : rgtB L = true ↔ rgtS L := by
  unfold rgtB
  exact @decide_eq_true_iff _ (Classical.propDecidable _)
theorem getD_mem' {α : Type} [Inhabited α] {l : List α} {i : Nat} (h : i < l.length) : l.getD i default ∈ l := by
  rw [List.getD_eq_getElem?_getD, List.getElem?_eq_getElem h]
  exact List.getElem_mem h
theorem rgtS_mem {L : List (List Rg)} : rgtS L ↔ ∀ s ∈ L, okS s := by
  constructor
  · intro h s hs
    obtain ⟨i, hi, rfl⟩ := List.getElem_of_mem hs
    have := h i hi
    rw [List.getD_eq_getElem?_getD, List.getElem?_eq_getElem hi] at this
    exact this
  · intro h i hi
    exact h _ (getD_mem' hi)
theorem rgtS_app {A B : List (List Rg)} : rgtS (A ++ B) ↔ rgtS A ∧ rgtS B := by
  rw [rgtS_mem, rgtS_mem, rgtS_mem]
  constructor
  · intro h
    exact ⟨fun s hs => h s (List.mem_append_left _ hs), fun s hs => h s (List.mem_append_right _ hs)⟩
  · rintro ⟨h, k⟩ s hs
    exact (List.mem_append.1 hs).elim (h s) (k s)
def szT (x : Tl) : Prop := 1 ≤ x.mat.length ∧ x.mat.length ≤ 8 ∧ x.bef.length ≤ 8 ∧ x.aft.length ≤ 8 ∧ x.res.length ≤ 16
instance (x : Tl) : Decidable (szT x) := inferInstanceAs (Decidable (_ ∧ _))
def setT3 (x : Tl) : Prop := rgtS x.bef ∧ rgtS x.mat ∧ rgtS x.aft
def pcOk (n : Nat) (p : Rg) : Prop := (p.2 = 0 ∧ validB p.1 = true) ∨ (p.1 = 0 ∧ 1 ≤ p.2 ∧ p.2 ≤ n)
instance (n : Nat) (p : Rg) : Decidable (pcOk n p) := inferInstanceAs (Decidable (_ ∨ _))
def pcsOk (x : Tl) : Prop := ∀ i, i < x.res.length → pcOk x.mat.length (x.res.getD i default)
open Classical in
noncomputable def oneE (x : Tl) : Int := if szT x then (if setT3 x then (if pcsOk x then 0 else 1) else 11) else 2
theorem oneE_size {x : Tl} (h : ¬ szT x) : oneE x = 2 := if_neg h
theorem oneE_data {x : Tl} (h : szT x) (k : ¬ setT3 x) : oneE x = 11 := by rw [oneE, if_pos h, if_neg k]
theorem oneE_range {x : Tl} (h : szT x) (k : setT3 x) (p : ¬ pcsOk x) : oneE x = 1 := by rw [oneE, if_pos h, if_pos k, if_neg p]
theorem oneE_ok {x : Tl} (h : szT x) (k : setT3 x) (p : pcsOk x) : oneE x = 0 := by rw [oneE, if_pos h, if_pos k, if_pos p]
noncomputable def chkE : List Tl → Int
  | [] => 0
  | x :: l => if oneE x = 0 then chkE l else oneE x
theorem chkE_at : ∀ {l : List Tl} {k : Nat}, k < l.length → (∀ j, j < k → oneE (l.getD j default) = 0) → ¬ oneE (l.getD k default) = 0 → chkE l = oneE (l.getD k default)
  | [], k, h, _, _ => by simp at h
  | x :: l, 0, _, _, h => if_neg h
  | x :: l, k + 1, hk, hn, h => by
    have h0 : oneE x = 0 := hn 0 (by omega)
    rw [chkE, if_pos h0]
    exact chkE_at (l := l) (by simpa using hk) (fun j hj => hn (j + 1) (by omega)) h
theorem chkE_0 : ∀ {l : List Tl}, (∀ j, j < l.length → oneE (l.getD j default) = 0) → chkE l = 0
  | [], _ => rfl
  | x :: l, h => by
    have h0 : oneE x = 0 := h 0 (by simp)
    rw [chkE, if_pos h0]
    exact chkE_0 (l := l) fun j hj => h (j + 1) (by simpa using hj)
noncomputable def ctRgt : Ct := { ι := List (List Rg), inp := fun L => [stsD L], out := fun L => .v (.bool (rgtB L)), pre := smS }
noncomputable def ctOneE : Ct := { ι := Tl, inp := fun x => [tlA x], out := fun x => .v (.int .i64 (oneE x)), pre := smT }
noncomputable def ctChkE : Ct := { ι := List Tl, inp := fun l => [tlsD l], out := fun l => .v (.int .i64 (chkE l)), pre := smL }
end Go.Proofs
