import Derived.Test.YtnegdnbodccgkaaGreatDoorFbz
import Derived.Test.YtnegdnbodccgkaaGreatDoorQ6
import Derived.Test.YtnegdnbodccgkaaGreatDoorEa
set_option linter.unusedVariables false
set_option linter.unusedSimpArgs false
namespace Go.Proofs
open Go Go.Sx
variable {mx : Int} {pb : Bool}

/-! valid databases; the files by their numbers -/
structure OkD (d : Db) : Prop where
  sm : SmD d
  ver : verOk d
  part : ∀ k, k < 20 → ptE (partOf d k) = 0
theorem okD_of {d : Db} (hs : SmD d) (h : dbE d = 0) : OkD d := by
  have hv : verOk d := by
    rcases Classical.em (verOk d) with hv | hv
    · exact hv
    · rw [dbE, if_neg hv] at h; omega
  rw [dbE, if_pos hv] at h
  exact ⟨hs, hv, fun k hk => firstE_all h (k + 1) (by omega)⟩
theorem OkD.pr {d : Db} (h : OkD d) {k : Nat} (hk : k < 7) : validP (d.prs k) = true := by
  have : ptE (.pr (d.prs k)) = 0 := by
    match k, hk with
    | 0, _ => exact h.part 0 (by decide)
    | 1, _ => exact h.part 1 (by decide)
    | 2, _ => exact h.part 2 (by decide)
    | 3, _ => exact h.part 3 (by decide)
    | 4, _ => exact h.part 4 (by decide)
    | 5, _ => exact h.part 5 (by decide)
    | 6, _ => exact h.part 6 (by decide)
  rcases Bool.eq_false_or_eq_true (validP (d.prs k)) with e | e
  · exact e
  · rw [ptE, if_neg (by rw [e]; decide)] at this; omega
theorem OkD.cl {d : Db} (h : OkD d) : clsOk d.cls := by
  have : ptE (.cl d.cls) = 0 := h.part 7 (by decide)
  rcases Bool.eq_false_or_eq_true (clsB d.cls) with e | e
  · exact clsB_iff.1 e
  · rw [ptE, if_neg (by rw [e]; decide)] at this; omega
theorem OkD.mp {d : Db} (h : OkD d) {k : Nat} (hk : k < 6) : checkE (d.mps k) = 0 := by
  match k, hk with
  | 0, _ => exact h.part 8 (by decide)
  | 1, _ => exact h.part 10 (by decide)
  | 2, _ => exact h.part 11 (by decide)
  | 3, _ => exact h.part 12 (by decide)
  | 4, _ => exact h.part 13 (by decide)
  | 5, _ => exact h.part 19 (by decide)
theorem OkD.st {d : Db} (h : OkD d) {k : Nat} (hk : k < 6) : canon (d.sts k) = d.sts k := by
  have : ptE (.st (d.sts k)) = 0 := by
    match k, hk with
    | 0, _ => exact h.part 9 (by decide)
    | 1, _ => exact h.part 14 (by decide)
    | 2, _ => exact h.part 15 (by decide)
    | 3, _ => exact h.part 16 (by decide)
    | 4, _ => exact h.part 17 (by decide)
    | 5, _ => exact h.part 18 (by decide)
  by_cases e : canon (d.sts k) = d.sts k
  · exact e
  · rw [ptE, if_neg e] at this; omega

/-! the reference's parts by their names -/
def mpOf : Pt → List Mp
  | .mp l => l
  | _ => []
def isMp : Pt → Bool
  | .mp _ => true
  | _ => false
def stOf : Pt → List Rg
  | .st l => l
  | _ => []
def isSt : Pt → Bool
  | .st _ => true
  | _ => false
def nmK (k : Nat) : ByteArray := filesL.getD (k + 1) default
def namesL : List ByteArray := filesL.drop 1
theorem names_nm {k : Nat} : namesL.getD k default = nmK k := by
  simp [namesL, nmK, List.getD_eq_getElem?_getD, Nat.add_comm]
theorem nm_inj : ∀ a, a < 20 → ∀ b, b < 20 → nmK a = nmK b → a = b := by decide +kernel
def ctTgt : Ct := { ι := List Mp × Int, inp := fun x => [mpsD x.1, .v (.int .i64 x.2)], out := fun x => .v (.string (tgtV x.1 x.2)), pre := fun x => x.1.length ≤ 20 ∧ ∀ k, k < x.1.length → allV (x.1.getD k default).to = true ∧ (x.1.getD k default).to.length ≤ 65 ∧ (x.1.getD k default).tag.size ≤ 40 }
def ctClsV : Ct := { ι := List Sp × Int, inp := fun x => [spsD x.1, .v (.int .i64 x.2)], out := fun x => .v (.string (decB (valL x.1 x.2))), pre := fun x => x.1.length ≤ 1000 ∧ ∀ k, k < x.1.length → 0 ≤ (x.1.getD k default).val ∧ (x.1.getD k default).val ≤ 254 }
theorem OkD.tgt {d : Db} (h : OkD d) {k : Nat} (hk : k < 6) (c : Int) : ctTgt.pre (d.mps k, c) := by
  have h1 := small_facts (h.sm.mps k hk)
  have h2 := parts_codes (check_codes (h.mp hk))
  refine ⟨h1.1, fun j hj => ⟨?_, ?_, ?_⟩⟩
  · have := all_at h2.1 hj
    simp only [codesB, Bool.and_eq_true] at this
    exact this.1
  · exact (h1.2 j hj).1
  · exact (h1.2 j hj).2
theorem OkD.clsV {d : Db} (h : OkD d) (c : Int) : ctClsV.pre (d.cls, c) := by
  have h1 := h.sm.cls
  refine ⟨by show d.cls.length ≤ 1000; omega, fun k hk => ?_⟩
  have := (h.cl k hk).1
  unfold clsIn at this
  show 0 ≤ (d.cls.getD k default).val ∧ (d.cls.getD k default).val ≤ 254
  omega
def chD (x : Ch) : Nat → D
  | 0 => .v (.string x.what)
  | 1 => .v (.int .i64 x.lo)
  | 2 => .v (.int .i64 x.hi)
  | 3 => .v (.string x.old)
  | 4 => .v (.string x.new)
  | _ => .junk
def chsD (l : List Ch) : D := slD 5 chD l
theorem ptR_len {d : Db} (hd : SmD d) {k : Nat} (hk : k < 20) : (ptR (partOf d k)).length ≤ 20 := by
  match k, hk with
  | 0, _ =>
    show ((d.prs 0).spans.map _).length ≤ 20
    have := (hd.prs 0 (by decide)).2
    simp; omega
  | 1, _ =>
    show ((d.prs 1).spans.map _).length ≤ 20
    have := (hd.prs 1 (by decide)).2
    simp; omega
  | 2, _ =>
    show ((d.prs 2).spans.map _).length ≤ 20
    have := (hd.prs 2 (by decide)).2
    simp; omega
  | 3, _ =>
    show ((d.prs 3).spans.map _).length ≤ 20
    have := (hd.prs 3 (by decide)).2
    simp; omega
  | 4, _ =>
    show ((d.prs 4).spans.map _).length ≤ 20
    have := (hd.prs 4 (by decide)).2
    simp; omega
  | 5, _ =>
    show ((d.prs 5).spans.map _).length ≤ 20
    have := (hd.prs 5 (by decide)).2
    simp; omega
  | 6, _ =>
    show ((d.prs 6).spans.map _).length ≤ 20
    have := (hd.prs 6 (by decide)).2
    simp; omega
  | 7, _ =>
    show (d.cls.map _).length ≤ 20
    have := hd.cls
    simp; omega
  | 8, _ =>
    show ((d.mps 0).map _).length ≤ 20
    have := (small_facts (hd.mps 0 (by decide))).1
    simp; omega
  | 9, _ =>
    show (d.sts 0).length ≤ 20
    have := hd.sts 0 (by decide)
    omega
  | 10, _ =>
    show ((d.mps 1).map _).length ≤ 20
    have := (small_facts (hd.mps 1 (by decide))).1
    simp; omega
  | 11, _ =>
    show ((d.mps 2).map _).length ≤ 20
    have := (small_facts (hd.mps 2 (by decide))).1
    simp; omega
  | 12, _ =>
    show ((d.mps 3).map _).length ≤ 20
    have := (small_facts (hd.mps 3 (by decide))).1
    simp; omega
  | 13, _ =>
    show ((d.mps 4).map _).length ≤ 20
    have := (small_facts (hd.mps 4 (by decide))).1
    simp; omega
  | 14, _ =>
    show (d.sts 1).length ≤ 20
    have := hd.sts 1 (by decide)
    omega
  | 15, _ =>
    show (d.sts 2).length ≤ 20
    have := hd.sts 2 (by decide)
    omega
  | 16, _ =>
    show (d.sts 3).length ≤ 20
    have := hd.sts 3 (by decide)
    omega
  | 17, _ =>
    show (d.sts 4).length ≤ 20
    have := hd.sts 4 (by decide)
    omega
  | 18, _ =>
    show (d.sts 5).length ≤ 20
    have := hd.sts 5 (by decide)
    omega
  | 19, _ =>
    show ((d.mps 5).map _).length ≤ 20
    have := (small_facts (hd.mps 5 (by decide))).1
    simp; omega
  | k0 + 20, h => exact absurd (show k0 + 20 < 20 from h) (by omega)
theorem part_valid {d : Db} (hd : OkD d) {k : Nat} (hk : k < 20) : ∀ p, partOf d k = .pr p → validP p = true := by
  match k, hk with
  | 0, _ =>
    intro p hp
    obtain rfl := Pt.pr.inj (show Pt.pr (d.prs 0) = .pr p from hp)
    exact hd.pr (by decide)
  | 1, _ =>
    intro p hp
    obtain rfl := Pt.pr.inj (show Pt.pr (d.prs 1) = .pr p from hp)
    exact hd.pr (by decide)
  | 2, _ =>
    intro p hp
    obtain rfl := Pt.pr.inj (show Pt.pr (d.prs 2) = .pr p from hp)
    exact hd.pr (by decide)
  | 3, _ =>
    intro p hp
    obtain rfl := Pt.pr.inj (show Pt.pr (d.prs 3) = .pr p from hp)
    exact hd.pr (by decide)
  | 4, _ =>
    intro p hp
    obtain rfl := Pt.pr.inj (show Pt.pr (d.prs 4) = .pr p from hp)
    exact hd.pr (by decide)
  | 5, _ =>
    intro p hp
    obtain rfl := Pt.pr.inj (show Pt.pr (d.prs 5) = .pr p from hp)
    exact hd.pr (by decide)
  | 6, _ =>
    intro p hp
    obtain rfl := Pt.pr.inj (show Pt.pr (d.prs 6) = .pr p from hp)
    exact hd.pr (by decide)
  | 7, _ =>
    intro p hp
    exact Pt.noConfusion (show Pt.cl d.cls = .pr p from hp)
  | 8, _ =>
    intro p hp
    exact Pt.noConfusion (show Pt.mp (d.mps 0) = .pr p from hp)
  | 9, _ =>
    intro p hp
    exact Pt.noConfusion (show Pt.st (d.sts 0) = .pr p from hp)
  | 10, _ =>
    intro p hp
    exact Pt.noConfusion (show Pt.mp (d.mps 1) = .pr p from hp)
  | 11, _ =>
    intro p hp
    exact Pt.noConfusion (show Pt.mp (d.mps 2) = .pr p from hp)
  | 12, _ =>
    intro p hp
    exact Pt.noConfusion (show Pt.mp (d.mps 3) = .pr p from hp)
  | 13, _ =>
    intro p hp
    exact Pt.noConfusion (show Pt.mp (d.mps 4) = .pr p from hp)
  | 14, _ =>
    intro p hp
    exact Pt.noConfusion (show Pt.st (d.sts 1) = .pr p from hp)
  | 15, _ =>
    intro p hp
    exact Pt.noConfusion (show Pt.st (d.sts 2) = .pr p from hp)
  | 16, _ =>
    intro p hp
    exact Pt.noConfusion (show Pt.st (d.sts 3) = .pr p from hp)
  | 17, _ =>
    intro p hp
    exact Pt.noConfusion (show Pt.st (d.sts 4) = .pr p from hp)
  | 18, _ =>
    intro p hp
    exact Pt.noConfusion (show Pt.st (d.sts 5) = .pr p from hp)
  | 19, _ =>
    intro p hp
    exact Pt.noConfusion (show Pt.mp (d.mps 5) = .pr p from hp)
  | k0 + 20, h => exact absurd (show k0 + 20 < 20 from h) (by omega)
end Go.Proofs
