import Derived.Test.YtcihhjjmcompkaaGreatDoorDz
import Derived.Test.YtcihhjjmcompkaaGreatDoorSoz
import Derived.Test.YtcihhjjmcompkaaGreatDoorP1
set_option linter.unusedVariables false
set_option linter.unusedSimpArgs false
namespace Go.Proofs
open Go Go.Sx
variable {mx : Int} {pb : Bool}
def clsIn (s : Sp) : Prop := 0 ≤ s.lo ∧ s.lo ≤ s.hi ∧ s.hi ≤ 1114111 ∧ 1 ≤ s.val ∧ s.val ≤ 254
def clsAt (l : List Sp) (i : Nat) : Prop := clsIn (l.getD i default) ∧ (0 < i → spAft (l.getD (i - 1) default) (l.getD i default))
def clsOk (l : List Sp) : Prop := ∀ i, i < l.length → clsAt l i
open Classical in
noncomputable def clsB (l : List Sp) : Bool := decide (clsOk l)
theorem clsB_t {l : List Sp} (h : clsOk l) : true = clsB l := (@decide_eq_true _ (Classical.propDecidable _) h).symm
theorem clsB_f {l : List Sp} (h : ¬ clsOk l) : false = clsB l := (@decide_eq_false _ (Classical.propDecidable _) h).symm
theorem clsB_iff {l : List Sp} : clsB l = true ↔ clsOk l := by
 unfold clsB
 exact @decide_eq_true_iff _ (Classical.propDecidable _)
noncomputable def ptE : Pt → Int
 | .pr p => if validP p = true then 0 else 11
 | .cl l => if clsB l = true then 0 else 11
 | .st l => if canon l = l then 0 else 11
 | .mp l => checkE l
noncomputable def fileE (d : Db) : Nat → Int
 | 0 => 0
 | k + 1 => ptE (partOf d k)
noncomputable def firstE (d : Db) : Int := match (List.range 21).find? (fun k => decide (fileE d k ≠ 0)) with | some k => fileE d k | none => 0
theorem firstE_at {d : Db} {k : Nat} (hk : k < 21) (hn : ∀ j, j < k → fileE d j = 0) (h : ¬ fileE d k = 0) : firstE d = fileE d k := by
 have : (List.range 21).find? (fun k => decide (fileE d k ≠ 0)) = some k := by
  rw [List.find?_range_eq_some]
  refine ⟨decide_eq_true h, List.mem_range.2 hk, fun j hj => ?_⟩
  rw [decide_eq_false (fun hh => hh (hn j hj))]
  rfl
 rw [firstE, this]
theorem firstE_0 {d : Db} (hn : ∀ j, j < 21 → fileE d j = 0) : firstE d = 0 := by
 have : (List.range 21).find? (fun k => decide (fileE d k ≠ 0)) = none := by
  rw [List.find?_eq_none]
  intro j hj
  rw [decide_eq_false (fun hh => hh (hn j (List.mem_range.1 hj)))]
  decide
 rw [firstE, this]
theorem firstE_all {d : Db} (h : firstE d = 0) : ∀ j, j < 21 → fileE d j = 0 := by
 intro j hj
 cases hf : (List.range 21).find? (fun k => decide (fileE d k ≠ 0)) with
 | none =>
  rw [List.find?_eq_none] at hf
  have := hf j (List.mem_range.2 hj)
  simpa using this
 | some k =>
  have h1 := List.find?_some hf
  rw [firstE, hf] at h
  simp at h1
  exact absurd h h1
def verOk (d : Db) : Prop := 0 ≤ d.maj ∧ d.maj ≤ 9999 ∧ 0 ≤ d.mnr ∧ d.mnr ≤ 9999
instance (d : Db) : Decidable (verOk d) := inferInstanceAs (Decidable (_ ∧ _))
noncomputable def dbE (d : Db) : Int := if verOk d then firstE d else 1
noncomputable def ctDbE : Ct := { ι := Db, inp := fun d => [dbA d], out := fun d => .v (.int .i64 (dbE d)), pre := SmD }
noncomputable def ctCls : Ct := { ι := List Sp, inp := fun l => [spsD l], out := fun l => .v (.bool (clsB l)), pre := fun l => l.length ≤ 1000000000 }
set_option maxHeartbeats 4000000 in
theorem rCls_ok : Sound Tryz.prog (GlT mx pb) 108 ctCls := by
 refine sound_by (cc := true) Γ0_ok Tryz.T_ok Tryz.mixed Tryz.func108 rfl (by kernel_rfl) (fun _ => rfl) (fun _ _ => by show 1 ≤ 76; decide) ?_
 intro (l : List Sp) (hl : l.length ≤ 1000000000)
 repeat' (first | refine gl ?_ | (first | refine br ?_ ?_ | refine brF ?_ ?_) <;> intro q_ <;> try simp only [nz] at q_)
 refine ⟨0, Nat, fun k => ⟨[(0, spsD l), (3, .v (.int .i64 k))], [], []⟩, fun k => k ≤ l.length ∧ ∀ i, i < k → clsAt l i, fun k => l.length - k, fun _ => Nat.zero_le _, ⟨0, ⟨Nat.zero_le _, fun j hj => by omega⟩, StLe.ren [] tmS trivial (by decide)⟩, ?_⟩
 rintro k ⟨hk, hd⟩
 by_cases hlt : k < l.length
 ·have ek : ((k : Int) - 1).toNat = k - 1 := by omega
  have no : ¬ clsAt l k → false = clsB l := fun h => clsB_f fun hh => h (hh k hlt)
  rcases Nat.eq_zero_or_pos k with h0 | h0
  ·repeat' (first | refine gl ?_ | (first | refine br ?_ ?_ | refine brF ?_ ?_) <;> intro q_ <;> try simp only [nz] at q_)
   all_goals first
    | exact EntR.bool (no fun h => by have h1 := h.1; unfold clsIn at h1; omega)
    | exact ⟨k + 1, ⟨by omega, next_of hd ⟨⟨by omega, by omega, by omega, by omega, by omega⟩, fun h => by omega⟩⟩, (by show _ - (k + 1) < _ - k; omega), StLe.ren [] tmS trivial (by decide)⟩
  ·have hb := (hd (k - 1) (by omega)).1
   unfold clsIn at hb
   have hb2 : (l.getD ((k : Int) - 1).toNat default).hi ≤ 1114111 := by rw [ek]; omega
   have hb3 : 0 ≤ (l.getD ((k : Int) - 1).toNat default).hi := by rw [ek]; omega
   repeat' (first | refine gl ?_ | (first | refine br ?_ ?_ | refine brF ?_ ?_) <;> intro q_ <;> try simp only [nz] at q_)
   all_goals try rw [ek] at *
   all_goals first
    | exact EntR.bool (no fun h => by have h1 := h.1; have h2 := h.2 h0; unfold clsIn at h1; unfold spAft at h2; omega)
    | exact ⟨k + 1, ⟨by omega, next_of hd ⟨⟨by omega, by omega, by omega, by omega, by omega⟩, fun _ => ⟨by omega, by omega⟩⟩⟩, (by show _ - (k + 1) < _ - k; omega), StLe.ren [] tmS trivial (by decide)⟩
 ·repeat' (first | refine gl ?_ | (first | refine br ?_ ?_ | refine brF ?_ ?_) <;> intro q_ <;> try simp only [nz] at q_)
  exact EntR.bool (clsB_t fun i hi => hd i (by omega))
def setOfI (s : ByteArray) : Int := if eqB s ⟨#[101, 120, 99, 108, 117, 115, 105, 111, 110, 115]⟩ = true then 0 else if eqB s ⟨#[99, 97, 115, 101, 100]⟩ = true then 1 else if eqB s ⟨#[105, 103, 110, 111, 114, 97, 98, 108, 101]⟩ = true then 2 else if eqB s ⟨#[115, 116, 97, 114, 116]⟩ = true then 3 else if eqB s ⟨#[99, 111, 110, 116, 105, 110, 117, 101]⟩ = true then 4 else if eqB s ⟨#[109, 101, 100, 105, 97, 108]⟩ = true then 5 else -1
def ctSetOf : Ct := { ι := ByteArray, inp := fun s => [.v (.string s)], out := fun s => .v (.int .i64 (setOfI s)), pre := fun _ => True }
set_option maxHeartbeats 2000000 in
theorem rSetOf_ok : Sound Tryz.prog (GlT mx pb) 109 ctSetOf := by
 refine sound_by (cc := true) Γ0_ok Tryz.T_ok Tryz.mixed Tryz.func109 rfl (by kernel_rfl) (fun _ => rfl) (fun _ _ => by show 1 ≤ 16; decide) ?_
 intro (s : ByteArray) _
 repeat' (first | refine gl ?_ | (first | refine br ?_ ?_ | refine brF ?_ ?_) <;> intro q_ <;> try simp only [nz] at q_)
 all_goals (refine EntR.int ?_; simp only [setOfI, eqB_iff]; simp_all)
def ctPart2 : Ct := { ι := Int, inp := fun n => [.v (.int .i64 n)], out := fun n => .v (.bool (decide (0 ≤ n ∧ n ≤ 9999))), pre := fun _ => True }
theorem rPart_ok : Sound Tryz.prog (GlT mx pb) 63 ctPart2 := by
 refine sound_by (cc := true) Γ0_ok Tryz.T_ok Tryz.mixed Tryz.func63 rfl (by kernel_rfl) (fun _ => rfl) (fun _ _ => by show 1 ≤ 9; decide) ?_
 intro (n : Int) _
 repeat' (first | refine gl ?_ | (first | refine br ?_ ?_ | refine brF ?_ ?_) <;> intro q_ <;> try simp only [nz] at q_)
 all_goals (refine EntR.bool ?_; first | (rw [eq_comm, decide_eq_true_eq]; omega) | (rw [eq_comm, decide_eq_false_iff_not]; omega) | (by_cases h : n ≤ 9999 <;> simp [h] <;> omega))
noncomputable def ctFileE : Ct := { ι := Db × Int, inp := fun x => [dbA x.1, .v (.int .i64 x.2)], out := fun x => .v (.int .i64 (fileE x.1 x.2.toNat)), pre := fun x => SmD x.1 ∧ 0 ≤ x.2 ∧ x.2 < 21 }
noncomputable def Γfe : Ctx := fun f => match f with
 | 31 => some (.pure ctFiles)
 | 29 => some (.pure ctPropI)
 | 60 => some (.pure ctSetI)
 | 62 => some (.pure ctMapI)
 | 107 => some (.pure ctPV)
 | 108 => some (.pure ctCls)
 | 109 => some (.pure ctSetOf)
 | 28 => some (.pure ctVs)
 | 110 => some (.pure ctCheck)
 | _ => none
theorem Γfe_ok : CtxOk Tryz.prog (GlT mx pb) Γfe := by
 intro f h hh
 simp only [Γfe] at hh
 split at hh <;> simp at hh <;> subst hh
 ·exact rFiles_ok
 ·exact rProp_ok
 ·exact rSet_ok
 ·exact rMapI_ok
 ·exact rPValid_ok
 ·exact rCls_ok
 ·exact rSetOf_ok
 ·exact rVs_ok
 ·exact rcheck_ok
set_option maxHeartbeats 16000000 in
theorem rFileE_ok : Sound Tryz.prog (GlT mx pb) 64 ctFileE := by
 refine sound_by (cc := true) Γfe_ok Tryz.T_ok Tryz.mixed Tryz.func64 rfl (by kernel_rfl) (fun _ => rfl) (fun _ _ => by show 2 ≤ 44; decide) ?_
 rintro ⟨(d : Db), (i : Int)⟩ ⟨(hs : SmD d), (h0 : 0 ≤ i), (h7 : i < 21)⟩
 obtain ⟨n, rfl⟩ : ∃ n : Nat, i = n := ⟨i.toNat, by omega⟩
 have hn : n < 21 := by omega
 have hlen := filesL_len
 match n, hn with
 | 0, _ =>
  repeat' (first | refine gl ?_ | (first | refine br ?_ ?_ | refine brF ?_ ?_) <;> intro q_ <;> try simp only [nz] at q_)
  exact EntR.int rfl
 | 1, _ =>
  have p1 : ctPropI.pre (d, ((1 : Nat) : Int) - 1) := (by show 0 ≤ ((1 : Nat) : Int) - 1 ∧ ((1 : Nat) : Int) - 1 < 7; decide)
  have p2 : ctPV.pre (d.prs (((1 : Nat) : Int) - 1).toNat) := (by have : (d.prs (((1 : Nat) : Int) - 1).toNat).spans.length ≤ 16 := (hs.prs 0 (by decide)).2; show (d.prs (((1 : Nat) : Int) - 1).toNat).spans.length ≤ 1000000000; omega)
  repeat' (first | refine gl ?_ | (first | refine br ?_ ?_ | refine brF ?_ ?_) <;> intro q_ <;> try simp only [nz] at q_)
  ·exact EntR.int (if_neg (by rw [show validP (d.prs 0) = false from q_]; decide)).symm
  ·exact EntR.int (if_pos (show validP (d.prs 0) = true from q_)).symm
 | 2, _ =>
  have p1 : ctPropI.pre (d, ((2 : Nat) : Int) - 1) := (by show 0 ≤ ((2 : Nat) : Int) - 1 ∧ ((2 : Nat) : Int) - 1 < 7; decide)
  have p2 : ctPV.pre (d.prs (((2 : Nat) : Int) - 1).toNat) := (by have : (d.prs (((2 : Nat) : Int) - 1).toNat).spans.length ≤ 16 := (hs.prs 1 (by decide)).2; show (d.prs (((2 : Nat) : Int) - 1).toNat).spans.length ≤ 1000000000; omega)
  repeat' (first | refine gl ?_ | (first | refine br ?_ ?_ | refine brF ?_ ?_) <;> intro q_ <;> try simp only [nz] at q_)
  ·exact EntR.int (if_neg (by rw [show validP (d.prs 1) = false from q_]; decide)).symm
  ·exact EntR.int (if_pos (show validP (d.prs 1) = true from q_)).symm
 | 3, _ =>
  have p1 : ctPropI.pre (d, ((3 : Nat) : Int) - 1) := (by show 0 ≤ ((3 : Nat) : Int) - 1 ∧ ((3 : Nat) : Int) - 1 < 7; decide)
  have p2 : ctPV.pre (d.prs (((3 : Nat) : Int) - 1).toNat) := (by have : (d.prs (((3 : Nat) : Int) - 1).toNat).spans.length ≤ 16 := (hs.prs 2 (by decide)).2; show (d.prs (((3 : Nat) : Int) - 1).toNat).spans.length ≤ 1000000000; omega)
  repeat' (first | refine gl ?_ | (first | refine br ?_ ?_ | refine brF ?_ ?_) <;> intro q_ <;> try simp only [nz] at q_)
  ·exact EntR.int (if_neg (by rw [show validP (d.prs 2) = false from q_]; decide)).symm
  ·exact EntR.int (if_pos (show validP (d.prs 2) = true from q_)).symm
 | 4, _ =>
  have p1 : ctPropI.pre (d, ((4 : Nat) : Int) - 1) := (by show 0 ≤ ((4 : Nat) : Int) - 1 ∧ ((4 : Nat) : Int) - 1 < 7; decide)
  have p2 : ctPV.pre (d.prs (((4 : Nat) : Int) - 1).toNat) := (by have : (d.prs (((4 : Nat) : Int) - 1).toNat).spans.length ≤ 16 := (hs.prs 3 (by decide)).2; show (d.prs (((4 : Nat) : Int) - 1).toNat).spans.length ≤ 1000000000; omega)
  repeat' (first | refine gl ?_ | (first | refine br ?_ ?_ | refine brF ?_ ?_) <;> intro q_ <;> try simp only [nz] at q_)
  ·exact EntR.int (if_neg (by rw [show validP (d.prs 3) = false from q_]; decide)).symm
  ·exact EntR.int (if_pos (show validP (d.prs 3) = true from q_)).symm
 | 5, _ =>
  have p1 : ctPropI.pre (d, ((5 : Nat) : Int) - 1) := (by show 0 ≤ ((5 : Nat) : Int) - 1 ∧ ((5 : Nat) : Int) - 1 < 7; decide)
  have p2 : ctPV.pre (d.prs (((5 : Nat) : Int) - 1).toNat) := (by have : (d.prs (((5 : Nat) : Int) - 1).toNat).spans.length ≤ 16 := (hs.prs 4 (by decide)).2; show (d.prs (((5 : Nat) : Int) - 1).toNat).spans.length ≤ 1000000000; omega)
  repeat' (first | refine gl ?_ | (first | refine br ?_ ?_ | refine brF ?_ ?_) <;> intro q_ <;> try simp only [nz] at q_)
  ·exact EntR.int (if_neg (by rw [show validP (d.prs 4) = false from q_]; decide)).symm
  ·exact EntR.int (if_pos (show validP (d.prs 4) = true from q_)).symm
 | 6, _ =>
  have p1 : ctPropI.pre (d, ((6 : Nat) : Int) - 1) := (by show 0 ≤ ((6 : Nat) : Int) - 1 ∧ ((6 : Nat) : Int) - 1 < 7; decide)
  have p2 : ctPV.pre (d.prs (((6 : Nat) : Int) - 1).toNat) := (by have : (d.prs (((6 : Nat) : Int) - 1).toNat).spans.length ≤ 16 := (hs.prs 5 (by decide)).2; show (d.prs (((6 : Nat) : Int) - 1).toNat).spans.length ≤ 1000000000; omega)
  repeat' (first | refine gl ?_ | (first | refine br ?_ ?_ | refine brF ?_ ?_) <;> intro q_ <;> try simp only [nz] at q_)
  ·exact EntR.int (if_neg (by rw [show validP (d.prs 5) = false from q_]; decide)).symm
  ·exact EntR.int (if_pos (show validP (d.prs 5) = true from q_)).symm
 | 7, _ =>
  have p1 : ctPropI.pre (d, ((7 : Nat) : Int) - 1) := (by show 0 ≤ ((7 : Nat) : Int) - 1 ∧ ((7 : Nat) : Int) - 1 < 7; decide)
  have p2 : ctPV.pre (d.prs (((7 : Nat) : Int) - 1).toNat) := (by have : (d.prs (((7 : Nat) : Int) - 1).toNat).spans.length ≤ 16 := (hs.prs 6 (by decide)).2; show (d.prs (((7 : Nat) : Int) - 1).toNat).spans.length ≤ 1000000000; omega)
  repeat' (first | refine gl ?_ | (first | refine br ?_ ?_ | refine brF ?_ ?_) <;> intro q_ <;> try simp only [nz] at q_)
  ·exact EntR.int (if_neg (by rw [show validP (d.prs 6) = false from q_]; decide)).symm
  ·exact EntR.int (if_pos (show validP (d.prs 6) = true from q_)).symm
 | 8, _ =>
  have p1 : ctCls.pre d.cls := (by have := hs.cls; show d.cls.length ≤ 1000000000; omega)
  repeat' (first | refine gl ?_ | (first | refine br ?_ ?_ | refine brF ?_ ?_) <;> intro q_ <;> try simp only [nz] at q_)
  ·exact EntR.int (if_neg (by rw [show clsB d.cls = false from q_]; decide)).symm
  ·exact EntR.int (if_pos (show clsB d.cls = true from q_)).symm
 | 9, _ =>
  have p1 : ctMapI.pre (d, ((9 : Nat) : Int)) := (by show 0 ≤ ((9 : Nat) : Int) ∧ ((9 : Nat) : Int) < 21; decide)
  have p2 : ctCheck.pre (mapI d ((9 : Nat) : Int).toNat) := small_fit (hs.mps 0 (by decide))
  repeat' (first | refine gl ?_ | (first | refine br ?_ ?_ | refine brF ?_ ?_) <;> intro q_ <;> try simp only [nz] at q_)
  exact EntR.int rfl
 | 10, _ =>
  have p1 : ctSetI.pre (d, setOfI (filesL.getD ((10 : Nat) : Int).toNat default)) := (by show 0 ≤ (0 : Int) ∧ (0 : Int) < 6; decide)
  have p2 : ctVs.pre (d.sts (setOfI (filesL.getD ((10 : Nat) : Int).toNat default)).toNat) := hs.sts 0 (by decide)
  repeat' (first | refine gl ?_ | (first | refine br ?_ ?_ | refine brF ?_ ?_) <;> intro q_ <;> try simp only [nz] at q_)
  ·exact EntR.int (if_neg (show ¬ canon (d.sts 0) = d.sts 0 from q_)).symm
  ·exact EntR.int (if_pos (show canon (d.sts 0) = d.sts 0 from q_)).symm
 | 11, _ =>
  have p1 : ctMapI.pre (d, ((11 : Nat) : Int)) := (by show 0 ≤ ((11 : Nat) : Int) ∧ ((11 : Nat) : Int) < 21; decide)
  have p2 : ctCheck.pre (mapI d ((11 : Nat) : Int).toNat) := small_fit (hs.mps 1 (by decide))
  repeat' (first | refine gl ?_ | (first | refine br ?_ ?_ | refine brF ?_ ?_) <;> intro q_ <;> try simp only [nz] at q_)
  exact EntR.int rfl
 | 12, _ =>
  have p1 : ctMapI.pre (d, ((12 : Nat) : Int)) := (by show 0 ≤ ((12 : Nat) : Int) ∧ ((12 : Nat) : Int) < 21; decide)
  have p2 : ctCheck.pre (mapI d ((12 : Nat) : Int).toNat) := small_fit (hs.mps 2 (by decide))
  repeat' (first | refine gl ?_ | (first | refine br ?_ ?_ | refine brF ?_ ?_) <;> intro q_ <;> try simp only [nz] at q_)
  exact EntR.int rfl
 | 13, _ =>
  have p1 : ctMapI.pre (d, ((13 : Nat) : Int)) := (by show 0 ≤ ((13 : Nat) : Int) ∧ ((13 : Nat) : Int) < 21; decide)
  have p2 : ctCheck.pre (mapI d ((13 : Nat) : Int).toNat) := small_fit (hs.mps 3 (by decide))
  repeat' (first | refine gl ?_ | (first | refine br ?_ ?_ | refine brF ?_ ?_) <;> intro q_ <;> try simp only [nz] at q_)
  exact EntR.int rfl
 | 14, _ =>
  have p1 : ctMapI.pre (d, ((14 : Nat) : Int)) := (by show 0 ≤ ((14 : Nat) : Int) ∧ ((14 : Nat) : Int) < 21; decide)
  have p2 : ctCheck.pre (mapI d ((14 : Nat) : Int).toNat) := small_fit (hs.mps 4 (by decide))
  repeat' (first | refine gl ?_ | (first | refine br ?_ ?_ | refine brF ?_ ?_) <;> intro q_ <;> try simp only [nz] at q_)
  exact EntR.int rfl
 | 15, _ =>
  have p1 : ctSetI.pre (d, setOfI (filesL.getD ((15 : Nat) : Int).toNat default)) := (by show 0 ≤ (1 : Int) ∧ (1 : Int) < 6; decide)
  have p2 : ctVs.pre (d.sts (setOfI (filesL.getD ((15 : Nat) : Int).toNat default)).toNat) := hs.sts 1 (by decide)
  repeat' (first | refine gl ?_ | (first | refine br ?_ ?_ | refine brF ?_ ?_) <;> intro q_ <;> try simp only [nz] at q_)
  ·exact EntR.int (if_neg (show ¬ canon (d.sts 1) = d.sts 1 from q_)).symm
  ·exact EntR.int (if_pos (show canon (d.sts 1) = d.sts 1 from q_)).symm
 | 16, _ =>
  have p1 : ctSetI.pre (d, setOfI (filesL.getD ((16 : Nat) : Int).toNat default)) := (by show 0 ≤ (2 : Int) ∧ (2 : Int) < 6; decide)
  have p2 : ctVs.pre (d.sts (setOfI (filesL.getD ((16 : Nat) : Int).toNat default)).toNat) := hs.sts 2 (by decide)
  repeat' (first | refine gl ?_ | (first | refine br ?_ ?_ | refine brF ?_ ?_) <;> intro q_ <;> try simp only [nz] at q_)
  ·exact EntR.int (if_neg (show ¬ canon (d.sts 2) = d.sts 2 from q_)).symm
  ·exact EntR.int (if_pos (show canon (d.sts 2) = d.sts 2 from q_)).symm
 | 17, _ =>
  have p1 : ctSetI.pre (d, setOfI (filesL.getD ((17 : Nat) : Int).toNat default)) := (by show 0 ≤ (3 : Int) ∧ (3 : Int) < 6; decide)
  have p2 : ctVs.pre (d.sts (setOfI (filesL.getD ((17 : Nat) : Int).toNat default)).toNat) := hs.sts 3 (by decide)
  repeat' (first | refine gl ?_ | (first | refine br ?_ ?_ | refine brF ?_ ?_) <;> intro q_ <;> try simp only [nz] at q_)
  ·exact EntR.int (if_neg (show ¬ canon (d.sts 3) = d.sts 3 from q_)).symm
  ·exact EntR.int (if_pos (show canon (d.sts 3) = d.sts 3 from q_)).symm
 | 18, _ =>
  have p1 : ctSetI.pre (d, setOfI (filesL.getD ((18 : Nat) : Int).toNat default)) := (by show 0 ≤ (4 : Int) ∧ (4 : Int) < 6; decide)
  have p2 : ctVs.pre (d.sts (setOfI (filesL.getD ((18 : Nat) : Int).toNat default)).toNat) := hs.sts 4 (by decide)
  repeat' (first | refine gl ?_ | (first | refine br ?_ ?_ | refine brF ?_ ?_) <;> intro q_ <;> try simp only [nz] at q_)
  ·exact EntR.int (if_neg (show ¬ canon (d.sts 4) = d.sts 4 from q_)).symm
  ·exact EntR.int (if_pos (show canon (d.sts 4) = d.sts 4 from q_)).symm
 | 19, _ =>
  have p1 : ctSetI.pre (d, setOfI (filesL.getD ((19 : Nat) : Int).toNat default)) := (by show 0 ≤ (5 : Int) ∧ (5 : Int) < 6; decide)
  have p2 : ctVs.pre (d.sts (setOfI (filesL.getD ((19 : Nat) : Int).toNat default)).toNat) := hs.sts 5 (by decide)
  repeat' (first | refine gl ?_ | (first | refine br ?_ ?_ | refine brF ?_ ?_) <;> intro q_ <;> try simp only [nz] at q_)
  ·exact EntR.int (if_neg (show ¬ canon (d.sts 5) = d.sts 5 from q_)).symm
  ·exact EntR.int (if_pos (show canon (d.sts 5) = d.sts 5 from q_)).symm
 | 20, _ =>
  have p1 : ctMapI.pre (d, ((20 : Nat) : Int)) := (by show 0 ≤ ((20 : Nat) : Int) ∧ ((20 : Nat) : Int) < 21; decide)
  have p2 : ctCheck.pre (mapI d ((20 : Nat) : Int).toNat) := small_fit (hs.mps 5 (by decide))
  repeat' (first | refine gl ?_ | (first | refine br ?_ ?_ | refine brF ?_ ?_) <;> intro q_ <;> try simp only [nz] at q_)
  exact EntR.int rfl
noncomputable def Γck : Ctx := fun f => match f with
 | 31 => some (.pure ctFiles)
 | 63 => some (.pure ctPart2)
 | 64 => some (.pure ctFileE)
 | _ => none
theorem Γck_ok : CtxOk Tryz.prog (GlT mx pb) Γck := by
 intro f h hh
 simp only [Γck] at hh
 split at hh <;> simp at hh <;> subst hh
 ·exact rFiles_ok
 ·exact rPart_ok
 ·exact rFileE_ok
set_option maxHeartbeats 8000000 in
theorem rDbE_ok : Sound Tryz.prog (GlT mx pb) 30 ctDbE := by
 refine sound_by (cc := true) Γck_ok Tryz.T_ok Tryz.mixed Tryz.func30 rfl (by kernel_rfl) (fun _ => rfl) (fun _ _ => by show 1 ≤ 29; decide) ?_
 intro (d : Db) (hs : SmD d)
 have hlen := filesL_len
 repeat' (first | refine gl ?_ | (first | refine br ?_ ?_ | refine brF ?_ ?_) <;> intro q_ <;> try simp only [nz] at q_)
 all_goals first
  | exact EntR.int (if_neg (fun h : verOk d => by unfold verOk at h; omega)).symm
  | skip
 have hv : verOk d := by unfold verOk; omega
 have e : dbE d = firstE d := if_pos hv
 refine ⟨0, Nat, fun k => ⟨[(1, .own 0 0), (3, .v (.int .i64 k))], [.cells 47 (dbL d)], []⟩, fun k => k ≤ 21 ∧ ∀ j, j < k → fileE d j = 0, fun k => 21 - k, fun _ => Nat.zero_le _, ⟨0, ⟨Nat.zero_le _, fun j hj => by omega⟩, StLe.ren [0] tmS ⟨⟨rfl, EntL.refl _, rfl⟩, trivial⟩ (by decide)⟩, ?_⟩
 rintro k ⟨hk, hd⟩
 by_cases hlt : k < 21
 ·have p1 : ctFileE.pre (d, (k : Int)) := ⟨hs, by show 0 ≤ (k : Int); omega, by show (k : Int) < 21; omega⟩
  repeat' (first | refine gl ?_ | (first | refine br ?_ ?_ | refine brF ?_ ?_) <;> intro q_ <;> try simp only [nz] at q_)
  ·exact EntR.int (by rw [e]; exact (firstE_at hlt hd q_).symm)
  ·exact ⟨k + 1, ⟨by omega, next_of hd q_⟩, (by show 21 - (k + 1) < 21 - k; omega), StLe.ren [0] tmS ⟨⟨rfl, EntL.refl _, rfl⟩, trivial⟩ (by decide)⟩
 ·repeat' (first | refine gl ?_ | (first | refine br ?_ ?_ | refine brF ?_ ?_) <;> intro q_ <;> try simp only [nz] at q_)
  exact EntR.int (by rw [e]; exact (firstE_0 fun j hj => hd j (by omega)).symm)
end Go.Proofs
