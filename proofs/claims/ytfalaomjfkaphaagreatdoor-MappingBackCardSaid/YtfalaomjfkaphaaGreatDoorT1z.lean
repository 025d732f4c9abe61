import Derived.Test.YtfalaomjfkaphaaGreatDoorEa
import Derived.Test.YtfalaomjfkaphaaGreatDoorT13
set_option linter.unusedVariables false
set_option linter.unusedSimpArgs false
namespace Go.Proofs
open Go Go.Sx
variable {mx : Int} {pb : Bool}

/-! the lines of a text -/
def lnParts (x : ByteArray) : List ByteArray := cutP (comA x)
def lnHead (x : ByteArray) : ByteArray := (lnParts x).getD 0 default
noncomputable def lnMk (n : Int) (x : ByteArray) : Ln := ⟨n, pcC (spA (lnHead x)), pcC (spZ (lnHead x)), (lnParts x).drop 1, comZ x⟩
noncomputable def goP : List ByteArray → Int → List Ln → List Ln × Int × Int
  | [], _, acc => (acc, 0, 0)
  | x :: xs, n, acc => if emB (trimB (comA x)) = true then goP xs (n + 1) acc else if spanB (lnHead x) = true then goP xs (n + 1) (acc ++ [lnMk n x]) else ([], 3, n)
noncomputable def linesP (s : ByteArray) : List Ln × Int × Int := if s.size > 65536 then ([], 2, 0) else goP (splB 10 s) 1 []
def faultA (e a : Int) : D := .ag [.v (.int .i64 e), .v (.int .i64 a)]
noncomputable def ctLp : Ct := { ι := ByteArray, inp := fun s => [.v (.string s)], out := fun s => .tu [lnsD (linesP s).1, faultA (linesP s).2.1 (linesP s).2.2], pre := fun s => s.size ≤ 1000000000 }
theorem cut_len {s sub : List UInt8} : (Lib.cut s sub).1.length ≤ s.length ∧ (Lib.cut s sub).2.1.length ≤ s.length := by
  unfold Lib.cut
  split
  · simp; omega
  · simp
theorem splitL_len (c : UInt8) : ∀ l, (splitL c l).length ≤ l.length + 1 ∧ ∀ x ∈ splitL c l, x.length ≤ l.length
  | [] => by simp [splitL]
  | b :: l => by
    have ih := splitL_len c l
    rw [splitL]
    split
    · refine ⟨by simp; omega, fun x hx => ?_⟩
      rcases List.mem_cons.1 hx with rfl | hx
      · simp
      · have := ih.2 x hx; simp; omega
    · split
      · simp
      · rename_i x xs hxs
        rw [hxs] at ih
        refine ⟨by have := ih.1; simp at this ⊢; omega, fun y hy => ?_⟩
        rcases List.mem_cons.1 hy with rfl | hy
        · have := ih.2 x (by simp); simpa using this
        · have := ih.2 y (by simp [hy]); simp; omega
theorem splB_len {c : UInt8} {s : ByteArray} : 1 ≤ (splB c s).length ∧ (splB c s).length ≤ s.size + 1 ∧ ∀ k, ((splB c s).getD k default).size ≤ s.size := by
  have h := splitL_len c s.data.toList
  have hn := splitL_ne c s.data.toList
  have e : (splB c s).length = (splitL c s.data.toList).length := List.length_map _
  refine ⟨?_, by rw [e]; exact h.1, fun k => ?_⟩
  · rw [e]
    cases hs : splitL c s.data.toList with
    | nil => exact absurd hs hn
    | cons a r => simp
  · by_cases hk : k < (splB c s).length
    · have hm := mem_getD hk
      obtain ⟨y, hy, hyx⟩ := List.mem_map.1 hm
      rw [← hyx]
      exact h.2 y hy
    · have : (splB c s).getD k default = default := by simp [List.getD_eq_getElem?_getD, List.getElem?_eq_none (Nat.le_of_not_lt hk)]
      rw [this]
      exact Nat.zero_le _
theorem dropWhile_len {α : Type} (p : α → Bool) : ∀ l : List α, (l.dropWhile p).length ≤ l.length
  | [] => Nat.le_refl _
  | a :: l => by
    rw [List.dropWhile_cons]
    split
    · have := dropWhile_len p l; simp; omega
    · exact Nat.le_refl _
theorem trimB_len (s : ByteArray) : (trimB s).size ≤ s.size := by
  show (Lib.trimS s.data.toList [32, 9, 13]).length ≤ s.data.toList.length
  unfold Lib.trimS Lib.trimLeftS
  refine Nat.le_trans (dropWhile_len _ _) ?_
  unfold Lib.trimRightS
  rw [List.length_reverse]
  refine Nat.le_trans (dropWhile_len _ _) ?_
  rw [List.length_reverse]
  exact Nat.le_refl _
theorem comA_len (s : ByteArray) : (comA s).size ≤ s.size := (cut_len (s := s.data.toList) (sub := [35])).1
theorem goP_step {L : List ByteArray} {k : Nat} (h : k < L.length) (acc : List Ln) : goP (L.drop k) ((k : Int) + 1) acc = if emB (trimB (comA (L.getD k default))) = true then goP (L.drop (k + 1)) (((k + 1 : Nat) : Int) + 1) acc else if spanB (lnHead (L.getD k default)) = true then goP (L.drop (k + 1)) (((k + 1 : Nat) : Int) + 1) (acc ++ [lnMk ((k : Int) + 1) (L.getD k default)]) else ([], 3, (k : Int) + 1) := by
  have e : L.getD k default = L[k] := by simp [List.getD_eq_getElem?_getD, h]
  rw [List.drop_eq_getElem_cons h, goP, e]
  rfl
theorem cutP_head (x : ByteArray) : trimB ((splB 59 x).getD 0 default) = (cutP x).getD 0 default := by
  have := (splB_len (c := 59) (s := x)).1
  unfold cutP
  rw [getD_map _ (by omega)]
noncomputable def Γrp9 : Ctx := fun f => match f with
  | 28 => some (.pure ctSplit)
  | 29 => some (.pure ctCom)
  | 30 => some (.pure ctTrimS)
  | 31 => some (.pure ctSpan)
  | _ => none
theorem Γrp9_ok : CtxOk Tryz.prog (GlT mx pb) Γrp9 := by
  intro f h hh
  simp only [Γrp9] at hh
  split at hh <;> simp at hh <;> subst hh
  · exact rSplit_ok
  · exact rCom_ok
  · exact rTrim_ok
  · exact rspan_ok
def z31 : Own := .cells 27 [.v (.int .i64 0), .v (.int .i64 0)]
noncomputable def rLnSt (s : ByteArray) (k : Nat) (acc : List Ln) (j : Nat) : St := ⟨[(3, .own 0 0), (4, .row 1), (5, slD 1 strD (splB 10 s)), (6, .v (.int .i64 k)), (9, slD 1 strD (splB 59 (comA ((splB 10 s).getD k default)))), (13, .own 2 0), (14, .v (.int .i64 ((j + 1 : Nat) : Int)))], [z31, rowL 42 5 lnD acc, .cells 42 [.v (.int .i64 (k + 1)), .v (.int .i64 (pcC (spA (lnHead ((splB 10 s).getD k default))))), .v (.int .i64 (pcC (spZ (lnHead ((splB 10 s).getD k default))))), .row 3, .v (.string (comZ ((splB 10 s).getD k default)))], rowL 9 1 strD (((lnParts ((splB 10 s).getD k default)).drop 1).take j)], []⟩
set_option maxHeartbeats 4000000 in
theorem rLines_ok : Sound Tryz.prog (GlT mx pb) 13 ctLp := by
  refine sound_by (cc := true) Γrp9_ok Tryz.T_ok Tryz.mixed Tryz.func13 rfl (by kernel_rfl) (fun _ => rfl) (fun _ _ => by show 1 ≤ 82; decide) ?_
  intro (s : ByteArray) (hs : s.size ≤ 1000000000)
  have p0 : ctSplit.pre (s, 10) := hs
  by_cases hbig : s.size > 65536
  · repeat' (first | refine gw ?_ | (refine br (fun q_ => ?_) (fun q_ => ?_) <;> try simp only [Int.toNat_natCast, Nat.mul_one, Nat.add_zero] at q_) | (refine brF (fun q_ => ?_) (fun q_ => ?_) <;> try simp only [Int.toNat_natCast, Nat.mul_one, Nat.add_zero] at q_))
    refine EntR.of rfl ?_
    show Ent _ (D.tu [lnsD (linesP s).1, faultA (linesP s).2.1 (linesP s).2.2])
    rw [linesP, if_pos hbig]
    exact Ent.tu2 Ent.nil (Ent.refl _)
  have hP : linesP s = goP (splB 10 s) 1 [] := if_neg hbig
  obtain ⟨hL1, hL2, hL3⟩ := splB_len (c := 10) (s := s)
  repeat' (first | refine gw ?_ | (refine br (fun q_ => ?_) (fun q_ => ?_) <;> try simp only [Int.toNat_natCast, Nat.mul_one, Nat.add_zero] at q_) | (refine brF (fun q_ => ?_) (fun q_ => ?_) <;> try simp only [Int.toNat_natCast, Nat.mul_one, Nat.add_zero] at q_))
  refine ⟨0, Nat × List Ln, fun | (k, acc) => ⟨[(3, .own 0 0), (4, .row 1), (5, slD 1 strD (splB 10 s)), (6, .v (.int .i64 k))], [z31, rowL 42 5 lnD acc], []⟩, fun | (k, acc) => k ≤ (splB 10 s).length ∧ acc.length ≤ k ∧ goP ((splB 10 s).drop k) ((k : Int) + 1) acc = linesP s, fun x => (splB 10 s).length - x.1, fun _ => Nat.zero_le _, ⟨(0, []), ⟨Nat.zero_le _, Nat.zero_le _, hP.symm⟩, StLe.trans (StLe.nilRow (t := 4) 42 5 (fun _ _ => .junk) rfl) (StLe.ren [0, 1] tmS ⟨⟨rfl, EntL.refl _, rfl⟩, own_nil, trivial⟩ (by decide))⟩, ?_⟩
  rintro ⟨k, acc⟩ ⟨hk, hacc, hg⟩
  by_cases hlt : k < (splB 10 s).length
  · have hx := hL3 k
    rw [goP_step hlt] at hg
    have hcx := comA_len ((splB 10 s).getD k default)
    obtain ⟨hQ1, hQ2, hQ3⟩ := splB_len (c := 59) (s := comA ((splB 10 s).getD k default))
    have p1 : ctCom.pre ((splB 10 s).getD k default) := (by show ByteArray.size _ ≤ _; omega)
    have p2 : ctTrimS.pre (comA ((splB 10 s).getD k default)) := (by show (comA ((splB 10 s).getD k default)).size ≤ _; omega)
    have p3 : ctSplit.pre (comA ((splB 10 s).getD k default), 59) := (by show (comA ((splB 10 s).getD k default)).size ≤ _; omega)
    have p4 : ∀ j, ctTrimS.pre ((splB 59 (comA ((splB 10 s).getD k default))).getD j default) := fun j => (by have := hQ3 j; show (ByteArray.size _) ≤ _; omega)
    have p5 := p4 0
    have ht := trimB_len ((splB 59 (comA ((splB 10 s).getD k default))).getD 0 default)
    have ht0 := hQ3 0
    have p6 : ctSpan.pre (trimB ((splB 59 (comA ((splB 10 s).getD k default))).getD 0 default)) := (by show ByteArray.size _ ≤ _; omega)
    have ehd : trimB ((splB 59 (comA ((splB 10 s).getD k default))).getD 0 default) = lnHead ((splB 10 s).getD k default) := cutP_head _
    repeat' (first | refine gw ?_ | (refine br (fun q_ => ?_) (fun q_ => ?_) <;> try simp only [Int.toNat_natCast, Nat.mul_one, Nat.add_zero] at q_) | (refine brF (fun q_ => ?_) (fun q_ => ?_) <;> try simp only [Int.toNat_natCast, Nat.mul_one, Nat.add_zero] at q_))
    · rw [if_pos (emB_iff.2 q_)] at hg
      exact ⟨(k + 1, acc), ⟨by omega, by omega, hg⟩, (by show _ - (k + 1) < _ - k; omega), StLe.ren [0, 1] tmS ⟨⟨rfl, EntL.refl _, rfl⟩, own_refl, trivial⟩ (by decide)⟩
    · rename_i h1
      have hb : spanB (lnHead ((splB 10 s).getD k default)) = false := by rw [← ehd]; exact q_
      rw [if_neg (fun h => h1 (emB_iff.1 h)), if_neg (by rw [hb]; decide)] at hg
      refine EntR.of rfl ?_
      show Ent _ (D.tu [lnsD (linesP s).1, faultA (linesP s).2.1 (linesP s).2.2])
      rw [← hg]
      exact Ent.tu2 Ent.nil (Ent.refl _)
    rename_i h1
    have hb : spanB (lnHead ((splB 10 s).getD k default)) = true := by rw [← ehd]; exact q_
    rw [if_neg (fun h => h1 (emB_iff.1 h)), if_pos hb] at hg
    have hpl : (lnParts ((splB 10 s).getD k default)).length = (splB 59 (comA ((splB 10 s).getD k default))).length := List.length_map _
    refine ⟨0, Nat, rLnSt s k acc, fun j => j + 1 ≤ (lnParts ((splB 10 s).getD k default)).length, fun j => (lnParts ((splB 10 s).getD k default)).length - j, fun _ => Nat.zero_le _, ⟨0, by rw [hpl]; exact hQ1, StLe.trans (StLe.nilCell (i := 2) (j := 3) 9 1 (fun _ _ => .junk) rfl rfl) (StLe.ren [0, 1, 2, 3] tmS ⟨⟨rfl, EntL.refl _, rfl⟩, own_refl, ⟨rfl, EntL.cons (Ent.refl _) (EntL.cons (Ent.int (congrArg (fun y => pcC (spA y)) ehd)) (EntL.cons (Ent.int (congrArg (fun y => pcC (spZ y)) ehd)) (EntL.refl _))), rfl⟩, own_nil, trivial⟩ (by decide))⟩, ?_⟩
    intro j (hj : j + 1 ≤ (lnParts ((splB 10 s).getD k default)).length)
    unfold rLnSt
    have p7 := p4 (j + 1)
    have hnt : (((lnParts ((splB 10 s).getD k default)).drop 1).take j).length = j := by rw [List.length_take, List.length_drop]; omega
    by_cases hjl : j + 1 < (lnParts ((splB 10 s).getD k default)).length
    · have eel : trimB ((splB 59 (comA ((splB 10 s).getD k default))).getD (j + 1) default) = ((lnParts ((splB 10 s).getD k default)).drop 1).getD j default := by
        have e0 := getD_map trimB (l := splB 59 (comA ((splB 10 s).getD k default))) (k := j + 1) (by omega)
        rw [← e0]
        simp [lnParts, cutP, List.getD_eq_getElem?_getD, Nat.add_comm]
      repeat' (first | refine gw ?_ | (refine br (fun q_ => ?_) (fun q_ => ?_) <;> try simp only [Int.toNat_natCast, Nat.mul_one, Nat.add_zero] at q_) | (refine brF (fun q_ => ?_) (fun q_ => ?_) <;> try simp only [Int.toNat_natCast, Nat.mul_one, Nat.add_zero] at q_))
      exact ⟨j + 1, (by show j + 1 + 1 ≤ _; omega), (by show _ - (j + 1) < _ - j; omega), StLe.ren [0, 1, 2, 4] tmS ⟨⟨rfl, EntL.refl _, rfl⟩, own_refl, ⟨rfl, EntL.refl _, rfl⟩, by rw [take_at (show j < ((lnParts ((splB 10 s).getD k default)).drop 1).length by rw [List.length_drop]; omega)]; exact own_app (lt1 (Ent.v (congrArg Value.string eel))), trivial⟩ (by decide)⟩
    · have hta : ((lnParts ((splB 10 s).getD k default)).drop 1).take j = (lnParts ((splB 10 s).getD k default)).drop 1 := List.take_of_length_le (by rw [List.length_drop]; omega)
      repeat' (first | refine gw ?_ | (refine br (fun q_ => ?_) (fun q_ => ?_) <;> try simp only [Int.toNat_natCast, Nat.mul_one, Nat.add_zero] at q_) | (refine brF (fun q_ => ?_) (fun q_ => ?_) <;> try simp only [Int.toNat_natCast, Nat.mul_one, Nat.add_zero] at q_))
      exact ⟨(k + 1, acc ++ [lnMk ((k : Int) + 1) ((splB 10 s).getD k default)]), ⟨by omega, by simp; omega, hg⟩, (by show _ - (k + 1) < _ - k; omega), StLe.ren [0, 4] tmS ⟨⟨rfl, EntL.refl _, rfl⟩, own_app (lt5 (Ent.refl _) (Ent.refl _) (Ent.refl _) (Ent.of_eq (congrArg (slD 1 strD) hta)) (Ent.refl _)), trivial⟩ (by decide)⟩
  · have hke : k = (splB 10 s).length := by omega
    rw [List.drop_eq_nil_of_le (by omega)] at hg
    repeat' (first | refine gw ?_ | (refine br (fun q_ => ?_) (fun q_ => ?_) <;> try simp only [Int.toNat_natCast, Nat.mul_one, Nat.add_zero] at q_) | (refine brF (fun q_ => ?_) (fun q_ => ?_) <;> try simp only [Int.toNat_natCast, Nat.mul_one, Nat.add_zero] at q_))
    refine EntR.of rfl ?_
    show Ent _ (D.tu [lnsD (linesP s).1, faultA (linesP s).2.1 (linesP s).2.2])
    rw [← hg]
    exact Ent.refl _
end Go.Proofs

namespace Go.Proofs
open Go Go.Sx
variable {mx : Int} {pb : Bool}

theorem splL_cut (c : UInt8) (s : ByteArray) : (∃ i, i < s.size ∧ Lib.cut s.data.toList [c] = (s.data.toList.take i, s.data.toList.drop (i + 1), true) ∧ splitL c s.data.toList = s.data.toList.take i :: splitL c (s.data.toList.drop (i + 1))) ∨ (Lib.cut s.data.toList [c] = (s.data.toList, [], false) ∧ splitL c s.data.toList = [s.data.toList]) := by
  rcases Lib.index_spec s.data.toList [c] with ⟨_, h2⟩ | ⟨i, _, h2, h3, h4⟩
  · refine .inr ⟨cut_none h2, ?_⟩
    have := seg_end (c := c) (s := s) (f := 0) (fun j _ hj => by
      have := h2 j (Nat.le_of_lt hj)
      rw [occ1 hj] at this
      exact of_decide_eq_false this)
    exact this
  · have hi : i < s.size := by
      rcases Nat.lt_or_ge i s.size with h | h
      · exact h
      · rw [occ1_end h] at h3; exact Bool.noConfusion h3
    refine .inl ⟨i, hi, cut_at h3 h4 h2, ?_⟩
    have := seg_step (c := c) (s := s) (f := 0) (Nat.zero_le _) hi (fun j _ hj => by
      have := h4 j hj
      rw [occ1 (by omega)] at this
      exact of_decide_eq_false this) (by rw [occ1 hi] at h3; exact of_decide_eq_true h3)
    exact this
theorem splB_yes {s : ByteArray} (h : cutF s ⟨#[10]⟩ = true) : splB 10 s = cutA s ⟨#[10]⟩ :: splB 10 (cutZ s ⟨#[10]⟩) ∧ (cutZ s ⟨#[10]⟩).size < s.size := by
  unfold cutF at h
  unfold cutA cutZ splB
  rw [show (⟨#[10]⟩ : ByteArray).data.toList = [10] from rfl] at *
  rcases splL_cut 10 s with ⟨i, hi, e1, e2⟩ | ⟨e1, _⟩
  · rw [e1, e2]
    refine ⟨rfl, ?_⟩
    show (s.data.toList.drop (i + 1)).length < s.data.toList.length
    have : s.data.toList.length = s.size := rfl
    rw [List.length_drop]
    omega
  · rw [e1] at h; exact Bool.noConfusion h
theorem splB_no {s : ByteArray} (h : cutF s ⟨#[10]⟩ = false) : splB 10 s = [cutA s ⟨#[10]⟩] := by
  unfold cutF at h
  unfold cutA splB
  rw [show (⟨#[10]⟩ : ByteArray).data.toList = [10] from rfl] at *
  rcases splL_cut 10 s with ⟨i, hi, e1, e2⟩ | ⟨e1, e2⟩
  · rw [e1] at h; exact Bool.noConfusion h
  · rw [e1, e2]; rfl
theorem cutA_len (s sep : ByteArray) : (cutA s sep).size ≤ s.size := (cut_len (s := s.data.toList) (sub := sep.data.toList)).1
theorem cutZ_len (s sep : ByteArray) : (cutZ s sep).size ≤ s.size := (cut_len (s := s.data.toList) (sub := sep.data.toList)).2
theorem StLe.six {tm tm' : List (Nat × D)} {ow ow' : List Own} (h1 : renT [0, 1, 2, 3, 4, 5, 6] tm tm') (h2 : renO [0, 1, 2, 3, 4, 5, 6] ow [0, 1, 2, 3, 4, 5, 6] ow') : StLe 6 ⟨tm, ow, []⟩ ⟨tm', ow', []⟩ :=
  StLe.renm [0, 1, 2, 3, 4, 5, 6] h1 h2 (by decide) (by decide) (by simp)
theorem StLe.sixA {tm tm' : List (Nat × D)} {ow ow' : List Own} {n : Nat} (hn : [0, 1, 2, 3, 4, 5, n].Nodup) (h1 : renT [0, 1, 2, 3, 4, 5, n] tm tm') (h2 : renO [0, 1, 2, 3, 4, 5, n] ow [0, 1, 2, 3, 4, 5, n] ow') : StLe 6 ⟨tm, ow, []⟩ ⟨tm', ow', []⟩ :=
  StLe.renm [0, 1, 2, 3, 4, 5, n] h1 h2 hn (fun i hi => by
    match i, hi with
    | 0, _ => rfl
    | 1, _ => rfl
    | 2, _ => rfl
    | 3, _ => rfl
    | 4, _ => rfl
    | 5, _ => rfl) (by simp)
theorem ent_drop1 {l : List ByteArray} : Ent (.sl 1 (l.length - 1) fun i j => strD (l.getD (1 + i) default) j) (slD 1 strD (l.drop 1)) := by
  refine Ent.sl (by rw [List.length_drop]) fun i hi j hj => Ent.of_eq ?_
  show strD (l.getD (1 + i) default) j = strD ((l.drop 1).getD i default) j
  rw [show (l.drop 1).getD i default = l.getD (1 + i) default by simp [List.getD_eq_getElem?_getD, Nat.add_comm]]
/-! lines.Parse -/
noncomputable def cNum : Code := (Tryz.f56.body).getD .skip
noncomputable def cNum1 : Code := (Tryz.f83.body).getD .skip
def ctCut1 (c : ByteArray) : Ct := { ι := ByteArray, inp := fun s => [.v (.string s), .v (.string c)], out := fun s => .tu [.v (.string (cutA s c)), .v (.string (cutZ s c)), .v (.bool (cutF s c))], pre := fun s => s.size < 4294967281 }
theorem cut1_ok (c : ByteArray) : Sound Tryz.prog (GlT mx pb) 57 (ctCut1 c) := sound_less cutS_ok (fun s => (s, c)) (fun _ => rfl) (fun _ h => h) (fun _ _ => rfl)
def Γnm : Ctx := fun f => match f with
  | 57 => some (.pure (ctCut1 ⟨#[10]⟩))
  | _ => none
theorem Γnm_ok : CtxOk Tryz.prog (GlT mx pb) Γnm := by
  intro f h hh
  simp only [Γnm] at hh
  split at hh <;> simp at hh <;> subst hh
  · exact (cut1_ok _)
noncomputable def Γlp (mx : Int) (pb : Bool) : Ctx := fun f => match f with
  | 56 => some (.gen (inlW true Γ0 Tryz.T (GlT mx pb) Tryz.f56 cNum))
  | 83 => some (.gen (inlW true Γnm Tryz.T (GlT mx pb) Tryz.f83 cNum1))
  | 57 => some (.pure (ctCut1 ⟨#[35]⟩))
  | 58 => some (.pure ctTrim)
  | 59 => some (.pure ctCutP)
  | 60 => some (.pure ctCds)
  | _ => none
theorem Γlp_ok : CtxOk Tryz.prog (GlT mx pb) (Γlp mx pb) := by
  intro f h hh
  simp only [Γlp] at hh
  split at hh <;> simp at hh <;> subst hh
  · exact soundT_inlW Γ0_ok Tryz.T_ok Tryz.mixed Tryz.func56 rfl (by kernel_rfl)
  · exact soundT_inlW Γnm_ok Tryz.T_ok Tryz.mixed Tryz.func83 rfl (by kernel_rfl)
  · exact (cut1_ok _)
  · exact trim_ok
  · exact lcut_ok
  · exact lcodes_ok
set_option maxHeartbeats 4000000 in
theorem pLines_ok : Sound Tryz.prog (GlT mx pb) 33 ctLp := by
  refine sound_by (cc := true) Γlp_ok Tryz.T_ok Tryz.mixed Tryz.func33 rfl (by kernel_rfl) (fun _ => rfl) (fun _ _ => by show 1 ≤ 58; decide) ?_
  intro (s : ByteArray) (hs : s.size ≤ 1000000000)
  by_cases hbig : s.size > 65536
  · repeat' (first | refine gw ?_ | (refine br (fun q_ => ?_) (fun q_ => ?_) <;> try simp only [Int.toNat_natCast, Nat.mul_one, Nat.add_zero] at q_) | (refine brF (fun q_ => ?_) (fun q_ => ?_) <;> try simp only [Int.toNat_natCast, Nat.mul_one, Nat.add_zero] at q_))
    refine EntR.of rfl ?_
    show Ent _ (D.tu [lnsD (linesP s).1, faultA (linesP s).2.1 (linesP s).2.2])
    rw [linesP, if_pos hbig]
    exact Ent.tu2 Ent.nil (Ent.refl _)
  have hP : linesP s = goP (splB 10 s) 1 [] := if_neg hbig
  repeat' (first | refine gw ?_ | (refine br (fun q_ => ?_) (fun q_ => ?_) <;> try simp only [Int.toNat_natCast, Nat.mul_one, Nat.add_zero] at q_) | (refine brF (fun q_ => ?_) (fun q_ => ?_) <;> try simp only [Int.toNat_natCast, Nat.mul_one, Nat.add_zero] at q_))
  refine ⟨0, ByteArray × Nat × List Ln, fun | (r, n, acc) => ⟨[(0, .yl 5), (3, .v (.string r)), (4, .v (.int .i64 n))], [.cells 37 [nilV], z31, .cells 37 [.row 6], .cells 9 [.v (.string s)], .defd, .lp .ready none, rowL 42 5 lnD acc], []⟩, fun | (r, n, acc) => n + r.size ≤ s.size + 1 ∧ acc.length ≤ n ∧ goP (splB 10 r) n acc = linesP s, fun x => x.1.size, fun _ => (by show 6 ≤ 7; decide), ⟨(s, 1, []), ⟨by omega, by simp, hP.symm⟩, StLe.trans (StLe.nilCell (i := 2) (j := 0) 42 5 (fun _ _ => .junk) rfl rfl) (StLe.six tmS (by repeat' (first | exact trivial | exact own_nil | exact rfl | exact EntL.refl _ | refine And.intro ?_ ?_)))⟩, ?_⟩
  rintro ⟨r, n, acc⟩ ⟨hn, hacc, hg⟩
  have p1 : (ctCut1 ⟨#[10]⟩).pre r := (by show r.size < _; omega)
  have hxl := cutA_len r ⟨#[10]⟩
  have hcl := cutA_len (cutA r ⟨#[10]⟩) ⟨#[35]⟩
  have hzl := cutZ_len (cutA r ⟨#[10]⟩) ⟨#[35]⟩
  have p2 : (ctCut1 ⟨#[35]⟩).pre (cutA r ⟨#[10]⟩) := (by show (cutA r ⟨#[10]⟩).size < _; omega)
  have p3 : ctTrim.pre (cutA (cutA r ⟨#[10]⟩) ⟨#[35]⟩) := (by show ByteArray.size _ ≤ _; omega)
  have p4 : ctTrim.pre (cutZ (cutA r ⟨#[10]⟩) ⟨#[35]⟩) := (by show ByteArray.size _ ≤ _; omega)
  have p5 : ctCutP.pre (cutA (cutA r ⟨#[10]⟩) ⟨#[35]⟩) := (by show ByteArray.size _ ≤ _; omega)
  obtain ⟨hQ1, hQ2, hQ3⟩ := splB_len (c := 59) (s := comA (cutA r ⟨#[10]⟩))
  have hcp : (cutP (comA (cutA r ⟨#[10]⟩))).length = (splB 59 (comA (cutA r ⟨#[10]⟩))).length := List.length_map _
  have hcp0 : 0 < (cutP (cutA (cutA r ⟨#[10]⟩) ⟨#[35]⟩)).length := by show 0 < (cutP (comA (cutA r ⟨#[10]⟩))).length; omega
  have p6 : ctCds.pre ((cutP (cutA (cutA r ⟨#[10]⟩) ⟨#[35]⟩)).getD 0 default) := (by
    show ByteArray.size ((cutP (comA (cutA r ⟨#[10]⟩))).getD 0 default) ≤ _
    rw [← cutP_head]
    have h1 := trimB_len ((splB 59 (comA (cutA r ⟨#[10]⟩))).getD 0 default)
    have h2 := hQ3 0
    have h3 : (comA (cutA r ⟨#[10]⟩)).size ≤ (cutA r ⟨#[10]⟩).size := hcl
    omega)
  have ent5 : spanB (lnHead (cutA r ⟨#[10]⟩)) = true → ∀ g : Nat → Nat → D, g 0 0 = .v (.int .i64 n) → g 0 1 = .v (.int .i64 (if spanB (lnHead (cutA r ⟨#[10]⟩)) = true then pcC (spA (lnHead (cutA r ⟨#[10]⟩))) else 0)) → g 0 2 = .v (.int .i64 (if spanB (lnHead (cutA r ⟨#[10]⟩)) = true then pcC (spZ (lnHead (cutA r ⟨#[10]⟩))) else 0)) → g 0 3 = (.sl 1 ((lnParts (cutA r ⟨#[10]⟩)).length - 1) fun i j => strD ((lnParts (cutA r ⟨#[10]⟩)).getD (1 + i) default) j) → g 0 4 = .v (.string (comZ (cutA r ⟨#[10]⟩))) → ∀ j, j < 5 → Ent (g 0 j) (lnD (lnMk n (cutA r ⟨#[10]⟩)) j) := fun hsp g h0 h1 h2 h3 h4 => lt5 (Ent.of_eq h0) (h1 ▸ Ent.int (if_pos hsp)) (h2 ▸ Ent.int (if_pos hsp)) (h3 ▸ ent_drop1) (Ent.of_eq h4)
  repeat' (first | refine gw ?_ | (refine br (fun q_ => ?_) (fun q_ => ?_) <;> try simp only [Int.toNat_natCast, Nat.mul_one, Nat.add_zero] at q_) | (refine brF (fun q_ => ?_) (fun q_ => ?_) <;> try simp only [Int.toNat_natCast, Nat.mul_one, Nat.add_zero] at q_))
  · rw [splB_no q_] at hg
    rename_i h1
    rw [goP, if_pos (emB_iff.2 (show trimB (comA (cutA r ⟨#[10]⟩)) = ⟨#[]⟩ from h1)), goP] at hg
    refine EntR.of rfl ?_
    show Ent _ (D.tu [lnsD (linesP s).1, faultA (linesP s).2.1 (linesP s).2.2])
    rw [← hg]
    exact Ent.refl _
  · obtain ⟨e1, e2⟩ := splB_yes q_
    rename_i h1
    rw [e1, goP, if_pos (emB_iff.2 (show trimB (comA (cutA r ⟨#[10]⟩)) = ⟨#[]⟩ from h1))] at hg
    exact ⟨(cutZ r ⟨#[10]⟩, n + 1, acc), ⟨by omega, by omega, hg⟩, e2, StLe.six tmS (by repeat' (first | exact trivial | exact own_refl | exact rfl | exact EntL.refl _ | refine And.intro ?_ ?_))⟩
  · rename_i h1
    have hb : ¬ spanB (lnHead (cutA r ⟨#[10]⟩)) = true := by rw [show spanB (lnHead (cutA r ⟨#[10]⟩)) = false from q_]; decide
    have : goP (splB 10 r) n acc = ([], 3, (n : Int)) := by
      rcases Bool.eq_false_or_eq_true (cutF r ⟨#[10]⟩) with hc | hc
      · rw [(splB_yes hc).1, goP, if_neg (show ¬ emB (trimB (comA (cutA r ⟨#[10]⟩))) = true from fun h => h1 (emB_iff.1 h)), if_neg hb]
      · rw [splB_no hc, goP, if_neg (show ¬ emB (trimB (comA (cutA r ⟨#[10]⟩))) = true from fun h => h1 (emB_iff.1 h)), if_neg hb]
    rw [this] at hg
    refine EntR.of rfl ?_
    show Ent _ (D.tu [lnsD (linesP s).1, faultA (linesP s).2.1 (linesP s).2.2])
    rw [← hg]
    exact Ent.tu2 Ent.nil (Ent.refl _)
  · rename_i h1 h2
    rw [splB_no q_, goP, if_neg (show ¬ emB (trimB (comA (cutA r ⟨#[10]⟩))) = true from fun h => h1 (emB_iff.1 h)), if_pos (show spanB (lnHead (cutA r ⟨#[10]⟩)) = true from h2), goP] at hg
    refine EntR.of rfl ?_
    show Ent _ (D.tu [lnsD (linesP s).1, faultA (linesP s).2.1 (linesP s).2.2])
    rw [← hg]
    exact Ent.tu2 (ent_app (ent5 h2 _ rfl rfl rfl rfl rfl)) (Ent.refl _)
  · rename_i h1 h2
    obtain ⟨e1, e2⟩ := splB_yes q_
    rw [e1, goP, if_neg (show ¬ emB (trimB (comA (cutA r ⟨#[10]⟩))) = true from fun h => h1 (emB_iff.1 h)), if_pos (show spanB (lnHead (cutA r ⟨#[10]⟩)) = true from h2)] at hg
    exact ⟨(cutZ r ⟨#[10]⟩, n + 1, acc ++ [lnMk n (cutA r ⟨#[10]⟩)]), ⟨by omega, by simp; omega, hg⟩, e2, StLe.sixA (n := 7) (by decide) tmS ⟨⟨rfl, EntL.refl _, rfl⟩, ⟨rfl, EntL.refl _, rfl⟩, ⟨rfl, EntL.refl _, rfl⟩, ⟨rfl, EntL.refl _, rfl⟩, trivial, ⟨rfl, rfl⟩, own_app (ent5 h2 _ rfl rfl rfl rfl rfl), trivial⟩⟩
#print axioms pLines_ok
end Go.Proofs

namespace Go.Proofs
open Go Go.Sx Go.RowKit
variable {mx : Int} {pb : Bool}

/-! splitting at blanks -/
theorem splL_idx (c : UInt8) (l : List UInt8) : (∃ i : Nat, i < l.length ∧ Lib.index l [c] = i ∧ splitL c l = l.take i :: splitL c (l.drop (i + 1))) ∨ (Lib.index l [c] = -1 ∧ splitL c l = [l]) := by
  have h := splL_cut c (listB l)
  rcases Lib.index_spec l [c] with ⟨h1, h2⟩ | ⟨i, h1, h2, h3, h4⟩
  · rcases h with ⟨i, _, e1, _⟩ | ⟨_, e2⟩
    · have := cut_none h2
      rw [show Lib.cut l [c] = (l.take i, l.drop (i + 1), true) from e1] at this
      simp at this
    · exact .inr ⟨h1, e2⟩
  · have hc := cut_at h3 h4 h2
    rcases h with ⟨j, hj, e1, e2⟩ | ⟨e1, _⟩
    · have hi : i < l.length := by
        rcases Nat.lt_or_ge i l.length with h | h
        · exact h
        · have := occ1_end (s := listB l) (c := c) (j := i) h
          rw [show Lib.occAt l [c] i = false from this] at h3
          exact Bool.noConfusion h3
      have he : (l.take j, l.drop (j + 1), true) = (l.take i, l.drop (i + 1), true) := (show Lib.cut l [c] = _ from e1).symm.trans hc
      simp only [Prod.mk.injEq, and_true] at he
      have hl := congrArg List.length he.1
      rw [List.length_take, List.length_take] at hl
      have hj : j < l.length := hj
      have : j = i := by omega
      subst this
      exact .inl ⟨j, hi, h1, e2⟩
    · rw [show Lib.cut l [c] = (l, [], false) from e1] at hc
      simp at hc
theorem split_splL (c : UInt8) : ∀ (n : Nat) (l : List UInt8), l.length ≤ n → Lib.splitK [c] 0 (Lib.count l [c]) l = splitL c l
  | 0, l, h => by
    have : l = [] := List.length_eq_zero_iff.1 (by omega)
    subst this
    rfl
  | n + 1, l, h => by
    rcases splL_idx c l with ⟨i, hi, h1, h2⟩ | ⟨h1, h2⟩
    · rw [Lib.count_hit (by simp) h1, h2, Nat.add_comm, Lib.splitK, h1, if_neg (by simp)]
      simp only [Int.toNat_natCast, Nat.add_zero, List.length_singleton]
      rw [split_splL c n _ (by rw [List.length_drop]; omega)]
    · rw [Lib.count_miss h1, h2]
      rfl
theorem sound_calls2 {P : Program} {Gl : Nat → Option D} {f : FuncId} {ct : Ct} {fn : Func} (hf : P.funcs[f]? = some fn) (hname : (fn.name == "runtime.NumGoroutine") = false) (hbody : fn.body.isNone = false) (hpd : ∀ x, pdL (ct.inp x) = true)
    (h : ∀ x, ct.pre x → ∀ (M : Mem) (w : World) (us : Array Value), M.fits w → GlOk M Gl → RepL M [] (ct.inp x) us.toList →
      Calls P f us w fun e w' => ∃ v M', e = .returned v ∧ M.le M' ∧ (∀ b o, M' b = some o → M b = some o ∨ w.heap.size ≤ b) ∧ M'.fits w' ∧ Rep M' [] (ct.out x) v ∧ Below w.heap.size w w') : Sound P Gl f ct := by
  refine ⟨⟨fn, hf, hname, hbody⟩, hpd, fun x hx M w us hfit hG hr n => callsIn_wide.2 ((h x hx M w us hfit hG hr).mono ?_)⟩
  rintro e w' ⟨v, M', rfl, h1, h2, h3, h4, hb⟩
  exact ⟨M', v, rfl, h1, h2, h3, h4, hb⟩
/-- The block of a new slice. -/
def newM (M : Mem) (b : Nat) (o : Obj) : Mem := fun k => if k = b then some o else M k
theorem fits_lt {M : Mem} {w : World} (h : M.fits w) {b : Nat} {o : Obj} (hb : M b = some o) : b < w.heap.size := by
  obtain ⟨y, hy⟩ := (h b o hb).some
  exact (Array.getElem?_eq_some_iff.1 hy).1
theorem newM_le {M : Mem} {w : World} (h : M.fits w) (o : Obj) : M.le (newM M w.heap.size o) := fun b x hb => by
  have := fits_lt h hb
  unfold newM
  rw [if_neg (by omega)]
  exact hb
theorem newM_fits {M : Mem} {w : World} (h : M.fits w) (c : Array Value) (t : TypeId) : (newM M w.heap.size (.cells c t)).fits (w.alloc (.cells c t)) := fun b x hb => by
  unfold newM at hb
  split at hb
  · rename_i e
    subst e
    simp only [Option.some.injEq] at hb
    subst hb
    show (w.heap.push (.cells c t))[w.heap.size]? = _
    simp
  · have hlt := fits_lt h hb
    rw [Below.heap_alloc _ _ _ hlt]
    exact h b x hb
theorem newM_new {M : Mem} {n : Nat} {o : Obj} : ∀ b x, newM M n o b = some x → M b = some x ∨ n ≤ b := fun b x hb => by
  unfold newM at hb
  split at hb
  · exact .inr (by omega)
  · exact .inl hb
def ctSplitS (sep : ByteArray) (c : UInt8) : Ct := { ι := ByteArray, inp := fun s => [.v (.string s), .v (.string sep)], out := fun s => slD 1 strD (splB c s), pre := fun s => s.size ≤ 1000000000 }
theorem splitS_ok (c : UInt8) : Sound Tryz.prog (GlT mx pb) 94 (ctSplitS ⟨#[c]⟩ c) := by
  refine sound_calls2 Tryz.func94 (by kernel_rfl) (by kernel_rfl) (fun _ => rfl) fun (s : ByteArray) hs M w us hfit hG hr => ?_
  have := two_vals hr
  subst this
  have hs : s.size ≤ 1000000000 := hs
  refine (Any.strings_Split Tryz.lays146 (by kernel_rfl) s ⟨#[c]⟩ mx w (by omega) (gl_cell hfit hG rfl) (Nat.le_refl 1)).mono ?_
  rintro e w' ⟨rfl, rfl⟩
  have e1 : (Lib.splitB ⟨#[c]⟩ 0 (Lib.countB s ⟨#[c]⟩) s).map (·.data.toList) = splitL c s.data.toList := by
    rw [Lib.splitB_data]
    exact split_splL c _ _ (Nat.le_refl _)
  have e2 : Lib.splitB ⟨#[c]⟩ 0 (Lib.countB s ⟨#[c]⟩) s = splB c s := by
    unfold splB
    rw [← e1, List.map_map]
    exact (List.map_id' _).symm
  have e3 : Lib.countB s ⟨#[c]⟩ + 1 = (splB c s).length := by rw [← e2]; exact (Lib.splitB_all ⟨#[c]⟩ (Nat.le_refl 1) 0 _ s rfl).symm
  rw [e2, e3]
  refine ⟨_, newM M w.heap.size _, rfl, newM_le hfit _, newM_new, newM_fits hfit _ _, ?_, Below.alloc (Below.refl _ _) (Nat.le_refl _) _⟩
  show Rep _ [] (slD 1 strD (splB c s)) _
  simp only [slD, Rep]
  refine ⟨_, _, rfl, Nat.le_refl _, fun _ => ⟨_, rfl, fun i hi j hj => ?_⟩⟩
  have hj : j = 0 := by omega
  subst hj
  refine ⟨.string ((splB c s).getD i default), ?_, rfl, rfl⟩
  unfold Mem.cell newM
  have hb : ((⟨w.heap.size, 0, none⟩ : Addr).add (i * 1 + 0)) = ⟨w.heap.size, i, none⟩ := by by_cases h : i = 0 <;> simp [Addr.add, h]
  rw [hb]
  simp [List.getD_eq_getElem?_getD, hi]
end Go.Proofs
