import Derived.Test.YtnegdnbodccgkaaGreatDoorEa
import Derived.Test.YtnegdnbodccgkaaGreatDoorT13
set_option linter.unusedVariables false
set_option linter.unusedSimpArgs false
namespace Go.Proofs
open Go Go.Sx
variable {mx : Int} {pb : Bool}

/-! the lines of a text -/
def lnParts (x : ByteArray) : List ByteArray := cutP (comA x)
def lnHead (x : ByteArray) : ByteArray := (lnParts x).getD 0 default
noncomputable def lnMk (n : Int) (x : ByteArray) : Ln := ⟨n, pcC (spA (lnHead x)), pcC (spZ (lnHead x)), (lnParts x).drop 1, comZ x⟩
noncomputable def goP : List ByteArray → Int → List Ln → List Ln × Int × Int
  | [], _, acc => (acc, 0, 0)
  | x :: xs, n, acc => if emB (trimB (comA x)) = true then goP xs (n + 1) acc else if spanB (lnHead x) = true then goP xs (n + 1) (acc ++ [lnMk n x]) else ([], 3, n)
noncomputable def linesP (s : ByteArray) : List Ln × Int × Int := if s.size > 65536 then ([], 2, 0) else goP (splB 10 s) 1 []
def faultA (e a : Int) : D := .ag [.v (.int .i64 e), .v (.int .i64 a)]
noncomputable def ctLp : Ct := { ι := ByteArray, inp := fun s => [.v (.string s)], out := fun s => .tu [lnsD (linesP s).1, faultA (linesP s).2.1 (linesP s).2.2], pre := fun s => s.size ≤ 1000000000 }
theorem cut_len {s sub : List UInt8} : (Lib.cut s sub).1.length ≤ s.length ∧ (Lib.cut s sub).2.1.length ≤ s.length := by
  unfold Lib.cut
  split
  · simp; omega
  · simp
theorem splitL_len (c : UInt8) : ∀ l, (splitL c l).length ≤ l.length + 1 ∧ ∀ x ∈ splitL c l, x.length ≤ l.length
  | [] => by simp [splitL]
  | b :: l => by
    have ih := splitL_len c l
    rw [splitL]
    split
    · refine ⟨by simp; omega, fun x hx => ?_⟩
      rcases List.mem_cons.1 hx with rfl | hx
      · simp
      · have := ih.2 x hx; simp; omega
    · split
      · simp
      · rename_i x xs hxs
        rw [hxs] at ih
        refine ⟨by have := ih.1; simp at this ⊢; omega, fun y hy => ?_⟩
        rcases List.mem_cons.1 hy with rfl | hy
        · have := ih.2 x (by simp); simpa using this
        · have := ih.2 y (by simp [hy]); simp; omega
theorem splB_len {c : UInt8} {s : ByteArray} : 1 ≤ (splB c s).length ∧ (splB c s).length ≤ s.size + 1 ∧ ∀ k, ((splB c s).getD k default).size ≤ s.size := by
  have h := splitL_len c s.data.toList
  have hn := splitL_ne c s.data.toList
  have e : (splB c s).length = (splitL c s.data.toList).length := List.length_map _
  refine ⟨?_, by rw [e]; exact h.1, fun k => ?_⟩
  · rw [e]
    cases hs : splitL c s.data.toList with
    | nil => exact absurd hs hn
    | cons a r => simp
  · by_cases hk : k < (splB c s).length
    · have hm := mem_getD hk
      obtain ⟨y, hy, hyx⟩ := List.mem_map.1 hm
      rw [← hyx]
      exact h.2 y hy
    · have : (splB c s).getD k default = default := by simp [List.getD_eq_getElem?_getD, List.getElem?_eq_none (Nat.le_of_not_lt hk)]
      rw [this]
      exact Nat.zero_le _
theorem dropWhile_len {α : Type} (p : α → Bool) : ∀ l : List α, (l.dropWhile p).length ≤ l.length
  | [] => Nat.le_refl _
  | a :: l => by
    rw [List.dropWhile_cons]
    split
    · have := dropWhile_len p l; simp; omega
    · exact Nat.le_refl _
theorem trimB_len (s : ByteArray) : (trimB s).size ≤ s.size := by
  show (Lib.trimS s.data.toList [32, 9, 13]).length ≤ s.data.toList.length
  unfold Lib.trimS Lib.trimLeftS
  refine Nat.le_trans (dropWhile_len _ _) ?_
  unfold Lib.trimRightS
  rw [List.length_reverse]
  refine Nat.le_trans (dropWhile_len _ _) ?_
  rw [List.length_reverse]
  exact Nat.le_refl _
theorem comA_len (s : ByteArray) : (comA s).size ≤ s.size := (cut_len (s := s.data.toList) (sub := [35])).1
theorem goP_step {L : List ByteArray} {k : Nat} (h : k < L.length) (acc : List Ln) : goP (L.drop k) ((k : Int) + 1) acc = if emB (trimB (comA (L.getD k default))) = true then goP (L.drop (k + 1)) (((k + 1 : Nat) : Int) + 1) acc else if spanB (lnHead (L.getD k default)) = true then goP (L.drop (k + 1)) (((k + 1 : Nat) : Int) + 1) (acc ++ [lnMk ((k : Int) + 1) (L.getD k default)]) else ([], 3, (k : Int) + 1) := by
  have e : L.getD k default = L[k] := by simp [List.getD_eq_getElem?_getD, h]
  rw [List.drop_eq_getElem_cons h, goP, e]
  rfl
theorem cutP_head (x : ByteArray) : trimB ((splB 59 x).getD 0 default) = (cutP x).getD 0 default := by
  have := (splB_len (c := 59) (s := x)).1
  unfold cutP
  rw [getD_map _ (by omega)]
noncomputable def Γrp9 : Ctx := fun f => match f with
  | 117 => some (.pure ctSplit)
  | 118 => some (.pure ctCom)
  | 119 => some (.pure ctTrimS)
  | 120 => some (.pure ctSpan)
  | _ => none
theorem Γrp9_ok : CtxOk Tryz.prog (GlT mx pb) Γrp9 := by
  intro f h hh
  simp only [Γrp9] at hh
  split at hh <;> simp at hh <;> subst hh
  · exact rSplit_ok
  · exact rCom_ok
  · exact rTrim_ok
  · exact rspan_ok
def z31 : Own := .cells 52 [.v (.int .i64 0), .v (.int .i64 0)]
noncomputable def rLnSt (s : ByteArray) (k : Nat) (acc : List Ln) (j : Nat) : St := ⟨[(3, .own 0 0), (4, .row 1), (5, slD 1 strD (splB 10 s)), (6, .v (.int .i64 k)), (9, slD 1 strD (splB 59 (comA ((splB 10 s).getD k default)))), (13, .own 2 0), (14, .v (.int .i64 ((j + 1 : Nat) : Int)))], [z31, rowL 103 5 lnD acc, .cells 103 [.v (.int .i64 (k + 1)), .v (.int .i64 (pcC (spA (lnHead ((splB 10 s).getD k default))))), .v (.int .i64 (pcC (spZ (lnHead ((splB 10 s).getD k default))))), .row 3, .v (.string (comZ ((splB 10 s).getD k default)))], rowL 9 1 strD (((lnParts ((splB 10 s).getD k default)).drop 1).take j)], []⟩
set_option maxHeartbeats 4000000 in
theorem rLines_ok : Sound Tryz.prog (GlT mx pb) 50 ctLp := by
  refine sound_by (cc := true) Γrp9_ok Tryz.T_ok Tryz.mixed Tryz.func50 rfl (by kernel_rfl) (fun _ => rfl) (fun _ _ => by show 1 ≤ 82; decide) ?_
  intro (s : ByteArray) (hs : s.size ≤ 1000000000)
  have p0 : ctSplit.pre (s, 10) := hs
  by_cases hbig : s.size > 65536
  · repeat' (first | refine gw ?_ | (refine br (fun q_ => ?_) (fun q_ => ?_) <;> try simp only [Int.toNat_natCast, Nat.mul_one, Nat.add_zero] at q_) | (refine brF (fun q_ => ?_) (fun q_ => ?_) <;> try simp only [Int.toNat_natCast, Nat.mul_one, Nat.add_zero] at q_))
    refine EntR.of rfl ?_
    show Ent _ (D.tu [lnsD (linesP s).1, faultA (linesP s).2.1 (linesP s).2.2])
    rw [linesP, if_pos hbig]
    exact Ent.tu2 Ent.nil (Ent.refl _)
  have hP : linesP s = goP (splB 10 s) 1 [] := if_neg hbig
  obtain ⟨hL1, hL2, hL3⟩ := splB_len (c := 10) (s := s)
  repeat' (first | refine gw ?_ | (refine br (fun q_ => ?_) (fun q_ => ?_) <;> try simp only [Int.toNat_natCast, Nat.mul_one, Nat.add_zero] at q_) | (refine brF (fun q_ => ?_) (fun q_ => ?_) <;> try simp only [Int.toNat_natCast, Nat.mul_one, Nat.add_zero] at q_))
  refine ⟨0, Nat × List Ln, fun | (k, acc) => ⟨[(3, .own 0 0), (4, .row 1), (5, slD 1 strD (splB 10 s)), (6, .v (.int .i64 k))], [z31, rowL 103 5 lnD acc], []⟩, fun | (k, acc) => k ≤ (splB 10 s).length ∧ acc.length ≤ k ∧ goP ((splB 10 s).drop k) ((k : Int) + 1) acc = linesP s, fun x => (splB 10 s).length - x.1, fun _ => Nat.zero_le _, ⟨(0, []), ⟨Nat.zero_le _, Nat.zero_le _, hP.symm⟩, StLe.trans (StLe.nilRow (t := 4) 103 5 (fun _ _ => .junk) rfl) (StLe.ren [0, 1] tmS ⟨⟨rfl, EntL.refl _, rfl⟩, own_nil, trivial⟩ (by decide))⟩, ?_⟩
  rintro ⟨k, acc⟩ ⟨hk, hacc, hg⟩
  by_cases hlt : k < (splB 10 s).length
  · have hx := hL3 k
    rw [goP_step hlt] at hg
    have hcx := comA_len ((splB 10 s).getD k default)
    obtain ⟨hQ1, hQ2, hQ3⟩ := splB_len (c := 59) (s := comA ((splB 10 s).getD k default))
    have p1 : ctCom.pre ((splB 10 s).getD k default) := (by show ByteArray.size _ ≤ _; omega)
    have p2 : ctTrimS.pre (comA ((splB 10 s).getD k default)) := (by show (comA ((splB 10 s).getD k default)).size ≤ _; omega)
    have p3 : ctSplit.pre (comA ((splB 10 s).getD k default), 59) := (by show (comA ((splB 10 s).getD k default)).size ≤ _; omega)
    have p4 : ∀ j, ctTrimS.pre ((splB 59 (comA ((splB 10 s).getD k default))).getD j default) := fun j => (by have := hQ3 j; show (ByteArray.size _) ≤ _; omega)
    have p5 := p4 0
    have ht := trimB_len ((splB 59 (comA ((splB 10 s).getD k default))).getD 0 default)
    have ht0 := hQ3 0
    have p6 : ctSpan.pre (trimB ((splB 59 (comA ((splB 10 s).getD k default))).getD 0 default)) := (by show ByteArray.size _ ≤ _; omega)
    have ehd : trimB ((splB 59 (comA ((splB 10 s).getD k default))).getD 0 default) = lnHead ((splB 10 s).getD k default) := cutP_head _
    repeat' (first | refine gw ?_ | (refine br (fun q_ => ?_) (fun q_ => ?_) <;> try simp only [Int.toNat_natCast, Nat.mul_one, Nat.add_zero] at q_) | (refine brF (fun q_ => ?_) (fun q_ => ?_) <;> try simp only [Int.toNat_natCast, Nat.mul_one, Nat.add_zero] at q_))
    · rw [if_pos (emB_iff.2 q_)] at hg
      exact ⟨(k + 1, acc), ⟨by omega, by omega, hg⟩, (by show _ - (k + 1) < _ - k; omega), StLe.ren [0, 1] tmS ⟨⟨rfl, EntL.refl _, rfl⟩, own_refl, trivial⟩ (by decide)⟩
    · rename_i h1
      have hb : spanB (lnHead ((splB 10 s).getD k default)) = false := by rw [← ehd]; exact q_
      rw [if_neg (fun h => h1 (emB_iff.1 h)), if_neg (by rw [hb]; decide)] at hg
      refine EntR.of rfl ?_
      show Ent _ (D.tu [lnsD (linesP s).1, faultA (linesP s).2.1 (linesP s).2.2])
      rw [← hg]
      exact Ent.tu2 Ent.nil (Ent.refl _)
    rename_i h1
    have hb : spanB (lnHead ((splB 10 s).getD k default)) = true := by rw [← ehd]; exact q_
    rw [if_neg (fun h => h1 (emB_iff.1 h)), if_pos hb] at hg
    have hpl : (lnParts ((splB 10 s).getD k default)).length = (splB 59 (comA ((splB 10 s).getD k default))).length := List.length_map _
    refine ⟨0, Nat, rLnSt s k acc, fun j => j + 1 ≤ (lnParts ((splB 10 s).getD k default)).length, fun j => (lnParts ((splB 10 s).getD k default)).length - j, fun _ => Nat.zero_le _, ⟨0, by rw [hpl]; exact hQ1, StLe.trans (StLe.nilCell (i := 2) (j := 3) 9 1 (fun _ _ => .junk) rfl rfl) (StLe.ren [0, 1, 2, 3] tmS ⟨⟨rfl, EntL.refl _, rfl⟩, own_refl, ⟨rfl, EntL.cons (Ent.refl _) (EntL.cons (Ent.int (congrArg (fun y => pcC (spA y)) ehd)) (EntL.cons (Ent.int (congrArg (fun y => pcC (spZ y)) ehd)) (EntL.refl _))), rfl⟩, own_nil, trivial⟩ (by decide))⟩, ?_⟩
    intro j (hj : j + 1 ≤ (lnParts ((splB 10 s).getD k default)).length)
    unfold rLnSt
    have p7 := p4 (j + 1)
    have hnt : (((lnParts ((splB 10 s).getD k default)).drop 1).take j).length = j := by rw [List.length_take, List.length_drop]; omega
    by_cases hjl : j + 1 < (lnParts ((splB 10 s).getD k default)).length
    · have eel : trimB ((splB 59 (comA ((splB 10 s).getD k default))).getD (j + 1) default) = ((lnParts ((splB 10 s).getD k default)).drop 1).getD j default := by
        have e0 := getD_map trimB (l := splB 59 (comA ((splB 10 s).getD k default))) (k := j + 1) (by omega)
        rw [← e0]
        simp [lnParts, cutP, List.getD_eq_getElem?_getD, Nat.add_comm]
      repeat' (first | refine gw ?_ | (refine br (fun q_ => ?_) (fun q_ => ?_) <;> try simp only [Int.toNat_natCast, Nat.mul_one, Nat.add_zero] at q_) | (refine brF (fun q_ => ?_) (fun q_ => ?_) <;> try simp only [Int.toNat_natCast, Nat.mul_one, Nat.add_zero] at q_))
      exact ⟨j + 1, (by show j + 1 + 1 ≤ _; omega), (by show _ - (j + 1) < _ - j; omega), StLe.ren [0, 1, 2, 4] tmS ⟨⟨rfl, EntL.refl _, rfl⟩, own_refl, ⟨rfl, EntL.refl _, rfl⟩, by rw [take_at (show j < ((lnParts ((splB 10 s).getD k default)).drop 1).length by rw [List.length_drop]; omega)]; exact own_app (lt1 (Ent.v (congrArg Value.string eel))), trivial⟩ (by decide)⟩
    · have hta : ((lnParts ((splB 10 s).getD k default)).drop 1).take j = (lnParts ((splB 10 s).getD k default)).drop 1 := List.take_of_length_le (by rw [List.length_drop]; omega)
      repeat' (first | refine gw ?_ | (refine br (fun q_ => ?_) (fun q_ => ?_) <;> try simp only [Int.toNat_natCast, Nat.mul_one, Nat.add_zero] at q_) | (refine brF (fun q_ => ?_) (fun q_ => ?_) <;> try simp only [Int.toNat_natCast, Nat.mul_one, Nat.add_zero] at q_))
      exact ⟨(k + 1, acc ++ [lnMk ((k : Int) + 1) ((splB 10 s).getD k default)]), ⟨by omega, by simp; omega, hg⟩, (by show _ - (k + 1) < _ - k; omega), StLe.ren [0, 4] tmS ⟨⟨rfl, EntL.refl _, rfl⟩, own_app (lt5 (Ent.refl _) (Ent.refl _) (Ent.refl _) (Ent.of_eq (congrArg (slD 1 strD) hta)) (Ent.refl _)), trivial⟩ (by decide)⟩
  · have hke : k = (splB 10 s).length := by omega
    rw [List.drop_eq_nil_of_le (by omega)] at hg
    repeat' (first | refine gw ?_ | (refine br (fun q_ => ?_) (fun q_ => ?_) <;> try simp only [Int.toNat_natCast, Nat.mul_one, Nat.add_zero] at q_) | (refine brF (fun q_ => ?_) (fun q_ => ?_) <;> try simp only [Int.toNat_natCast, Nat.mul_one, Nat.add_zero] at q_))
    refine EntR.of rfl ?_
    show Ent _ (D.tu [lnsD (linesP s).1, faultA (linesP s).2.1 (linesP s).2.2])
    rw [← hg]
    exact Ent.refl _
end Go.Proofs
