import Derived.Test.YtfalaomjfkaphaaGreatDoorEa
import Derived.Test.YtfalaomjfkaphaaGreatDoorT16c
import Derived.Test.YtfalaomjfkaphaaGreatDoorT9
set_option linter.unusedVariables false
set_option linter.unusedSimpArgs false
namespace Go.Proofs
open Go Go.Sx Go.RowKit
variable {mx : Int} {pb : Bool}

/-! a field of mappings, read -/
theorem pcE_hex {w : ByteArray} (h : pcE w = 0) : hexS (pcC w) = w ∧ validB (pcC w) = true := by
  unfold pcE at h
  split at h
  · rename_i hp
    have e : pcC w = foldC w w.size := if_pos hp
    rw [e]
    refine ⟨hp.2.2.2, ?_⟩
    cases hv : validB (foldC w w.size) with
    | true => rfl
    | false =>
      have h1 : hexS (foldC w w.size) = ⟨#[]⟩ := by
        unfold hexS hexL
        rw [hv]
        rfl
      have h2 := hp.1
      rw [← hp.2.2.2, h1] at h2
      exact absurd h2 (by decide)
  · omega
theorem join_splitL (c : UInt8) : ∀ l, Lib.join (splitL c l) [c] = l
  | [] => rfl
  | b :: l => by
    have ih := join_splitL c l
    rw [splitL]
    split
    · rename_i h
      subst h
      cases hs : splitL b l with
      | nil => exact absurd hs (splitL_ne b l)
      | cons x xs =>
        rw [hs] at ih
        rw [Lib.join_cons] at ih ⊢
        rw [List.nil_append, show Lib.joinTail [b] (x :: xs) = [b] ++ x ++ Lib.joinTail [b] xs from rfl, List.append_assoc, ih]
        rfl
    · cases hs : splitL c l with
      | nil => exact absurd hs (splitL_ne c l)
      | cons x xs =>
        rw [hs] at ih
        simp only
        rw [Lib.join_cons] at ih ⊢
        rw [List.cons_append, ih]
theorem codes_pcs {s : ByteArray} (h : (pcWs s).all pcB = true) : codesS ((pcWs s).map pcC) = s := by
  have hw : ∀ w ∈ pcWs s, hexS (pcC w) = w := fun w hw => (pcE_hex (by simpa [pcB] using List.all_eq_true.1 h w hw)).1
  have e1 := codes_join ((pcWs s).map pcC) _ (Nat.le_refl _)
  rw [List.take_length, List.map_map] at e1
  have e2 : (pcWs s).map (hexS ∘ pcC) = pcWs s := by
    have : (pcWs s).map (hexS ∘ pcC) = (pcWs s).map id := List.map_congr_left fun w hw' => hw w hw'
    rw [this, List.map_id]
  rw [e2] at e1
  rw [codesS, ← e1]
  by_cases he : emB s = true
  · have h0 : pcWs s = [] := if_pos he
    rw [h0, emB_iff.1 he]
    rfl
  · have h0 : pcWs s = splB 32 s := if_neg he
    rw [h0]
    apply toList_inj
    show Lib.join ((splB 32 s).map (·.data.toList)) [32] = s.data.toList
    have : (splB 32 s).map (·.data.toList) = splitL 32 s.data.toList := by
      unfold splB
      rw [List.map_map]
      exact List.map_id' _
    rw [this, join_splitL]
theorem allV_pcs {s : ByteArray} (h : (pcWs s).all pcB = true) : allV ((pcWs s).map pcC) = true := by
  unfold allV
  rw [List.all_map, List.all_eq_true]
  intro w hw
  exact (pcE_hex (by simpa [pcB] using List.all_eq_true.1 h w hw)).2
theorem pcs_ok {s : ByteArray} (h : pcsE s = 0) : (pcWs s).all pcB = true := by
  cases hh : (pcWs s).all pcB with
  | true => rfl
  | false => have := (pcs_no hh).2; omega
theorem pcsT_len (s : ByteArray) : (pcsT s).length ≤ s.size + 1 := by
  unfold pcsT
  split
  · rw [List.length_map]
    unfold pcWs
    split
    · exact Nat.zero_le _
    · exact (splB_len (c := 32) (s := s)).2.1
  · exact Nat.zero_le _
theorem pcs_nil : pcsT ⟨#[]⟩ = [] ∧ pcsE ⟨#[]⟩ = 0 := pcs_yes (s := ⟨#[]⟩) (by rw [show pcWs ⟨#[]⟩ = [] from if_pos (by decide)]; rfl)

/-! the parts of a field -/
def gtB : ByteArray := ⟨#[62]⟩
def fdL (s : ByteArray) : Bool := decide (0 < s.size) && decide (bAt s 0 = 60)
def fdR (s : ByteArray) : ByteArray := bcut s 1 s.size
def fdN (s : ByteArray) : ByteArray := cutA (fdR s) gtB
def fdZ (s : ByteArray) : ByteArray := cutZ (fdR s) gtB
def fdC (s : ByteArray) : Bool := cutF (fdR s) gtB && isNameB (fdN s)
def spH (z : ByteArray) : Bool := decide (0 < z.size) && decide (bAt z 0 = 32)
def fdX (z : ByteArray) : ByteArray := bcut z 1 z.size
noncomputable def fd (s : ByteArray) : Option (ByteArray × List Int) :=
  if fdL s = true then
    if fdC s = true then
      if emB (fdZ s) = true then some (fdN s, [])
      else if spH (fdZ s) = true ∧ ¬ emB (fdX (fdZ s)) = true ∧ pcsE (fdX (fdZ s)) = 0 then some (fdN s, pcsT (fdX (fdZ s))) else none
    else none
  else if pcsE s = 0 then some (⟨#[]⟩, pcsT s) else none
noncomputable def fdB (s : ByteArray) : Bool := (fd s).isSome
noncomputable def fdG (s : ByteArray) : ByteArray := (fd s).elim ⟨#[]⟩ (·.1)
noncomputable def fdT (s : ByteArray) : List Int := (fd s).elim [] (·.2)
noncomputable def ctFd : Ct := { ι := ByteArray, inp := fun s => [.v (.string s)], out := fun s => .tu [.v (.string (fdG s)), slD 1 intD (fdT s), .v (.bool (fdB s))], pre := fun s => s.size ≤ 1000000000 }
theorem fd_out {s : ByteArray} : ctFd.out s = .tu [.v (.string (fdG s)), slD 1 intD (fdT s), .v (.bool (fdB s))] := rfl
theorem fd_no {s : ByteArray} (h : fd s = none) {d : D} (hd : d = .tu [.v (.string ⟨#[]⟩), nilV, .v (.bool false)]) : Ent d (ctFd.out s) := by
  rw [fd_out, fdG, fdT, fdB, h, hd]
  exact Ent.tu3 (Ent.refl _) Ent.nil (Ent.refl _)
theorem fd_yes {s t : ByteArray} {l : List Int} (h : fd s = some (t, l)) {d e : D} (hd : d = .tu [.v (.string t), e, .v (.bool true)]) (he : Ent e (slD 1 intD l)) : Ent d (ctFd.out s) := by
  rw [fd_out, fdG, fdT, fdB, h, hd]
  exact Ent.tu3 (Ent.refl _) he (Ent.refl _)
/-! strings.CutPrefix -/
def ctCp : Ct := { ι := ByteArray × UInt8, inp := fun x => [.v (.string x.1), .v (.string ⟨#[x.2]⟩)], out := fun x => .tu [.v (.string (if decide (0 < x.1.size) && decide (bAt x.1 0 = x.2.toNat) then bcut x.1 1 x.1.size else x.1)), .v (.bool (decide (0 < x.1.size) && decide (bAt x.1 0 = x.2.toNat)))], pre := fun _ => True }
theorem pre1 {s : ByteArray} {c : UInt8} : Lib.hasPrefix s.data.toList [c] = (decide (0 < s.size) && decide (bAt s 0 = c.toNat)) := by
  by_cases h : 0 < s.size
  · have := occ1 (s := s) (c := c) h
    unfold Lib.occAt at this
    rw [List.drop_zero] at this
    rw [Lib.hasPrefix, this, decide_eq_true h]
    rfl
  · have : s.data.toList = [] := List.length_eq_zero_iff.1 (show s.size = 0 by omega)
    rw [this, decide_eq_false h]
    rfl
theorem cp_ok : Sound Tryz.prog (GlT mx pb) 61 ctCp := by
  refine sound_calls Tryz.func61 (by kernel_rfl) (by kernel_rfl) (fun _ => rfl) fun x hs M w us hfit hG hr => ?_
  have := two_vals hr
  subst this
  refine (Any.strings_CutPrefix Tryz.lays103 x.1 ⟨#[x.2]⟩ w).mono ?_
  rintro e w' ⟨rfl, rfl⟩
  refine ⟨_, rfl, ?_, Below.refl _ _⟩
  have e1 : Lib.hasPrefix x.1.data.toList (⟨#[x.2]⟩ : ByteArray).data.toList = (decide (0 < x.1.size) && decide (bAt x.1 0 = x.2.toNat)) := pre1
  rw [Lib.trimPrefix, e1]
  have e2 : (⟨(if (decide (0 < x.1.size) && decide (bAt x.1 0 = x.2.toNat)) = true then x.1.data.toList.drop (⟨#[x.2]⟩ : ByteArray).data.toList.length else x.1.data.toList).toArray⟩ : ByteArray) = (if (decide (0 < x.1.size) && decide (bAt x.1 0 = x.2.toNat)) = true then bcut x.1 1 x.1.size else x.1) := by
    split
    · rw [bcut_suf]; rfl
    · rfl
  rw [e2]
  exact tu2
noncomputable def Γfd : Ctx := fun f => match f with
  | 61 => some (.pure ctCp)
  | 57 => some (.pure (ctCut1 gtB))
  | 53 => some (.pure ctName)
  | 62 => some (.pure ctPcs)
  | _ => none
theorem Γfd_ok : CtxOk Tryz.prog (GlT mx pb) Γfd := by
  intro f h hh
  simp only [Γfd] at hh
  split at hh <;> simp at hh <;> subst hh
  · exact cp_ok
  · exact (cut1_ok _)
  · exact isName_ok
  · exact parseCodes_ok
set_option maxHeartbeats 4000000 in
theorem mField_ok : Sound Tryz.prog (GlT mx pb) 34 ctFd := by
  refine sound_by (cc := true) Γfd_ok Tryz.T_ok Tryz.mixed Tryz.func34 rfl (by kernel_rfl) (fun _ => rfl) (fun _ _ => by show 1 ≤ 58; decide) ?_
  intro (s : ByteArray) (hs : s.size ≤ 1000000000)
  have h1 : (fdR s).size ≤ s.size := by rw [fdR, bcut_size s (Nat.le_refl _)]; omega
  have h2 := cutA_len (fdR s) gtB
  have h3 := cutZ_len (fdR s) gtB
  have h4 : (fdX (fdZ s)).size ≤ (fdZ s).size := by rw [fdX, bcut_size _ (Nat.le_refl _)]; omega
  have h5 : (fdZ s).size ≤ s.size := Nat.le_trans h3 h1
  have p1 : (ctCut1 gtB).pre (fdR s) := (by show (fdR s).size < _; omega)
  have p2 : ctName.pre (fdN s) := (by show (cutA (fdR s) gtB).size ≤ _; omega)
  have p3 : ctPcs.pre s := hs
  have p4 : ctPcs.pre (fdX (fdZ s)) := (by show (fdX (fdZ s)).size ≤ _; omega)
  repeat' (first | refine gw ?_ | (refine br (fun q_ => ?_) (fun q_ => ?_) <;> try simp only [Int.toNat_natCast, Nat.mul_one, Nat.add_zero] at q_) | (refine brF (fun q_ => ?_) (fun q_ => ?_) <;> try simp only [Int.toNat_natCast, Nat.mul_one, Nat.add_zero] at q_))
  refine ⟨(s, 60), EntL.refl _, trivial, ?_⟩
  rcases Bool.eq_false_or_eq_true (fdL s) with hL | hL
  · rw [show ctCp.out (s, 60) = .tu [.v (.string (fdR s)), .v (.bool true)] from by show D.tu [.v (.string (if fdL s = true then fdR s else s)), .v (.bool (fdL s))] = _; rw [hL]; rfl]
    have ef : fd s = if fdC s = true then (if emB (fdZ s) = true then some (fdN s, []) else if spH (fdZ s) = true ∧ ¬ emB (fdX (fdZ s)) = true ∧ pcsE (fdX (fdZ s)) = 0 then some (fdN s, pcsT (fdX (fdZ s))) else none) else none := if_pos hL
    repeat' (first | refine gw ?_ | (refine br (fun q_ => ?_) (fun q_ => ?_) <;> try simp only [Int.toNat_natCast, Nat.mul_one, Nat.add_zero] at q_) | (refine brF (fun q_ => ?_) (fun q_ => ?_) <;> try simp only [Int.toNat_natCast, Nat.mul_one, Nat.add_zero] at q_))
    · rename_i h6
      exact EntR.of rfl (fd_no (by rw [ef, if_neg (by rw [fdC, h6, show isNameB (fdN s) = false from q_]; decide)]) rfl)
    · rename_i h6 h7
      exact EntR.of rfl (fd_yes (t := fdN s) (l := []) (by rw [ef, if_pos (by rw [fdC, h6, show isNameB (fdN s) = true from h7]; rfl), if_pos (emB_iff.2 (show fdZ s = ⟨#[]⟩ from q_))]) rfl Ent.nil)
    · rename_i h6 h7
      have hC : fdC s = true := by rw [fdC, h6, show isNameB (fdN s) = true from h7]; rfl
      have hZ : ¬ emB (fdZ s) = true := fun h => q_ (emB_iff.1 h)
      rw [if_pos hC, if_neg hZ] at ef
      refine ⟨(fdZ s, 32), EntL.refl _, trivial, ?_⟩
      rcases Bool.eq_false_or_eq_true (spH (fdZ s)) with hS | hS
      · rw [show ctCp.out (fdZ s, 32) = .tu [.v (.string (fdX (fdZ s))), .v (.bool true)] from by show D.tu [.v (.string (if spH (fdZ s) = true then fdX (fdZ s) else fdZ s)), .v (.bool (spH (fdZ s)))] = _; rw [hS]; rfl]
        repeat' (first | refine gw ?_ | (refine br (fun q_ => ?_) (fun q_ => ?_) <;> try simp only [Int.toNat_natCast, Nat.mul_one, Nat.add_zero] at q_) | (refine brF (fun q_ => ?_) (fun q_ => ?_) <;> try simp only [Int.toNat_natCast, Nat.mul_one, Nat.add_zero] at q_))
        · exact EntR.of rfl (fd_no (by rw [ef, if_neg (fun h => h.2.1 (emB_iff.2 q_))]) rfl)
        · exact EntR.of rfl (fd_no (by rw [ef, if_neg (fun h => q_ h.2.2)]) rfl)
        · rename_i h8
          exact EntR.of rfl (fd_yes (by rw [ef, if_pos ⟨hS, fun h => h8 (emB_iff.1 h), q_⟩]; rfl) rfl (Ent.refl _))
      · rw [show ctCp.out (fdZ s, 32) = .tu [.v (.string (fdZ s)), .v (.bool false)] from by show D.tu [.v (.string (if spH (fdZ s) = true then fdX (fdZ s) else fdZ s)), .v (.bool (spH (fdZ s)))] = _; rw [hS]; rfl]
        repeat' (first | refine gw ?_ | (refine br (fun q_ => ?_) (fun q_ => ?_) <;> try simp only [Int.toNat_natCast, Nat.mul_one, Nat.add_zero] at q_) | (refine brF (fun q_ => ?_) (fun q_ => ?_) <;> try simp only [Int.toNat_natCast, Nat.mul_one, Nat.add_zero] at q_))
        exact EntR.of rfl (fd_no (by rw [ef, if_neg (fun h => by rw [hS] at h; exact Bool.noConfusion h.1)]) rfl)
    · exact EntR.of rfl (fd_no (by rw [ef, if_neg (by rw [fdC, q_]; simp)]) rfl)
  · rw [show ctCp.out (s, 60) = .tu [.v (.string s), .v (.bool false)] from by show D.tu [.v (.string (if fdL s = true then fdR s else s)), .v (.bool (fdL s))] = _; rw [hL]; rfl]
    have ef : fd s = if pcsE s = 0 then some (⟨#[]⟩, pcsT s) else none := if_neg (by rw [hL]; decide)
    repeat' (first | refine gw ?_ | (refine br (fun q_ => ?_) (fun q_ => ?_) <;> try simp only [Int.toNat_natCast, Nat.mul_one, Nat.add_zero] at q_) | (refine brF (fun q_ => ?_) (fun q_ => ?_) <;> try simp only [Int.toNat_natCast, Nat.mul_one, Nat.add_zero] at q_))
    · exact EntR.of rfl (fd_no (by rw [ef, if_neg q_]) rfl)
    · exact EntR.of rfl (fd_yes (by rw [ef, if_pos q_]) rfl (Ent.refl _))

/-! the reference's read -/
def rdX (z : ByteArray) : ByteArray := if spH z = true then fdX z else z
def rdP (s : ByteArray) : ByteArray := if fdL s = true then rdX (fdZ s) else s
noncomputable def rdM (s : ByteArray) : Mp := if fdL s = true ∧ ¬ fdC s = true then ⟨0, [], ⟨#[]⟩⟩ else ⟨0, pcsT (rdP s), if fdL s = true then fdN s else ⟨#[]⟩⟩
noncomputable def ctRd : Ct := { ι := ByteArray, inp := fun s => [.v (.string s)], out := fun s => .tu [mpA (rdM s), .v (.bool (fdB s))], pre := fun s => s.size ≤ 90000 }
theorem fdL_head {s : ByteArray} (h : fdL s = true) : s = bcat ⟨#[60]⟩ (fdR s) := by
  simp only [fdL, Bool.and_eq_true, decide_eq_true_eq] at h
  apply toList_inj
  show s.data.toList = 60 :: (fdR s).data.toList
  rw [fdR, bcut_suf]
  show s.data.toList = 60 :: s.data.toList.drop 1
  have h1 : 0 < s.data.toList.length := h.1
  have e : s.data.toList[0] = 60 := u8_eq.1 (by rw [← bAt_get h.1]; exact h.2)
  conv => lhs; rw [← List.drop_zero (l := s.data.toList), List.drop_eq_getElem_cons h1, e]
theorem cut_cat {s : ByteArray} (h : cutF s gtB = true) : s = bcat (bcat (cutA s gtB) gtB) (cutZ s gtB) := by
  unfold cutF at h
  unfold cutA cutZ
  rw [show gtB.data.toList = [62] from rfl] at *
  rcases splL_idx 62 s.data.toList with ⟨i, hi, h1, _⟩ | ⟨h1, _⟩
  · have hc : Lib.cut s.data.toList [62] = (s.data.toList.take i, s.data.toList.drop (i + 1), true) := by
      unfold Lib.cut
      rw [h1, if_pos (by omega)]
      simp
    rw [hc]
    apply toList_inj
    show s.data.toList = s.data.toList.take i ++ [62] ++ s.data.toList.drop (i + 1)
    have hg : s.data.toList[i] = 62 := by
      rcases Lib.index_spec s.data.toList [62] with ⟨h2, _⟩ | ⟨k, h2, h3, h4, _⟩
      · omega
      · have : k = i := by omega
        subst this
        rw [occ1 (show k < s.size from hi)] at h4
        have := of_decide_eq_true h4
        rw [bAt_get (show k < s.size from hi)] at this
        exact u8_eq.1 this
    conv => lhs; rw [← List.take_append_drop i s.data.toList, List.drop_eq_getElem_cons hi, hg]
    simp
  · have hc : Lib.cut s.data.toList [62] = (s.data.toList, [], false) := by
      unfold Lib.cut
      rw [h1, if_neg (by decide)]
    rw [hc] at h
    exact Bool.noConfusion h
theorem bcat_inj {a b c : ByteArray} (h : bcat a b = bcat a c) : b = c := by
  have := congrArg (fun x : ByteArray => x.data.toList) h
  exact toList_inj (List.append_cancel_left this)
theorem spH_cat {z : ByteArray} (h : spH z = true) : z = bcat spB (fdX z) := by
  simp only [spH, Bool.and_eq_true, decide_eq_true_eq] at h
  apply toList_inj
  show z.data.toList = 32 :: (fdX z).data.toList
  rw [fdX, bcut_suf]
  show z.data.toList = 32 :: z.data.toList.drop 1
  have h1 : 0 < z.data.toList.length := h.1
  have e : z.data.toList[0] = 32 := u8_eq.1 (by rw [← bAt_get h.1]; exact h.2)
  conv => lhs; rw [← List.drop_zero (l := z.data.toList), List.drop_eq_getElem_cons h1, e]
theorem spH_head (x : ByteArray) : spH (bcat spB x) = true := by
  unfold spH
  have h1 : 0 < (bcat spB x).size := by rw [bcat_size']; show 0 < 1 + _; omega
  rw [decide_eq_true h1]
  rfl
theorem fdX_cat (x : ByteArray) : fdX (bcat spB x) = x := by
  rw [fdX, bcut_suf]
  rfl
/-- What read asks of a field is its form. -/
theorem rd_ok (s : ByteArray) : fdB s = true ↔ (¬ (fdL s = true ∧ ¬ fdC s = true) ∧ pcsE (rdP s) = 0 ∧ fieldS (rdM s) = s) := by
  have hcod : ∀ z, pcsE z = 0 → codesS (pcsT z) = z := fun z h => by rw [(pcs_yes (pcs_ok h)).1]; exact codes_pcs (pcs_ok h)
  by_cases hL : fdL s = true
  · by_cases hC : fdC s = true
    · have hn : isNameB (fdN s) = true := by simp only [fdC, Bool.and_eq_true] at hC; exact hC.2
      have hf : cutF (fdR s) gtB = true := by simp only [fdC, Bool.and_eq_true] at hC; exact hC.1
      have hne : ¬ emB (fdN s) = true := fun h => by
        rw [emB_iff.1 h] at hn
        exact absurd hn (by decide)
      have hM : rdM s = ⟨0, pcsT (rdX (fdZ s)), fdN s⟩ := by rw [rdM, if_neg (fun h => h.2 hC), rdP, if_pos hL, if_pos hL]
      have hP : rdP s = rdX (fdZ s) := if_pos hL
      have hs : s = bcat (bcat (bcat ⟨#[60]⟩ (fdN s)) gtB) (fdZ s) := by
        have h1 := fdL_head hL
        have h2 := cut_cat hf
        rw [bcat_assoc, bcat_assoc]
        rw [bcat_assoc] at h2
        exact h1.trans (congrArg _ h2)
      have hF : fieldS (rdM s) = bcat (bcat (bcat ⟨#[60]⟩ (fdN s)) gtB) (if emB (codesS (pcsT (rdX (fdZ s)))) = true then codesS (pcsT (rdX (fdZ s))) else bcat spB (codesS (pcsT (rdX (fdZ s))))) := by
        rw [hM, fieldS, if_neg hne, tagS, if_neg hne]
        rfl
      have key : fieldS (rdM s) = s ↔ (if emB (codesS (pcsT (rdX (fdZ s)))) = true then codesS (pcsT (rdX (fdZ s))) else bcat spB (codesS (pcsT (rdX (fdZ s))))) = fdZ s := by
        rw [hF]
        constructor
        · intro h; exact bcat_inj (h.trans hs)
        · intro h; rw [h]; exact hs.symm
      rw [key, hP]
      have ef : fd s = (if emB (fdZ s) = true then some (fdN s, []) else if spH (fdZ s) = true ∧ ¬ emB (fdX (fdZ s)) = true ∧ pcsE (fdX (fdZ s)) = 0 then some (fdN s, pcsT (fdX (fdZ s))) else none) := by rw [fd, if_pos hL, if_pos hC]
      rw [fdB, ef]
      by_cases hZ : emB (fdZ s) = true
      · have e0 := emB_iff.1 hZ
        have e1 : rdX (fdZ s) = ⟨#[]⟩ := by rw [e0]; rfl
        rw [if_pos hZ, e1, pcs_nil.1, pcs_nil.2, e0]
        exact ⟨fun _ => ⟨fun h => h.2 hC, rfl, rfl⟩, fun _ => rfl⟩
      · rw [if_neg hZ]
        by_cases hS : spH (fdZ s) = true
        · have e1 : rdX (fdZ s) = fdX (fdZ s) := if_pos hS
          rw [e1]
          constructor
          · intro h
            split at h
            · rename_i hh
              refine ⟨fun h => h.2 hC, hh.2.2, ?_⟩
              rw [hcod _ hh.2.2, if_neg hh.2.1]
              exact (spH_cat hS).symm
            · simp at h
          · rintro ⟨_, h1, h2⟩
            rw [hcod _ h1] at h2
            by_cases hX : emB (fdX (fdZ s)) = true
            · rw [if_pos hX] at h2
              rw [← h2] at hZ
              exact absurd hX hZ
            · rw [if_pos ⟨hS, hX, h1⟩]
              rfl
        · have e1 : rdX (fdZ s) = fdZ s := if_neg hS
          rw [e1, if_neg (fun h => hS h.1)]
          constructor
          · intro h; simp at h
          · rintro ⟨_, h1, h2⟩
            rw [hcod _ h1, if_neg hZ] at h2
            rw [← h2] at hS
            exact absurd (spH_head _) hS
    · have ef : fd s = none := by rw [fd, if_pos hL, if_neg hC]
      rw [fdB, ef]
      exact ⟨fun h => by simp at h, fun h => absurd ⟨hL, hC⟩ h.1⟩
  · have ef : fd s = if pcsE s = 0 then some (⟨#[]⟩, pcsT s) else none := if_neg hL
    have hP : rdP s = s := if_neg hL
    have hM : rdM s = ⟨0, pcsT s, ⟨#[]⟩⟩ := by rw [rdM, if_neg (fun h => hL h.1), hP, if_neg hL]
    have hF : fieldS (rdM s) = codesS (pcsT s) := by rw [hM, fieldS, if_pos (show emB ⟨#[]⟩ = true by decide)]
    rw [fdB, ef, hP, hF]
    by_cases h : pcsE s = 0
    · rw [if_pos h]
      exact ⟨fun _ => ⟨fun h => hL h.1, h, hcod _ h⟩, fun _ => rfl⟩
    · rw [if_neg h]
      exact ⟨fun h => by simp at h, fun hh => absurd hh.2.1 h⟩
theorem rd_mp {s : ByteArray} (h : fdB s = true) : rdM s = ⟨0, fdT s, fdG s⟩ := by
  have hr := (rd_ok s).1 h
  rw [rdM, if_neg hr.1]
  by_cases hL : fdL s = true
  · have hC : fdC s = true := by
      cases hc : fdC s with
      | true => rfl
      | false => exact absurd ⟨hL, by rw [hc]; decide⟩ hr.1
    have ef : fd s = (if emB (fdZ s) = true then some (fdN s, []) else if spH (fdZ s) = true ∧ ¬ emB (fdX (fdZ s)) = true ∧ pcsE (fdX (fdZ s)) = 0 then some (fdN s, pcsT (fdX (fdZ s))) else none) := by rw [fd, if_pos hL, if_pos hC]
    have hP : rdP s = rdX (fdZ s) := if_pos hL
    rw [if_pos hL, hP]
    unfold fdT fdG
    rw [fdB, ef] at h
    rw [ef]
    by_cases hZ : emB (fdZ s) = true
    · rw [if_pos hZ, emB_iff.1 hZ]
      show (⟨0, pcsT (rdX ⟨#[]⟩), _⟩ : Mp) = _
      rw [show rdX ⟨#[]⟩ = ⟨#[]⟩ from rfl, pcs_nil.1]
      rfl
    · rw [if_neg hZ] at h ⊢
      split at h
      · rename_i hh
        rw [if_pos hh, show rdX (fdZ s) = fdX (fdZ s) from if_pos hh.1]
        rfl
      · simp at h
  · have ef : fd s = if pcsE s = 0 then some (⟨#[]⟩, pcsT s) else none := if_neg hL
    have hP : rdP s = s := if_neg hL
    rw [if_neg hL, hP]
    rw [fdB, ef] at h
    unfold fdT fdG
    rw [ef]
    split at h
    · rename_i hh
      rw [if_pos hh]
      rfl
    · simp at h
theorem fdR_at {s : ByteArray} {j : Nat} (h : j + 1 < s.size) : bAt (fdR s) j = bAt s (j + 1) := by
  unfold bAt
  rw [fdR, bcut_suf, toList_listB]
  rw [List.getElem?_drop, Nat.add_comm]
theorem fdR_size (s : ByteArray) : (fdR s).size = s.size - 1 := by rw [fdR, bcut_size s (Nat.le_refl _)]
theorem fd_found {s : ByteArray} {k : Nat} (h0 : bAt s 0 = 60) (hk : k < s.size) (h : bAt s k = 62) (hn : ∀ j, j < k → ¬ bAt s j = 62) : 1 ≤ k ∧ cutF (fdR s) gtB = true ∧ fdN s = bcut s 1 k ∧ fdZ s = bcut s (k + 1) s.size := by
  have hk1 : 1 ≤ k := by
    rcases Nat.eq_zero_or_pos k with h1 | h1
    · subst h1; omega
    · exact h1
  have hz := fdR_size s
  have e := cut_at1 (s := fdR s) (c := 62) (k := k - 1) (by omega) (by rw [fdR_at (by omega), Nat.sub_add_cancel hk1]; exact h) (fun j hj => by rw [fdR_at (by omega)]; exact hn (j + 1) (by omega))
  have hL : (fdR s).data.toList = s.data.toList.drop 1 := by rw [fdR, bcut_suf]; rfl
  refine ⟨hk1, ?_, ?_, ?_⟩
  · rw [cutF, show gtB.data.toList = [62] from rfl, e]
  · rw [fdN, cutA, show gtB.data.toList = [62] from rfl, e]
    apply toList_inj
    rw [toList_listB, toList_bcut, hL, List.drop_take]
  · rw [fdZ, cutZ, show gtB.data.toList = [62] from rfl, e, bcut_suf]
    apply toList_inj
    rw [toList_listB, toList_listB, hL, List.drop_drop, Nat.sub_add_cancel hk1, Nat.add_comm]
theorem fd_none {s : ByteArray} (h0 : 0 < s.size) (hn : ∀ j, j < s.size → ¬ bAt s j = 62) : cutF (fdR s) gtB = false := by
  have hz := fdR_size s
  have e := cut_none1 (s := fdR s) (c := 62) (fun j hj => by rw [fdR_at (by omega)]; exact hn (j + 1) (by omega))
  rw [cutF, show gtB.data.toList = [62] from rfl, e]
theorem rd_out {s : ByteArray} {b : Bool} {m : Mp} (hb : fdB s = b) (hm : rdM s = m) : D.tu [mpA m, .v (.bool b)] = ctRd.out s := by
  show _ = D.tu [mpA (rdM s), .v (.bool (fdB s))]
  rw [hb, hm]
noncomputable def Γrd11 : Ctx := fun f => match f with
  | 40 => some (.pure ctName)
  | 41 => some (.pure ctPcs)
  | 42 => some (.pure ctField)
  | _ => none
theorem Γrd11_ok : CtxOk Tryz.prog (GlT mx pb) Γrd11 := by
  intro f h hh
  simp only [Γrd11] at hh
  split at hh <;> simp at hh <;> subst hh
  · exact rname_ok
  · exact rParseCodes_ok
  · exact field_ok
theorem rd_no {s : ByteArray} (h : ¬ (¬ (fdL s = true ∧ ¬ fdC s = true) ∧ pcsE (rdP s) = 0 ∧ fieldS (rdM s) = s)) : fdB s = false := by
  cases hb : fdB s with
  | false => rfl
  | true => exact absurd ((rd_ok s).1 hb) h
theorem name_size {s : ByteArray} (h : isNameB s = true) : s.size ≤ 32 := by
  simp only [isNameB, Bool.and_eq_true, decide_eq_true_eq] at h
  exact h.1.2
theorem rd_pre {z t : ByteArray} (hz : z.size ≤ 90000) (ht : t.size ≤ 1000000) (h : pcsE z = 0) : ctField.pre ⟨0, pcsT z, t⟩ := by
  have h1 := pcsT_len z
  refine ⟨?_, by show (pcsT z).length ≤ _; omega, ht⟩
  show allV (pcsT z) = true
  rw [(pcs_yes (pcs_ok h)).1]
  exact allV_pcs (pcs_ok h)
theorem rd_fin {s : ByteArray} {m : Mp} (h1 : ¬ (fdL s = true ∧ ¬ fdC s = true)) (h2 : pcsE (rdP s) = 0) (hm : rdM s = m) : D.tu [mpA m, .v (.bool (@decide (fieldS m = s) (baDec _ _)))] = ctRd.out s := by
  refine rd_out ?_ hm
  by_cases h : fieldS m = s
  · rw [(rd_ok s).2 ⟨h1, h2, by rw [hm]; exact h⟩, @decide_eq_true _ (baDec _ _) h]
  · rw [rd_no fun hh => h (by have := hh.2.2; rw [hm] at this; exact this), @decide_eq_false _ (baDec _ _) h]
end Go.Proofs
