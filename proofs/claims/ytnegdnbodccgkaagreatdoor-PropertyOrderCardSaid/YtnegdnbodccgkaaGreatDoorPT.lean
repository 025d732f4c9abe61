import Derived.Test.YtnegdnbodccgkaaGreatDoorPP
set_option linter.unusedVariables false
set_option linter.unusedSimpArgs false
namespace Go.Proofs
open Go Go.Sx

/-! property.Text, and Parse of it: plain -/
def nmsTx (l : List ByteArray) : List UInt8 := l.flatMap fun n => 32 :: n.data.toList
def lxSp (names : List ByteArray) (s : Sp) : Lx := ⟨s.lo, s.hi, (names.getD s.val.toNat default).data.toList⟩
def txL (p : Pr) : List UInt8 := (atB.data.toList ++ nmsTx p.names) ++ 10 :: lnsTx (p.spans.map (lxSp p.names))
noncomputable def txS (p : Pr) : ByteArray := if validP p = true then listB (txL p) else ⟨#[]⟩
noncomputable def txE (p : Pr) : Int := if validP p = true then 0 else 11
theorem valid_iff {p : Pr} : validP p = true ↔ prOk p := ⟨fun h => @of_decide_eq_true _ (Classical.propDecidable _) h, fun h => (validP_t h).symm⟩
theorem prOk_sp {p : Pr} (h : prOk p) {i : Nat} (hi : i < p.spans.length) : spIn p.names.length (p.spans.getD i default) := (h.2 i hi).1
theorem prOk_asc {p : Pr} (h : prOk p) : ascS p.spans := by
  have key : ∀ j, j < p.spans.length → ∀ i, i < j → (p.spans.getD i default).hi < (p.spans.getD j default).lo := by
    intro j
    induction j with
    | zero => intro _ i hi; omega
    | succ j ih =>
      intro hj i hi
      have h1 := ((h.2 (j + 1) hj).2 (by omega)).1
      rw [show j + 1 - 1 = j by omega] at h1
      by_cases e : i = j
      · subst e; exact h1
      · have h2 := ih (by omega) i (by omega)
        have h3 := (prOk_sp h (show j < p.spans.length by omega)).2.1
        omega
  unfold ascS
  rw [List.pairwise_iff_getElem]
  intro i j hi hj hij
  have := key j hj i hij
  rwa [getD_get hi, getD_get hj] at this
theorem prOk_all {p : Pr} (h : prOk p) : allS p.names.length p.spans := fun i hi => by
  have := prOk_sp h hi
  unfold spIn at this
  exact ⟨insB_iff.2 ⟨this.1, this.2.1, this.2.2.1⟩, by omega, by omega⟩
theorem prOk_apart {p : Pr} (h : prOk p) : apart p.spans := by
  have h1 := prOk_asc h
  unfold apart
  unfold ascS at h1
  refine List.Pairwise.imp_of_mem (fun {a b} ha hb hab ho => ?_) h1
  unfold ovS at ho
  omega
theorem prOk_srt {p : Pr} (h : prOk p) : srt p.spans = p.spans := by
  refine (srt_one (prOk_all h) (prOk_apart h) (List.Perm.refl _) ?_).symm
  have h1 := prOk_asc h
  unfold ascS at h1
  refine List.Pairwise.imp_of_mem (fun {a b} ha hb hab => ?_) h1
  have := mkS_lo (allS_iff.1 (prOk_all h) a ha)
  show a.lo ≤ b.lo
  omega
theorem prOk_join {p : Pr} (h : prOk p) : ∀ k, k ≤ p.spans.length → joinSp (p.spans.take k) = p.spans.take k
  | 0, _ => rfl
  | k + 1, hk => by
    have hk' : k < p.spans.length := hk
    have hl : (p.spans.take k).length = k := by rw [List.length_take]; omega
    have hs := prOk_sp h hk'
    unfold spIn at hs
    rw [joinSp_take hk', prOk_join h k (by omega)]
    unfold joinS1
    rw [if_neg (by omega), if_neg, List.take_succ_eq_append_getElem hk', getD_get hk']
    rintro ⟨h1, h2, h3⟩
    rw [hl] at h1 h2 h3
    have e : (p.spans.take k).getD (k - 1) default = p.spans.getD (k - 1) default := by
      rw [List.getD_eq_getElem?_getD, List.getElem?_take, if_pos (by omega), ← List.getD_eq_getElem?_getD]
    rw [e] at h2 h3
    exact ((h.2 k hk').2 h1).2 ⟨h2.symm, h3.symm⟩
theorem mkP_self {p : Pr} (h : prOk p) : mkE p.names p.spans = 0 ∧ mkP p.names p.spans = p := by
  have h0 := mkE_ok h.1 (prOk_all h) (noOv_iff.2 (prOk_apart h))
  refine ⟨h0, ?_⟩
  rw [mkP_yes h0, prOk_srt h]
  have := prOk_join h p.spans.length (Nat.le_refl _)
  rw [List.take_length] at this
  rw [this]
theorem nmB_size {s : ByteArray} (h : isNameB s = true) : s.size ≤ 32 := by
  simp only [isNameB, Bool.and_eq_true, decide_eq_true_eq] at h
  exact h.1.2
theorem nm_facts {l : List ByteArray} (h : namesB l = true) : ∀ n ∈ l, (∀ b ∈ n.data.toList, wordB b = true) ∧ n.data.toList ≠ [] ∧ n.size ≤ 32 := by
  intro n hn
  obtain ⟨i, hi, rfl⟩ := List.getElem_of_mem hn
  have h1 := (nmOk_of h i hi).1
  rw [List.getD_eq_getElem?_getD, List.getElem?_eq_getElem hi] at h1
  have h1 : isNameB l[i] = true := h1
  refine ⟨name_word h1, fun e => ?_, nmB_size h1⟩
  have : l[i] = ⟨#[]⟩ := size_nil e
  rw [this] at h1
  exact absurd h1 (by decide)
theorem split_names : ∀ (l : List ByteArray) (a : List UInt8), (∀ b ∈ a, b ≠ 32) → (∀ n ∈ l, ∀ b ∈ n.data.toList, b ≠ 32) → splitL 32 (a ++ nmsTx l) = a :: l.map (·.data.toList)
  | [], a, ha, _ => by
    rw [show nmsTx [] = [] from rfl, List.append_nil, splitL_none ha]; rfl
  | n :: l, a, ha, h => by
    rw [show nmsTx (n :: l) = 32 :: (n.data.toList ++ nmsTx l) from by simp [nmsTx], splitL_cut ha, split_names l n.data.toList (fun b hb => h n (by simp) b hb) (fun m hm => h m (by simp [hm]))]
    rfl
theorem nmsTx_mem {l : List ByteArray} (h : ∀ n ∈ l, ∀ b ∈ n.data.toList, wordB b = true) : ∀ b ∈ nmsTx l, b ≠ 10 := by
  intro b hb
  obtain ⟨n, hn, hb⟩ := List.mem_flatMap.1 hb
  rcases List.mem_cons.1 hb with rfl | hb
  · decide
  · exact (word_ne (h n hn b hb)).1
theorem fnd_uniq {l : List ByteArray} (h : namesB l = true) {i : Nat} (hi : i < l.length) : fndI l (l.getD i default) = some i :=
  fnd_at hi (fun j hj => (nmOk_of h i hi).2 j hj) rfl
theorem tx_lx {p : Pr} (h : prOk p) : ∀ x ∈ p.spans.map (lxSp p.names), okLx x := by
  intro x hx
  obtain ⟨s, hs, rfl⟩ := List.mem_map.1 hx
  obtain ⟨i, hi, rfl⟩ := List.getElem_of_mem hs
  have h1 := prOk_sp h hi
  rw [getD_get hi] at h1
  unfold spIn at h1
  refine ⟨validB_iff.2 ⟨h1.1, by show p.spans[i].lo ≤ _; omega⟩, validB_iff.2 ⟨by show 0 ≤ p.spans[i].hi; omega, h1.2.2.1⟩, h1.2.1, ?_⟩
  have hv : p.spans[i].val.toNat < p.names.length := by omega
  refine Good.word ((nm_facts h.1 _ ?_).1)
  rw [List.getD_eq_getElem?_getD, List.getElem?_eq_getElem hv]
  exact List.getElem_mem hv
/-- Parse reads what Text writes. -/
theorem prs_tx {p : Pr} (h : prOk p) (hs : (txS p).size ≤ 65536) : prsO (txS p) = (p, 0, 0) := by
  have hf := nm_facts h.1
  have e0 : txS p = listB (txL p) := if_pos (valid_iff.2 h)
  rw [e0] at hs ⊢
  have hlen : (txL p).length ≤ 65536 := hs
  have hn10 : ∀ b ∈ atB.data.toList ++ nmsTx p.names, b ≠ 10 := fun b hb => by
    rcases List.mem_append.1 hb with hb | hb
    · exact (show ∀ b ∈ atB.data.toList, b ≠ 10 by decide) b hb
    · exact nmsTx_mem (fun n hn => (hf n hn).1) b hb
  have hh : headL 1 (txL p) = (atB.data.toList ++ nmsTx p.names, 1, lnsTx (p.spans.map (lxSp p.names))) := by
    rw [headL_ln (l := txL p) ⟨64, _, rfl, by decide⟩]
    obtain ⟨t1, t2⟩ := take_wh (r := lnsTx (p.spans.map (lxSp p.names))) hn10
    unfold txL
    rw [t1, t2]
  have hA : hdA (listB (txL p)) = listB (atB.data.toList ++ nmsTx p.names) := by unfold hdA; rw [toList_listB, hh]
  have hZ : hdZ (listB (txL p)) = listB (lnsTx (p.spans.map (lxSp p.names))) := by unfold hdZ; rw [toList_listB, hh]
  have hw : wdL (hdA (listB (txL p))) = atB :: p.names := by
    rw [hA]
    unfold wdL splB
    rw [toList_listB, split_names p.names _ (by decide) (fun n hn b hb => (word_ne ((hf n hn).1 b hb)).2.2.2), List.map_cons, List.map_map]
    congr 1
    exact (List.map_congr_left (fun n _ => listB_toList n)).trans (List.map_id _)
  have hn1 : 1 ≤ p.names.length := by
    have := h.1
    simp only [namesB, Bool.and_eq_true, decide_eq_true_eq] at this
    exact this.1.1
  have hwo : wdB (hdA (listB (txL p))) = true := by
    refine wd_t ⟨?_, ?_, fun j hj hjl => ?_⟩
    · rw [hw, List.length_cons]; omega
    · rw [hw]; rfl
    · rw [hw] at hjl ⊢
      obtain ⟨j, rfl⟩ : ∃ i, j = i + 1 := ⟨j - 1, by omega⟩
      rw [List.getD_cons_succ]
      have hj2 : j < p.names.length := by simpa using hjl
      intro e
      have hm : p.names.getD j default ∈ p.names := by
        rw [List.getD_eq_getElem?_getD, List.getElem?_eq_getElem hj2]; exact List.getElem_mem hj2
      have := (hf _ hm).2.1
      rw [e] at this
      exact this rfl
  have hnm : nmsP (listB (txL p)) = p.names := by
    unfold nmsP wdN
    rw [if_pos hwo, hw]
    rfl
  have hbl : (lnsTx (p.spans.map (lxSp p.names))).length ≤ 65536 := by
    have : (txL p).length = (atB.data.toList ++ nmsTx p.names).length + ((lnsTx (p.spans.map (lxSp p.names))).length + 1) := by
      unfold txL; rw [List.length_append, List.length_cons]
    omega
  have hpl : plsP (listB (txL p)) = (lnsOf 1 (p.spans.map (lxSp p.names)), 0, 0) := by
    unfold plsP
    rw [hZ]
    exact linesP_rt (tx_lx h) hbl
  have hl1 : (plsP (listB (txL p))).1 = lnsOf 1 (p.spans.map (lxSp p.names)) := by rw [hpl]
  have hat : ∀ k, k < p.spans.length → (lnsOf 1 (p.spans.map (lxSp p.names))).getD k default = lnOf (1 + k) (lxSp p.names (p.spans.getD k default)) := fun k hk => by
    rw [lnsOf_at _ _ _ (by simpa using hk)]
    congr 1
    simp [List.getD_eq_getElem?_getD, hk]
  have hll : (lnsOf 1 (p.spans.map (lxSp p.names))).length = p.spans.length := by rw [lnsOf_len, List.length_map]
  have hfn : ∀ k, k < p.spans.length → fndI p.names (fld (lnOf (1 + k) (lxSp p.names (p.spans.getD k default)))) = some (p.spans.getD k default).val.toNat := fun k hk => by
    have hin := prOk_sp h hk
    unfold spIn at hin
    exact fnd_uniq h.1 (by omega)
  have h4 : (plsP (listB (txL p))).1.find? one1 = none := by
    rw [hl1]
    refine find_no (fun j hj => ?_)
    rw [hll] at hj
    rw [hat j hj]
    exact fun h => absurd (show false = true from h) (by decide)
  have h5 : (plsP (listB (txL p))).1.find? (unk (nmsP (listB (txL p)))) = none := by
    rw [hl1, hnm]
    refine find_no (fun j hj => ?_)
    rw [hll] at hj
    rw [hat j hj]
    unfold unk fndB
    rw [hfn j hj]
    exact fun h => absurd (show false = true from h) (by decide)
  have hsp : spsOf (nmsP (listB (txL p))) (plsP (listB (txL p))).1 = p.spans := by
    rw [hl1, hnm]
    refine List.ext_getElem (by rw [spsOf_len, hll]) (fun k k1 k2 => ?_)
    have e1 := spsOf_at (names := p.names) (l := lnsOf 1 (p.spans.map (lxSp p.names))) (k := k) (by rw [hll]; exact k2)
    rw [getD_get k1, hat k k2] at e1
    rw [e1]
    have hin := prOk_sp h k2
    unfold spIn at hin
    unfold spOf fndV
    rw [hfn k k2]
    rw [getD_get k2] at hin ⊢
    show (⟨p.spans[k].lo, p.spans[k].hi, (p.spans[k].val.toNat : Int)⟩ : Sp) = p.spans[k]
    rw [show (p.spans[k].val.toNat : Int) = p.spans[k].val by omega]
  have h6 : ¬ 0 ≤ ovI (spsOf (nmsP (listB (txL p))) (plsP (listB (txL p))).1) := by
    rw [hsp, ovI_no (noOv_iff.2 (prOk_apart h))]
    decide
  rw [prs_ok (by show ¬ (txL p).length > 65536; omega) hwo (by rw [hnm]; exact h.1) (by rw [hpl]) h4 h5 h6, hsp, hnm, (mkP_self h).2]
end Go.Proofs
