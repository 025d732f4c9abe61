import Derived.Test.YtfalaomjfkaphaaGreatDoorMpW
import Derived.Test.YtfalaomjfkaphaaGreatDoorLMp
import Derived.Test.YtfalaomjfkaphaaGreatDoorRo11
import Derived.Test.YtfalaomjfkaphaaGreatDoorJf
set_option linter.unusedVariables false
set_option linter.unusedSimpArgs false
namespace Go.Proofs
open Go Go.Sx

/-! what mapping.Parse reads of what mapping.Text writes: plain -/
theorem split_join : ∀ (l : List (List UInt8)) (a : List UInt8), (∀ b ∈ a, b ≠ 32) → (∀ n ∈ l, ∀ b ∈ n, b ≠ 32) → splitL 32 (Lib.join (a :: l) [32]) = a :: l
  | [], a, ha, _ => by rw [Lib.join_one, splitL_none ha]
  | n :: l, a, ha, h => by
    rw [Lib.join_cons, show Lib.joinTail [32] (n :: l) = 32 :: (n ++ Lib.joinTail [32] l) from by simp [Lib.joinTail], ← Lib.join_cons, splitL_cut ha, split_join l n (h n (by simp)) (fun m hm => h m (by simp [hm]))]
theorem bAt_of {s : ByteArray} {i : Nat} {b : UInt8} (e : s.data.toList[i]? = some b) : bAt s i = b.toNat := by
  obtain ⟨hi, he⟩ := List.getElem?_eq_some_iff.1 e
  rw [bAt_get (show i < s.size from hi), he]
theorem hexD (c : Int) : ∀ k, ∀ b ∈ tail k c, b ≠ 60
  | 0, b, h => by simp [tail] at h
  | k + 1, b, h => by
    rcases List.mem_cons.1 h with rfl | h
    · intro e
      have := dig_val (dv k c)
      rw [e] at this
      have h2 : dvalI ((60 : UInt8).toNat) = -1 := by decide
      rw [h2] at this
      omega
    · exact hexD c k b h
theorem hexL_ne60 {c : Int} (h : validB c = true) : ∀ b ∈ hexL c, b ≠ 60 := by
  obtain ⟨k, _, _, e, _⟩ := hexL_facts h
  rw [e]
  exact hexD c k
theorem hexL_ne32 {c : Int} : ∀ b ∈ hexL c, b ≠ 32 := fun b hb => (word_ne (hexL_word c b hb)).2.2.2
theorem codesS_list (t : List Int) : (codesS t).data.toList = Lib.join (t.map hexL) [32] := by
  have := codes_join t t.length (Nat.le_refl _)
  rw [List.take_length] at this
  rw [codesS, ← this]
  show Lib.join (((t.map hexS).map (·.data.toList))) [32] = _
  rw [List.map_map]
  rfl
theorem codes_em {t : List Int} (hv : allV t = true) : emB (codesS t) = true ↔ t = [] := by
  constructor
  · intro h
    cases t with
    | nil => rfl
    | cons c t =>
      have h1 := codesS_list (c :: t)
      rw [emB_iff.1 h, List.map_cons, Lib.join_cons] at h1
      have h2 : hexL c = [] := (List.append_eq_nil_iff.1 h1.symm).1
      unfold allV at hv
      rw [List.all_cons, Bool.and_eq_true] at hv
      exact absurd h2 (hexL_ne hv.1)
  · intro h; subst h; rfl
theorem pcs_codes {t : List Int} (hv : allV t = true) : pcsT (codesS t) = t ∧ pcsE (codesS t) = 0 := by
  have hall : ∀ c ∈ t, validB c = true := List.all_eq_true.1 hv
  have hw : pcWs (codesS t) = t.map hexS := by
    unfold pcWs
    cases t with
    | nil => rw [if_pos ((codes_em hv).2 rfl)]; rfl
    | cons c t =>
      rw [if_neg (fun h => by have := (codes_em hv).1 h; simp at this)]
      unfold splB
      rw [codesS_list, List.map_cons, split_join _ _ hexL_ne32 (fun n hn => by
        obtain ⟨d, _, rfl⟩ := List.mem_map.1 hn
        exact hexL_ne32)]
      rw [List.map_cons, List.map_map, List.map_cons]
      rfl
  have hp : (pcWs (codesS t)).all pcB = true := by
    rw [hw, List.all_map, List.all_eq_true]
    intro c hc
    show (pcE (hexS c) == 0) = true
    rw [(pc_hex (hall c hc)).1]
    rfl
  refine ⟨?_, (pcs_yes hp).2⟩
  rw [(pcs_yes hp).1, hw, List.map_map]
  conv => rhs; rw [← List.map_id t]
  exact List.map_congr_left fun c hc => (pc_hex (hall c hc)).2
theorem name_ne62 {s : ByteArray} (h : isNameB s = true) : ∀ b ∈ s.data.toList, b ≠ 62 := by
  intro b hb e
  subst e
  simp only [isNameB, Bool.and_eq_true] at h
  have h2 := h.2
  obtain ⟨i, hi, he⟩ := List.getElem_of_mem hb
  have : ∀ j, j < s.size → nameC (bAt s j) = true := fun j hj => by
    have := List.all_eq_true.1 h2 j (by simpa using hj)
    exact this
  have h3 := this i hi
  rw [bAt_get (show i < s.size from hi), he] at h3
  exact absurd h3 (by decide)
/-- The field of a mapping is read as the mapping. -/
theorem fd_field {m : Mp} (hv : allV m.to = true) (ht : tagB m = true) : fdB (fieldS m) = true ∧ fdT (fieldS m) = m.to ∧ fdG (fieldS m) = m.tag := by
  obtain ⟨hp1, hp2⟩ := pcs_codes hv
  have key : ¬ (fdL (fieldS m) = true ∧ ¬ fdC (fieldS m) = true) ∧ pcsE (rdP (fieldS m)) = 0 ∧ pcsT (rdP (fieldS m)) = m.to ∧ (if fdL (fieldS m) = true then fdN (fieldS m) else ⟨#[]⟩) = m.tag := by
    by_cases he : emB m.tag = true
    · have hs : fieldS m = codesS m.to := if_pos he
      have hL : ¬ fdL (codesS m.to) = true := fun h => by
        simp only [fdL, Bool.and_eq_true, decide_eq_true_eq] at h
        have h1 := codesS_list m.to
        cases hto : m.to with
        | nil => rw [hto] at h; exact absurd h.1 (by decide)
        | cons c t =>
          rw [hto] at h h1 hv
          unfold allV at hv
          rw [List.all_cons, Bool.and_eq_true] at hv
          cases hx : hexL c with
          | nil => exact absurd hx (hexL_ne hv.1)
          | cons b r =>
            rw [List.map_cons, Lib.join_cons, hx, List.cons_append] at h1
            have h2 : bAt (codesS (c :: t)) 0 = b.toNat := bAt_of (by rw [h1]; rfl)
            rw [h2] at h
            exact hexL_ne60 hv.1 b (by rw [hx]; simp) (u8_eq.1 h.2)
      rw [hs]
      have hP : rdP (codesS m.to) = codesS m.to := if_neg hL
      rw [hP]
      exact ⟨fun h => hL h.1, hp2, hp1, by rw [if_neg hL, emB_iff.1 he]⟩
    · have hn : isNameB m.tag = true := by
        unfold tagB at ht
        rw [Bool.or_eq_true] at ht
        rcases ht with h | h
        · exact absurd (emB_iff.2 (eqB_iff.1 h)) he
        · exact h
      generalize hz : (if emB (codesS m.to) = true then codesS m.to else bcat spB (codesS m.to)) = z
      have hs : fieldS m = bcat (bcat (bcat ⟨#[60]⟩ m.tag) ⟨#[62]⟩) z := by
        rw [fieldS, if_neg he, tagS, if_neg he, hz]
      have hsl : (fieldS m).data.toList = 60 :: (m.tag.data.toList ++ 62 :: z.data.toList) := by
        rw [hs]
        show (([60] ++ m.tag.data.toList) ++ [62]) ++ z.data.toList = _
        simp
      have hsz : 0 < (fieldS m).size := by
        show 0 < (fieldS m).data.toList.length
        rw [hsl]; simp
      have hb0 : bAt (fieldS m) 0 = 60 := bAt_of (b := 60) (by rw [hsl]; rfl)
      have hL : fdL (fieldS m) = true := by simp [fdL, hsz, hb0]
      have hR : (fdR (fieldS m)).data.toList = m.tag.data.toList ++ 62 :: z.data.toList := by
        rw [fdR, bcut_suf, toList_listB, hsl]
        rfl
      have hcut : Lib.cut (fdR (fieldS m)).data.toList [62] = (m.tag.data.toList, z.data.toList, true) := by
        have hk : m.tag.size < (fdR (fieldS m)).size := by
          show m.tag.data.toList.length < (fdR (fieldS m)).data.toList.length
          rw [hR]; simp
        have := cut_at1 (s := fdR (fieldS m)) (c := 62) (k := m.tag.size) hk (bAt_of (by
            rw [hR, List.getElem?_append_right (show m.tag.data.toList.length ≤ m.tag.size from Nat.le_refl _), show m.tag.size - m.tag.data.toList.length = 0 from Nat.sub_self _]
            rfl)) (fun j hj => by
          have hj3 : j < m.tag.data.toList.length := hj
          rw [bAt_of (b := m.tag.data.toList[j]) (by rw [hR, List.getElem?_append_left hj3, List.getElem?_eq_getElem hj3])]
          intro e
          exact name_ne62 hn _ (List.getElem_mem hj3) (u8_eq.1 e))
        rw [this, hR]
        have e1 : m.tag.size = m.tag.data.toList.length := rfl
        rw [e1, List.take_left, show m.tag.data.toList ++ 62 :: z.data.toList = (m.tag.data.toList ++ [62]) ++ z.data.toList by simp, show m.tag.data.toList.length + 1 = (m.tag.data.toList ++ [62]).length by simp, List.drop_left]
      have hN : fdN (fieldS m) = m.tag := by
        rw [fdN, cutA, show gtB.data.toList = [62] from rfl, hcut]
        exact toList_inj (toList_listB _)
      have hZ : fdZ (fieldS m) = z := by
        rw [fdZ, cutZ, show gtB.data.toList = [62] from rfl, hcut]
        exact toList_inj (toList_listB _)
      have hF : cutF (fdR (fieldS m)) gtB = true := by
        rw [cutF, show gtB.data.toList = [62] from rfl, hcut]
      have hC : fdC (fieldS m) = true := by rw [fdC, hF, hN, hn]; rfl
      have hP : rdP (fieldS m) = codesS m.to := by
        rw [rdP, if_pos hL, hZ, ← hz]
        split
        · rename_i h0
          rw [emB_iff.1 h0]
          rfl
        · rw [rdX, if_pos (spH_head _), fdX_cat]
      rw [hP]
      exact ⟨fun h => h.2 hC, hp2, hp1, by rw [if_pos hL, hN]⟩
  obtain ⟨k1, k2, k3, k4⟩ := key
  have hM : rdM (fieldS m) = ⟨0, m.to, m.tag⟩ := by
    rw [rdM, if_neg k1, k3]
    congr 1
  have hB : fdB (fieldS m) = true := (rd_ok _).2 ⟨k1, k2, by rw [hM]; rfl⟩
  have := rd_mp hB
  rw [hM] at this
  injection this with _ e2 e3
  exact ⟨hB, e2.symm, e3.symm⟩
def lxM (m : Mp) : Lx := ⟨m.frm, m.frm, (fieldS m).data.toList⟩
theorem listB_self (x : ByteArray) : listB x.data.toList = x := toList_inj (toList_listB _)
theorem mtLine_lx (m : Mp) : mtLine m = lxLn (lxM m) := by
  unfold mtLine lxLn lxM
  rw [listB_self]
def okM (m : Mp) : Prop := codesB m = true ∧ sizeB m = true ∧ tagB m = true
theorem lxM_ok {m : Mp} (h : okM m) : okLx (lxM m) := by
  obtain ⟨hv, hf⟩ := codesB_all h.1
  exact ⟨hf, hf, Int.le_refl _, field_good h.2.2 hv⟩
theorem fld_lx (n : Int) (m : Mp) : fld (lnOf n (lxM m)) = fieldS m := listB_self _
theorem rwL_lx {m : Mp} (h : okM m) (n : Int) : rwL (lnOf n (lxM m)) = [m] := by
  obtain ⟨hv, _⟩ := codesB_all h.1
  obtain ⟨f1, f2, f3⟩ := fd_field hv h.2.2
  have e : rwN (lnOf n (lxM m)) = 1 := by
    show (m.frm - m.frm + 1).toNat = 1
    omega
  unfold rwL
  rw [e]
  show [rwM (lnOf n (lxM m)) 0] = [m]
  unfold rwM
  rw [fld_lx, f2, f3]
  show [(⟨m.frm + ((0 : Nat) : Int), m.to, m.tag⟩ : Mp)] = [m]
  rw [show m.frm + ((0 : Nat) : Int) = m.frm by omega]
theorem rws_lx : ∀ (l : List Mp) (n : Int), (∀ m ∈ l, okM m) → rwsL (lnsOf n (l.map lxM)) = l
  | [], _, _ => rfl
  | m :: l, n, h => by
    rw [List.map_cons, lnsOf]
    show rwL (lnOf n (lxM m)) ++ rwsL (lnsOf (n + 1) (l.map lxM)) = _
    rw [rwL_lx (h m (by simp)), rws_lx l _ (fun x hx => h x (by simp [hx]))]
    rfl
theorem check_asc {l : List Mp} (h : checkE l = 0) : ascK l l.length = true := by
  have hp := check_codes h
  unfold checkE at h
  rw [hp] at h
  cases ha : ascK l l.length with
  | true => rfl
  | false =>
    rw [ha] at h
    cases hd : dupB l <;> rw [hd] at h <;> exact absurd h (by decide)
theorem mp_rt {l : List Mp} (h : checkE l = 0) (hs : (mtS l).size ≤ 65536) : mpO (mtS l) = (l, 0, 0) := by
  obtain ⟨c1, c2, c3⟩ := parts_codes (check_codes h)
  have hok : ∀ m ∈ l, okM m := fun m hm => ⟨List.all_eq_true.1 c1 m hm, List.all_eq_true.1 c2 m hm, List.all_eq_true.1 c3 m hm⟩
  have hX : ∀ x ∈ l.map lxM, okLx x := fun x hx => by
    obtain ⟨m, hm, rfl⟩ := List.mem_map.1 hx
    exact lxM_ok (hok m hm)
  have e1 : mtS l = listB (lnsTx (l.map lxM)) := by
    rw [mtS, if_pos h, ← (mt_lines h).2, ← (linesS_tx hX).2, List.map_map]
    exact congrArg linesS (List.map_congr_left fun m _ => mtLine_lx m)
  have e2 : linesP (mtS l) = (lnsOf 1 (l.map lxM), 0, 0) := by
    rw [e1]
    refine linesP_rt hX ?_
    rw [e1] at hs
    exact hs
  have hlen : (lnsOf 1 (l.map lxM)).length = l.length := by rw [lnsOf_len, List.length_map]
  have hat : ∀ k, k < l.length → (lnsOf 1 (l.map lxM)).getD k default = lnOf (1 + k) (lxM (l.getD k default)) := fun k hk => by
    rw [lnsOf_at _ _ _ (by simpa using hk)]
    congr 1
    simp [List.getD_eq_getElem?_getD, hk]
  have hfl : ∀ k, k < l.length → okM (l.getD k default) := fun k hk => hok _ (mem_getD hk)
  have hmr : mrO (mtS l) = (lnsOf 1 (l.map lxM), 0, 0) := by
    have := mr_ok (s := mtS l) (by rw [e2]) (by
      rw [e2]
      refine find_no fun j hj => ?_
      have hj : j < l.length := by rw [← hlen]; exact hj
      show ¬ bdF ((lnsOf 1 (l.map lxM)).getD j default) = true
      rw [hat j hj]
      obtain ⟨hv, _⟩ := codesB_all (hfl j hj).1
      have hB := (fd_field hv (hfl j hj).2.2).1
      intro hb
      unfold bdF at hb
      rw [fld_lx, hB] at hb
      exact absurd hb (by simp [one1, lnOf])) (by
      rw [e2]
      refine find_no fun j hj => ?_
      have hj : j < l.length := by rw [← hlen]; exact hj
      show ¬ bgR ((lnsOf 1 (l.map lxM)).getD j default) = true
      rw [hat j hj]
      obtain ⟨hv, _⟩ := codesB_all (hfl j hj).1
      have hT := (fd_field hv (hfl j hj).2.2).2.1
      have hz := of_decide_eq_true (hfl j hj).2.1
      intro hb
      unfold bgR at hb
      rw [fld_lx, hT] at hb
      simp only [Bool.or_eq_true, decide_eq_true_eq] at hb
      rcases hb with hb | hb
      · omega
      · have : (lnOf (1 + (j : Int)) (lxM (l.getD j default))).hi - (lnOf (1 + (j : Int)) (lxM (l.getD j default))).lo + 1 = 1 := by
          show (l.getD j default).frm - (l.getD j default).frm + 1 = 1
          omega
        omega)
    rw [this, e2]
  have hd := dup_pair.1 (asc_nodup (check_asc h))
  have hn : ∀ j, j < (mrO (mtS l)).1.length → ¬ clP (mrO (mtS l)).1 j := by
    rw [hmr]
    intro j hj hc
    have hj : j < l.length := by rw [← hlen]; exact hj
    obtain ⟨k, hk, q1, q2, q3⟩ := hc
    have hk2 : k < l.length := by omega
    have q1 : fdG (fld ((lnsOf 1 (l.map lxM)).getD k default)) = fdG (fld ((lnsOf 1 (l.map lxM)).getD j default)) := q1
    have q2 : ((lnsOf 1 (l.map lxM)).getD k default).lo ≤ ((lnsOf 1 (l.map lxM)).getD j default).hi := q2
    have q3 : ((lnsOf 1 (l.map lxM)).getD j default).lo ≤ ((lnsOf 1 (l.map lxM)).getD k default).hi := q3
    rw [hat k hk2, hat j hj] at q1 q2 q3
    rw [fld_lx, fld_lx, (fd_field (codesB_all (hfl k hk2).1).1 (hfl k hk2).2.2).2.2, (fd_field (codesB_all (hfl j hj).1).1 (hfl j hj).2.2).2.2] at q1
    have q2 : (l.getD k default).frm ≤ (l.getD j default).frm := q2
    have q3 : (l.getD j default).frm ≤ (l.getD k default).frm := q3
    have hp := List.pairwise_iff_getElem.1 hd k j hk2 hj hk
    have ek : l.getD k default = l[k] := by simp [List.getD_eq_getElem?_getD, hk2]
    have ej : l.getD j default = l[j] := by simp [List.getD_eq_getElem?_getD, hj]
    rw [ek, ej] at q1 q2 q3
    rw [sameK_iff.2 ⟨by omega, q1⟩] at hp
    exact Bool.noConfusion hp
  rw [mp_ok (by rw [hmr]) hn, hmr]
  show (sortM (rwsL (lnsOf 1 (l.map lxM))), _) = _
  rw [rws_lx l 1 hok, sortM_id (check_asc h)]
end Go.Proofs

namespace Go.Proofs
open Go Go.Sx
variable {mx : Int} {pb : Bool}

/-! the law of chapter 11: Back -/
noncomputable def Γlmb (mx : Int) : Ctx := fun f => match f with
  | 10 => some (.pure ctSmall)
  | 5 => some (.pure ctWide)
  | 6 => some (.pure ctAlive)
  | 11 => some (.pure ctMtT)
  | 12 => some (.pure ctCheck)
  | 7 => some (.pure ctMpP)
  | 9 => some (.pure ctSameM)
  | _ => none
theorem Γlmb_ok {mx : Int} : CtxOk Tryz.prog (GlT mx false) (Γlmb mx) := by
  intro f h hh
  simp only [Γlmb] at hh
  split at hh <;> simp at hh <;> subst hh
  · exact rsmall_ok
  · exact rWide_ok
  · exact alive11_ok mx
  · exact mText_ok
  · exact check_ok
  · exact mParse_ok
  · exact rSameM_ok
theorem fitS_of {l : List Mp} (h1 : l.length ≤ 10000) (h2 : ∀ x ∈ l, x.to.length ≤ 64 ∧ x.tag.size ≤ 32) : fitS l :=
  ⟨h1, fun k hk => by have := h2 _ (mem_getD hk); omega⟩
def ctLawMb : Ct := { ι := List Mp × ByteArray, inp := fun x => [mpsD x.1, .v (.string x.2)], out := fun _ => .v (.bool true), pre := fun x => x.1.length ≤ 9223372036854775807 }
set_option maxHeartbeats 16000000 in
theorem lawMBk_ok {mx : Int} : Sound Tryz.prog (GlT mx false) 4 ctLawMb := by
  refine sound_by (cc := true) Γlmb_ok Tryz.T_ok Tryz.mixed Tryz.func4 rfl (by kernel_rfl) (fun _ => rfl) (fun _ _ => by show 2 ≤ 110; decide) ?_
  rintro ⟨(l : List Mp), (s : ByteArray)⟩ (hl : l.length ≤ 9223372036854775807)
  have p1 : ctSmall.pre l := hl
  rcases Bool.eq_false_or_eq_true (smallB l) with hsm | hsm
  · by_cases hs8 : s.size > 800
    · repeat' (first | refine gl ?_ | (refine br (fun q_ => ?_) (fun q_ => ?_) <;> try simp only [Int.toNat_natCast, Nat.mul_one, Nat.add_zero] at q_) | (refine brF (fun q_ => ?_) (fun q_ => ?_) <;> try simp only [Int.toNat_natCast, Nat.mul_one, Nat.add_zero] at q_))
      all_goals first
        | exact EntR.bool rfl
        | (exfalso; omega)
        | trace_state
    have p2 : ctWide.pre (s, 300) := trivial
    rcases Bool.eq_false_or_eq_true (wdB s 300) with hw | hw
    · repeat' (first | refine gl ?_ | (refine br (fun q_ => ?_) (fun q_ => ?_) <;> try simp only [Int.toNat_natCast, Nat.mul_one, Nat.add_zero] at q_) | (refine brF (fun q_ => ?_) (fun q_ => ?_) <;> try simp only [Int.toNat_natCast, Nat.mul_one, Nat.add_zero] at q_))
      all_goals first
        | exact EntR.bool rfl
        | (exfalso; omega)
        | (refine ⟨(s, 300), EntL.refl _, trivial, ?_⟩
           rw [show ctWide.out (s, 300) = .v (.bool true) from congrArg (fun b => D.v (.bool b)) hw]
           repeat' (first | refine gl ?_ | (refine br (fun q_ => ?_) (fun q_ => ?_) <;> try simp only [Int.toNat_natCast, Nat.mul_one, Nat.add_zero] at q_) | (refine brF (fun q_ => ?_) (fun q_ => ?_) <;> try simp only [Int.toNat_natCast, Nat.mul_one, Nat.add_zero] at q_))
           all_goals first
             | exact EntR.bool rfl
             | (exfalso; omega)
             | trace_state)
        | trace_state
    · obtain ⟨hl20, hto⟩ := small_facts hsm
      have p3 : ctMtT.pre l := small_fitS hsm
      have p4 : ctCheck.pre l := small_fit hsm
      have hl300 := mp_few s (m := 300) (by decide) (of_decide_eq_false hw)
      have q1 : ctMpP.pre (mtS l) := trivial
      have q2 : ctMpP.pre s := trivial
      have q3 : ctMpP.pre (mtS (mpO s).1) := trivial
      have hfb : fitS (mpO s).1 := fitS_of (by omega) fun x hx => mp_elem hx
      have p5 : ctMtT.pre (mpO s).1 := hfb
      have p6 : ctCheck.pre (mpO s).1 := hfb.fitL
      repeat' (first | refine gl ?_ | (refine br (fun q_ => ?_) (fun q_ => ?_) <;> try simp only [Int.toNat_natCast, Nat.mul_one, Nat.add_zero] at q_) | (refine brF (fun q_ => ?_) (fun q_ => ?_) <;> try simp only [Int.toNat_natCast, Nat.mul_one, Nat.add_zero] at q_))
      all_goals try (exfalso; omega)
      refine ⟨(s, 300), EntL.refl _, trivial, ?_⟩
      rw [show ctWide.out (s, 300) = .v (.bool false) from congrArg (fun b => D.v (.bool b)) hw]
      by_cases hc : checkE l = 0
      · have hz := mtK_size hto l.length (Nat.le_refl _)
        have hzs : (mtS l).size ≤ 65536 := by rw [mtS, if_pos hc]; omega
        have ert := mp_rt hc hzs
        have f1 : (mpO (mtS l)).2.1 = 0 := by rw [ert]
        have f2 : (mpO (mtS l)).2.2 = 0 := by rw [ert]
        have f3 : eqMs (mpO (mtS l)).1 l = true := by rw [ert]; exact eqMs_iff.2 rfl
        have pS : ctSameM.pre ((mpO (mtS l)).1, l) := by
          rw [ert]
          have : ∀ x ∈ l, x.to.length ≤ 1000 := fun x hx => by
            obtain ⟨k, hk, rfl⟩ := List.getElem_of_mem hx
            have := (hto k hk).1
            have e : l.getD k default = l[k] := by simp [List.getD_eq_getElem?_getD, hk]
            rw [e] at this
            omega
          exact same_pre (by show l.length ≤ 100000; omega) (by show l.length ≤ 100000; omega) this this
        clear ert
        by_cases hg : (mpO s).2.1 = 0
        · obtain ⟨hck, hge, _⟩ := mp_check hg
          have hg2 : (mpO s).2.2 = 0 := by rw [hge]
          by_cases hbig : (mtS (mpO s).1).size > 65536
          · have h3 : eqMs (mpO s).1 (mpO s).1 = true := eqMs_iff.2 rfl
            repeat' (first | refine gl ?_ | (refine br (fun q_ => ?_) (fun q_ => ?_) <;> try simp only [Int.toNat_natCast, Nat.mul_one, Nat.add_zero] at q_) | (refine brF (fun q_ => ?_) (fun q_ => ?_) <;> try simp only [Int.toNat_natCast, Nat.mul_one, Nat.add_zero] at q_))
            all_goals first
              | exact EntR.bool rfl
              | (exfalso; omega)
              | (exfalso
                 have q : eqMs (mpO (mtS l)).1 l = false := by assumption
                 rw [f3] at q
                 exact Bool.noConfusion q)
              | (exfalso
                 have q : eqMs (mpO s).1 (mpO (mtS (mpO s).1)).1 = false := by assumption
                 rw [h3] at q
                 exact Bool.noConfusion q)
              | (exfalso; exact (show ¬True by assumption) trivial)
              | (exfalso; rcases q_ with h | h | h <;> first | exact h f1 | exact h f2 | exact h hg | exact h hg2 | exact h h1 | exact h h2 | exact Bool.noConfusion h)
              | trace_state
          · have er2 := mp_rt hck (by omega)
            have h1 : (mpO (mtS (mpO s).1)).2.1 = 0 := by rw [er2]
            have h2 : (mpO (mtS (mpO s).1)).2.2 = 0 := by rw [er2]
            have h3 : eqMs (mpO s).1 (mpO (mtS (mpO s).1)).1 = true := by rw [er2]; exact eqMs_iff.2 rfl
            have pT : True → ctSameM.pre ((mpO s).1, (mpO (mtS (mpO s).1)).1) := fun _ => by
              rw [er2]
              exact same_pre (by omega) (by show (mpO s).1.length ≤ 100000; omega) (fun x hx => by have := (mp_elem hx).1; omega) (fun x hx => by have := (mp_elem (s := s) hx).1; omega)
            repeat' (first | refine gl ?_ | (refine br (fun q_ => ?_) (fun q_ => ?_) <;> try simp only [Int.toNat_natCast, Nat.mul_one, Nat.add_zero] at q_) | (refine brF (fun q_ => ?_) (fun q_ => ?_) <;> try simp only [Int.toNat_natCast, Nat.mul_one, Nat.add_zero] at q_))
            all_goals first
              | exact EntR.bool rfl
              | (exfalso; omega)
              | (exfalso
                 have q : eqMs (mpO (mtS l)).1 l = false := by assumption
                 rw [f3] at q
                 exact Bool.noConfusion q)
              | (exfalso
                 have q : eqMs (mpO s).1 (mpO (mtS (mpO s).1)).1 = false := by assumption
                 rw [h3] at q
                 exact Bool.noConfusion q)
              | (exfalso; exact (show ¬True by assumption) trivial)
              | (exfalso; rcases q_ with h | h | h <;> first | exact h f1 | exact h f2 | exact h hg | exact h hg2 | exact h h1 | exact h h2 | exact Bool.noConfusion h)
              | (refine ⟨((mpO s).1, (mpO (mtS (mpO s).1)).1), EntL.refl _, pT trivial, ?_⟩
                 repeat' (first | refine gl ?_ | (refine br (fun q_ => ?_) (fun q_ => ?_) <;> try simp only [Int.toNat_natCast, Nat.mul_one, Nat.add_zero] at q_) | (refine brF (fun q_ => ?_) (fun q_ => ?_) <;> try simp only [Int.toNat_natCast, Nat.mul_one, Nat.add_zero] at q_))
                 all_goals first
                   | exact EntR.bool rfl
                   | (exfalso; omega)
                   | (exfalso
                      have q : eqMs (mpO (mtS l)).1 l = false := by assumption
                      rw [f3] at q
                      exact Bool.noConfusion q)
                   | (exfalso
                      have q : eqMs (mpO s).1 (mpO (mtS (mpO s).1)).1 = false := by assumption
                      rw [h3] at q
                      exact Bool.noConfusion q)
                   | (exfalso; exact (show ¬True by assumption) trivial)
                   | (exfalso; rcases q_ with h | h | h <;> first | exact h f1 | exact h f2 | exact h hg | exact h hg2 | exact h h1 | exact h h2 | exact Bool.noConfusion h)
                   | trace_state)
              | trace_state
        · have hb0 : (mpO s).1.length = 0 := by
            rcases (mp_e s).2 with h | h
            · exact absurd h hg
            · rw [h]; rfl
          have h3 : eqMs (mpO s).1 (mpO s).1 = true := eqMs_iff.2 rfl
          repeat' (first | refine gl ?_ | (refine br (fun q_ => ?_) (fun q_ => ?_) <;> try simp only [Int.toNat_natCast, Nat.mul_one, Nat.add_zero] at q_) | (refine brF (fun q_ => ?_) (fun q_ => ?_) <;> try simp only [Int.toNat_natCast, Nat.mul_one, Nat.add_zero] at q_))
          all_goals first
            | exact EntR.bool rfl
            | (exfalso; omega)
            | (exfalso
               have q : eqMs (mpO (mtS l)).1 l = false := by assumption
               rw [f3] at q
               exact Bool.noConfusion q)
            | (exfalso
               have q : eqMs (mpO s).1 (mpO (mtS (mpO s).1)).1 = false := by assumption
               rw [h3] at q
               exact Bool.noConfusion q)
            | (exfalso; exact (show ¬True by assumption) trivial)
            | (exfalso; rcases q_ with h | h | h <;> first | exact h f1 | exact h f2 | exact h hg | exact h hg2 | exact h h1 | exact h h2 | exact Bool.noConfusion h)
            | trace_state
      · have f3 : eqMs (mpO (mtS l)).1 l = eqMs (mpO (mtS l)).1 l := rfl
        by_cases hg : (mpO s).2.1 = 0
        · obtain ⟨hck, hge, _⟩ := mp_check hg
          have hg2 : (mpO s).2.2 = 0 := by rw [hge]
          by_cases hbig : (mtS (mpO s).1).size > 65536
          · have h3 : eqMs (mpO s).1 (mpO s).1 = true := eqMs_iff.2 rfl
            repeat' (first | refine gl ?_ | (refine br (fun q_ => ?_) (fun q_ => ?_) <;> try simp only [Int.toNat_natCast, Nat.mul_one, Nat.add_zero] at q_) | (refine brF (fun q_ => ?_) (fun q_ => ?_) <;> try simp only [Int.toNat_natCast, Nat.mul_one, Nat.add_zero] at q_))
            all_goals first
              | exact EntR.bool rfl
              | (exfalso; omega)
              | (exfalso
                 have q : eqMs (mpO (mtS l)).1 l = false := by assumption
                 rw [f3] at q
                 exact Bool.noConfusion q)
              | (exfalso
                 have q : eqMs (mpO s).1 (mpO (mtS (mpO s).1)).1 = false := by assumption
                 rw [h3] at q
                 exact Bool.noConfusion q)
              | (exfalso; exact (show ¬True by assumption) trivial)
              | (exfalso; rcases q_ with h | h | h <;> first | exact h f1 | exact h f2 | exact h hg | exact h hg2 | exact h h1 | exact h h2 | exact Bool.noConfusion h)
              | trace_state
          · have er2 := mp_rt hck (by omega)
            have h1 : (mpO (mtS (mpO s).1)).2.1 = 0 := by rw [er2]
            have h2 : (mpO (mtS (mpO s).1)).2.2 = 0 := by rw [er2]
            have h3 : eqMs (mpO s).1 (mpO (mtS (mpO s).1)).1 = true := by rw [er2]; exact eqMs_iff.2 rfl
            have pT : True → ctSameM.pre ((mpO s).1, (mpO (mtS (mpO s).1)).1) := fun _ => by
              rw [er2]
              exact same_pre (by omega) (by show (mpO s).1.length ≤ 100000; omega) (fun x hx => by have := (mp_elem hx).1; omega) (fun x hx => by have := (mp_elem (s := s) hx).1; omega)
            repeat' (first | refine gl ?_ | (refine br (fun q_ => ?_) (fun q_ => ?_) <;> try simp only [Int.toNat_natCast, Nat.mul_one, Nat.add_zero] at q_) | (refine brF (fun q_ => ?_) (fun q_ => ?_) <;> try simp only [Int.toNat_natCast, Nat.mul_one, Nat.add_zero] at q_))
            all_goals first
              | exact EntR.bool rfl
              | (exfalso; omega)
              | (exfalso
                 have q : eqMs (mpO (mtS l)).1 l = false := by assumption
                 rw [f3] at q
                 exact Bool.noConfusion q)
              | (exfalso
                 have q : eqMs (mpO s).1 (mpO (mtS (mpO s).1)).1 = false := by assumption
                 rw [h3] at q
                 exact Bool.noConfusion q)
              | (exfalso; exact (show ¬True by assumption) trivial)
              | (exfalso; rcases q_ with h | h | h <;> first | exact h f1 | exact h f2 | exact h hg | exact h hg2 | exact h h1 | exact h h2 | exact Bool.noConfusion h)
              | (refine ⟨((mpO s).1, (mpO (mtS (mpO s).1)).1), EntL.refl _, pT trivial, ?_⟩
                 repeat' (first | refine gl ?_ | (refine br (fun q_ => ?_) (fun q_ => ?_) <;> try simp only [Int.toNat_natCast, Nat.mul_one, Nat.add_zero] at q_) | (refine brF (fun q_ => ?_) (fun q_ => ?_) <;> try simp only [Int.toNat_natCast, Nat.mul_one, Nat.add_zero] at q_))
                 all_goals first
                   | exact EntR.bool rfl
                   | (exfalso; omega)
                   | (exfalso
                      have q : eqMs (mpO (mtS l)).1 l = false := by assumption
                      rw [f3] at q
                      exact Bool.noConfusion q)
                   | (exfalso
                      have q : eqMs (mpO s).1 (mpO (mtS (mpO s).1)).1 = false := by assumption
                      rw [h3] at q
                      exact Bool.noConfusion q)
                   | (exfalso; exact (show ¬True by assumption) trivial)
                   | (exfalso; rcases q_ with h | h | h <;> first | exact h f1 | exact h f2 | exact h hg | exact h hg2 | exact h h1 | exact h h2 | exact Bool.noConfusion h)
                   | trace_state)
              | trace_state
        · have hb0 : (mpO s).1.length = 0 := by
            rcases (mp_e s).2 with h | h
            · exact absurd h hg
            · rw [h]; rfl
          have h3 : eqMs (mpO s).1 (mpO s).1 = true := eqMs_iff.2 rfl
          repeat' (first | refine gl ?_ | (refine br (fun q_ => ?_) (fun q_ => ?_) <;> try simp only [Int.toNat_natCast, Nat.mul_one, Nat.add_zero] at q_) | (refine brF (fun q_ => ?_) (fun q_ => ?_) <;> try simp only [Int.toNat_natCast, Nat.mul_one, Nat.add_zero] at q_))
          all_goals first
            | exact EntR.bool rfl
            | (exfalso; omega)
            | (exfalso
               have q : eqMs (mpO (mtS l)).1 l = false := by assumption
               rw [f3] at q
               exact Bool.noConfusion q)
            | (exfalso
               have q : eqMs (mpO s).1 (mpO (mtS (mpO s).1)).1 = false := by assumption
               rw [h3] at q
               exact Bool.noConfusion q)
            | (exfalso; exact (show ¬True by assumption) trivial)
            | (exfalso; rcases q_ with h | h | h <;> first | exact h f1 | exact h f2 | exact h hg | exact h hg2 | exact h h1 | exact h h2 | exact Bool.noConfusion h)
            | trace_state
  · repeat' (first | refine gl ?_ | (refine br (fun q_ => ?_) (fun q_ => ?_) <;> try simp only [Int.toNat_natCast, Nat.mul_one, Nat.add_zero] at q_) | (refine brF (fun q_ => ?_) (fun q_ => ?_) <;> try simp only [Int.toNat_natCast, Nat.mul_one, Nat.add_zero] at q_))
    all_goals first
      | exact EntR.bool rfl
      | trace_state
#print axioms lawMBk_ok
end Go.Proofs

namespace Go.Proofs.YtfalaomjfkaphaaGreatDoor
open Go Go.Sx Go.ChangeShapes Go.WideShapes Go.ChangeAt Go.RowKit
set_option maxRecDepth 100000 in
theorem liftedMBk (os : Os) (started : os.Started) (H : Type) (enc : TypeId × Value → H) :
    ReturnsInHanded {} Tryz.checked os 4 .any (fun w args => (Rows.mappingBackSpec.pre enc Tryz.prog Tryz.f4 [] false w args ∧ laidMetH Tryz.prog Rows.mappingBackRow.laid w) ∧ sizedMet enc Tryz.prog Tryz.f4 (OpenSpec.ofChange Rows.mappingBackSpec) false w args)
      (Rows.mappingBackSpec.post enc Tryz.prog Tryz.f4 false true false false) := by
  refine ret_shaped (C := Tryz.checked) (X := fun w _ => laidMetH Tryz.prog Rows.mappingBackRow.laid w) (fun _ _ _ hh h => h.of_heap hh) own started (by kernel_rfl) Tryz.func4
    (ChangeSpec.witness_shaped (enc := enc) (C := Tryz.checked) (os := os) (X := fun w _ => laidMetH Tryz.prog Rows.mappingBackRow.laid w) false (World.laidAll Tryz.prog os Rows.mappingBackRow.laid) #[.slice none 0 0, .string ⟨#[]⟩] 8 (World.laidAll_os _ _ _)
      (World.shaped_of_ZipB (by kernel_rfl) (by kernel_rfl)) (by kernel_rfl) (by kernel_rfl) (by kernel_rfl)
      (by rw [MakeChecks.laidMetH_plain _ _ _ (by kernel_rfl)]; exact laidMet_laidAll _ (by kernel_rfl) (by kernel_rfl))) ?_
  intro W base args ds gs before hval0 hW hL hsh
  have hval : ∀ (j : Nat) t v, Tryz.f4.params[j]? = some t → args[j]? = some v → Value.okWide Tryz.prog W .any base t v := hval0
  have hW' := hW
  obtain ⟨p, q, hA0, hV, rfl, hfz, hnd⟩ := hW
  have hA : DataW.TrodAll enc Tryz.prog W 0 (fun _ => true) true Tryz.f4.params.toList args.toList ds p := hA0
  rw [Tryz.params4] at hA hval
  obtain ⟨v1, v2, d1, d2, p1, p2, rfl, rfl, rfl, h1, h2⟩ := trodAll_two hA
  obtain ⟨rfl, rfl⟩ := trodVars_none hV
  have hlt : ∀ x ∈ p1 ++ p2, x.block < W.heap.size := fun x hx => by simpa using hW'.lt x (by simpa using hx)
  have hargs1 : ∀ (W' : World), Below W.heap.size W W' → DataW.Trod enc Tryz.prog W' 0 (fun b => decide (b < W.heap.size)) true 24 v1 d1 p1 :=
    fun W' hn => Below.trod laidOut (by kernel_rfl) (of_decide_eq_true (by kernel_rfl)) h1 hn (fun x hx => hlt x (by simp [hx]))
  have hargs2 : ∀ (W' : World), Below W.heap.size W W' → DataW.Trod enc Tryz.prog W' 0 (fun b => decide (b < W.heap.size)) true 9 v2 d2 p2 :=
    fun W' hn => Below.trod laidOut (by kernel_rfl) (of_decide_eq_true (by kernel_rfl)) h2 hn (fun x hx => hlt x (by simp [hx]))
  obtain ⟨c0, ok0, hrep0⟩ := open_one (okWide_slice Tryz.underlying24 (hval 0 24 v1 rfl rfl)) h1 opens_mps
  have hrep0 : Rep (memOf W) [] (mpsD c0) v1 := hrep0
  obtain ⟨s1, rfl⟩ := okWide_string Tryz.underlying9 (hval 1 9 v2 rfl rfl)
  obtain ⟨mx, hm⟩ := max_of hsh
  have hin : RepL (memOf W) [] (ctLawMb.inp (c0, s1)) #[v1, .string s1].toList := RepL.cons hrep0 (RepL.cons (Rep.val _) RepL.nil)
  have hcall := (lawMBk_ok (mx := mx)).2.2 (c0, s1) ok0 (memOf W) W #[v1, .string s1] (memOf_fits W) (gl_ok hL hm) hin 0
  refine (callsIn_wide.1 hcall).mono fun e W' hR => ?_
  obtain ⟨M', u, rfl, _, _, _, hu, hb⟩ := hR
  have hu' : u = .bool true := hu
  subst hu'
  simp only [List.append_nil] at hW'
  refine ⟨_, rfl, _, _, _, [], p1 ++ p2, [], hW', ?_, ?_, rfl, hb.frame _, fun h => by cases h⟩
  · exact trodAll_mk1 (shut_bool Tryz.underlying4 true)
  · exact trodAll_mk2 (hargs1 _ hb) (hargs2 _ hb)

theorem rowMBk_f : Tryz.prog.funcNamed Rows.mappingBackRow.func = some 4 := by kernel_rfl
theorem rowMBk_c9 : (Rows.mappingBackRow.inPlace == Tryz.prog.inPlace 4) = true := by kernel_rfl
theorem rowMBk_c10 : (Rows.mappingBackRow.unfollowed == Tryz.prog.unfollowed 4) = true := by kernel_rfl
theorem rowMBk_c11 : (Rows.mappingBackRow.recurses == Tryz.prog.recurses 4) = true := by kernel_rfl
theorem rowMBk_c12 : (Rows.mappingBackRow.named == Tryz.prog.varsNamed 4) = true := by kernel_rfl
theorem rowMBk_c0 : Rows.mappingBackRow.wf (OpenSpec.ofChange Rows.mappingBackSpec) = true := by kernel_rfl
theorem rowMBk_c3 : Tryz.f4.params.all (Tryz.prog.readableRec ·) = true := by kernel_rfl
theorem rowMBk_c4 : namedTie Tryz.prog Rows.mappingBackRow.named Rows.mappingBackSpec.vars = true := by kernel_rfl
theorem rowMBk_c5 : (Rows.mappingBackRow.stops == []) = true := by kernel_rfl
theorem rowMBk_c6 : (Tryz.prog.stops == []) = true := by kernel_rfl
theorem rowMBk_c7 : (Rows.mappingBackRow.knobs == []) = true := by kernel_rfl
theorem rowMBk_c8 : (Tryz.prog.stopKnobs == []) = true := by kernel_rfl
theorem rowMBk_c13 : (Rows.mappingBackRow.maps == (Tryz.f4.params.toList ++ Rows.mappingBackSpec.plain.varTypes Tryz.prog).any (Tryz.prog.mapsRec ·)) = true := by kernel_rfl
theorem rowMBk_c14 : (Rows.mappingBackRow.ifaces == (Tryz.f4.params.toList ++ Rows.mappingBackSpec.plain.varTypes Tryz.prog).any (Tryz.prog.ifacesRec ·)) = true := by kernel_rfl
theorem rowMBk_c15 : (Rows.mappingBackRow.mapsOut == Tryz.prog.mapsAmong Tryz.f4.resultTypes.toList) = true := by kernel_rfl
theorem rowMBk_c16 : (Rows.mappingBackRow.loops == (Tryz.f4.params.toList ++ Rows.mappingBackSpec.plain.varTypes Tryz.prog).any (Tryz.prog.loopsFrom ·)) = true := by kernel_rfl
theorem rowMBk_c17 : (Rows.mappingBackRow.wideKeys == (Tryz.f4.params.toList ++ Rows.mappingBackSpec.plain.varTypes Tryz.prog ++ Tryz.f4.resultTypes.toList).any (Tryz.prog.wideKeysFrom ·)) = true := by kernel_rfl
theorem rowMBk_c18 : Rows.mappingBackSpec.vars.all (Tryz.prog.varReadable ·) = true := by kernel_rfl
theorem rowMBk_c19 : Tryz.f4.resultTypes.all (fun t => Tryz.prog.readableRec t && decide (t < Tryz.prog.types.size)) = true := by kernel_rfl
theorem rowMBk_c20 : (Rows.mappingBackRow.ifacesOut == Tryz.f4.resultTypes.toList.any (Tryz.prog.ifacesRec ·)) = true := by kernel_rfl
theorem rowMBk_c21 : (Rows.mappingBackRow.loopsOut == Tryz.f4.resultTypes.toList.any (Tryz.prog.loopsFrom ·)) = true := by kernel_rfl
theorem rowMBk_c22 : (Rows.mappingBackRow.plainKeys == Tryz.prog.plainKeys) = true := by kernel_rfl
theorem rowMBk_c23 : Rows.mappingBackRow.shortTexts.isNone = true := by kernel_rfl
theorem rowMBk_c26 : (Rows.mappingBackRow.lifted == Tryz.prog.liftsFinal) = true := by rw [show Rows.mappingBackRow.lifted = Rows.mappingParsesRow.lifted from by kernel_rfl]; exact jfLift
theorem rowMBk_c27 : (Tryz.prog.make == some Rows.mappingBackRow.make) = true := by rw [show Rows.mappingBackRow.make = Rows.mappingParsesRow.make from by kernel_rfl]; exact jfMake
theorem rowMBk_c29 : (Rows.mappingBackRow.pinned == Rows.mappingBackRow.pinnedBy) = true := by kernel_rfl
theorem rowMBk_c30 : (Rows.mappingBackRow.veiled == (Tryz.f4.params.toList ++ Rows.mappingBackSpec.plain.varTypes Tryz.prog ++ Tryz.f4.resultTypes.toList).any (Tryz.prog.veiledRec ·)) = true := by kernel_rfl
theorem rowMBk_c31 : Rows.mappingBackRow.veiledFits Tryz.prog Tryz.f4.params.toList (Tryz.f4.params.toList ++ Rows.mappingBackSpec.plain.varTypes Tryz.prog ++ Tryz.f4.resultTypes.toList) = true := by kernel_rfl
theorem rowMBk_c : joinedFacts Tryz.prog 4 Tryz.f4 Rows.mappingBackSpec Rows.mappingBackRow = true := and2 (and2 (and2 (and2 (and2 (and2 (and2 (and2 (and2 (and2 (and2 (and2 (and2 (and2 (and2 (and2 (and2 (and2 (and2 (and2 (and2 (and2 (and2 (and2 (and2 (and2 (and2 (and2 (and2 (and2 (and2 (rowMBk_c0) jfOut) jfMaps) rowMBk_c3) rowMBk_c4) rowMBk_c5) rowMBk_c6) rowMBk_c7) rowMBk_c8) rowMBk_c9) rowMBk_c10) rowMBk_c11) rowMBk_c12) rowMBk_c13) rowMBk_c14) rowMBk_c15) rowMBk_c16) rowMBk_c17) rowMBk_c18) rowMBk_c19) rowMBk_c20) rowMBk_c21) rowMBk_c22) rowMBk_c23) jfHeard) jfEnter) rowMBk_c26) rowMBk_c27) (by kernel_rfl)) rowMBk_c29) rowMBk_c30) rowMBk_c31
theorem rowMBk_i : Tryz.f4.isInstance Tryz.prog Rows.mappingBackRow.origin Rows.mappingBackRow.targs := of_decide_eq_true (by kernel_rfl)
theorem rowMBk_w : Tryz.f4.isWrapper Tryz.prog Rows.mappingBackRow.wrapper Rows.mappingBackRow.mainSum := by unfold Func.isWrapper; rw [if_neg (by decide +kernel)]; exact ⟨rfl, rfl⟩
theorem rowMBk_holds : Rows.MappingBackSaid :=
  OpenClaim.holds_of_wide 4 Tryz.f4 rfl rfl rfl rfl rfl rfl rfl ⟨rfl, rfl, rfl, rfl, rfl⟩ rfl rfl rfl rfl rfl rowMBk_f Tryz.func4 rowMBk_c rowMBk_i rowMBk_w
    (fun os started H enc _ => liftedMBk os started H enc)
end Go.Proofs.YtfalaomjfkaphaaGreatDoor

/-
  MappingBack holds of the given program for every list of mappings, string: the tied card of the law's row. Conditions: none beyond the statement's own.
-/
namespace Go.Proofs.YtfalaomjfkaphaaGreatDoor
open Go

theorem cardMBk_w : Rows.mappingBackRow.wfByText (OpenSpec.ofChange Rows.mappingBackSpec) = true := by kernel_rfl
theorem cardMBk_m : Tryz.prog.mainIs = some ((true, "dd7ce6020ae7e3f4a3602b5ad57097b07d5f2f2356ed8c1d6f24fdcf1620b2a7").1, (true, "dd7ce6020ae7e3f4a3602b5ad57097b07d5f2f2356ed8c1d6f24fdcf1620b2a7").2.toList) := by kernel_rfl
theorem cardMBk_l : false = Tryz.prog.looks [] := by kernel_rfl
theorem cardMBk_f : Tryz.prog.funcNamed "unicodetext/unicodetextlaw11.MappingBack" = some 4 := by kernel_rfl
theorem cardMBk_s : ([24, 9].all fun u => !Tryz.prog.wantsStandIn u) = true := by kernel_rfl
theorem cardMBk_g : false = Rows.mappingBackRow.goesBy Tryz.prog := by kernel_rfl
theorem mappingBack_holds : Rows.MappingBackCardSaid :=
  Claim7.holds_tied_plain_at .later [] [.data, .data, .pinned] true (true, "dd7ce6020ae7e3f4a3602b5ad57097b07d5f2f2356ed8c1d6f24fdcf1620b2a7") false
    rowMBk_holds (fun _ h => by cases h) cardMBk_w (fun _ h => by cases h) mappingBack_row_tie rfl ⟨rfl, rfl⟩ cardMBk_m rfl
    (fun f fn hf hfn => by
      obtain rfl : f = 4 := Option.some.inj (cardMBk_f.symm.trans hf) |>.symm
      obtain rfl : fn = Tryz.f4 := (Option.some.inj (Tryz.func4.symm.trans hfn)).symm
      exact ⟨cardMBk_l, fun j t ht => by
        rw [Tryz.params4] at ht
        have hm : t ∈ [24, 9] := by simpa using Array.mem_of_getElem? ht
        exact (show Tryz.prog.wantsStandIn t = false by simpa using List.all_eq_true.1 cardMBk_s t hm)⟩)
    cardMBk_g
#print axioms mappingBack_holds
end Go.Proofs.YtfalaomjfkaphaaGreatDoor
