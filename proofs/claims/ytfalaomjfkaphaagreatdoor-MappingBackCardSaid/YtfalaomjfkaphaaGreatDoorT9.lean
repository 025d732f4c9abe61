import Derived.Test.YtfalaomjfkaphaaGreatDoorT8
import Derived.Test.YtfalaomjfkaphaaGreatDoorT5z
set_option linter.unusedVariables false
set_option linter.unusedSimpArgs false
namespace Go.Proofs
open Go Go.Sx
variable {mx : Int} {pb : Bool}

/-! the fields of mappings -/
theorem codesK_good {t : List Int} (hv : ∀ k, k < t.length → validB (t.getD k default) = true) : ∀ k, k ≤ t.length → Good (codesK t k).data.toList ∧ (0 < k → (codesK t k).data.toList ≠ [])
  | 0, _ => ⟨Good.nil, fun h => by omega⟩
  | k + 1, hk => by
    have ih := codesK_good hv k (by omega)
    have hw : Good (hexL (t.getD k default)) := Good.word (hexL_word _)
    have hn := hexL_ne (hv k (by omega))
    by_cases h0 : k = 0
    · subst h0
      exact ⟨hw, fun _ => hn⟩
    · have e : (codesK t (k + 1)).data.toList = (codesK t k).data.toList ++ [32] ++ hexL (t.getD k default) := by
        simp only [codesK, h0, if_false]
        rfl
      rw [e]
      exact ⟨ih.1.sep hw (ih.2 (by omega)) hn, fun _ => by simp⟩

theorem tagS_good {m : Mp} (h : tagB m = true) : Good (tagS m).data.toList := by
  unfold tagS
  split
  · exact Good.nil
  · rename_i he
    have hn : isNameB m.tag = true := by
      unfold tagB at h
      rw [show eqB m.tag ⟨#[]⟩ = false from by simpa [emB, eqB] using he] at h
      simpa using h
    refine Good.word fun b hb => ?_
    have hb : b ∈ 60 :: m.tag.data.toList ++ [62] := hb
    rcases List.mem_append.1 hb with h1 | h1
    · rcases List.mem_cons.1 h1 with rfl | h1
      · decide
      · exact name_word hn b h1
    · simp at h1; subst h1; decide
theorem jn_field (m : Mp) : jn2 (tagS m) (codesS m.to) = fieldS m := by
  unfold jn2 fieldS
  by_cases h1 : emB m.tag = true
  · have : (tagS m) = ⟨#[]⟩ := if_pos h1
    rw [if_neg (by rw [this]; intro h; exact absurd h.2 (by decide)), if_pos h1, this]
    rfl
  · have ht : 0 < (tagS m).size := by
      unfold tagS
      rw [if_neg h1, bcat_size', bcat_size']
      show 0 < 1 + _ + 1
      omega
    rw [if_neg h1]
    by_cases h2 : emB (codesS m.to) = true
    · rw [if_pos h2, if_neg (fun h => h.1 (emB_iff.1 h2))]
    · rw [if_neg h2, if_pos ⟨fun h => h2 (emB_iff.2 h), ht⟩]
      unfold bcat
      simp
theorem field_good {m : Mp} (h : tagB m = true) (hv : allV m.to = true) : Good (fieldS m).data.toList := by
  rw [← jn_field]
  have hc : Good (codesS m.to).data.toList := (codesK_good (fun k hk => by
    have := List.all_eq_true.1 hv _ (mem_getD hk)
    exact this) _ (Nat.le_refl _)).1
  unfold jn2
  split
  · rename_i h2
    show Good ((tagS m).data.toList ++ [32] ++ (codesS m.to).data.toList)
    refine (tagS_good h).sep hc (fun e => ?_) (fun e => h2.1 (size_nil e))
    rw [size_nil e] at h2
    exact absurd h2.2 (by decide)
  · exact (tagS_good h).app hc

def mtLine (m : Mp) : Ln := ⟨0, m.frm, m.frm, [fieldS m], ⟨#[]⟩⟩
theorem lnW_mt (b : ByteArray) (m : Mp) : lnW b (mtLine m) = bcat (bcat (bcat (bcat b (hexS m.frm)) smB) (fieldS m)) nlB := by
  unfold lnW lnWC
  rw [if_pos (show (mtLine m).com = ⟨#[]⟩ from rfl)]
  show bcat (bcat (lnW1 b (mtLine m)) (bcat smB (fieldS m))) nlB = _
  rw [lnW1, if_pos (show (mtLine m).lo = (mtLine m).hi from rfl)]
  unfold bcat
  simp [mtLine]
theorem lnsW_mt (l : List Mp) : ∀ k, k ≤ l.length → lnsW (l.map mtLine) k = mtK l k
  | 0, _ => rfl
  | k + 1, hk => by
    rw [lnsW, getD_map _ (by omega), lnW_mt, lnsW_mt l k (by omega), mtK]
theorem codesB_all {m : Mp} (h : codesB m = true) : allV m.to = true ∧ validB m.frm = true := by
  simp only [codesB, Bool.and_eq_true] at h
  exact h
theorem mt_ok {m : Mp} (h1 : codesB m = true) (h2 : tagB m = true) : lnE (mtLine m) = 0 := by
  obtain ⟨hv, hf⟩ := codesB_all h1
  have h : lnE (mtLine m) = if (mtLine m).fields.all okF = true ∧ okC (mtLine m).com = true then 0 else 3 := if_pos ⟨hf, hf, Int.le_refl _⟩
  rw [h, if_pos ⟨by simp [mtLine, (field_good h2 hv).okF], okC_nil⟩]
theorem mt_lines {l : List Mp} (h : checkE l = 0) : linesE (l.map mtLine) = 0 ∧ linesS (l.map mtLine) = mtK l l.length := by
  obtain ⟨h1, _, h3⟩ := parts_codes (check_codes h)
  have he : linesE (l.map mtLine) = 0 := linesE_0 fun j hj => by
    have hj : j < l.length := by simpa using hj
    rw [getD_map _ hj]
    exact mt_ok (all_at h1 hj) (all_at h3 hj)
  refine ⟨he, ?_⟩
  rw [linesS, if_pos he, List.length_map]
  exact lnsW_mt l _ (Nat.le_refl _)

def ctCodesV : Ct := { ι := List Int, inp := fun t => [slD 1 intD t], out := fun t => .tu [.v (.string (codesS t)), .v (.int .i64 0)], pre := fun t => t.length ≤ 100000 ∧ allV t = true }
theorem codesV_ok : Sound Tryz.prog (GlT mx pb) 24 ctCodesV := sound_less codes_ok id (fun _ => rfl) (fun _ h => h.1) (fun _ h => if_pos h.2)
/-! mapping.Text -/
def fitS (l : List Mp) : Prop := l.length ≤ 10000 ∧ ∀ k, k < l.length → (l.getD k default).to.length ≤ 1000 ∧ (l.getD k default).tag.size ≤ 1000
theorem fitS.fitL {l : List Mp} (h : fitS l) : fitL l := ⟨by have := h.1; omega, fun k hk => by
  have := h.2 k hk
  exact ⟨by omega, by omega⟩⟩
theorem small_fitS {l : List Mp} (h : smallB l = true) : fitS l := by
  obtain ⟨h1, h2⟩ := small_facts h
  exact ⟨by omega, fun k hk => by have := h2 k hk; omega⟩
noncomputable def mtS (l : List Mp) : ByteArray := if checkE l = 0 then mtK l l.length else ⟨#[]⟩
noncomputable def ctMtT : Ct := { ι := List Mp, inp := fun l => [mpsD l], out := fun l => .tu [.v (.string (mtS l)), .v (.int .i64 (checkE l))], pre := fitS }
noncomputable def Γmt : Ctx := fun f => match f with
  | 12 => some (.pure ctCheck)
  | 24 => some (.pure ctCodesV)
  | 25 => some (.pure ctJn)
  | 26 => some (.pure ctLines)
  | _ => none
theorem Γmt_ok : CtxOk Tryz.prog (GlT mx pb) Γmt := by
  intro f h hh
  simp only [Γmt] at hh
  split at hh <;> simp at hh <;> subst hh
  · exact check_ok
  · exact codesV_ok
  · exact jn_ok
  · exact lines_ok
set_option maxHeartbeats 4000000 in
theorem mText_ok : Sound Tryz.prog (GlT mx pb) 11 ctMtT := by
  refine sound_by (cc := true) Γmt_ok Tryz.T_ok Tryz.mixed Tryz.func11 rfl (by kernel_rfl) (fun _ => rfl) (fun _ _ => by show 1 ≤ 56; decide) ?_
  intro (l : List Mp) (hs : fitS l)
  have p0 : ctCheck.pre l := hs.fitL
  obtain ⟨hl, hsm⟩ := hs
  repeat' (first | refine gw ?_ | (refine br (fun q_ => ?_) (fun q_ => ?_) <;> try simp only [Int.toNat_natCast, Nat.mul_one, Nat.add_zero] at q_) | (refine brF (fun q_ => ?_) (fun q_ => ?_) <;> try simp only [Int.toNat_natCast, Nat.mul_one, Nat.add_zero] at q_))
  · exact entR_eq' rfl (by show _ = D.tu [.v (.string (mtS l)), .v (.int .i64 (checkE l))]; rw [mtS, if_neg ‹_›]; rfl)
  have hc := q_
  obtain ⟨c1, c2, c3⟩ := parts_codes (check_codes hc)
  refine ⟨0, Nat, fun k => ⟨[(5, .row 0), (16, mpsD l), (17, .v (.int .i64 l.length)), (18, .v (.int .i64 k))], [rowL 42 5 lnD ((l.take k).map mtLine)], []⟩, fun k => k ≤ l.length, fun k => l.length - k, fun _ => Nat.zero_le _, ⟨0, Nat.zero_le _, StLe.trans (StLe.nilRow (t := 5) 42 5 (fun _ _ => .junk) rfl) (StLe.ren [0] tmS ⟨own_nil, trivial⟩ (by decide))⟩, ?_⟩
  intro k (hk : k ≤ l.length)
  have htl : (l.take k).length = k := by rw [List.length_take]; omega
  have hml : ((l.take k).map mtLine).length = k := by rw [List.length_map]; exact htl
  by_cases hlt : k < l.length
  · have h1 := hsm k hlt
    have hcv := codesB_all (all_at c1 hlt)
    have p1 : ctCodesV.pre (l.getD k default).to := ⟨by have := h1.1; omega, hcv.1⟩
    have hts : (tagS (l.getD k default)).size ≤ 10000 := by
      unfold tagS
      split
      · decide
      · rw [bcat_size', bcat_size']
        show 1 + _ + 1 ≤ _
        omega
    have hcs : (codesS (l.getD k default).to).size ≤ 7 * (l.getD k default).to.length := codesK_size _ _
    have p2 : ctJn.pre (tagS (l.getD k default), codesS (l.getD k default).to) := ⟨by show (tagS _).size ≤ _; omega, by show (codesS _).size ≤ _; omega⟩
    repeat' (first | refine gw ?_ | (refine br (fun q_ => ?_) (fun q_ => ?_) <;> try simp only [Int.toNat_natCast, Nat.mul_one, Nat.add_zero] at q_) | (refine brF (fun q_ => ?_) (fun q_ => ?_) <;> try simp only [Int.toNat_natCast, Nat.mul_one, Nat.add_zero] at q_))
    · refine ⟨(tagS (l.getD k default), codesS (l.getD k default).to), EntL.cons (ent_sl2 (lt1 (Ent.v (congrArg Value.string (if_neg (fun h => absurd (emB_iff.1 h) ‹_›)).symm))) (lt1 (Ent.refl _))) (EntL.refl _), fun _ => p2, ?_⟩
      repeat' (first | refine gw ?_ | (refine br (fun q_ => ?_) (fun q_ => ?_) <;> try simp only [Int.toNat_natCast, Nat.mul_one, Nat.add_zero] at q_) | (refine brF (fun q_ => ?_) (fun q_ => ?_) <;> try simp only [Int.toNat_natCast, Nat.mul_one, Nat.add_zero] at q_))
      exact ⟨k + 1, (show k + 1 ≤ l.length by omega), (show l.length - (k + 1) < l.length - k by omega), StLe.ren [2] tmS ⟨by rw [take_at hlt, List.map_append]; exact own_app (lt5 (Ent.refl _) (Ent.refl _) (Ent.refl _) (ent_sl1 (lt1 (Ent.v (congrArg Value.string (jn_field _))))) (Ent.refl _)), trivial⟩ (by decide)⟩
    · refine ⟨(tagS (l.getD k default), codesS (l.getD k default).to), EntL.cons (ent_sl2 (lt1 (Ent.v (congrArg Value.string (by rw [tagS, if_pos (emB_iff.2 ‹_›)]; assumption)))) (lt1 (Ent.refl _))) (EntL.refl _), fun _ => p2, ?_⟩
      repeat' (first | refine gw ?_ | (refine br (fun q_ => ?_) (fun q_ => ?_) <;> try simp only [Int.toNat_natCast, Nat.mul_one, Nat.add_zero] at q_) | (refine brF (fun q_ => ?_) (fun q_ => ?_) <;> try simp only [Int.toNat_natCast, Nat.mul_one, Nat.add_zero] at q_))
      exact ⟨k + 1, (show k + 1 ≤ l.length by omega), (show l.length - (k + 1) < l.length - k by omega), StLe.ren [2] tmS ⟨by rw [take_at hlt, List.map_append]; exact own_app (lt5 (Ent.refl _) (Ent.refl _) (Ent.refl _) (ent_sl1 (lt1 (Ent.v (congrArg Value.string (jn_field _))))) (Ent.refl _)), trivial⟩ (by decide)⟩
  · have hke : k = l.length := by omega
    have het : l.take k = l := List.take_of_length_le (by omega)
    have hm := mt_lines hc
    have p3 : ctLines.pre (l.map mtLine) := ⟨by rw [List.length_map]; exact hl, fun x hx => by
      obtain ⟨m, hm, rfl⟩ := List.mem_map.1 hx
      obtain ⟨i, hi, rfl⟩ := List.getElem_of_mem hm
      have hg : l[i] = l.getD i default := by simp [List.getD_eq_getElem?_getD, hi]
      rw [hg]
      have h1 := hsm i hi
      have hcv := codesB_all (all_at c1 hi)
      have hfs := fieldS_size (l.getD i default)
      refine ⟨by show 1 ≤ _; decide, fun f hf => ?_, by show 0 ≤ _; decide⟩
      have hf : f = fieldS (l.getD i default) := by simpa [mtLine] using hf
      subst hf
      exact ⟨by omega, (field_good (all_at c3 hi) hcv.1).ascii⟩⟩
    have p4 : ctLines.pre ((l.take k).map mtLine) := by rw [het]; exact p3
    repeat' (first | refine gw ?_ | (refine br (fun q_ => ?_) (fun q_ => ?_) <;> try simp only [Int.toNat_natCast, Nat.mul_one, Nat.add_zero] at q_) | (refine brF (fun q_ => ?_) (fun q_ => ?_) <;> try simp only [Int.toNat_natCast, Nat.mul_one, Nat.add_zero] at q_))
    exact entR_eq' rfl (by show D.tu [.v (.string (linesS ((l.take k).map mtLine))), .v (.int .i64 (linesE ((l.take k).map mtLine)))] = D.tu [.v (.string (mtS l)), .v (.int .i64 (checkE l))]; rw [het, mtS, if_pos hc, hc, ← hm.2, hm.1])
/-! the reference's Text -/
noncomputable def Γrt : Ctx := fun f => match f with
  | 82 => some (.pure ctHex)
  | 42 => some (.pure ctField)
  | _ => none
theorem Γrt_ok : CtxOk Tryz.prog (GlT mx pb) Γrt := by
  intro f h hh
  simp only [Γrt] at hh
  split at hh <;> simp at hh <;> subst hh
  · exact rHex_ok
  · exact field_ok
theorem mtK_size' {l : List Mp} (h : fitS l) : ∀ k, k ≤ l.length → (mtK l k).size ≤ 10000 * k
  | 0, _ => by simp [mtK, ByteArray.size]
  | k + 1, hk => by
    have h1 := mtK_size' h k (by omega)
    have h2 := hexS_size (l.getD k default).frm
    have h3 := fieldS_size (l.getD k default)
    have h4 := h.2 k (by omega)
    have h5 : smB.size = 2 := rfl
    have h6 : nlB.size = 1 := rfl
    simp only [mtK, bcat_size', h5, h6]
    omega
end Go.Proofs
