import Derived.Test.YtnccclpjcidmeaaGreatDoorT8
namespace Go.Proofs
open Go Go.Sx
variable {mx : Int}

/-! the fields of mappings -/
theorem nameC_word {b : UInt8} (h : nameC b.toNat = true) : wordB b = true := by
  have hb := b.toNat_lt
  have e : ∀ c : UInt8, b = c → b.toNat = c.toNat := fun c h => by rw [h]
  have h59 : b ≠ 59 := fun x => by rw [x] at h; exact absurd h (by decide)
  have h35 : b ≠ 35 := fun x => by rw [x] at h; exact absurd h (by decide)
  have h32 : b ≠ 32 := fun x => by rw [x] at h; exact absurd h (by decide)
  have h1 : 32 ≤ b.toNat ∧ b.toNat ≤ 126 := by
    simp only [nameC, Bool.or_eq_true, Bool.and_eq_true, decide_eq_true_eq, beq_iff_eq] at h
    omega
  simp [wordB, okByte, h1, h59, h35, h32]
theorem name_word {s : ByteArray} (h : isNameB s = true) : ∀ b ∈ s.data.toList, wordB b = true := by
  intro b hb
  obtain ⟨i, hi, rfl⟩ := List.getElem_of_mem hb
  simp only [isNameB, Bool.and_eq_true, List.all_eq_true] at h
  have := h.2 i (List.mem_range.2 hi)
  refine nameC_word ?_
  unfold bAt at this
  rw [List.getElem?_eq_getElem hi] at this
  exact this
theorem emB_iff {x : ByteArray} : emB x = true ↔ x = ⟨#[]⟩ := eqB_iff
theorem size_nil {x : ByteArray} (h : x.data.toList = []) : x = ⟨#[]⟩ := by
  rcases x with ⟨⟨l⟩⟩
  simp at h
  subst h
  rfl
theorem tagS_good {m : Mp} (h : tagB m = true) : Good (tagS m).data.toList := by
  unfold tagS
  split
  · exact Good.nil
  · rename_i he
    have hn : isNameB m.tag = true := by
      unfold tagB at h
      rw [show eqB m.tag ⟨#[]⟩ = false from by simpa [emB, eqB] using he] at h
      simpa using h
    refine Good.word fun b hb => ?_
    have hb : b ∈ 60 :: m.tag.data.toList ++ [62] := hb
    rcases List.mem_append.1 hb with h1 | h1
    · rcases List.mem_cons.1 h1 with rfl | h1
      · decide
      · exact name_word hn b h1
    · simp at h1; subst h1; decide
theorem bcat_empty (a : ByteArray) : bcat a ⟨#[]⟩ = a := by
  rcases a with ⟨⟨l⟩⟩
  show (⟨⟨l ++ []⟩⟩ : ByteArray) = _
  rw [List.append_nil]
theorem jn_field (m : Mp) : jn2 (tagS m) (codesS m.to) = fieldS m := by
  unfold jn2 fieldS
  by_cases h1 : emB m.tag = true
  · have : (tagS m) = ⟨#[]⟩ := if_pos h1
    rw [if_neg (by rw [this]; intro h; exact absurd h.2 (by decide)), if_pos h1, this]
    rfl
  · have ht : 0 < (tagS m).size := by
      unfold tagS
      rw [if_neg h1, bcat_size', bcat_size']
      show 0 < 1 + _ + 1
      omega
    rw [if_neg h1]
    by_cases h2 : emB (codesS m.to) = true
    · rw [if_pos h2, if_neg (fun h => h.1 (emB_iff.1 h2))]
    · rw [if_neg h2, if_pos ⟨fun h => h2 (emB_iff.2 h), ht⟩]
      unfold bcat
      simp
theorem field_good {m : Mp} (h : tagB m = true) (hv : allV m.to = true) : Good (fieldS m).data.toList := by
  rw [← jn_field]
  have hc : Good (codesS m.to).data.toList := (codesK_good (fun k hk => by
    have := List.all_eq_true.1 hv _ (mem_getD hk)
    exact this) _ (Nat.le_refl _)).1
  unfold jn2
  split
  · rename_i h2
    show Good ((tagS m).data.toList ++ [32] ++ (codesS m.to).data.toList)
    refine (tagS_good h).sep hc (fun e => ?_) (fun e => h2.1 (size_nil e))
    rw [size_nil e] at h2
    exact absurd h2.2 (by decide)
  · exact (tagS_good h).app hc

def mtLine (m : Mp) : Ln := ⟨0, m.frm, m.frm, [fieldS m], ⟨#[]⟩⟩
theorem lnW_mt (b : ByteArray) (m : Mp) : lnW b (mtLine m) = bcat (bcat (bcat (bcat b (hexS m.frm)) smB) (fieldS m)) nlB := by
  unfold lnW lnWC
  rw [if_pos (show (mtLine m).com = ⟨#[]⟩ from rfl)]
  show bcat (bcat (lnW1 b (mtLine m)) (bcat smB (fieldS m))) nlB = _
  rw [lnW1, if_pos (show (mtLine m).lo = (mtLine m).hi from rfl)]
  unfold bcat
  simp [mtLine]
theorem getD_map {α β : Type} [Inhabited α] [Inhabited β] (f : α → β) {l : List α} {k : Nat} (h : k < l.length) : (l.map f).getD k default = f (l.getD k default) := by
  simp [List.getD_eq_getElem?_getD, h]
theorem lnsW_mt (l : List Mp) : ∀ k, k ≤ l.length → lnsW (l.map mtLine) k = mtK l k
  | 0, _ => rfl
  | k + 1, hk => by
    rw [lnsW, getD_map _ (by omega), lnW_mt, lnsW_mt l k (by omega), mtK]
theorem codesB_all {m : Mp} (h : codesB m = true) : allV m.to = true ∧ validB m.frm = true := by
  simp only [codesB, Bool.and_eq_true] at h
  exact h
theorem mt_ok {m : Mp} (h1 : codesB m = true) (h2 : tagB m = true) : lnE (mtLine m) = 0 := by
  obtain ⟨hv, hf⟩ := codesB_all h1
  have h : lnE (mtLine m) = if (mtLine m).fields.all okF = true ∧ okC (mtLine m).com = true then 0 else 3 := if_pos ⟨hf, hf, Int.le_refl _⟩
  rw [h, if_pos ⟨by simp [mtLine, (field_good h2 hv).okF], okC_nil⟩]
theorem mt_lines {l : List Mp} (h : checkE l = 0) : linesE (l.map mtLine) = 0 ∧ linesS (l.map mtLine) = mtK l l.length := by
  obtain ⟨h1, _, h3⟩ := parts_codes (check_codes h)
  have he : linesE (l.map mtLine) = 0 := linesE_0 fun j hj => by
    have hj : j < l.length := by simpa using hj
    rw [getD_map _ hj]
    exact mt_ok (all_at h1 hj) (all_at h3 hj)
  refine ⟨he, ?_⟩
  rw [linesS, if_pos he, List.length_map]
  exact lnsW_mt l _ (Nat.le_refl _)

/-! a contract told by less -/
theorem sound_less {P : Program} {Gl : Nat → Option D} {f : FuncId} {ct ct' : Ct} (h : Sound P Gl f ct) (φ : ct'.ι → ct.ι) (hi : ∀ x, ct'.inp x = ct.inp (φ x)) (hp : ∀ x, ct'.pre x → ct.pre (φ x)) (ho : ∀ x, ct'.pre x → ct.out (φ x) = ct'.out x) : Sound P Gl f ct' := by
  refine ⟨h.1, fun x => by rw [hi]; exact h.2.1 _, fun x hx M w us hf hg hr n => ?_⟩
  have := h.2.2 (φ x) (hp x hx) M w us hf hg (by rw [← hi]; exact hr) n
  rw [ho x hx] at this
  exact this
def ctCodesV : Ct := { ι := List Int, inp := fun t => [slD 1 intD t], out := fun t => .tu [.v (.string (codesS t)), .v (.int .i64 0)], pre := fun t => t.length ≤ 100000 ∧ allV t = true }
theorem codesV_ok : Sound Tryz.prog (GlT mx) 40 ctCodesV := sound_less codes_ok id (fun _ => rfl) (fun _ h => h.1) (fun _ h => if_pos h.2)
theorem ent_sl1 {α : Type} [Inhabited α] {sz : Nat} {enc : α → Nat → D} {a : α} {f : Nat → Nat → D} (h : ∀ j, j < sz → Ent (f 0 j) (enc a j)) : Ent (.sl sz 1 f) (slD sz enc [a]) := Ent.sl rfl fun i hi j hj => by
  have : i = 0 := by omega
  subst this
  exact h j hj
theorem ent_sl2 {α : Type} [Inhabited α] {sz : Nat} {enc : α → Nat → D} {a b : α} {f : Nat → Nat → D} (h : ∀ j, j < sz → Ent (f 0 j) (enc a j)) (k : ∀ j, j < sz → Ent (f 1 j) (enc b j)) : Ent (.sl sz 2 f) (slD sz enc [a, b]) := Ent.sl rfl fun i hi j hj => by
  match i, hi with
  | 0, _ => exact h j hj
  | 1, _ => exact k j hj
theorem lt1 {p : Nat → Prop} (h : p 0) : ∀ j, j < 1 → p j := fun j hj => by
  have : j = 0 := by omega
  subst this
  exact h
theorem lt5 {p : Nat → Prop} (h0 : p 0) (h1 : p 1) (h2 : p 2) (h3 : p 3) (h4 : p 4) : ∀ j, j < 5 → p j := fun j hj => by
  match j, hj with
  | 0, _ => exact h0
  | 1, _ => exact h1
  | 2, _ => exact h2
  | 3, _ => exact h3
  | 4, _ => exact h4
/-! mapping.Text -/
def fitS (l : List Mp) : Prop := l.length ≤ 10000 ∧ ∀ k, k < l.length → (l.getD k default).to.length ≤ 1000 ∧ (l.getD k default).tag.size ≤ 1000
theorem fitS.fitL {l : List Mp} (h : fitS l) : fitL l := ⟨by have := h.1; omega, fun k hk => by
  have := h.2 k hk
  exact ⟨by omega, by omega⟩⟩
theorem small_fitS {l : List Mp} (h : smallB l = true) : fitS l := by
  obtain ⟨h1, h2⟩ := small_facts h
  exact ⟨by omega, fun k hk => by have := h2 k hk; omega⟩
noncomputable def mtS (l : List Mp) : ByteArray := if checkE l = 0 then mtK l l.length else ⟨#[]⟩
noncomputable def ctMtT : Ct := { ι := List Mp, inp := fun l => [mpsD l], out := fun l => .tu [.v (.string (mtS l)), .v (.int .i64 (checkE l))], pre := fitS }
noncomputable def Γmt : Ctx := fun f => match f with
  | 14 => some (.pure ctCheck)
  | 40 => some (.pure ctCodesV)
  | 41 => some (.pure ctJn)
  | 42 => some (.pure ctLines)
  | _ => none
theorem Γmt_ok : CtxOk Tryz.prog (GlT mx) Γmt := by
  intro f h hh
  simp only [Γmt] at hh
  split at hh <;> simp at hh <;> subst hh
  · exact check_ok
  · exact codesV_ok
  · exact jn_ok
  · exact lines_ok
set_option maxHeartbeats 4000000 in
theorem mText_ok : Sound Tryz.prog (GlT mx) 17 ctMtT := by
  refine sound_by (cc := true) Γmt_ok Tryz.T_ok Tryz.mixed Tryz.func17 rfl (by kernel_rfl) (fun _ => rfl) (fun _ _ => by show 1 ≤ 56; decide) ?_
  intro (l : List Mp) (hs : fitS l)
  have p0 : ctCheck.pre l := hs.fitL
  obtain ⟨hl, hsm⟩ := hs
  repeat' (first | refine wk1 ?_ | refine wk2 ?_ | refine wk3 ?_ | refine wt1 ?_ | refine wt2 ?_ | refine wt3 ?_ | refine wt4 ?_ | refine wca _ (EntL.refl _) ?_ | refine wcb _ (EntL.refl _) ?_ | refine bt1 ?_ | refine bt2 ?_ | refine bt3 ?_ | refine bt4 ?_ | refine wn1 ?_ | refine wn2 ?_ | refine wnb ?_ | refine wa ?_ | refine wn5 ?_ | refine br (fun _ => ?_) (fun _ => ?_) | refine brF (fun _ => ?_) (fun _ => ?_))
  · exact entR_eq' rfl (by show _ = D.tu [.v (.string (mtS l)), .v (.int .i64 (checkE l))]; rw [mtS, if_neg ‹_›]; rfl)
  rename_i hc
  obtain ⟨c1, c2, c3⟩ := parts_codes (check_codes hc)
  refine ⟨0, Nat, fun k => ⟨[(5, .row 0), (16, mpsD l), (17, .v (.int .i64 l.length)), (18, .v (.int .i64 k))], [rowL 68 5 lnD ((l.take k).map mtLine)], []⟩, fun k => k ≤ l.length, fun k => l.length - k, fun _ => Nat.zero_le _, ⟨0, Nat.zero_le _, StLe.trans (StLe.nilRow (t := 5) 68 5 (fun _ _ => .junk) rfl) (StLe.ren [0] (by repeat' (first | exact trivial | exact Ent.refl _ | exact rfl | exact Ent.int (by omega) | refine And.intro ?_ ?_)) ⟨own_nil, trivial⟩ (by decide))⟩, ?_⟩
  intro k (hk : k ≤ l.length)
  have htl : (l.take k).length = k := by rw [List.length_take]; omega
  have hml : ((l.take k).map mtLine).length = k := by rw [List.length_map]; exact htl
  by_cases hlt : k < l.length
  · have h1 := hsm k hlt
    have hcv := codesB_all (all_at c1 hlt)
    have p1 : ctCodesV.pre (l.getD k default).to := ⟨by have := h1.1; omega, hcv.1⟩
    have hts : (tagS (l.getD k default)).size ≤ 10000 := by
      unfold tagS
      split
      · decide
      · rw [bcat_size', bcat_size']
        show 1 + _ + 1 ≤ _
        omega
    have hcs : (codesS (l.getD k default).to).size ≤ 7 * (l.getD k default).to.length := codesK_size _ _
    have p2 : ctJn.pre (tagS (l.getD k default), codesS (l.getD k default).to) := ⟨by show (tagS _).size ≤ _; omega, by show (codesS _).size ≤ _; omega⟩
    repeat' (first | refine wk1 ?_ | refine wk2 ?_ | refine wk3 ?_ | refine wt1 ?_ | refine wt2 ?_ | refine wt3 ?_ | refine wt4 ?_ | refine wca _ (EntL.refl _) ?_ | refine wcb _ (EntL.refl _) ?_ | refine bt1 ?_ | refine bt2 ?_ | refine bt3 ?_ | refine bt4 ?_ | refine wn1 ?_ | refine wn2 ?_ | refine wnb ?_ | refine wa ?_ | refine wn5 ?_ | refine br (fun _ => ?_) (fun _ => ?_) | refine brF (fun _ => ?_) (fun _ => ?_))
    · refine ⟨(tagS (l.getD k default), codesS (l.getD k default).to), EntL.cons (ent_sl2 (lt1 (Ent.v (congrArg Value.string (if_neg (fun h => absurd (emB_iff.1 h) ‹_›)).symm))) (lt1 (Ent.refl _))) (EntL.refl _), fun _ => p2, ?_⟩
      repeat' (first | refine wk1 ?_ | refine wk2 ?_ | refine wk3 ?_ | refine wt1 ?_ | refine wt2 ?_ | refine wt3 ?_ | refine wt4 ?_ | refine wca _ (EntL.refl _) ?_ | refine wcb _ (EntL.refl _) ?_ | refine bt1 ?_ | refine bt2 ?_ | refine bt3 ?_ | refine bt4 ?_ | refine wn1 ?_ | refine wn2 ?_ | refine wnb ?_ | refine wa ?_ | refine wn5 ?_ | refine br (fun _ => ?_) (fun _ => ?_) | refine brF (fun _ => ?_) (fun _ => ?_))
      exact ⟨k + 1, (show k + 1 ≤ l.length by omega), (show l.length - (k + 1) < l.length - k by omega), StLe.ren [2] (by repeat' (first | exact trivial | exact Ent.refl _ | exact rfl | exact Ent.int (by omega) | refine And.intro ?_ ?_)) ⟨by rw [take_at hlt, List.map_append]; exact own_app (lt5 (Ent.refl _) (Ent.refl _) (Ent.refl _) (ent_sl1 (lt1 (Ent.v (congrArg Value.string (jn_field _))))) (Ent.refl _)), trivial⟩ (by decide)⟩
    · refine ⟨(tagS (l.getD k default), codesS (l.getD k default).to), EntL.cons (ent_sl2 (lt1 (Ent.v (congrArg Value.string (by rw [tagS, if_pos (emB_iff.2 ‹_›)]; assumption)))) (lt1 (Ent.refl _))) (EntL.refl _), fun _ => p2, ?_⟩
      repeat' (first | refine wk1 ?_ | refine wk2 ?_ | refine wk3 ?_ | refine wt1 ?_ | refine wt2 ?_ | refine wt3 ?_ | refine wt4 ?_ | refine wca _ (EntL.refl _) ?_ | refine wcb _ (EntL.refl _) ?_ | refine bt1 ?_ | refine bt2 ?_ | refine bt3 ?_ | refine bt4 ?_ | refine wn1 ?_ | refine wn2 ?_ | refine wnb ?_ | refine wa ?_ | refine wn5 ?_ | refine br (fun _ => ?_) (fun _ => ?_) | refine brF (fun _ => ?_) (fun _ => ?_))
      exact ⟨k + 1, (show k + 1 ≤ l.length by omega), (show l.length - (k + 1) < l.length - k by omega), StLe.ren [2] (by repeat' (first | exact trivial | exact Ent.refl _ | exact rfl | exact Ent.int (by omega) | refine And.intro ?_ ?_)) ⟨by rw [take_at hlt, List.map_append]; exact own_app (lt5 (Ent.refl _) (Ent.refl _) (Ent.refl _) (ent_sl1 (lt1 (Ent.v (congrArg Value.string (jn_field _))))) (Ent.refl _)), trivial⟩ (by decide)⟩
  · have hke : k = l.length := by omega
    have het : l.take k = l := List.take_of_length_le (by omega)
    have hm := mt_lines hc
    have p3 : ctLines.pre (l.map mtLine) := ⟨by rw [List.length_map]; exact hl, fun x hx => by
      obtain ⟨m, hm, rfl⟩ := List.mem_map.1 hx
      obtain ⟨i, hi, rfl⟩ := List.getElem_of_mem hm
      have hg : l[i] = l.getD i default := by simp [List.getD_eq_getElem?_getD, hi]
      rw [hg]
      have h1 := hsm i hi
      have hcv := codesB_all (all_at c1 hi)
      have hfs := fieldS_size (l.getD i default)
      refine ⟨by show 1 ≤ _; decide, fun f hf => ?_, by show 0 ≤ _; decide⟩
      have hf : f = fieldS (l.getD i default) := by simpa [mtLine] using hf
      subst hf
      exact ⟨by omega, (field_good (all_at c3 hi) hcv.1).ascii⟩⟩
    have p4 : ctLines.pre ((l.take k).map mtLine) := by rw [het]; exact p3
    repeat' (first | refine wk1 ?_ | refine wk2 ?_ | refine wk3 ?_ | refine wt1 ?_ | refine wt2 ?_ | refine wt3 ?_ | refine wt4 ?_ | refine wca _ (EntL.refl _) ?_ | refine wcb _ (EntL.refl _) ?_ | refine bt1 ?_ | refine bt2 ?_ | refine bt3 ?_ | refine bt4 ?_ | refine wn1 ?_ | refine wn2 ?_ | refine wnb ?_ | refine wa ?_ | refine wn5 ?_ | refine br (fun _ => ?_) (fun _ => ?_) | refine brF (fun _ => ?_) (fun _ => ?_))
    exact entR_eq' rfl (by show D.tu [.v (.string (linesS ((l.take k).map mtLine))), .v (.int .i64 (linesE ((l.take k).map mtLine)))] = D.tu [.v (.string (mtS l)), .v (.int .i64 (checkE l))]; rw [het, mtS, if_pos hc, hc, ← hm.2, hm.1])
/-! the reference's Text -/
noncomputable def Γrt : Ctx := fun f => match f with
  | 15 => some (.pure ctCheck)
  | 43 => some (.pure ctHex)
  | 44 => some (.pure ctField)
  | _ => none
theorem Γrt_ok : CtxOk Tryz.prog (GlT mx) Γrt := by
  intro f h hh
  simp only [Γrt] at hh
  split at hh <;> simp at hh <;> subst hh
  · exact rcheck_ok
  · exact rHex_ok
  · exact field_ok
theorem mtK_size' {l : List Mp} (h : fitS l) : ∀ k, k ≤ l.length → (mtK l k).size ≤ 10000 * k
  | 0, _ => by simp [mtK, ByteArray.size]
  | k + 1, hk => by
    have h1 := mtK_size' h k (by omega)
    have h2 := hexS_size (l.getD k default).frm
    have h3 := fieldS_size (l.getD k default)
    have h4 := h.2 k (by omega)
    have h5 : smB.size = 2 := rfl
    have h6 : nlB.size = 1 := rfl
    simp only [mtK, bcat_size', h5, h6]
    omega
set_option maxHeartbeats 4000000 in
theorem rText_ok : Sound Tryz.prog (GlT mx) 18 ctMtT := by
  refine sound_by (cc := true) Γrt_ok Tryz.T_ok Tryz.mixed Tryz.func18 rfl (by kernel_rfl) (fun _ => rfl) (fun _ _ => by show 1 ≤ 35; decide) ?_
  intro (l : List Mp) (hs : fitS l)
  have p0 : ctCheck.pre l := hs.fitL
  have hs' := hs
  obtain ⟨hl, hsm⟩ := hs
  repeat' (first | refine wk1 ?_ | refine wk2 ?_ | refine wk3 ?_ | refine wt1 ?_ | refine wt2 ?_ | refine wt3 ?_ | refine wt4 ?_ | refine wca _ (EntL.refl _) ?_ | refine wcb _ (EntL.refl _) ?_ | refine bt1 ?_ | refine bt2 ?_ | refine bt3 ?_ | refine bt4 ?_ | refine wn1 ?_ | refine wn2 ?_ | refine wnb ?_ | refine wa ?_ | refine wn5 ?_ | refine br (fun _ => ?_) (fun _ => ?_) | refine brF (fun _ => ?_) (fun _ => ?_))
  · exact entR_eq' rfl (by show _ = D.tu [.v (.string (mtS l)), .v (.int .i64 (checkE l))]; rw [mtS, if_neg ‹_›]; rfl)
  rename_i hc
  obtain ⟨c1, c2, c3⟩ := parts_codes (check_codes hc)
  refine ⟨0, Nat, fun k => ⟨[(0, mpsD l), (5, .v (.string (mtK l k))), (6, .v (.int .i64 k))], [], []⟩, fun k => k ≤ l.length, fun k => l.length - k, fun _ => Nat.zero_le _, ⟨0, Nat.zero_le _, StLe.ren [] (by repeat' (first | exact trivial | exact Ent.refl _ | exact rfl | exact Ent.int (by omega) | refine And.intro ?_ ?_)) trivial (by decide)⟩, ?_⟩
  intro k (hk : k ≤ l.length)
  have hz := mtK_size' hs' k hk
  by_cases hlt : k < l.length
  · have h1 := hsm k hlt
    have hcv := codesB_all (all_at c1 hlt)
    have p1 : ctField.pre (l.getD k default) := ⟨hcv.1, by have := h1.1; omega, by have := h1.2; omega⟩
    have hx := hexS_size (l.getD k default).frm
    have hfs := fieldS_size (l.getD k default)
    repeat' (first | refine wk1 ?_ | refine wk2 ?_ | refine wk3 ?_ | refine wt1 ?_ | refine wt2 ?_ | refine wt3 ?_ | refine wt4 ?_ | refine wca _ (EntL.refl _) ?_ | refine wcb _ (EntL.refl _) ?_ | refine bt1 ?_ | refine bt2 ?_ | refine bt3 ?_ | refine bt4 ?_ | refine wn1 ?_ | refine wn2 ?_ | refine wnb ?_ | refine wa ?_ | refine wn5 ?_ | refine br (fun _ => ?_) (fun _ => ?_) | refine brF (fun _ => ?_) (fun _ => ?_))
    exact ⟨k + 1, (show k + 1 ≤ l.length by omega), (show l.length - (k + 1) < l.length - k by omega), StLe.ren [] (by repeat' (first | exact trivial | exact Ent.refl _ | exact rfl | exact Ent.int (by omega) | refine And.intro ?_ ?_)) trivial (by decide)⟩
  · have hke : k = l.length := by omega
    repeat' (first | refine wk1 ?_ | refine wk2 ?_ | refine wk3 ?_ | refine wt1 ?_ | refine wt2 ?_ | refine wt3 ?_ | refine wt4 ?_ | refine wca _ (EntL.refl _) ?_ | refine wcb _ (EntL.refl _) ?_ | refine bt1 ?_ | refine bt2 ?_ | refine bt3 ?_ | refine bt4 ?_ | refine wn1 ?_ | refine wn2 ?_ | refine wnb ?_ | refine wa ?_ | refine wn5 ?_ | refine br (fun _ => ?_) (fun _ => ?_) | refine brF (fun _ => ?_) (fun _ => ?_))
    exact entR_eq' rfl (by show D.tu [.v (.string (mtK l k)), _] = D.tu [.v (.string (mtS l)), .v (.int .i64 (checkE l))]; rw [mtS, if_pos hc, hc, hke])
end Go.Proofs
