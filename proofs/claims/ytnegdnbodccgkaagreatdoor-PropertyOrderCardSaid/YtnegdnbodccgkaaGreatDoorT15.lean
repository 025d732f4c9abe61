import Derived.Test.YtnegdnbodccgkaaGreatDoorT14
set_option linter.unusedVariables false
set_option linter.unusedSimpArgs false
namespace Go.Proofs
open Go Go.Sx
variable {mx : Int} {pb : Bool}

theorem splL_cut (c : UInt8) (s : ByteArray) : (∃ i, i < s.size ∧ Lib.cut s.data.toList [c] = (s.data.toList.take i, s.data.toList.drop (i + 1), true) ∧ splitL c s.data.toList = s.data.toList.take i :: splitL c (s.data.toList.drop (i + 1))) ∨ (Lib.cut s.data.toList [c] = (s.data.toList, [], false) ∧ splitL c s.data.toList = [s.data.toList]) := by
  rcases Lib.index_spec s.data.toList [c] with ⟨_, h2⟩ | ⟨i, _, h2, h3, h4⟩
  · refine .inr ⟨cut_none h2, ?_⟩
    have := seg_end (c := c) (s := s) (f := 0) (fun j _ hj => by
      have := h2 j (Nat.le_of_lt hj)
      rw [occ1 hj] at this
      exact of_decide_eq_false this)
    exact this
  · have hi : i < s.size := by
      rcases Nat.lt_or_ge i s.size with h | h
      · exact h
      · rw [occ1_end h] at h3; exact Bool.noConfusion h3
    refine .inl ⟨i, hi, cut_at h3 h4 h2, ?_⟩
    have := seg_step (c := c) (s := s) (f := 0) (Nat.zero_le _) hi (fun j _ hj => by
      have := h4 j hj
      rw [occ1 (by omega)] at this
      exact of_decide_eq_false this) (by rw [occ1 hi] at h3; exact of_decide_eq_true h3)
    exact this
theorem splB_yes {s : ByteArray} (h : cutF s ⟨#[10]⟩ = true) : splB 10 s = cutA s ⟨#[10]⟩ :: splB 10 (cutZ s ⟨#[10]⟩) ∧ (cutZ s ⟨#[10]⟩).size < s.size := by
  unfold cutF at h
  unfold cutA cutZ splB
  rw [show (⟨#[10]⟩ : ByteArray).data.toList = [10] from rfl] at *
  rcases splL_cut 10 s with ⟨i, hi, e1, e2⟩ | ⟨e1, _⟩
  · rw [e1, e2]
    refine ⟨rfl, ?_⟩
    show (s.data.toList.drop (i + 1)).length < s.data.toList.length
    have : s.data.toList.length = s.size := rfl
    rw [List.length_drop]
    omega
  · rw [e1] at h; exact Bool.noConfusion h
theorem splB_no {s : ByteArray} (h : cutF s ⟨#[10]⟩ = false) : splB 10 s = [cutA s ⟨#[10]⟩] := by
  unfold cutF at h
  unfold cutA splB
  rw [show (⟨#[10]⟩ : ByteArray).data.toList = [10] from rfl] at *
  rcases splL_cut 10 s with ⟨i, hi, e1, e2⟩ | ⟨e1, e2⟩
  · rw [e1] at h; exact Bool.noConfusion h
  · rw [e1, e2]; rfl
theorem cutA_len (s sep : ByteArray) : (cutA s sep).size ≤ s.size := (cut_len (s := s.data.toList) (sub := sep.data.toList)).1
theorem cutZ_len (s sep : ByteArray) : (cutZ s sep).size ≤ s.size := (cut_len (s := s.data.toList) (sub := sep.data.toList)).2
theorem StLe.six {tm tm' : List (Nat × D)} {ow ow' : List Own} (h1 : renT [0, 1, 2, 3, 4, 5, 6] tm tm') (h2 : renO [0, 1, 2, 3, 4, 5, 6] ow [0, 1, 2, 3, 4, 5, 6] ow') : StLe 6 ⟨tm, ow, []⟩ ⟨tm', ow', []⟩ :=
  StLe.renm [0, 1, 2, 3, 4, 5, 6] h1 h2 (by decide) (by decide) (by simp)
theorem StLe.sixA {tm tm' : List (Nat × D)} {ow ow' : List Own} {n : Nat} (hn : [0, 1, 2, 3, 4, 5, n].Nodup) (h1 : renT [0, 1, 2, 3, 4, 5, n] tm tm') (h2 : renO [0, 1, 2, 3, 4, 5, n] ow [0, 1, 2, 3, 4, 5, n] ow') : StLe 6 ⟨tm, ow, []⟩ ⟨tm', ow', []⟩ :=
  StLe.renm [0, 1, 2, 3, 4, 5, n] h1 h2 hn (fun i hi => by
    match i, hi with
    | 0, _ => rfl
    | 1, _ => rfl
    | 2, _ => rfl
    | 3, _ => rfl
    | 4, _ => rfl
    | 5, _ => rfl) (by simp)
theorem ent_drop1 {l : List ByteArray} : Ent (.sl 1 (l.length - 1) fun i j => strD (l.getD (1 + i) default) j) (slD 1 strD (l.drop 1)) := by
  refine Ent.sl (by rw [List.length_drop]) fun i hi j hj => Ent.of_eq ?_
  show strD (l.getD (1 + i) default) j = strD ((l.drop 1).getD i default) j
  rw [show (l.drop 1).getD i default = l.getD (1 + i) default by simp [List.getD_eq_getElem?_getD, Nat.add_comm]]
/-! lines.Parse -/
noncomputable def cNum : Code := (Tryz.f157.body).getD .skip
noncomputable def cNum1 : Code := (Tryz.f202.body).getD .skip
def ctCut1 (c : ByteArray) : Ct := { ι := ByteArray, inp := fun s => [.v (.string s), .v (.string c)], out := fun s => .tu [.v (.string (cutA s c)), .v (.string (cutZ s c)), .v (.bool (cutF s c))], pre := fun s => s.size < 4294967281 }
theorem cut1_ok (c : ByteArray) : Sound Tryz.prog (GlT mx pb) 154 (ctCut1 c) := sound_less cutS_ok (fun s => (s, c)) (fun _ => rfl) (fun _ h => h) (fun _ _ => rfl)
def Γnm : Ctx := fun f => match f with
  | 154 => some (.pure (ctCut1 ⟨#[10]⟩))
  | _ => none
theorem Γnm_ok : CtxOk Tryz.prog (GlT mx pb) Γnm := by
  intro f h hh
  simp only [Γnm] at hh
  split at hh <;> simp at hh <;> subst hh
  · exact (cut1_ok _)
noncomputable def Γlp (mx : Int) (pb : Bool) : Ctx := fun f => match f with
  | 157 => some (.gen (inlW true Γ0 Tryz.T (GlT mx pb) Tryz.f157 cNum))
  | 202 => some (.gen (inlW true Γnm Tryz.T (GlT mx pb) Tryz.f202 cNum1))
  | 154 => some (.pure (ctCut1 ⟨#[35]⟩))
  | 158 => some (.pure ctTrim)
  | 159 => some (.pure ctCutP)
  | 160 => some (.pure ctCds)
  | _ => none
theorem Γlp_ok : CtxOk Tryz.prog (GlT mx pb) (Γlp mx pb) := by
  intro f h hh
  simp only [Γlp] at hh
  split at hh <;> simp at hh <;> subst hh
  · exact soundT_inlW Γ0_ok Tryz.T_ok Tryz.mixed Tryz.func157 rfl (by kernel_rfl)
  · exact soundT_inlW Γnm_ok Tryz.T_ok Tryz.mixed Tryz.func202 rfl (by kernel_rfl)
  · exact (cut1_ok _)
  · exact trim_ok
  · exact lcut_ok
  · exact lcodes_ok
set_option maxHeartbeats 4000000 in
theorem pLines_ok : Sound Tryz.prog (GlT mx pb) 92 ctLp := by
  refine sound_by (cc := true) Γlp_ok Tryz.T_ok Tryz.mixed Tryz.func92 rfl (by kernel_rfl) (fun _ => rfl) (fun _ _ => by show 1 ≤ 58; decide) ?_
  intro (s : ByteArray) (hs : s.size ≤ 1000000000)
  by_cases hbig : s.size > 65536
  · repeat' (first | refine gw ?_ | (refine br (fun q_ => ?_) (fun q_ => ?_) <;> try simp only [Int.toNat_natCast, Nat.mul_one, Nat.add_zero] at q_) | (refine brF (fun q_ => ?_) (fun q_ => ?_) <;> try simp only [Int.toNat_natCast, Nat.mul_one, Nat.add_zero] at q_))
    refine EntR.of rfl ?_
    show Ent _ (D.tu [lnsD (linesP s).1, faultA (linesP s).2.1 (linesP s).2.2])
    rw [linesP, if_pos hbig]
    exact Ent.tu2 Ent.nil (Ent.refl _)
  have hP : linesP s = goP (splB 10 s) 1 [] := if_neg hbig
  repeat' (first | refine gw ?_ | (refine br (fun q_ => ?_) (fun q_ => ?_) <;> try simp only [Int.toNat_natCast, Nat.mul_one, Nat.add_zero] at q_) | (refine brF (fun q_ => ?_) (fun q_ => ?_) <;> try simp only [Int.toNat_natCast, Nat.mul_one, Nat.add_zero] at q_))
  refine ⟨0, ByteArray × Nat × List Ln, fun | (r, n, acc) => ⟨[(0, .yl 5), (3, .v (.string r)), (4, .v (.int .i64 n))], [.cells 99 [nilV], z31, .cells 99 [.row 6], .cells 9 [.v (.string s)], .defd, .lp .ready none, rowL 103 5 lnD acc], []⟩, fun | (r, n, acc) => n + r.size ≤ s.size + 1 ∧ acc.length ≤ n ∧ goP (splB 10 r) n acc = linesP s, fun x => x.1.size, fun _ => (by show 6 ≤ 7; decide), ⟨(s, 1, []), ⟨by omega, by simp, hP.symm⟩, StLe.trans (StLe.nilCell (i := 2) (j := 0) 103 5 (fun _ _ => .junk) rfl rfl) (StLe.six tmS (by repeat' (first | exact trivial | exact own_nil | exact rfl | exact EntL.refl _ | refine And.intro ?_ ?_)))⟩, ?_⟩
  rintro ⟨r, n, acc⟩ ⟨hn, hacc, hg⟩
  have p1 : (ctCut1 ⟨#[10]⟩).pre r := (by show r.size < _; omega)
  have hxl := cutA_len r ⟨#[10]⟩
  have hcl := cutA_len (cutA r ⟨#[10]⟩) ⟨#[35]⟩
  have hzl := cutZ_len (cutA r ⟨#[10]⟩) ⟨#[35]⟩
  have p2 : (ctCut1 ⟨#[35]⟩).pre (cutA r ⟨#[10]⟩) := (by show (cutA r ⟨#[10]⟩).size < _; omega)
  have p3 : ctTrim.pre (cutA (cutA r ⟨#[10]⟩) ⟨#[35]⟩) := (by show ByteArray.size _ ≤ _; omega)
  have p4 : ctTrim.pre (cutZ (cutA r ⟨#[10]⟩) ⟨#[35]⟩) := (by show ByteArray.size _ ≤ _; omega)
  have p5 : ctCutP.pre (cutA (cutA r ⟨#[10]⟩) ⟨#[35]⟩) := (by show ByteArray.size _ ≤ _; omega)
  obtain ⟨hQ1, hQ2, hQ3⟩ := splB_len (c := 59) (s := comA (cutA r ⟨#[10]⟩))
  have hcp : (cutP (comA (cutA r ⟨#[10]⟩))).length = (splB 59 (comA (cutA r ⟨#[10]⟩))).length := List.length_map _
  have hcp0 : 0 < (cutP (cutA (cutA r ⟨#[10]⟩) ⟨#[35]⟩)).length := by show 0 < (cutP (comA (cutA r ⟨#[10]⟩))).length; omega
  have p6 : ctCds.pre ((cutP (cutA (cutA r ⟨#[10]⟩) ⟨#[35]⟩)).getD 0 default) := (by
    show ByteArray.size ((cutP (comA (cutA r ⟨#[10]⟩))).getD 0 default) ≤ _
    rw [← cutP_head]
    have h1 := trimB_len ((splB 59 (comA (cutA r ⟨#[10]⟩))).getD 0 default)
    have h2 := hQ3 0
    have h3 : (comA (cutA r ⟨#[10]⟩)).size ≤ (cutA r ⟨#[10]⟩).size := hcl
    omega)
  have ent5 : spanB (lnHead (cutA r ⟨#[10]⟩)) = true → ∀ g : Nat → Nat → D, g 0 0 = .v (.int .i64 n) → g 0 1 = .v (.int .i64 (if spanB (lnHead (cutA r ⟨#[10]⟩)) = true then pcC (spA (lnHead (cutA r ⟨#[10]⟩))) else 0)) → g 0 2 = .v (.int .i64 (if spanB (lnHead (cutA r ⟨#[10]⟩)) = true then pcC (spZ (lnHead (cutA r ⟨#[10]⟩))) else 0)) → g 0 3 = (.sl 1 ((lnParts (cutA r ⟨#[10]⟩)).length - 1) fun i j => strD ((lnParts (cutA r ⟨#[10]⟩)).getD (1 + i) default) j) → g 0 4 = .v (.string (comZ (cutA r ⟨#[10]⟩))) → ∀ j, j < 5 → Ent (g 0 j) (lnD (lnMk n (cutA r ⟨#[10]⟩)) j) := fun hsp g h0 h1 h2 h3 h4 => lt5 (Ent.of_eq h0) (h1 ▸ Ent.int (if_pos hsp)) (h2 ▸ Ent.int (if_pos hsp)) (h3 ▸ ent_drop1) (Ent.of_eq h4)
  repeat' (first | refine gw ?_ | (refine br (fun q_ => ?_) (fun q_ => ?_) <;> try simp only [Int.toNat_natCast, Nat.mul_one, Nat.add_zero] at q_) | (refine brF (fun q_ => ?_) (fun q_ => ?_) <;> try simp only [Int.toNat_natCast, Nat.mul_one, Nat.add_zero] at q_))
  · rw [splB_no q_] at hg
    rename_i h1
    rw [goP, if_pos (emB_iff.2 (show trimB (comA (cutA r ⟨#[10]⟩)) = ⟨#[]⟩ from h1)), goP] at hg
    refine EntR.of rfl ?_
    show Ent _ (D.tu [lnsD (linesP s).1, faultA (linesP s).2.1 (linesP s).2.2])
    rw [← hg]
    exact Ent.refl _
  · obtain ⟨e1, e2⟩ := splB_yes q_
    rename_i h1
    rw [e1, goP, if_pos (emB_iff.2 (show trimB (comA (cutA r ⟨#[10]⟩)) = ⟨#[]⟩ from h1))] at hg
    exact ⟨(cutZ r ⟨#[10]⟩, n + 1, acc), ⟨by omega, by omega, hg⟩, e2, StLe.six tmS (by repeat' (first | exact trivial | exact own_refl | exact rfl | exact EntL.refl _ | refine And.intro ?_ ?_))⟩
  · rename_i h1
    have hb : ¬ spanB (lnHead (cutA r ⟨#[10]⟩)) = true := by rw [show spanB (lnHead (cutA r ⟨#[10]⟩)) = false from q_]; decide
    have : goP (splB 10 r) n acc = ([], 3, (n : Int)) := by
      rcases Bool.eq_false_or_eq_true (cutF r ⟨#[10]⟩) with hc | hc
      · rw [(splB_yes hc).1, goP, if_neg (show ¬ emB (trimB (comA (cutA r ⟨#[10]⟩))) = true from fun h => h1 (emB_iff.1 h)), if_neg hb]
      · rw [splB_no hc, goP, if_neg (show ¬ emB (trimB (comA (cutA r ⟨#[10]⟩))) = true from fun h => h1 (emB_iff.1 h)), if_neg hb]
    rw [this] at hg
    refine EntR.of rfl ?_
    show Ent _ (D.tu [lnsD (linesP s).1, faultA (linesP s).2.1 (linesP s).2.2])
    rw [← hg]
    exact Ent.tu2 Ent.nil (Ent.refl _)
  · rename_i h1 h2
    rw [splB_no q_, goP, if_neg (show ¬ emB (trimB (comA (cutA r ⟨#[10]⟩))) = true from fun h => h1 (emB_iff.1 h)), if_pos (show spanB (lnHead (cutA r ⟨#[10]⟩)) = true from h2), goP] at hg
    refine EntR.of rfl ?_
    show Ent _ (D.tu [lnsD (linesP s).1, faultA (linesP s).2.1 (linesP s).2.2])
    rw [← hg]
    exact Ent.tu2 (ent_app (ent5 h2 _ rfl rfl rfl rfl rfl)) (Ent.refl _)
  · rename_i h1 h2
    obtain ⟨e1, e2⟩ := splB_yes q_
    rw [e1, goP, if_neg (show ¬ emB (trimB (comA (cutA r ⟨#[10]⟩))) = true from fun h => h1 (emB_iff.1 h)), if_pos (show spanB (lnHead (cutA r ⟨#[10]⟩)) = true from h2)] at hg
    exact ⟨(cutZ r ⟨#[10]⟩, n + 1, acc ++ [lnMk n (cutA r ⟨#[10]⟩)]), ⟨by omega, by simp; omega, hg⟩, e2, StLe.sixA (n := 7) (by decide) tmS ⟨⟨rfl, EntL.refl _, rfl⟩, ⟨rfl, EntL.refl _, rfl⟩, ⟨rfl, EntL.refl _, rfl⟩, ⟨rfl, EntL.refl _, rfl⟩, trivial, ⟨rfl, rfl⟩, own_app (ent5 h2 _ rfl rfl rfl rfl rfl), trivial⟩⟩
#print axioms pLines_ok
end Go.Proofs
