import Derived.Test.YtfalaomjfkaphaaGreatDoorT17
import Derived.Test.YtfalaomjfkaphaaGreatDoorLpMi
set_option linter.unusedVariables false
set_option linter.unusedSimpArgs false
namespace Go.Proofs
open Go Go.Sx Go.RowKit
variable {mx : Int} {pb : Bool}
attribute [local irreducible] exPs exCk exSch exAlt
set_option maxHeartbeats 4000000 in
theorem rRead_ok : Sound Tryz.prog (GlT mx pb) 21 ctRd := by
  refine sound_by (cc := true) Γrd11_ok Tryz.T_ok Tryz.mixed Tryz.func21 rfl (by kernel_rfl) (fun _ => rfl) (fun _ _ => by show 1 ≤ 76; decide) ?_
  intro (s : ByteArray) (hs : s.size ≤ 90000)
  have p3 : ctPcs.pre s := (by show s.size ≤ _; omega)
  by_cases hL : 0 < s.size ∧ bAt s 0 = 60
  · obtain ⟨hL0, hL1⟩ := hL
    have hl : fdL s = true := by simp [fdL, hL0, hL1]
    have hLi : (s.size : Int) > 0 := by omega
    repeat' (first | refine gx ?_ | (refine br (fun q_ => ?_) (fun q_ => ?_) <;> try simp only [Int.toNat_natCast, Nat.mul_one, Nat.add_zero] at q_) | (refine brF (fun q_ => ?_) (fun q_ => ?_) <;> try simp only [Int.toNat_natCast, Nat.mul_one, Nat.add_zero] at q_))
    refine ⟨0, Nat, fun k => ⟨[(0, .v (.string s)), (2, .own 0 0), (4, .own 1 0), (6, .v (.int .i64 k))], [.cells 47 [.v (.int .i64 0), nilV, .v (.string ⟨#[]⟩)], .cells 47 [.v (.int .i64 0), nilV, .v (.string ⟨#[]⟩)]], []⟩, fun k => k ≤ s.size ∧ ∀ j, j < k → ¬ bAt s j = 62, fun k => s.size - k, fun _ => Nat.zero_le _, ⟨0, ⟨Nat.zero_le _, fun j hj => by omega⟩, StLe.ren [0, 1] tmS ⟨⟨rfl, EntL.refl _, rfl⟩, ⟨rfl, EntL.refl _, rfl⟩, trivial⟩ (by decide)⟩, ?_⟩
    rintro k ⟨hk, hd⟩
    by_cases hlt : k < s.size
    · by_cases h62 : bAt s k = 62
      · obtain ⟨hk1, hF, hN, hZ⟩ := fd_found hL1 hlt h62 hd
        have hNs : (bcut s 1 k).size ≤ s.size := by rw [bcut_size s hk]; omega
        have p1 : ctName.pre (bcut s 1 k) := (by show (bcut s 1 k).size ≤ _; omega)
        have hZs : (bcut s (k + 1) s.size).size ≤ s.size := by rw [bcut_size s (Nat.le_refl _)]; omega
        have p5 : ctPcs.pre (bcut s (k + 1) s.size) := (by show ByteArray.size _ ≤ _; omega)
        have hXs : (fdX (bcut s (k + 1) s.size)).size ≤ s.size := by rw [fdX, bcut_size _ (Nat.le_refl _)]; omega
        have p6 : ctPcs.pre (fdX (bcut s (k + 1) s.size)) := (by show ByteArray.size _ ≤ _; omega)
        have hcut : rdP s = rdX (bcut s (k + 1) s.size) := by rw [rdP, if_pos hl, hZ]
        have hCy : isNameB (bcut s 1 k) = true → fdC s = true := fun h => by rw [fdC, hF, hN, h]; rfl
        have hMy : isNameB (bcut s 1 k) = true → rdM s = ⟨0, pcsT (rdX (bcut s (k + 1) s.size)), bcut s 1 k⟩ := fun h => by rw [rdM, if_neg (fun hh => hh.2 (hCy h)), hcut, if_pos hl, hN]
        have fin : ∀ z, rdX (bcut s (k + 1) s.size) = z → isNameB (bcut s 1 k) = true → pcsE z = 0 → D.tu [mpA ⟨0, pcsT z, bcut s 1 k⟩, .v (.bool (@decide (fieldS ⟨0, pcsT z, bcut s 1 k⟩ = s) (baDec _ _)))] = ctRd.out s := fun z hz hn he => by
          subst hz
          exact rd_fin (fun h => h.2 (hCy hn)) (by rw [hcut]; exact he) (hMy hn)
        have finN : ∀ z, rdX (bcut s (k + 1) s.size) = z → isNameB (bcut s 1 k) = true → ¬ pcsE z = 0 → D.tu [mpA ⟨0, pcsT z, bcut s 1 k⟩, .v (.bool false)] = ctRd.out s := fun z hz hn he => by
          subst hz
          exact rd_out (rd_no fun h => he (by have := h.2.1; rw [hcut] at this; exact this)) (hMy hn)
        have x1 : (bcut s (k + 1) s.size).size > 0 → bAt (bcut s (k + 1) s.size) 0 = 32 → rdX (bcut s (k + 1) s.size) = fdX (bcut s (k + 1) s.size) := fun h1 h2 => if_pos (by simp [spH, h1, h2])
        have x2 : ¬ ((bcut s (k + 1) s.size).size > 0 ∧ bAt (bcut s (k + 1) s.size) 0 = 32) → rdX (bcut s (k + 1) s.size) = bcut s (k + 1) s.size := fun h => if_neg (by
          intro hh
          simp only [spH, Bool.and_eq_true, decide_eq_true_eq] at hh
          exact h hh)
        repeat' (first | refine gx ?_ | (refine br (fun q_ => ?_) (fun q_ => ?_) <;> try simp only [Int.toNat_natCast, Nat.mul_one, Nat.add_zero] at q_) | (refine brF (fun q_ => ?_) (fun q_ => ?_) <;> try simp only [Int.toNat_natCast, Nat.mul_one, Nat.add_zero] at q_))
        · exact EntR.of rfl (rd_out (m := ⟨0, [], ⟨#[]⟩⟩) (rd_no fun h => h.1 ⟨hl, by rw [fdC, hF, hN, show isNameB (bcut s 1 k) = false from q_]; decide⟩) (if_pos ⟨hl, by rw [fdC, hF, hN, show isNameB (bcut s 1 k) = false from q_]; decide⟩) ▸ Ent.tu2 (Ent.ag (EntL.cons (Ent.refl _) (EntL.cons Ent.nil (EntL.refl _)))) (Ent.refl _))
        · rename_i n1 n2
          have n2' : (bcut s (k + 1) s.size).size > 0 := by have n2 : ((bcut s (k + 1) s.size).size : Int) > 0 := n2; omega
          refine .inr ⟨.stage [0, 1, 2, 3, 4, 5, 6, 7, 8] (.alt 9 [6, 7, 8] (.done [10]) .nil), by decide +kernel, ?_⟩
          by_cases he : pcsE (fdX (bcut s (k + 1) s.size)) = 0
          · have hq : ctField.pre ⟨0, pcsT (fdX (bcut s (k + 1) s.size)), bcut s 1 k⟩ := rd_pre (by omega) (by omega) he
            refine xs1 ?_
            repeat' (first | refine gx ?_ | refine xp1 ?_ | refine xp0 ?_ | refine xc1 ?_ ?_ | refine xc0 ?_ | refine xs1 ?_ | refine xs2 ?_ | refine xs3 ?_ | refine xa1 ?_ | exact rfl)
            exact entR_eq (fin _ (x1 n2' q_) n1 he) rfl
          · refine xs1 ?_
            repeat' (first | refine gx ?_ | refine xp1 ?_ | refine xp0 ?_ | refine xc1 ?_ ?_ | refine xc0 ?_ | refine xs1 ?_ | refine xs2 ?_ | refine xs3 ?_ | refine xa1 ?_ | exact rfl)
            exact entR_eq (finN _ (x1 n2' q_) n1 he) rfl
        · rename_i n1 n2
          refine .inr ⟨.stage [0, 1, 2, 3, 4, 5, 6, 7, 8] (.alt 9 [6, 7, 8] (.done [10]) .nil), by decide +kernel, ?_⟩
          by_cases he : pcsE (bcut s (k + 1) s.size) = 0
          · have hq : ctField.pre ⟨0, pcsT (bcut s (k + 1) s.size), bcut s 1 k⟩ := rd_pre (by omega) (by omega) he
            refine xs1 ?_
            repeat' (first | refine gx ?_ | refine xp1 ?_ | refine xp0 ?_ | refine xc1 ?_ ?_ | refine xc0 ?_ | refine xs1 ?_ | refine xs2 ?_ | refine xs3 ?_ | refine xa1 ?_ | exact rfl)
            exact entR_eq (fin _ (x2 fun h => q_ h.2) n1 he) rfl
          · refine xs1 ?_
            repeat' (first | refine gx ?_ | refine xp1 ?_ | refine xp0 ?_ | refine xc1 ?_ ?_ | refine xc0 ?_ | refine xs1 ?_ | refine xs2 ?_ | refine xs3 ?_ | refine xa1 ?_ | exact rfl)
            exact entR_eq (finN _ (x2 fun h => q_ h.2) n1 he) rfl
        · rename_i n1
          have n2' : ¬ (bcut s (k + 1) s.size).size > 0 := by have n2 : ¬ ((bcut s (k + 1) s.size).size : Int) > 0 := q_; omega
          refine .inr ⟨.stage [0, 1, 2, 3, 4, 5, 6, 7, 8] (.alt 9 [6, 7, 8] (.done [10]) .nil), by decide +kernel, ?_⟩
          by_cases he : pcsE (bcut s (k + 1) s.size) = 0
          · have hq : ctField.pre ⟨0, pcsT (bcut s (k + 1) s.size), bcut s 1 k⟩ := rd_pre (by omega) (by omega) he
            refine xs1 ?_
            repeat' (first | refine gx ?_ | refine xp1 ?_ | refine xp0 ?_ | refine xc1 ?_ ?_ | refine xc0 ?_ | refine xs1 ?_ | refine xs2 ?_ | refine xs3 ?_ | refine xa1 ?_ | exact rfl)
            exact entR_eq (fin _ (x2 fun h => n2' h.1) n1 he) rfl
          · refine xs1 ?_
            repeat' (first | refine gx ?_ | refine xp1 ?_ | refine xp0 ?_ | refine xc1 ?_ ?_ | refine xc0 ?_ | refine xs1 ?_ | refine xs2 ?_ | refine xs3 ?_ | refine xa1 ?_ | exact rfl)
            exact entR_eq (finN _ (x2 fun h => n2' h.1) n1 he) rfl
      · repeat' (first | refine gx ?_ | (refine br (fun q_ => ?_) (fun q_ => ?_) <;> try simp only [Int.toNat_natCast, Nat.mul_one, Nat.add_zero] at q_) | (refine brF (fun q_ => ?_) (fun q_ => ?_) <;> try simp only [Int.toNat_natCast, Nat.mul_one, Nat.add_zero] at q_))
        exact ⟨k + 1, ⟨by omega, next_of hd h62⟩, (by show _ - (k + 1) < _ - k; omega), StLe.ren [0, 1] tmS ⟨⟨rfl, EntL.refl _, rfl⟩, ⟨rfl, EntL.refl _, rfl⟩, trivial⟩ (by decide)⟩
    · have hF := fd_none hL0 (fun j hj => hd j (by omega))
      have hC : ¬ fdC s = true := by rw [fdC, hF]; simp
      repeat' (first | refine gx ?_ | (refine br (fun q_ => ?_) (fun q_ => ?_) <;> try simp only [Int.toNat_natCast, Nat.mul_one, Nat.add_zero] at q_) | (refine brF (fun q_ => ?_) (fun q_ => ?_) <;> try simp only [Int.toNat_natCast, Nat.mul_one, Nat.add_zero] at q_))
      exact EntR.of rfl (rd_out (m := ⟨0, [], ⟨#[]⟩⟩) (rd_no fun h => h.1 ⟨hl, hC⟩) (if_pos ⟨hl, hC⟩) ▸ Ent.tu2 (Ent.ag (EntL.cons (Ent.refl _) (EntL.cons Ent.nil (EntL.refl _)))) (Ent.refl _))
  · have hl : ¬ fdL s = true := fun h => by simp only [fdL, Bool.and_eq_true, decide_eq_true_eq] at h; exact hL h
    have hP : rdP s = s := if_neg hl
    have hM : rdM s = ⟨0, pcsT s, ⟨#[]⟩⟩ := by rw [rdM, if_neg (fun h => hl h.1), hP, if_neg hl]
    have fin : pcsE s = 0 → D.tu [mpA ⟨0, pcsT s, ⟨#[]⟩⟩, .v (.bool (@decide (fieldS ⟨0, pcsT s, ⟨#[]⟩⟩ = s) (baDec _ _)))] = ctRd.out s := fun he => rd_fin (fun h => hl h.1) (by rw [hP]; exact he) hM
    have finN : ¬ pcsE s = 0 → D.tu [mpA ⟨0, pcsT s, ⟨#[]⟩⟩, .v (.bool false)] = ctRd.out s := fun he => rd_out (rd_no fun h => he (by have := h.2.1; rw [hP] at this; exact this)) hM
    repeat' (first | refine gx ?_ | (refine br (fun q_ => ?_) (fun q_ => ?_) <;> try simp only [Int.toNat_natCast, Nat.mul_one, Nat.add_zero] at q_) | (refine brF (fun q_ => ?_) (fun q_ => ?_) <;> try simp only [Int.toNat_natCast, Nat.mul_one, Nat.add_zero] at q_))
    · exact absurd ⟨by omega, q_⟩ hL
    all_goals
      refine .inr ⟨.stage [0, 1, 2, 3, 4, 5, 6, 7, 8] (.alt 9 [6, 7, 8] (.done [10]) .nil), by decide +kernel, ?_⟩
      by_cases he : pcsE s = 0
      · have hq : ctField.pre ⟨0, pcsT s, ⟨#[]⟩⟩ := rd_pre (by omega) (by decide) he
        refine xs1 ?_
        repeat' (first | refine gx ?_ | refine xp1 ?_ | refine xp0 ?_ | refine xc1 ?_ ?_ | refine xc0 ?_ | refine xs1 ?_ | refine xs2 ?_ | refine xs3 ?_ | refine xa1 ?_ | exact rfl)
        exact entR_eq (fin he) rfl
      · refine xs1 ?_
        repeat' (first | refine gx ?_ | refine xp1 ?_ | refine xp0 ?_ | refine xc1 ?_ ?_ | refine xc0 ?_ | refine xs1 ?_ | refine xs2 ?_ | refine xs3 ?_ | refine xa1 ?_ | exact rfl)
        exact entR_eq (finN he) rfl
#print axioms rRead_ok
end Go.Proofs
