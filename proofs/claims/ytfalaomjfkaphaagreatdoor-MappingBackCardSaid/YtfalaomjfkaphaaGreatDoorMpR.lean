import Derived.Test.YtfalaomjfkaphaaGreatDoorMbP
import Derived.Test.YtfalaomjfkaphaaGreatDoorLpMi
set_option linter.unusedVariables false
set_option linter.unusedSimpArgs false
namespace Go.Proofs
open Go Go.Sx
variable {mx : Int} {pb : Bool}

/-! mapping.rows -/
noncomputable def rwD (x : Ln) : Nat → D
  | 0 => .v (.int .i64 x.num)
  | 1 => .v (.int .i64 x.lo)
  | 2 => .v (.int .i64 x.hi)
  | 3 => .v (.string (fdG (fld x)))
  | 4 => slD 1 intD (fdT (fld x))
  | _ => .junk
noncomputable def ctRws : Ct := { ι := ByteArray, inp := fun s => [.v (.string s)], out := fun s => .tu [slD 5 rwD (mrO s).1, faultA (mrO s).2.1 (mrO s).2.2], pre := fun _ => True }
theorem rws_ret {s : ByteArray} {e a b : Int} (h : mrO s = ([], e, a)) (hb : b = a) : EntR (.tu [nilV, .ag [.v (.int .i64 e), .v (.int .i64 b)]]) (ctRws.out s) := by
  subst hb
  refine EntR.of rfl ?_
  show Ent _ (D.tu [slD 5 rwD (mrO s).1, faultA (mrO s).2.1 (mrO s).2.2])
  rw [h]
  exact Ent.tu2 Ent.nil (Ent.refl _)
theorem one_of' {x : Ln} (h : bdF x = false) : x.fields.length = 1 ∧ fdB (fld x) = true := by
  simp only [bdF, Bool.or_eq_false_iff, Bool.not_eq_false', one1, beq_iff_eq] at h
  exact h
theorem bd_1 {x : Ln} (h : ¬ x.fields.length = 1) : bdF x = true := by
  simp [bdF, one1, h]
theorem bd_2 {x : Ln} (h : fdB (fld x) = false) : bdF x = true := by
  simp [bdF, h]
theorem bg_1 {x : Ln} (h : 64 < (fdT (fld x)).length) : bgR x = true := by simp [bgR, h]
theorem bg_2 {x : Ln} (h : 1024 < x.hi - x.lo + 1) : bgR x = true := by simp [bgR, h]
theorem bg_no {x : Ln} (h : ¬ bgR x = true) : (fdT (fld x)).length ≤ 64 ∧ x.hi - x.lo + 1 ≤ 1024 := by
  simp [bgR] at h
  omega
attribute [local irreducible] exPs exCk exSch exAlt
noncomputable def rwsOw (s : ByteArray) : List Own := [z31, .cells 27 [.v (.int .i64 (linesP s).2.1), .v (.int .i64 (linesP s).2.2)]]
noncomputable def Γrws (mx : Int) (pb : Bool) : Ctx := fun f => match f with
  | 33 => some (.pure ctLpT)
  | 34 => some (.pure ctFd)
  | _ => none
theorem Γrws_ok : CtxOk Tryz.prog (GlT mx pb) (Γrws mx pb) := by
  intro f h hh
  simp only [Γrws] at hh
  split at hh <;> simp at hh <;> subst hh
  · exact pLinesT_ok
  · exact mField_ok
set_option maxHeartbeats 8000000 in
theorem mRows_ok : Sound Tryz.prog (GlT mx pb) 16 ctRws := by
  refine sound_by (cc := true) Γrws_ok Tryz.T_ok Tryz.mixed Tryz.func16 rfl (by kernel_rfl) (fun _ => rfl) (fun _ _ => by show 1 ≤ 88; decide) ?_
  intro (s : ByteArray) _
  have p1 : ctLpT.pre s := trivial
  by_cases h0 : (linesP s).2.1 = 0
  · obtain ⟨g1, g2, g3, g4, g5, g6⟩ := linesP_ok s
    have g7 := linesP_few s
    repeat' (first | refine gx ?_ | (refine br (fun q_ => ?_) (fun q_ => ?_) <;> try simp only [Int.toNat_natCast, Nat.mul_one, Nat.add_zero] at q_) | (refine brF (fun q_ => ?_) (fun q_ => ?_) <;> try simp only [Int.toNat_natCast, Nat.mul_one, Nat.add_zero] at q_))
    refine ⟨0, Nat, fun k => ⟨[(3, .own 0 0), (6, .row 2), (23, lnsD (linesP s).1), (24, .v (.int .i64 (linesP s).1.length)), (25, .v (.int .i64 k))], rwsOw s ++ [rowL 54 5 rwD ((linesP s).1.take k)], []⟩, fun k => k ≤ (linesP s).1.length ∧ ∀ j, j < k → ¬ bdF ((linesP s).1.getD j default) = true, fun k => (linesP s).1.length - k, fun _ => Nat.zero_le _, ⟨0, ⟨Nat.zero_le _, fun j hj => by omega⟩, StLe.trans (StLe.nilRow (t := 6) 54 5 (fun _ _ => .junk) rfl) (StLe.ren [0, 1, 2] tmS ⟨⟨rfl, EntL.refl _, rfl⟩, ⟨rfl, EntL.refl _, rfl⟩, own_nil, trivial⟩ (by decide))⟩, ?_⟩
    rintro k ⟨hk, hd⟩
    unfold rwsOw
    have hal : ((linesP s).1.take k).length = k := by rw [List.length_take]; omega
    by_cases hlt : k < (linesP s).1.length
    · have hx := mem_getD hlt
      have hnum := g1 _ hx
      have hfs := fld_size hx
      have p2 : ctFd.pre (fld ((linesP s).1.getD k default)) := (by show ByteArray.size _ ≤ _; omega)
      have p3 : ctFd.pre (((linesP s).1.getD k default).fields.getD 0 default) := p2
      by_cases h1 : ((linesP s).1.getD k default).fields.length = 1
      · rcases Bool.eq_false_or_eq_true (fdB (fld ((linesP s).1.getD k default))) with h2 | h2
        · have hnb : ¬ bdF ((linesP s).1.getD k default) = true := fun h => by
            simp only [bdF, one1, h1, h2] at h
            exact absurd h (by decide)
          repeat' (first | refine gx ?_ | (refine br (fun q_ => ?_) (fun q_ => ?_) <;> try simp only [Int.toNat_natCast, Nat.mul_one, Nat.add_zero] at q_) | (refine brF (fun q_ => ?_) (fun q_ => ?_) <;> try simp only [Int.toNat_natCast, Nat.mul_one, Nat.add_zero] at q_))
          all_goals try (exfalso; omega)
          repeat' (first | refine gx ?_ | (refine br (fun q_ => ?_) (fun q_ => ?_) <;> try simp only [Int.toNat_natCast, Nat.mul_one, Nat.add_zero] at q_) | (refine brF (fun q_ => ?_) (fun q_ => ?_) <;> try simp only [Int.toNat_natCast, Nat.mul_one, Nat.add_zero] at q_))
          exact ⟨k + 1, ⟨hlt, next_of hd hnb⟩, (by show _ - (k + 1) < _ - k; omega), StLe.ren [0, 1, 4] tmS ⟨⟨rfl, EntL.refl _, rfl⟩, ⟨rfl, EntL.refl _, rfl⟩, by rw [take_at hlt]; exact own_app (lt5 (Ent.refl _) (Ent.refl _) (Ent.refl _) (Ent.refl _) (Ent.refl _)), trivial⟩ (by decide)⟩
        · have hr := mr_bad h0 (find_at hlt hd (bd_2 h2))
          repeat' (first | refine gx ?_ | (refine br (fun q_ => ?_) (fun q_ => ?_) <;> try simp only [Int.toNat_natCast, Nat.mul_one, Nat.add_zero] at q_) | (refine brF (fun q_ => ?_) (fun q_ => ?_) <;> try simp only [Int.toNat_natCast, Nat.mul_one, Nat.add_zero] at q_))
          all_goals try (exfalso; omega)
          refine .inr ⟨.stage [0, 1, 2] (.alt 3 [0, 1, 2] (.stage [] (.alt 4 [] (.done []) .nil)) .nil), by decide +kernel, ?_⟩
          refine xs1 ?_
          repeat' (first | refine gx ?_ | refine xp1 ?_ | refine xp0 ?_ | refine xc1 ?_ ?_ | refine xc0 ?_ | refine xs1 ?_ | refine xs2 ?_ | refine xs3 ?_ | refine xa1 ?_ | exact rfl)
          exact rws_ret hr rfl
      · have hr := mr_bad h0 (find_at hlt hd (bd_1 h1))
        repeat' (first | refine gx ?_ | (refine br (fun q_ => ?_) (fun q_ => ?_) <;> try simp only [Int.toNat_natCast, Nat.mul_one, Nat.add_zero] at q_) | (refine brF (fun q_ => ?_) (fun q_ => ?_) <;> try simp only [Int.toNat_natCast, Nat.mul_one, Nat.add_zero] at q_))
        all_goals try (exfalso; omega)
        refine .inr ⟨.stage [0, 1, 2] (.alt 3 [0, 1, 2] (.stage [] (.alt 4 [] (.done []) .nil)) .nil), by decide +kernel, ?_⟩
        refine xs1 ?_
        repeat' (first | refine gx ?_ | refine xp1 ?_ | refine xp0 ?_ | refine xc1 ?_ ?_ | refine xc0 ?_ | refine xs1 ?_ | refine xs2 ?_ | refine xs3 ?_ | refine xa1 ?_ | exact rfl)
        exact rws_ret hr rfl
    · have hb : (linesP s).1.find? bdF = none := find_no (fun j hj => hd j (by omega))
      have hta : (linesP s).1.take k = (linesP s).1 := List.take_of_length_le (by omega)
      repeat' (first | refine gx ?_ | (refine br (fun q_ => ?_) (fun q_ => ?_) <;> try simp only [Int.toNat_natCast, Nat.mul_one, Nat.add_zero] at q_) | (refine brF (fun q_ => ?_) (fun q_ => ?_) <;> try simp only [Int.toNat_natCast, Nat.mul_one, Nat.add_zero] at q_))
      rw [hta]
      refine ⟨0, Nat, fun k => ⟨[(3, .own 0 0), (6, .row 2), (63, .row 2), (64, .v (.int .i64 (linesP s).1.length)), (65, .v (.int .i64 k))], rwsOw s ++ [rowL 54 5 rwD (linesP s).1], []⟩, fun k => k ≤ (linesP s).1.length ∧ ∀ j, j < k → ¬ bgR ((linesP s).1.getD j default) = true, fun k => (linesP s).1.length - k, fun _ => Nat.zero_le _, ⟨0, ⟨Nat.zero_le _, fun j hj => by omega⟩, StLe.ren [0, 1, 2] tmS ⟨⟨rfl, EntL.refl _, rfl⟩, ⟨rfl, EntL.refl _, rfl⟩, own_refl, trivial⟩ (by decide)⟩, ?_⟩
      clear hd hk hlt hal hta
      clear k
      rintro k ⟨hk, hd⟩
      unfold rwsOw
      by_cases hlt : k < (linesP s).1.length
      · have hx := mem_getD hlt
        obtain ⟨⟨v1, v2, v3⟩, n1, n2⟩ := g1 _ hx
        rw [validB_iff] at v1 v2
        by_cases h1 : 64 < (fdT (fld ((linesP s).1.getD k default))).length
        · have hr := mr_big h0 hb (find_at hlt hd (bg_1 h1))
          repeat' (first | refine gx ?_ | (refine br (fun q_ => ?_) (fun q_ => ?_) <;> try simp only [Int.toNat_natCast, Nat.mul_one, Nat.add_zero] at q_) | (refine brF (fun q_ => ?_) (fun q_ => ?_) <;> try simp only [Int.toNat_natCast, Nat.mul_one, Nat.add_zero] at q_))
          all_goals try (exfalso; omega)
          refine .inr ⟨.stage [0, 1, 2] (.alt 3 [0, 1, 2] (.stage [] (.alt 4 [] (.done []) .nil)) .nil), by decide +kernel, ?_⟩
          refine xs1 ?_
          repeat' (first | refine gx ?_ | refine xp1 ?_ | refine xp0 ?_ | refine xc1 ?_ ?_ | refine xc0 ?_ | refine xs1 ?_ | refine xs2 ?_ | refine xs3 ?_ | refine xa1 ?_ | exact rfl)
          exact rws_ret hr rfl
        · by_cases h2 : 1024 < ((linesP s).1.getD k default).hi - ((linesP s).1.getD k default).lo + 1
          · have hr := mr_big h0 hb (find_at hlt hd (bg_2 h2))
            repeat' (first | refine gx ?_ | (refine br (fun q_ => ?_) (fun q_ => ?_) <;> try simp only [Int.toNat_natCast, Nat.mul_one, Nat.add_zero] at q_) | (refine brF (fun q_ => ?_) (fun q_ => ?_) <;> try simp only [Int.toNat_natCast, Nat.mul_one, Nat.add_zero] at q_))
            all_goals try (exfalso; omega)
            refine .inr ⟨.stage [0, 1, 2] (.alt 3 [0, 1, 2] (.stage [] (.alt 4 [] (.done []) .nil)) .nil), by decide +kernel, ?_⟩
            refine xs1 ?_
            repeat' (first | refine gx ?_ | refine xp1 ?_ | refine xp0 ?_ | refine xc1 ?_ ?_ | refine xc0 ?_ | refine xs1 ?_ | refine xs2 ?_ | refine xs3 ?_ | refine xa1 ?_ | exact rfl)
            exact rws_ret hr rfl
          · have hnb : ¬ bgR ((linesP s).1.getD k default) = true := fun h => by
              simp only [bgR, decide_eq_false h1, decide_eq_false h2] at h
              exact absurd h (by decide)
            repeat' (first | refine gx ?_ | (refine br (fun q_ => ?_) (fun q_ => ?_) <;> try simp only [Int.toNat_natCast, Nat.mul_one, Nat.add_zero] at q_) | (refine brF (fun q_ => ?_) (fun q_ => ?_) <;> try simp only [Int.toNat_natCast, Nat.mul_one, Nat.add_zero] at q_))
            all_goals try (exfalso; omega)
            exact ⟨k + 1, ⟨hlt, next_of hd hnb⟩, (by show _ - (k + 1) < _ - k; omega), StLe.ren [0, 1, 2] tmS ⟨⟨rfl, EntL.refl _, rfl⟩, ⟨rfl, EntL.refl _, rfl⟩, own_refl, trivial⟩ (by decide)⟩
      · have hg : (linesP s).1.find? bgR = none := find_no (fun j hj => hd j (by omega))
        have hr := mr_ok h0 hb hg
        repeat' (first | refine gx ?_ | (refine br (fun q_ => ?_) (fun q_ => ?_) <;> try simp only [Int.toNat_natCast, Nat.mul_one, Nat.add_zero] at q_) | (refine brF (fun q_ => ?_) (fun q_ => ?_) <;> try simp only [Int.toNat_natCast, Nat.mul_one, Nat.add_zero] at q_))
        refine EntR.of rfl ?_
        show Ent _ (D.tu [slD 5 rwD (mrO s).1, faultA (mrO s).2.1 (mrO s).2.2])
        rw [hr]
        exact Ent.refl _
  · have hr := mr_lines h0
    repeat' (first | refine gx ?_ | (refine br (fun q_ => ?_) (fun q_ => ?_) <;> try simp only [Int.toNat_natCast, Nat.mul_one, Nat.add_zero] at q_) | (refine brF (fun q_ => ?_) (fun q_ => ?_) <;> try simp only [Int.toNat_natCast, Nat.mul_one, Nat.add_zero] at q_))
    refine .inr ⟨.stage [0] (.alt 1 [0] (.stage [] (.alt 2 [] (.done []) .nil)) .nil), by decide +kernel, ?_⟩
    refine xs1 ?_
    repeat' (first | refine gx ?_ | refine xp1 ?_ | refine xp0 ?_ | refine xc1 ?_ ?_ | refine xc0 ?_ | refine xs1 ?_ | refine xs2 ?_ | refine xs3 ?_ | refine xa1 ?_ | exact rfl)
    exact rws_ret hr rfl
end Go.Proofs
