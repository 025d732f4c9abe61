import Derived.Test.YtjfcfaiodbmodaaGreatDoorLVPz
set_option linter.unusedVariables false
set_option linter.unusedSimpArgs false
namespace Go.Proofs
open Go Go.Sx
variable {mx : Int} {pb : Bool}

/-! the law of chapter 17: Points -/
def ctLaw3 : Ct := { ι := Db × Db × Int, inp := fun x => [dbA x.1, dbA x.2.1, .v (.int .i64 x.2.2)], out := fun _ => .v (.bool true), pre := fun x => fitDb x.1 ∧ fitDb x.2.1 }
noncomputable def Γlp : Ctx := fun f => match f with
  | 11 => some (.pure ctSml2)
  | 12 => some (.pure ctAlive)
  | 13 => some (.pure ctVCmp)
  | 19 => some (.pure ctFiles)
  | 20 => some (.pure ctFndC)
  | 22 => some (.pure ctDbPr)
  | 24 => some (.pure ctDbSt)
  | 21 => some (.pure ctPName)
  | 23 => some (.pure ctHas)
  | _ => none
theorem Γlp_ok {mx : Int} : CtxOk Tryz.prog (GlT mx true) Γlp := by
  intro f h hh
  simp only [Γlp] at hh
  split at hh <;> simp at hh <;> subst hh
  · exact rSml2_ok
  · exact alive_ok mx
  · exact pCompare_ok
  · exact pFiles_ok
  · exact fndC_ok
  · exact pDbPr_ok
  · exact pDbSt_ok
  · exact pNameV_ok
  · exact cpHas_ok
theorem yes_inj {x y : Bool} (h : yesB x = yesB y) : x = y := by
  cases x <;> cases y <;> first | rfl | (exact absurd h (by decide))
theorem yes_no {s : ByteArray} {b : Bool} (h : s = yesB b) (q : ((@decide (s = ⟨#[121, 101, 115]⟩) (baDec _ _)) == b) = false) : False := by
  subst h
  cases b <;> (revert q; decide +kernel)
theorem hb_eq {x y : Bool} (h : x = y) (q : (((0 : Int) == 1) == !(x == y)) = false) : False := by
  subst h; cases x <;> simp at q
theorem hb_no {x y : Bool} (h : ¬ x = y) (q : (((1 : Int) == 1) == !(x == y)) = false) : False := by
  cases x <;> cases y <;> simp_all
def sP1 (a b : Db) (c : Int) (L : List Ch) (k : Nat) : St := ⟨[(2, .v (.int .i64 c)), (3, .own 0 0), (4, .own 1 0), (7, chsD L), (9, slD 1 strD filesL), (10, .v (.int .i64 k))], [.cells 39 (dbL a), .cells 39 (dbL b)], []⟩
def sP2 (a b : Db) (c : Int) (L : List Ch) (k : Nat) : St := ⟨[(2, .v (.int .i64 c)), (3, .own 0 0), (4, .own 1 0), (7, chsD L), (15, slD 1 strD setsL), (16, .v (.int .i64 k))], [.cells 39 (dbL a), .cells 39 (dbL b)], []⟩
set_option maxRecDepth 100000 in
set_option maxHeartbeats 16000000 in
theorem lawVP_ok {mx : Int} : Sound Tryz.prog (GlT mx true) 7 ctLaw3 := by
  refine sound_by (cc := true) Γlp_ok Tryz.T_ok Tryz.mixed Tryz.func7 rfl (by kernel_rfl) (fun _ => rfl) (fun _ _ => by show 3 ≤ 158; decide) ?_
  rintro ⟨(a : Db), (b : Db), (c : Int)⟩ ⟨(ha : fitDb a), (hb : fitDb b)⟩
  have p0 : ctSml2.pre (a, b) := ⟨ha, hb⟩
  rcases Bool.eq_false_or_eq_true (smDb a && smDb b) with h | h
  · have hs := Bool.and_eq_true_iff.1 h
    have hA := smDb_iff.1 hs.1
    have hB := smDb_iff.1 hs.2
    have p1 : ctVCmp.pre (a, b) := ⟨hA, hB⟩
    by_cases hc0 : c < 0
    · repeat' (first | refine gl ?_ | (refine br (fun q_ => ?_) (fun q_ => ?_) <;> try simp only [Int.toNat_natCast, Nat.mul_one, Nat.add_zero] at q_) | (refine brF (fun q_ => ?_) (fun q_ => ?_) <;> try simp only [Int.toNat_natCast, Nat.mul_one, Nat.add_zero] at q_))
      exact EntR.bool rfl
    by_cases hc1 : 1114111 < c
    · repeat' (first | refine gl ?_ | (refine br (fun q_ => ?_) (fun q_ => ?_) <;> try simp only [Int.toNat_natCast, Nat.mul_one, Nat.add_zero] at q_) | (refine brF (fun q_ => ?_) (fun q_ => ?_) <;> try simp only [Int.toNat_natCast, Nat.mul_one, Nat.add_zero] at q_))
      exact EntR.bool rfl
    by_cases he : cmpE a b = 0
    · have hl := cmpL_len a b
      have hfl := filesL_len
      have hf : ∀ {k : Nat}, k < 20 → _ := fun {k} hk => fnd_cmp he hk (c := c) (by omega) (by omega)
      repeat' (first | refine gl ?_ | (refine br (fun q_ => ?_) (fun q_ => ?_) <;> try simp only [Int.toNat_natCast, Nat.mul_one, Nat.add_zero] at q_) | (refine brF (fun q_ => ?_) (fun q_ => ?_) <;> try simp only [Int.toNat_natCast, Nat.mul_one, Nat.add_zero] at q_))
      refine ⟨0, Nat, sP1 a b c (cmpL a b), fun k => k ≤ 7, fun k => 7 - k, fun _ => Nat.zero_le _, ⟨0, Nat.zero_le _, StLe.ren [0, 1] tmS ⟨⟨rfl, EntL.refl _, rfl⟩, ⟨rfl, EntL.refl _, rfl⟩, trivial⟩ (by decide)⟩, ?_⟩
      intro k (hk : k ≤ 7)
      generalize cmpL a b = L at hl hf ⊢
      by_cases hlt : k < 7
      · have hk20 : k < 20 := by omega
        have ek : ((k : Int) + 1).toNat = k + 1 := by omega
        have sa := hA.prs k hlt
        have sb := hB.prs k hlt
        have pa : ctDbPr.pre (a, k) := ⟨hlt, Nat.le_trans sa.1 (by decide), Nat.le_trans sa.2 (by decide)⟩
        have pb : ctDbPr.pre (b, k) := ⟨hlt, Nat.le_trans sb.1 (by decide), Nat.le_trans sb.2 (by decide)⟩
        have na : ctPName.pre (a.prs k, c) := Nat.le_trans sa.2 (by decide)
        have nb : ctPName.pre (b.prs k, c) := Nat.le_trans sb.2 (by decide)
        repeat' (first | refine gl ?_ | (refine br (fun q_ => ?_) (fun q_ => ?_) <;> try simp only [Int.toNat_natCast, Nat.mul_one, Nat.add_zero] at q_) | (refine brF (fun q_ => ?_) (fun q_ => ?_) <;> try simp only [Int.toNat_natCast, Nat.mul_one, Nat.add_zero] at q_))
        refine ⟨(L, nmK k, c), (by rw [ek]; exact EntL.refl _), (by show L.length ≤ 1000000000; omega), ?_⟩
        rcases hf hk20 with ⟨hv, hx⟩ | ⟨hv, x, hx, hx1, hx2⟩
        · rw [part_pr hlt, part_pr hlt] at hv
          have hv : nameV (a.prs k) c = nameV (b.prs k) c := hv
          rw [show ctFndC.out (L, nmK k, c) = .tu [chA default, .v (.int .i64 0)] by show D.tu [chA (lastC (fndC (nmK k) c L)), _] = _; rw [hx]; rfl]
          repeat' (first | refine gl ?_ | (refine br (fun q_ => ?_) (fun q_ => ?_) <;> try simp only [Int.toNat_natCast, Nat.mul_one, Nat.add_zero] at q_) | (refine brF (fun q_ => ?_) (fun q_ => ?_) <;> try simp only [Int.toNat_natCast, Nat.mul_one, Nat.add_zero] at q_))
          refine ⟨(a, k), EntL.refl _, fun _ => pa, ?_⟩
          repeat' (first | refine gl ?_ | (refine br (fun q_ => ?_) (fun q_ => ?_) <;> try simp only [Int.toNat_natCast, Nat.mul_one, Nat.add_zero] at q_) | (refine brF (fun q_ => ?_) (fun q_ => ?_) <;> try simp only [Int.toNat_natCast, Nat.mul_one, Nat.add_zero] at q_))
          refine ⟨(a.prs k, c), EntL.refl _, fun _ => na, ?_⟩
          repeat' (first | refine gl ?_ | (refine br (fun q_ => ?_) (fun q_ => ?_) <;> try simp only [Int.toNat_natCast, Nat.mul_one, Nat.add_zero] at q_) | (refine brF (fun q_ => ?_) (fun q_ => ?_) <;> try simp only [Int.toNat_natCast, Nat.mul_one, Nat.add_zero] at q_))
          · exact ⟨k + 1, (by show k + 1 ≤ 7; omega), (by show 7 - (k + 1) < 7 - k; omega), StLe.ren [0, 1] tmS ⟨⟨rfl, EntL.refl _, rfl⟩, ⟨rfl, EntL.refl _, rfl⟩, trivial⟩ (by decide)⟩
          · exfalso
            simp [hv] at q_
        · rw [part_pr hlt, part_pr hlt] at hv
          have hv : ¬ nameV (a.prs k) c = nameV (b.prs k) c := hv
          rw [part_pr hlt] at hx1 hx2
          have hx1 : x.old = nameV (a.prs k) c := hx1
          have hx2 : x.new = nameV (b.prs k) c := hx2
          rw [show ctFndC.out (L, nmK k, c) = .tu [chA x, .v (.int .i64 1)] by show D.tu [chA (lastC (fndC (nmK k) c L)), _] = _; rw [hx]; rfl]
          repeat' (first | refine gl ?_ | (refine br (fun q_ => ?_) (fun q_ => ?_) <;> try simp only [Int.toNat_natCast, Nat.mul_one, Nat.add_zero] at q_) | (refine brF (fun q_ => ?_) (fun q_ => ?_) <;> try simp only [Int.toNat_natCast, Nat.mul_one, Nat.add_zero] at q_))
          refine ⟨(a, k), EntL.refl _, fun _ => pa, ?_⟩
          repeat' (first | refine gl ?_ | (refine br (fun q_ => ?_) (fun q_ => ?_) <;> try simp only [Int.toNat_natCast, Nat.mul_one, Nat.add_zero] at q_) | (refine brF (fun q_ => ?_) (fun q_ => ?_) <;> try simp only [Int.toNat_natCast, Nat.mul_one, Nat.add_zero] at q_))
          refine ⟨(a.prs k, c), EntL.refl _, fun _ => na, ?_⟩
          repeat' (first | refine gl ?_ | (refine br (fun q_ => ?_) (fun q_ => ?_) <;> try simp only [Int.toNat_natCast, Nat.mul_one, Nat.add_zero] at q_) | (refine brF (fun q_ => ?_) (fun q_ => ?_) <;> try simp only [Int.toNat_natCast, Nat.mul_one, Nat.add_zero] at q_))
          · exact ⟨k + 1, (by show k + 1 ≤ 7; omega), (by show 7 - (k + 1) < 7 - k; omega), StLe.ren [0, 1] tmS ⟨⟨rfl, EntL.refl _, rfl⟩, ⟨rfl, EntL.refl _, rfl⟩, trivial⟩ (by decide)⟩
          · exfalso
            simp [hv] at q_
      · repeat' (first | refine gl ?_ | (refine br (fun q_ => ?_) (fun q_ => ?_) <;> try simp only [Int.toNat_natCast, Nat.mul_one, Nat.add_zero] at q_) | (refine brF (fun q_ => ?_) (fun q_ => ?_) <;> try simp only [Int.toNat_natCast, Nat.mul_one, Nat.add_zero] at q_))
        refine ⟨0, Nat, sP2 a b c L, fun k => k ≤ 6, fun k => 6 - k, fun _ => Nat.zero_le _, ⟨0, Nat.zero_le _, StLe.ren [0, 1] ⟨Ent.refl _, rfl, Ent.refl _, rfl, Ent.refl _, rfl, Ent.refl _, rfl, ent_lit rfl rfl, rfl, Ent.refl _, rfl, trivial⟩ ⟨⟨rfl, EntL.refl _, rfl⟩, ⟨rfl, EntL.refl _, rfl⟩, trivial⟩ (by decide)⟩, ?_⟩
        intro k (hk : k ≤ 6)
        have hsl : setsL.length = 6 := rfl
        by_cases hlt : k < 6
        · have hk20 := setK_lt k
          have sa := hA.sts k hlt
          have sb := hB.sts k hlt
          have pa : ctDbSt.pre (a, k) := ⟨hlt, Nat.le_trans sa (by decide)⟩
          have pb : ctDbSt.pre (b, k) := ⟨hlt, Nat.le_trans sb (by decide)⟩
          have na : ctHas.pre (a.sts k, c) := Nat.le_trans sa (by decide)
          have nb : ctHas.pre (b.sts k, c) := Nat.le_trans sb (by decide)
          repeat' (first | refine gl ?_ | (refine br (fun q_ => ?_) (fun q_ => ?_) <;> try simp only [Int.toNat_natCast, Nat.mul_one, Nat.add_zero] at q_) | (refine brF (fun q_ => ?_) (fun q_ => ?_) <;> try simp only [Int.toNat_natCast, Nat.mul_one, Nat.add_zero] at q_))
          refine ⟨(L, nmK (setK k), c), (by rw [← sets_nm hlt]; exact EntL.refl _), (by show L.length ≤ 1000000000; omega), ?_⟩
          rcases hf hk20 with ⟨hv, hx⟩ | ⟨hv, x, hx, hx1, hx2⟩
          · rw [part_st hlt, part_st hlt] at hv
            have hv : yesB (hasB (a.sts k) c) = yesB (hasB (b.sts k) c) := hv
            have hv : hasB (a.sts k) c = hasB (b.sts k) c := yes_inj hv
            rw [show ctFndC.out (L, nmK (setK k), c) = .tu [chA default, .v (.int .i64 0)] by show D.tu [chA (lastC (fndC (nmK (setK k)) c L)), _] = _; rw [hx]; rfl]
            repeat' (first | refine gl ?_ | (refine br (fun q_ => ?_) (fun q_ => ?_) <;> try simp only [Int.toNat_natCast, Nat.mul_one, Nat.add_zero] at q_) | (refine brF (fun q_ => ?_) (fun q_ => ?_) <;> try simp only [Int.toNat_natCast, Nat.mul_one, Nat.add_zero] at q_))
            refine ⟨(a, k), EntL.refl _, fun _ => pa, ?_⟩
            repeat' (first | refine gl ?_ | (refine br (fun q_ => ?_) (fun q_ => ?_) <;> try simp only [Int.toNat_natCast, Nat.mul_one, Nat.add_zero] at q_) | (refine brF (fun q_ => ?_) (fun q_ => ?_) <;> try simp only [Int.toNat_natCast, Nat.mul_one, Nat.add_zero] at q_))
            refine ⟨(a.sts k, c), EntL.refl _, fun _ => na, ?_⟩
            repeat' (first | refine gl ?_ | (refine br (fun q_ => ?_) (fun q_ => ?_) <;> try simp only [Int.toNat_natCast, Nat.mul_one, Nat.add_zero] at q_) | (refine brF (fun q_ => ?_) (fun q_ => ?_) <;> try simp only [Int.toNat_natCast, Nat.mul_one, Nat.add_zero] at q_))
            all_goals first
              | exact ⟨k + 1, (by show k + 1 ≤ 6; omega), (by show 6 - (k + 1) < 6 - k; omega), StLe.ren [0, 1] tmS ⟨⟨rfl, EntL.refl _, rfl⟩, ⟨rfl, EntL.refl _, rfl⟩, trivial⟩ (by decide)⟩
              | (exfalso; exact hb_eq hv q_)
          · rw [part_st hlt, part_st hlt] at hv
            have hv : ¬ yesB (hasB (a.sts k) c) = yesB (hasB (b.sts k) c) := hv
            have hv : ¬ hasB (a.sts k) c = hasB (b.sts k) c := fun h => hv (congrArg yesB h)
            rw [part_st hlt] at hx1 hx2
            have hx1 : x.old = yesB (hasB (a.sts k) c) := hx1
            have hx2 : x.new = yesB (hasB (b.sts k) c) := hx2
            rw [show ctFndC.out (L, nmK (setK k), c) = .tu [chA x, .v (.int .i64 1)] by show D.tu [chA (lastC (fndC (nmK (setK k)) c L)), _] = _; rw [hx]; rfl]
            repeat' (first | refine gl ?_ | (refine br (fun q_ => ?_) (fun q_ => ?_) <;> try simp only [Int.toNat_natCast, Nat.mul_one, Nat.add_zero] at q_) | (refine brF (fun q_ => ?_) (fun q_ => ?_) <;> try simp only [Int.toNat_natCast, Nat.mul_one, Nat.add_zero] at q_))
            refine ⟨(a, k), EntL.refl _, fun _ => pa, ?_⟩
            repeat' (first | refine gl ?_ | (refine br (fun q_ => ?_) (fun q_ => ?_) <;> try simp only [Int.toNat_natCast, Nat.mul_one, Nat.add_zero] at q_) | (refine brF (fun q_ => ?_) (fun q_ => ?_) <;> try simp only [Int.toNat_natCast, Nat.mul_one, Nat.add_zero] at q_))
            refine ⟨(a.sts k, c), EntL.refl _, fun _ => na, ?_⟩
            repeat' (first | refine gl ?_ | (refine br (fun q_ => ?_) (fun q_ => ?_) <;> try simp only [Int.toNat_natCast, Nat.mul_one, Nat.add_zero] at q_) | (refine brF (fun q_ => ?_) (fun q_ => ?_) <;> try simp only [Int.toNat_natCast, Nat.mul_one, Nat.add_zero] at q_))
            all_goals first
              | exact ⟨k + 1, (by show k + 1 ≤ 6; omega), (by show 6 - (k + 1) < 6 - k; omega), StLe.ren [0, 1] tmS ⟨⟨rfl, EntL.refl _, rfl⟩, ⟨rfl, EntL.refl _, rfl⟩, trivial⟩ (by decide)⟩
              | (exfalso; exact yes_no hx2 q_)
              | (exfalso; exact yes_no hx1 q_)
              | (exfalso; exact hb_no hv q_)
        · repeat' (first | refine gl ?_ | (refine br (fun q_ => ?_) (fun q_ => ?_) <;> try simp only [Int.toNat_natCast, Nat.mul_one, Nat.add_zero] at q_) | (refine brF (fun q_ => ?_) (fun q_ => ?_) <;> try simp only [Int.toNat_natCast, Nat.mul_one, Nat.add_zero] at q_))
          exact EntR.bool rfl
    · repeat' (first | refine gl ?_ | (refine br (fun q_ => ?_) (fun q_ => ?_) <;> try simp only [Int.toNat_natCast, Nat.mul_one, Nat.add_zero] at q_) | (refine brF (fun q_ => ?_) (fun q_ => ?_) <;> try simp only [Int.toNat_natCast, Nat.mul_one, Nat.add_zero] at q_))
      exact EntR.bool rfl
  · have hn : smDb a = false ∨ smDb b = false := by cases h1 : smDb a <;> cases h2 : smDb b <;> simp_all
    repeat' (first | refine gl ?_ | (refine br (fun q_ => ?_) (fun q_ => ?_) <;> try simp only [Int.toNat_natCast, Nat.mul_one, Nat.add_zero] at q_) | (refine brF (fun q_ => ?_) (fun q_ => ?_) <;> try simp only [Int.toNat_natCast, Nat.mul_one, Nat.add_zero] at q_))
    exact EntR.bool rfl
end Go.Proofs
