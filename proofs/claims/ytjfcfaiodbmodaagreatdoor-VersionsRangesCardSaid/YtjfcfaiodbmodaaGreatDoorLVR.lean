import Derived.Test.YtjfcfaiodbmodaaGreatDoorLVRp
set_option linter.unusedVariables false
set_option linter.unusedSimpArgs false
namespace Go.Proofs
open Go Go.Sx
variable {mx : Int} {pb : Bool}

/-! the law of chapter 17: Ranges -/
noncomputable def Γlr : Ctx := fun f => match f with
  | 11 => some (.pure ctSml2)
  | 12 => some (.pure ctAlive)
  | 13 => some (.pure ctVCmp)
  | 19 => some (.pure ctFiles)
  | _ => none
theorem Γlr_ok {mx : Int} : CtxOk Tryz.prog (GlT mx true) Γlr := by
  intro f h hh
  simp only [Γlr] at hh
  split at hh <;> simp at hh <;> subst hh
  · exact rSml2_ok
  · exact alive_ok mx
  · exact pCompare_ok
  · exact pFiles_ok
def chL (x : Ch) : List D := [.v (.string x.what), .v (.int .i64 x.lo), .v (.int .i64 x.hi), .v (.string x.old), .v (.string x.new)]
theorem nm_inj' {j k : Nat} (hj : j < 20) (hk : k < 20) (h : nmK j = nmK k) : j = k := nm_inj j hj k hk h
set_option maxRecDepth 100000 in
set_option maxHeartbeats 16000000 in
theorem lawVR_ok {mx : Int} : Sound Tryz.prog (GlT mx true) 6 ctLaw2 := by
  refine sound_by (cc := true) Γlr_ok Tryz.T_ok Tryz.mixed Tryz.func6 rfl (by kernel_rfl) (fun _ => rfl) (fun _ _ => by show 2 ≤ 134; decide) ?_
  rintro ⟨(a : Db), (b : Db)⟩ ⟨(ha : fitDb a), (hb : fitDb b)⟩
  have p0 : ctSml2.pre (a, b) := ⟨ha, hb⟩
  rcases Bool.eq_false_or_eq_true (smDb a && smDb b) with h | h
  · have hs := Bool.and_eq_true_iff.1 h
    have p1 : ctVCmp.pre (a, b) := ⟨smDb_iff.1 hs.1, smDb_iff.1 hs.2⟩
    have hl := cmpL_len a b
    obtain ⟨f, ho⟩ := cmpL_ord a b
    have hfl := filesL_len
    repeat' (first | refine gl ?_ | (refine br (fun q_ => ?_) (fun q_ => ?_) <;> try simp only [Int.toNat_natCast, Nat.mul_one, Nat.add_zero] at q_) | (refine brF (fun q_ => ?_) (fun q_ => ?_) <;> try simp only [Int.toNat_natCast, Nat.mul_one, Nat.add_zero] at q_))
    refine ⟨0, Nat × Nat, fun | (i, at1) => ⟨[(5, chsD (cmpL a b)), (7, slD 1 strD filesL), (8, .v (.int .i64 at1)), (9, .v (.int .i64 i))], [], []⟩, fun | (i, at1) => i ≤ (cmpL a b).length ∧ at1 ≤ 20 ∧ (i < (cmpL a b).length → at1 ≤ f i + 1), fun x => (cmpL a b).length - x.1, fun _ => Nat.zero_le _, ⟨(0, 0), ⟨Nat.zero_le _, Nat.zero_le _, fun _ => Nat.zero_le _⟩, StLe.ren [] tmS trivial (by decide)⟩, ?_⟩
    rintro ⟨i, at1⟩ ⟨hi, hat, hat2⟩
    have hi : i ≤ (cmpL a b).length := hi
    generalize cmpL a b = L at hl ho hi hat2 ⊢
    by_cases hlt : i < L.length
    · have hat2 : at1 ≤ f i + 1 := hat2 hlt
      have hfi := ho.lt i hlt
      have hwh := ho.what i hlt
      obtain ⟨g1, g2, g3, g4⟩ := ho.good i hlt
      have g1' : ¬ (L.getD ((i : Int)).toNat default).old = (L.getD ((i : Int)).toNat default).new := g1
      have g2' : 0 ≤ (L.getD ((i : Int)).toNat default).lo := g2
      have g3' : (L.getD ((i : Int)).toNat default).lo ≤ (L.getD ((i : Int)).toNat default).hi := g3
      have g4' : (L.getD ((i : Int)).toNat default).hi ≤ 1114111 := g4
      have g5' : ¬ (L.getD ((i : Int)).toNat default).what = ⟨#[118, 101, 114, 115, 105, 111, 110]⟩ := by
        show ¬ (L.getD i default).what = filesL.getD 0 default
        rw [hwh]; exact nm_ver hfi
      repeat' (first | refine gl ?_ | (refine br (fun q_ => ?_) (fun q_ => ?_) <;> try simp only [Int.toNat_natCast, Nat.mul_one, Nat.add_zero] at q_) | (refine brF (fun q_ => ?_) (fun q_ => ?_) <;> try simp only [Int.toNat_natCast, Nat.mul_one, Nat.add_zero] at q_))
      refine ⟨0, Nat, fun at2 => ⟨[(5, chsD L), (7, slD 1 strD filesL), (8, .v (.int .i64 at2)), (9, .v (.int .i64 i)), (10, .own 0 0)], [.cells 53 (chL (L.getD i default))], []⟩, fun at2 => at2 ≤ f i + 1, fun at2 => 21 - at2, fun _ => Nat.zero_le _, ⟨at1, hat2, StLe.ren [0] tmS ⟨⟨rfl, EntL.refl _, rfl⟩, trivial⟩ (by decide)⟩, ?_⟩
      intro at2 (h2 : at2 ≤ f i + 1)
      have h21 : at2 < 21 := by omega
      have nx : ∀ at2, at2 ≤ f i + 1 → i + 1 ≤ L.length ∧ at2 ≤ 20 ∧ (i + 1 < L.length → at2 ≤ f (i + 1) + 1) := fun at2 h2 => ⟨hlt, by omega, fun h => by have := ho.mono i h; omega⟩
      by_cases he : filesL.getD at2 default = (L.getD i default).what
      · have he' : filesL.getD ((at2 : Int)).toNat default = (L.getD i default).what := he
        rcases Nat.eq_zero_or_pos i with h0 | h0
        · repeat' (first | refine gl ?_ | (refine br (fun q_ => ?_) (fun q_ => ?_) <;> try simp only [Int.toNat_natCast, Nat.mul_one, Nat.add_zero] at q_) | (refine brF (fun q_ => ?_) (fun q_ => ?_) <;> try simp only [Int.toNat_natCast, Nat.mul_one, Nat.add_zero] at q_))
          exact ⟨(i + 1, at2), nx at2 h2, (by show L.length - (i + 1) < L.length - i; omega), StLe.ren [] tmS trivial (by decide)⟩
        · have ek : ((i : Int) - 1).toNat = i - 1 := by omega
          obtain ⟨y1, y2, y3, y4⟩ := ho.good (i - 1) (by omega)
          have y4' : (L.getD ((i : Int) - 1).toNat default).hi ≤ 1114111 := by rw [ek]; exact y4
          have y3' : 0 ≤ (L.getD ((i : Int) - 1).toNat default).hi := by rw [ek]; omega
          by_cases hw : (L.getD ((i : Int) - 1).toNat default).what = (L.getD i default).what
          · have hf : f (i - 1) = f i := nm_inj' (ho.lt (i - 1) (by omega)) hfi (by rw [← ho.what (i - 1) (by omega), ← hwh, ← ek]; exact hw)
            have hap := ho.apart (i - 1) (by omega) (by rw [show i - 1 + 1 = i by omega]; exact hf)
            rw [show i - 1 + 1 = i by omega] at hap
            obtain ⟨hap1, hap2⟩ := hap
            have hap2' : ¬ ((L.getD ((i : Int) - 1).toNat default).hi + 1 = (L.getD i default).lo ∧ (L.getD ((i : Int) - 1).toNat default).old = (L.getD i default).old ∧ (L.getD ((i : Int) - 1).toNat default).new = (L.getD i default).new) := by rw [ek]; exact hap2
            have hap1' : (L.getD ((i : Int) - 1).toNat default).hi < (L.getD i default).lo := by rw [ek]; exact hap1
            repeat' (first | refine gl ?_ | (refine br (fun q_ => ?_) (fun q_ => ?_) <;> try simp only [Int.toNat_natCast, Nat.mul_one, Nat.add_zero] at q_) | (refine brF (fun q_ => ?_) (fun q_ => ?_) <;> try simp only [Int.toNat_natCast, Nat.mul_one, Nat.add_zero] at q_))
            all_goals first
              | exact ⟨(i + 1, at2), nx at2 h2, (by show L.length - (i + 1) < L.length - i; omega), StLe.ren [] tmS trivial (by decide)⟩
              | (exfalso; exact hap2' ⟨by assumption, by assumption, by assumption⟩)
          · repeat' (first | refine gl ?_ | (refine br (fun q_ => ?_) (fun q_ => ?_) <;> try simp only [Int.toNat_natCast, Nat.mul_one, Nat.add_zero] at q_) | (refine brF (fun q_ => ?_) (fun q_ => ?_) <;> try simp only [Int.toNat_natCast, Nat.mul_one, Nat.add_zero] at q_))
            exact ⟨(i + 1, at2), nx at2 h2, (by show L.length - (i + 1) < L.length - i; omega), StLe.ren [] tmS trivial (by decide)⟩
      · have he' : ¬ filesL.getD ((at2 : Int)).toNat default = (L.getD i default).what := he
        have hne : at2 ≠ f i + 1 := fun e => he (by rw [hwh, e]; rfl)
        repeat' (first | refine gl ?_ | (refine br (fun q_ => ?_) (fun q_ => ?_) <;> try simp only [Int.toNat_natCast, Nat.mul_one, Nat.add_zero] at q_) | (refine brF (fun q_ => ?_) (fun q_ => ?_) <;> try simp only [Int.toNat_natCast, Nat.mul_one, Nat.add_zero] at q_))
        exact ⟨at2 + 1, (by show at2 + 1 ≤ _; omega), (by show 21 - (at2 + 1) < 21 - at2; omega), StLe.ren [0] tmS ⟨⟨rfl, EntL.refl _, rfl⟩, trivial⟩ (by decide)⟩
    · repeat' (first | refine gl ?_ | (refine br (fun q_ => ?_) (fun q_ => ?_) <;> try simp only [Int.toNat_natCast, Nat.mul_one, Nat.add_zero] at q_) | (refine brF (fun q_ => ?_) (fun q_ => ?_) <;> try simp only [Int.toNat_natCast, Nat.mul_one, Nat.add_zero] at q_))
      exact EntR.bool rfl
  · have hn : smDb a = false ∨ smDb b = false := by cases h1 : smDb a <;> cases h2 : smDb b <;> simp_all
    repeat' (first | refine gl ?_ | (refine br (fun q_ => ?_) (fun q_ => ?_) <;> try simp only [Int.toNat_natCast, Nat.mul_one, Nat.add_zero] at q_) | (refine brF (fun q_ => ?_) (fun q_ => ?_) <;> try simp only [Int.toNat_natCast, Nat.mul_one, Nat.add_zero] at q_))
    exact EntR.bool rfl
#print axioms lawVR_ok
end Go.Proofs
