import Derived.Test.YtnegdnbodccgkaaGreatDoorLVz
set_option linter.unusedVariables false
set_option linter.unusedSimpArgs false
namespace Go.Proofs
open Go Go.Sx
variable {mx : Int} {pb : Bool}

/-! back -/
theorem chK_swap (a b : Db) (k : Nat) : chK b a k = (chK a b k).map swapC := (chU_swap _ _ _ _).symm
theorem chsTo_swap (a b : Db) : ∀ k, chsTo b a k = (chsTo a b k).map swapC
  | 0 => rfl
  | k + 1 => by rw [chsTo, chsTo, chsTo_swap a b k, chK_swap, List.map_append]
theorem cmpE_back {a b : Db} : cmpE a b = 0 ↔ cmpE b a = 0 := by
  unfold cmpE
  by_cases h1 : dbE a = 0 <;> by_cases h2 : dbE b = 0 <;> simp [h1, h2]
theorem cmpL_swap (a b : Db) : cmpL b a = (cmpL a b).map swapC := by
  by_cases h : cmpE a b = 0
  · rw [cmpL_ok h, cmpL_ok (cmpE_back.1 h), chsTo_swap]
  · rw [cmpL_no h, cmpL_no (fun h' => h (cmpE_back.2 h'))]; rfl
theorem chsD_swap (l : List Ch) : chsD (l.map swapC) = .sl 5 l.length fun i j => chD (Ch.mk (l.getD i default).what (l.getD i default).lo (l.getD i default).hi (l.getD i default).new (l.getD i default).old) j := by
  unfold chsD slD
  rw [List.length_map]
  congr 1
  funext i j
  congr 1
  simp only [List.getD_eq_getElem?_getD, List.getElem?_map]
  cases l[i]? <;> rfl
set_option maxHeartbeats 16000000 in
theorem lawVB_ok {mx : Int} : Sound Tryz.prog (GlT mx true) 3 ctLaw2 := by
  refine sound_by (cc := true) Γlv_ok Tryz.T_ok Tryz.mixed Tryz.func3 rfl (by kernel_rfl) (fun _ => rfl) (fun _ _ => by show 2 ≤ 105; decide) ?_
  rintro ⟨(a : Db), (b : Db)⟩ ⟨(ha : fitDb a), (hb : fitDb b)⟩
  have p0 : ctSml2.pre (a, b) := ⟨ha, hb⟩
  rcases Bool.eq_false_or_eq_true (smDb a && smDb b) with h | h
  · have hs := Bool.and_eq_true_iff.1 h
    have ha := smDb_iff.1 hs.1
    have hb := smDb_iff.1 hs.2
    have hl := cmpL_len a b
    have e2 : ctVCmp.out (b, a) = .tu [.sl 5 (cmpL a b).length fun i j => chD (Ch.mk ((cmpL a b).getD i default).what ((cmpL a b).getD i default).lo ((cmpL a b).getD i default).hi ((cmpL a b).getD i default).new ((cmpL a b).getD i default).old) j, .v (.int .i64 (cmpE b a))] := by
      rw [← chsD_swap, ← cmpL_swap]; rfl
    have p1 : ctVCmp.pre (a, b) := ⟨ha, hb⟩
    have hlen : ((cmpL (a, b).1 (a, b).2).length : Int) = ((cmpL a b).length : Int) := rfl
    by_cases hx : cmpE a b = 0
    · have hy := cmpE_back.1 hx
      have hxy : ((cmpE a b == 0) == (cmpE b a == 0)) = true := by simp [hx, hy]
      repeat' (first | refine gl ?_ | (refine br (fun q_ => ?_) (fun q_ => ?_) <;> try simp only [Int.toNat_natCast, Nat.mul_one, Nat.add_zero] at q_) | (refine brF (fun q_ => ?_) (fun q_ => ?_) <;> try simp only [Int.toNat_natCast, Nat.mul_one, Nat.add_zero] at q_))
      refine ⟨(b, a), EntL.refl _, ⟨hb, ha⟩, ?_⟩
      rw [e2]
      repeat' (first | refine gl ?_ | (refine br (fun q_ => ?_) (fun q_ => ?_) <;> try simp only [Int.toNat_natCast, Nat.mul_one, Nat.add_zero] at q_) | (refine brF (fun q_ => ?_) (fun q_ => ?_) <;> try simp only [Int.toNat_natCast, Nat.mul_one, Nat.add_zero] at q_))
      refine ⟨0, Nat, fun i => ⟨[(5, chsD (cmpL a b)), (7, .sl 5 (cmpL a b).length fun i j => chD (Ch.mk ((cmpL a b).getD i default).what ((cmpL a b).getD i default).lo ((cmpL a b).getD i default).hi ((cmpL a b).getD i default).new ((cmpL a b).getD i default).old) j), (9, .v (.int .i64 i))], [.cells 39 (dbL a), .cells 39 (dbL b)], []⟩, fun i => i ≤ (cmpL a b).length, fun i => (cmpL a b).length - i, fun _ => Nat.zero_le _, ⟨0, Nat.zero_le _, StLe.ren [0, 1] tmS ⟨⟨rfl, EntL.refl _, rfl⟩, ⟨rfl, EntL.refl _, rfl⟩, trivial⟩ (by decide)⟩, ?_⟩
      intro i (hi : i ≤ (cmpL a b).length)
      clear e2 hlen p1
      generalize cmpL a b = L at hl hi ⊢
      by_cases hlt : i < L.length
      · repeat' (first | refine gl ?_ | refine bt3 ?_ rfl | refine bt3 ?_ ⟨rfl, rfl, rfl⟩ | refine bt2 ?_ rfl | refine bt2 ?_ ⟨rfl, rfl, rfl⟩)
        exact ⟨i + 1, (by show i + 1 ≤ _; omega), (by show _ - (i + 1) < _ - i; omega), StLe.ren [0, 1] tmS ⟨⟨rfl, EntL.refl _, rfl⟩, ⟨rfl, EntL.refl _, rfl⟩, trivial⟩ (by decide)⟩
      · repeat' (first | refine gl ?_ | (refine br (fun q_ => ?_) (fun q_ => ?_) <;> try simp only [Int.toNat_natCast, Nat.mul_one, Nat.add_zero] at q_) | (refine brF (fun q_ => ?_) (fun q_ => ?_) <;> try simp only [Int.toNat_natCast, Nat.mul_one, Nat.add_zero] at q_))
        exact EntR.bool rfl
    · have hy : ¬ cmpE b a = 0 := fun h => hx (cmpE_back.2 h)
      have hxy : ((cmpE a b == 0) == (cmpE b a == 0)) = true := by
        rw [show (cmpE a b == 0) = false by simpa using hx, show (cmpE b a == 0) = false by simpa using hy]; rfl
      have h0 : (cmpL a b).length = 0 := by rw [cmpL_no hx]; rfl
      repeat' (first | refine gl ?_ | (refine br (fun q_ => ?_) (fun q_ => ?_) <;> try simp only [Int.toNat_natCast, Nat.mul_one, Nat.add_zero] at q_) | (refine brF (fun q_ => ?_) (fun q_ => ?_) <;> try simp only [Int.toNat_natCast, Nat.mul_one, Nat.add_zero] at q_))
      refine ⟨(b, a), EntL.refl _, ⟨hb, ha⟩, ?_⟩
      rw [e2]
      repeat' (first | refine gl ?_ | (refine br (fun q_ => ?_) (fun q_ => ?_) <;> try simp only [Int.toNat_natCast, Nat.mul_one, Nat.add_zero] at q_) | (refine brF (fun q_ => ?_) (fun q_ => ?_) <;> try simp only [Int.toNat_natCast, Nat.mul_one, Nat.add_zero] at q_))
      refine ⟨0, Nat, fun i => ⟨[(5, chsD (cmpL a b)), (7, .sl 5 (cmpL a b).length fun i j => chD (Ch.mk ((cmpL a b).getD i default).what ((cmpL a b).getD i default).lo ((cmpL a b).getD i default).hi ((cmpL a b).getD i default).new ((cmpL a b).getD i default).old) j), (9, .v (.int .i64 i))], [.cells 39 (dbL a), .cells 39 (dbL b)], []⟩, fun i => i ≤ (cmpL a b).length, fun i => (cmpL a b).length - i, fun _ => Nat.zero_le _, ⟨0, Nat.zero_le _, StLe.ren [0, 1] tmS ⟨⟨rfl, EntL.refl _, rfl⟩, ⟨rfl, EntL.refl _, rfl⟩, trivial⟩ (by decide)⟩, ?_⟩
      intro i (hi : i ≤ (cmpL a b).length)
      clear e2 hlen p1 h0
      generalize cmpL a b = L at hl hi ⊢
      by_cases hlt : i < L.length
      · repeat' (first | refine gl ?_ | refine bt3 ?_ rfl | refine bt3 ?_ ⟨rfl, rfl, rfl⟩ | refine bt2 ?_ rfl | refine bt2 ?_ ⟨rfl, rfl, rfl⟩)
        exact ⟨i + 1, (by show i + 1 ≤ _; omega), (by show _ - (i + 1) < _ - i; omega), StLe.ren [0, 1] tmS ⟨⟨rfl, EntL.refl _, rfl⟩, ⟨rfl, EntL.refl _, rfl⟩, trivial⟩ (by decide)⟩
      · repeat' (first | refine gl ?_ | (refine br (fun q_ => ?_) (fun q_ => ?_) <;> try simp only [Int.toNat_natCast, Nat.mul_one, Nat.add_zero] at q_) | (refine brF (fun q_ => ?_) (fun q_ => ?_) <;> try simp only [Int.toNat_natCast, Nat.mul_one, Nat.add_zero] at q_))
        exact EntR.bool rfl
  · have hn : smDb a = false ∨ smDb b = false := by cases h1 : smDb a <;> cases h2 : smDb b <;> simp_all
    repeat' (first | refine gl ?_ | (refine br (fun q_ => ?_) (fun q_ => ?_) <;> try simp only [Int.toNat_natCast, Nat.mul_one, Nat.add_zero] at q_) | (refine brF (fun q_ => ?_) (fun q_ => ?_) <;> try simp only [Int.toNat_natCast, Nat.mul_one, Nat.add_zero] at q_))
    exact EntR.bool rfl
#print axioms lawVB_ok
end Go.Proofs
