import Derived.Test.YtjfcfaiodbmodaaGreatDoorFd2
import Derived.Test.YtjfcfaiodbmodaaGreatDoorFvz
set_option linter.unusedVariables false
set_option linter.unusedSimpArgs false
namespace Go.Proofs
open Go Go.Sx
variable {mx : Int} {pb : Bool}

/-! Compare of the reference -/
noncomputable def Γvk : Ctx := fun f => match f with
  | 17 => some (.pure ctDbE)
  | 45 => some (.pure ctRNames)
  | 46 => some (.pure ctCmpF)
  | _ => none
theorem Γvk_ok {mx : Int} : CtxOk Tryz.prog (GlT mx true) Γvk := by
  intro f h hh
  simp only [Γvk] at hh
  split at hh <;> simp at hh <;> subst hh
  · exact rDbE_ok
  · exact rNamesF_ok
  · exact rCmpF_ok
set_option maxHeartbeats 16000000 in
theorem rCompare_ok {mx : Int} : Sound Tryz.prog (GlT mx true) 14 ctVCmp := by
  refine sound_by (cc := true) Γvk_ok Tryz.T_ok Tryz.mixed Tryz.func14 rfl (by kernel_rfl) (fun _ => rfl) (fun _ _ => by show 2 ≤ 38; decide) ?_
  rintro ⟨(a : Db), (b : Db)⟩ ⟨(ha : SmD a), (hb : SmD b)⟩
  have p1 : ctDbE.pre a := ha
  have p2 : ctDbE.pre b := hb
  by_cases ea : dbE a = 0
  · by_cases eb : dbE b = 0
    · have oa := okD_of ha ea
      have ob := okD_of hb eb
      have hc : cmpE a b = 0 := by rw [cmpE, if_pos ea, eb]
      repeat' (first | refine gl ?_ | (refine br (fun q_ => ?_) (fun q_ => ?_) <;> try simp only [Int.toNat_natCast, Nat.mul_one, Nat.add_zero] at q_) | (refine brF (fun q_ => ?_) (fun q_ => ?_) <;> try simp only [Int.toNat_natCast, Nat.mul_one, Nat.add_zero] at q_))
      refine ⟨0, Nat × List Ch, fun | (k, out) => ⟨[(2, .own 0 0), (3, .own 1 0), (8, .row 2), (9, slD 1 strD namesL), (10, .v (.int .i64 k))], [.cells 39 (dbL a), .cells 39 (dbL b), rowL 53 5 chD out], []⟩, fun | (k, out) => k ≤ 20 ∧ out = chsTo a b k, fun x => 20 - x.1, fun _ => Nat.zero_le _, ⟨(0, []), ⟨Nat.zero_le _, rfl⟩, StLe.trans (StLe.nilRow (t := 8) 53 5 (fun _ _ => .junk) rfl) (StLe.ren [0, 1, 2] tmS ⟨⟨rfl, EntL.refl _, rfl⟩, ⟨rfl, EntL.refl _, rfl⟩, own_nil, trivial⟩ (by decide))⟩, ?_⟩
      rintro ⟨k, out⟩ ⟨hk, hout⟩
      have hk : k ≤ 20 := hk
      have hnl : namesL.length = 20 := rfl
      by_cases hlt : k < 20
      · have l1 := chsTo_len a b k
        have l2 := chK_len a b k
        have hnx : chsTo a b (k + 1) = out ++ chK a b k := by rw [hout]; rfl
        rw [← hout] at l1
        have l1 : out.length ≤ 30000000 := by omega
        have hcf : ctCmpF.out (a, b, k) = slD 5 chD (chK a b k) := rfl
        generalize chK a b k = m at l2 hnx hcf
        clear hout
        repeat' (first | refine gl ?_ | (refine br (fun q_ => ?_) (fun q_ => ?_) <;> try simp only [Int.toNat_natCast, Nat.mul_one, Nat.add_zero] at q_) | (refine brF (fun q_ => ?_) (fun q_ => ?_) <;> try simp only [Int.toNat_natCast, Nat.mul_one, Nat.add_zero] at q_))
        refine ⟨(a, b, k), EntL.refl _, fun _ => ⟨oa, ob, hlt⟩, ?_⟩
        rw [hcf]
        repeat' (first | refine gl ?_ | (refine br (fun q_ => ?_) (fun q_ => ?_) <;> try simp only [Int.toNat_natCast, Nat.mul_one, Nat.add_zero] at q_) | (refine brF (fun q_ => ?_) (fun q_ => ?_) <;> try simp only [Int.toNat_natCast, Nat.mul_one, Nat.add_zero] at q_))
        exact ⟨(k + 1, out ++ m), ⟨(by show k + 1 ≤ 20; omega), hnx.symm⟩, (by show 20 - (k + 1) < 20 - k; omega), StLe.ren [0, 1, 3] tmS ⟨⟨rfl, EntL.refl _, rfl⟩, ⟨rfl, EntL.refl _, rfl⟩, own_appL, trivial⟩ (by decide)⟩
      · have e : k = 20 := by omega
        subst e
        have hL : cmpL a b = out := (cmpL_ok hc).trans hout.symm
        clear hout
        repeat' (first | refine gl ?_ | (refine br (fun q_ => ?_) (fun q_ => ?_) <;> try simp only [Int.toNat_natCast, Nat.mul_one, Nat.add_zero] at q_) | (refine brF (fun q_ => ?_) (fun q_ => ?_) <;> try simp only [Int.toNat_natCast, Nat.mul_one, Nat.add_zero] at q_))
        refine EntR.of rfl ?_
        show Ent _ (.tu [chsD (cmpL a b), .v (.int .i64 (cmpE a b))])
        rw [hL, hc]
        exact Ent.refl _
    · have hc : cmpE a b = dbE b := by rw [cmpE, if_pos ea]
      have hL : cmpL a b = [] := cmpL_no (by rw [hc]; exact eb)
      repeat' (first | refine gl ?_ | (refine br (fun q_ => ?_) (fun q_ => ?_) <;> try simp only [Int.toNat_natCast, Nat.mul_one, Nat.add_zero] at q_) | (refine brF (fun q_ => ?_) (fun q_ => ?_) <;> try simp only [Int.toNat_natCast, Nat.mul_one, Nat.add_zero] at q_))
      refine EntR.of rfl ?_
      show Ent _ (.tu [chsD (cmpL a b), .v (.int .i64 (cmpE a b))])
      rw [hL, hc]
      exact Ent.tu2 Ent.nil (Ent.refl _)
  · have hc : cmpE a b = dbE a := by rw [cmpE, if_neg ea]
    have hL : cmpL a b = [] := cmpL_no (by rw [hc]; exact ea)
    repeat' (first | refine gl ?_ | (refine br (fun q_ => ?_) (fun q_ => ?_) <;> try simp only [Int.toNat_natCast, Nat.mul_one, Nat.add_zero] at q_) | (refine brF (fun q_ => ?_) (fun q_ => ?_) <;> try simp only [Int.toNat_natCast, Nat.mul_one, Nat.add_zero] at q_))
    refine EntR.of rfl ?_
    show Ent _ (.tu [chsD (cmpL a b), .v (.int .i64 (cmpE a b))])
    rw [hL, hc]
    exact Ent.tu2 Ent.nil (Ent.refl _)
end Go.Proofs
