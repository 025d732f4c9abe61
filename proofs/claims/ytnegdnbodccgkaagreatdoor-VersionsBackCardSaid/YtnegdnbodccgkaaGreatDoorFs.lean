import Derived.Test.YtnegdnbodccgkaaGreatDoorFvz
import Derived.Test.YtnegdnbodccgkaaGreatDoorFq
import Derived.Test.YtnegdnbodccgkaaGreatDoorDg
import Derived.Test.YtnegdnbodccgkaaGreatDoorFp
set_option linter.unusedVariables false
set_option linter.unusedSimpArgs false
namespace Go.Proofs
open Go Go.Sx
variable {mx : Int} {pb : Bool}

/-! versions.Compare -/
noncomputable def Γvq : Ctx := fun f => match f with
  | 47 => some (.pure ctDbE)
  | 48 => some (.pure ctFls)
  | 49 => some (.pure ctPCmp)
  | _ => none
theorem Γvq_ok {mx : Int} : CtxOk Tryz.prog (GlT mx true) Γvq := by
  intro f h hh
  simp only [Γvq] at hh
  split at hh <;> simp at hh <;> subst hh
  · exact pDbE_ok
  · exact files_ok
  · exact pCmp_ok
theorem part_ok {d : Db} (h : OkD d) {k : Nat} (hk : k < 20) : ptOk (partOf d k) := by
  match k, hk with
  | 0, _ => exact h.pr (by decide)
  | 1, _ => exact h.pr (by decide)
  | 2, _ => exact h.pr (by decide)
  | 3, _ => exact h.pr (by decide)
  | 4, _ => exact h.pr (by decide)
  | 5, _ => exact h.pr (by decide)
  | 6, _ => exact h.pr (by decide)
  | 7, _ => exact h.cl
  | 8, _ => exact h.mp (by decide)
  | 9, _ => exact h.st (by decide)
  | 10, _ => exact h.mp (by decide)
  | 11, _ => exact h.mp (by decide)
  | 12, _ => exact h.mp (by decide)
  | 13, _ => exact h.mp (by decide)
  | 14, _ => exact h.st (by decide)
  | 15, _ => exact h.st (by decide)
  | 16, _ => exact h.st (by decide)
  | 17, _ => exact h.st (by decide)
  | 18, _ => exact h.st (by decide)
  | 19, _ => exact h.mp (by decide)
  | k0 + 20, h => exact absurd (show k0 + 20 < 20 from h) (by omega)
theorem chB_congr {w : ByteArray} {va vb va' vb' : Int → ByteArray} {b : Int} (h : ∀ c : Int, 0 ≤ c → c < b → va c = va' c ∧ vb c = vb' c) : chB w va vb b = chB w va' vb' b := chU_congr fun c h0 h1 => h c h0 (by omega)
theorem flP_what (w : ByteArray) (P : Pt) : (flP w P).what = w := by cases P <;> rfl
theorem flP_len {w : ByteArray} : ∀ {P : Pt} {n : Nat}, (ptR P).length ≤ n → (flP w P).pcs.length ≤ n
  | .pr p, n, h => by simpa [ptR, flP, prF] using h
  | .cl l, n, h => by simpa [ptR, flP, clF] using h
  | .st l, n, h => by simpa [ptR, flP, stF] using h
  | .mp l, n, h => Nat.le_trans (mpK_len l l.length) (by simpa [ptR] using h)
theorem pcs_len {d : Db} (h : OkD d) {k : Nat} (hk : k < 20) : (flP (nmK k) (partOf d k)).pcs.length ≤ 20 := flP_len (ptR_len h.sm hk)
theorem flsOf_pre {a b : Db} (ha : OkD a) (hb : OkD b) {k : Nat} (hk : k < 20) : ctPCmp.pre ((flsOf a).getD k default, (flsOf b).getD k default) := by
  rw [flsOf_get a hk, flsOf_get b hk]
  have p1 := part_ok ha hk
  have p2 := part_ok hb hk
  refine ⟨(fl_pt p1).1, (fl_pt p2).1, ?_, ?_⟩
  · have := pcs_len ha hk; show (flP (nmK k) (partOf a k)).pcs.length ≤ 1000; omega
  · have := pcs_len hb hk; show (flP (nmK k) (partOf b k)).pcs.length ≤ 1000; omega
theorem flsOf_out {a b : Db} (ha : OkD a) (hb : OkD b) {k : Nat} (hk : k < 20) : ctPCmp.out ((flsOf a).getD k default, (flsOf b).getD k default) = slD 5 chD (chK a b k) := by
  rw [flsOf_get a hk, flsOf_get b hk]
  show chsD (chB (flP (nmK k) (partOf a k)).what (flV _) (flV _) 1114112) = chsD (chB (nmK k) (ptV (partOf a k)) (ptV (partOf b k)) 1114112)
  rw [flP_what]
  exact congrArg chsD (chB_congr fun c h0 h1 => ⟨(fl_pt (part_ok ha hk)).2 c h0 (by omega), (fl_pt (part_ok hb hk)).2 c h0 (by omega)⟩)
def dbC (d : Db) (j : Nat) : D := (dbL d).getD j .junk
def sVq (a b : Db) (i : Nat) : St := ⟨[(2, .own 0 0), (3, .own 1 0), (15, slD 29 dbC [a, b]), (16, .v (.int .i64 2)), (17, .v (.int .i64 i))], [.cells 39 (dbL a), .cells 39 (dbL b)], []⟩
set_option maxRecDepth 100000 in
set_option maxHeartbeats 16000000 in
theorem pCompare_ok {mx : Int} : Sound Tryz.prog (GlT mx true) 15 ctVCmp := by
  refine sound_by (cc := true) Γvq_ok Tryz.T_ok Tryz.mixed Tryz.func15 rfl (by kernel_rfl) (fun _ => rfl) (fun _ _ => by show 2 ≤ 47; decide) ?_
  rintro ⟨(a : Db), (b : Db)⟩ ⟨(ha : SmD a), (hb : SmD b)⟩
  have p1 : ctDbE.pre a := ha
  have p2 : ctDbE.pre b := hb
  repeat' (first | refine gl ?_ | (refine br (fun q_ => ?_) (fun q_ => ?_) <;> try simp only [Int.toNat_natCast, Nat.mul_one, Nat.add_zero] at q_) | (refine brF (fun q_ => ?_) (fun q_ => ?_) <;> try simp only [Int.toNat_natCast, Nat.mul_one, Nat.add_zero] at q_))
  refine ⟨0, Nat, sVq a b, fun i => i ≤ 2 ∧ (0 < i → dbE a = 0) ∧ (1 < i → dbE b = 0), fun i => 2 - i, fun _ => Nat.zero_le _, ⟨0, ⟨by decide, fun h => absurd h (by decide), fun h => absurd h (by decide)⟩, StLe.ren [0, 1] ⟨Ent.refl _, rfl, Ent.refl _, rfl, ent_lit rfl rfl, rfl, Ent.refl _, rfl, Ent.refl _, rfl, trivial⟩ ⟨⟨rfl, EntL.refl _, rfl⟩, ⟨rfl, EntL.refl _, rfl⟩, trivial⟩ (by decide)⟩, ?_⟩
  rintro i ⟨hi, h1, h2⟩
  have hcase : i = 0 ∨ i = 1 ∨ i = 2 := by omega
  rcases hcase with rfl | rfl | rfl
  · by_cases ea : dbE a = 0
    · repeat' (first | refine gl ?_ | (refine br (fun q_ => ?_) (fun q_ => ?_) <;> try simp only [Int.toNat_natCast, Nat.mul_one, Nat.add_zero] at q_) | (refine brF (fun q_ => ?_) (fun q_ => ?_) <;> try simp only [Int.toNat_natCast, Nat.mul_one, Nat.add_zero] at q_))
      exact ⟨1, ⟨by decide, fun _ => ea, fun h => absurd h (by decide)⟩, (by show 2 - 1 < 2 - 0; decide), StLe.ren [0, 1] tmS ⟨⟨rfl, EntL.refl _, rfl⟩, ⟨rfl, EntL.refl _, rfl⟩, trivial⟩ (by decide)⟩
    · have hc : cmpE a b = dbE a := by rw [cmpE, if_neg ea]
      have hL : cmpL a b = [] := cmpL_no (by rw [hc]; exact ea)
      repeat' (first | refine gl ?_ | (refine br (fun q_ => ?_) (fun q_ => ?_) <;> try simp only [Int.toNat_natCast, Nat.mul_one, Nat.add_zero] at q_) | (refine brF (fun q_ => ?_) (fun q_ => ?_) <;> try simp only [Int.toNat_natCast, Nat.mul_one, Nat.add_zero] at q_))
      refine EntR.of rfl ?_
      show Ent _ (.tu [chsD (cmpL a b), .v (.int .i64 (cmpE a b))])
      rw [hL, hc]
      exact Ent.tu2 Ent.nil (Ent.refl _)
  · have ea := h1 (by decide)
    have hc : cmpE a b = dbE b := by rw [cmpE, if_pos ea]
    by_cases eb : dbE b = 0
    · repeat' (first | refine gl ?_ | (refine br (fun q_ => ?_) (fun q_ => ?_) <;> try simp only [Int.toNat_natCast, Nat.mul_one, Nat.add_zero] at q_) | (refine brF (fun q_ => ?_) (fun q_ => ?_) <;> try simp only [Int.toNat_natCast, Nat.mul_one, Nat.add_zero] at q_))
      exact ⟨2, ⟨by decide, fun _ => ea, fun _ => eb⟩, (by show 2 - 2 < 2 - 1; decide), StLe.ren [0, 1] tmS ⟨⟨rfl, EntL.refl _, rfl⟩, ⟨rfl, EntL.refl _, rfl⟩, trivial⟩ (by decide)⟩
    · have hL : cmpL a b = [] := cmpL_no (by rw [hc]; exact eb)
      repeat' (first | refine gl ?_ | (refine br (fun q_ => ?_) (fun q_ => ?_) <;> try simp only [Int.toNat_natCast, Nat.mul_one, Nat.add_zero] at q_) | (refine brF (fun q_ => ?_) (fun q_ => ?_) <;> try simp only [Int.toNat_natCast, Nat.mul_one, Nat.add_zero] at q_))
      refine EntR.of rfl ?_
      show Ent _ (.tu [chsD (cmpL a b), .v (.int .i64 (cmpE a b))])
      rw [hL, hc]
      exact Ent.tu2 Ent.nil (Ent.refl _)
  · have ea := h1 (by decide)
    have eb := h2 (by decide)
    have oa := okD_of ha ea
    have ob := okD_of hb eb
    have hc : cmpE a b = 0 := by rw [cmpE, if_pos ea, eb]
    have q1 : ctFls.pre a := oa
    have q2 : ctFls.pre b := ob
    have la := flsOf_len a
    have lb := flsOf_len b
    repeat' (first | refine gl ?_ | (refine br (fun q_ => ?_) (fun q_ => ?_) <;> try simp only [Int.toNat_natCast, Nat.mul_one, Nat.add_zero] at q_) | (refine brF (fun q_ => ?_) (fun q_ => ?_) <;> try simp only [Int.toNat_natCast, Nat.mul_one, Nat.add_zero] at q_))
    refine ⟨0, Nat × List Ch, fun | (k, out) => ⟨[(9, .row 2), (10, slD 3 flD (flsOf b)), (30, slD 3 flD (flsOf a)), (31, .v (.int .i64 (flsOf a).length)), (32, .v (.int .i64 k))], [.cells 39 (dbL a), .cells 39 (dbL b), rowL 49 5 chD out], []⟩, fun | (k, out) => k ≤ 20 ∧ out = chsTo a b k, fun x => 20 - x.1, fun _ => Nat.zero_le _, ⟨(0, []), ⟨Nat.zero_le _, rfl⟩, StLe.trans (StLe.nilRow (t := 9) 49 5 (fun _ _ => .junk) rfl) (StLe.ren [0, 1, 2] tmS ⟨⟨rfl, EntL.refl _, rfl⟩, ⟨rfl, EntL.refl _, rfl⟩, own_nil, trivial⟩ (by decide))⟩, ?_⟩
    rintro ⟨k, out⟩ ⟨hk, hout⟩
    have hk : k ≤ 20 := hk
    by_cases hlt : k < 20
    · have l1 := chsTo_len a b k
      have l2 := chK_len a b k
      have hnx : chsTo a b (k + 1) = out ++ chK a b k := by rw [hout]; rfl
      rw [← hout] at l1
      have l1 : out.length ≤ 30000000 := by omega
      have hcf := flsOf_out oa ob hlt
      generalize chK a b k = m at l2 hnx hcf
      clear hout q1 q2 p1 p2
      repeat' (first | refine gl ?_ | (refine br (fun q_ => ?_) (fun q_ => ?_) <;> try simp only [Int.toNat_natCast, Nat.mul_one, Nat.add_zero] at q_) | (refine brF (fun q_ => ?_) (fun q_ => ?_) <;> try simp only [Int.toNat_natCast, Nat.mul_one, Nat.add_zero] at q_))
      refine ⟨((flsOf a).getD k default, (flsOf b).getD k default), EntL.refl _, fun _ => flsOf_pre oa ob hlt, ?_⟩
      rw [hcf]
      repeat' (first | refine gl ?_ | (refine br (fun q_ => ?_) (fun q_ => ?_) <;> try simp only [Int.toNat_natCast, Nat.mul_one, Nat.add_zero] at q_) | (refine brF (fun q_ => ?_) (fun q_ => ?_) <;> try simp only [Int.toNat_natCast, Nat.mul_one, Nat.add_zero] at q_))
      exact ⟨(k + 1, out ++ m), ⟨(by show k + 1 ≤ 20; omega), hnx.symm⟩, (by show 20 - (k + 1) < 20 - k; omega), StLe.ren [0, 1, 4] tmS ⟨⟨rfl, EntL.refl _, rfl⟩, ⟨rfl, EntL.refl _, rfl⟩, own_appL, trivial⟩ (by decide)⟩
    · have e : k = 20 := by omega
      subst e
      have hL : cmpL a b = out := (cmpL_ok hc).trans hout.symm
      clear hout
      repeat' (first | refine gl ?_ | (refine br (fun q_ => ?_) (fun q_ => ?_) <;> try simp only [Int.toNat_natCast, Nat.mul_one, Nat.add_zero] at q_) | (refine brF (fun q_ => ?_) (fun q_ => ?_) <;> try simp only [Int.toNat_natCast, Nat.mul_one, Nat.add_zero] at q_))
      refine EntR.of rfl ?_
      show Ent _ (.tu [chsD (cmpL a b), .v (.int .i64 (cmpE a b))])
      rw [hL, hc]
      exact Ent.refl _
end Go.Proofs
