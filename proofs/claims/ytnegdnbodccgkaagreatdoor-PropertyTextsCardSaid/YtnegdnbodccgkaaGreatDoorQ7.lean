import Derived.Test.YtnegdnbodccgkaaGreatDoorQ6
set_option linter.unusedVariables false
set_option linter.unusedSimpArgs false
namespace Go.Proofs
open Go Go.Sx
variable {mx : Int} {pb : Bool}

/-! property.Find -/
theorem nmOk_of {l : List ByteArray} (h : namesB l = true) : ∀ i, i < l.length → isNameB (l.getD i default) = true ∧ ∀ j, j < i → ¬ l.getD j default = l.getD i default := by
  intro i hi
  simp only [namesB, Bool.and_eq_true, List.all_eq_true] at h
  have h1 := h.2 i (List.mem_range.2 hi)
  simp only [nmOk, Bool.and_eq_true, List.all_eq_true] at h1
  refine ⟨h1.1, fun j hj e => ?_⟩
  have := h1.2 j (List.mem_range.2 hj)
  rw [eqB_iff.2 e] at this
  exact absurd this (by decide)
theorem cnt_namesB (p : Pr) : namesB (cntP p).names = true := by
  rcases Bool.eq_false_or_eq_true (validP p) with h | h
  · have hp : prOk p := @of_decide_eq_true _ (Classical.propDecidable _) h
    rw [cntP_t h]
    exact hp.1
  · rw [cntP_f h]; decide
theorem mpN_at {l : List ByteArray} {b : ByteArray} {i : Nat} (hi : l.getD i default = b) : ∀ {k : Nat}, i < k → (∀ j, j < k → j ≠ i → ¬ l.getD j default = b) → mpN l k (.s b) = some (.v (.int .i64 i))
  | 0, h, _ => by omega
  | k + 1, h, hn => by
    show (if KV.s b = .s (l.getD k default) then some (D.v (.int .i64 k)) else mpN l k (.s b)) = _
    by_cases hk : k = i
    · subst hk
      rw [if_pos (by rw [hi])]
    · rw [if_neg (fun e => hn k (by omega) hk (by cases e; rfl))]
      exact mpN_at hi (by omega) fun j hj hji => hn j (by omega) hji
noncomputable def Γpfn (mx : Int) (pb : Bool) : Ctx := fun f => match f with
  | 80 => some (.pure ctCnt)
  | 69 => some (.gen (inlW true Γix Tryz.T (GlT mx pb) Tryz.f69 cIdx))
  | _ => none
theorem Γpfn_ok : CtxOk Tryz.prog (GlT mx pb) (Γpfn mx pb) := by
  intro f h hh
  simp only [Γpfn] at hh
  split at hh <;> simp at hh <;> subst hh
  · exact pCnt_ok
  · exact soundT_inlW Γix_ok Tryz.T_ok Tryz.mixed Tryz.func69 rfl (by kernel_rfl)
set_option maxHeartbeats 4000000 in
theorem pFind_ok : Sound Tryz.prog (GlT mx pb) 67 ctFnd := by
  refine sound_by (cc := true) Γpfn_ok Tryz.T_ok Tryz.mixed Tryz.func67 rfl (by kernel_rfl) (fun _ => rfl) (fun _ _ => by show 2 ≤ 25; decide) ?_
  rintro ⟨p, nm⟩ hp
  have p1 : ctCnt.pre p := hp
  have hl := cnt_len250 p
  have hl1 := cnt_names p
  have hB := nmOk_of (cnt_namesB p)
  have hz : ¬ ((cntP p).names.length : Int) = 0 := by omega
  repeat' (first | refine gw ?_ | (refine br (fun q_ => ?_) (fun q_ => ?_) <;> try simp only [Int.toNat_natCast, Nat.mul_one, Nat.add_zero] at q_) | (refine brF (fun q_ => ?_) (fun q_ => ?_) <;> try simp only [Int.toNat_natCast, Nat.mul_one, Nat.add_zero] at q_))
  · exfalso; omega
  refine ⟨0, Nat, fun k => ⟨[(4, .mp 1), (18, slD 1 strD (cntP p).names), (19, .v (.int .i64 (cntP p).names.length)), (20, .v (.int .i64 k))], [.cells 27 [slD 1 strD p.names, spsD p.spans], .map 9 3 .s (mpN (cntP p).names k)], []⟩, fun k => k ≤ (cntP p).names.length, fun k => (cntP p).names.length - k, fun _ => (by show 1 ≤ 2; decide), ⟨0, Nat.zero_le _, StLe.m1 tmS ⟨⟨rfl, EntL.refl _, rfl⟩, ⟨rfl, rfl, rfl, fun _ => trivial⟩, trivial⟩⟩, ?_⟩
  intro k (hk : k ≤ (cntP p).names.length)
  by_cases hlt : k < (cntP p).names.length
  · have hb := hB k hlt
    have hi := mpN_none hb.2
    have hb1 := hb.1
    repeat' (first | refine gw ?_ | (refine br (fun q_ => ?_) (fun q_ => ?_) <;> try simp only [Int.toNat_natCast, Nat.mul_one, Nat.add_zero] at q_) | (refine brF (fun q_ => ?_) (fun q_ => ?_) <;> try simp only [Int.toNat_natCast, Nat.mul_one, Nat.add_zero] at q_))
    refine ⟨fun d hdd => absurd (hi.symm.trans hdd) (by simp), fun _ => ?_⟩
    repeat' (first | refine gw ?_ | (refine br (fun q_ => ?_) (fun q_ => ?_) <;> try simp only [Int.toNat_natCast, Nat.mul_one, Nat.add_zero] at q_) | (refine brF (fun q_ => ?_) (fun q_ => ?_) <;> try simp only [Int.toNat_natCast, Nat.mul_one, Nat.add_zero] at q_))
    exact ⟨k + 1, (by show k + 1 ≤ _; omega), (by show _ - (k + 1) < _ - k; omega), StLe.m1 tmS ⟨⟨rfl, EntL.refl _, rfl⟩, ⟨rfl, rfl, rfl, fun key => by
      show OptRen [0, 1] (if key = .s ((cntP p).names.getD k default) then some (D.v (.int .i64 k)) else mpN (cntP p).names k key) (if key = .s ((cntP p).names.getD k default) then some (D.v (.int .i64 k)) else mpN (cntP p).names k key)
      exact optRen_self (mpN_pd (cntP p).names (k + 1) key)⟩, trivial⟩⟩
  · have hke : k = (cntP p).names.length := by omega
    repeat' (first | refine gw ?_ | (refine br (fun q_ => ?_) (fun q_ => ?_) <;> try simp only [Int.toNat_natCast, Nat.mul_one, Nat.add_zero] at q_) | (refine brF (fun q_ => ?_) (fun q_ => ?_) <;> try simp only [Int.toNat_natCast, Nat.mul_one, Nat.add_zero] at q_))
    refine ⟨fun d hdd => ?_, fun hnn => ?_⟩
    · have hex : ∃ i, i < (cntP p).names.length ∧ (cntP p).names.getD i default = nm := by
        by_cases h : ∃ i, i < (cntP p).names.length ∧ (cntP p).names.getD i default = nm
        · exact h
        · have := mpN_none (l := (cntP p).names) (b := nm) (k := k) (fun j hj e => h ⟨j, by omega, e⟩)
          exact absurd (this.symm.trans hdd) (by simp)
      obtain ⟨i, hi, hie⟩ := hex
      have huni : ∀ j, j < (cntP p).names.length → j ≠ i → ¬ (cntP p).names.getD j default = nm := fun j hj hji e => by
        rcases Nat.lt_or_ge j i with h1 | h1
        · exact (hB i hi).2 j h1 (e.trans hie.symm)
        · exact (hB j hj).2 i (by omega) (hie.trans e.symm)
      have e1 := mpN_at hie (k := k) (by omega) (fun j hj hji => huni j (by omega) hji)
      obtain rfl : d = .v (.int .i64 i) := Option.some.inj (hdd.symm.trans e1)
      have e := fnd_at hi (fun j hj => huni j (by omega) (by omega)) hie
      repeat' (first | refine gw ?_ | (refine br (fun q_ => ?_) (fun q_ => ?_) <;> try simp only [Int.toNat_natCast, Nat.mul_one, Nat.add_zero] at q_) | (refine brF (fun q_ => ?_) (fun q_ => ?_) <;> try simp only [Int.toNat_natCast, Nat.mul_one, Nat.add_zero] at q_))
      exact entR_eq (d' := ctFnd.out (p, nm)) (by show D.tu [.v (.int .i64 i), .v (.bool true)] = D.tu [.v (.int .i64 (fndV (cntP p).names nm)), .v (.bool (fndB (cntP p).names nm))]; rw [fndV, fndB, e]; rfl) rfl
    · have e := fnd_no (l := (cntP p).names) (n := nm) (fun j hj ee => by
        obtain ⟨i, hi⟩ := mpN_some (l := (cntP p).names) (b := nm) (k := k) ⟨j, by omega, ee⟩
        exact absurd (hi.symm.trans hnn) (by simp))
      repeat' (first | refine gw ?_ | (refine br (fun q_ => ?_) (fun q_ => ?_) <;> try simp only [Int.toNat_natCast, Nat.mul_one, Nat.add_zero] at q_) | (refine brF (fun q_ => ?_) (fun q_ => ?_) <;> try simp only [Int.toNat_natCast, Nat.mul_one, Nat.add_zero] at q_))
      exact entR_eq (d' := ctFnd.out (p, nm)) (by show D.tu [.v (.int .i64 0), .v (.bool false)] = D.tu [.v (.int .i64 (fndV (cntP p).names nm)), .v (.bool (fndB (cntP p).names nm))]; rw [fndV, fndB, e]; rfl) rfl
end Go.Proofs
