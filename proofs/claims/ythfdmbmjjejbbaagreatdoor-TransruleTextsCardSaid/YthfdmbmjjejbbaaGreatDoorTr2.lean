import Derived.Test.YthfdmbmjjejbbaaGreatDoorTr0
import Derived.Test.YthfdmbmjjejbbaaGreatDoorGr1
set_option linter.unusedVariables false
set_option linter.unusedSimpArgs false
namespace Go.Proofs
open Go Go.Sx
variable {mx : Int} {pb : Bool}

/-! transrule.checked, Check -/
noncomputable def Γch (mx : Int) (pb : Bool) : Ctx := fun f => match f with
  | 18 => some (.pure ctVs)
  | 48 => some (.pure ctConcat)
  | 46 => some (.pure ctValid)
  | _ => none
theorem Γch_ok : CtxOk Tryz.prog (GlT mx pb) (Γch mx pb) := by
  intro f h hh
  simp only [Γch] at hh
  split at hh <;> simp at hh <;> subst hh
  · exact pVs_ok
  · exact concat_ok
  · exact valid_ok
def ctOneP : Ct := ctVs
set_option maxHeartbeats 8000000 in
theorem pOne_ok : Sound Tryz.prog (GlT mx pb) 22 ctOneE := by
  refine sound_by (cc := true) Γch_ok Tryz.T_ok Tryz.mixed Tryz.func22 rfl (by kernel_rfl) (fun _ => rfl) (fun _ _ => by show 1 ≤ 91; decide) ?_
  rintro (x : Tl) ⟨h1, h2, h3, h4⟩
  have hl1 := h1.1
  have hl2 := h2.1
  have hl3 := h3.1
  have hfl : [x.bef, x.mat, x.aft].flatten = x.bef ++ (x.mat ++ x.aft) := by simp
  repeat' (first | refine gl ?_ | (refine br (fun q_ => ?_) (fun q_ => ?_) <;> try simp only [Int.toNat_natCast, Nat.mul_one, Nat.add_zero] at q_) | (refine brF (fun q_ => ?_) (fun q_ => ?_) <;> try simp only [Int.toNat_natCast, Nat.mul_one, Nat.add_zero] at q_))
  all_goals first
    | exact EntR.int (oneE_size fun h => by unfold szT at h; omega).symm
    | skip
  · have hz : szT x := by unfold szT; omega
    obtain ⟨F, hF⟩ : ∃ F, F = x.bef ++ (x.mat ++ x.aft) := ⟨_, rfl⟩
    have hF0 := hF
    rw [← hF] at hfl
    have hFl : F.length ≤ 30 := by rw [hF, List.length_append, List.length_append]; omega
    have hS : ∀ i, i < F.length → (F.getD i default).length ≤ 12 := by
      intro i hi
      have hm := getD_mem' hi
      rw [hF] at hm
      have hs : ∀ {L : List (List Rg)} {y : List Rg}, smS L → y ∈ L → y.length ≤ 12 := by
        intro L y hL hy
        obtain ⟨n, hn, rfl⟩ := List.getElem_of_mem hy
        have := hL.2 n hn
        rw [List.getD_eq_getElem?_getD, List.getElem?_eq_getElem hn] at this
        exact this
      rcases List.mem_append.1 hm with hm | hm
      · rw [hF]; exact hs h1 hm
      · rcases List.mem_append.1 hm with hm | hm
        · rw [hF]; exact hs h2 hm
        · rw [hF]; exact hs h3 hm
    have h3F : setT3 x ↔ rgtS F := by rw [hF, rgtS_app, rgtS_app]; exact Iff.rfl
    clear hF
    refine ⟨[x.bef, x.mat, x.aft], EntL.cons (ent_lit rfl rfl) (EntL.refl []), ⟨(by decide : (3 : Nat) ≤ 1000), by rw [hfl]; omega⟩, ?_⟩
    rw [show ctConcat.out [x.bef, x.mat, x.aft] = stsD F from by show stsD _ = _; rw [hfl]]
    repeat' (first | refine gl ?_ | (refine br (fun q_ => ?_) (fun q_ => ?_) <;> try simp only [Int.toNat_natCast, Nat.mul_one, Nat.add_zero] at q_) | (refine brF (fun q_ => ?_) (fun q_ => ?_) <;> try simp only [Int.toNat_natCast, Nat.mul_one, Nat.add_zero] at q_))
    refine ⟨0, Nat, fun k => ⟨[(1, .own 0 0), (37, stsD F), (38, .v (.int .i64 F.length)), (39, .v (.int .i64 k))], [.cells 35 [tlD x 0, tlD x 1, tlD x 2, tlD x 3]], []⟩, fun k => k ≤ F.length ∧ ∀ j, j < k → okS (F.getD j default), fun k => F.length - k, fun _ => Nat.zero_le _, ⟨0, ⟨Nat.zero_le _, fun j hj => by omega⟩, StLe.ren [0] tmS ⟨⟨rfl, EntL.refl _, rfl⟩, trivial⟩ (by decide)⟩, ?_⟩
    rintro k ⟨hk, hd⟩
    by_cases hlt : k < F.length
    · have p1 : ctVs.pre (F.getD k default) := hS k hlt
      repeat' (first | refine gl ?_ | (refine br (fun q_ => ?_) (fun q_ => ?_) <;> try simp only [Int.toNat_natCast, Nat.mul_one, Nat.add_zero] at q_) | (refine brF (fun q_ => ?_) (fun q_ => ?_) <;> try simp only [Int.toNat_natCast, Nat.mul_one, Nat.add_zero] at q_))
      · exact EntR.int (oneE_data hz fun h => (h3F.1 h k hlt).2 (by omega)).symm
      · exact ⟨k + 1, ⟨by omega, next_of hd ⟨by assumption, by omega⟩⟩, (by show F.length - (k + 1) < F.length - k; omega), StLe.ren [0] tmS ⟨⟨rfl, EntL.refl _, rfl⟩, trivial⟩ (by decide)⟩
      · exact EntR.int (oneE_data hz fun h => q_ (h3F.1 h k hlt).1).symm
    · have hs : setT3 x := h3F.2 fun i hi => hd i (by omega)
      clear hd hS
      repeat' (first | refine gl ?_ | (refine br (fun q_ => ?_) (fun q_ => ?_) <;> try simp only [Int.toNat_natCast, Nat.mul_one, Nat.add_zero] at q_) | (refine brF (fun q_ => ?_) (fun q_ => ?_) <;> try simp only [Int.toNat_natCast, Nat.mul_one, Nat.add_zero] at q_))
      refine ⟨0, Nat, fun k => ⟨[(1, .own 0 0), (54, rgsD x.res), (55, .v (.int .i64 x.res.length)), (56, .v (.int .i64 k))], [.cells 35 [tlD x 0, tlD x 1, tlD x 2, tlD x 3]], []⟩, fun k => k ≤ x.res.length ∧ ∀ j, j < k → pcOk x.mat.length (x.res.getD j default), fun k => x.res.length - k, fun _ => Nat.zero_le _, ⟨0, ⟨Nat.zero_le _, fun j hj => by omega⟩, StLe.ren [0] tmS ⟨⟨rfl, EntL.refl _, rfl⟩, trivial⟩ (by decide)⟩, ?_⟩
      clear hlt hk
      clear k
      rintro k ⟨hk, hd⟩
      by_cases hlt : k < x.res.length
      · repeat' (first | refine gl ?_ | (refine br (fun q_ => ?_) (fun q_ => ?_) <;> try simp only [Int.toNat_natCast, Nat.mul_one, Nat.add_zero] at q_) | (refine brF (fun q_ => ?_) (fun q_ => ?_) <;> try simp only [Int.toNat_natCast, Nat.mul_one, Nat.add_zero] at q_))
        all_goals first
          | exact EntR.int (oneE_range hz hs fun h => by
              have := h k hlt
              unfold pcOk at this
              rcases this with ⟨e1, e2⟩ | ⟨e1, e2, e3⟩ <;> first | omega | simp_all).symm
          | exact ⟨k + 1, ⟨by omega, next_of hd (by unfold pcOk; first | exact .inl ⟨by assumption, by assumption⟩ | exact .inr ⟨by omega, by omega, by omega⟩)⟩, (by show x.res.length - (k + 1) < x.res.length - k; omega), StLe.ren [0] tmS ⟨⟨rfl, EntL.refl _, rfl⟩, trivial⟩ (by decide)⟩
      · repeat' (first | refine gl ?_ | (refine br (fun q_ => ?_) (fun q_ => ?_) <;> try simp only [Int.toNat_natCast, Nat.mul_one, Nat.add_zero] at q_) | (refine brF (fun q_ => ?_) (fun q_ => ?_) <;> try simp only [Int.toNat_natCast, Nat.mul_one, Nat.add_zero] at q_))
        exact EntR.int (oneE_ok hz hs fun i hi => hd i (by omega)).symm
noncomputable def Γpk (mx : Int) (pb : Bool) : Ctx := fun f => match f with
  | 22 => some (.pure ctOneE)
  | _ => none
theorem Γpk_ok : CtxOk Tryz.prog (GlT mx pb) (Γpk mx pb) := by
  intro f h hh
  simp only [Γpk] at hh
  split at hh <;> simp at hh <;> subst hh
  · exact pOne_ok
set_option maxHeartbeats 4000000 in
theorem pChk_ok : Sound Tryz.prog (GlT mx pb) 9 ctChkE := by
  refine sound_by (cc := true) Γpk_ok Tryz.T_ok Tryz.mixed Tryz.func9 rfl (by kernel_rfl) (fun _ => rfl) (fun _ _ => by show 1 ≤ 21; decide) ?_
  intro (l : List Tl) (hl : smL l)
  have h6 := hl.1
  repeat' (first | refine gl ?_ | (refine br (fun q_ => ?_) (fun q_ => ?_) <;> try simp only [Int.toNat_natCast, Nat.mul_one, Nat.add_zero] at q_) | (refine brF (fun q_ => ?_) (fun q_ => ?_) <;> try simp only [Int.toNat_natCast, Nat.mul_one, Nat.add_zero] at q_))
  refine ⟨0, Nat, fun k => ⟨[(9, tlsD l), (10, .v (.int .i64 l.length)), (11, .v (.int .i64 k))], [], []⟩, fun k => k ≤ l.length ∧ ∀ j, j < k → oneE (l.getD j default) = 0, fun k => l.length - k, fun _ => Nat.zero_le _, ⟨0, ⟨Nat.zero_le _, fun j hj => by omega⟩, StLe.ren [] tmS trivial (by decide)⟩, ?_⟩
  rintro k ⟨hk, hd⟩
  by_cases hlt : k < l.length
  · have p1 : ctOneE.pre (l.getD k default) := hl.2 k hlt
    repeat' (first | refine gl ?_ | (refine br (fun q_ => ?_) (fun q_ => ?_) <;> try simp only [Int.toNat_natCast, Nat.mul_one, Nat.add_zero] at q_) | (refine brF (fun q_ => ?_) (fun q_ => ?_) <;> try simp only [Int.toNat_natCast, Nat.mul_one, Nat.add_zero] at q_))
    · exact EntR.int (chkE_at hlt hd q_).symm
    · exact ⟨k + 1, ⟨by omega, next_of hd q_⟩, (by show l.length - (k + 1) < l.length - k; omega), StLe.ren [] tmS trivial (by decide)⟩
  · repeat' (first | refine gl ?_ | (refine br (fun q_ => ?_) (fun q_ => ?_) <;> try simp only [Int.toNat_natCast, Nat.mul_one, Nat.add_zero] at q_) | (refine brF (fun q_ => ?_) (fun q_ => ?_) <;> try simp only [Int.toNat_natCast, Nat.mul_one, Nat.add_zero] at q_))
    exact EntR.int (chkE_0 fun i hi => hd i (by omega)).symm
end Go.Proofs
