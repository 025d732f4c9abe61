import Derived.Test.YtfalaomjfkaphaaGreatDoorT1z
set_option linter.unusedVariables false
set_option linter.unusedSimpArgs false
namespace Go.Proofs
open Go Go.Sx Go.RowKit
variable {mx : Int} {pb : Bool}
set_option maxHeartbeats 4000000 in
theorem r2Cut_ok : Sound Tryz.prog (GlT mx pb) 75 ctSplit := by
  refine sound_by (cc := true) Γ0_ok Tryz.T_ok Tryz.mixed Tryz.func75 rfl (by kernel_rfl) (fun _ => rfl) (fun _ _ => by show 2 ≤ 34; decide) ?_
  rintro ⟨s, c⟩ hs
  have hs : s.size ≤ 1000000000 := hs
  repeat' (first | refine gw ?_ | (refine br (fun q_ => ?_) (fun q_ => ?_) <;> try simp only [Int.toNat_natCast, Nat.mul_one, Nat.add_zero] at q_) | (refine brF (fun q_ => ?_) (fun q_ => ?_) <;> try simp only [Int.toNat_natCast, Nat.mul_one, Nat.add_zero] at q_))
  refine ⟨0, Nat × Nat × List ByteArray, fun | (k, f, o) => ⟨[(0, .v (.string s)), (1, .v (.int .u8 c.toNat)), (5, .row 0), (6, .v (.int .i64 f)), (7, .v (.int .i64 k))], [rowL 9 1 strD o], []⟩, fun | (k, f, o) => k ≤ s.size ∧ f ≤ k ∧ o.length ≤ k ∧ (∀ j, f ≤ j → j < k → ¬ bAt s j = c.toNat) ∧ o ++ (splitL c (s.data.toList.drop f)).map listB = splB c s, fun x => s.size - x.1, fun _ => Nat.zero_le _, ⟨(0, 0, []), ⟨Nat.zero_le _, Nat.zero_le _, Nat.zero_le _, fun j _ hj => by omega, rfl⟩, StLe.trans (StLe.nilRow (t := 5) 9 1 (fun _ _ => .junk) rfl) (StLe.ren [0] tmS ⟨own_nil, trivial⟩ (by decide))⟩, ?_⟩
  rintro ⟨k, f, o⟩ ⟨hk, hf, hol, hn, ho⟩
  by_cases hlt : k < s.size
  · repeat' (first | refine gw ?_ | (refine br (fun q_ => ?_) (fun q_ => ?_) <;> try simp only [Int.toNat_natCast, Nat.mul_one, Nat.add_zero] at q_) | (refine brF (fun q_ => ?_) (fun q_ => ?_) <;> try simp only [Int.toNat_natCast, Nat.mul_one, Nat.add_zero] at q_))
    · exact ⟨(k + 1, k + 1, o ++ [bcut s f k]), ⟨by omega, by omega, by simp; omega, fun j h1 h2 => by omega, by rw [← ho, seg_step hf hlt hn q_, List.append_assoc]; rfl⟩, (by show s.size - (k + 1) < s.size - k; omega), StLe.ren [1] tmS ⟨own_app (lt1 (Ent.refl _)), trivial⟩ (by decide)⟩
    · exact ⟨(k + 1, f, o), ⟨by omega, by omega, by omega, fun j h1 h2 => by
        by_cases hj : j = k
        · subst hj; exact q_
        · exact hn j h1 (by omega), ho⟩, (by show s.size - (k + 1) < s.size - k; omega), StLe.ren [0] tmS ⟨own_refl, trivial⟩ (by decide)⟩
  · repeat' (first | refine gw ?_ | (refine br (fun q_ => ?_) (fun q_ => ?_) <;> try simp only [Int.toNat_natCast, Nat.mul_one, Nat.add_zero] at q_) | (refine brF (fun q_ => ?_) (fun q_ => ?_) <;> try simp only [Int.toNat_natCast, Nat.mul_one, Nat.add_zero] at q_))
    refine EntR.of rfl ?_
    have e : splB c s = o ++ [bcut s f s.size] := by rw [← ho, seg_end (fun j h1 h2 => hn j h1 (by omega)), bcut_suf]; rfl
    show Ent _ (slD 1 strD (splB c s))
    rw [e]
    exact ent_app (lt1 (Ent.refl _))

/-! sequences of numbers -/
def pcWs (s : ByteArray) : List ByteArray := if emB s = true then [] else splB 32 s
noncomputable def pcB (w : ByteArray) : Bool := pcE w == 0
noncomputable def pcsT (s : ByteArray) : List Int := if (pcWs s).all pcB = true then (pcWs s).map pcC else []
noncomputable def pcsE (s : ByteArray) : Int := if (pcWs s).all pcB = true then 0 else 3
noncomputable def ctPcs : Ct := { ι := ByteArray, inp := fun s => [.v (.string s)], out := fun s => .tu [slD 1 intD (pcsT s), .v (.int .i64 (pcsE s))], pre := fun s => s.size ≤ 1000000000 }
theorem pcs_no {s : ByteArray} (h : (pcWs s).all pcB = false) : pcsT s = [] ∧ pcsE s = 3 := by
  unfold pcsT pcsE
  rw [h]
  exact ⟨rfl, rfl⟩
theorem pcs_yes {s : ByteArray} (h : (pcWs s).all pcB = true) : pcsT s = (pcWs s).map pcC ∧ pcsE s = 0 := by
  unfold pcsT pcsE
  rw [h]
  exact ⟨rfl, rfl⟩
noncomputable def Γpcs : Ctx := fun f => match f with
  | 94 => some (.pure (ctSplitS ⟨#[32]⟩ 32))
  | 92 => some (.pure ctPc)
  | _ => none
theorem Γpcs_ok : CtxOk Tryz.prog (GlT mx pb) Γpcs := by
  intro f h hh
  simp only [Γpcs] at hh
  split at hh <;> simp at hh <;> subst hh
  · exact (splitS_ok 32)
  · exact cpParse_ok
set_option maxHeartbeats 4000000 in
theorem parseCodes_ok : Sound Tryz.prog (GlT mx pb) 62 ctPcs := by
  refine sound_by (cc := true) Γpcs_ok Tryz.T_ok Tryz.mixed Tryz.func62 rfl (by kernel_rfl) (fun _ => rfl) (fun _ _ => by show 1 ≤ 31; decide) ?_
  intro (s : ByteArray) (hs : s.size ≤ 1000000000)
  have p1 : (ctSplitS ⟨#[32]⟩ 32).pre s := hs
  repeat' (first | refine gw ?_ | (refine br (fun q_ => ?_) (fun q_ => ?_) <;> try simp only [Int.toNat_natCast, Nat.mul_one, Nat.add_zero] at q_) | (refine brF (fun q_ => ?_) (fun q_ => ?_) <;> try simp only [Int.toNat_natCast, Nat.mul_one, Nat.add_zero] at q_))
  · have e : pcWs s = [] := if_pos (emB_iff.2 q_)
    have := pcs_yes (s := s) (by rw [e]; rfl)
    refine EntR.of rfl ?_
    show Ent _ (D.tu [slD 1 intD (pcsT s), .v (.int .i64 (pcsE s))])
    rw [this.1, this.2, e]
    exact Ent.tu2 Ent.nil (Ent.refl _)
  have ew : pcWs s = splB 32 s := if_neg fun h => q_ (emB_iff.1 h)
  obtain ⟨hL1, hL2, hL3⟩ := splB_len (c := 32) (s := s)
  refine ⟨0, Nat, fun k => ⟨[(4, .row 0), (12, slD 1 strD (splB 32 s)), (13, .v (.int .i64 (splB 32 s).length)), (14, .v (.int .i64 k))], [rowL 3 1 intD (((splB 32 s).take k).map pcC)], []⟩, fun k => k ≤ (splB 32 s).length ∧ ∀ j, j < k → pcB ((splB 32 s).getD j default) = true, fun k => (splB 32 s).length - k, fun _ => Nat.zero_le _, ⟨0, ⟨Nat.zero_le _, fun j hj => by omega⟩, StLe.trans (StLe.nilRow (t := 4) 3 1 (fun _ _ => .junk) rfl) (StLe.ren [0] tmS ⟨own_nil, trivial⟩ (by decide))⟩, ?_⟩
  rintro k ⟨hk, hd⟩
  have hml : (((splB 32 s).take k).map pcC).length = k := by rw [List.length_map, List.length_take]; omega
  by_cases hlt : k < (splB 32 s).length
  · repeat' (first | refine gw ?_ | (refine br (fun q_ => ?_) (fun q_ => ?_) <;> try simp only [Int.toNat_natCast, Nat.mul_one, Nat.add_zero] at q_) | (refine brF (fun q_ => ?_) (fun q_ => ?_) <;> try simp only [Int.toNat_natCast, Nat.mul_one, Nat.add_zero] at q_))
    · have := pcs_no (s := s) (by rw [ew]; exact not_all hlt (beq_eq_false_iff_ne.2 q_))
      refine EntR.of rfl ?_
      show Ent _ (D.tu [slD 1 intD (pcsT s), .v (.int .i64 (pcsE s))])
      rw [this.1, this.2]
      exact Ent.tu2 Ent.nil (Ent.refl _)
    · exact ⟨k + 1, ⟨by omega, next_of hd (beq_iff_eq.2 q_)⟩, (by show _ - (k + 1) < _ - k; omega), StLe.ren [1] tmS ⟨by rw [take_at hlt, List.map_append]; exact own_app (lt1 (Ent.refl _)), trivial⟩ (by decide)⟩
  · have he : (splB 32 s).take k = splB 32 s := List.take_of_length_le (by omega)
    have := pcs_yes (s := s) (by rw [ew]; exact all_of (by omega) hd)
    repeat' (first | refine gw ?_ | (refine br (fun q_ => ?_) (fun q_ => ?_) <;> try simp only [Int.toNat_natCast, Nat.mul_one, Nat.add_zero] at q_) | (refine brF (fun q_ => ?_) (fun q_ => ?_) <;> try simp only [Int.toNat_natCast, Nat.mul_one, Nat.add_zero] at q_))
    refine EntR.of rfl ?_
    show Ent _ (D.tu [slD 1 intD (pcsT s), .v (.int .i64 (pcsE s))])
    rw [this.1, this.2, ew]
    exact Ent.tu2 (Ent.of_eq (show slD 1 intD (((splB 32 s).take k).map pcC) = slD 1 intD ((splB 32 s).map pcC) by rw [he])) (Ent.refl _)
noncomputable def Γrpc : Ctx := fun f => match f with
  | 75 => some (.pure ctSplit)
  | 55 => some (.pure ctPc)
  | _ => none
theorem Γrpc_ok : CtxOk Tryz.prog (GlT mx pb) Γrpc := by
  intro f h hh
  simp only [Γrpc] at hh
  split at hh <;> simp at hh <;> subst hh
  · exact r2Cut_ok
  · exact rParse_ok
set_option maxHeartbeats 4000000 in
theorem rParseCodes_ok : Sound Tryz.prog (GlT mx pb) 41 ctPcs := by
  refine sound_by (cc := true) Γrpc_ok Tryz.T_ok Tryz.mixed Tryz.func41 rfl (by kernel_rfl) (fun _ => rfl) (fun _ _ => by show 1 ≤ 36; decide) ?_
  intro (s : ByteArray) (hs : s.size ≤ 1000000000)
  have p1 : ctSplit.pre (s, 32) := hs
  obtain ⟨hL1, hL2, hL3⟩ := splB_len (c := 32) (s := s)
  repeat' (first | refine gw ?_ | (refine br (fun q_ => ?_) (fun q_ => ?_) <;> try simp only [Int.toNat_natCast, Nat.mul_one, Nat.add_zero] at q_) | (refine brF (fun q_ => ?_) (fun q_ => ?_) <;> try simp only [Int.toNat_natCast, Nat.mul_one, Nat.add_zero] at q_))
  by_cases hem : s = ⟨#[]⟩
  · have e : pcWs s = [] := if_pos (emB_iff.2 hem)
    have := pcs_yes (s := s) (by rw [e]; rfl)
    refine ⟨2, ?_⟩
    repeat' (first | refine gw ?_ | (refine br (fun q_ => ?_) (fun q_ => ?_) <;> try simp only [Int.toNat_natCast, Nat.mul_one, Nat.add_zero] at q_) | (refine brF (fun q_ => ?_) (fun q_ => ?_) <;> try simp only [Int.toNat_natCast, Nat.mul_one, Nat.add_zero] at q_))
    all_goals try exact absurd (show 0 < ((splB 32 s).length : Int) by omega) q_
    all_goals
      refine EntR.of rfl ?_
      show Ent _ (D.tu [slD 1 intD (pcsT s), .v (.int .i64 (pcsE s))])
      rw [this.1, this.2, e]
      exact Ent.tu2 Ent.nil (Ent.refl _)
  have ew : pcWs s = splB 32 s := if_neg fun h => hem (emB_iff.1 h)
  refine ⟨0, Nat, fun k => ⟨[(0, .v (.string s)), (4, .row 0), (5, slD 1 strD (splB 32 s)), (6, .v (.int .i64 k))], [rowL 3 1 intD (((splB 32 s).take k).map pcC)], []⟩, fun k => k ≤ (splB 32 s).length ∧ ∀ j, j < k → pcB ((splB 32 s).getD j default) = true, fun k => (splB 32 s).length - k, fun _ => Nat.zero_le _, ⟨0, ⟨Nat.zero_le _, fun j hj => by omega⟩, StLe.trans (StLe.nilRow (t := 4) 3 1 (fun _ _ => .junk) rfl) (StLe.ren [0] tmS ⟨own_nil, trivial⟩ (by decide))⟩, ?_⟩
  rintro k ⟨hk, hd⟩
  have hml : (((splB 32 s).take k).map pcC).length = k := by rw [List.length_map, List.length_take]; omega
  by_cases hlt : k < (splB 32 s).length
  · repeat' (first | refine gw ?_ | (refine br (fun q_ => ?_) (fun q_ => ?_) <;> try simp only [Int.toNat_natCast, Nat.mul_one, Nat.add_zero] at q_) | (refine brF (fun q_ => ?_) (fun q_ => ?_) <;> try simp only [Int.toNat_natCast, Nat.mul_one, Nat.add_zero] at q_))
    · have := pcs_no (s := s) (by rw [ew]; exact not_all hlt (beq_eq_false_iff_ne.2 q_))
      refine EntR.of rfl ?_
      show Ent _ (D.tu [slD 1 intD (pcsT s), .v (.int .i64 (pcsE s))])
      rw [this.1, this.2]
      exact Ent.tu2 Ent.nil (Ent.refl _)
    · exact ⟨k + 1, ⟨by omega, next_of hd (beq_iff_eq.2 q_)⟩, (by show _ - (k + 1) < _ - k; omega), StLe.ren [1] tmS ⟨by rw [take_at hlt, List.map_append]; exact own_app (lt1 (Ent.refl _)), trivial⟩ (by decide)⟩
  · have he : (splB 32 s).take k = splB 32 s := List.take_of_length_le (by omega)
    have := pcs_yes (s := s) (by rw [ew]; exact all_of (by omega) hd)
    repeat' (first | refine gw ?_ | (refine br (fun q_ => ?_) (fun q_ => ?_) <;> try simp only [Int.toNat_natCast, Nat.mul_one, Nat.add_zero] at q_) | (refine brF (fun q_ => ?_) (fun q_ => ?_) <;> try simp only [Int.toNat_natCast, Nat.mul_one, Nat.add_zero] at q_))
    refine EntR.of rfl ?_
    show Ent _ (D.tu [slD 1 intD (pcsT s), .v (.int .i64 (pcsE s))])
    rw [this.1, this.2, ew]
    exact Ent.tu2 (Ent.of_eq (show slD 1 intD (((splB 32 s).take k).map pcC) = slD 1 intD ((splB 32 s).map pcC) by rw [he])) (Ent.refl _)
end Go.Proofs
