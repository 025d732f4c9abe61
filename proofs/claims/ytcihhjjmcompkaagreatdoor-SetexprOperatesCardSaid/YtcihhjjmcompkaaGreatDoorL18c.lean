import Derived.Test.YtcihhjjmcompkaaGreatDoorL18
import Derived.Test.YtcihhjjmcompkaaGreatDoorXl4
import Derived.Test.YtcihhjjmcompkaaGreatDoorUz
set_option linter.unusedVariables false
set_option linter.unusedSimpArgs false
namespace Go.Proofs
open Go Go.Sx
variable {mx : Int} {pb : Bool}
def ctShort : Ct := { ι := ByteArray, inp := fun s => [.v (.string s)], out := fun s => .v (.bool (decide (s.size ≤ 80 ∧ c91 s (min s.size 100) ≤ 6))), pre := fun _ => True }
theorem c91_le {s : ByteArray} : ∀ k, c91 s k ≤ k
  | 0 => Nat.zero_le _
  | k + 1 => by
    have := c91_le (s := s) k
    show c91 s k + (if _ then 1 else 0) ≤ _
    split <;> omega
set_option maxHeartbeats 2000000 in
theorem sh18_ok : Sound Tryz.prog (GlT mx pb) 22 ctShort := by
  refine sound_by (cc := true) Γ0_ok Tryz.T_ok Tryz.mixed Tryz.func22 rfl (by kernel_rfl) (fun _ => rfl) (fun _ _ => by show 1 ≤ 28; decide) ?_
  intro (s : ByteArray) _
  repeat' (first | refine gw ?_ | (refine br (fun q_ => ?_) (fun q_ => ?_) <;> try simp only [Int.toNat_natCast, Nat.mul_one, Nat.add_zero] at q_) | (refine brF (fun q_ => ?_) (fun q_ => ?_) <;> try simp only [Int.toNat_natCast, Nat.mul_one, Nat.add_zero] at q_))
  refine ⟨0, Nat, fun k => ⟨[(0, .v (.string s)), (3, .v (.int .i64 (c91 s k))), (4, .v (.int .i64 k))], [], []⟩, fun k => k ≤ s.size ∧ k ≤ 100, fun k => 100 - k, fun _ => Nat.zero_le _, ⟨0, ⟨Nat.zero_le _, Nat.zero_le _⟩, StLe.ren [] tmS trivial (by decide)⟩, ?_⟩
  rintro k ⟨hk, hk2⟩
  have hc := c91_le (s := s) k
  by_cases hlt : k < s.size
  · by_cases h100 : k < 100
    · have hn : c91 s (k + 1) = c91 s k + (if bAt s k = 91 then 1 else 0) := rfl
      repeat' (first | refine gw ?_ | (refine br (fun q_ => ?_) (fun q_ => ?_) <;> try simp only [Int.toNat_natCast, Nat.mul_one, Nat.add_zero] at q_) | (refine brF (fun q_ => ?_) (fun q_ => ?_) <;> try simp only [Int.toNat_natCast, Nat.mul_one, Nat.add_zero] at q_))
      · have e : c91 s (k + 1) = c91 s k + 1 := by rw [hn, if_pos q_]
        exact ⟨k + 1, ⟨hlt, h100⟩, (by show 100 - (k + 1) < 100 - k; omega), by show StLe _ _ ⟨[(0, .v (.string s)), (3, .v (.int .i64 (c91 s (k + 1) : Nat))), (4, .v (.int .i64 (k + 1 : Nat)))], [], []⟩; rw [e]; exact StLe.ren [] tmS trivial (by decide)⟩
      · have e : c91 s (k + 1) = c91 s k := by rw [hn, if_neg q_]; rfl
        exact ⟨k + 1, ⟨hlt, h100⟩, (by show 100 - (k + 1) < 100 - k; omega), by show StLe _ _ ⟨[(0, .v (.string s)), (3, .v (.int .i64 (c91 s (k + 1) : Nat))), (4, .v (.int .i64 (k + 1 : Nat)))], [], []⟩; rw [e]; exact StLe.ren [] tmS trivial (by decide)⟩
    · repeat' (first | refine gw ?_ | (refine br (fun q_ => ?_) (fun q_ => ?_) <;> try simp only [Int.toNat_natCast, Nat.mul_one, Nat.add_zero] at q_) | (refine brF (fun q_ => ?_) (fun q_ => ?_) <;> try simp only [Int.toNat_natCast, Nat.mul_one, Nat.add_zero] at q_))
      refine entR_eq' rfl ?_
      show D.v (.bool false) = D.v (.bool (decide _))
      rw [decide_eq_false (by omega)]
  · have e : min s.size 100 = k := by omega
    repeat' (first | refine gw ?_ | (refine br (fun q_ => ?_) (fun q_ => ?_) <;> try simp only [Int.toNat_natCast, Nat.mul_one, Nat.add_zero] at q_) | (refine brF (fun q_ => ?_) (fun q_ => ?_) <;> try simp only [Int.toNat_natCast, Nat.mul_one, Nat.add_zero] at q_))
    · refine entR_eq' rfl ?_
      show D.v (.bool (decide ((c91 s k : Int) ≤ 6))) = D.v (.bool (decide (s.size ≤ 80 ∧ c91 s (min s.size 100) ≤ 6)))
      rw [e]
      congr 2
      exact decide_eq_decide.2 ⟨fun h => ⟨by omega, by omega⟩, fun h => by omega⟩
    · refine entR_eq' rfl ?_
      show D.v (.bool false) = D.v (.bool (decide _))
      rw [decide_eq_false (by omega)]
theorem sh_yes {s : ByteArray} (h : s.size ≤ 80 ∧ c91 s (min s.size 100) ≤ 6) : ctShort.out s = .v (.bool true) := congrArg (fun b => D.v (.bool b)) (decide_eq_true h)
theorem sh_no {s : ByteArray} (h : ¬ (s.size ≤ 80 ∧ c91 s (min s.size 100) ≤ 6)) : ctShort.out s = .v (.bool false) := congrArg (fun b => D.v (.bool b)) (decide_eq_false h)
theorem sh_size {s : ByteArray} (h : s.size ≤ 80 ∧ c91 s (min s.size 100) ≤ 6) : c91 s s.size ≤ 6 := by
  rw [show s.size = min s.size 100 by omega]
  exact h.2
theorem Whole.len {d : Db} {s : ByteArray} {h : OkS d s} {L : List Rg} {q : PX} (w : Whole d s h L q) : L.length ≤ 6 * s.size := by
  have h1 := w.w.len
  have h2 := nbk_le (s := s) q.1.k
  have h3 := blP_le q
  have h4 := w.e
  have h5 : (blP (pst0 d s h)).1.s = s := rfl
  rw [h5] at h1
  omega
def ctLaw18 : Ct := { ι := ByteArray, inp := fun s => [.v (.string s)], out := fun _ => .v (.bool true), pre := fun _ => True }
noncomputable def Γlc18 (mx : Int) (pb : Bool) : Ctx := fun f => match f with
  | 22 => some (.pure ctShort)
  | 18 => some (.pure ctPrs)
  | 20 => some (.pure ctSameS)
  | 23 => some (.pure ctNotS)
  | 16 => some (.pure ctAl)
  | _ => none
theorem Γlc18_ok : CtxOk Tryz.prog (GlT mx pb) (Γlc18 mx pb) := by
  intro f h hh
  simp only [Γlc18] at hh
  split at hh <;> simp at hh <;> subst hh
  · exact sh18_ok
  · exact prsC_ok
  · exact r2Same_ok
  · exact rNotS_ok
  · exact al_ok
set_option maxHeartbeats 4000000 in
theorem lawSC_ok : Sound Tryz.prog (GlT mx pb) 4 ctLaw18 := by
  refine sound_by (cc := true) Γlc18_ok Tryz.T_ok Tryz.mixed Tryz.func4 rfl (by kernel_rfl) (fun _ => rfl) (fun _ _ => by show 1 ≤ 61; decide) ?_
  intro (s : ByteArray) _
  have a0 : ctAl.pre () := trivial
  have a1 : ctShort.pre s := trivial
  by_cases hs : s.size ≤ 80 ∧ c91 s (min s.size 100) ≤ 6
  · have o1 := sh_yes hs
    have hs2 := sh_size hs
    repeat' (first | refine gl ?_ | (refine br (fun q_ => ?_) (fun q_ => ?_) <;> try simp only [Int.toNat_natCast, Nat.mul_one, Nat.add_zero] at q_) | (refine brF (fun q_ => ?_) (fun q_ => ?_) <;> try simp only [Int.toNat_natCast, Nat.mul_one, Nat.add_zero] at q_))
    rw [o1]
    repeat' (first | refine gl ?_ | (refine br (fun q_ => ?_) (fun q_ => ?_) <;> try simp only [Int.toNat_natCast, Nat.mul_one, Nat.add_zero] at q_) | (refine brF (fun q_ => ?_) (fun q_ => ?_) <;> try simp only [Int.toNat_natCast, Nat.mul_one, Nat.add_zero] at q_))
    refine ⟨(zdb, s), zdb_ent (EntL.refl _), zdb_sm, ?_⟩
    by_cases he : (prs zdb s).2.1 = 0
    · obtain ⟨L, q, w, hp⟩ := prs_whole (h := zS (by omega)) he
      have hc := w.w.canon
      have hl := w.len
      have hl2 := combL_len fullR L 3
      have hf : fullR.length = 1 := rfl
      have p1 : ctNotS.pre L := ⟨canon_id hc ▸ canon_mk (by omega), (by omega)⟩
      have p2 : ctSameS.pre (combL fullR L 3, combL [(0, 1114111)] L 3) := ⟨(by show (combL fullR L 3).length ≤ 1000000; omega), (by show (combL fullR L 3).length ≤ 1000000; omega)⟩
      have p3 : ctSameS.pre (L, L) := ⟨(by show L.length ≤ 1000000; omega), (by show L.length ≤ 1000000; omega)⟩
      have o2 : ctSameS.out (combL fullR L 3, combL [(0, 1114111)] L 3) = .v (.bool true) := congrArg (fun b => D.v (.bool b)) (decide_eq_true rfl)
      have o3 : ctSameS.out (L, L) = .v (.bool true) := congrArg (fun b => D.v (.bool b)) (decide_eq_true rfl)
      rw [prs_out hp]
      repeat' (first | refine gl ?_ | (refine br (fun q_ => ?_) (fun q_ => ?_) <;> try simp only [Int.toNat_natCast, Nat.mul_one, Nat.add_zero] at q_) | (refine brF (fun q_ => ?_) (fun q_ => ?_) <;> try simp only [Int.toNat_natCast, Nat.mul_one, Nat.add_zero] at q_))
      refine ⟨(zdb, cmpS1 s), zdb_ent (EntL.refl _), zdb_sm, ?_⟩
      rw [prs_out (cmp1 w zdb_us hs.1 hs2)]
      repeat' (first | refine gl ?_ | (refine br (fun q_ => ?_) (fun q_ => ?_) <;> try simp only [Int.toNat_natCast, Nat.mul_one, Nat.add_zero] at q_) | (refine brF (fun q_ => ?_) (fun q_ => ?_) <;> try simp only [Int.toNat_natCast, Nat.mul_one, Nat.add_zero] at q_))
      refine ⟨(zdb, cmpS2 s), zdb_ent (EntL.refl _), zdb_sm, ?_⟩
      rw [prs_out (cmp2 w zdb_us hs.1 hs2)]
      repeat' (first | refine gl ?_ | (refine br (fun q_ => ?_) (fun q_ => ?_) <;> try simp only [Int.toNat_natCast, Nat.mul_one, Nat.add_zero] at q_) | (refine brF (fun q_ => ?_) (fun q_ => ?_) <;> try simp only [Int.toNat_natCast, Nat.mul_one, Nat.add_zero] at q_))
      refine ⟨(combL fullR L 3, combL [(0, 1114111)] L 3), EntL.refl _, fun _ => p2, ?_⟩
      rw [o2]
      repeat' (first | refine gl ?_ | (refine br (fun q_ => ?_) (fun q_ => ?_) <;> try simp only [Int.toNat_natCast, Nat.mul_one, Nat.add_zero] at q_) | (refine brF (fun q_ => ?_) (fun q_ => ?_) <;> try simp only [Int.toNat_natCast, Nat.mul_one, Nat.add_zero] at q_))
      exact EntR.of rfl (Ent.refl _)
    · generalize hp : prs zdb s = P at he
      obtain ⟨L, e, a⟩ := P
      rw [prs_out hp]
      have he : ¬ e = 0 := he
      repeat' (first | refine gl ?_ | (refine br (fun q_ => ?_) (fun q_ => ?_) <;> try simp only [Int.toNat_natCast, Nat.mul_one, Nat.add_zero] at q_) | (refine brF (fun q_ => ?_) (fun q_ => ?_) <;> try simp only [Int.toNat_natCast, Nat.mul_one, Nat.add_zero] at q_))
      exact EntR.of rfl (Ent.refl _)
  · have o1 := sh_no hs
    repeat' (first | refine gl ?_ | (refine br (fun q_ => ?_) (fun q_ => ?_) <;> try simp only [Int.toNat_natCast, Nat.mul_one, Nat.add_zero] at q_) | (refine brF (fun q_ => ?_) (fun q_ => ?_) <;> try simp only [Int.toNat_natCast, Nat.mul_one, Nat.add_zero] at q_))
    rw [o1]
    repeat' (first | refine gl ?_ | (refine br (fun q_ => ?_) (fun q_ => ?_) <;> try simp only [Int.toNat_natCast, Nat.mul_one, Nat.add_zero] at q_) | (refine brF (fun q_ => ?_) (fun q_ => ?_) <;> try simp only [Int.toNat_natCast, Nat.mul_one, Nat.add_zero] at q_))
    exact EntR.of rfl (Ent.refl _)
end Go.Proofs
