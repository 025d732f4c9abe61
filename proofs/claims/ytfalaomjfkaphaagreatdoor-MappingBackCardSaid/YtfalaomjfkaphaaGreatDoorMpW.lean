import Derived.Test.YtfalaomjfkaphaaGreatDoorMbP
import Derived.Test.YtfalaomjfkaphaaGreatDoorLpMi
set_option linter.unusedVariables false
set_option linter.unusedSimpArgs false
namespace Go.Proofs
open Go Go.Sx
variable {mx : Int} {pb : Bool}

/-! Wide; how many mappings a text has -/
def wd1 (x : Ln) : Int := if x.hi - x.lo < 1024 then x.hi - x.lo + 1 else 0
def wdS : List Ln → Int
  | [] => 0
  | x :: l => wd1 x + wdS l
theorem wdS_app : ∀ (l m : List Ln), wdS (l ++ m) = wdS l + wdS m
  | [], m => by simp [wdS]
  | x :: l, m => by rw [List.cons_append, wdS, wdS, wdS_app l m]; omega
theorem wdS_snoc {L : List Ln} {k : Nat} (h : k < L.length) : wdS (L.take (k + 1)) = wdS (L.take k) + wd1 (L.getD k default) := by
  rw [take_at h, wdS_app]
  simp [wdS]
theorem wdS_bnd {L : List Ln} (h : ∀ x ∈ L, x.lo ≤ x.hi) : ∀ k, k ≤ L.length → 0 ≤ wdS (L.take k) ∧ wdS (L.take k) ≤ 1024 * k
  | 0, _ => by simp [wdS]
  | k + 1, hk => by
    have ih := wdS_bnd h k (by omega)
    have hx := h _ (mem_getD (show k < L.length by omega))
    rw [wdS_snoc (by omega)]
    unfold wd1
    split <;> omega
theorem rws_wd : ∀ (L : List Ln), (∀ x ∈ L, x.lo ≤ x.hi ∧ x.hi - x.lo + 1 ≤ 1024) → ((rwsL L).length : Int) = wdS L
  | [], _ => rfl
  | x :: L, h => by
    have ih := rws_wd L (fun y hy => h y (List.mem_cons_of_mem _ hy))
    have hx := h x List.mem_cons_self
    have e : rwsL (x :: L) = rwL x ++ rwsL L := rfl
    rw [e, List.length_append, rwL_len, wdS, ← ih]
    unfold wd1 rwN
    rw [if_pos (by omega)]
    omega
theorem mp_few (s : ByteArray) {m : Int} (h0 : 0 ≤ m) (h : ¬ wdS (linesP s).1 > m) : ((mpO s).1.length : Int) ≤ m := by
  rcases (mp_e s).2 with h1 | h1
  · obtain ⟨_, e, h2⟩ := mp_check h1
    obtain ⟨e1, _, _, hf⟩ := mr_facts h2
    rw [e]
    show ((sortM (rwsL (mrO s).1)).length : Int) ≤ m
    rw [sortM_len, rws_wd _ (fun x hx => ⟨(hf x hx).1.2.2, (hf x hx).2.2.2.2⟩), e1]
    omega
  · rw [h1]; exact h0
theorem mp_elem {s : ByteArray} {m : Mp} (hm : m ∈ (mpO s).1) : m.to.length ≤ 64 ∧ m.tag.size ≤ 32 := by
  rcases (mp_e s).2 with h1 | h1
  · obtain ⟨_, e, h2⟩ := mp_check h1
    obtain ⟨e1, _, _, hf⟩ := mr_facts h2
    rw [e] at hm
    have hm := sortM_perm.mem_iff.1 (show m ∈ sortM (rwsL (mrO s).1) from hm)
    unfold rwsL at hm
    obtain ⟨x, hx, hm⟩ := List.mem_flatMap.1 hm
    obtain ⟨i, hi, rfl⟩ := rwL_mem.1 hm
    obtain ⟨_, _, f1, f2, _⟩ := hf x hx
    refine ⟨f2, ?_⟩
    show (fdG (fld x)).size ≤ 32
    rcases (fd_good f1).1 with g | g
    · rw [g]; exact Nat.zero_le _
    · exact name_size g
  · rw [h1] at hm; simp at hm
noncomputable def wdB (s : ByteArray) (m : Int) : Bool := decide (wdS (linesP s).1 > m)
noncomputable def ctWide : Ct := { ι := ByteArray × Int, inp := fun x => [.v (.string x.1), .v (.int .i64 x.2)], out := fun x => .v (.bool (wdB x.1 x.2)), pre := fun _ => True }
noncomputable def rwdOw (s : ByteArray) : List Own := [.cells 27 [.v (.int .i64 (linesP s).2.1), .v (.int .i64 (linesP s).2.2)]]
noncomputable def Γwd : Ctx := fun f => match f with
  | 13 => some (.pure ctLpT)
  | _ => none
theorem Γwd_ok : CtxOk Tryz.prog (GlT mx pb) Γwd := by
  intro f h hh
  simp only [Γwd] at hh
  split at hh <;> simp at hh <;> subst hh
  · exact rLinesT_ok
set_option maxHeartbeats 4000000 in
theorem rWide_ok : Sound Tryz.prog (GlT mx pb) 5 ctWide := by
  refine sound_by (cc := true) Γwd_ok Tryz.T_ok Tryz.mixed Tryz.func5 rfl (by kernel_rfl) (fun _ => rfl) (fun _ _ => by show 2 ≤ 49; decide) ?_
  rintro ⟨(s : ByteArray), (m : Int)⟩ _
  have p1 : ctLpT.pre s := trivial
  have g7 := linesP_few s
  have hok : ∀ x ∈ (linesP s).1, x.lo ≤ x.hi := fun x hx => ((linesP_ok s).1 x hx).1.2.2
  repeat' (first | refine gw ?_ | (refine br (fun q_ => ?_) (fun q_ => ?_) <;> try simp only [Int.toNat_natCast, Nat.mul_one, Nat.add_zero] at q_) | (refine brF (fun q_ => ?_) (fun q_ => ?_) <;> try simp only [Int.toNat_natCast, Nat.mul_one, Nat.add_zero] at q_))
  refine ⟨0, Nat, fun k => ⟨[(1, .v (.int .i64 m)), (5, lnsD (linesP s).1), (7, .v (.int .i64 (wdS ((linesP s).1.take k)))), (8, .v (.int .i64 k))], rwdOw s, []⟩, fun k => k ≤ (linesP s).1.length, fun k => (linesP s).1.length - k, fun _ => Nat.zero_le _, ⟨0, Nat.zero_le _, StLe.ren [0] tmS ⟨⟨rfl, EntL.refl _, rfl⟩, trivial⟩ (by decide)⟩, ?_⟩
  intro k (hk : k ≤ (linesP s).1.length)
  unfold rwdOw
  have hb := wdS_bnd hok k hk
  by_cases hlt : k < (linesP s).1.length
  · have hx := mem_getD hlt
    obtain ⟨⟨v1, v2, v3⟩, n1, n2⟩ := (linesP_ok s).1 _ hx
    rw [validB_iff] at v1 v2
    have hs := wdS_snoc hlt
    by_cases h1 : ((linesP s).1.getD k default).hi - ((linesP s).1.getD k default).lo < 1024
    · have e : wd1 ((linesP s).1.getD k default) = ((linesP s).1.getD k default).hi - ((linesP s).1.getD k default).lo + 1 := if_pos h1
      rw [e] at hs
      repeat' (first | refine gw ?_ | (refine br (fun q_ => ?_) (fun q_ => ?_) <;> try simp only [Int.toNat_natCast, Nat.mul_one, Nat.add_zero] at q_) | (refine brF (fun q_ => ?_) (fun q_ => ?_) <;> try simp only [Int.toNat_natCast, Nat.mul_one, Nat.add_zero] at q_))
      exact ⟨k + 1, hlt, (by show _ - (k + 1) < _ - k; omega), StLe.ren [0] tmS ⟨⟨rfl, EntL.refl _, rfl⟩, trivial⟩ (by decide)⟩
    · have e : wd1 ((linesP s).1.getD k default) = 0 := if_neg h1
      rw [e] at hs
      repeat' (first | refine gw ?_ | (refine br (fun q_ => ?_) (fun q_ => ?_) <;> try simp only [Int.toNat_natCast, Nat.mul_one, Nat.add_zero] at q_) | (refine brF (fun q_ => ?_) (fun q_ => ?_) <;> try simp only [Int.toNat_natCast, Nat.mul_one, Nat.add_zero] at q_))
      exact ⟨k + 1, hlt, (by show _ - (k + 1) < _ - k; omega), StLe.ren [0] tmS ⟨⟨rfl, EntL.refl _, rfl⟩, trivial⟩ (by decide)⟩
  · have hta : (linesP s).1.take k = (linesP s).1 := List.take_of_length_le (by omega)
    repeat' (first | refine gw ?_ | (refine br (fun q_ => ?_) (fun q_ => ?_) <;> try simp only [Int.toNat_natCast, Nat.mul_one, Nat.add_zero] at q_) | (refine brF (fun q_ => ?_) (fun q_ => ?_) <;> try simp only [Int.toNat_natCast, Nat.mul_one, Nat.add_zero] at q_))
    refine EntR.bool ?_
    show decide _ = wdB s m
    rw [hta]
    rfl
end Go.Proofs
