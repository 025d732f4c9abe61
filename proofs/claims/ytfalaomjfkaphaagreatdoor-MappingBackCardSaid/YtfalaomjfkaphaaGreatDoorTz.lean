import Derived.Test.YtfalaomjfkaphaaGreatDoorGc
set_option linter.unusedVariables false
set_option linter.unusedSimpArgs false
namespace Go.Proofs
open Go Go.Sx
variable {mx : Int} {pb : Bool}

/-! the codes of a text -/
def codesK (t : List Int) : Nat → ByteArray
  | 0 => ⟨#[]⟩
  | k + 1 => bcat (if k = 0 then codesK t k else bcat (codesK t k) spB) (hexS (t.getD k default))
def codesS (t : List Int) : ByteArray := codesK t t.length
theorem join_snoc (xs : List (List UInt8)) (y sep : List UInt8) : Lib.join (xs ++ [y]) sep = if xs = [] then y else Lib.join xs sep ++ sep ++ y := by
  cases xs with
  | nil => simp [Lib.join_one]
  | cons x r =>
    rw [if_neg (by simp), List.cons_append, Lib.join_cons, Lib.join_cons]
    have := Lib.joinTail_take_succ sep (r ++ [y]) r.length y (by simp)
    rw [List.take_of_length_le (by simp), List.take_left] at this
    rw [this]
    simp
theorem codes_join (t : List Int) : ∀ k, k ≤ t.length → joinB ((t.take k).map hexS) spB = codesK t k
  | 0, _ => rfl
  | k + 1, hk => by
    have ih := codes_join t k (by omega)
    rw [take_at (show k < t.length by omega), List.map_append]
    unfold joinB
    rw [List.map_append]
    show listB (Lib.join (_ ++ [(hexS (t.getD k default)).data.toList]) _) = _
    rw [join_snoc]
    unfold joinB at ih
    have e : Lib.join (((t.take k).map hexS).map fun x => x.data.toList) spB.data.toList = (codesK t k).data.toList := by
      rw [← ih]; rfl
    by_cases h0 : k = 0
    · subst h0
      simp only [List.take_zero, List.map_nil, if_true]
      rfl
    · have hne : ¬ (((t.take k).map hexS).map fun x => x.data.toList) = [] := by
        intro hh
        have := congrArg List.length hh
        rw [List.length_map, List.length_map, List.length_take] at this
        simp only [List.length_nil] at this
        omega
      rw [if_neg hne, e]
      simp only [codesK, h0, if_false]
      unfold bcat listB
      simp
theorem codesK_size (t : List Int) : ∀ k, (codesK t k).size ≤ 7 * k
  | 0 => by simp [codesK, ByteArray.size]
  | k + 1 => by
    have h1 := codesK_size t k
    have h2 := hexS_size (t.getD k default)
    have h3 : spB.size = 1 := rfl
    simp only [codesK, bcat_size]
    split <;> (try rw [bcat_size]) <;> omega

/-! escape.valid, escape.Codes -/
def allV (t : List Int) : Bool := t.all validB
def ctValidT : Ct := { ι := List Int, inp := fun t => [slD 1 intD t], out := fun t => .v (.bool (allV t)), pre := fun t => t.length ≤ 1000000 }
def Γta : Ctx := fun f => match f with
  | 52 => some (.pure ctValid)
  | 100 => some (.pure ctValid)
  | 45 => some (.pure ctHex)
  | 82 => some (.pure ctHex)
  | _ => none
theorem Γta_ok : CtxOk Tryz.prog (GlT mx pb) Γta := by
  intro f h hh
  simp only [Γta] at hh
  split at hh <;> simp at hh <;> subst hh
  · exact valid_ok
  · exact rvalid_ok
  · exact hex_ok
  · exact rHex_ok
set_option maxHeartbeats 1000000 in
theorem validT_ok : Sound Tryz.prog (GlT mx pb) 44 ctValidT := by
  refine sound_by (cc := true) Γta_ok Tryz.T_ok Tryz.mixed Tryz.func44 rfl (by kernel_rfl) (fun _ => rfl) (fun _ _ => by show 1 ≤ 15; decide) ?_
  intro (t : List Int) (ht : t.length ≤ 1000000)
  refine gA ?_
  refine ⟨0, Nat, fun k => ⟨[(5, slD 1 intD t), (6, .v (.int .i64 t.length)), (7, .v (.int .i64 k))], [], []⟩, fun k => k ≤ t.length ∧ ∀ j, j < k → validB (t.getD j default) = true, fun k => t.length - k, fun _ => Nat.zero_le _, ⟨0, ⟨Nat.zero_le _, fun j hj => by omega⟩, StLe.ren [] tmS trivial (by decide)⟩, ?_⟩
  rintro k ⟨hk, hd⟩
  refine gA ?_
  refine And.intro (fun h => ?_) (fun h => ?_)
  · have h : k < t.length := by have := of_decide_eq_true h; omega
    refine gA ?_
    refine ⟨t.getD k default, EntL.refl _, trivial, ?_⟩
    rw [show ctValid.out (t.getD k default) = .v (.bool (validB (t.getD k default))) from rfl]
    refine gA ?_
    refine And.intro (fun h1 => ?_) (fun h1 => ?_)
    · have h1 : validB (t.getD k default) = false := by simpa using h1
      refine gA ?_
      refine EntR.of rfl ?_
      show Ent _ (.v (.bool (allV t)))
      rw [allV, not_all h h1]
      exact Ent.refl _
    · have h1 : validB (t.getD k default) = true := by simpa using h1
      refine gA ?_
      exact ⟨k + 1, ⟨by omega, next_of hd h1⟩, (show t.length - (k + 1) < t.length - k by omega), StLe.ren [] tmS trivial (by decide)⟩
  · have h : k = t.length := by have := of_decide_eq_false h; omega
    refine gA ?_
    refine EntR.of rfl ?_
    show Ent _ (.v (.bool (allV t)))
    rw [show allV t = true from all_of h hd]
    exact Ent.refl _
def codesD (t : List Int) : D := if allV t = true then .tu [.v (.string (codesS t)), .v (.int .i64 0)] else .tu [.v (.string ⟨#[]⟩), .v (.int .i64 1)]
theorem codesD_pd (t : List Int) : pd (codesD t) = true := by unfold codesD; split <;> rfl
def ctCodesT : Ct := { ι := List Int, inp := fun t => [slD 1 intD t], out := codesD, pre := fun t => t.length ≤ 100000 }
set_option maxHeartbeats 1000000 in
/-- The reference's Codes. -/
theorem r5Codes_ok : Sound Tryz.prog (GlT mx pb) 76 ctCodesT := by
  refine sound_by (cc := true) Γta_ok Tryz.T_ok Tryz.mixed Tryz.func76 rfl (by kernel_rfl) (fun _ => rfl) (fun _ _ => by show 1 ≤ 30; decide) ?_
  intro (t : List Int) (ht : t.length ≤ 100000)
  refine gA ?_
  refine ⟨0, Nat, fun k => ⟨[(0, slD 1 intD t), (4, .v (.string (codesK t k))), (5, .v (.int .i64 k))], [], []⟩, fun k => k ≤ t.length ∧ ∀ j, j < k → validB (t.getD j default) = true, fun k => t.length - k, fun _ => Nat.zero_le _, ⟨0, ⟨Nat.zero_le _, fun j hj => by omega⟩, StLe.ren [] tmS trivial (by decide)⟩, ?_⟩
  rintro k ⟨hk, hd⟩
  have hcs := codesK_size t k
  have hhs := hexS_size (t.getD k default)
  refine gA ?_
  refine And.intro (fun h => ?_) (fun h => ?_)
  · have h : k < t.length := by have := of_decide_eq_true h; omega
    refine gA ?_
    refine ⟨t.getD k default, EntL.refl _, trivial, ?_⟩
    rw [show ctValid.out (t.getD k default) = .v (.bool (validB (t.getD k default))) from rfl]
    refine gA ?_
    refine And.intro (fun h1 => ?_) (fun h1 => ?_)
    · have h1 : validB (t.getD k default) = false := by simpa using h1
      refine gA ?_
      refine EntR.of (codesD_pd t) ?_
      show Ent _ (codesD t)
      rw [codesD, if_neg (by rw [allV, not_all h h1]; decide)]
      exact Ent.refl _
    · have h1 : validB (t.getD k default) = true := by simpa using h1
      refine gA ?_
      refine And.intro (fun h2 => ?_) (fun h2 => ?_)
      · have h2 : ¬ k = 0 := by have := of_decide_eq_true h2; omega
        refine gA ?_
        refine ⟨t.getD k default, EntL.refl _, trivial, ?_⟩
        refine gA ?_
        refine And.intro (show (bcat (codesK t k) spB).size + (hexS (t.getD k default)).size ≤ 9223372036854775807 by rw [bcat_size, show spB.size = 1 from rfl]; omega) ?_
        refine gA ?_
        exact ⟨k + 1, ⟨by omega, next_of hd h1⟩, (show t.length - (k + 1) < t.length - k by omega), StLe.ren [] ⟨Ent.refl _, rfl, Ent.v (by simp only [codesK, h2, if_false]; rfl), rfl, Ent.int (by omega), rfl, trivial⟩ trivial (by decide)⟩
      · have h2 : k = 0 := by have := of_decide_eq_false h2; omega
        subst h2
        refine gA ?_
        refine ⟨t.getD 0 default, EntL.refl _, trivial, ?_⟩
        refine gA ?_
        exact ⟨1, ⟨by omega, next_of hd h1⟩, (show t.length - 1 < t.length - 0 by omega), StLe.ren [] ⟨Ent.refl _, rfl, Ent.refl _, rfl, Ent.int (by omega), rfl, trivial⟩ trivial (by decide)⟩
  · have h : k = t.length := by have := of_decide_eq_false h; omega
    refine gA ?_
    refine EntR.of (codesD_pd t) ?_
    show Ent _ (codesD t)
    rw [codesD, if_pos (show allV t = true from all_of h hd), codesS, ← h]
    exact Ent.refl _
end Go.Proofs

namespace Go.Proofs
open Go Go.Sx
variable {mx : Int} {pb : Bool}

/-! escape.Codes -/
def Γtb : Ctx := fun f => match f with
  | 44 => some (.pure ctValidT)
  | 45 => some (.pure ctHex)
  | 46 => some (.pure ctJoinS)
  | _ => none
theorem Γtb_ok : CtxOk Tryz.prog (GlT mx pb) Γtb := by
  intro f h hh
  simp only [Γtb] at hh
  split at hh <;> simp at hh <;> subst hh
  · exact validT_ok
  · exact hex_ok
  · exact joinS_ok
theorem hex_snoc {t : List Int} {k : Nat} (h : k < t.length) : (t.take k).map hexS ++ [hexS (t.getD k default)] = (t.take (k + 1)).map hexS := by
  rw [take_at h, List.map_append]; rfl
set_option maxHeartbeats 1000000 in
/-- escape.Codes. -/
theorem codes_ok : Sound Tryz.prog (GlT mx pb) 24 ctCodesT := by
  refine sound_by (cc := true) Γtb_ok Tryz.T_ok Tryz.mixed Tryz.func24 rfl (by kernel_rfl) (fun _ => rfl) (fun _ _ => by show 1 ≤ 24; decide) ?_
  intro (t : List Int) (ht : t.length ≤ 100000)
  refine gA ?_
  refine ⟨t, EntL.refl _, (show t.length ≤ 1000000 by omega), ?_⟩
  rw [show ctValidT.out t = .v (.bool (allV t)) from rfl]
  refine gA ?_
  refine And.intro (fun h1 => ?_) (fun h1 => ?_)
  · have h1 : allV t = false := by simpa using h1
    refine gA ?_
    refine EntR.of (codesD_pd t) ?_
    show Ent _ (codesD t)
    rw [codesD, if_neg (by rw [h1]; decide)]
    exact Ent.refl _
  · have h1 : allV t = true := by simpa using h1
    refine gA ?_
    refine ⟨0, Nat, fun k => ⟨[(4, .row 0), (10, slD 1 intD t), (11, .v (.int .i64 t.length)), (12, .v (.int .i64 k))], [rowL 9 1 strD ((t.take k).map hexS)], []⟩, fun k => k ≤ t.length, fun k => t.length - k, fun _ => Nat.zero_le _, ⟨0, Nat.zero_le _, StLe.trans (StLe.nilRow (t := 4) 9 1 (fun _ _ => .junk) rfl) (StLe.ren [0] tmS ⟨own_nil, trivial⟩ (by decide))⟩, ?_⟩
    intro k hk
    refine gA ?_
    refine And.intro (fun h => ?_) (fun h => ?_)
    · have h : k < t.length := by have := of_decide_eq_true h; omega
      have hl : ((t.take k).map hexS).length = k := by simp; omega
      refine gA ?_
      refine ⟨t.getD k default, EntL.refl _, trivial, ?_⟩
      refine gA ?_
      exact ⟨k + 1, (show k + 1 ≤ t.length by omega), (show t.length - (k + 1) < t.length - k by omega), StLe.ren [1] tmS ⟨(hex_snoc h) ▸ own_app (fun j hj => by match j, hj with | 0, _ => exact Ent.refl _), trivial⟩ (by decide)⟩
    · have h : k = t.length := by have := of_decide_eq_false h; omega
      refine gA ?_
      subst h
      have e := codes_join t t.length (Nat.le_refl _)
      have hs := codesK_size t t.length
      refine ⟨((t.take t.length).map hexS, spB), EntL.refl _, ⟨by simp; omega, show (joinB ((t.take t.length).map hexS) spB).size ≤ 140737488355328 by rw [e]; omega⟩, ?_⟩
      rw [show ctJoinS.out ((t.take t.length).map hexS, spB) = .v (.string (codesS t)) from by rw [codesS, ← e]; rfl]
      refine gA ?_
      refine EntR.of (codesD_pd t) ?_
      show Ent _ (codesD t)
      rw [codesD, if_pos h1]
      exact Ent.refl _
end Go.Proofs
