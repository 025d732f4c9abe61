import Derived.Test.YtnegdnbodccgkaaGreatDoorQ2
set_option linter.unusedVariables false
set_option linter.unusedSimpArgs false
namespace Go.Proofs
open Go Go.Sx
variable {mx : Int} {pb : Bool}

/-! property.Valid -/
def insB (s : Sp) : Bool := decide (0 ≤ s.lo ∧ s.lo ≤ s.hi ∧ s.hi ≤ 1114111)
def ctIns : Ct := { ι := Sp, inp := fun s => [spnA s], out := fun s => .v (.bool (insB s)), pre := fun _ => True }
def Γins : Ctx := fun f => match f with
  | 135 => some (.pure ctValid)
  | _ => none
theorem Γins_ok : CtxOk Tryz.prog (GlT mx pb) Γins := by
  intro f h hh
  simp only [Γins] at hh
  split at hh <;> simp at hh <;> subst hh
  · exact valid_ok
theorem validB_f {c : Int} (h : validB c = false) : ¬ (0 ≤ c ∧ c ≤ 1114111) := fun hh => by rw [validB_iff.2 hh] at h; exact Bool.noConfusion h
set_option maxHeartbeats 1000000 in
theorem pInside_ok : Sound Tryz.prog (GlT mx pb) 70 ctIns := by
  refine sound_by (cc := true) Γins_ok Tryz.T_ok Tryz.mixed Tryz.func70 rfl (by kernel_rfl) (fun _ => rfl) (fun _ _ => by show 1 ≤ 18; decide) ?_
  intro (s : Sp) _
  repeat' (first | refine gw ?_ | (refine br (fun q_ => ?_) (fun q_ => ?_) <;> try simp only [Int.toNat_natCast, Nat.mul_one, Nat.add_zero] at q_) | (refine brF (fun q_ => ?_) (fun q_ => ?_) <;> try simp only [Int.toNat_natCast, Nat.mul_one, Nat.add_zero] at q_))
  · rename_i h1
    have h1 := validB_iff.1 h1
    have h2 := validB_iff.1 q_
    exact EntR.bool (by unfold insB; by_cases h : s.lo ≤ s.hi <;> simp [h] <;> omega)
  · have h2 := validB_f q_
    exact EntR.bool (decide_eq_false (by omega)).symm
  · have h2 := validB_f q_
    exact EntR.bool (decide_eq_false (by omega)).symm
def mpN (l : List ByteArray) : Nat → KV → Option D
  | 0 => fun _ => none
  | k + 1 => fun key => if key = .s (l.getD k default) then some (.v (.int .i64 k)) else mpN l k key
theorem mpN_none {l : List ByteArray} {b : ByteArray} : ∀ {k : Nat}, (∀ j, j < k → ¬ l.getD j default = b) → mpN l k (.s b) = none
  | 0, _ => rfl
  | k + 1, h => by
    show (if KV.s b = .s (l.getD k default) then some (D.v (.int .i64 k)) else mpN l k (.s b)) = none
    rw [if_neg (fun e => h k (by omega) (by cases e; rfl))]
    exact mpN_none fun j hj => h j (by omega)
theorem mpN_some {l : List ByteArray} {b : ByteArray} : ∀ {k : Nat}, (∃ j, j < k ∧ l.getD j default = b) → ∃ i : Int, mpN l k (.s b) = some (.v (.int .i64 i))
  | 0, ⟨j, hj, _⟩ => by omega
  | k + 1, ⟨j, hj, e⟩ => by
    show ∃ i : Int, (if KV.s b = .s (l.getD k default) then some (D.v (.int .i64 k)) else mpN l k (.s b)) = _
    by_cases h : KV.s b = .s (l.getD k default)
    · rw [if_pos h]; exact ⟨_, rfl⟩
    · rw [if_neg h]
      refine mpN_some ⟨j, ?_, e⟩
      rcases Nat.lt_or_ge j k with h1 | h1
      · exact h1
      · have : j = k := by omega
        subst this
        exact absurd (by rw [e]) h
theorem mpN_pd (l : List ByteArray) : ∀ (k : Nat) (key : KV), mpN l k key = none ∨ ∃ i : Int, mpN l k key = some (.v (.int .i64 i))
  | 0, _ => .inl rfl
  | k + 1, key => by
    show (if key = .s (l.getD k default) then some (D.v (.int .i64 k)) else mpN l k key) = none ∨ ∃ i : Int, (if key = .s (l.getD k default) then some (D.v (.int .i64 k)) else mpN l k key) = some (.v (.int .i64 i))
    by_cases h : key = .s (l.getD k default)
    · rw [if_pos h]; exact .inr ⟨_, rfl⟩
    · rw [if_neg h]; exact mpN_pd l k key
theorem optRen_self {ρ : List Nat} {o : Option D} (h : o = none ∨ ∃ i : Int, o = some (.v (.int .i64 i))) : OptRen ρ o o := by
  rcases h with h | ⟨i, h⟩
  · rw [h]; exact trivial
  · rw [h]; exact ⟨Ent.refl _, rfl⟩
theorem StLe.m1 {tm tm' : List (Nat × D)} {ow ow' : List Own} (h1 : renT [0, 1] tm tm') (h2 : renO [0, 1] ow [0, 1] ow') : StLe 1 ⟨tm, ow, []⟩ ⟨tm', ow', []⟩ :=
  StLe.renm [0, 1] h1 h2 (by decide) (by decide) (by simp)
noncomputable def cIdx : Code := (Tryz.f69.body).getD .skip
def Γix : Ctx := fun f => match f with
  | 140 => some (.pure ctNm)
  | _ => none
theorem Γix_ok : CtxOk Tryz.prog (GlT mx pb) Γix := by
  intro f h hh
  simp only [Γix] at hh
  split at hh <;> simp at hh <;> subst hh
  · exact pName_ok
noncomputable def Γpva (mx : Int) (pb : Bool) : Ctx := fun f => match f with
  | 69 => some (.gen (inlW true Γix Tryz.T (GlT mx pb) Tryz.f69 cIdx))
  | 70 => some (.pure ctIns)
  | _ => none
theorem Γpva_ok : CtxOk Tryz.prog (GlT mx pb) (Γpva mx pb) := by
  intro f h hh
  simp only [Γpva] at hh
  split at hh <;> simp at hh <;> subst hh
  · exact soundT_inlW Γix_ok Tryz.T_ok Tryz.mixed Tryz.func69 rfl (by kernel_rfl)
  · exact pInside_ok
set_option maxHeartbeats 4000000 in
theorem pValid_ok : Sound Tryz.prog (GlT mx pb) 30 ctPV := by
  refine sound_by (cc := true) Γpva_ok Tryz.T_ok Tryz.mixed Tryz.func30 rfl (by kernel_rfl) (fun _ => rfl) (fun _ _ => by show 1 ≤ 69; decide) ?_
  intro (p : Pr) (hp : p.spans.length ≤ 1000000000)
  repeat' (first | refine gw ?_ | (refine br (fun q_ => ?_) (fun q_ => ?_) <;> try simp only [Int.toNat_natCast, Nat.mul_one, Nat.add_zero] at q_) | (refine brF (fun q_ => ?_) (fun q_ => ?_) <;> try simp only [Int.toNat_natCast, Nat.mul_one, Nat.add_zero] at q_))
  · exact EntR.bool (validP_f fun h => by have h1 := h.1; rw [names_len (.inr (by omega))] at h1; exact Bool.noConfusion h1)
  · refine ⟨0, Nat, fun k => ⟨[(4, .mp 1), (18, slD 1 strD p.names), (19, .v (.int .i64 p.names.length)), (20, .v (.int .i64 k))], [.cells 27 [slD 1 strD p.names, spsD p.spans], .map 9 3 .s (mpN p.names k)], []⟩, fun k => k ≤ p.names.length ∧ ∀ j, j < k → nmOk p.names j = true, fun k => p.names.length - k, fun _ => (by show 1 ≤ 2; decide), ⟨0, ⟨Nat.zero_le _, fun j hj => by omega⟩, StLe.m1 tmS ⟨⟨rfl, EntL.refl _, rfl⟩, ⟨rfl, rfl, rfl, fun _ => trivial⟩, trivial⟩⟩, ?_⟩
    rintro k ⟨hk, hd⟩
    by_cases hlt : k < p.names.length
    · by_cases hdup : ∃ j, j < k ∧ p.names.getD j default = p.names.getD k default
      · obtain ⟨i, hi⟩ := mpN_some hdup
        obtain ⟨j, hj, hje⟩ := hdup
        have hno : ¬ prOk p := fun h => by have := names_no hlt (nmOk_2 hj hje); rw [h.1] at this; exact Bool.noConfusion this
        repeat' (first | refine gw ?_ | (refine br (fun q_ => ?_) (fun q_ => ?_) <;> try simp only [Int.toNat_natCast, Nat.mul_one, Nat.add_zero] at q_) | (refine brF (fun q_ => ?_) (fun q_ => ?_) <;> try simp only [Int.toNat_natCast, Nat.mul_one, Nat.add_zero] at q_))
        refine ⟨fun d hdd => ?_, fun hnn => absurd (hi.symm.trans hnn) (by simp)⟩
        obtain rfl : d = .v (.int .i64 i) := Option.some.inj (hdd.symm.trans hi)
        repeat' (first | refine gw ?_ | (refine br (fun q_ => ?_) (fun q_ => ?_) <;> try simp only [Int.toNat_natCast, Nat.mul_one, Nat.add_zero] at q_) | (refine brF (fun q_ => ?_) (fun q_ => ?_) <;> try simp only [Int.toNat_natCast, Nat.mul_one, Nat.add_zero] at q_))
        all_goals exact EntR.bool (validP_f hno)
      · have hno : ∀ j, j < k → ¬ p.names.getD j default = p.names.getD k default := fun j hj e => hdup ⟨j, hj, e⟩
        have hi := mpN_none hno
        repeat' (first | refine gw ?_ | (refine br (fun q_ => ?_) (fun q_ => ?_) <;> try simp only [Int.toNat_natCast, Nat.mul_one, Nat.add_zero] at q_) | (refine brF (fun q_ => ?_) (fun q_ => ?_) <;> try simp only [Int.toNat_natCast, Nat.mul_one, Nat.add_zero] at q_))
        refine ⟨fun d hdd => absurd (hi.symm.trans hdd) (by simp), fun _ => ?_⟩
        repeat' (first | refine gw ?_ | (refine br (fun q_ => ?_) (fun q_ => ?_) <;> try simp only [Int.toNat_natCast, Nat.mul_one, Nat.add_zero] at q_) | (refine brF (fun q_ => ?_) (fun q_ => ?_) <;> try simp only [Int.toNat_natCast, Nat.mul_one, Nat.add_zero] at q_))
        · exact EntR.bool (validP_f fun h => by have := names_no hlt (nmOk_1 q_); rw [h.1] at this; exact Bool.noConfusion this)
        · exact ⟨k + 1, ⟨by omega, next_of hd (nmOk_t q_ hno)⟩, (by show _ - (k + 1) < _ - k; omega), StLe.m1 tmS ⟨⟨rfl, EntL.refl _, rfl⟩, ⟨rfl, rfl, rfl, fun key => by
            show OptRen [0, 1] (if key = .s (p.names.getD k default) then some (D.v (.int .i64 k)) else mpN p.names k key) (if key = .s (p.names.getD k default) then some (D.v (.int .i64 k)) else mpN p.names k key)
            exact optRen_self (mpN_pd p.names (k + 1) key)⟩, trivial⟩⟩
    · have hn : namesB p.names = true := names_yes (by omega) (by omega) (fun i hi => hd i (by omega))
      repeat' (first | refine gw ?_ | (refine br (fun q_ => ?_) (fun q_ => ?_) <;> try simp only [Int.toNat_natCast, Nat.mul_one, Nat.add_zero] at q_) | (refine brF (fun q_ => ?_) (fun q_ => ?_) <;> try simp only [Int.toNat_natCast, Nat.mul_one, Nat.add_zero] at q_))
      refine ⟨0, Nat, fun k => ⟨[(1, .own 0 0), (17, spsD p.spans), (18, .v (.int .i64 p.spans.length)), (19, .v (.int .i64 k))], [.cells 27 [slD 1 strD p.names, spsD p.spans]], []⟩, fun k => k ≤ p.spans.length ∧ ∀ i, i < k → spOk p i, fun k => p.spans.length - k, fun _ => Nat.zero_le _, ⟨0, ⟨Nat.zero_le _, fun j hj => by omega⟩, StLe.ren [0] tmS ⟨⟨rfl, EntL.refl _, rfl⟩, trivial⟩ (by decide)⟩, ?_⟩
      rintro k ⟨hk, hd⟩
      by_cases hlt : k < p.spans.length
      · have ek : ((k : Int) - 1).toNat = k - 1 := by omega
        have no : ¬ spOk p k → false = validP p := fun h => validP_f fun hh => h (hh.2 k hlt)
        have insT : insB (p.spans.getD k default) = true → 0 ≤ (p.spans.getD k default).lo ∧ (p.spans.getD k default).lo ≤ (p.spans.getD k default).hi ∧ (p.spans.getD k default).hi ≤ 1114111 := of_decide_eq_true
        have insF : insB (p.spans.getD k default) = false → ¬ (0 ≤ (p.spans.getD k default).lo ∧ (p.spans.getD k default).lo ≤ (p.spans.getD k default).hi ∧ (p.spans.getD k default).hi ≤ 1114111) := of_decide_eq_false
        rcases Bool.eq_false_or_eq_true (insB (p.spans.getD k default)) with hin | hin
        · have hin' := insT hin
          rcases Nat.eq_zero_or_pos k with h0 | h0
          · repeat' (first | refine gw ?_ | (refine br (fun q_ => ?_) (fun q_ => ?_) <;> try simp only [Int.toNat_natCast, Nat.mul_one, Nat.add_zero] at q_) | (refine brF (fun q_ => ?_) (fun q_ => ?_) <;> try simp only [Int.toNat_natCast, Nat.mul_one, Nat.add_zero] at q_))
            all_goals first
              | exact EntR.bool (no fun h => by have h1 := h.1; unfold spIn at h1; omega)
              | exact ⟨k + 1, ⟨by omega, next_of hd ⟨⟨by omega, by omega, by omega, by omega, by omega⟩, fun h => by omega⟩⟩, (by show _ - (k + 1) < _ - k; omega), StLe.ren [0] tmS ⟨⟨rfl, EntL.refl _, rfl⟩, trivial⟩ (by decide)⟩
          · have hb0 := hd (k - 1) (by omega)
            have hb := hb0.1
            unfold spIn at hb
            have hb2 : (p.spans.getD ((k : Int) - 1).toNat default).hi ≤ 1114111 := by rw [ek]; omega
            have hb3 : 0 ≤ (p.spans.getD ((k : Int) - 1).toNat default).hi := by rw [ek]; omega
            repeat' (first | refine gw ?_ | (refine br (fun q_ => ?_) (fun q_ => ?_) <;> try simp only [Int.toNat_natCast, Nat.mul_one, Nat.add_zero] at q_) | (refine brF (fun q_ => ?_) (fun q_ => ?_) <;> try simp only [Int.toNat_natCast, Nat.mul_one, Nat.add_zero] at q_))
            all_goals try rw [ek] at *
            all_goals first
              | exact EntR.bool (no fun h => by have h1 := h.1; have h2 := h.2 h0; unfold spIn at h1; unfold spAft at h2; omega)
              | exact ⟨k + 1, ⟨by omega, next_of hd ⟨⟨by omega, by omega, by omega, by omega, by omega⟩, fun _ => ⟨by omega, by omega⟩⟩⟩, (by show _ - (k + 1) < _ - k; omega), StLe.ren [0] tmS ⟨⟨rfl, EntL.refl _, rfl⟩, trivial⟩ (by decide)⟩
        · have hin' := insF hin
          repeat' (first | refine gw ?_ | (refine br (fun q_ => ?_) (fun q_ => ?_) <;> try simp only [Int.toNat_natCast, Nat.mul_one, Nat.add_zero] at q_) | (refine brF (fun q_ => ?_) (fun q_ => ?_) <;> try simp only [Int.toNat_natCast, Nat.mul_one, Nat.add_zero] at q_))
          all_goals exact EntR.bool (no fun h => by have h1 := h.1; unfold spIn at h1; omega)
      · repeat' (first | refine gw ?_ | (refine br (fun q_ => ?_) (fun q_ => ?_) <;> try simp only [Int.toNat_natCast, Nat.mul_one, Nat.add_zero] at q_) | (refine brF (fun q_ => ?_) (fun q_ => ?_) <;> try simp only [Int.toNat_natCast, Nat.mul_one, Nat.add_zero] at q_))
        exact EntR.bool (validP_t ⟨hn, fun i hi => hd i (by omega)⟩)
  · exact EntR.bool (validP_f fun h => by have h1 := h.1; rw [names_len (.inl (by omega))] at h1; exact Bool.noConfusion h1)
end Go.Proofs
