import Derived.Test.YtnegdnbodccgkaaGreatDoorQ5
import Derived.Test.YtnegdnbodccgkaaGreatDoorPM
import Derived.Test.YtnegdnbodccgkaaGreatDoorInS
set_option linter.unusedVariables false
set_option linter.unusedSimpArgs false
namespace Go.Proofs
open Go Go.Sx
variable {mx : Int} {pb : Bool}

/-! property.overlap -/
def ctOv : Ct := { ι := List Sp, inp := fun l => [spsD l], out := fun l => .v (.int .i64 (ovI l)), pre := fun l => l.length ≤ 100000 ∧ ∀ i, i < l.length → insB (l.getD i default) = true }
theorem own_ins {ρ : List Nat} {m : List Sp} {k : Nat} {s : Sp} {g : Nat → Nat → D} (hk : k ≤ m.length) (hg : ∀ j, j < 3 → Ent (g 0 j) (spD s j)) : OwnRen ρ (.row 80 3 (m.length + 1) (insF k (fun i j => spD (m.getD i default) j) g)) (rowL 80 3 spD (insAt m k s)) := by
  have hl : (insAt m k s).length = m.length + 1 := by unfold insAt; simp; omega
  refine ⟨rfl, rfl, hl.symm, fun a ha j hj => ?_⟩
  have hlt : (m.take k).length = k := by rw [List.length_take]; omega
  show Ent (insF k (fun i j => spD (m.getD i default) j) g a j) (spD ((insAt m k s).getD a default) j)
  unfold insF insAt
  by_cases h1 : a < k
  · rw [if_pos h1, List.getD_eq_getElem?_getD, List.getElem?_append_left (by omega), List.getElem?_take, if_pos h1, ← List.getD_eq_getElem?_getD]
    exact Ent.refl _
  · by_cases h2 : a = k
    · subst h2
      rw [if_neg h1, if_pos rfl, List.getD_eq_getElem?_getD, List.getElem?_append_right (by omega), hlt, Nat.sub_self]
      exact hg j hj
    · rw [if_neg h1, if_neg h2, List.getD_eq_getElem?_getD, List.getElem?_append_right (by omega), hlt]
      obtain ⟨q, rfl⟩ : ∃ q, a = k + 1 + q := ⟨a - k - 1, by omega⟩
      rw [show k + 1 + q - k = q + 1 by omega, List.getElem?_cons_succ, List.getElem?_drop, show k + q = k + 1 + q - 1 by omega, ← List.getD_eq_getElem?_getD]
      exact Ent.refl _
noncomputable def cOv1 : Code := (Tryz.f141.body).getD .skip
noncomputable def Γov1 (mx : Int) (pb : Bool) : Ctx := fun f => match f with
  | 141 => some (.gen (inlW true Γ0 Tryz.T (GlT mx pb) Tryz.f141 cOv1))
  | _ => none
theorem Γov1_ok : CtxOk Tryz.prog (GlT mx pb) (Γov1 mx pb) := by
  intro f h hh
  simp only [Γov1] at hh
  split at hh <;> simp at hh <;> subst hh
  · exact soundT_inlW Γ0_ok Tryz.T_ok Tryz.mixed Tryz.func141 rfl (by kernel_rfl)
noncomputable def Γov (mx : Int) (pb : Bool) : Ctx := fun f => match f with
  | 96 => some (.gen (inlW true (Γov1 mx pb) Tryz.T (GlT mx pb) Tryz.f96 cSearch))
  | 142 => some (.gen (insT 80 3))
  | _ => none
theorem Γov_ok : CtxOk Tryz.prog (GlT mx pb) (Γov mx pb) := by
  intro f h hh
  simp only [Γov] at hh
  split at hh <;> simp at hh <;> subst hh
  · exact soundT_inlW Γov1_ok Tryz.T_ok Tryz.mixed Tryz.func96 rfl (by kernel_rfl)
  · exact insS_ok
def owOv (m : List Sp) : List Own := [.cells 25 [.row 1], rowL 80 3 spD m]
def owOs (m : List Sp) (s : Sp) : List Own := [.cells 25 [.row 1], rowL 80 3 spD m, .cells 80 [spD s 0, spD s 1, spD s 2]]
set_option maxHeartbeats 4000000 in
theorem pOv_ok : Sound Tryz.prog (GlT mx pb) 71 ctOv := by
  refine sound_by (cc := true) Γov_ok Tryz.T_ok Tryz.mixed Tryz.func71 rfl (by kernel_rfl) (fun _ => rfl) (fun _ _ => by show 1 ≤ 54; decide) ?_
  rintro (l : List Sp) ⟨(hl : l.length ≤ 100000), hin⟩
  have hin : ∀ i, i < l.length → insB (l.getD i default) = true := hin
  repeat' (first | refine gw ?_ | (refine br (fun q_ => ?_) (fun q_ => ?_) <;> try simp only [Int.toNat_natCast, Nat.mul_one, Nat.add_zero] at q_) | (refine brF (fun q_ => ?_) (fun q_ => ?_) <;> try simp only [Int.toNat_natCast, Nat.mul_one, Nat.add_zero] at q_))
  refine ⟨0, Nat × List Sp, fun | (k, m) => ⟨[(3, .own 0 0), (7, spsD l), (8, .v (.int .i64 l.length)), (9, .v (.int .i64 k))], owOv m, []⟩, fun | (k, m) => k ≤ l.length ∧ m.Perm (l.take k) ∧ ascS m ∧ (∀ j, j < k → ¬ ovAt l j), fun x => l.length - x.1, fun _ => Nat.zero_le _, ⟨(0, []), ⟨Nat.zero_le _, List.Perm.refl _, List.Pairwise.nil, fun j hj => by omega⟩, StLe.trans (StLe.nilCell (i := 0) (j := 0) 80 3 (fun _ _ => .junk) rfl rfl) (StLe.ren [0, 1] tmS ⟨⟨rfl, EntL.refl _, rfl⟩, own_nil, trivial⟩ (by decide))⟩, ?_⟩
  rintro ⟨k, m⟩ ⟨hk, hp, ha, hno⟩
  unfold owOv
  have hml : m.length = k := by rw [hp.length_eq, List.length_take]; omega
  by_cases hlt : k < l.length
  · have hs := insB_iff.1 (hin k hlt)
    have hv : ∀ x, x < m.length → (m.getD x default).lo ≤ (m.getD x default).hi ∧ (m.getD x default).hi ≤ 1114111 ∧ 0 ≤ (m.getD x default).lo := fun x hx => by
      have hm := hp.mem_iff.1 (getD_mem hx)
      rw [List.mem_take_iff_getElem] at hm
      obtain ⟨i, hi, e⟩ := hm
      have := insB_iff.1 (hin i (by omega))
      rw [getD_get (show i < l.length by omega), e] at this
      omega
    have hup : ∀ x y, x < y → y < m.length → (m.getD x default).lo < (m.getD y default).lo := fun x y hxy hy => by
      have := List.pairwise_iff_getElem.1 ha x y (by omega) hy hxy
      rw [← getD_get, ← getD_get] at this
      have := hv x (by omega)
      omega
    have hto := ov_take hlt hp
    generalize hse : l.getD k default = s at hs hto
    repeat' (first | refine gw ?_ | (refine br (fun q_ => ?_) (fun q_ => ?_) <;> try simp only [Int.toNat_natCast, Nat.mul_one, Nat.add_zero] at q_) | (refine brF (fun q_ => ?_) (fun q_ => ?_) <;> try simp only [Int.toNat_natCast, Nat.mul_one, Nat.add_zero] at q_))
    refine ⟨0, Nat × Nat, fun | (i, j) => ⟨[(1, .fn 141 [.own 0 0, .own 2 0]), (5, .v (.int .i64 i)), (6, .v (.int .i64 j))], owOs m s, []⟩, fun | (i, j) => i ≤ j ∧ j ≤ m.length ∧ (∀ x, x < i → (m.getD x default).lo < s.lo) ∧ (∀ x, j ≤ x → x < m.length → s.lo ≤ (m.getD x default).lo), fun x => x.2 - x.1, fun _ => (by show 3 ≤ 3; decide), ⟨(0, m.length), ⟨Nat.zero_le _, Nat.le_refl _, fun x hx => by omega, fun x h1 h2 => by omega⟩, StLe.m3 tmS ⟨⟨rfl, EntL.refl _, rfl⟩, own_refl, ⟨rfl, (by rw [← hse]; exact EntL.refl _), rfl⟩, trivial⟩⟩, ?_⟩
    rintro ⟨i, j⟩ ⟨hij, hjn, hlo, hhi⟩
    unfold owOs
    by_cases hlt2 : i < j
    · repeat' (first | refine gw ?_ | (refine br (fun q_ => ?_) (fun q_ => ?_) <;> try simp only [Int.toNat_natCast, Nat.mul_one, Nat.add_zero] at q_) | (refine brF (fun q_ => ?_) (fun q_ => ?_) <;> try simp only [Int.toNat_natCast, Nat.mul_one, Nat.add_zero] at q_))
      rw [half_eq (by omega)]
      repeat' (first | refine gw ?_ | (refine br (fun q_ => ?_) (fun q_ => ?_) <;> try simp only [Int.toNat_natCast, Nat.mul_one, Nat.add_zero] at q_) | (refine brF (fun q_ => ?_) (fun q_ => ?_) <;> try simp only [Int.toNat_natCast, Nat.mul_one, Nat.add_zero] at q_))
      · refine ⟨((i + j) / 2 + 1, j), ⟨by omega, hjn, fun x hx => ?_, hhi⟩, (by show j - ((i + j) / 2 + 1) < j - i; omega), StLe.m3 tmS ⟨⟨rfl, EntL.refl _, rfl⟩, own_refl, ⟨rfl, EntL.refl _, rfl⟩, trivial⟩⟩
        rcases Nat.lt_or_ge x ((i + j) / 2) with h1 | h1
        · have := hup x _ h1 (by omega)
          omega
        · have : x = (i + j) / 2 := by omega
          rw [this]
          omega
      · refine ⟨(i, (i + j) / 2), ⟨by omega, by omega, hlo, fun x h1 h2 => ?_⟩, (by show (i + j) / 2 - i < j - i; omega), StLe.m3 tmS ⟨⟨rfl, EntL.refl _, rfl⟩, own_refl, ⟨rfl, EntL.refl _, rfl⟩, trivial⟩⟩
        rcases Nat.lt_or_ge ((i + j) / 2) x with h3 | h3
        · have := hup _ x h3 h2
          omega
        · have : x = (i + j) / 2 := by omega
          rw [this]
          omega
    · have hie : i = j := by omega
      subst hie
      have hoa := ov_asc ha (fun x hx => (hv x hx).1) hs.2.1 hjn hlo hhi
      have yes : ((i < m.length ∧ (m.getD i default).lo ≤ s.hi) ∨ (0 < i ∧ s.lo ≤ (m.getD (i - 1) default).hi)) → D.v (.int .i64 (k : Int)) = ctOv.out l := fun h => congrArg (fun z => D.v (.int .i64 z)) (ovI_at hlt (hto.2 (hoa.2 h)) hno).symm
      have nxt : ¬ ((i < m.length ∧ (m.getD i default).lo ≤ s.hi) ∨ (0 < i ∧ s.lo ≤ (m.getD (i - 1) default).hi)) → (insAt m i s).Perm (l.take (k + 1)) ∧ ascS (insAt m i s) ∧ ∀ j, j < k + 1 → ¬ ovAt l j := fun h => by
        have hn : ¬ ∃ x, x < m.length ∧ ovS (m.getD x default) s := fun hh => h (hoa.1 hh)
        refine ⟨by rw [← hse]; exact insAt_take hlt hp, ins_asc ha (fun x hx => (hv x hx).1) hs.2.1 hjn hlo hhi hn, next_of hno (fun hh => hn (hto.1 hh))⟩
      repeat' (first | refine gw ?_ | (refine br (fun q_ => ?_) (fun q_ => ?_) <;> try simp only [Int.toNat_natCast, Nat.mul_one, Nat.add_zero] at q_) | (refine brF (fun q_ => ?_) (fun q_ => ?_) <;> try simp only [Int.toNat_natCast, Nat.mul_one, Nat.add_zero] at q_))
      all_goals try rw [show ((i : Int) - 1).toNat = i - 1 by omega] at *
      all_goals first
        | exact entR_eq (yes (by omega)) rfl
        | (obtain ⟨n1, n2, n3⟩ := nxt (by omega)
           refine .inr ⟨1, m.length, i, _, _, rfl, rfl, hjn, by omega, ?_⟩
           repeat' (first | refine gw ?_ | (refine br (fun q_ => ?_) (fun q_ => ?_) <;> try simp only [Int.toNat_natCast, Nat.mul_one, Nat.add_zero] at q_) | (refine brF (fun q_ => ?_) (fun q_ => ?_) <;> try simp only [Int.toNat_natCast, Nat.mul_one, Nat.add_zero] at q_))
           exact ⟨(k + 1, insAt m i s), ⟨hlt, n1, n2, n3⟩, (by show l.length - (k + 1) < l.length - k; omega), StLe.ren [0, 3] tmS ⟨⟨rfl, EntL.refl _, rfl⟩, own_ins hjn (fun j hj => by
             match j, hj with
             | 0, _ => first | exact Ent.refl _ | (rw [← hse]; exact Ent.refl _)
             | 1, _ => first | exact Ent.refl _ | (rw [← hse]; exact Ent.refl _)
             | 2, _ => first | exact Ent.refl _ | (rw [← hse]; exact Ent.refl _)), trivial⟩ (by decide)⟩)
  · have e := ovI_no (l := l) (fun i hi => hno i (by omega))
    repeat' (first | refine gw ?_ | (refine br (fun q_ => ?_) (fun q_ => ?_) <;> try simp only [Int.toNat_natCast, Nat.mul_one, Nat.add_zero] at q_) | (refine brF (fun q_ => ?_) (fun q_ => ?_) <;> try simp only [Int.toNat_natCast, Nat.mul_one, Nat.add_zero] at q_))
    exact EntR.int e.symm
end Go.Proofs
