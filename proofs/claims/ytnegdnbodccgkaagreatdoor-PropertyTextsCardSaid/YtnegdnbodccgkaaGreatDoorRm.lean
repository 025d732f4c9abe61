import Derived.Test.YtnegdnbodccgkaaGreatDoorMk
set_option linter.unusedVariables false
set_option linter.unusedSimpArgs false
namespace Go.Proofs
open Go Go.Sx
variable {mx : Int} {pb : Bool}

/-! the reference's Make -/
def ctOvR : Ct := { ι := Sp × Sp, inp := fun x => [spnA x.1, spnA x.2], out := fun x => .v (.bool (decide (ovS x.1 x.2))), pre := fun _ => True }
set_option maxHeartbeats 1000000 in
theorem rOv_ok : Sound Tryz.prog (GlT mx pb) 78 ctOvR := by
  refine sound_by (cc := true) Γ0_ok Tryz.T_ok Tryz.mixed Tryz.func78 rfl (by kernel_rfl) (fun _ => rfl) (fun _ _ => by show 2 ≤ 17; decide) ?_
  rintro ⟨(a : Sp), (b : Sp)⟩ _
  repeat' (first | refine gw ?_ | (refine br (fun q_ => ?_) (fun q_ => ?_) <;> try simp only [Int.toNat_natCast, Nat.mul_one, Nat.add_zero] at q_) | (refine brF (fun q_ => ?_) (fun q_ => ?_) <;> try simp only [Int.toNat_natCast, Nat.mul_one, Nat.add_zero] at q_))
  all_goals first
    | exact EntR.bool (decide_eq_decide.2 (by unfold ovS; simp only; omega))
    | exact EntR.bool (Eq.symm (decide_eq_false (show ¬ ovS a b by unfold ovS; omega)))
theorem own_ins2 {ρ : List Nat} {m : List Sp} {k : Nat} {s : Sp} {g : Nat → Nat → D} (hk : k ≤ m.length) (hg : ∀ j, j < 3 → Ent (g 0 j) (spD s j)) : OwnRen ρ (.row 80 3 (k + 1 + (m.length - k)) (catF (k + 1) (catF k (fun i j => spD (m.getD i default) j) g) (fun i j => spD (m.getD (k + i) default) j))) (rowL 80 3 spD (insAt m k s)) := by
  have hl : (insAt m k s).length = k + 1 + (m.length - k) := by unfold insAt; simp; omega
  refine ⟨rfl, rfl, hl.symm, fun a ha j hj => ?_⟩
  have hlt : (m.take k).length = k := by rw [List.length_take]; omega
  show Ent (catF (k + 1) (catF k (fun i j => spD (m.getD i default) j) g) (fun i j => spD (m.getD (k + i) default) j) a j) (spD ((insAt m k s).getD a default) j)
  unfold catF insAt
  by_cases h1 : a < k
  · rw [if_pos (by omega), if_pos h1, List.getD_eq_getElem?_getD, List.getElem?_append_left (by omega), List.getElem?_take, if_pos h1, ← List.getD_eq_getElem?_getD]
    exact Ent.refl _
  · by_cases h2 : a = k
    · subst h2
      rw [if_pos (by omega), if_neg h1, List.getD_eq_getElem?_getD, List.getElem?_append_right (by omega), hlt, Nat.sub_self]
      exact hg j hj
    · rw [if_neg (by omega), List.getD_eq_getElem?_getD (l := m.take k ++ s :: m.drop k), List.getElem?_append_right (by omega), hlt]
      obtain ⟨q, rfl⟩ : ∃ q, a = k + 1 + q := ⟨a - k - 1, by omega⟩
      rw [show k + 1 + q - k = q + 1 by omega, List.getElem?_cons_succ, List.getElem?_drop, show k + 1 + q - (k + 1) = q by omega, ← List.getD_eq_getElem?_getD]
      exact Ent.refl _
def srtPre (l : List Sp) : Prop := l.length ≤ 100000 ∧ (∃ n, allS n l) ∧ apart l
def ctSrt : Ct := { ι := List Sp, inp := fun l => [spsD l], out := fun l => spsD (srt l), pre := srtPre }
set_option maxHeartbeats 4000000 in
theorem rSorted_ok : Sound Tryz.prog (GlT mx pb) 79 ctSrt := by
  refine sound_by (cc := true) Γ0_ok Tryz.T_ok Tryz.mixed Tryz.func79 rfl (by kernel_rfl) (fun _ => rfl) (fun _ _ => by show 1 ≤ 52; decide) ?_
  rintro (l : List Sp) ⟨(hl : l.length ≤ 100000), ⟨n, hall⟩, hap⟩
  repeat' (first | refine gw ?_ | (refine br (fun q_ => ?_) (fun q_ => ?_) <;> try simp only [Int.toNat_natCast, Nat.mul_one, Nat.add_zero] at q_) | (refine brF (fun q_ => ?_) (fun q_ => ?_) <;> try simp only [Int.toNat_natCast, Nat.mul_one, Nat.add_zero] at q_))
  refine ⟨0, Nat × List Sp, fun | (k, out) => ⟨[(0, spsD l), (3, .row 0), (4, .v (.int .i64 k))], [rowL 80 3 spD out], []⟩, fun | (k, out) => k ≤ l.length ∧ out.Perm (l.take k) ∧ out.Pairwise (fun a b => a.lo ≤ b.lo), fun x => l.length - x.1, fun _ => Nat.zero_le _, ⟨(0, []), ⟨Nat.zero_le _, List.Perm.refl _, List.Pairwise.nil⟩, StLe.trans (StLe.nilRow (t := 3) 80 3 (fun _ _ => .junk) rfl) (StLe.ren [0] tmS ⟨own_nil, trivial⟩ (by decide))⟩, ?_⟩
  rintro ⟨k, out⟩ ⟨(hk : k ≤ l.length), hp, hs⟩
  have hol : out.length = k := by rw [hp.length_eq, List.length_take]; omega
  by_cases hlt : k < l.length
  · repeat' (first | refine gw ?_ | (refine br (fun q_ => ?_) (fun q_ => ?_) <;> try simp only [Int.toNat_natCast, Nat.mul_one, Nat.add_zero] at q_) | (refine brF (fun q_ => ?_) (fun q_ => ?_) <;> try simp only [Int.toNat_natCast, Nat.mul_one, Nat.add_zero] at q_))
    refine ⟨0, Nat, fun j => ⟨[(0, spsD l), (3, .row 0), (4, .v (.int .i64 k)), (5, .v (.int .i64 j))], [rowL 80 3 spD out], []⟩, fun j => j ≤ out.length ∧ ∀ x, j ≤ x → x < out.length → (l.getD k default).lo ≤ (out.getD x default).lo, fun j => j, fun _ => Nat.zero_le _, ⟨out.length, ⟨Nat.le_refl _, fun x h1 h2 => by omega⟩, StLe.ren [0] tmS ⟨own_refl, trivial⟩ (by decide)⟩, ?_⟩
    rintro j ⟨hj, hge⟩
    have fin : (∀ x, x < j → (out.getD x default).lo ≤ (l.getD k default).lo) → (insAt out j (l.getD k default)).Perm (l.take (k + 1)) ∧ (insAt out j (l.getD k default)).Pairwise (fun a b => a.lo ≤ b.lo) := fun h => ⟨insAt_take hlt hp, insAt_pair hj hs h hge⟩
    by_cases hj0 : 0 < j
    · repeat' (first | refine gw ?_ | (refine br (fun q_ => ?_) (fun q_ => ?_) <;> try simp only [Int.toNat_natCast, Nat.mul_one, Nat.add_zero] at q_) | (refine brF (fun q_ => ?_) (fun q_ => ?_) <;> try simp only [Int.toNat_natCast, Nat.mul_one, Nat.add_zero] at q_))
      · refine ⟨j - 1, ⟨by omega, fun x h1 h2 => ?_⟩, (by show j - 1 < j; omega), StLe.ren [0] tmS ⟨own_refl, trivial⟩ (by decide)⟩
        rw [show ((j : Int) - 1).toNat = j - 1 by omega] at q_
        rcases Nat.lt_or_ge x j with h3 | h3
        · have : x = j - 1 := by omega
          subst this
          omega
        · exact hge x h3 h2
      · refine And.intro (show j + 1 ≤ _ by omega) (And.intro (show (j + 1) * 24 ≤ _ by omega) ?_)
        repeat' (first | refine gw ?_ | (refine br (fun q_ => ?_) (fun q_ => ?_) <;> try simp only [Int.toNat_natCast, Nat.mul_one, Nat.add_zero] at q_) | (refine brF (fun q_ => ?_) (fun q_ => ?_) <;> try simp only [Int.toNat_natCast, Nat.mul_one, Nat.add_zero] at q_))
        refine And.intro (show j + 1 + (out.length - j) ≤ _ by omega) (And.intro (show (j + 1 + (out.length - j)) * 24 ≤ _ by omega) ?_)
        repeat' (first | refine gw ?_ | (refine br (fun q_ => ?_) (fun q_ => ?_) <;> try simp only [Int.toNat_natCast, Nat.mul_one, Nat.add_zero] at q_) | (refine brF (fun q_ => ?_) (fun q_ => ?_) <;> try simp only [Int.toNat_natCast, Nat.mul_one, Nat.add_zero] at q_))
        obtain ⟨f1, f2⟩ := fin (fun x hx => by
          rw [show ((j : Int) - 1).toNat = j - 1 by omega] at q_
          rcases Nat.lt_or_ge x (j - 1) with h3 | h3
          · have := List.pairwise_iff_getElem.1 hs x (j - 1) (by omega) (by omega) h3
            rw [← getD_get, ← getD_get] at this
            omega
          · have : x = j - 1 := by omega
            subst this
            omega)
        exact ⟨(k + 1, insAt out j (l.getD k default)), ⟨hlt, f1, f2⟩, (by show l.length - (k + 1) < l.length - k; omega), StLe.ren [3] tmS ⟨own_ins2 hj (fun j hj => match j, hj with | 0, _ => Ent.refl _ | 1, _ => Ent.refl _ | 2, _ => Ent.refl _), trivial⟩ (by decide)⟩
    · repeat' (first | refine gw ?_ | (refine br (fun q_ => ?_) (fun q_ => ?_) <;> try simp only [Int.toNat_natCast, Nat.mul_one, Nat.add_zero] at q_) | (refine brF (fun q_ => ?_) (fun q_ => ?_) <;> try simp only [Int.toNat_natCast, Nat.mul_one, Nat.add_zero] at q_))
      refine And.intro (show j + 1 ≤ _ by omega) (And.intro (show (j + 1) * 24 ≤ _ by omega) ?_)
      repeat' (first | refine gw ?_ | (refine br (fun q_ => ?_) (fun q_ => ?_) <;> try simp only [Int.toNat_natCast, Nat.mul_one, Nat.add_zero] at q_) | (refine brF (fun q_ => ?_) (fun q_ => ?_) <;> try simp only [Int.toNat_natCast, Nat.mul_one, Nat.add_zero] at q_))
      refine And.intro (show j + 1 + (out.length - j) ≤ _ by omega) (And.intro (show (j + 1 + (out.length - j)) * 24 ≤ _ by omega) ?_)
      repeat' (first | refine gw ?_ | (refine br (fun q_ => ?_) (fun q_ => ?_) <;> try simp only [Int.toNat_natCast, Nat.mul_one, Nat.add_zero] at q_) | (refine brF (fun q_ => ?_) (fun q_ => ?_) <;> try simp only [Int.toNat_natCast, Nat.mul_one, Nat.add_zero] at q_))
      obtain ⟨f1, f2⟩ := fin (fun x hx => by omega)
      exact ⟨(k + 1, insAt out j (l.getD k default)), ⟨hlt, f1, f2⟩, (by show l.length - (k + 1) < l.length - k; omega), StLe.ren [3] tmS ⟨own_ins2 hj (fun j hj => match j, hj with | 0, _ => Ent.refl _ | 1, _ => Ent.refl _ | 2, _ => Ent.refl _), trivial⟩ (by decide)⟩
  · have e : out = srt l := srt_one hall hap (by rw [List.take_of_length_le (by omega)] at hp; exact hp) hs
    repeat' (first | refine gw ?_ | (refine br (fun q_ => ?_) (fun q_ => ?_) <;> try simp only [Int.toNat_natCast, Nat.mul_one, Nat.add_zero] at q_) | (refine brF (fun q_ => ?_) (fun q_ => ?_) <;> try simp only [Int.toNat_natCast, Nat.mul_one, Nat.add_zero] at q_))
    refine EntR.of rfl ?_
    show Ent _ (spsD (srt l))
    rw [← e]
    exact Ent.refl _
theorem own_cat0 {α : Type} [Inhabited α] {ρ : List Nat} {e sz : Nat} {enc : α → Nat → D} {l : List α} {f : Nat → Nat → D} : OwnRen ρ (.row e sz (0 + l.length) (catF 0 f (fun i j => enc (l.getD i default) j))) (rowL e sz enc l) := by
  refine ⟨rfl, rfl, Nat.zero_add _, fun a ha j hj => ?_⟩
  show Ent (catF 0 f (fun i j => enc (l.getD i default) j) a j) (enc (l.getD a default) j)
  unfold catF
  rw [if_neg (by omega)]
  exact Ent.refl _
noncomputable def Γrmk : Ctx := fun f => match f with
  | 77 => some (.pure ctNames)
  | 78 => some (.pure ctOvR)
  | 79 => some (.pure ctSrt)
  | _ => none
theorem Γrmk_ok : CtxOk Tryz.prog (GlT mx pb) Γrmk := by
  intro f h hh
  simp only [Γrmk] at hh
  split at hh <;> simp at hh <;> subst hh
  · exact rNames_ok
  · exact rOv_ok
  · exact rSorted_ok
def owRm (nm : List ByteArray) (out : List Sp) : List Own := [.cells 27 [nilV, nilV], .cells 27 [.row 2, .row 3], rowL 9 1 strD nm, rowL 80 3 spD out]
set_option maxHeartbeats 8000000 in
theorem rMake_ok : Sound Tryz.prog (GlT mx pb) 28 ctMk := by
  refine sound_by (cc := true) Γrmk_ok Tryz.T_ok Tryz.mixed Tryz.func28 rfl (by kernel_rfl) (fun _ => rfl) (fun _ _ => by show 2 ≤ 165; decide) ?_
  rintro ⟨(nm : List ByteArray), (l : List Sp)⟩ (hl : l.length ≤ 100000)
  rcases Bool.eq_false_or_eq_true (namesB nm) with hn | hn
  · have hn250 : 1 ≤ nm.length ∧ nm.length ≤ 250 := by
      have := hn
      simp only [namesB, Bool.and_eq_true, decide_eq_true_eq] at this
      exact this.1
    repeat' (first | refine gw ?_ | (refine br (fun q_ => ?_) (fun q_ => ?_) <;> try simp only [Int.toNat_natCast, Nat.mul_one, Nat.add_zero] at q_) | (refine brF (fun q_ => ?_) (fun q_ => ?_) <;> try simp only [Int.toNat_natCast, Nat.mul_one, Nat.add_zero] at q_))
    refine ⟨0, Nat, fun k => ⟨[(0, slD 1 strD nm), (1, spsD l), (4, .own 0 0), (6, .v (.int .i64 k))], [.cells 27 [nilV, nilV]], []⟩, fun k => k ≤ l.length ∧ ∀ i, i < k → mkS nm.length (l.getD i default), fun k => l.length - k, fun _ => Nat.zero_le _, ⟨0, ⟨Nat.zero_le _, fun j hj => by omega⟩, StLe.ren [0] tmS ⟨⟨rfl, EntL.refl _, rfl⟩, trivial⟩ (by decide)⟩, ?_⟩
    rintro k ⟨hk, hd⟩
    by_cases hlt : k < l.length
    · have no : ¬ mkS nm.length (l.getD k default) → mkE nm l = 1 := fun h => mkE_range hn fun hh => h (hh k hlt)
      repeat' (first | refine gw ?_ | (refine br (fun q_ => ?_) (fun q_ => ?_) <;> try simp only [Int.toNat_natCast, Nat.mul_one, Nat.add_zero] at q_) | (refine brF (fun q_ => ?_) (fun q_ => ?_) <;> try simp only [Int.toNat_natCast, Nat.mul_one, Nat.add_zero] at q_))
      all_goals first
        | exact EntR.of rfl (mk_no (no fun h => by have h1 := h.2; have h2 := insB_iff.1 h.1; omega) (by decide))
        | exact ⟨k + 1, ⟨by omega, next_of hd ⟨insB_iff.2 ⟨by omega, by omega, by omega⟩, by omega, by omega⟩⟩, (by show _ - (k + 1) < _ - k; omega), StLe.ren [0] tmS ⟨⟨rfl, EntL.refl _, rfl⟩, trivial⟩ (by decide)⟩
    · have hall : allS nm.length l := fun i hi => hd i (by omega)
      repeat' (first | refine gw ?_ | (refine br (fun q_ => ?_) (fun q_ => ?_) <;> try simp only [Int.toNat_natCast, Nat.mul_one, Nat.add_zero] at q_) | (refine brF (fun q_ => ?_) (fun q_ => ?_) <;> try simp only [Int.toNat_natCast, Nat.mul_one, Nat.add_zero] at q_))
      refine ⟨0, Nat, fun k => ⟨[(0, slD 1 strD nm), (1, spsD l), (4, .own 0 0), (7, .v (.int .i64 k))], [.cells 27 [nilV, nilV]], []⟩, fun k => k ≤ l.length ∧ ∀ i, i < k → ¬ ovAt l i, fun k => l.length - k, fun _ => Nat.zero_le _, ⟨0, ⟨Nat.zero_le _, fun j hj => by omega⟩, StLe.ren [0] tmS ⟨⟨rfl, EntL.refl _, rfl⟩, trivial⟩ (by decide)⟩, ?_⟩
      clear hd hk hlt
      clear k
      rintro k ⟨hk, hd⟩
      by_cases hlt : k < l.length
      · repeat' (first | refine gw ?_ | (refine br (fun q_ => ?_) (fun q_ => ?_) <;> try simp only [Int.toNat_natCast, Nat.mul_one, Nat.add_zero] at q_) | (refine brF (fun q_ => ?_) (fun q_ => ?_) <;> try simp only [Int.toNat_natCast, Nat.mul_one, Nat.add_zero] at q_))
        refine ⟨0, Nat, fun j => ⟨[(0, slD 1 strD nm), (1, spsD l), (4, .own 0 0), (7, .v (.int .i64 k)), (8, .v (.int .i64 j))], [.cells 27 [nilV, nilV]], []⟩, fun j => j ≤ k ∧ ∀ x, x < j → ¬ ovS (l.getD x default) (l.getD k default), fun j => k - j, fun _ => Nat.zero_le _, ⟨0, ⟨Nat.zero_le _, fun j hj => by omega⟩, StLe.ren [0] tmS ⟨⟨rfl, EntL.refl _, rfl⟩, trivial⟩ (by decide)⟩, ?_⟩
        rintro j ⟨hj, hdj⟩
        by_cases hjk : j < k
        · repeat' (first | refine gw ?_ | (refine br (fun q_ => ?_) (fun q_ => ?_) <;> try simp only [Int.toNat_natCast, Nat.mul_one, Nat.add_zero] at q_) | (refine brF (fun q_ => ?_) (fun q_ => ?_) <;> try simp only [Int.toNat_natCast, Nat.mul_one, Nat.add_zero] at q_))
          refine ⟨(l.getD j default, l.getD k default), EntL.refl _, fun _ => trivial, ?_⟩
          by_cases ho : ovS (l.getD j default) (l.getD k default)
          · rw [show ctOvR.out (l.getD j default, l.getD k default) = .v (.bool true) from congrArg (fun b => D.v (.bool b)) (decide_eq_true ho)]
            repeat' (first | refine gw ?_ | (refine br (fun q_ => ?_) (fun q_ => ?_) <;> try simp only [Int.toNat_natCast, Nat.mul_one, Nat.add_zero] at q_) | (refine brF (fun q_ => ?_) (fun q_ => ?_) <;> try simp only [Int.toNat_natCast, Nat.mul_one, Nat.add_zero] at q_))
            exact EntR.of rfl (mk_no (mkE_twice hn hall (fun h => h k hlt ⟨j, hjk, ho⟩)) (by decide))
          · rw [show ctOvR.out (l.getD j default, l.getD k default) = .v (.bool false) from congrArg (fun b => D.v (.bool b)) (decide_eq_false ho)]
            repeat' (first | refine gw ?_ | (refine br (fun q_ => ?_) (fun q_ => ?_) <;> try simp only [Int.toNat_natCast, Nat.mul_one, Nat.add_zero] at q_) | (refine brF (fun q_ => ?_) (fun q_ => ?_) <;> try simp only [Int.toNat_natCast, Nat.mul_one, Nat.add_zero] at q_))
            exact ⟨j + 1, ⟨by omega, next_of hdj ho⟩, (by show k - (j + 1) < k - j; omega), StLe.ren [0] tmS ⟨⟨rfl, EntL.refl _, rfl⟩, trivial⟩ (by decide)⟩
        · repeat' (first | refine gw ?_ | (refine br (fun q_ => ?_) (fun q_ => ?_) <;> try simp only [Int.toNat_natCast, Nat.mul_one, Nat.add_zero] at q_) | (refine brF (fun q_ => ?_) (fun q_ => ?_) <;> try simp only [Int.toNat_natCast, Nat.mul_one, Nat.add_zero] at q_))
          exact ⟨k + 1, ⟨by omega, next_of hd (fun ⟨x, hx, ho⟩ => hdj x (by omega) ho)⟩, (by show l.length - (k + 1) < l.length - k; omega), StLe.ren [0] tmS ⟨⟨rfl, EntL.refl _, rfl⟩, trivial⟩ (by decide)⟩
      · have hno : noOv l := fun i hi => hd i (by omega)
        have h0 := mkE_ok hn hall hno
        have hap := noOv_iff.1 hno
        have p1 : ctSrt.pre l := ⟨hl, ⟨_, hall⟩, hap⟩
        have hLl : (srt l).length = l.length := (srt_perm l).length_eq
        have hLa := srt_asc hall hap
        have hLm : allS nm.length (srt l) := by
          rw [allS_iff] at hall ⊢
          exact fun s hs => hall s ((srt_perm l).mem_iff.1 hs)
        have hout := mkP_yes h0
        repeat' (first | refine gw ?_ | (refine br (fun q_ => ?_) (fun q_ => ?_) <;> try simp only [Int.toNat_natCast, Nat.mul_one, Nat.add_zero] at q_) | (refine brF (fun q_ => ?_) (fun q_ => ?_) <;> try simp only [Int.toNat_natCast, Nat.mul_one, Nat.add_zero] at q_))
        refine And.intro (show 0 + nm.length ≤ _ by omega) (And.intro (show (0 + nm.length) * 16 ≤ _ by omega) ?_)
        repeat' (first | refine gw ?_ | (refine br (fun q_ => ?_) (fun q_ => ?_) <;> try simp only [Int.toNat_natCast, Nat.mul_one, Nat.add_zero] at q_) | (refine brF (fun q_ => ?_) (fun q_ => ?_) <;> try simp only [Int.toNat_natCast, Nat.mul_one, Nat.add_zero] at q_))
        refine ⟨0, Nat × List Sp, fun | (k, out) => ⟨[(4, .own 0 0), (9, .own 1 0), (10, spsD (srt l)), (11, .v (.int .i64 k))], owRm nm out, []⟩, fun | (k, out) => k ≤ (srt l).length ∧ out = joinSp ((srt l).take k), fun x => (srt l).length - x.1, fun _ => Nat.zero_le _, ⟨(0, []), ⟨Nat.zero_le _, rfl⟩, StLe.trans (StLe.nilCell (i := 3) (j := 1) 80 3 (fun _ _ => .junk) rfl rfl) (StLe.ren [0, 3, 2, 4] tmS ⟨⟨rfl, EntL.refl _, rfl⟩, ⟨rfl, EntL.refl _, rfl⟩, own_cat0 (e := 9) (sz := 1) (l := nm) (enc := strD) (f := fun _ _ => .junk), own_nil, trivial⟩ (by decide))⟩, ?_⟩
        clear hk hd hlt p1
        clear k
        generalize srt l = L at hLl hLa hLm hout ⊢
        rintro ⟨k, out⟩ ⟨(hk : k ≤ L.length), (ho : out = joinSp (L.take k))⟩
        unfold owRm
        have hol : out.length ≤ k := by rw [ho]; exact joinSp_len L k hk
        have JI := joinInv_all hLa hLm k hk
        rw [← ho] at JI
        by_cases hlt : k < L.length
        · have ht := joinSp_take hlt
          rw [← ho] at ht
          have hx := mkS_lo (hLm k hlt)
          have stay : (L.getD k default).val = 0 → out = joinSp (L.take (k + 1)) := fun h => by rw [ht, joinS1, if_pos h]
          have app : ¬ (L.getD k default).val = 0 → ¬ (0 < out.length ∧ (out.getD (out.length - 1) default).hi + 1 = (L.getD k default).lo ∧ (out.getD (out.length - 1) default).val = (L.getD k default).val) → out ++ [L.getD k default] = joinSp (L.take (k + 1)) := fun h h2 => by rw [ht, joinS1, if_neg h, if_neg h2]
          have mrg : ¬ (L.getD k default).val = 0 → (0 < out.length ∧ (out.getD (out.length - 1) default).hi + 1 = (L.getD k default).lo ∧ (out.getD (out.length - 1) default).val = (L.getD k default).val) → out.set (out.length - 1) ⟨(out.getD (out.length - 1) default).lo, (L.getD k default).hi, (out.getD (out.length - 1) default).val⟩ = joinSp (L.take (k + 1)) := fun h h2 => by rw [ht, joinS1, if_neg h, if_pos h2]
          by_cases hn0 : 0 < out.length
          · have hb : 0 ≤ (out.getD ((out.length : Int) - 1).toNat default).hi ∧ (out.getD ((out.length : Int) - 1).toNat default).hi ≤ 1114111 := by
              have := (JI.ok ((out.length : Int) - 1).toNat (by omega)).1
              unfold spIn at this
              simp only at this
              omega
            repeat' (first | refine gw ?_ | (refine br (fun q_ => ?_) (fun q_ => ?_) <;> try simp only [Int.toNat_natCast, Nat.mul_one, Nat.add_zero] at q_) | (refine brF (fun q_ => ?_) (fun q_ => ?_) <;> try simp only [Int.toNat_natCast, Nat.mul_one, Nat.add_zero] at q_))
            all_goals try rw [show ((out.length : Int) - 1).toNat = out.length - 1 by omega] at *
            all_goals first
              | exact ⟨(k + 1, out), ⟨hlt, stay q_⟩, (by show L.length - (k + 1) < L.length - k; omega), StLe.ren [0, 1, 2, 3] tmS ⟨⟨rfl, EntL.refl _, rfl⟩, ⟨rfl, EntL.refl _, rfl⟩, own_refl, own_refl, trivial⟩ (by decide)⟩
              | exact ⟨(k + 1, out.set (out.length - 1) ⟨(out.getD (out.length - 1) default).lo, (L.getD k default).hi, (out.getD (out.length - 1) default).val⟩), ⟨hlt, mrg (by omega) ⟨hn0, by omega, by omega⟩⟩, (by show L.length - (k + 1) < L.length - k; omega), StLe.ren [0, 1, 2, 3] tmS ⟨⟨rfl, EntL.refl _, rfl⟩, ⟨rfl, EntL.refl _, rfl⟩, own_refl, own_set (fun j hj => match j, hj with | 0, _ => Ent.refl _ | 1, _ => Ent.refl _ | 2, _ => Ent.refl _) (by omega), trivial⟩ (by decide)⟩
              | (refine And.intro (show out.length + 1 ≤ _ by omega) (And.intro (show (out.length + 1) * 24 ≤ _ by omega) ?_)
                 repeat' (first | refine gw ?_ | (refine br (fun q_ => ?_) (fun q_ => ?_) <;> try simp only [Int.toNat_natCast, Nat.mul_one, Nat.add_zero] at q_) | (refine brF (fun q_ => ?_) (fun q_ => ?_) <;> try simp only [Int.toNat_natCast, Nat.mul_one, Nat.add_zero] at q_))
                 exact ⟨(k + 1, out ++ [L.getD k default]), ⟨hlt, app (by omega) (by omega)⟩, (by show L.length - (k + 1) < L.length - k; omega), StLe.ren [0, 1, 2, 4] tmS ⟨⟨rfl, EntL.refl _, rfl⟩, ⟨rfl, EntL.refl _, rfl⟩, own_refl, own_app (fun j hj => match j, hj with | 0, _ => Ent.refl _ | 1, _ => Ent.refl _ | 2, _ => Ent.refl _), trivial⟩ (by decide)⟩)
          · repeat' (first | refine gw ?_ | (refine br (fun q_ => ?_) (fun q_ => ?_) <;> try simp only [Int.toNat_natCast, Nat.mul_one, Nat.add_zero] at q_) | (refine brF (fun q_ => ?_) (fun q_ => ?_) <;> try simp only [Int.toNat_natCast, Nat.mul_one, Nat.add_zero] at q_))
            all_goals first
              | exact ⟨(k + 1, out), ⟨hlt, stay q_⟩, (by show L.length - (k + 1) < L.length - k; omega), StLe.ren [0, 1, 2, 3] tmS ⟨⟨rfl, EntL.refl _, rfl⟩, ⟨rfl, EntL.refl _, rfl⟩, own_refl, own_refl, trivial⟩ (by decide)⟩
              | (refine And.intro (show out.length + 1 ≤ _ by omega) (And.intro (show (out.length + 1) * 24 ≤ _ by omega) ?_)
                 repeat' (first | refine gw ?_ | (refine br (fun q_ => ?_) (fun q_ => ?_) <;> try simp only [Int.toNat_natCast, Nat.mul_one, Nat.add_zero] at q_) | (refine brF (fun q_ => ?_) (fun q_ => ?_) <;> try simp only [Int.toNat_natCast, Nat.mul_one, Nat.add_zero] at q_))
                 exact ⟨(k + 1, out ++ [L.getD k default]), ⟨hlt, app (by omega) (fun h => hn0 h.1)⟩, (by show L.length - (k + 1) < L.length - k; omega), StLe.ren [0, 1, 2, 4] tmS ⟨⟨rfl, EntL.refl _, rfl⟩, ⟨rfl, EntL.refl _, rfl⟩, own_refl, own_app (fun j hj => match j, hj with | 0, _ => Ent.refl _ | 1, _ => Ent.refl _ | 2, _ => Ent.refl _), trivial⟩ (by decide)⟩)
        · rw [List.take_of_length_le (by omega)] at ho
          rw [← ho] at hout
          repeat' (first | refine gw ?_ | (refine br (fun q_ => ?_) (fun q_ => ?_) <;> try simp only [Int.toNat_natCast, Nat.mul_one, Nat.add_zero] at q_) | (refine brF (fun q_ => ?_) (fun q_ => ?_) <;> try simp only [Int.toNat_natCast, Nat.mul_one, Nat.add_zero] at q_))
          refine EntR.of rfl ?_
          show Ent _ (D.tu [prA (mkP nm l), .v (.int .i64 (mkE nm l))])
          rw [hout, h0]
          exact Ent.refl _
  · repeat' (first | refine gw ?_ | (refine br (fun q_ => ?_) (fun q_ => ?_) <;> try simp only [Int.toNat_natCast, Nat.mul_one, Nat.add_zero] at q_) | (refine brF (fun q_ => ?_) (fun q_ => ?_) <;> try simp only [Int.toNat_natCast, Nat.mul_one, Nat.add_zero] at q_))
    exact EntR.of rfl (mk_no (mkE_name hn) (by decide))
#print axioms rMake_ok
end Go.Proofs
