import Derived.Test.YtnegdnbodccgkaaGreatDoorOv
import Derived.Test.YtnegdnbodccgkaaGreatDoorSoS
import Derived.Test.YtnegdnbodccgkaaGreatDoorQ7
set_option linter.unusedVariables false
set_option linter.unusedSimpArgs false
namespace Go.Proofs
open Go Go.Sx
variable {mx : Int} {pb : Bool}

/-! property.Make -/
def ctCloneS : Ct := { ι := List ByteArray, inp := fun l => [slD 1 strD l], out := fun l => slD 1 strD l, pre := fun l => l.length ≤ 1000000 }
theorem cloneS_ok : Sound Tryz.prog (GlT mx pb) 76 ctCloneS := by
  refine sound_by (cc := true) Γ0_ok Tryz.T_ok Tryz.mixed Tryz.func76 rfl (by kernel_rfl) (fun _ => rfl) (fun _ _ => by show 1 ≤ 8; decide) ?_
  intro (l : List ByteArray) (hl : l.length ≤ 1000000)
  refine gA ?_
  intro q hq
  refine gA ?_
  refine And.intro (fun h => ?_) (fun h => ?_)
  · have hq : l.length = 0 := hq (by simpa using h)
    have e : l = [] := List.length_eq_zero_iff.1 hq
    subst e
    refine gA ?_
    exact EntR.of rfl Ent.nil
  · refine gA ?_
    refine And.intro (show 0 + l.length ≤ _ by omega) (And.intro (show (0 + l.length) * 16 ≤ _ by omega) ?_)
    refine gA ?_
    refine EntR.of rfl (Ent.sl (show 0 + l.length = l.length by omega) fun i hi j hj => Ent.of_eq ?_)
    simp only [catF]
    rw [if_neg (by omega)]
    rfl
noncomputable def ctMk : Ct := { ι := List ByteArray × List Sp, inp := fun x => [slD 1 strD x.1, spsD x.2], out := fun x => .tu [prA (mkP x.1 x.2), .v (.int .i64 (mkE x.1 x.2))], pre := fun x => x.2.length ≤ 100000 }
theorem mk_no {nm : List ByteArray} {l : List Sp} {e : Int} (h : mkE nm l = e) (h0 : ¬ e = 0) : Ent (.tu [.ag [nilV, nilV], .v (.int .i64 e)]) (ctMk.out (nm, l)) := by
  show Ent _ (D.tu [prA (mkP nm l), .v (.int .i64 (mkE nm l))])
  rw [mkP_no h h0, h]
  exact Ent.tu2 (Ent.ag (EntL.cons Ent.nil (EntL.cons Ent.nil (EntL.refl _)))) (Ent.refl _)
noncomputable def cCloneSp : Code := (Tryz.f72.body).getD .skip
noncomputable def Γmk (mx : Int) (pb : Bool) : Ctx := fun f => match f with
  | 69 => some (.gen (inlW true Γix Tryz.T (GlT mx pb) Tryz.f69 cIdx))
  | 70 => some (.pure ctIns)
  | 71 => some (.pure ctOv)
  | 72 => some (.gen (inlW true Γ0 Tryz.T (GlT mx pb) Tryz.f72 cCloneSp))
  | 73 => some (.gen (sortT 3 74 spD ltS))
  | 76 => some (.pure ctCloneS)
  | _ => none
theorem Γmk_ok : CtxOk Tryz.prog (GlT mx pb) (Γmk mx pb) := by
  intro f h hh
  simp only [Γmk] at hh
  split at hh <;> simp at hh <;> subst hh
  · exact soundT_inlW Γix_ok Tryz.T_ok Tryz.mixed Tryz.func69 rfl (by kernel_rfl)
  · exact pInside_ok
  · exact pOv_ok
  · exact soundT_inlW Γ0_ok Tryz.T_ok Tryz.mixed Tryz.func72 rfl (by kernel_rfl)
  · exact sortS_ok
  · exact cloneS_ok
def owMk (L out : List Sp) : List Own := [.cells 27 [nilV, nilV], rowL 80 3 spD L, rowL 80 3 spD out]
set_option maxHeartbeats 8000000 in
theorem pMake_ok : Sound Tryz.prog (GlT mx pb) 27 ctMk := by
  refine sound_by (cc := true) Γmk_ok Tryz.T_ok Tryz.mixed Tryz.func27 rfl (by kernel_rfl) (fun _ => rfl) (fun _ _ => by show 2 ≤ 106; decide) ?_
  rintro ⟨(nm : List ByteArray), (l : List Sp)⟩ (hl : l.length ≤ 100000)
  repeat' (first | refine gw ?_ | (refine br (fun q_ => ?_) (fun q_ => ?_) <;> try simp only [Int.toNat_natCast, Nat.mul_one, Nat.add_zero] at q_) | (refine brF (fun q_ => ?_) (fun q_ => ?_) <;> try simp only [Int.toNat_natCast, Nat.mul_one, Nat.add_zero] at q_))
  · exact EntR.of rfl (mk_no (mkE_name (names_len (.inr (by omega)))) (by decide))
  · refine ⟨0, Nat, fun k => ⟨[(4, .mp 1), (18, slD 1 strD nm), (19, .v (.int .i64 nm.length)), (20, .v (.int .i64 k))], [.cells 27 [nilV, nilV], .map 9 3 .s (mpN nm k)], []⟩, fun k => k ≤ nm.length ∧ ∀ j, j < k → nmOk nm j = true, fun k => nm.length - k, fun _ => (by show 1 ≤ 2; decide), ⟨0, ⟨Nat.zero_le _, fun j hj => by omega⟩, StLe.m1 tmS ⟨⟨rfl, EntL.refl _, rfl⟩, ⟨rfl, rfl, rfl, fun _ => trivial⟩, trivial⟩⟩, ?_⟩
    rintro k ⟨hk, hd⟩
    by_cases hlt : k < nm.length
    · by_cases hdup : ∃ j, j < k ∧ nm.getD j default = nm.getD k default
      · obtain ⟨i, hi⟩ := mpN_some hdup
        obtain ⟨j, hj, hje⟩ := hdup
        have hno : mkE nm l = 6 := mkE_name (names_no hlt (nmOk_2 hj hje))
        repeat' (first | refine gw ?_ | (refine br (fun q_ => ?_) (fun q_ => ?_) <;> try simp only [Int.toNat_natCast, Nat.mul_one, Nat.add_zero] at q_) | (refine brF (fun q_ => ?_) (fun q_ => ?_) <;> try simp only [Int.toNat_natCast, Nat.mul_one, Nat.add_zero] at q_))
        refine ⟨fun d hdd => ?_, fun hnn => absurd (hi.symm.trans hnn) (by simp)⟩
        obtain rfl : d = .v (.int .i64 i) := Option.some.inj (hdd.symm.trans hi)
        repeat' (first | refine gw ?_ | (refine br (fun q_ => ?_) (fun q_ => ?_) <;> try simp only [Int.toNat_natCast, Nat.mul_one, Nat.add_zero] at q_) | (refine brF (fun q_ => ?_) (fun q_ => ?_) <;> try simp only [Int.toNat_natCast, Nat.mul_one, Nat.add_zero] at q_))
        all_goals exact EntR.of rfl (mk_no hno (by decide))
      · have hno : ∀ j, j < k → ¬ nm.getD j default = nm.getD k default := fun j hj e => hdup ⟨j, hj, e⟩
        have hi := mpN_none hno
        repeat' (first | refine gw ?_ | (refine br (fun q_ => ?_) (fun q_ => ?_) <;> try simp only [Int.toNat_natCast, Nat.mul_one, Nat.add_zero] at q_) | (refine brF (fun q_ => ?_) (fun q_ => ?_) <;> try simp only [Int.toNat_natCast, Nat.mul_one, Nat.add_zero] at q_))
        refine ⟨fun d hdd => absurd (hi.symm.trans hdd) (by simp), fun _ => ?_⟩
        repeat' (first | refine gw ?_ | (refine br (fun q_ => ?_) (fun q_ => ?_) <;> try simp only [Int.toNat_natCast, Nat.mul_one, Nat.add_zero] at q_) | (refine brF (fun q_ => ?_) (fun q_ => ?_) <;> try simp only [Int.toNat_natCast, Nat.mul_one, Nat.add_zero] at q_))
        · exact EntR.of rfl (mk_no (mkE_name (names_no hlt (nmOk_1 q_))) (by decide))
        · exact ⟨k + 1, ⟨by omega, next_of hd (nmOk_t q_ hno)⟩, (by show _ - (k + 1) < _ - k; omega), StLe.m1 tmS ⟨⟨rfl, EntL.refl _, rfl⟩, ⟨rfl, rfl, rfl, fun key => by
            show OptRen [0, 1] (if key = .s (nm.getD k default) then some (D.v (.int .i64 k)) else mpN nm k key) (if key = .s (nm.getD k default) then some (D.v (.int .i64 k)) else mpN nm k key)
            exact optRen_self (mpN_pd nm (k + 1) key)⟩, trivial⟩⟩
    · have hn : namesB nm = true := names_yes (by omega) (by omega) (fun i hi => hd i (by omega))
      have hn250 : nm.length ≤ 250 := by omega
      repeat' (first | refine gw ?_ | (refine br (fun q_ => ?_) (fun q_ => ?_) <;> try simp only [Int.toNat_natCast, Nat.mul_one, Nat.add_zero] at q_) | (refine brF (fun q_ => ?_) (fun q_ => ?_) <;> try simp only [Int.toNat_natCast, Nat.mul_one, Nat.add_zero] at q_))
      refine ⟨0, Nat, fun k => ⟨[(0, slD 1 strD nm), (1, spsD l), (4, .own 0 0), (23, spsD l), (24, .v (.int .i64 l.length)), (25, .v (.int .i64 k))], [.cells 27 [nilV, nilV]], []⟩, fun k => k ≤ l.length ∧ ∀ i, i < k → mkS nm.length (l.getD i default), fun k => l.length - k, fun _ => Nat.zero_le _, ⟨0, ⟨Nat.zero_le _, fun j hj => by omega⟩, StLe.ren [0] tmS ⟨⟨rfl, EntL.refl _, rfl⟩, trivial⟩ (by decide)⟩, ?_⟩
      clear hd hk hlt
      clear k
      rintro k ⟨hk, hd⟩
      by_cases hlt : k < l.length
      · have no : ¬ mkS nm.length (l.getD k default) → mkE nm l = 1 := fun h => mkE_range hn fun hh => h (hh k hlt)
        rcases Bool.eq_false_or_eq_true (insB (l.getD k default)) with hin | hin
        · repeat' (first | refine gw ?_ | (refine br (fun q_ => ?_) (fun q_ => ?_) <;> try simp only [Int.toNat_natCast, Nat.mul_one, Nat.add_zero] at q_) | (refine brF (fun q_ => ?_) (fun q_ => ?_) <;> try simp only [Int.toNat_natCast, Nat.mul_one, Nat.add_zero] at q_))
          all_goals first
            | exact EntR.of rfl (mk_no (no fun h => by have h1 := h.2; omega) (by decide))
            | exact ⟨k + 1, ⟨by omega, next_of hd ⟨hin, by omega, by omega⟩⟩, (by show _ - (k + 1) < _ - k; omega), StLe.ren [0] tmS ⟨⟨rfl, EntL.refl _, rfl⟩, trivial⟩ (by decide)⟩
        · repeat' (first | refine gw ?_ | (refine br (fun q_ => ?_) (fun q_ => ?_) <;> try simp only [Int.toNat_natCast, Nat.mul_one, Nat.add_zero] at q_) | (refine brF (fun q_ => ?_) (fun q_ => ?_) <;> try simp only [Int.toNat_natCast, Nat.mul_one, Nat.add_zero] at q_))
          all_goals exact EntR.of rfl (mk_no (no fun h => by have h1 := h.1; rw [hin] at h1; exact Bool.noConfusion h1) (by decide))
      · have hall : allS nm.length l := fun i hi => hd i (by omega)
        have p1 : ctOv.pre l := ⟨hl, fun i hi => (hall i hi).1⟩
        rcases ovI_cases l with ⟨hov, he⟩ | ⟨i, hi, ho, hno, he⟩
        · have h0 := mkE_ok hn hall hov
          rw [noOv_iff] at hov
          repeat' (first | refine gw ?_ | (refine br (fun q_ => ?_) (fun q_ => ?_) <;> try simp only [Int.toNat_natCast, Nat.mul_one, Nat.add_zero] at q_) | (refine brF (fun q_ => ?_) (fun q_ => ?_) <;> try simp only [Int.toNat_natCast, Nat.mul_one, Nat.add_zero] at q_))
          intro q hq
          cases q
          · repeat' (first | refine gw ?_ | (refine br (fun q_ => ?_) (fun q_ => ?_) <;> try simp only [Int.toNat_natCast, Nat.mul_one, Nat.add_zero] at q_) | (refine brF (fun q_ => ?_) (fun q_ => ?_) <;> try simp only [Int.toNat_natCast, Nat.mul_one, Nat.add_zero] at q_))
            refine And.intro (show 0 + l.length ≤ _ by omega) (And.intro (show (0 + l.length) * 24 ≤ _ by omega) ?_)
            repeat' (first | refine gw ?_ | (refine br (fun q_ => ?_) (fun q_ => ?_) <;> try simp only [Int.toNat_natCast, Nat.mul_one, Nat.add_zero] at q_) | (refine brF (fun q_ => ?_) (fun q_ => ?_) <;> try simp only [Int.toNat_natCast, Nat.mul_one, Nat.add_zero] at q_))
            refine .inl ⟨_, _, _, _, l, rfl, rfl, Nat.zero_add _, fun a ha j hj => ?_, by omega, fun L hp hs => ?_⟩
            · simp only [catF, Src.fn]
              rw [if_neg (by omega)]
              exact Ent.refl _
            have hLl : L.length = l.length := hp.length_eq
            have hLs : L = srt l := srt_one hall hov hp (List.pairwise_iff_getElem.2 fun i j hi hj hij => by
              have := hs i j hij hj
              rw [getD_get hi, getD_get hj] at this
              simp [ltS] at this
              exact this)
            have hLa : ascS L := by rw [hLs]; exact srt_asc hall hov
            have hLm : allS nm.length L := by
              rw [allS_iff] at hall ⊢
              exact fun s hs => hall s (hp.mem_iff.1 hs)
            have hout : mkP nm l = ⟨nm, joinSp L⟩ := by rw [hLs]; exact mkP_yes h0
            repeat' (first | refine gw ?_ | (refine br (fun q_ => ?_) (fun q_ => ?_) <;> try simp only [Int.toNat_natCast, Nat.mul_one, Nat.add_zero] at q_) | (refine brF (fun q_ => ?_) (fun q_ => ?_) <;> try simp only [Int.toNat_natCast, Nat.mul_one, Nat.add_zero] at q_))
            refine ⟨0, Nat × List Sp, fun | (k, out) => ⟨[(0, slD 1 strD nm), (4, .own 0 0), (11, .row 2), (54, .row 1), (55, .v (.int .i64 L.length)), (56, .v (.int .i64 k))], owMk L out, []⟩, fun | (k, out) => k ≤ L.length ∧ out = joinSp (L.take k), fun x => L.length - x.1, fun _ => Nat.zero_le _, ⟨(0, []), ⟨Nat.zero_le _, rfl⟩, StLe.trans (StLe.nilRow (t := 11) 80 3 (fun _ _ => .junk) rfl) (StLe.ren [0, 2, 3] tmS ⟨⟨rfl, EntL.refl _, rfl⟩, own_refl, own_nil, trivial⟩ (by decide))⟩, ?_⟩
            clear hk hd hlt hs hp hLs hov p1 he hq
            clear k
            rintro ⟨k, out⟩ ⟨(hk : k ≤ L.length), (ho : out = joinSp (L.take k))⟩
            unfold owMk
            have hol : out.length ≤ k := by rw [ho]; exact joinSp_len L k hk
            have JI := joinInv_all hLa hLm k hk
            rw [← ho] at JI
            by_cases hlt : k < L.length
            · have ht := joinSp_take hlt
              rw [← ho] at ht
              have hx := mkS_lo (hLm k hlt)
              have stay : (L.getD k default).val = 0 → out = joinSp (L.take (k + 1)) := fun h => by rw [ht, joinS1, if_pos h]
              have app : ¬ (L.getD k default).val = 0 → ¬ (0 < out.length ∧ (out.getD (out.length - 1) default).hi + 1 = (L.getD k default).lo ∧ (out.getD (out.length - 1) default).val = (L.getD k default).val) → out ++ [L.getD k default] = joinSp (L.take (k + 1)) := fun h h2 => by rw [ht, joinS1, if_neg h, if_neg h2]
              have mrg : ¬ (L.getD k default).val = 0 → (0 < out.length ∧ (out.getD (out.length - 1) default).hi + 1 = (L.getD k default).lo ∧ (out.getD (out.length - 1) default).val = (L.getD k default).val) → out.set (out.length - 1) ⟨(out.getD (out.length - 1) default).lo, (L.getD k default).hi, (out.getD (out.length - 1) default).val⟩ = joinSp (L.take (k + 1)) := fun h h2 => by rw [ht, joinS1, if_neg h, if_pos h2]
              by_cases hn0 : 0 < out.length
              · have hb : 0 ≤ (out.getD ((out.length : Int) - 1).toNat default).hi ∧ (out.getD ((out.length : Int) - 1).toNat default).hi ≤ 1114111 := by
                  have := (JI.ok ((out.length : Int) - 1).toNat (by omega)).1
                  unfold spIn at this
                  simp only at this
                  omega
                repeat' (first | refine gw ?_ | (refine br (fun q_ => ?_) (fun q_ => ?_) <;> try simp only [Int.toNat_natCast, Nat.mul_one, Nat.add_zero] at q_) | (refine brF (fun q_ => ?_) (fun q_ => ?_) <;> try simp only [Int.toNat_natCast, Nat.mul_one, Nat.add_zero] at q_))
                all_goals try rw [show ((out.length : Int) - 1).toNat = out.length - 1 by omega] at *
                all_goals first
                  | exact ⟨(k + 1, out), ⟨hlt, stay q_⟩, (by show L.length - (k + 1) < L.length - k; omega), StLe.ren [0, 1, 2] tmS ⟨⟨rfl, EntL.refl _, rfl⟩, own_refl, own_refl, trivial⟩ (by decide)⟩
                  | exact ⟨(k + 1, out.set (out.length - 1) ⟨(out.getD (out.length - 1) default).lo, (L.getD k default).hi, (out.getD (out.length - 1) default).val⟩), ⟨hlt, mrg (by omega) ⟨hn0, by omega, by omega⟩⟩, (by show L.length - (k + 1) < L.length - k; omega), StLe.ren [0, 1, 2] tmS ⟨⟨rfl, EntL.refl _, rfl⟩, own_refl, own_set (fun j hj => match j, hj with | 0, _ => Ent.refl _ | 1, _ => Ent.refl _ | 2, _ => Ent.refl _) (by omega), trivial⟩ (by decide)⟩
                  | (refine And.intro (show out.length + 1 ≤ _ by omega) (And.intro (show (out.length + 1) * 24 ≤ _ by omega) ?_)
                     repeat' (first | refine gw ?_ | (refine br (fun q_ => ?_) (fun q_ => ?_) <;> try simp only [Int.toNat_natCast, Nat.mul_one, Nat.add_zero] at q_) | (refine brF (fun q_ => ?_) (fun q_ => ?_) <;> try simp only [Int.toNat_natCast, Nat.mul_one, Nat.add_zero] at q_))
                     exact ⟨(k + 1, out ++ [L.getD k default]), ⟨hlt, app (by omega) (by omega)⟩, (by show L.length - (k + 1) < L.length - k; omega), StLe.ren [0, 1, 4] tmS ⟨⟨rfl, EntL.refl _, rfl⟩, own_refl, own_app (fun j hj => match j, hj with | 0, _ => Ent.refl _ | 1, _ => Ent.refl _ | 2, _ => Ent.refl _), trivial⟩ (by decide)⟩)
              · repeat' (first | refine gw ?_ | (refine br (fun q_ => ?_) (fun q_ => ?_) <;> try simp only [Int.toNat_natCast, Nat.mul_one, Nat.add_zero] at q_) | (refine brF (fun q_ => ?_) (fun q_ => ?_) <;> try simp only [Int.toNat_natCast, Nat.mul_one, Nat.add_zero] at q_))
                all_goals first
                  | exact ⟨(k + 1, out), ⟨hlt, stay q_⟩, (by show L.length - (k + 1) < L.length - k; omega), StLe.ren [0, 1, 2] tmS ⟨⟨rfl, EntL.refl _, rfl⟩, own_refl, own_refl, trivial⟩ (by decide)⟩
                  | (refine And.intro (show out.length + 1 ≤ _ by omega) (And.intro (show (out.length + 1) * 24 ≤ _ by omega) ?_)
                     repeat' (first | refine gw ?_ | (refine br (fun q_ => ?_) (fun q_ => ?_) <;> try simp only [Int.toNat_natCast, Nat.mul_one, Nat.add_zero] at q_) | (refine brF (fun q_ => ?_) (fun q_ => ?_) <;> try simp only [Int.toNat_natCast, Nat.mul_one, Nat.add_zero] at q_))
                     exact ⟨(k + 1, out ++ [L.getD k default]), ⟨hlt, app (by omega) (fun h => hn0 h.1)⟩, (by show L.length - (k + 1) < L.length - k; omega), StLe.ren [0, 1, 4] tmS ⟨⟨rfl, EntL.refl _, rfl⟩, own_refl, own_app (fun j hj => match j, hj with | 0, _ => Ent.refl _ | 1, _ => Ent.refl _ | 2, _ => Ent.refl _), trivial⟩ (by decide)⟩)
            · have p2 : ctCloneS.pre nm := (by show nm.length ≤ 1000000; omega)
              rw [List.take_of_length_le (by omega)] at ho
              rw [← ho] at hout
              repeat' (first | refine gw ?_ | (refine br (fun q_ => ?_) (fun q_ => ?_) <;> try simp only [Int.toNat_natCast, Nat.mul_one, Nat.add_zero] at q_) | (refine brF (fun q_ => ?_) (fun q_ => ?_) <;> try simp only [Int.toNat_natCast, Nat.mul_one, Nat.add_zero] at q_))
              refine EntR.of rfl ?_
              show Ent _ (D.tu [prA (mkP nm l), .v (.int .i64 (mkE nm l))])
              rw [hout, h0]
              exact Ent.refl _
          · have hl0 : l = [] := List.length_eq_zero_iff.1 (hq rfl)
            have p2 : ctCloneS.pre nm := (by show nm.length ≤ 1000000; omega)
            repeat' (first | refine gw ?_ | (refine br (fun q_ => ?_) (fun q_ => ?_) <;> try simp only [Int.toNat_natCast, Nat.mul_one, Nat.add_zero] at q_) | (refine brF (fun q_ => ?_) (fun q_ => ?_) <;> try simp only [Int.toNat_natCast, Nat.mul_one, Nat.add_zero] at q_))
            refine .inr ⟨rfl, ?_⟩
            repeat' (first | refine gw ?_ | (refine br (fun q_ => ?_) (fun q_ => ?_) <;> try simp only [Int.toNat_natCast, Nat.mul_one, Nat.add_zero] at q_) | (refine brF (fun q_ => ?_) (fun q_ => ?_) <;> try simp only [Int.toNat_natCast, Nat.mul_one, Nat.add_zero] at q_))
            refine ⟨2, ?_⟩
            repeat' (first | refine gw ?_ | (refine br (fun q_ => ?_) (fun q_ => ?_) <;> try simp only [Int.toNat_natCast, Nat.mul_one, Nat.add_zero] at q_) | (refine brF (fun q_ => ?_) (fun q_ => ?_) <;> try simp only [Int.toNat_natCast, Nat.mul_one, Nat.add_zero] at q_))
            refine EntR.of rfl ?_
            show Ent _ (D.tu [prA (mkP nm l), .v (.int .i64 (mkE nm l))])
            have hout : mkP nm l = ⟨nm, []⟩ := by rw [mkP_yes h0, hl0]; simp [srt, joinSp]
            rw [hout, h0]
            exact Ent.tu2 (Ent.ag (EntL.cons (Ent.refl _) (EntL.cons Ent.nil (EntL.refl _)))) (Ent.refl _)
        · have h5 : mkE nm l = 5 := mkE_twice hn hall (fun h => h i hi ho)
          repeat' (first | refine gw ?_ | (refine br (fun q_ => ?_) (fun q_ => ?_) <;> try simp only [Int.toNat_natCast, Nat.mul_one, Nat.add_zero] at q_) | (refine brF (fun q_ => ?_) (fun q_ => ?_) <;> try simp only [Int.toNat_natCast, Nat.mul_one, Nat.add_zero] at q_))
          · exact EntR.of rfl (mk_no h5 (by decide))
          all_goals (exfalso; omega)
  · exact EntR.of rfl (mk_no (mkE_name (names_len (.inl (by omega)))) (by decide))
#print axioms pMake_ok
end Go.Proofs
