import Derived.Test.YtjfcfaiodbmodaaGreatDoorFd
set_option linter.unusedVariables false
set_option linter.unusedSimpArgs false
namespace Go.Proofs
open Go Go.Sx
variable {mx : Int} {pb : Bool}

set_option maxHeartbeats 16000000 in
theorem rCmpF_ok {mx : Int} : Sound Tryz.prog (GlT mx true) 46 ctCmpF := by
  refine sound_by (cc := true) Γcm_ok Tryz.T_ok Tryz.mixed Tryz.func46 rfl (by kernel_rfl) (fun _ => rfl) (fun _ _ => by show 3 ≤ 115; decide) ?_
  rintro ⟨(a : Db), (b : Db), (k : Nat)⟩ ⟨(ha : OkD a), (hb : OkD b), (hk : k < 20)⟩
  have la := ptR_len ha.sm hk
  have lb := ptR_len hb.sm hk
  have va := part_valid ha hk
  have vb := part_valid hb hk
  have l1 := cutsL_len (l := []) (rs := ptR (partOf a k))
  have l2 := cutsL_len (l := cutsL [] (ptR (partOf a k))) (rs := ptR (partOf b k))
  have l1 : (cutsL [] (ptR (partOf a k))).length ≤ 41 := by simp at l1; omega
  have p1 : ctCutsF.pre (cutsL [] (ptR (partOf a k)), b, k) := ⟨by show (cutsL [] (ptR (partOf a k))).length ≤ 1000; omega, hb.sm, hk⟩
  repeat' (first | refine gl ?_ | (refine br (fun q_ => ?_) (fun q_ => ?_) <;> try simp only [Int.toNat_natCast, Nat.mul_one, Nat.add_zero] at q_) | (refine brF (fun q_ => ?_) (fun q_ => ?_) <;> try simp only [Int.toNat_natCast, Nat.mul_one, Nat.add_zero] at q_))
  refine ⟨([], a, k), EntL.cons Ent.nil (EntL.refl _), fun _ => ⟨(by show ([] : List Int).length ≤ 1000; decide), ha.sm, hk⟩, ?_⟩
  repeat' (first | refine gl ?_ | (refine br (fun q_ => ?_) (fun q_ => ?_) <;> try simp only [Int.toNat_natCast, Nat.mul_one, Nat.add_zero] at q_) | (refine brF (fun q_ => ?_) (fun q_ => ?_) <;> try simp only [Int.toNat_natCast, Nat.mul_one, Nat.add_zero] at q_))
  have hasc : (cutsL (cutsL [] (ptR (partOf a k))) (ptR (partOf b k))).Pairwise (· < ·) := cutsL_asc (cutsL_asc List.Pairwise.nil)
  have hok : ∀ x ∈ cutsL (cutsL [] (ptR (partOf a k))) (ptR (partOf b k)), 0 ≤ x ∧ x ≤ 1114111 := cutsL_ok (cutsL_ok (fun x hx => by simp at hx))
  have h0c : (0 : Int) ∈ cutsL (cutsL [] (ptR (partOf a k))) (ptR (partOf b k)) := cutsL_zero
  have hconst : ∀ s t : Int, 0 ≤ s → t ≤ 1114111 → (∀ x ∈ cutsL (cutsL [] (ptR (partOf a k))) (ptR (partOf b k)), ¬ (s < x ∧ x ≤ t)) → ∀ c, s ≤ c → c ≤ t → ptV (partOf a k) c = ptV (partOf a k) s ∧ ptV (partOf b k) c = ptV (partOf b k) s := fun s t h0 ht hc c h1 h2 =>
    ⟨ptV_const h0 ht (fun r hr x hx => hc x (cutsL_old (cutsL_at hr hx))) ⟨h1, h2⟩ va, ptV_const h0 ht (fun r hr x hx => hc x (cutsL_at hr hx)) ⟨h1, h2⟩ vb⟩
  have hlen : (cutsL (cutsL [] (ptR (partOf a k))) (ptR (partOf b k))).length ≤ 100 := by omega
  rw [show ctCutsF.out (cutsL [] (ptR (partOf a k)), b, k) = slD 1 intD (cutsL (cutsL [] (ptR (partOf a k))) (ptR (partOf b k))) from rfl]
  generalize cutsL (cutsL [] (ptR (partOf a k))) (ptR (partOf b k)) = cs at hasc hok h0c hconst hlen ⊢
  refine ⟨0, Nat × List Ch, fun | (i, out) => ⟨[(2, .v (.string (nmK k))), (3, .own 0 0), (4, .own 1 0), (7, .row 2), (8, slD 1 intD cs), (9, .v (.int .i64 i))], [.cells 39 (dbL a), .cells 39 (dbL b), rowL 53 5 chD out], []⟩, fun | (i, out) => i ≤ cs.length ∧ out = chB (nmK k) (ptV (partOf a k)) (ptV (partOf b k)) (cutAt cs i), fun x => cs.length - x.1, fun _ => Nat.zero_le _, ⟨(0, []), ⟨Nat.zero_le _, ?_⟩, StLe.trans (StLe.nilRow (t := 7) 53 5 (fun _ _ => .junk) rfl) (StLe.ren [0, 1, 2] tmS ⟨⟨rfl, EntL.refl _, rfl⟩, ⟨rfl, EntL.refl _, rfl⟩, own_nil, trivial⟩ (by decide))⟩, ?_⟩
  · rw [cutAt, if_pos (List.length_pos_of_mem h0c), asc_zero hasc (fun x hx => (hok x hx).1) h0c, chB_zero]
  rintro ⟨i, out⟩ ⟨hi, hout⟩
  have hi : i ≤ cs.length := hi
  by_cases hlt : i < cs.length
  · obtain ⟨s1, s2, s3, s4⟩ := segHi_in hasc hok hlt
    have hol := chB_len (nmK k) (ptV (partOf a k)) (ptV (partOf b k)) (b := cutAt cs i) (by rw [cutAt, if_pos hlt]; omega)
    rw [← hout] at hol
    have hca : cutAt cs i = cs.getD i default := by rw [cutAt, if_pos hlt]
    have hcn : cutAt cs (i + 1) = segHi cs i + 1 := by unfold cutAt segHi; split <;> omega
    have hnx : chB (nmK k) (ptV (partOf a k)) (ptV (partOf b k)) (cutAt cs (i + 1)) = addC (nmK k) out (cs.getD i default) (segHi cs i) (ptV (partOf a k) (cs.getD i default)) (ptV (partOf b k) (cs.getD i default)) := by
      rw [hcn, hout, hca]
      exact (chB_seg s1 s2 (hconst _ _ s1 s3 s4)).symm
    have p2 : ctValF.pre (a, k, cs.getD i default) := ⟨ha, hk⟩
    have p3 : ctValF.pre (b, k, cs.getD i default) := ⟨hb, hk⟩
    have ek : ((out.length : Int) - 1).toNat = out.length - 1 := by omega
    have ei : ((i : Int) + 1).toNat = i + 1 := by omega
    have hhi : 0 < out.length → (out.getD ((out.length : Int) - 1).toNat default).hi ≤ 1114111 ∧ 0 ≤ (out.getD ((out.length : Int) - 1).toNat default).hi := fun h0 => by
      have hinv := chU_inv (nmK k) (ptV (partOf a k)) (ptV (partOf b k)) (cutAt cs i).toNat
      have hm : out.getD (out.length - 1) default ∈ chU (nmK k) (ptV (partOf a k)) (ptV (partOf b k)) (cutAt cs i).toNat := by
        have : out = chU (nmK k) (ptV (partOf a k)) (ptV (partOf b k)) (cutAt cs i).toNat := hout
        rw [← this]; exact getD_mem (by omega)
      have := hinv.each _ hm
      rw [ek]
      rw [hca] at this
      omega
    by_cases hl1 : i + 1 < cs.length
    · have hb1 := hok _ (getD_mem hl1)
      have hb2 : 0 ≤ cs.getD ((i : Int) + 1).toNat default ∧ cs.getD ((i : Int) + 1).toNat default ≤ 1114111 := by rw [ei]; exact hb1
      have hsg : segHi cs i = cs.getD ((i : Int) + 1).toNat default - 1 := by rw [segHi, if_pos hl1, ei]
      rw [hsg] at hnx
      rcases Nat.eq_zero_or_pos out.length with h0 | h0
      · repeat' (first | refine gl ?_ | (refine br (fun q_ => ?_) (fun q_ => ?_) <;> try simp only [Int.toNat_natCast, Nat.mul_one, Nat.add_zero] at q_) | (refine brF (fun q_ => ?_) (fun q_ => ?_) <;> try simp only [Int.toNat_natCast, Nat.mul_one, Nat.add_zero] at q_))
        refine ⟨(a, k, cs.getD i default), EntL.refl _, fun _ => ⟨ha, hk⟩, ?_⟩
        repeat' (first | refine gl ?_ | (refine br (fun q_ => ?_) (fun q_ => ?_) <;> try simp only [Int.toNat_natCast, Nat.mul_one, Nat.add_zero] at q_) | (refine brF (fun q_ => ?_) (fun q_ => ?_) <;> try simp only [Int.toNat_natCast, Nat.mul_one, Nat.add_zero] at q_))
        all_goals first
          | exact ⟨(i + 1, out), ⟨by omega, by rw [hnx, addC, if_pos (show ptV (partOf a k) (cs.getD i default) = ptV (partOf b k) (cs.getD i default) from q_)]⟩, (by show _ - (i + 1) < _ - i; omega), StLe.ren [0, 1, 2] tmS ⟨⟨rfl, EntL.refl _, rfl⟩, ⟨rfl, EntL.refl _, rfl⟩, own_refl, trivial⟩ (by decide)⟩
          | exact ⟨(i + 1, out ++ [⟨nmK k, cs.getD i default, cs.getD ((i : Int) + 1).toNat default - 1, ptV (partOf a k) (cs.getD i default), ptV (partOf b k) (cs.getD i default)⟩]), ⟨by omega, by rw [hnx, addC, if_neg (show ¬ ptV (partOf a k) (cs.getD i default) = ptV (partOf b k) (cs.getD i default) from q_), if_neg (fun h => by have := h.1; omega)]⟩, (by show _ - (i + 1) < _ - i; omega), StLe.ren [0, 1, 4] tmS ⟨⟨rfl, EntL.refl _, rfl⟩, ⟨rfl, EntL.refl _, rfl⟩, own_app (lt5 (Ent.refl _) (Ent.refl _) (Ent.refl _) (Ent.refl _) (Ent.refl _)), trivial⟩ (by decide)⟩
      · have hhi := hhi h0
        repeat' (first | refine gl ?_ | (refine br (fun q_ => ?_) (fun q_ => ?_) <;> try simp only [Int.toNat_natCast, Nat.mul_one, Nat.add_zero] at q_) | (refine brF (fun q_ => ?_) (fun q_ => ?_) <;> try simp only [Int.toNat_natCast, Nat.mul_one, Nat.add_zero] at q_))
        refine ⟨(a, k, cs.getD i default), EntL.refl _, fun _ => ⟨ha, hk⟩, ?_⟩
        repeat' (first | refine gl ?_ | (refine br (fun q_ => ?_) (fun q_ => ?_) <;> try simp only [Int.toNat_natCast, Nat.mul_one, Nat.add_zero] at q_) | (refine brF (fun q_ => ?_) (fun q_ => ?_) <;> try simp only [Int.toNat_natCast, Nat.mul_one, Nat.add_zero] at q_))
        all_goals try rw [ek] at *
        all_goals first
          | exact ⟨(i + 1, out), ⟨by omega, by rw [hnx, addC, if_pos (show ptV (partOf a k) (cs.getD i default) = ptV (partOf b k) (cs.getD i default) from q_)]⟩, (by show _ - (i + 1) < _ - i; omega), StLe.ren [0, 1, 2] tmS ⟨⟨rfl, EntL.refl _, rfl⟩, ⟨rfl, EntL.refl _, rfl⟩, own_refl, trivial⟩ (by decide)⟩
          | exact ⟨(i + 1, out.set (out.length - 1) (withHi (lastC out) (cs.getD ((i : Int) + 1).toNat default - 1))), ⟨by omega, by rw [hnx, addC, if_neg (show ¬ ptV (partOf a k) (cs.getD i default) = ptV (partOf b k) (cs.getD i default) by assumption), if_pos ⟨h0, by assumption, by assumption, by assumption⟩]⟩, (by show _ - (i + 1) < _ - i; omega), StLe.ren [0, 1, 2] tmS ⟨⟨rfl, EntL.refl _, rfl⟩, ⟨rfl, EntL.refl _, rfl⟩, own_set (lt5 (Ent.refl _) (Ent.refl _) (Ent.refl _) (Ent.refl _) (Ent.refl _)) (by omega), trivial⟩ (by decide)⟩
          | exact ⟨(i + 1, out ++ [⟨nmK k, cs.getD i default, cs.getD ((i : Int) + 1).toNat default - 1, ptV (partOf a k) (cs.getD i default), ptV (partOf b k) (cs.getD i default)⟩]), ⟨by omega, by rw [hnx, addC, if_neg (show ¬ ptV (partOf a k) (cs.getD i default) = ptV (partOf b k) (cs.getD i default) by assumption), if_neg (fun h => by first | exact q_ h.2.1 | exact q_ h.2.2.1 | exact q_ h.2.2.2)]⟩, (by show _ - (i + 1) < _ - i; omega), StLe.ren [0, 1, 4] tmS ⟨⟨rfl, EntL.refl _, rfl⟩, ⟨rfl, EntL.refl _, rfl⟩, own_app (lt5 (Ent.refl _) (Ent.refl _) (Ent.refl _) (Ent.refl _) (Ent.refl _)), trivial⟩ (by decide)⟩
    · have hsg : segHi cs i = 1114111 := by rw [segHi, if_neg hl1]
      rw [hsg] at hnx
      rcases Nat.eq_zero_or_pos out.length with h0 | h0
      · repeat' (first | refine gl ?_ | (refine br (fun q_ => ?_) (fun q_ => ?_) <;> try simp only [Int.toNat_natCast, Nat.mul_one, Nat.add_zero] at q_) | (refine brF (fun q_ => ?_) (fun q_ => ?_) <;> try simp only [Int.toNat_natCast, Nat.mul_one, Nat.add_zero] at q_))
        refine ⟨(a, k, cs.getD i default), EntL.refl _, fun _ => ⟨ha, hk⟩, ?_⟩
        repeat' (first | refine gl ?_ | (refine br (fun q_ => ?_) (fun q_ => ?_) <;> try simp only [Int.toNat_natCast, Nat.mul_one, Nat.add_zero] at q_) | (refine brF (fun q_ => ?_) (fun q_ => ?_) <;> try simp only [Int.toNat_natCast, Nat.mul_one, Nat.add_zero] at q_))
        all_goals first
          | exact ⟨(i + 1, out), ⟨by omega, by rw [hnx, addC, if_pos (show ptV (partOf a k) (cs.getD i default) = ptV (partOf b k) (cs.getD i default) from q_)]⟩, (by show _ - (i + 1) < _ - i; omega), StLe.ren [0, 1, 2] tmS ⟨⟨rfl, EntL.refl _, rfl⟩, ⟨rfl, EntL.refl _, rfl⟩, own_refl, trivial⟩ (by decide)⟩
          | exact ⟨(i + 1, out ++ [⟨nmK k, cs.getD i default, 1114111, ptV (partOf a k) (cs.getD i default), ptV (partOf b k) (cs.getD i default)⟩]), ⟨by omega, by rw [hnx, addC, if_neg (show ¬ ptV (partOf a k) (cs.getD i default) = ptV (partOf b k) (cs.getD i default) from q_), if_neg (fun h => by have := h.1; omega)]⟩, (by show _ - (i + 1) < _ - i; omega), StLe.ren [0, 1, 4] tmS ⟨⟨rfl, EntL.refl _, rfl⟩, ⟨rfl, EntL.refl _, rfl⟩, own_app (lt5 (Ent.refl _) (Ent.refl _) (Ent.refl _) (Ent.refl _) (Ent.refl _)), trivial⟩ (by decide)⟩
      · have hhi := hhi h0
        repeat' (first | refine gl ?_ | (refine br (fun q_ => ?_) (fun q_ => ?_) <;> try simp only [Int.toNat_natCast, Nat.mul_one, Nat.add_zero] at q_) | (refine brF (fun q_ => ?_) (fun q_ => ?_) <;> try simp only [Int.toNat_natCast, Nat.mul_one, Nat.add_zero] at q_))
        refine ⟨(a, k, cs.getD i default), EntL.refl _, fun _ => ⟨ha, hk⟩, ?_⟩
        repeat' (first | refine gl ?_ | (refine br (fun q_ => ?_) (fun q_ => ?_) <;> try simp only [Int.toNat_natCast, Nat.mul_one, Nat.add_zero] at q_) | (refine brF (fun q_ => ?_) (fun q_ => ?_) <;> try simp only [Int.toNat_natCast, Nat.mul_one, Nat.add_zero] at q_))
        all_goals try rw [ek] at *
        all_goals first
          | exact ⟨(i + 1, out), ⟨by omega, by rw [hnx, addC, if_pos (show ptV (partOf a k) (cs.getD i default) = ptV (partOf b k) (cs.getD i default) from q_)]⟩, (by show _ - (i + 1) < _ - i; omega), StLe.ren [0, 1, 2] tmS ⟨⟨rfl, EntL.refl _, rfl⟩, ⟨rfl, EntL.refl _, rfl⟩, own_refl, trivial⟩ (by decide)⟩
          | exact ⟨(i + 1, out.set (out.length - 1) (withHi (lastC out) (1114111))), ⟨by omega, by rw [hnx, addC, if_neg (show ¬ ptV (partOf a k) (cs.getD i default) = ptV (partOf b k) (cs.getD i default) by assumption), if_pos ⟨h0, by assumption, by assumption, by assumption⟩]⟩, (by show _ - (i + 1) < _ - i; omega), StLe.ren [0, 1, 2] tmS ⟨⟨rfl, EntL.refl _, rfl⟩, ⟨rfl, EntL.refl _, rfl⟩, own_set (lt5 (Ent.refl _) (Ent.refl _) (Ent.refl _) (Ent.refl _) (Ent.refl _)) (by omega), trivial⟩ (by decide)⟩
          | exact ⟨(i + 1, out ++ [⟨nmK k, cs.getD i default, 1114111, ptV (partOf a k) (cs.getD i default), ptV (partOf b k) (cs.getD i default)⟩]), ⟨by omega, by rw [hnx, addC, if_neg (show ¬ ptV (partOf a k) (cs.getD i default) = ptV (partOf b k) (cs.getD i default) by assumption), if_neg (fun h => by first | exact q_ h.2.1 | exact q_ h.2.2.1 | exact q_ h.2.2.2)]⟩, (by show _ - (i + 1) < _ - i; omega), StLe.ren [0, 1, 4] tmS ⟨⟨rfl, EntL.refl _, rfl⟩, ⟨rfl, EntL.refl _, rfl⟩, own_app (lt5 (Ent.refl _) (Ent.refl _) (Ent.refl _) (Ent.refl _) (Ent.refl _)), trivial⟩ (by decide)⟩
  · repeat' (first | refine gl ?_ | (refine br (fun q_ => ?_) (fun q_ => ?_) <;> try simp only [Int.toNat_natCast, Nat.mul_one, Nat.add_zero] at q_) | (refine brF (fun q_ => ?_) (fun q_ => ?_) <;> try simp only [Int.toNat_natCast, Nat.mul_one, Nat.add_zero] at q_))
    refine EntR.of rfl ?_
    show Ent _ (chsD (chB (nmK k) (ptV (partOf a k)) (ptV (partOf b k)) 1114112))
    have hca : cutAt cs i = 1114112 := by rw [cutAt, if_neg hlt]
    rw [← hca, ← hout]
    exact Ent.refl _
end Go.Proofs
