import Derived.Test.YtnegdnbodccgkaaGreatDoorQ5
import Derived.Test.YtnegdnbodccgkaaGreatDoorUz
import Derived.Test.YtnegdnbodccgkaaGreatDoorP1
set_option linter.unusedVariables false
set_option linter.unusedSimpArgs false
namespace Go.Proofs
open Go Go.Sx
variable {mx : Int} {pb : Bool}

/-! the sets of a property's values: plain -/
theorem asc_mk {l : List Rg} (hb : ∀ r ∈ l, 0 ≤ r.1 ∧ r.2 ≤ 1114111) (hp : l.Pairwise (fun x y => x.1 < y.1)) (hl : l.length < 65536) : mkOk l := by
  refine ⟨hl, .inr ⟨hb, fun p q hpq hq => ?_⟩⟩
  have := List.pairwise_iff_getElem.1 hp p q (by omega) hq hpq
  rw [← Bool.not_eq_true, rgLt_iff]
  rw [List.getD_eq_getElem?_getD, List.getD_eq_getElem?_getD, List.getElem?_eq_getElem (show p < l.length by omega), List.getElem?_eq_getElem hq]
  show ¬ (l[q].1 < l[p].1 ∨ (l[q].1 = l[p].1 ∧ l[q].2 < l[p].2))
  omega
theorem canon_mk {l : List Rg} (hl : l.length < 65536) : mkOk (canon l) := by
  have h := canon_canon l
  have h2 := canon_len l
  refine asc_mk (fun r hr => ⟨(h.ok r hr).1, (h.ok r hr).2.2⟩) ?_ (by omega)
  refine List.Pairwise.imp_of_mem (fun {x y} hx hy hxy => ?_) h.sep
  have := h.ok x hx
  have hxy : x.2 + 1 < y.1 := hxy
  omega
def selB (v : Int) (s : Sp) : Bool := decide (v = 0) || decide (s.val = v)
theorem selB_iff {v : Int} {s : Sp} : selB v s = true ↔ v = 0 ∨ s.val = v := by simp [selB]
def valS (v : Int) (l : List Sp) : List Rg := (l.filter (selB v)).map fun s => (s.lo, s.hi)
theorem valS_take {v : Int} {l : List Sp} {k : Nat} (hk : k < l.length) : valS v (l.take (k + 1)) = if selB v (l.getD k default) = true then valS v (l.take k) ++ [((l.getD k default).lo, (l.getD k default).hi)] else valS v (l.take k) := by
  have e : l.getD k default = l[k] := by simp [List.getD_eq_getElem?_getD, hk]
  rw [List.take_succ_eq_append_getElem hk, e]
  unfold valS
  rw [List.filter_append, List.map_append]
  by_cases h : selB v l[k] = true
  · rw [if_pos h, List.filter_cons_of_pos h]; rfl
  · rw [if_neg h, List.filter_cons_of_neg h]; simp
theorem valS_len (v : Int) (l : List Sp) : (valS v l).length ≤ l.length := by
  unfold valS
  rw [List.length_map]
  exact List.length_filter_le _ _
theorem cnt_asc (p : Pr) : ∀ j, j < (cntP p).spans.length → ∀ i, i < j → ((cntP p).spans.getD i default).hi < ((cntP p).spans.getD j default).lo
  | 0, _, i, hi => by omega
  | j + 1, hj, i, hi => by
    have h1 := (cnt_ok2 p (j + 1) hj).2 (by omega)
    rw [show j + 1 - 1 = j by omega] at h1
    have h1 := h1.1
    by_cases e : i = j
    · subst e; exact h1
    · have h2 := cnt_asc p j (by omega) i (by omega)
      have h3 := (cnt_ok2 p j (by omega)).1.2.1
      omega
theorem cnt_pair (p : Pr) : (cntP p).spans.Pairwise (fun x y => x.hi < y.lo) := by
  rw [List.pairwise_iff_getElem]
  intro i j hi hj hij
  have := cnt_asc p j hj i hij
  rw [List.getD_eq_getElem?_getD, List.getD_eq_getElem?_getD, List.getElem?_eq_getElem hi, List.getElem?_eq_getElem hj] at this
  exact this
theorem cnt_in (p : Pr) : ∀ s ∈ (cntP p).spans, spIn (cntP p).names.length s := fun s hs => by
  obtain ⟨i, hi, rfl⟩ := List.getElem_of_mem hs
  have := (cnt_ok2 p i hi).1
  rw [List.getD_eq_getElem?_getD, List.getElem?_eq_getElem hi] at this
  exact this
theorem valS_mk (p : Pr) (v : Int) (hl : (cntP p).spans.length < 65536) : mkOk (valS v (cntP p).spans) := by
  refine asc_mk (fun r hr => ?_) ?_ (Nat.lt_of_le_of_lt (valS_len _ _) hl)
  · obtain ⟨s, hs, rfl⟩ := List.mem_map.1 hr
    have := cnt_in p s (List.mem_filter.1 hs).1
    exact ⟨this.1, this.2.2.1⟩
  · unfold valS
    rw [List.pairwise_map]
    refine List.Pairwise.imp_of_mem (fun {x y} hx hy hxy => ?_) ((cnt_pair p).filter _)
    have := (cnt_in p x (List.mem_filter.1 hx).1).2.1
    show x.lo < y.lo
    omega
noncomputable def setV (p : Pr) (v : Int) : List Rg := if v = 0 then combL [(0, 1114111)] (canon (valS v (cntP p).spans)) 3 else canon (valS v (cntP p).spans)
theorem inR_valS {v : Int} {l : List Sp} {c : Int} : inR (valS v l) c ↔ ∃ s ∈ l, (v = 0 ∨ s.val = v) ∧ s.lo ≤ c ∧ c ≤ s.hi := by
  constructor
  · rintro ⟨r, hr, h⟩
    obtain ⟨s, hs, rfl⟩ := List.mem_map.1 hr
    obtain ⟨h1, h2⟩ := List.mem_filter.1 hs
    exact ⟨s, h1, selB_iff.1 h2, h⟩
  · rintro ⟨s, h1, h2, h⟩
    exact ⟨(s.lo, s.hi), List.mem_map.2 ⟨s, List.mem_filter.2 ⟨h1, selB_iff.2 h2⟩, rfl⟩, h⟩
theorem getV_spec (p : Pr) (c : Int) : (∃ s ∈ (cntP p).spans, s.lo ≤ c ∧ c ≤ s.hi ∧ getV p c = s.val) ∨ ((∀ s ∈ (cntP p).spans, ¬ (s.lo ≤ c ∧ c ≤ s.hi)) ∧ getV p c = 0) := by
  unfold getV valL
  cases h : (cntP p).spans.find? (fun s => decide (s.lo ≤ c ∧ c ≤ s.hi)) with
  | none =>
    refine .inr ⟨fun s hs hh => ?_, rfl⟩
    have := List.find?_eq_none.1 h s hs
    simp at this
    omega
  | some s =>
    have h1 := List.find?_some h
    simp at h1
    exact .inl ⟨s, List.mem_of_find?_eq_some h, h1.1, h1.2, rfl⟩
theorem span_one (p : Pr) {s t : Sp} {c : Int} (hs : s ∈ (cntP p).spans) (ht : t ∈ (cntP p).spans) (h1 : s.lo ≤ c ∧ c ≤ s.hi) (h2 : t.lo ≤ c ∧ c ≤ t.hi) : s = t := by
  obtain ⟨i, hi, rfl⟩ := List.getElem_of_mem hs
  obtain ⟨j, hj, rfl⟩ := List.getElem_of_mem ht
  have hp := List.pairwise_iff_getElem.1 (cnt_pair p)
  by_cases e : i = j
  · subst e; rfl
  · exfalso
    rcases Nat.lt_or_gt_of_ne e with h | h
    · have := hp i j hi hj h; omega
    · have := hp j i hj hi h; omega
theorem setV_has (p : Pr) (v : Int) {c : Int} (h0 : 0 ≤ c) (h1 : c ≤ 1114111) : hasB (setV p v) c = true ↔ getV p c = v := by
  have hm : hasB (canon (valS v (cntP p).spans)) c = true ↔ ∃ s ∈ (cntP p).spans, (v = 0 ∨ s.val = v) ∧ s.lo ≤ c ∧ c ≤ s.hi := by
    rw [hasB_iff, canon_mem, inR_valS]
    exact ⟨fun h => h.2.2, fun h => ⟨⟨h0, h1⟩, ⟨h0, h1⟩, h⟩⟩
  have hf : hasB [(0, 1114111)] c = true := hasB_iff.2 ⟨⟨h0, h1⟩, inR_cons.2 (.inl ⟨h0, h1⟩)⟩
  unfold setV
  by_cases hv : v = 0
  · rw [if_pos hv, hasB_iff, (comb_spec _ _ _).2, hf]
    have hk : keepsB 3 true (hasB (canon (valS v (cntP p).spans)) c) = true ↔ ¬ hasB (canon (valS v (cntP p).spans)) c = true := by
      cases hasB (canon (valS v (cntP p).spans)) c <;> simp [keepsB]
    rw [hk, hm]
    constructor
    · rintro ⟨_, _, hn⟩
      rcases getV_spec p c with ⟨s, hs, h2, h3, h4⟩ | ⟨_, h4⟩
      · exact absurd ⟨s, hs, .inl hv, h2, h3⟩ hn
      · rw [h4, hv]
    · intro hg
      refine ⟨⟨h0, h1⟩, ⟨h0, h1⟩, ?_⟩
      rintro ⟨s, hs, _, h2, h3⟩
      rcases getV_spec p c with ⟨t, ht, h4, h5, h6⟩ | ⟨hn, _⟩
      · have := (cnt_in p t ht).2.2.2.1
        omega
      · exact hn s hs ⟨h2, h3⟩
  · rw [if_neg hv, hm]
    constructor
    · rintro ⟨s, hs, h2, h3, h4⟩
      rcases getV_spec p c with ⟨t, ht, h5, h6, h7⟩ | ⟨hn, _⟩
      · have := span_one p hs ht ⟨h3, h4⟩ ⟨h5, h6⟩
        subst this
        rw [h7]
        exact h2.resolve_left hv
      · exact absurd ⟨h3, h4⟩ (hn s hs)
    · intro hg
      rcases getV_spec p c with ⟨t, ht, h5, h6, h7⟩ | ⟨_, h7⟩
      · exact ⟨t, ht, .inr (by rw [← h7, hg]), h5, h6⟩
      · exact absurd (by rw [← hg, h7]) hv
theorem setV_canon (p : Pr) (v : Int) : Canon (setV p v) := by
  unfold setV
  split
  · exact (comb_spec _ _ _).1
  · exact canon_canon _
theorem sets_apart (p : Pr) {v w : Int} (h : ¬ v = w) : combL (setV p v) (setV p w) 2 = [] := by
  obtain ⟨h1, h2⟩ := comb_spec (setV p v) (setV p w) 2
  refine canon_unique h1 Canon.nil fun c => ?_
  rw [h2, inR_nil]
  constructor
  · rintro ⟨hb, hk⟩
    have e : ∀ x y, keepsB 2 x y = (x && y) := fun x y => by simp [keepsB]
    rw [e, Bool.and_eq_true] at hk
    have e1 := (setV_has p v hb.1 hb.2).1 hk.1
    have e2 := (setV_has p w hb.1 hb.2).1 hk.2
    exact h (e1.symm.trans e2)
  · exact fun h => h.elim
end Go.Proofs

namespace Go.Proofs
open Go Go.Sx
variable {mx : Int} {pb : Bool}

/-! property.Set of both -/
def ctNotS : Ct := { ι := List Rg, inp := fun a => [setD a], out := fun a => setD (combL [(0, 1114111)] a 3), pre := fun a => mkOk a ∧ a.length ≤ 10000 }
noncomputable def Γno (mx : Int) (pb : Bool) : Ctx := fun f => match f with
  | 146 => some (.pure ctCmbN)
  | _ => none
theorem Γno_ok : CtxOk Tryz.prog (GlT mx pb) (Γno mx pb) := by
  intro f h hh
  simp only [Γno] at hh
  split at hh <;> simp at hh <;> subst hh
  · exact cmbN_ok
set_option maxHeartbeats 1000000 in
theorem pNotS_ok : Sound Tryz.prog (GlT mx pb) 81 ctNotS := by
  refine sound_by (cc := true) Γno_ok Tryz.T_ok Tryz.mixed Tryz.func81 rfl (by kernel_rfl) (fun _ => rfl) (fun _ _ => by show 1 ≤ 6; decide) ?_
  rintro (a : List Rg) ⟨(hm : mkOk a), (hl : a.length ≤ 10000)⟩
  have p1 : ctCmbN.pre a := ⟨hm, by omega⟩
  repeat' (first | refine gl ?_ | (refine br (fun q_ => ?_) (fun q_ => ?_) <;> try simp only [Int.toNat_natCast, Nat.mul_one, Nat.add_zero] at q_) | (refine brF (fun q_ => ?_) (fun q_ => ?_) <;> try simp only [Int.toNat_natCast, Nat.mul_one, Nat.add_zero] at q_))
  exact EntR.of rfl (Ent.refl _)
def ctMns : Ct := { ι := List Rg × List Rg, inp := fun x => [setD x.1, setD x.2], out := fun x => setD (combL x.1 x.2 3), pre := fun x => x.1.length ≤ 10000 ∧ x.2.length ≤ 10000 }
noncomputable def Γmn : Ctx := fun f => match f with
  | 86 => some (.pure ctComb)
  | _ => none
theorem Γmn_ok : CtxOk Tryz.prog (GlT mx pb) Γmn := by
  intro f h hh
  simp only [Γmn] at hh
  split at hh <;> simp at hh <;> subst hh
  · exact comb_ok
theorem rMns_ok : Sound Tryz.prog (GlT mx pb) 150 ctMns := by
  refine sound_by (cc := true) Γmn_ok Tryz.T_ok Tryz.mixed Tryz.func150 rfl (by kernel_rfl) (fun _ => rfl) (fun _ _ => by show 2 ≤ 8; decide) ?_
  rintro ⟨(a : List Rg), (b : List Rg)⟩ ⟨(ha : a.length ≤ 10000), (hb : b.length ≤ 10000)⟩
  refine gA ?_
  refine ⟨(a, b, 3), EntL.refl _, ⟨ha, hb⟩, ?_⟩
  refine gA ?_
  exact EntR.of rfl (Ent.refl _)
def ctAndS : Ct := { ι := List Rg × List Rg, inp := fun x => [setD x.1, setD x.2], out := fun x => setD (combL x.1 x.2 2), pre := fun x => x.1.length ≤ 10000 ∧ x.2.length ≤ 10000 }
theorem rAnd_ok : Sound Tryz.prog (GlT mx pb) 35 ctAndS := by
  refine sound_by (cc := true) Γmn_ok Tryz.T_ok Tryz.mixed Tryz.func35 rfl (by kernel_rfl) (fun _ => rfl) (fun _ _ => by show 2 ≤ 8; decide) ?_
  rintro ⟨(a : List Rg), (b : List Rg)⟩ ⟨(ha : a.length ≤ 10000), (hb : b.length ≤ 10000)⟩
  refine gA ?_
  refine ⟨(a, b, 2), EntL.refl _, ⟨ha, hb⟩, ?_⟩
  refine gA ?_
  exact EntR.of rfl (Ent.refl _)
noncomputable def Γrno : Ctx := fun f => match f with
  | 150 => some (.pure ctMns)
  | _ => none
theorem Γrno_ok : CtxOk Tryz.prog (GlT mx pb) Γrno := by
  intro f h hh
  simp only [Γrno] at hh
  split at hh <;> simp at hh <;> subst hh
  · exact rMns_ok
theorem rNotS_ok : Sound Tryz.prog (GlT mx pb) 84 ctNotS := by
  refine sound_by (cc := true) Γrno_ok Tryz.T_ok Tryz.mixed Tryz.func84 rfl (by kernel_rfl) (fun _ => rfl) (fun _ _ => by show 1 ≤ 8; decide) ?_
  rintro (a : List Rg) ⟨(hm : mkOk a), (hl : a.length ≤ 10000)⟩
  refine gA ?_
  refine ⟨([(0, 1114111)], a), EntL.cons (Ent.ag (EntL.cons (ent_sl1 fun j hj => ?_) (EntL.refl _))) (EntL.refl _), ⟨(by show 1 ≤ 10000; decide), hl⟩, ?_⟩
  · match j, hj with
    | 0, _ => exact Ent.refl _
    | 1, _ => exact Ent.refl _
  refine gA ?_
  exact EntR.of rfl (Ent.refl _)
noncomputable def ctSetV : Ct := { ι := Pr × Int, inp := fun x => [prA x.1, .v (.int .i64 x.2)], out := fun x => setD (setV x.1 x.2), pre := fun x => x.1.spans.length ≤ 1000 }
theorem cnt_spl (p : Pr) : (cntP p).spans.length ≤ p.spans.length := by
  rcases Bool.eq_false_or_eq_true (validP p) with h | h
  · rw [cntP_t h]; exact Nat.le_refl _
  · rw [cntP_f h]; exact Nat.zero_le _
noncomputable def Γst (mx : Int) (pb : Bool) : Ctx := fun f => match f with
  | 80 => some (.pure ctCnt)
  | 82 => some (.pure ctMake)
  | 81 => some (.pure ctNotS)
  | _ => none
theorem Γst_ok : CtxOk Tryz.prog (GlT mx pb) (Γst mx pb) := by
  intro f h hh
  simp only [Γst] at hh
  split at hh <;> simp at hh <;> subst hh
  · exact pCnt_ok
  · exact cpMake_ok
  · exact pNotS_ok
set_option maxHeartbeats 4000000 in
theorem pSetV_ok : Sound Tryz.prog (GlT mx pb) 32 ctSetV := by
  refine sound_by (cc := true) Γst_ok Tryz.T_ok Tryz.mixed Tryz.func32 rfl (by kernel_rfl) (fun _ => rfl) (fun _ _ => by show 2 ≤ 40; decide) ?_
  rintro ⟨(p : Pr), (v : Int)⟩ (hp : p.spans.length ≤ 1000)
  have p1 : ctCnt.pre p := Nat.le_trans hp (by decide)
  have hl := cnt_spl p
  repeat' (first | refine gl ?_ | (refine br (fun q_ => ?_) (fun q_ => ?_) <;> try simp only [Int.toNat_natCast, Nat.mul_one, Nat.add_zero] at q_) | (refine brF (fun q_ => ?_) (fun q_ => ?_) <;> try simp only [Int.toNat_natCast, Nat.mul_one, Nat.add_zero] at q_))
  refine ⟨0, Nat × List Rg, fun | (k, out) => ⟨[(1, .v (.int .i64 v)), (4, .own 0 0), (5, .row 1), (10, spsD (cntP p).spans), (11, .v (.int .i64 (cntP p).spans.length)), (12, .v (.int .i64 k))], [.cells 31 [nilV], rowL 47 2 rgD out], []⟩, fun | (k, out) => k ≤ (cntP p).spans.length ∧ out = valS v ((cntP p).spans.take k), fun x => (cntP p).spans.length - x.1, fun _ => Nat.zero_le _, ⟨(0, []), ⟨Nat.zero_le _, rfl⟩, StLe.trans (StLe.nilRow (t := 5) 47 2 (fun _ _ => .junk) rfl) (StLe.ren [1, 2] tmS ⟨⟨rfl, EntL.refl _, rfl⟩, own_nil, trivial⟩ (by decide))⟩, ?_⟩
  rintro ⟨k, out⟩ ⟨hk, ho⟩
  have hk : k ≤ (cntP p).spans.length := hk
  have hmk := valS_mk p v (by omega)
  have hset : setV p v = if v = 0 then combL [(0, 1114111)] (canon (valS v (cntP p).spans)) 3 else canon (valS v (cntP p).spans) := rfl
  generalize (cntP p).spans = S at hl hk ho hmk hset ⊢
  have hol : out.length ≤ k := by
    rw [ho]
    have := valS_len v (S.take k)
    simp at this; omega
  by_cases hlt : k < S.length
  · have ht := valS_take (v := v) hlt
    rw [← ho] at ht
    by_cases hv : v = 0
    · have hs : selB v (S.getD k default) = true := selB_iff.2 (.inl hv)
      rw [if_pos hs] at ht
      repeat' (first | refine gl ?_ | (refine br (fun q_ => ?_) (fun q_ => ?_) <;> try simp only [Int.toNat_natCast, Nat.mul_one, Nat.add_zero] at q_) | (refine brF (fun q_ => ?_) (fun q_ => ?_) <;> try simp only [Int.toNat_natCast, Nat.mul_one, Nat.add_zero] at q_))
      exact ⟨(k + 1, out ++ [((S.getD k default).lo, (S.getD k default).hi)]), ⟨hlt, ht.symm⟩, (by show S.length - (k + 1) < S.length - k; omega), StLe.ren [0, 3] tmS ⟨⟨rfl, EntL.refl _, rfl⟩, own_app (x := ((S.getD k default).lo, (S.getD k default).hi)) (fun j hj => match j, hj with | 0, _ => Ent.refl _ | 1, _ => Ent.refl _), trivial⟩ (by decide)⟩
    · by_cases hw : (S.getD ((k : Int)).toNat default).val = v
      · have hs : selB v (S.getD k default) = true := selB_iff.2 (.inr hw)
        rw [if_pos hs] at ht
        repeat' (first | refine gl ?_ | (refine br (fun q_ => ?_) (fun q_ => ?_) <;> try simp only [Int.toNat_natCast, Nat.mul_one, Nat.add_zero] at q_) | (refine brF (fun q_ => ?_) (fun q_ => ?_) <;> try simp only [Int.toNat_natCast, Nat.mul_one, Nat.add_zero] at q_))
        exact ⟨(k + 1, out ++ [((S.getD k default).lo, (S.getD k default).hi)]), ⟨hlt, ht.symm⟩, (by show S.length - (k + 1) < S.length - k; omega), StLe.ren [0, 3] tmS ⟨⟨rfl, EntL.refl _, rfl⟩, own_app (x := ((S.getD k default).lo, (S.getD k default).hi)) (fun j hj => match j, hj with | 0, _ => Ent.refl _ | 1, _ => Ent.refl _), trivial⟩ (by decide)⟩
      · have hs : ¬ selB v (S.getD k default) = true := fun h => (selB_iff.1 h).elim hv hw
        rw [if_neg hs] at ht
        repeat' (first | refine gl ?_ | (refine br (fun q_ => ?_) (fun q_ => ?_) <;> try simp only [Int.toNat_natCast, Nat.mul_one, Nat.add_zero] at q_) | (refine brF (fun q_ => ?_) (fun q_ => ?_) <;> try simp only [Int.toNat_natCast, Nat.mul_one, Nat.add_zero] at q_))
        exact ⟨(k + 1, out), ⟨hlt, ht.symm⟩, (by show S.length - (k + 1) < S.length - k; omega), StLe.ren [0, 1] tmS ⟨⟨rfl, EntL.refl _, rfl⟩, own_refl, trivial⟩ (by decide)⟩
  · have e : out = valS v S := by rw [ho, List.take_of_length_le (by omega)]
    have p2 : ctMake.pre out := by rw [e]; exact hmk
    have p3 : ctNotS.pre (canon out) := ⟨canon_mk (by omega), (by have := canon_len out; omega)⟩
    by_cases hv : v = 0
    · repeat' (first | refine gl ?_ | (refine br (fun q_ => ?_) (fun q_ => ?_) <;> try simp only [Int.toNat_natCast, Nat.mul_one, Nat.add_zero] at q_) | (refine brF (fun q_ => ?_) (fun q_ => ?_) <;> try simp only [Int.toNat_natCast, Nat.mul_one, Nat.add_zero] at q_))
      refine EntR.of rfl ?_
      show Ent (setD (combL [(0, 1114111)] (canon out) 3)) (setD (setV p v))
      rw [hset, if_pos hv, e]
      exact Ent.refl _
    · repeat' (first | refine gl ?_ | (refine br (fun q_ => ?_) (fun q_ => ?_) <;> try simp only [Int.toNat_natCast, Nat.mul_one, Nat.add_zero] at q_) | (refine brF (fun q_ => ?_) (fun q_ => ?_) <;> try simp only [Int.toNat_natCast, Nat.mul_one, Nat.add_zero] at q_))
      refine EntR.of rfl ?_
      show Ent (setD (canon out)) (setD (setV p v))
      rw [hset, if_neg hv, e]
      exact Ent.refl _
noncomputable def Γrst : Ctx := fun f => match f with
  | 83 => some (.pure ctCnt)
  | 85 => some (.pure ctMakeR)
  | 84 => some (.pure ctNotS)
  | _ => none
theorem Γrst_ok : CtxOk Tryz.prog (GlT mx pb) Γrst := by
  intro f h hh
  simp only [Γrst] at hh
  split at hh <;> simp at hh <;> subst hh
  · exact rCnt_ok
  · exact r2Make_ok
  · exact rNotS_ok
set_option maxHeartbeats 4000000 in
theorem rSetV_ok : Sound Tryz.prog (GlT mx pb) 34 ctSetV := by
  refine sound_by (cc := true) Γrst_ok Tryz.T_ok Tryz.mixed Tryz.func34 rfl (by kernel_rfl) (fun _ => rfl) (fun _ _ => by show 2 ≤ 52; decide) ?_
  rintro ⟨(p : Pr), (v : Int)⟩ (hp : p.spans.length ≤ 1000)
  have p1 : ctCnt.pre p := Nat.le_trans hp (by decide)
  have hl := cnt_spl p
  repeat' (first | refine gl ?_ | (refine br (fun q_ => ?_) (fun q_ => ?_) <;> try simp only [Int.toNat_natCast, Nat.mul_one, Nat.add_zero] at q_) | (refine brF (fun q_ => ?_) (fun q_ => ?_) <;> try simp only [Int.toNat_natCast, Nat.mul_one, Nat.add_zero] at q_))
  refine ⟨0, Nat × List Rg, fun | (k, out) => ⟨[(1, .v (.int .i64 v)), (4, .own 0 0), (5, .own 1 0), (6, .row 2), (7, .v (.int .i64 k))], [.cells 31 [nilV], .cells 27 [slD 1 strD (cntP p).names, spsD (cntP p).spans], rowL 47 2 rgD out], []⟩, fun | (k, out) => k ≤ (cntP p).spans.length ∧ out = valS v ((cntP p).spans.take k), fun x => (cntP p).spans.length - x.1, fun _ => Nat.zero_le _, ⟨(0, []), ⟨Nat.zero_le _, rfl⟩, StLe.trans (StLe.nilRow (t := 6) 47 2 (fun _ _ => .junk) rfl) (StLe.ren [1, 2, 3] tmS ⟨⟨rfl, EntL.refl _, rfl⟩, ⟨rfl, EntL.refl _, rfl⟩, own_nil, trivial⟩ (by decide))⟩, ?_⟩
  rintro ⟨k, out⟩ ⟨hk, ho⟩
  have hk : k ≤ (cntP p).spans.length := hk
  have hmk := valS_mk p v (by omega)
  have hset : setV p v = if v = 0 then combL [(0, 1114111)] (canon (valS v (cntP p).spans)) 3 else canon (valS v (cntP p).spans) := rfl
  generalize (cntP p).spans = S at hl hk ho hmk hset ⊢
  generalize (cntP p).names = Nm
  have hol : out.length ≤ k := by
    rw [ho]
    have := valS_len v (S.take k)
    simp at this; omega
  by_cases hlt : k < S.length
  · have ht := valS_take (v := v) hlt
    rw [← ho] at ht
    by_cases hv : v = 0
    · have hs : selB v (S.getD k default) = true := selB_iff.2 (.inl hv)
      rw [if_pos hs] at ht
      repeat' (first | refine gl ?_ | (refine br (fun q_ => ?_) (fun q_ => ?_) <;> try simp only [Int.toNat_natCast, Nat.mul_one, Nat.add_zero] at q_) | (refine brF (fun q_ => ?_) (fun q_ => ?_) <;> try simp only [Int.toNat_natCast, Nat.mul_one, Nat.add_zero] at q_))
      exact ⟨(k + 1, out ++ [((S.getD k default).lo, (S.getD k default).hi)]), ⟨hlt, ht.symm⟩, (by show S.length - (k + 1) < S.length - k; omega), StLe.ren [0, 1, 3] tmS ⟨⟨rfl, EntL.refl _, rfl⟩, ⟨rfl, EntL.refl _, rfl⟩, own_app (x := ((S.getD k default).lo, (S.getD k default).hi)) (fun j hj => match j, hj with | 0, _ => Ent.refl _ | 1, _ => Ent.refl _), trivial⟩ (by decide)⟩
    · by_cases hw : (S.getD ((k : Int)).toNat default).val = v
      · have hs : selB v (S.getD k default) = true := selB_iff.2 (.inr hw)
        rw [if_pos hs] at ht
        repeat' (first | refine gl ?_ | (refine br (fun q_ => ?_) (fun q_ => ?_) <;> try simp only [Int.toNat_natCast, Nat.mul_one, Nat.add_zero] at q_) | (refine brF (fun q_ => ?_) (fun q_ => ?_) <;> try simp only [Int.toNat_natCast, Nat.mul_one, Nat.add_zero] at q_))
        exact ⟨(k + 1, out ++ [((S.getD k default).lo, (S.getD k default).hi)]), ⟨hlt, ht.symm⟩, (by show S.length - (k + 1) < S.length - k; omega), StLe.ren [0, 1, 3] tmS ⟨⟨rfl, EntL.refl _, rfl⟩, ⟨rfl, EntL.refl _, rfl⟩, own_app (x := ((S.getD k default).lo, (S.getD k default).hi)) (fun j hj => match j, hj with | 0, _ => Ent.refl _ | 1, _ => Ent.refl _), trivial⟩ (by decide)⟩
      · have hs : ¬ selB v (S.getD k default) = true := fun h => (selB_iff.1 h).elim hv hw
        rw [if_neg hs] at ht
        repeat' (first | refine gl ?_ | (refine br (fun q_ => ?_) (fun q_ => ?_) <;> try simp only [Int.toNat_natCast, Nat.mul_one, Nat.add_zero] at q_) | (refine brF (fun q_ => ?_) (fun q_ => ?_) <;> try simp only [Int.toNat_natCast, Nat.mul_one, Nat.add_zero] at q_))
        exact ⟨(k + 1, out), ⟨hlt, ht.symm⟩, (by show S.length - (k + 1) < S.length - k; omega), StLe.ren [0, 1, 2] tmS ⟨⟨rfl, EntL.refl _, rfl⟩, ⟨rfl, EntL.refl _, rfl⟩, own_refl, trivial⟩ (by decide)⟩
  · have e : out = valS v S := by rw [ho, List.take_of_length_le (by omega)]
    have p2 : ctMakeR.pre out := (by show out.length ≤ 10000; omega)
    have p3 : ctNotS.pre (canon out) := ⟨canon_mk (by omega), (by have := canon_len out; omega)⟩
    by_cases hv : v = 0
    · repeat' (first | refine gl ?_ | (refine br (fun q_ => ?_) (fun q_ => ?_) <;> try simp only [Int.toNat_natCast, Nat.mul_one, Nat.add_zero] at q_) | (refine brF (fun q_ => ?_) (fun q_ => ?_) <;> try simp only [Int.toNat_natCast, Nat.mul_one, Nat.add_zero] at q_))
      refine EntR.of rfl ?_
      show Ent (setD (combL [(0, 1114111)] (canon out) 3)) (setD (setV p v))
      rw [hset, if_pos hv, e]
      exact Ent.refl _
    · repeat' (first | refine gl ?_ | (refine br (fun q_ => ?_) (fun q_ => ?_) <;> try simp only [Int.toNat_natCast, Nat.mul_one, Nat.add_zero] at q_) | (refine brF (fun q_ => ?_) (fun q_ => ?_) <;> try simp only [Int.toNat_natCast, Nat.mul_one, Nat.add_zero] at q_))
      refine EntR.of rfl ?_
      show Ent (setD (canon out)) (setD (setV p v))
      rw [hset, if_neg hv, e]
      exact Ent.refl _
end Go.Proofs
