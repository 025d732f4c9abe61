import Derived.Test.YtjfcfaiodbmodaaGreatDoorC2
import Derived.Test.YtjfcfaiodbmodaaGreatDoorLVz
set_option linter.unusedVariables false
set_option linter.unusedSimpArgs false
namespace Go.Proofs
open Go Go.Sx
variable {mx : Int} {pb : Bool}

/-! cpset.Has -/
set_option maxHeartbeats 1000000 in
theorem cpHas_ok : Sound Tryz.prog (GlT mx pb) 23 ctHas := by
  refine sound_by (cc := false) Γrv_ok Tryz.T_ok Tryz.mixed Tryz.func23 rfl (by kernel_rfl) (fun _ => rfl) (fun _ _ => by show 2 ≤ 28; decide) ?_
  intro ((l : List Rg), (c : Int)) (hl : l.length ≤ 1000000)
  refine gA ?_
  refine ⟨c, EntL.refl _, trivial, ?_⟩
  refine gA ?_
  refine And.intro (fun h => ?_) (fun h => ?_)
  · have h : ¬ (0 ≤ c ∧ c ≤ 1114111) := fun hh => by
      have h : (!validB c) = true := h
      rw [validB_iff.2 hh] at h; cases h
    refine gA ?_
    refine EntR.bool ?_
    show false = hasB l c
    rw [eq_comm, ← Bool.not_eq_true, hasB_iff]
    exact fun hh => h hh.1
  · have hc : 0 ≤ c ∧ c ≤ 1114111 := validB_iff.1 (by
      have h : (!validB c) = false := h
      simpa using h)
    refine gA ?_
    refine ⟨0, Nat, fun k => ⟨[(1, .v (.int .i64 c)), (11, rgsD l), (12, .v (.int .i64 l.length)), (13, .v (.int .i64 k))], [], []⟩, fun k => k ≤ l.length ∧ ∀ j, j < k → ¬ ((l.getD j default).1 ≤ c ∧ c ≤ (l.getD j default).2), fun k => l.length - k, fun _ => Nat.zero_le _, ⟨0, ⟨Nat.zero_le _, fun j hj => by omega⟩, StLe.ren [] tmS trivial (by decide)⟩, ?_⟩
    rintro k ⟨hk, hd⟩
    refine gA ?_
    refine And.intro (fun h => ?_) (fun h => ?_)
    · have h : k < l.length := by have := of_decide_eq_true h; omega
      refine gA ?_
      refine And.intro (fun h1 => ?_) (fun h1 => ?_)
      · have h1 : (l.getD k default).1 ≤ c ∧ c ≤ (l.getD k default).2 := bif_dec.1 h1
        refine gA ?_
        exact EntR.bool (has_at h hc h1).symm
      · have h1 : ¬ ((l.getD k default).1 ≤ c ∧ c ≤ (l.getD k default).2) := bif_no.1 h1
        refine gA ?_
        exact ⟨k + 1, ⟨by omega, next_at hd h1⟩, (show l.length - (k + 1) < l.length - k by omega), StLe.ren [] tmS trivial (by decide)⟩
    · have h : k = l.length := by have := of_decide_eq_false h; omega
      subst h
      refine gA ?_
      exact EntR.bool (has_no hd).symm
end Go.Proofs

namespace Go.Proofs
open Go Go.Sx
variable {mx : Int} {pb : Bool}

/-! the changes that hold a code point: plain -/
def hitB (w : ByteArray) (c : Int) (x : Ch) : Bool := eqB x.what w && (decide (x.lo ≤ c) && decide (c ≤ x.hi))
def fndC (w : ByteArray) (c : Int) (l : List Ch) : List Ch := l.filter (hitB w c)
theorem hitB_iff {w : ByteArray} {c : Int} {x : Ch} : hitB w c x = true ↔ x.what = w ∧ x.lo ≤ c ∧ c ≤ x.hi := by
  simp only [hitB, Bool.and_eq_true, eqB_iff, decide_eq_true_eq]
theorem hits_inv {w : ByteArray} {va vb : Int → ByteArray} {k : Nat} {out : List Ch} (h : ChInv w va vb k out) {c : Int} (h0 : 0 ≤ c) (h1 : c < k) :
    (va c = vb c ∧ fndC w c out = []) ∨ (¬ va c = vb c ∧ ∃ x, fndC w c out = [x] ∧ x.old = va c ∧ x.new = vb c) := by
  have hm : ∀ x ∈ fndC w c out, x ∈ out ∧ x.lo ≤ c ∧ c ≤ x.hi := fun x hx => by
    obtain ⟨h2, h3⟩ := List.mem_filter.1 hx
    exact ⟨h2, (hitB_iff.1 h3).2⟩
  have hp : (fndC w c out).Pairwise (fun x y => x.hi < y.lo) := h.sep.filter _
  have hx : ∀ x ∈ fndC w c out, va c = x.old ∧ vb c = x.new ∧ ¬ x.old = x.new := fun x hx => by
    obtain ⟨h2, h3, h4⟩ := hm x hx
    obtain ⟨_, _, _, _, h5, h6⟩ := h.each x h2
    exact ⟨(h6 c h3 h4).1, (h6 c h3 h4).2, h5⟩
  have ha : ¬ va c = vb c → ∃ x, x ∈ fndC w c out := fun hne => by
    obtain ⟨x, h2, h3⟩ := h.all c h0 h1 hne
    exact ⟨x, List.mem_filter.2 ⟨h2, hitB_iff.2 ⟨(h.each x h2).1, h3⟩⟩⟩
  generalize fndC w c out = l at hm hp hx ha
  cases l with
  | nil =>
    refine .inl ⟨Classical.byContradiction fun hne => ?_, rfl⟩
    obtain ⟨x, hx⟩ := ha hne
    simp at hx
  | cons x l =>
    obtain ⟨e1, e2, e3⟩ := hx x (by simp)
    cases l with
    | nil => exact .inr ⟨by rw [e1, e2]; exact e3, x, rfl, e1.symm, e2.symm⟩
    | cons y l =>
      have h2 := (List.pairwise_cons.1 hp).1 y (by simp)
      have h3 := hm x (by simp)
      have h4 := hm y (by simp)
      omega
theorem chK_each (a b : Db) (j : Nat) : ∀ x ∈ chK a b j, x.what = nmK j := by
  unfold chK chB
  generalize (1114112 : Int).toNat = n
  intro x hx
  exact ((chU_inv _ _ _ n).each x hx).1
theorem chK_hits (a b : Db) (k : Nat) {c : Int} (h0 : 0 ≤ c) (h1 : c < 1114112) :
    (ptV (partOf a k) c = ptV (partOf b k) c ∧ fndC (nmK k) c (chK a b k) = []) ∨ (¬ ptV (partOf a k) c = ptV (partOf b k) c ∧ ∃ x, fndC (nmK k) c (chK a b k) = [x] ∧ x.old = ptV (partOf a k) c ∧ x.new = ptV (partOf b k) c) := by
  have h : c < ((1114112 : Int).toNat : Int) := by rw [Int.toNat_of_nonneg (by decide)]; exact h1
  unfold chK chB
  generalize (1114112 : Int).toNat = n at h
  exact hits_inv (chU_inv _ _ _ n) h0 h
theorem fnd_other (a b : Db) {j k : Nat} (hj : j < 20) (hk : k < 20) (hne : ¬ j = k) (c : Int) : fndC (nmK k) c (chK a b j) = [] := by
  unfold fndC
  rw [List.filter_eq_nil_iff]
  intro x hx h
  have h2 := (hitB_iff.1 h).1
  rw [chK_each a b j x hx] at h2
  exact hne (nm_inj j hj k hk h2)
theorem fnd_app (w : ByteArray) (c : Int) (l m : List Ch) : fndC w c (l ++ m) = fndC w c l ++ fndC w c m := List.filter_append _ _
theorem fnd_to (a b : Db) {k : Nat} (hk : k < 20) (c : Int) : ∀ n, n ≤ 20 → fndC (nmK k) c (chsTo a b n) = if k < n then fndC (nmK k) c (chK a b k) else []
  | 0, _ => rfl
  | n + 1, hn => by
    rw [chsTo, fnd_app, fnd_to a b hk c n (by omega)]
    by_cases h : n = k
    · subst h
      rw [if_neg (by omega), if_pos (by omega), List.nil_append]
    · rw [fnd_other a b (by omega) hk h, List.append_nil]
      by_cases h2 : k < n
      · rw [if_pos h2, if_pos (by omega)]
      · rw [if_neg h2, if_neg (by omega)]
theorem fnd_cmp {a b : Db} (he : cmpE a b = 0) {k : Nat} (hk : k < 20) {c : Int} (h0 : 0 ≤ c) (h1 : c < 1114112) :
    (ptV (partOf a k) c = ptV (partOf b k) c ∧ fndC (nmK k) c (cmpL a b) = []) ∨ (¬ ptV (partOf a k) c = ptV (partOf b k) c ∧ ∃ x, fndC (nmK k) c (cmpL a b) = [x] ∧ x.old = ptV (partOf a k) c ∧ x.new = ptV (partOf b k) c) := by
  rw [cmpL_ok he, fnd_to a b hk c 20 (Nat.le_refl _), if_pos hk]
  exact chK_hits a b k h0 h1
theorem fnd_take {w : ByteArray} {c : Int} {l : List Ch} {i : Nat} (hi : i < l.length) : fndC w c (l.take (i + 1)) = if hitB w c (l.getD i default) = true then fndC w c (l.take i) ++ [l.getD i default] else fndC w c (l.take i) := by
  have e : l.getD i default = l[i] := by simp [List.getD_eq_getElem?_getD, hi]
  rw [List.take_succ_eq_append_getElem hi, fnd_app, e]
  unfold fndC
  by_cases h : hitB w c l[i] = true
  · rw [if_pos h, List.filter_cons_of_pos h, List.filter_nil]
  · rw [if_neg h, List.filter_cons_of_neg h, List.filter_nil, List.append_nil]
theorem fnd_len (w : ByteArray) (c : Int) (l : List Ch) : (fndC w c l).length ≤ l.length := List.length_filter_le _ _
theorem part_pr {d : Db} {i : Nat} (h : i < 7) : partOf d i = .pr (d.prs i) := by
  match i, h with
  | 0, _ => rfl
  | 1, _ => rfl
  | 2, _ => rfl
  | 3, _ => rfl
  | 4, _ => rfl
  | 5, _ => rfl
  | 6, _ => rfl
  | i0 + 7, h => exact absurd (show i0 + 7 < 7 from h) (by omega)
def setK : Nat → Nat
  | 0 => 9
  | 1 => 14
  | 2 => 15
  | 3 => 16
  | 4 => 17
  | _ => 18
theorem part_st {d : Db} {i : Nat} (h : i < 6) : partOf d (setK i) = .st (d.sts i) := by
  match i, h with
  | 0, _ => rfl
  | 1, _ => rfl
  | 2, _ => rfl
  | 3, _ => rfl
  | 4, _ => rfl
  | 5, _ => rfl
  | i0 + 6, h => exact absurd (show i0 + 6 < 6 from h) (by omega)
theorem setK_lt (i : Nat) : setK i < 20 := by unfold setK; split <;> decide
def setsL : List ByteArray := [
  ⟨#[101, 120, 99, 108, 117, 115, 105, 111, 110, 115]⟩,
  ⟨#[99, 97, 115, 101, 100]⟩,
  ⟨#[105, 103, 110, 111, 114, 97, 98, 108, 101]⟩,
  ⟨#[115, 116, 97, 114, 116]⟩,
  ⟨#[99, 111, 110, 116, 105, 110, 117, 101]⟩,
  ⟨#[109, 101, 100, 105, 97, 108]⟩]
theorem sets_nm {i : Nat} (h : i < 6) : setsL.getD i default = nmK (setK i) := by
  match i, h with
  | 0, _ => rfl
  | 1, _ => rfl
  | 2, _ => rfl
  | 3, _ => rfl
  | 4, _ => rfl
  | 5, _ => rfl
  | i0 + 6, h => exact absurd (show i0 + 6 < 6 from h) (by omega)
def chLs (x : Ch) : List D := [.v (.string x.what), .v (.int .i64 x.lo), .v (.int .i64 x.hi), .v (.string x.old), .v (.string x.new)]
def chA (x : Ch) : D := .ag (chLs x)
end Go.Proofs

namespace Go.Proofs
open Go Go.Sx
variable {mx : Int} {pb : Bool}

/-! slices.Clone; a property, a set of a database -/
theorem cat0E {α : Type} [Inhabited α] {enc : α → Nat → D} (l : List α) (f : Nat → Nat → D) (i j : Nat) : catF 0 f (fun i j => enc (l.getD i default) j) i j = enc (l.getD i default) j := by simp [catF]
def ctClone {α : Type} [Inhabited α] (sz : Nat) (enc : α → Nat → D) : Ct := { ι := List α, inp := fun l => [slD sz enc l], out := fun l => slD sz enc l, pre := fun l => l.length ≤ 1000000 }
theorem cloneS_ok : Sound Tryz.prog (GlT mx pb) 58 (ctClone 1 strD) := by
  refine sound_by (cc := true) Γ0_ok Tryz.T_ok Tryz.mixed Tryz.func58 rfl (by kernel_rfl) (fun _ => rfl) (fun _ _ => by show 1 ≤ 8; decide) ?_
  intro (l : List ByteArray) (hl : l.length ≤ 1000000)
  refine gA ?_
  intro q hq
  refine gA ?_
  refine And.intro (fun h => ?_) (fun h => ?_)
  · have hq : l.length = 0 := hq (by simpa using h)
    have e : l = [] := List.length_eq_zero_iff.1 hq
    subst e
    refine gA ?_
    exact EntR.of rfl Ent.nil
  · refine gA ?_
    refine And.intro (show 0 + l.length ≤ _ by omega) (And.intro (show (0 + l.length) * 16 ≤ _ by omega) ?_)
    refine gA ?_
    refine EntR.of rfl (Ent.sl (show 0 + l.length = l.length by omega) fun i hi j hj => Ent.of_eq ?_)
    show catF 0 _ (fun i j => strD (l.getD i default) j) i j = _
    exact cat0E (enc := strD) l _ i j
theorem clonePs_ok : Sound Tryz.prog (GlT mx pb) 59 (ctClone 3 spD) := by
  refine sound_by (cc := true) Γ0_ok Tryz.T_ok Tryz.mixed Tryz.func59 rfl (by kernel_rfl) (fun _ => rfl) (fun _ _ => by show 1 ≤ 8; decide) ?_
  intro (l : List Sp) (hl : l.length ≤ 1000000)
  refine gA ?_
  intro q hq
  refine gA ?_
  refine And.intro (fun h => ?_) (fun h => ?_)
  · have hq : l.length = 0 := hq (by simpa using h)
    have e : l = [] := List.length_eq_zero_iff.1 hq
    subst e
    refine gA ?_
    exact EntR.of rfl Ent.nil
  · refine gA ?_
    refine And.intro (show 0 + l.length ≤ _ by omega) (And.intro (show (0 + l.length) * 24 ≤ _ by omega) ?_)
    refine gA ?_
    refine EntR.of rfl (Ent.sl (show 0 + l.length = l.length by omega) fun i hi j hj => Ent.of_eq ?_)
    show catF 0 _ (fun i j => spD (l.getD i default) j) i j = _
    exact cat0E (enc := spD) l _ i j
theorem cloneR_ok : Sound Tryz.prog (GlT mx pb) 62 (ctClone 2 rgD) := by
  refine sound_by (cc := true) Γ0_ok Tryz.T_ok Tryz.mixed Tryz.func62 rfl (by kernel_rfl) (fun _ => rfl) (fun _ _ => by show 1 ≤ 8; decide) ?_
  intro (l : List Rg) (hl : l.length ≤ 1000000)
  refine gA ?_
  intro q hq
  refine gA ?_
  refine And.intro (fun h => ?_) (fun h => ?_)
  · have hq : l.length = 0 := hq (by simpa using h)
    have e : l = [] := List.length_eq_zero_iff.1 hq
    subst e
    refine gA ?_
    exact EntR.of rfl Ent.nil
  · refine gA ?_
    refine And.intro (show 0 + l.length ≤ _ by omega) (And.intro (show (0 + l.length) * 16 ≤ _ by omega) ?_)
    refine gA ?_
    refine EntR.of rfl (Ent.sl (show 0 + l.length = l.length by omega) fun i hi j hj => Ent.of_eq ?_)
    show catF 0 _ (fun i j => rgD (l.getD i default) j) i j = _
    exact cat0E (enc := rgD) l _ i j
noncomputable def cPAt : Code := (Tryz.f57.body).getD .skip
noncomputable def cSAt : Code := (Tryz.f61.body).getD .skip
noncomputable def Γdp (mx : Int) (pb : Bool) : Ctx := fun f => match f with
  | 58 => some (.pure (ctClone 1 strD))
  | 59 => some (.pure (ctClone 3 spD))
  | 62 => some (.pure (ctClone 2 rgD))
  | 57 => some (.gen (inlW true Γ0 Tryz.T (GlT mx pb) Tryz.f57 cPAt))
  | 61 => some (.gen (inlW true Γ0 Tryz.T (GlT mx pb) Tryz.f61 cSAt))
  | _ => none
theorem Γdp_ok : CtxOk Tryz.prog (GlT mx pb) (Γdp mx pb) := by
  intro f h hh
  simp only [Γdp] at hh
  split at hh <;> simp at hh <;> subst hh
  · exact cloneS_ok
  · exact clonePs_ok
  · exact cloneR_ok
  · exact soundT_inlW Γ0_ok Tryz.T_ok Tryz.mixed Tryz.func57 rfl (by kernel_rfl)
  · exact soundT_inlW Γ0_ok Tryz.T_ok Tryz.mixed Tryz.func61 rfl (by kernel_rfl)
def ctDbPr : Ct := { ι := Db × Nat, inp := fun x => [dbA x.1, .v (.int .i64 x.2)], out := fun x => prA (x.1.prs x.2), pre := fun x => x.2 < 7 ∧ (x.1.prs x.2).names.length ≤ 1000000 ∧ (x.1.prs x.2).spans.length ≤ 1000000 }
set_option maxHeartbeats 4000000 in
theorem pDbPr_ok : Sound Tryz.prog (GlT mx pb) 22 ctDbPr := by
  refine sound_by (cc := true) Γdp_ok Tryz.T_ok Tryz.mixed Tryz.func22 rfl (by kernel_rfl) (fun _ => rfl) (fun _ _ => by show 2 ≤ 22; decide) ?_
  rintro ⟨(d : Db), (k : Nat)⟩ ⟨hk, hn, hs⟩
  have p1 : (ctClone 1 strD).pre (d.prs k).names := hn
  have p2 : (ctClone 3 spD).pre (d.prs k).spans := hs
  match k, hk with
  | 0, _ =>
    repeat' (first | refine gl ?_ | (refine br (fun q_ => ?_) (fun q_ => ?_) <;> try simp only [Int.toNat_natCast, Nat.mul_one, Nat.add_zero] at q_) | (refine brF (fun q_ => ?_) (fun q_ => ?_) <;> try simp only [Int.toNat_natCast, Nat.mul_one, Nat.add_zero] at q_))
    exact EntR.of rfl (Ent.refl _)
  | 1, _ =>
    repeat' (first | refine gl ?_ | (refine br (fun q_ => ?_) (fun q_ => ?_) <;> try simp only [Int.toNat_natCast, Nat.mul_one, Nat.add_zero] at q_) | (refine brF (fun q_ => ?_) (fun q_ => ?_) <;> try simp only [Int.toNat_natCast, Nat.mul_one, Nat.add_zero] at q_))
    exact EntR.of rfl (Ent.refl _)
  | 2, _ =>
    repeat' (first | refine gl ?_ | (refine br (fun q_ => ?_) (fun q_ => ?_) <;> try simp only [Int.toNat_natCast, Nat.mul_one, Nat.add_zero] at q_) | (refine brF (fun q_ => ?_) (fun q_ => ?_) <;> try simp only [Int.toNat_natCast, Nat.mul_one, Nat.add_zero] at q_))
    exact EntR.of rfl (Ent.refl _)
  | 3, _ =>
    repeat' (first | refine gl ?_ | (refine br (fun q_ => ?_) (fun q_ => ?_) <;> try simp only [Int.toNat_natCast, Nat.mul_one, Nat.add_zero] at q_) | (refine brF (fun q_ => ?_) (fun q_ => ?_) <;> try simp only [Int.toNat_natCast, Nat.mul_one, Nat.add_zero] at q_))
    exact EntR.of rfl (Ent.refl _)
  | 4, _ =>
    repeat' (first | refine gl ?_ | (refine br (fun q_ => ?_) (fun q_ => ?_) <;> try simp only [Int.toNat_natCast, Nat.mul_one, Nat.add_zero] at q_) | (refine brF (fun q_ => ?_) (fun q_ => ?_) <;> try simp only [Int.toNat_natCast, Nat.mul_one, Nat.add_zero] at q_))
    exact EntR.of rfl (Ent.refl _)
  | 5, _ =>
    repeat' (first | refine gl ?_ | (refine br (fun q_ => ?_) (fun q_ => ?_) <;> try simp only [Int.toNat_natCast, Nat.mul_one, Nat.add_zero] at q_) | (refine brF (fun q_ => ?_) (fun q_ => ?_) <;> try simp only [Int.toNat_natCast, Nat.mul_one, Nat.add_zero] at q_))
    exact EntR.of rfl (Ent.refl _)
  | 6, _ =>
    repeat' (first | refine gl ?_ | (refine br (fun q_ => ?_) (fun q_ => ?_) <;> try simp only [Int.toNat_natCast, Nat.mul_one, Nat.add_zero] at q_) | (refine brF (fun q_ => ?_) (fun q_ => ?_) <;> try simp only [Int.toNat_natCast, Nat.mul_one, Nat.add_zero] at q_))
    exact EntR.of rfl (Ent.refl _)
  | k0 + 7, h => exact absurd (show k0 + 7 < 7 from h) (by omega)
def ctDbSt : Ct := { ι := Db × Nat, inp := fun x => [dbA x.1, .v (.int .i64 x.2)], out := fun x => setD (x.1.sts x.2), pre := fun x => x.2 < 6 ∧ (x.1.sts x.2).length ≤ 1000000 }
set_option maxHeartbeats 4000000 in
theorem pDbSt_ok : Sound Tryz.prog (GlT mx pb) 24 ctDbSt := by
  refine sound_by (cc := true) Γdp_ok Tryz.T_ok Tryz.mixed Tryz.func24 rfl (by kernel_rfl) (fun _ => rfl) (fun _ _ => by show 2 ≤ 17; decide) ?_
  rintro ⟨(d : Db), (k : Nat)⟩ ⟨hk, hs⟩
  have p1 : (ctClone 2 rgD).pre (d.sts k) := hs
  match k, hk with
  | 0, _ =>
    repeat' (first | refine gl ?_ | (refine br (fun q_ => ?_) (fun q_ => ?_) <;> try simp only [Int.toNat_natCast, Nat.mul_one, Nat.add_zero] at q_) | (refine brF (fun q_ => ?_) (fun q_ => ?_) <;> try simp only [Int.toNat_natCast, Nat.mul_one, Nat.add_zero] at q_))
    exact EntR.of rfl (Ent.refl _)
  | 1, _ =>
    repeat' (first | refine gl ?_ | (refine br (fun q_ => ?_) (fun q_ => ?_) <;> try simp only [Int.toNat_natCast, Nat.mul_one, Nat.add_zero] at q_) | (refine brF (fun q_ => ?_) (fun q_ => ?_) <;> try simp only [Int.toNat_natCast, Nat.mul_one, Nat.add_zero] at q_))
    exact EntR.of rfl (Ent.refl _)
  | 2, _ =>
    repeat' (first | refine gl ?_ | (refine br (fun q_ => ?_) (fun q_ => ?_) <;> try simp only [Int.toNat_natCast, Nat.mul_one, Nat.add_zero] at q_) | (refine brF (fun q_ => ?_) (fun q_ => ?_) <;> try simp only [Int.toNat_natCast, Nat.mul_one, Nat.add_zero] at q_))
    exact EntR.of rfl (Ent.refl _)
  | 3, _ =>
    repeat' (first | refine gl ?_ | (refine br (fun q_ => ?_) (fun q_ => ?_) <;> try simp only [Int.toNat_natCast, Nat.mul_one, Nat.add_zero] at q_) | (refine brF (fun q_ => ?_) (fun q_ => ?_) <;> try simp only [Int.toNat_natCast, Nat.mul_one, Nat.add_zero] at q_))
    exact EntR.of rfl (Ent.refl _)
  | 4, _ =>
    repeat' (first | refine gl ?_ | (refine br (fun q_ => ?_) (fun q_ => ?_) <;> try simp only [Int.toNat_natCast, Nat.mul_one, Nat.add_zero] at q_) | (refine brF (fun q_ => ?_) (fun q_ => ?_) <;> try simp only [Int.toNat_natCast, Nat.mul_one, Nat.add_zero] at q_))
    exact EntR.of rfl (Ent.refl _)
  | 5, _ =>
    repeat' (first | refine gl ?_ | (refine br (fun q_ => ?_) (fun q_ => ?_) <;> try simp only [Int.toNat_natCast, Nat.mul_one, Nat.add_zero] at q_) | (refine brF (fun q_ => ?_) (fun q_ => ?_) <;> try simp only [Int.toNat_natCast, Nat.mul_one, Nat.add_zero] at q_))
    exact EntR.of rfl (Ent.refl _)
  | k0 + 6, h => exact absurd (show k0 + 6 < 6 from h) (by omega)

/-! the law's find -/
def ctFndC : Ct := { ι := List Ch × ByteArray × Int, inp := fun x => [chsD x.1, .v (.string x.2.1), .v (.int .i64 x.2.2)], out := fun x => .tu [chA (lastC (fndC x.2.1 x.2.2 x.1)), .v (.int .i64 (fndC x.2.1 x.2.2 x.1).length)], pre := fun x => x.1.length ≤ 1000000000 }
set_option maxHeartbeats 4000000 in
theorem fndC_ok : Sound Tryz.prog (GlT mx pb) 20 ctFndC := by
  refine sound_by (cc := true) Γ0_ok Tryz.T_ok Tryz.mixed Tryz.func20 rfl (by kernel_rfl) (fun _ => rfl) (fun _ _ => by show 3 ≤ 52; decide) ?_
  rintro ⟨(l : List Ch), (w : ByteArray), (c : Int)⟩ (hl : l.length ≤ 1000000000)
  repeat' (first | refine gl ?_ | (refine br (fun q_ => ?_) (fun q_ => ?_) <;> try simp only [Int.toNat_natCast, Nat.mul_one, Nat.add_zero] at q_) | (refine brF (fun q_ => ?_) (fun q_ => ?_) <;> try simp only [Int.toNat_natCast, Nat.mul_one, Nat.add_zero] at q_))
  refine ⟨0, Nat × List Ch, fun | (i, X) => ⟨[(0, chsD l), (1, .v (.string w)), (2, .v (.int .i64 c)), (6, .own 0 0), (8, .own 1 0), (9, .v (.int .i64 X.length)), (10, .v (.int .i64 i))], [.cells 53 (chLs default), .cells 53 (chLs (lastC X))], []⟩, fun | (i, X) => i ≤ l.length ∧ X = fndC w c (l.take i), fun x => l.length - x.1, fun _ => Nat.zero_le _, ⟨(0, []), ⟨Nat.zero_le _, rfl⟩, StLe.ren [0, 1] tmS ⟨⟨rfl, EntL.refl _, rfl⟩, ⟨rfl, EntL.refl _, rfl⟩, trivial⟩ (by decide)⟩, ?_⟩
  rintro ⟨i, X⟩ ⟨hi, hX⟩
  have hi : i ≤ l.length := hi
  by_cases hlt : i < l.length
  · have hXl : X.length ≤ i := by
      rw [hX]
      have := fnd_len w c (l.take i)
      simp at this; omega
    have ht := fnd_take (w := w) (c := c) hlt
    rw [← hX] at ht
    have no : ¬ hitB w c (l.getD i default) = true → (i + 1 ≤ l.length ∧ X = fndC w c (l.take (i + 1))) := fun h => ⟨hlt, by rw [ht, if_neg h]⟩
    by_cases hw : (l.getD ((i : Int)).toNat default).what = w
    · by_cases hlo : (l.getD ((i : Int)).toNat default).lo ≤ c
      · by_cases hhi : c ≤ (l.getD ((i : Int)).toNat default).hi
        · have hh : hitB w c (l.getD i default) = true := hitB_iff.2 ⟨hw, hlo, hhi⟩
          have hlen : ((X ++ [l.getD i default]).length : Int) = X.length + 1 := by simp
          repeat' (first | refine gl ?_ | (refine br (fun q_ => ?_) (fun q_ => ?_) <;> try simp only [Int.toNat_natCast, Nat.mul_one, Nat.add_zero] at q_) | (refine brF (fun q_ => ?_) (fun q_ => ?_) <;> try simp only [Int.toNat_natCast, Nat.mul_one, Nat.add_zero] at q_))
          refine ⟨(i + 1, X ++ [l.getD i default]), ⟨hlt, by rw [ht, if_pos hh]⟩, (by show l.length - (i + 1) < l.length - i; omega), StLe.ren [0, 1] tmS ⟨⟨rfl, EntL.refl _, rfl⟩, ⟨rfl, ?_, rfl⟩, trivial⟩ (by decide)⟩
          rw [lastC_snoc]
          exact EntL.refl _
        · have hh : ¬ hitB w c (l.getD i default) = true := fun h => hhi (hitB_iff.1 h).2.2
          repeat' (first | refine gl ?_ | (refine br (fun q_ => ?_) (fun q_ => ?_) <;> try simp only [Int.toNat_natCast, Nat.mul_one, Nat.add_zero] at q_) | (refine brF (fun q_ => ?_) (fun q_ => ?_) <;> try simp only [Int.toNat_natCast, Nat.mul_one, Nat.add_zero] at q_))
          exact ⟨(i + 1, X), no hh, (by show l.length - (i + 1) < l.length - i; omega), StLe.ren [0, 1] tmS ⟨⟨rfl, EntL.refl _, rfl⟩, ⟨rfl, EntL.refl _, rfl⟩, trivial⟩ (by decide)⟩
      · have hh : ¬ hitB w c (l.getD i default) = true := fun h => hlo (hitB_iff.1 h).2.1
        repeat' (first | refine gl ?_ | (refine br (fun q_ => ?_) (fun q_ => ?_) <;> try simp only [Int.toNat_natCast, Nat.mul_one, Nat.add_zero] at q_) | (refine brF (fun q_ => ?_) (fun q_ => ?_) <;> try simp only [Int.toNat_natCast, Nat.mul_one, Nat.add_zero] at q_))
        exact ⟨(i + 1, X), no hh, (by show l.length - (i + 1) < l.length - i; omega), StLe.ren [0, 1] tmS ⟨⟨rfl, EntL.refl _, rfl⟩, ⟨rfl, EntL.refl _, rfl⟩, trivial⟩ (by decide)⟩
    · have hh : ¬ hitB w c (l.getD i default) = true := fun h => hw (hitB_iff.1 h).1
      repeat' (first | refine gl ?_ | (refine br (fun q_ => ?_) (fun q_ => ?_) <;> try simp only [Int.toNat_natCast, Nat.mul_one, Nat.add_zero] at q_) | (refine brF (fun q_ => ?_) (fun q_ => ?_) <;> try simp only [Int.toNat_natCast, Nat.mul_one, Nat.add_zero] at q_))
      exact ⟨(i + 1, X), no hh, (by show l.length - (i + 1) < l.length - i; omega), StLe.ren [0, 1] tmS ⟨⟨rfl, EntL.refl _, rfl⟩, ⟨rfl, EntL.refl _, rfl⟩, trivial⟩ (by decide)⟩
  · have e : X = fndC w c l := by rw [hX, List.take_of_length_le (by omega)]
    repeat' (first | refine gl ?_ | (refine br (fun q_ => ?_) (fun q_ => ?_) <;> try simp only [Int.toNat_natCast, Nat.mul_one, Nat.add_zero] at q_) | (refine brF (fun q_ => ?_) (fun q_ => ?_) <;> try simp only [Int.toNat_natCast, Nat.mul_one, Nat.add_zero] at q_))
    refine EntR.of rfl ?_
    rw [e]
    exact Ent.refl _
end Go.Proofs
