import Derived.Test.YthfdmbmjjejbbaaGreatDoorC2
import Derived.Test.YthfdmbmjjejbbaaGreatDoorEa
import Derived.Test.YthfdmbmjjejbbaaGreatDoorP1
set_option linter.unusedVariables false
set_option linter.unusedSimpArgs false
namespace Go.Proofs
open Go Go.Sx
variable {mx : Int} {pb : Bool}

/-! the complement by a cursor: plain -/
structure NotInv (A : List Rg) (lo : Int) (out : List Rg) : Prop where
  pos : 0 ≤ lo
  le : lo ≤ 1114112
  mem : ∀ c, inR out c ↔ 0 ≤ c ∧ c < lo ∧ ¬ inR A c
  each : ∀ r ∈ out, 0 ≤ r.1 ∧ r.1 ≤ r.2 ∧ r.2 < lo
  asc : out.Pairwise (fun x y => x.1 < y.1)
def bndN (A : List Rg) (lo : Int) (i : Nat) (out : List Rg) : Prop := out.length ≤ i ∨ (out.length ≤ i + 1 ∧ i < A.length ∧ (A.getD i default).1 ≤ lo) ∨ (lo = 1114112 ∧ out.length ≤ A.length + 1)
structure CurInv (A : List Rg) (lo : Int) (i : Nat) : Prop where
  le : i ≤ A.length
  bef : ∀ k, k < i → (A.getD k default).2 < lo
theorem notInv_zero (A : List Rg) : NotInv A 0 [] := ⟨Int.le_refl _, by decide, fun c => by rw [inR_nil]; exact ⟨fun h => h.elim, fun h => by omega⟩, fun r hr => by simp at hr, List.Pairwise.nil⟩
theorem inR_getD {A : List Rg} {c : Int} : inR A c ↔ ∃ k, k < A.length ∧ (A.getD k default).1 ≤ c ∧ c ≤ (A.getD k default).2 := by
  constructor
  · rintro ⟨r, hr, h⟩
    obtain ⟨k, hk, rfl⟩ := List.getElem_of_mem hr
    refine ⟨k, hk, ?_⟩
    rw [List.getD_eq_getElem?_getD, List.getElem?_eq_getElem hk]
    exact h
  · rintro ⟨k, hk, h⟩
    exact ⟨_, getD_mem hk, h⟩
theorem canon_apart {A : List Rg} (h : Canon A) {j k : Nat} (hjk : j < k) (hk : k < A.length) : (A.getD j default).2 + 1 < (A.getD k default).1 := by
  have := List.pairwise_iff_getElem.1 h.sep j k (by omega) hk hjk
  rw [List.getD_eq_getElem?_getD, List.getD_eq_getElem?_getD, List.getElem?_eq_getElem (show j < A.length by omega), List.getElem?_eq_getElem hk]
  exact this
theorem canon_rg {A : List Rg} (h : Canon A) {k : Nat} (hk : k < A.length) : 0 ≤ (A.getD k default).1 ∧ (A.getD k default).1 ≤ (A.getD k default).2 ∧ (A.getD k default).2 ≤ 1114111 := h.ok _ (getD_mem hk)
theorem not_more {A : List Rg} {lo hi : Int} {out : List Rg} (h : NotInv A lo out) (h1 : lo ≤ hi) (h2 : hi ≤ 1114111) (hn : ∀ c, lo ≤ c → c ≤ hi → ¬ inR A c) : NotInv A (hi + 1) (out ++ [(lo, hi)]) := by
  have h0 := h.pos
  refine ⟨by omega, by omega, fun c => ?_, fun r hr => ?_, ?_⟩
  · rw [inR_append, h.mem, inR_cons]
    constructor
    · rintro (⟨h3, h4, h5⟩ | h3 | h3)
      · exact ⟨h3, by omega, h5⟩
      · have h3 : lo ≤ c ∧ c ≤ hi := h3
        exact ⟨by omega, by omega, hn c h3.1 h3.2⟩
      · exact (inR_nil.1 h3).elim
    · rintro ⟨h3, h4, h5⟩
      by_cases h6 : c < lo
      · exact .inl ⟨h3, h6, h5⟩
      · exact .inr (.inl (show lo ≤ c ∧ c ≤ hi by omega))
  · rcases List.mem_append.1 hr with hr | hr
    · have := h.each r hr; omega
    · simp at hr; subst hr
      show 0 ≤ lo ∧ lo ≤ hi ∧ hi < hi + 1
      omega
  · refine List.pairwise_append.2 ⟨h.asc, List.pairwise_singleton _ _, fun r hr s hs => ?_⟩
    simp at hs; subst hs
    have := h.each r hr
    show r.1 < lo
    omega
theorem not_skip {A : List Rg} {lo hi : Int} {out : List Rg} (h : NotInv A lo out) (h1 : lo ≤ hi) (h2 : hi ≤ 1114111) (hn : ∀ c, lo ≤ c → c ≤ hi → inR A c) : NotInv A (hi + 1) out := by
  have h0 := h.pos
  refine ⟨by omega, by omega, fun c => ?_, fun r hr => ?_, h.asc⟩
  · rw [h.mem]
    constructor
    · rintro ⟨h3, h4, h5⟩; exact ⟨h3, by omega, h5⟩
    · rintro ⟨h3, h4, h5⟩
      refine ⟨h3, ?_, h5⟩
      refine Classical.byContradiction fun h6 => h5 (hn c (by omega) (by omega))
  · have := h.each r hr; omega
theorem gap_out {A : List Rg} (hA : Canon A) {lo : Int} {i : Nat} (hc : CurInv A lo i) {c : Int} (hlo : lo ≤ c) (hi : i < A.length → c < (A.getD i default).1) : ¬ inR A c := by
  rw [inR_getD]
  rintro ⟨k, hk, h1, h2⟩
  by_cases hki : k < i
  · have := hc.bef k hki; omega
  · by_cases he : k = i
    · subst he; have := hi hk; omega
    · have h3 := hi (by omega)
      have h4 := canon_apart hA (show i < k by omega) hk
      have h5 := canon_rg hA (show i < A.length by omega)
      omega
theorem cur_next {A : List Rg} {lo : Int} {i : Nat} (hc : CurInv A lo i) (hi : i < A.length) (h : (A.getD i default).2 < lo) : CurInv A lo (i + 1) := ⟨hi, fun k hk => by
  by_cases e : k = i
  · subst e; exact h
  · exact hc.bef k (by omega)⟩
theorem cur_mono {A : List Rg} {lo lo' : Int} {i : Nat} (hc : CurInv A lo i) (h : lo ≤ lo') : CurInv A lo' i := ⟨hc.le, fun k hk => by have := hc.bef k hk; omega⟩
theorem bnd_next {A : List Rg} {lo : Int} {i : Nat} {out : List Rg} (h : bndN A lo i out) (hlo : lo ≤ 1114111) : bndN A lo (i + 1) out := by
  unfold bndN at *
  rcases h with h | h | h
  · exact .inl (by omega)
  · exact .inl (by omega)
  · omega
theorem bnd_gap {A : List Rg} {lo : Int} {i : Nat} {out : List Rg} (h : bndN A lo i out) (hlo : lo ≤ 1114111) (hi : i < A.length → lo < (A.getD i default).1) : out.length ≤ i := by
  unfold bndN at h
  rcases h with h | ⟨h1, h2, h3⟩ | h
  · exact h
  · have := hi h2; omega
  · omega
theorem not_done {a out : List Rg} (h : NotInv (canon a) 1114112 out) : canon out = combL [(0, 1114111)] a 3 := by
  obtain ⟨h1, h2⟩ := comb_spec [(0, 1114111)] a 3
  refine canon_unique (canon_canon out) h1 fun c => ?_
  rw [canon_mem, h.mem, h2, canon_mem]
  have hf : hasB [(0, 1114111)] c = true ↔ 0 ≤ c ∧ c ≤ 1114111 := by
    rw [hasB_iff, inR_cons]
    constructor
    · exact fun h => h.1
    · exact fun h => ⟨h, .inl h⟩
  constructor
  · rintro ⟨hb, _, _, hn⟩
    refine ⟨hb, ?_⟩
    have h3 : hasB a c = false := by
      rw [← Bool.not_eq_true, hasB_iff]
      exact hn
    rw [hf.2 hb, h3]; rfl
  · rintro ⟨hb, hk⟩
    refine ⟨hb, hb.1, by omega, fun hin => ?_⟩
    rw [hf.2 hb, hasB_iff.2 hin] at hk
    exact absurd hk (by decide)
theorem not_mkOk {A out : List Rg} {lo : Int} (h : NotInv A lo out) (hl : out.length < 65536) : mkOk out := by
  refine ⟨hl, .inr ⟨fun r hr => ?_, fun p q hpq hq => ?_⟩⟩
  · have := h.each r hr
    have := h.le
    omega
  · have := List.pairwise_iff_getElem.1 h.asc p q (by omega) hq hpq
    rw [← Bool.not_eq_true, rgLt_iff]
    rw [List.getD_eq_getElem?_getD, List.getD_eq_getElem?_getD, List.getElem?_eq_getElem (show p < out.length by omega), List.getElem?_eq_getElem hq]
    show ¬ (out[q].1 < out[p].1 ∨ (out[q].1 = out[p].1 ∧ out[q].2 < out[p].2))
    omega
end Go.Proofs

namespace Go.Proofs
open Go Go.Sx
variable {mx : Int} {pb : Bool}

/-! cpset.combine for cpset.Not -/
noncomputable def cCur : Code := (Tryz.f203.body).getD .skip
noncomputable def cCur1 : Code := (Tryz.f214.body).getD .skip
noncomputable def cNot1 : Code := (Tryz.f199.body).getD .skip
noncomputable def Γcu : Ctx := fun f => match f with
  | 44 => some (.pure ctMake)
  | _ => none
theorem Γcu_ok : CtxOk Tryz.prog (GlT mx pb) Γcu := by
  intro f h hh
  simp only [Γcu] at hh
  split at hh <;> simp at hh <;> subst hh
  · exact cpMake_ok
noncomputable def Γco (mx : Int) (pb : Bool) : Ctx := fun f => match f with
  | 44 => some (.pure ctMake)
  | 203 => some (.gen (inlW true Γcu Tryz.T (GlT mx pb) Tryz.f203 cCur))
  | 214 => some (.gen (inlW true Γ0 Tryz.T (GlT mx pb) Tryz.f214 cCur1))
  | 199 => some (.gen (inlW true Γ0 Tryz.T (GlT mx pb) Tryz.f199 cNot1))
  | _ => none
theorem Γco_ok : CtxOk Tryz.prog (GlT mx pb) (Γco mx pb) := by
  intro f h hh
  simp only [Γco] at hh
  split at hh <;> simp at hh <;> subst hh
  · exact cpMake_ok
  · exact soundT_inlW Γcu_ok Tryz.T_ok Tryz.mixed Tryz.func203 rfl (by kernel_rfl)
  · exact soundT_inlW Γ0_ok Tryz.T_ok Tryz.mixed Tryz.func214 rfl (by kernel_rfl)
  · exact soundT_inlW Γ0_ok Tryz.T_ok Tryz.mixed Tryz.func199 rfl (by kernel_rfl)
def ctCmbN : Ct := { ι := List Rg, inp := fun a => [setD a, .ag [nilV], .fn 199 []], out := fun a => setD (combL [(0, 1114111)] a 3), pre := fun a => mkOk a ∧ a.length ≤ 60000 }
def owCu (A : List Rg) (i : Nat) (out : List Rg) : List Own := [.cells 40 [nilV], .cells 38 [rgsD A], .cells 3 [.v (.int .i64 i)], .cells 38 [rgsD []], .cells 3 [.v (.int .i64 0)], rowL 42 2 rgD out]
def sCu (A : List Rg) (lo : Int) (i : Nat) (out : List Rg) : St := ⟨[(2, .fn 199 []), (6, .own 0 0), (7, .fn 214 [.own 2 0, .own 1 0]), (8, .fn 214 [.own 4 0, .own 3 0]), (9, .row 5), (10, .v (.int .i64 lo))], owCu A i out, []⟩
def sCi (A : List Rg) (lo : Int) (i : Nat) (out : List Rg) : St := ⟨[(0, .v (.int .i64 lo)), (1, .own 2 0), (2, .own 1 0)], owCu A i out, []⟩
theorem StLe.m6 {tm tm' : List (Nat × D)} {ow ow' : List Own} (h1 : renT [0, 1, 2, 3, 4, 5] tm tm') (h2 : renO [0, 1, 2, 3, 4, 5] ow [0, 1, 2, 3, 4, 5] ow') : StLe 6 ⟨tm, ow, []⟩ ⟨tm', ow', []⟩ := StLe.renm [0, 1, 2, 3, 4, 5] h1 h2 (by decide) (by decide) (by simp)
set_option maxHeartbeats 4000000 in
theorem cmbN_ok : Sound Tryz.prog (GlT mx pb) 196 ctCmbN := by
  refine sound_by (cc := true) Γco_ok Tryz.T_ok Tryz.mixed Tryz.func196 rfl (by kernel_rfl) (fun _ => rfl) (fun _ _ => by show 3 ≤ 51; decide) ?_
  rintro (a : List Rg) ⟨(hm : mkOk a), (hl : a.length ≤ 60000)⟩
  have p1 : ctMake.pre a := hm
  refine gO ?_
  refine .inr ⟨.stage [0, 2] (.alt 1 [2] (.stage [] (.alt 3 [] (.done [4, 5]) .nil)) .nil), by decide +kernel, ?_⟩
  refine And.intro rfl (And.intro rfl ?_)
  repeat' (first | refine gl ?_ | (refine br (fun q_ => ?_) (fun q_ => ?_) <;> try simp only [Int.toNat_natCast, Nat.mul_one, Nat.add_zero] at q_) | (refine brF (fun q_ => ?_) (fun q_ => ?_) <;> try simp only [Int.toNat_natCast, Nat.mul_one, Nat.add_zero] at q_))
  refine And.intro rfl ?_
  repeat' (first | refine gl ?_ | (refine br (fun q_ => ?_) (fun q_ => ?_) <;> try simp only [Int.toNat_natCast, Nat.mul_one, Nat.add_zero] at q_) | (refine brF (fun q_ => ?_) (fun q_ => ?_) <;> try simp only [Int.toNat_natCast, Nat.mul_one, Nat.add_zero] at q_))
  refine ⟨[], EntL.cons Ent.nil (EntL.refl []), ⟨by decide, .inl (by decide)⟩, ?_⟩
  repeat' (first | refine gl ?_ | (refine br (fun q_ => ?_) (fun q_ => ?_) <;> try simp only [Int.toNat_natCast, Nat.mul_one, Nat.add_zero] at q_) | (refine brF (fun q_ => ?_) (fun q_ => ?_) <;> try simp only [Int.toNat_natCast, Nat.mul_one, Nat.add_zero] at q_))
  refine And.intro rfl (And.intro rfl ?_)
  repeat' (first | refine gl ?_ | (refine br (fun q_ => ?_) (fun q_ => ?_) <;> try simp only [Int.toNat_natCast, Nat.mul_one, Nat.add_zero] at q_) | (refine brF (fun q_ => ?_) (fun q_ => ?_) <;> try simp only [Int.toNat_natCast, Nat.mul_one, Nat.add_zero] at q_))
  simp only [setOwn, goneO, rowL, retD, List.map_cons, List.map_nil, List.cons_append, List.nil_append, List.append_nil, List.length_cons, List.length_nil, List.length_append, Nat.reduceAdd, Nat.zero_add, reduceIte]
  have hA := canon_canon a
  have hAl := canon_len a
  refine ⟨0, Int × Nat × List Rg, fun | (lo, i, out) => sCu (canon a) lo i out, fun | (lo, i, out) => NotInv (canon a) lo out ∧ CurInv (canon a) lo i ∧ bndN (canon a) lo i out, fun x => (1114112 - x.1).toNat, fun _ => Nat.zero_le _, ⟨(0, 0, []), ⟨notInv_zero _, ⟨Nat.zero_le _, fun k hk => by omega⟩, .inl (Nat.le_refl _)⟩, StLe.trans (StLe.nilRow (t := 9) 42 2 (fun _ _ => .junk) rfl) (StLe.ren [2, 4, 5, 7, 8, 9] tmS ⟨⟨rfl, EntL.refl _, rfl⟩, ⟨rfl, EntL.refl _, rfl⟩, ⟨rfl, EntL.refl _, rfl⟩, ⟨rfl, EntL.refl _, rfl⟩, ⟨rfl, EntL.refl _, rfl⟩, own_nil, trivial⟩ (by decide))⟩, ?_⟩
  rintro ⟨lo, i, out⟩ ⟨hN, hC, hB⟩
  generalize hAe : canon a = A at hA hAl hN hC hB ⊢
  have hp := hN.pos
  have hle := hN.le
  by_cases hlo : lo ≤ 1114111
  · repeat' (first | refine gl ?_ | (refine br (fun q_ => ?_) (fun q_ => ?_) <;> try simp only [Int.toNat_natCast, Nat.mul_one, Nat.add_zero] at q_) | (refine brF (fun q_ => ?_) (fun q_ => ?_) <;> try simp only [Int.toNat_natCast, Nat.mul_one, Nat.add_zero] at q_))
    refine ⟨0, Nat, fun i => sCi A lo i out, fun i => CurInv A lo i ∧ bndN A lo i out, fun i => A.length - i, fun _ => (by show 6 ≤ 6; decide), ⟨i, ⟨hC, hB⟩, StLe.m6 tmS ⟨⟨rfl, EntL.refl _, rfl⟩, ⟨rfl, EntL.refl _, rfl⟩, ⟨rfl, EntL.refl _, rfl⟩, ⟨rfl, EntL.refl _, rfl⟩, ⟨rfl, EntL.refl _, rfl⟩, own_refl, trivial⟩⟩, ?_⟩
    clear hC hB
    rintro k ⟨(hC : CurInv A lo k), (hB : bndN A lo k out)⟩
    have hi := hC.le
    by_cases hil : k < A.length
    · obtain ⟨h1, h2, h3⟩ := canon_rg hA hil
      by_cases hh : (A.getD ((k : Int)).toNat default).2 < lo
      · repeat' (first | refine gl ?_ | (refine br (fun q_ => ?_) (fun q_ => ?_) <;> try simp only [Int.toNat_natCast, Nat.mul_one, Nat.add_zero] at q_) | (refine brF (fun q_ => ?_) (fun q_ => ?_) <;> try simp only [Int.toNat_natCast, Nat.mul_one, Nat.add_zero] at q_))
        exact ⟨k + 1, ⟨cur_next hC hil hh, bnd_next hB hlo⟩, (by show A.length - (k + 1) < A.length - k; omega), StLe.m6 tmS ⟨⟨rfl, EntL.refl _, rfl⟩, ⟨rfl, EntL.refl _, rfl⟩, ⟨rfl, EntL.cons (Ent.int (by omega)) (EntL.refl []), rfl⟩, ⟨rfl, EntL.refl _, rfl⟩, ⟨rfl, EntL.refl _, rfl⟩, own_refl, trivial⟩⟩
      · have hh0 : ¬ (A.getD k default).2 < lo := hh
        by_cases hg : lo < (A.getD ((k : Int)).toNat default).1
        · have hg0 : lo < (A.getD k default).1 := hg
          have hb := bnd_gap hB hlo (fun _ => hg0)
          have hn := not_more hN (show lo ≤ (A.getD k default).1 - 1 by omega) (by omega) (fun c c1 c2 => gap_out hA hC c1 (fun _ => by omega))
          rw [Int.sub_add_cancel] at hn
          have hm : min ((A.getD ((k : Int)).toNat default).1 - 1) 1114111 = (A.getD k default).1 - 1 := by
            show min ((A.getD k default).1 - 1) 1114111 = _
            omega
          have hol : out.length ≤ 60000 := by omega
          repeat' (first | refine gl ?_ | (refine br (fun q_ => ?_) (fun q_ => ?_) <;> try simp only [Int.toNat_natCast, Nat.mul_one, Nat.add_zero] at q_) | (refine brF (fun q_ => ?_) (fun q_ => ?_) <;> try simp only [Int.toNat_natCast, Nat.mul_one, Nat.add_zero] at q_))
          refine ⟨2, ?_⟩
          repeat' (first | refine gl ?_ | (refine br (fun q_ => ?_) (fun q_ => ?_) <;> try simp only [Int.toNat_natCast, Nat.mul_one, Nat.add_zero] at q_) | (refine brF (fun q_ => ?_) (fun q_ => ?_) <;> try simp only [Int.toNat_natCast, Nat.mul_one, Nat.add_zero] at q_))
          exact ⟨((A.getD k default).1, k, out ++ [(lo, (A.getD k default).1 - 1)]), ⟨hn, cur_mono hC (by omega), .inr (.inl ⟨by simp; omega, hil, Int.le_refl _⟩)⟩, (by show (1114112 - (A.getD k default).1).toNat < (1114112 - lo).toNat; omega), StLe.ren [0, 1, 2, 3, 4, 6] tmS ⟨⟨rfl, EntL.refl _, rfl⟩, ⟨rfl, EntL.refl _, rfl⟩, ⟨rfl, EntL.refl _, rfl⟩, ⟨rfl, EntL.refl _, rfl⟩, ⟨rfl, EntL.refl _, rfl⟩, own_app (x := (lo, (A.getD k default).1 - 1)) (fun j hj => match j, hj with | 0, _ => Ent.refl _ | 1, _ => Ent.of_eq (congrArg (fun z => D.v (.int .i64 z)) hm)), trivial⟩ (by decide)⟩
        · have hg0 : ¬ lo < (A.getD k default).1 := hg
          repeat' (first | refine gl ?_ | (refine br (fun q_ => ?_) (fun q_ => ?_) <;> try simp only [Int.toNat_natCast, Nat.mul_one, Nat.add_zero] at q_) | (refine brF (fun q_ => ?_) (fun q_ => ?_) <;> try simp only [Int.toNat_natCast, Nat.mul_one, Nat.add_zero] at q_))
          refine ⟨2, ?_⟩
          repeat' (first | refine gl ?_ | (refine br (fun q_ => ?_) (fun q_ => ?_) <;> try simp only [Int.toNat_natCast, Nat.mul_one, Nat.add_zero] at q_) | (refine brF (fun q_ => ?_) (fun q_ => ?_) <;> try simp only [Int.toNat_natCast, Nat.mul_one, Nat.add_zero] at q_))
          refine ⟨((A.getD k default).2 + 1, k, out), ⟨not_skip hN (by omega) (by omega) (fun c c1 c2 => inR_getD.2 ⟨k, hil, by omega, by omega⟩), cur_mono hC (by omega), ?_⟩, (by show (1114112 - ((A.getD k default).2 + 1)).toNat < (1114112 - lo).toNat; omega), ?_⟩
          · rcases hB with h | ⟨h4, h5, h6⟩ | h
            · exact .inl h
            · exact .inr (.inl ⟨h4, h5, by omega⟩)
            · omega
          · exact StLe.ren [0, 1, 2, 3, 4, 5] tmS ⟨⟨rfl, EntL.refl _, rfl⟩, ⟨rfl, EntL.refl _, rfl⟩, ⟨rfl, EntL.refl _, rfl⟩, ⟨rfl, EntL.refl _, rfl⟩, ⟨rfl, EntL.refl _, rfl⟩, own_refl, trivial⟩ (by decide)
    · have hk : k = A.length := by omega
      have hb := bnd_gap hB hlo (fun h => absurd h hil)
      have hn := not_more hN hlo (Int.le_refl _) (fun c c1 c2 => gap_out hA hC c1 (fun h => absurd h hil))
      have hol : out.length ≤ 60000 := by omega
      repeat' (first | refine gl ?_ | (refine br (fun q_ => ?_) (fun q_ => ?_) <;> try simp only [Int.toNat_natCast, Nat.mul_one, Nat.add_zero] at q_) | (refine brF (fun q_ => ?_) (fun q_ => ?_) <;> try simp only [Int.toNat_natCast, Nat.mul_one, Nat.add_zero] at q_))
      refine ⟨2, ?_⟩
      repeat' (first | refine gl ?_ | (refine br (fun q_ => ?_) (fun q_ => ?_) <;> try simp only [Int.toNat_natCast, Nat.mul_one, Nat.add_zero] at q_) | (refine brF (fun q_ => ?_) (fun q_ => ?_) <;> try simp only [Int.toNat_natCast, Nat.mul_one, Nat.add_zero] at q_))
      exact ⟨(1114112, k, out ++ [(lo, 1114111)]), ⟨hn, cur_mono hC (by omega), .inr (.inr ⟨rfl, by simp; omega⟩)⟩, (by show ((1114112 : Int) - 1114112).toNat < (1114112 - lo).toNat; omega), StLe.ren [0, 1, 2, 3, 4, 6] tmS ⟨⟨rfl, EntL.refl _, rfl⟩, ⟨rfl, EntL.refl _, rfl⟩, ⟨rfl, EntL.refl _, rfl⟩, ⟨rfl, EntL.refl _, rfl⟩, ⟨rfl, EntL.refl _, rfl⟩, own_app (x := (lo, 1114111)) (fun j hj => match j, hj with | 0, _ => Ent.refl _ | 1, _ => Ent.of_eq (congrArg (fun z => D.v (.int .i64 z)) (show min (1114111 : Int) 1114111 = 1114111 by decide))), trivial⟩ (by decide)⟩
  · have hlo2 : lo = 1114112 := by omega
    have hol : out.length < 65536 := by
      rcases hB with h | ⟨h4, h5, h6⟩ | h
      · have := hC.le; omega
      · omega
      · omega
    have p2 : ctMake.pre out := not_mkOk hN hol
    have e := not_done (a := a) (out := out) (by rw [hAe, ← hlo2]; exact hN)
    repeat' (first | refine gl ?_ | (refine br (fun q_ => ?_) (fun q_ => ?_) <;> try simp only [Int.toNat_natCast, Nat.mul_one, Nat.add_zero] at q_) | (refine brF (fun q_ => ?_) (fun q_ => ?_) <;> try simp only [Int.toNat_natCast, Nat.mul_one, Nat.add_zero] at q_))
    refine EntR.of rfl ?_
    show Ent (setD (canon out)) (setD _)
    rw [e]
    exact Ent.refl _
end Go.Proofs
