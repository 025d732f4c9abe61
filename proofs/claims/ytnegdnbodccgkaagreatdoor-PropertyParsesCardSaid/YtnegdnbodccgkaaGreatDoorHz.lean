import Derived.Test.YtnegdnbodccgkaaGreatDoorPPz
import Derived.Test.YtnegdnbodccgkaaGreatDoorT1z
import Derived.Test.YtnegdnbodccgkaaGreatDoorMk
import Derived.Test.YtnegdnbodccgkaaGreatDoorRm
set_option linter.unusedVariables false
set_option linter.unusedSimpArgs false
namespace Go.Proofs
open Go Go.Sx
variable {mx : Int} {pb : Bool}

/-! the first line of a property's text -/
def nlC : ByteArray := ⟨#[10]⟩
def ctHdP : Ct := { ι := ByteArray, inp := fun s => [.v (.string s)], out := fun s => .tu [.v (.string (hdA s)), .v (.int .i64 (hdN s)), .v (.string (hdZ s))], pre := fun s => s.size ≤ 1000000000 }
theorem hd_at {s a z : ByteArray} {n : Int} (h : headL 1 s.data.toList = (a.data.toList, n, z.data.toList)) : ctHdP.out s = .tu [.v (.string a), .v (.int .i64 n), .v (.string z)] := by
  show D.tu [.v (.string (listB (headL 1 s.data.toList).1)), .v (.int .i64 (headL 1 s.data.toList).2.1), .v (.string (listB (headL 1 s.data.toList).2.2))] = _
  rw [h]; rfl
theorem hd_some {r : ByteArray} {n : Int} (h : ¬ cutA r ⟨#[10]⟩ = ⟨#[]⟩) : headL n r.data.toList = ((cutA r ⟨#[10]⟩).data.toList, n, (cutZ r ⟨#[10]⟩).data.toList) := by
  obtain ⟨c1, c2, _, _⟩ := cut_nl r
  rw [c1, c2]
  refine headL_ln ?_
  cases e : r.data.toList with
  | nil => rw [e] at c1; exact absurd (size_nil c1) h
  | cons b l =>
    refine ⟨b, l, rfl, fun hb => h (size_nil ?_)⟩
    rw [c1, e, hb]
    rfl
theorem hd_none {r : ByteArray} {n : Int} (h : cutA r ⟨#[10]⟩ = ⟨#[]⟩) (hf : cutF r ⟨#[10]⟩ = false) : headL n r.data.toList = ((⟨#[]⟩ : ByteArray).data.toList, 1, (⟨#[]⟩ : ByteArray).data.toList) := by
  obtain ⟨c1, _, c3, _⟩ := cut_nl r
  rw [(take_no (c3 hf)).1, h] at c1
  rw [← c1]
  rfl
theorem hd_next {r : ByteArray} {n : Int} (h : cutA r ⟨#[10]⟩ = ⟨#[]⟩) (hf : cutF r ⟨#[10]⟩ = true) : headL n r.data.toList = headL (n + 1) (cutZ r ⟨#[10]⟩).data.toList ∧ (cutZ r ⟨#[10]⟩).size + 1 = r.size := by
  obtain ⟨_, _, _, c4⟩ := cut_nl r
  have e := c4 hf
  rw [h] at e
  have e : r.data.toList = 10 :: (cutZ r ⟨#[10]⟩).data.toList := e
  refine ⟨by rw [e, headL_nl], ?_⟩
  have := congrArg List.length e
  rw [List.length_cons] at this
  exact this.symm
def Γhd : Ctx := fun f => match f with
  | 154 => some (.pure (ctCut1 ⟨#[10]⟩))
  | _ => none
theorem Γhd_ok : CtxOk Tryz.prog (GlT mx pb) Γhd := by
  intro f h hh
  simp only [Γhd] at hh
  split at hh <;> simp at hh <;> subst hh
  · exact (cut1_ok _)
set_option maxHeartbeats 4000000 in
theorem pHead_ok : Sound Tryz.prog (GlT mx pb) 90 ctHdP := by
  refine sound_by (cc := true) Γhd_ok Tryz.T_ok Tryz.mixed Tryz.func90 rfl (by kernel_rfl) (fun _ => rfl) (fun _ _ => by show 1 ≤ 25; decide) ?_
  intro (s : ByteArray) (hs : s.size ≤ 1000000000)
  repeat' (first | refine gw ?_ | (refine br (fun q_ => ?_) (fun q_ => ?_) <;> try simp only [Int.toNat_natCast, Nat.mul_one, Nat.add_zero] at q_) | (refine brF (fun q_ => ?_) (fun q_ => ?_) <;> try simp only [Int.toNat_natCast, Nat.mul_one, Nat.add_zero] at q_))
  refine ⟨0, ByteArray × Int, fun | (r, n) => ⟨[(0, .v (.string r)), (5, .v (.int .i64 n))], [], []⟩, fun | (r, n) => headL n r.data.toList = headL 1 s.data.toList ∧ 1 ≤ n ∧ n + r.size ≤ s.size + 1, fun x => x.1.size, fun _ => Nat.zero_le _, ⟨(s, 1), ⟨rfl, by decide, by omega⟩, StLe.ren [] tmS trivial (by decide)⟩, ?_⟩
  rintro ⟨r, n⟩ ⟨(hh : headL n r.data.toList = _), (hn : 1 ≤ n), (hb : n + r.size ≤ s.size + 1)⟩
  have p1 : (ctCut1 ⟨#[10]⟩).pre r := (by show r.size < _; omega)
  repeat' (first | refine gw ?_ | (refine br (fun q_ => ?_) (fun q_ => ?_) <;> try simp only [Int.toNat_natCast, Nat.mul_one, Nat.add_zero] at q_) | (refine brF (fun q_ => ?_) (fun q_ => ?_) <;> try simp only [Int.toNat_natCast, Nat.mul_one, Nat.add_zero] at q_))
  all_goals first
    | exact entR_eq' (d' := ctHdP.out s) rfl (hd_at (hh.symm.trans (hd_some (by assumption)))).symm
    | exact entR_eq' (d' := ctHdP.out s) rfl (hd_at (hh.symm.trans (hd_none (by assumption) (by assumption)))).symm
    | (obtain ⟨e1, e2⟩ := hd_next (r := r) (n := n) (by assumption) (by assumption)
       exact ⟨(cutZ r ⟨#[10]⟩, n + 1), ⟨e1.symm.trans hh, by omega, by omega⟩, (by show (cutZ r ⟨#[10]⟩).size < r.size; omega), StLe.ren [] tmS trivial (by decide)⟩)
/-! the twin's head -/
def hdM (s : ByteArray) : Int := if emB (hdA s) = true then 0 else hdN s
def ctHdR : Ct := { ι := ByteArray, inp := fun s => [.v (.string s)], out := fun s => .tu [.v (.int .i64 (hdM s)), .v (.string (hdA s)), .v (.string (hdZ s))], pre := fun s => s.size ≤ 1000000000 }
theorem hr_at {s a z : ByteArray} {n : Int} (h : headL 1 s.data.toList = (a.data.toList, n, z.data.toList)) (ha : ¬ a = ⟨#[]⟩) : ctHdR.out s = .tu [.v (.int .i64 n), .v (.string a), .v (.string z)] := by
  have e : hdA s = a := by unfold hdA; rw [h]; rfl
  have e2 : hdN s = n := by unfold hdN; rw [h]
  have e3 : hdZ s = z := by unfold hdZ; rw [h]; rfl
  show D.tu [.v (.int .i64 (hdM s)), .v (.string (hdA s)), .v (.string (hdZ s))] = _
  rw [hdM, e, e2, e3, if_neg (fun hh => ha (emB_iff.1 hh))]
theorem hr_no {s : ByteArray} (h : headL 1 s.data.toList = ([], 1, [])) : ctHdR.out s = .tu [.v (.int .i64 0), .v (.string ⟨#[]⟩), .v (.string ⟨#[]⟩)] := by
  have e : hdA s = ⟨#[]⟩ := by unfold hdA; rw [h]; rfl
  have e3 : hdZ s = ⟨#[]⟩ := by unfold hdZ; rw [h]; rfl
  show D.tu [.v (.int .i64 (hdM s)), .v (.string (hdA s)), .v (.string (hdZ s))] = _
  rw [hdM, e, e3, if_pos (emB_iff.2 rfl)]
theorem hr_line {s : ByteArray} {i j : Nat} {n : Int} (hij : i < j) (hj : j ≤ s.size) (hno : ∀ x, i ≤ x → x < j → ¬ bAt s x = 10) (hend : j < s.size → bAt s j = 10) : headL n (s.data.toList.drop i) = ((bcut s i j).data.toList, n, s.data.toList.drop (j + 1)) := by
  have hno' : ∀ b ∈ (s.data.toList.take j).drop i, b ≠ 10 := fun b hb => by
    obtain ⟨x, hx, rfl⟩ := List.getElem_of_mem hb
    rw [List.length_drop, List.length_take] at hx
    rw [List.getElem_drop, List.getElem_take]
    have h1 : i + x < s.size := by omega
    have := hno (i + x) (by omega) (by omega)
    rw [bAt_get h1] at this
    exact fun e => this (by rw [e]; rfl)
  have hl : s.data.toList.length = s.size := rfl
  have e0 : s.data.toList.drop i = (s.data.toList.take j).drop i ++ s.data.toList.drop j := by
    conv => lhs; rw [← List.take_append_drop j s.data.toList]
    rw [List.drop_append_of_le_length (by rw [List.length_take]; omega)]
  have hne : (s.data.toList.take j).drop i ≠ [] := fun e => by
    have := congrArg List.length e
    rw [List.length_drop, List.length_take, List.length_nil] at this
    omega
  have key : (s.data.toList.drop i).takeWhile (· != 10) = (s.data.toList.take j).drop i ∧ ((s.data.toList.drop i).dropWhile (· != 10)).drop 1 = s.data.toList.drop (j + 1) := by
    rw [e0]
    rcases Nat.lt_or_ge j s.size with h | h
    · have e10 : s.data.toList.drop j = 10 :: s.data.toList.drop (j + 1) := by
        have hc : s.data.toList[j]'h = 10 := u8_eq.1 (by rw [← bAt_get h]; exact hend h)
        rw [List.drop_eq_getElem_cons (show j < s.data.toList.length from h), hc]
      rw [e10]
      exact take_wh hno'
    · rw [List.drop_eq_nil_of_le (show s.data.toList.length ≤ j by omega), List.append_nil, List.drop_eq_nil_of_le (show s.data.toList.length ≤ j + 1 by omega)]
      exact take_no hno'
  have hex : ∃ b r, s.data.toList.drop i = b :: r ∧ b ≠ 10 := by
    rw [e0]
    cases e : (s.data.toList.take j).drop i with
    | nil => exact absurd e hne
    | cons b r => exact ⟨b, r ++ s.data.toList.drop j, rfl, hno' b (by rw [e]; simp)⟩
  rw [headL_ln hex, key.1, key.2]
  rfl
theorem hr_next {s : ByteArray} {i : Nat} {n : Int} (hi : i < s.size) (h : bAt s i = 10) : headL n (s.data.toList.drop i) = headL (n + 1) (s.data.toList.drop (i + 1)) := by
  have hc : s.data.toList[i]'hi = 10 := u8_eq.1 (by rw [← bAt_get hi]; exact h)
  rw [List.drop_eq_getElem_cons (show i < s.data.toList.length from hi), hc, headL_nl]
theorem bcut_ne {s : ByteArray} {i j : Nat} (hij : i < j) (hj : j ≤ s.size) : ¬ bcut s i j = ⟨#[]⟩ := fun e => by
  have := congrArg (fun x => x.data.toList.length) e
  have h2 : ((s.data.toList.take j).drop i).length = 0 := this
  have hl : s.data.toList.length = s.size := rfl
  rw [List.length_drop, List.length_take] at h2
  omega
theorem bcut_rest {s : ByteArray} {j : Nat} : bcut s (min ((j : Int) + 1) (s.size : Int)).toNat s.size = listB (s.data.toList.drop (j + 1)) := by
  have hl : s.data.toList.length = s.size := rfl
  show listB ((s.data.toList.take s.size).drop _) = _
  rw [List.take_of_length_le (by omega)]
  congr 1
  rcases Nat.lt_or_ge j s.size with h | h
  · congr 1
    omega
  · rw [List.drop_eq_nil_of_le (by omega), List.drop_eq_nil_of_le (by omega)]
theorem hr_ret {s : ByteArray} {i j n : Nat} (hh : headL ((n : Int) + 1) (s.data.toList.drop i) = headL 1 s.data.toList) (hl : headL ((n : Int) + 1) (s.data.toList.drop i) = ((bcut s i j).data.toList, (n : Int) + 1, s.data.toList.drop (j + 1))) (hij : i < j) (hj : j ≤ s.size) : retD [.v (.int .i64 ((n : Int) + 1)), .v (.string (bcut s (i : Int).toNat (j : Int).toNat)), .v (.string (bcut s (min ((j : Int) + 1) (s.size : Int)).toNat s.size))] = ctHdR.out s := by
  rw [hr_at (a := bcut s i j) (z := listB (s.data.toList.drop (j + 1))) (hh.symm.trans hl) (bcut_ne hij hj), bcut_rest]
  rfl
set_option maxHeartbeats 4000000 in
theorem rHead_ok : Sound Tryz.prog (GlT mx pb) 93 ctHdR := by
  refine sound_by (cc := true) Γ0_ok Tryz.T_ok Tryz.mixed Tryz.func93 rfl (by kernel_rfl) (fun _ => rfl) (fun _ _ => by show 1 ≤ 44; decide) ?_
  intro (s : ByteArray) (hs : s.size ≤ 1000000000)
  repeat' (first | refine gw ?_ | (refine br (fun q_ => ?_) (fun q_ => ?_) <;> try simp only [Int.toNat_natCast, Nat.mul_one, Nat.add_zero] at q_) | (refine brF (fun q_ => ?_) (fun q_ => ?_) <;> try simp only [Int.toNat_natCast, Nat.mul_one, Nat.add_zero] at q_))
  refine ⟨0, Nat × Nat, fun | (n, i) => ⟨[(0, .v (.string s)), (5, .v (.int .i64 n)), (6, .v (.int .i64 i))], [], []⟩, fun | (n, i) => n ≤ i ∧ i ≤ s.size + 1 ∧ headL ((n : Int) + 1) (s.data.toList.drop i) = headL 1 s.data.toList, fun x => s.size + 1 - x.2, fun _ => Nat.zero_le _, ⟨(0, 0), ⟨Nat.le_refl _, Nat.zero_le _, rfl⟩, StLe.ren [] tmS trivial (by decide)⟩, ?_⟩
  rintro ⟨n, i⟩ ⟨(hn : n ≤ i), (hi : i ≤ s.size + 1), (hh : headL ((n : Int) + 1) (s.data.toList.drop i) = _)⟩
  by_cases hlt : i < s.size
  · repeat' (first | refine gw ?_ | (refine br (fun q_ => ?_) (fun q_ => ?_) <;> try simp only [Int.toNat_natCast, Nat.mul_one, Nat.add_zero] at q_) | (refine brF (fun q_ => ?_) (fun q_ => ?_) <;> try simp only [Int.toNat_natCast, Nat.mul_one, Nat.add_zero] at q_))
    refine ⟨0, Nat, fun j => ⟨[(0, .v (.string s)), (5, .v (.int .i64 n)), (6, .v (.int .i64 i)), (7, .v (.int .i64 j))], [], []⟩, fun j => i ≤ j ∧ j ≤ s.size ∧ ∀ x, i ≤ x → x < j → ¬ bAt s x = 10, fun j => s.size - j, fun _ => Nat.zero_le _, ⟨i, ⟨Nat.le_refl _, by omega, fun x h1 h2 => by omega⟩, StLe.ren [] tmS trivial (by decide)⟩, ?_⟩
    rintro j ⟨hij, hj, hno⟩
    by_cases hjl : j < s.size
    · by_cases h10 : bAt s j = 10
      · by_cases hlt2 : i < j
        · have hl := hr_line (n := (n : Int) + 1) hlt2 hj hno (fun _ => h10)
          repeat' (first | refine gw ?_ | (refine br (fun q_ => ?_) (fun q_ => ?_) <;> try simp only [Int.toNat_natCast, Nat.mul_one, Nat.add_zero] at q_) | (refine brF (fun q_ => ?_) (fun q_ => ?_) <;> try simp only [Int.toNat_natCast, Nat.mul_one, Nat.add_zero] at q_))
          exact entR_eq' (d' := ctHdR.out s) rfl (hr_ret hh hl hlt2 hj)
        · have hje : j = i := by omega
          have hl := hr_next (n := (n : Int) + 1) hlt (hje ▸ h10)
          repeat' (first | refine gw ?_ | (refine br (fun q_ => ?_) (fun q_ => ?_) <;> try simp only [Int.toNat_natCast, Nat.mul_one, Nat.add_zero] at q_) | (refine brF (fun q_ => ?_) (fun q_ => ?_) <;> try simp only [Int.toNat_natCast, Nat.mul_one, Nat.add_zero] at q_))
          exact ⟨(n + 1, j + 1), ⟨by omega, by omega, by rw [hje, ← hh, hl]; rfl⟩, (by show s.size + 1 - (j + 1) < s.size + 1 - i; omega), StLe.ren [] tmS trivial (by decide)⟩
      · repeat' (first | refine gw ?_ | (refine br (fun q_ => ?_) (fun q_ => ?_) <;> try simp only [Int.toNat_natCast, Nat.mul_one, Nat.add_zero] at q_) | (refine brF (fun q_ => ?_) (fun q_ => ?_) <;> try simp only [Int.toNat_natCast, Nat.mul_one, Nat.add_zero] at q_))
        refine ⟨j + 1, ⟨by omega, by omega, fun x h1 h2 => ?_⟩, (by show s.size - (j + 1) < s.size - j; omega), StLe.ren [] tmS trivial (by decide)⟩
        rcases Nat.lt_or_ge x j with h3 | h3
        · exact hno x h1 h3
        · rw [show x = j by omega]; exact h10
    · have hlt2 : i < j := by omega
      have hl := hr_line (n := (n : Int) + 1) hlt2 hj hno (fun h => absurd h hjl)
      repeat' (first | refine gw ?_ | (refine br (fun q_ => ?_) (fun q_ => ?_) <;> try simp only [Int.toNat_natCast, Nat.mul_one, Nat.add_zero] at q_) | (refine brF (fun q_ => ?_) (fun q_ => ?_) <;> try simp only [Int.toNat_natCast, Nat.mul_one, Nat.add_zero] at q_))
      repeat' (first | refine gw ?_ | (refine br (fun q_ => ?_) (fun q_ => ?_) <;> try simp only [Int.toNat_natCast, Nat.mul_one, Nat.add_zero] at q_) | (refine brF (fun q_ => ?_) (fun q_ => ?_) <;> try simp only [Int.toNat_natCast, Nat.mul_one, Nat.add_zero] at q_))
      exact entR_eq' (d' := ctHdR.out s) rfl (hr_ret hh hl hlt2 hj)
  · rw [List.drop_eq_nil_of_le (show s.data.toList.length ≤ i from Nat.le_of_not_lt hlt)] at hh
    repeat' (first | refine gw ?_ | (refine br (fun q_ => ?_) (fun q_ => ?_) <;> try simp only [Int.toNat_natCast, Nat.mul_one, Nat.add_zero] at q_) | (refine brF (fun q_ => ?_) (fun q_ => ?_) <;> try simp only [Int.toNat_natCast, Nat.mul_one, Nat.add_zero] at q_))
    exact entR_eq' (d' := ctHdR.out s) rfl (hr_no hh.symm).symm
#print axioms pHead_ok
#print axioms rHead_ok
/-! its words -/
noncomputable def conB (l : List ByteArray) (v : ByteArray) : Bool := @decide (∃ j, j < l.length ∧ l.getD j default = v) (Classical.propDecidable _)
theorem con_t {l : List ByteArray} {v : ByteArray} (h : ∃ j, j < l.length ∧ l.getD j default = v) : true = conB l v := (@decide_eq_true _ (Classical.propDecidable _) h).symm
theorem con_f {l : List ByteArray} {v : ByteArray} (h : ¬ ∃ j, j < l.length ∧ l.getD j default = v) : false = conB l v := (@decide_eq_false _ (Classical.propDecidable _) h).symm
theorem con_of {l : List ByteArray} {v : ByteArray} (h : conB l v = true) : ∃ j, j < l.length ∧ l.getD j default = v := @of_decide_eq_true _ (Classical.propDecidable _) h
theorem con_no {l : List ByteArray} {v : ByteArray} (h : conB l v = false) : ¬ ∃ j, j < l.length ∧ l.getD j default = v := @of_decide_eq_false _ (Classical.propDecidable _) h
noncomputable def ctCon : Ct := { ι := List ByteArray, inp := fun l => [slD 1 strD l, .v (.string ⟨#[]⟩)], out := fun l => .v (.bool (conB l ⟨#[]⟩)), pre := fun l => l.length ≤ 1000000000000 }
noncomputable def cIdxS : Code := (Tryz.f201.body).getD .skip
noncomputable def Γcon (mx : Int) (pb : Bool) : Ctx := fun f => match f with
  | 201 => some (.gen (inlW true Γ0 Tryz.T (GlT mx pb) Tryz.f201 cIdxS))
  | _ => none
theorem Γcon_ok : CtxOk Tryz.prog (GlT mx pb) (Γcon mx pb) := by
  intro f h hh
  simp only [Γcon] at hh
  split at hh <;> simp at hh <;> subst hh
  · exact soundT_inlW Γ0_ok Tryz.T_ok Tryz.mixed Tryz.func201 rfl (by kernel_rfl)
set_option maxHeartbeats 4000000 in
theorem con_ok : Sound Tryz.prog (GlT mx pb) 156 ctCon := by
  refine sound_by (cc := true) Γcon_ok Tryz.T_ok Tryz.mixed Tryz.func156 rfl (by kernel_rfl) (fun _ => rfl) (fun _ _ => by show 2 ≤ 9; decide) ?_
  intro (l : List ByteArray) (hl : l.length ≤ 1000000000000)
  repeat' (first | refine gw ?_ | (refine br (fun q_ => ?_) (fun q_ => ?_) <;> try simp only [Int.toNat_natCast, Nat.mul_one, Nat.add_zero] at q_) | (refine brF (fun q_ => ?_) (fun q_ => ?_) <;> try simp only [Int.toNat_natCast, Nat.mul_one, Nat.add_zero] at q_))
  refine ⟨0, Nat, fun k => ⟨[(0, slD 1 strD l), (1, .v (.string ⟨#[]⟩)), (7, .v (.int .i64 l.length)), (8, .v (.int .i64 k))], [], []⟩, fun k => k ≤ l.length ∧ ∀ j, j < k → ¬ l.getD j default = ⟨#[]⟩, fun k => l.length - k, fun _ => Nat.zero_le _, ⟨0, ⟨Nat.zero_le _, fun j hj => by omega⟩, StLe.ren [] tmS trivial (by decide)⟩, ?_⟩
  rintro k ⟨hk, hd⟩
  by_cases hlt : k < l.length
  · by_cases he : l.getD k default = ⟨#[]⟩
    · have he' : (⟨#[]⟩ : ByteArray) = l.getD k default := he.symm
      repeat' (first | refine gw ?_ | (refine br (fun q_ => ?_) (fun q_ => ?_) <;> try simp only [Int.toNat_natCast, Nat.mul_one, Nat.add_zero] at q_) | (refine brF (fun q_ => ?_) (fun q_ => ?_) <;> try simp only [Int.toNat_natCast, Nat.mul_one, Nat.add_zero] at q_))
      all_goals first
        | exact EntR.bool (con_t ⟨k, hlt, he⟩)
        | exact absurd he' q_
    · have he' : ¬ (⟨#[]⟩ : ByteArray) = l.getD k default := fun h => he h.symm
      repeat' (first | refine gw ?_ | (refine br (fun q_ => ?_) (fun q_ => ?_) <;> try simp only [Int.toNat_natCast, Nat.mul_one, Nat.add_zero] at q_) | (refine brF (fun q_ => ?_) (fun q_ => ?_) <;> try simp only [Int.toNat_natCast, Nat.mul_one, Nat.add_zero] at q_))
      all_goals first
        | exact absurd q_ he'
        | exact ⟨k + 1, ⟨by omega, next_of hd he⟩, (by show _ - (k + 1) < _ - k; omega), StLe.ren [] tmS trivial (by decide)⟩
  · repeat' (first | refine gw ?_ | (refine br (fun q_ => ?_) (fun q_ => ?_) <;> try simp only [Int.toNat_natCast, Nat.mul_one, Nat.add_zero] at q_) | (refine brF (fun q_ => ?_) (fun q_ => ?_) <;> try simp only [Int.toNat_natCast, Nat.mul_one, Nat.add_zero] at q_))
    exact EntR.bool (con_f fun ⟨j, hj, he⟩ => hd j (by omega) he)
noncomputable def ctWd : Ct := { ι := ByteArray, inp := fun s => [.v (.string s)], out := fun s => .tu [slD 1 strD (wdN s), .v (.bool (wdB s))], pre := fun s => s.size ≤ 1000000 }
theorem wd_no {s : ByteArray} (h : ¬ wdOk s) : Ent (.tu [nilV, .v (.bool false)]) (ctWd.out s) := by
  show Ent _ (D.tu [slD 1 strD (wdN s), .v (.bool (wdB s))])
  rw [wdN, wd_f h]
  exact Ent.tu2 Ent.nil (Ent.refl _)
theorem wd_yes {s : ByteArray} (h : wdOk s) : ctWd.out s = .tu [slD 1 strD ((splB 32 s).drop 1), .v (.bool true)] := by
  show D.tu [slD 1 strD (wdN s), .v (.bool (wdB s))] = _
  rw [wdN, wd_t h, if_pos rfl]
  rfl
noncomputable def Γpw (mx : Int) (pb : Bool) : Ctx := fun f => match f with
  | 155 => some (.pure (ctSplitS ⟨#[32]⟩ 32))
  | 156 => some (.pure ctCon)
  | 76 => some (.pure ctCloneS)
  | _ => none
theorem Γpw_ok : CtxOk Tryz.prog (GlT mx pb) (Γpw mx pb) := by
  intro f h hh
  simp only [Γpw] at hh
  split at hh <;> simp at hh <;> subst hh
  · exact (splitS_ok _)
  · exact con_ok
  · exact cloneS_ok
set_option maxHeartbeats 4000000 in
theorem pWords_ok : Sound Tryz.prog (GlT mx pb) 91 ctWd := by
  refine sound_by (cc := true) Γpw_ok Tryz.T_ok Tryz.mixed Tryz.func91 rfl (by kernel_rfl) (fun _ => rfl) (fun _ _ => by show 1 ≤ 23; decide) ?_
  intro (s : ByteArray) (hs : s.size ≤ 1000000)
  obtain ⟨q1, q2, q3⟩ := splB_len (c := 32) (s := s)
  have p1 : (ctSplitS ⟨#[32]⟩ 32).pre s := (by show s.size ≤ 1000000000; omega)
  have p2 : ctCon.pre (splB 32 s) := (by show (splB 32 s).length ≤ _; omega)
  by_cases h1 : 2 ≤ (splB 32 s).length
  · by_cases h2 : (splB 32 s).getD 0 default = atB
    · rcases Bool.eq_false_or_eq_true (conB (splB 32 s) ⟨#[]⟩) with h3 | h3
      · repeat' (first | refine gw ?_ | (refine br (fun q_ => ?_) (fun q_ => ?_) <;> try simp only [Int.toNat_natCast, Nat.mul_one, Nat.add_zero] at q_) | (refine brF (fun q_ => ?_) (fun q_ => ?_) <;> try simp only [Int.toNat_natCast, Nat.mul_one, Nat.add_zero] at q_))
        exact EntR.of rfl (wd_no fun ⟨_, a2, a3⟩ => by
          obtain ⟨j, hj, e⟩ := con_of h3
          rcases Nat.eq_zero_or_pos j with h0 | h0
          · subst h0
            have : atB = (⟨#[]⟩ : ByteArray) := h2.symm.trans e
            exact absurd (congrArg ByteArray.size this) (by decide)
          · exact a3 j h0 hj e)
      · have ok : wdOk s := ⟨h1, h2, fun j h0 hj e => con_no h3 ⟨j, hj, e⟩⟩
        repeat' (first | refine gw ?_ | (refine br (fun q_ => ?_) (fun q_ => ?_) <;> try simp only [Int.toNat_natCast, Nat.mul_one, Nat.add_zero] at q_) | (refine brF (fun q_ => ?_) (fun q_ => ?_) <;> try simp only [Int.toNat_natCast, Nat.mul_one, Nat.add_zero] at q_))
        refine ⟨(splB 32 s).drop 1, EntL.cons ent_drop1 (EntL.refl _), (by show ((splB 32 s).drop 1).length ≤ _; rw [List.length_drop]; omega), ?_⟩
        repeat' (first | refine gw ?_ | (refine br (fun q_ => ?_) (fun q_ => ?_) <;> try simp only [Int.toNat_natCast, Nat.mul_one, Nat.add_zero] at q_) | (refine brF (fun q_ => ?_) (fun q_ => ?_) <;> try simp only [Int.toNat_natCast, Nat.mul_one, Nat.add_zero] at q_))
        exact entR_eq' (d' := ctWd.out s) rfl (wd_yes ok).symm
    · repeat' (first | refine gw ?_ | (refine br (fun q_ => ?_) (fun q_ => ?_) <;> try simp only [Int.toNat_natCast, Nat.mul_one, Nat.add_zero] at q_) | (refine brF (fun q_ => ?_) (fun q_ => ?_) <;> try simp only [Int.toNat_natCast, Nat.mul_one, Nat.add_zero] at q_))
      all_goals exact EntR.of rfl (wd_no fun ⟨_, a2, _⟩ => h2 a2)
  · repeat' (first | refine gw ?_ | (refine br (fun q_ => ?_) (fun q_ => ?_) <;> try simp only [Int.toNat_natCast, Nat.mul_one, Nat.add_zero] at q_) | (refine brF (fun q_ => ?_) (fun q_ => ?_) <;> try simp only [Int.toNat_natCast, Nat.mul_one, Nat.add_zero] at q_))
    all_goals exact EntR.of rfl (wd_no fun ⟨a1, _, _⟩ => h1 a1)
def ctSplit32 : Ct := { ι := ByteArray, inp := fun s => [.v (.string s), .v (.int .u8 32)], out := fun s => slD 1 strD (splB 32 s), pre := fun s => s.size ≤ 1000000000 }
theorem rSplit32_ok : Sound Tryz.prog (GlT mx pb) 117 ctSplit32 := sound_less rSplit_ok (fun s => (s, 32)) (fun _ => rfl) (fun _ h => h) (fun _ _ => rfl)
def Γrw : Ctx := fun f => match f with
  | 117 => some (.pure ctSplit32)
  | _ => none
theorem Γrw_ok : CtxOk Tryz.prog (GlT mx pb) Γrw := by
  intro f h hh
  simp only [Γrw] at hh
  split at hh <;> simp at hh <;> subst hh
  · exact rSplit32_ok
set_option maxHeartbeats 4000000 in
theorem rWords_ok : Sound Tryz.prog (GlT mx pb) 94 ctWd := by
  refine sound_by (cc := true) Γrw_ok Tryz.T_ok Tryz.mixed Tryz.func94 rfl (by kernel_rfl) (fun _ => rfl) (fun _ _ => by show 1 ≤ 30; decide) ?_
  intro (s : ByteArray) (hs : s.size ≤ 1000000)
  obtain ⟨q1, q2, q3⟩ := splB_len (c := 32) (s := s)
  have p1 : ctSplit32.pre s := (by show s.size ≤ 1000000000; omega)
  by_cases h1 : 2 ≤ (splB 32 s).length
  · by_cases h2 : (splB 32 s).getD 0 default = atB
    · repeat' (first | refine gw ?_ | (refine br (fun q_ => ?_) (fun q_ => ?_) <;> try simp only [Int.toNat_natCast, Nat.mul_one, Nat.add_zero] at q_) | (refine brF (fun q_ => ?_) (fun q_ => ?_) <;> try simp only [Int.toNat_natCast, Nat.mul_one, Nat.add_zero] at q_))
      refine ⟨0, Nat, fun k => ⟨[(4, slD 1 strD (splB 32 s)), (5, .v (.int .i64 k))], [], []⟩, fun k => 1 ≤ k ∧ k ≤ (splB 32 s).length ∧ ∀ j, 1 ≤ j → j < k → ¬ (splB 32 s).getD j default = ⟨#[]⟩, fun k => (splB 32 s).length - k, fun _ => Nat.zero_le _, ⟨1, ⟨Nat.le_refl _, by omega, fun j h1 h2 => by omega⟩, StLe.ren [] tmS trivial (by decide)⟩, ?_⟩
      rintro k ⟨hk0, hk, hd⟩
      by_cases hlt : k < (splB 32 s).length
      · by_cases he : (splB 32 s).getD k default = ⟨#[]⟩
        · repeat' (first | refine gw ?_ | (refine br (fun q_ => ?_) (fun q_ => ?_) <;> try simp only [Int.toNat_natCast, Nat.mul_one, Nat.add_zero] at q_) | (refine brF (fun q_ => ?_) (fun q_ => ?_) <;> try simp only [Int.toNat_natCast, Nat.mul_one, Nat.add_zero] at q_))
          exact EntR.of rfl (wd_no fun ⟨_, _, a3⟩ => a3 k hk0 hlt he)
        · repeat' (first | refine gw ?_ | (refine br (fun q_ => ?_) (fun q_ => ?_) <;> try simp only [Int.toNat_natCast, Nat.mul_one, Nat.add_zero] at q_) | (refine brF (fun q_ => ?_) (fun q_ => ?_) <;> try simp only [Int.toNat_natCast, Nat.mul_one, Nat.add_zero] at q_))
          refine ⟨k + 1, ⟨by omega, by omega, fun j h3 h4 => ?_⟩, (by show _ - (k + 1) < _ - k; omega), StLe.ren [] tmS trivial (by decide)⟩
          rcases Nat.lt_or_ge j k with h5 | h5
          · exact hd j h3 h5
          · rw [show j = k by omega]; exact he
      · have ok : wdOk s := ⟨h1, h2, fun j h0 hj => hd j h0 (by have : j < (splB 32 s).length := hj; omega)⟩
        repeat' (first | refine gw ?_ | (refine br (fun q_ => ?_) (fun q_ => ?_) <;> try simp only [Int.toNat_natCast, Nat.mul_one, Nat.add_zero] at q_) | (refine brF (fun q_ => ?_) (fun q_ => ?_) <;> try simp only [Int.toNat_natCast, Nat.mul_one, Nat.add_zero] at q_))
        refine EntR.of rfl ?_
        rw [wd_yes ok]
        exact Ent.tu2 ent_drop1 (Ent.refl _)
    · repeat' (first | refine gw ?_ | (refine br (fun q_ => ?_) (fun q_ => ?_) <;> try simp only [Int.toNat_natCast, Nat.mul_one, Nat.add_zero] at q_) | (refine brF (fun q_ => ?_) (fun q_ => ?_) <;> try simp only [Int.toNat_natCast, Nat.mul_one, Nat.add_zero] at q_))
      all_goals exact EntR.of rfl (wd_no fun ⟨_, a2, _⟩ => h2 a2)
  · repeat' (first | refine gw ?_ | (refine br (fun q_ => ?_) (fun q_ => ?_) <;> try simp only [Int.toNat_natCast, Nat.mul_one, Nat.add_zero] at q_) | (refine brF (fun q_ => ?_) (fun q_ => ?_) <;> try simp only [Int.toNat_natCast, Nat.mul_one, Nat.add_zero] at q_))
    all_goals exact EntR.of rfl (wd_no fun ⟨a1, _, _⟩ => h1 a1)
#print axioms pWords_ok
#print axioms rWords_ok
end Go.Proofs

namespace Go.Proofs
open Go Go.Sx
variable {mx : Int} {pb : Bool}

/-- The walk's step that leaves a drawn region to be told. -/
theorem gx {p q : Prop} (k : q) (h : q ∧ True → p := by intro hq; (first | refine wk1 ?_ | refine wk2 ?_ | refine wk3 ?_ | refine wt1 ?_ | refine wt2 ?_ | refine wt3 ?_ | refine wt4 ?_ | refine wca _ (EntL.refl _) ?_ | refine wcb _ (EntL.refl _) ?_ | refine bt1 ?_ | refine bt2 ?_ | refine bt3 ?_ | refine bt4 ?_ | refine wn1 ?_ | refine wn2 ?_ | refine wnb ?_ | refine wa ?_ | refine wn5 ?_); (repeat (first | refine wk1 ?_ | refine wk2 ?_ | refine wk3 ?_ | refine wt1 ?_ | refine wt2 ?_ | refine wt3 ?_ | refine wt4 ?_ | refine wca _ (EntL.refl _) ?_ | refine wcb _ (EntL.refl _) ?_ | refine bt1 ?_ | refine bt2 ?_ | refine bt3 ?_ | refine bt4 ?_ | refine wn1 ?_ | refine wn2 ?_ | refine wnb ?_ | refine wa ?_ | refine wn5 ?_)); exact hq.1) : p := h ⟨k, trivial⟩
/-! property.Parse -/
noncomputable def ctPrs : Ct := { ι := ByteArray, inp := fun s => [.v (.string s)], out := fun s => .tu [prA (prsO s).1, faultA (prsO s).2.1 (prsO s).2.2], pre := fun _ => True }
theorem prs_ret {s : ByteArray} {e a a' : Int} (h : prsO s = (⟨[], []⟩, e, a)) (ha : a' = a) : EntR (.tu [.ag [nilV, nilV], .ag [.v (.int .i64 e), .v (.int .i64 a')]]) (ctPrs.out s) := by
  refine EntR.of rfl ?_
  show Ent _ (D.tu [prA (prsO s).1, faultA (prsO s).2.1 (prsO s).2.2])
  rw [h, ha]
  exact Ent.tu2 (Ent.ag (EntL.cons Ent.nil (EntL.cons Ent.nil (EntL.refl _)))) (Ent.refl _)
theorem mp_fnd {l : List ByteArray} (h : namesB l = true) (b : ByteArray) : (fndB l b = true ∧ mpN l l.length (.s b) = some (.v (.int .i64 (fndV l b)))) ∨ (fndB l b = false ∧ mpN l l.length (.s b) = none) := by
  have hB := nmOk_of h
  by_cases hex : ∃ i, i < l.length ∧ l.getD i default = b
  · obtain ⟨i, hi, hie⟩ := hex
    have huni : ∀ j, j < l.length → j ≠ i → ¬ l.getD j default = b := fun j hj hji e => by
      rcases Nat.lt_or_ge j i with h1 | h1
      · exact (hB i hi).2 j h1 (e.trans hie.symm)
      · exact (hB j hj).2 i (by omega) (hie.trans e.symm)
    have e1 := mpN_at hie (k := l.length) (by omega) (fun j hj hji => huni j hj hji)
    have e := fnd_at hi (fun j hj => huni j (by omega) (by omega)) hie
    refine .inl ⟨by rw [fndB, e]; rfl, ?_⟩
    rw [e1, fndV, e]
  · have hno : ∀ j, j < l.length → ¬ l.getD j default = b := fun j hj e => hex ⟨j, hj, e⟩
    exact .inr ⟨by rw [fndB, fnd_no hno]; rfl, mpN_none hno⟩
theorem StLe.m2 {tm tm' : List (Nat × D)} {ow ow' : List Own} (h1 : renT [0, 1, 2] tm tm') (h2 : renO [0, 1, 2] ow [0, 1, 2] ow') : StLe 2 ⟨tm, ow, []⟩ ⟨tm', ow', []⟩ := StLe.renm [0, 1, 2] h1 h2 (by decide) (fun i hi => by match i, hi with | 0, _ => rfl | 1, _ => rfl) (by simp)
theorem one_of {x : Ln} (h : ¬ one1 x = true) : x.fields.length = 1 := by
  unfold one1 at h
  simpa using h
theorem one_no {x : Ln} (h : one1 x = true) : ¬ x.fields.length = 1 := by
  unfold one1 at h
  simpa using h
theorem unk_f {N : List ByteArray} {x : Ln} (h : fndB N (fld x) = true) : ¬ unk N x = true := by
  unfold unk
  rw [h]
  decide
theorem unk_t {N : List ByteArray} {x : Ln} (h : fndB N (fld x) = false) : unk N x = true := by
  unfold unk
  rw [h]
  rfl
theorem sps_snoc {N : List ByteArray} {L : List Ln} {k : Nat} (h : k < L.length) : spsOf N (L.take k) ++ [spOf N (L.getD k default)] = spsOf N (L.take (k + 1)) := by
  unfold spsOf
  rw [List.take_succ_eq_append_getElem h, List.map_append, List.getD_eq_getElem?_getD, List.getElem?_eq_getElem h]
  rfl
def prsOw (N : List ByteArray) (k : Nat) : List Own := [.cells 27 [nilV, nilV], z31, .map 9 3 .s (mpN N k)]
noncomputable def Γpps (mx : Int) (pb : Bool) : Ctx := fun f => match f with
  | 90 => some (.pure ctHdP)
  | 91 => some (.pure ctWd)
  | 69 => some (.gen (inlW true Γix Tryz.T (GlT mx pb) Tryz.f69 cIdx))
  | 92 => some (.pure ctLp)
  | 71 => some (.pure ctOv)
  | 27 => some (.pure ctMk)
  | _ => none
theorem Γpps_ok : CtxOk Tryz.prog (GlT mx pb) (Γpps mx pb) := by
  intro f h hh
  simp only [Γpps] at hh
  split at hh <;> simp at hh <;> subst hh
  · exact pHead_ok
  · exact pWords_ok
  · exact soundT_inlW Γix_ok Tryz.T_ok Tryz.mixed Tryz.func69 rfl (by kernel_rfl)
  · exact pLines_ok
  · exact pOv_ok
  · exact pMake_ok
set_option maxHeartbeats 8000000 in
theorem pParse_ok : Sound Tryz.prog (GlT mx pb) 38 ctPrs := by
  refine sound_by (cc := true) Γpps_ok Tryz.T_ok Tryz.mixed Tryz.func38 rfl (by kernel_rfl) (fun _ => rfl) (fun _ _ => by show 1 ≤ 141; decide) ?_
  intro (s : ByteArray) _
  by_cases hb : s.size > 65536
  · repeat' (first | refine gx ?_ | (refine br (fun q_ => ?_) (fun q_ => ?_) <;> try simp only [Int.toNat_natCast, Nat.mul_one, Nat.add_zero] at q_) | (refine brF (fun q_ => ?_) (fun q_ => ?_) <;> try simp only [Int.toNat_natCast, Nat.mul_one, Nat.add_zero] at q_))
    exact prs_ret (prs_big hb) rfl
  obtain ⟨d1, d2, d3, d4⟩ := hd_size s
  have p1 : ctHdP.pre s := (by show s.size ≤ _; omega)
  have p2 : ctWd.pre (hdA s) := (by show (hdA s).size ≤ _; omega)
  have p3 : ctLp.pre (hdZ s) := (by show (hdZ s).size ≤ _; omega)
  rcases Bool.eq_false_or_eq_true (wdB (hdA s)) with h1 | h1
  · have hN := wdN_len (hdA s)
    obtain ⟨g1, g2, g3, g4, g5, g6⟩ := linesP_ok (hdZ s)
    repeat' (first | refine gx ?_ | (refine br (fun q_ => ?_) (fun q_ => ?_) <;> try simp only [Int.toNat_natCast, Nat.mul_one, Nat.add_zero] at q_) | (refine brF (fun q_ => ?_) (fun q_ => ?_) <;> try simp only [Int.toNat_natCast, Nat.mul_one, Nat.add_zero] at q_))
    · exact prs_ret (prs_names hb h1 (names_len (.inr (by show 250 < (wdN (hdA s)).length; omega)))) rfl
    · refine ⟨0, Nat, fun k => ⟨[(4, .mp 2), (18, slD 1 strD (wdN (hdA s))), (19, .v (.int .i64 (wdN (hdA s)).length)), (20, .v (.int .i64 k))], prsOw (wdN (hdA s)) k, []⟩, fun k => k ≤ (wdN (hdA s)).length ∧ ∀ j, j < k → nmOk (wdN (hdA s)) j = true, fun k => (wdN (hdA s)).length - k, fun _ => (by show 2 ≤ 3; decide), ⟨0, ⟨Nat.zero_le _, fun j hj => by omega⟩, StLe.m2 tmS ⟨⟨rfl, EntL.refl _, rfl⟩, ⟨rfl, EntL.refl _, rfl⟩, ⟨rfl, rfl, rfl, fun _ => trivial⟩, trivial⟩⟩, ?_⟩
      rintro k ⟨hk, hd⟩
      unfold prsOw
      by_cases hlt : k < (wdN (hdA s)).length
      · by_cases hdup : ∃ j, j < k ∧ (wdN (hdA s)).getD j default = (wdN (hdA s)).getD k default
        · obtain ⟨i, hi⟩ := mpN_some hdup
          obtain ⟨j, hj, hje⟩ := hdup
          have hno := prs_names hb h1 (names_no hlt (nmOk_2 hj hje))
          repeat' (first | refine gx ?_ | (refine br (fun q_ => ?_) (fun q_ => ?_) <;> try simp only [Int.toNat_natCast, Nat.mul_one, Nat.add_zero] at q_) | (refine brF (fun q_ => ?_) (fun q_ => ?_) <;> try simp only [Int.toNat_natCast, Nat.mul_one, Nat.add_zero] at q_))
          refine ⟨fun d hdd => ?_, fun hnn => absurd (hi.symm.trans hnn) (by simp)⟩
          obtain rfl : d = .v (.int .i64 i) := Option.some.inj (hdd.symm.trans hi)
          repeat' (first | refine gx ?_ | (refine br (fun q_ => ?_) (fun q_ => ?_) <;> try simp only [Int.toNat_natCast, Nat.mul_one, Nat.add_zero] at q_) | (refine brF (fun q_ => ?_) (fun q_ => ?_) <;> try simp only [Int.toNat_natCast, Nat.mul_one, Nat.add_zero] at q_))
          all_goals exact prs_ret hno rfl
        · have hno : ∀ j, j < k → ¬ (wdN (hdA s)).getD j default = (wdN (hdA s)).getD k default := fun j hj e => hdup ⟨j, hj, e⟩
          have hi := mpN_none hno
          repeat' (first | refine gx ?_ | (refine br (fun q_ => ?_) (fun q_ => ?_) <;> try simp only [Int.toNat_natCast, Nat.mul_one, Nat.add_zero] at q_) | (refine brF (fun q_ => ?_) (fun q_ => ?_) <;> try simp only [Int.toNat_natCast, Nat.mul_one, Nat.add_zero] at q_))
          refine ⟨fun d hdd => absurd (hi.symm.trans hdd) (by simp), fun _ => ?_⟩
          repeat' (first | refine gx ?_ | (refine br (fun q_ => ?_) (fun q_ => ?_) <;> try simp only [Int.toNat_natCast, Nat.mul_one, Nat.add_zero] at q_) | (refine brF (fun q_ => ?_) (fun q_ => ?_) <;> try simp only [Int.toNat_natCast, Nat.mul_one, Nat.add_zero] at q_))
          · exact prs_ret (prs_names hb h1 (names_no hlt (nmOk_1 q_))) rfl
          · exact ⟨k + 1, ⟨by omega, next_of hd (nmOk_t q_ hno)⟩, (by show _ - (k + 1) < _ - k; omega), StLe.m2 tmS ⟨⟨rfl, EntL.refl _, rfl⟩, ⟨rfl, EntL.refl _, rfl⟩, ⟨rfl, rfl, rfl, fun key => by
              show OptRen [0, 1, 2] (if key = .s ((wdN (hdA s)).getD k default) then some (D.v (.int .i64 k)) else mpN (wdN (hdA s)) k key) (if key = .s ((wdN (hdA s)).getD k default) then some (D.v (.int .i64 k)) else mpN (wdN (hdA s)) k key)
              exact optRen_self (mpN_pd (wdN (hdA s)) (k + 1) key)⟩, trivial⟩⟩
      · obtain rfl : k = (wdN (hdA s)).length := by omega
        have h2 : namesB (wdN (hdA s)) = true := names_yes (by omega) (by omega) (fun i hi => hd i (by omega))
        by_cases h3 : (linesP (hdZ s)).2.1 = 0
        · repeat' (first | refine gx ?_ | (refine br (fun q_ => ?_) (fun q_ => ?_) <;> try simp only [Int.toNat_natCast, Nat.mul_one, Nat.add_zero] at q_) | (refine brF (fun q_ => ?_) (fun q_ => ?_) <;> try simp only [Int.toNat_natCast, Nat.mul_one, Nat.add_zero] at q_))
          refine ⟨0, Nat, fun k => ⟨[(2, .own 0 0), (3, .own 1 0), (5, .v (.int .i64 (hdN s))), (7, slD 1 strD (wdN (hdA s))), (9, .mp 2), (10, lnsD (linesP (hdZ s)).1), (69, lnsD (linesP (hdZ s)).1), (70, .v (.int .i64 (linesP (hdZ s)).1.length)), (71, .v (.int .i64 k))], prsOw (wdN (hdA s)) (wdN (hdA s)).length, []⟩, fun k => k ≤ (linesP (hdZ s)).1.length ∧ ∀ j, j < k → ¬ one1 ((linesP (hdZ s)).1.getD j default) = true, fun k => (linesP (hdZ s)).1.length - k, fun _ => Nat.zero_le _, ⟨0, ⟨Nat.zero_le _, fun j hj => by omega⟩, StLe.ren [0, 1, 2] tmS ⟨⟨rfl, EntL.refl _, rfl⟩, ⟨rfl, EntL.refl _, rfl⟩, ⟨rfl, rfl, rfl, fun key => optRen_self (mpN_pd _ _ key)⟩, trivial⟩ (by decide)⟩, ?_⟩
          clear hd hk hlt
          rintro k ⟨hk, hd⟩
          unfold prsOw
          by_cases hlt : k < (linesP (hdZ s)).1.length
          · have hnum := (g1 _ (mem_getD hlt)).2
            by_cases ho : one1 ((linesP (hdZ s)).1.getD k default) = true
            · have ho' := one_no ho
              have hr := prs_one hb h1 h2 h3 (find_at hlt hd ho)
              have hbd : True → fitsI64 (hdN s + ((linesP (hdZ s)).1.getD (k : Int).toNat default).num) := fun _ => by
                rw [Int.toNat_natCast]
                unfold fitsI64
                omega
              repeat' (first | refine gx ?_ | (refine br (fun q_ => ?_) (fun q_ => ?_) <;> try simp only [Int.toNat_natCast, Nat.mul_one, Nat.add_zero] at q_) | (refine brF (fun q_ => ?_) (fun q_ => ?_) <;> try simp only [Int.toNat_natCast, Nat.mul_one, Nat.add_zero] at q_))
              all_goals first
                | (exfalso; omega)
                | skip
              refine .inr ⟨.stage [0, 1, 2, 3, 4, 5] (.alt 6 [1, 2, 3, 4, 5] (.stage [] (.alt 7 [] (.done []) .nil)) .nil), by decide +kernel, ?_⟩
              refine And.intro hbd ?_
              refine And.intro rfl (And.intro rfl (And.intro rfl (And.intro rfl (And.intro (And.intro hbd rfl) (And.intro rfl ?_)))))
              refine And.intro rfl (And.intro rfl (And.intro rfl (And.intro (And.intro hbd rfl) (And.intro rfl ?_))))
              repeat' (first | refine gx ?_ | (refine br (fun q_ => ?_) (fun q_ => ?_) <;> try simp only [Int.toNat_natCast, Nat.mul_one, Nat.add_zero] at q_) | (refine brF (fun q_ => ?_) (fun q_ => ?_) <;> try simp only [Int.toNat_natCast, Nat.mul_one, Nat.add_zero] at q_))
              exact prs_ret hr rfl
            · have ho' := one_of ho
              repeat' (first | refine gx ?_ | (refine br (fun q_ => ?_) (fun q_ => ?_) <;> try simp only [Int.toNat_natCast, Nat.mul_one, Nat.add_zero] at q_) | (refine brF (fun q_ => ?_) (fun q_ => ?_) <;> try simp only [Int.toNat_natCast, Nat.mul_one, Nat.add_zero] at q_))
              · exfalso; omega
              repeat' (first | refine gx ?_ | (refine br (fun q_ => ?_) (fun q_ => ?_) <;> try simp only [Int.toNat_natCast, Nat.mul_one, Nat.add_zero] at q_) | (refine brF (fun q_ => ?_) (fun q_ => ?_) <;> try simp only [Int.toNat_natCast, Nat.mul_one, Nat.add_zero] at q_))
              exact ⟨k + 1, ⟨by omega, next_of hd ho⟩, (by show _ - (k + 1) < _ - k; omega), StLe.ren [0, 1, 2] tmS ⟨⟨rfl, EntL.refl _, rfl⟩, ⟨rfl, EntL.refl _, rfl⟩, ⟨rfl, rfl, rfl, fun key => optRen_self (mpN_pd _ _ key)⟩, trivial⟩ (by decide)⟩
          · have h4 : (plsP s).1.find? one1 = none := find_no (fun j hj => hd j (by have : j < (linesP (hdZ s)).1.length := hj; omega))
            have hone : ∀ j, j < (linesP (hdZ s)).1.length → ((linesP (hdZ s)).1.getD j default).fields.length = 1 := fun j hj => one_of (hd j (by omega))
            repeat' (first | refine gx ?_ | (refine br (fun q_ => ?_) (fun q_ => ?_) <;> try simp only [Int.toNat_natCast, Nat.mul_one, Nat.add_zero] at q_) | (refine brF (fun q_ => ?_) (fun q_ => ?_) <;> try simp only [Int.toNat_natCast, Nat.mul_one, Nat.add_zero] at q_))
            refine ⟨0, Nat × List Sp, fun | (k, acc) => ⟨[(2, .own 0 0), (3, .own 1 0), (5, .v (.int .i64 (hdN s))), (7, slD 1 strD (wdN (hdA s))), (9, .mp 2), (10, lnsD (linesP (hdZ s)).1), (14, .row 3), (86, lnsD (linesP (hdZ s)).1), (87, .v (.int .i64 (linesP (hdZ s)).1.length)), (88, .v (.int .i64 k))], prsOw (wdN (hdA s)) (wdN (hdA s)).length ++ [rowL 80 3 spD acc], []⟩, fun | (k, acc) => k ≤ (linesP (hdZ s)).1.length ∧ acc = spsOf (wdN (hdA s)) ((linesP (hdZ s)).1.take k) ∧ ∀ j, j < k → ¬ unk (wdN (hdA s)) ((linesP (hdZ s)).1.getD j default) = true, fun x => (linesP (hdZ s)).1.length - x.1, fun _ => Nat.zero_le _, ⟨(0, []), ⟨Nat.zero_le _, rfl, fun j hj => by omega⟩, StLe.trans (StLe.nilRow (t := 14) 80 3 (fun _ _ => .junk) rfl) (StLe.ren [0, 1, 2, 3] tmS ⟨⟨rfl, EntL.refl _, rfl⟩, ⟨rfl, EntL.refl _, rfl⟩, ⟨rfl, rfl, rfl, fun key => optRen_self (mpN_pd _ _ key)⟩, own_nil, trivial⟩ (by decide))⟩, ?_⟩
            clear hd hk hlt
            clear k
            rintro ⟨k, acc⟩ ⟨(hk : k ≤ (linesP (hdZ s)).1.length), (ha : acc = _), hd⟩
            unfold prsOw
            have hal : acc.length = k := by rw [ha, spsOf_len, List.length_take]; omega
            by_cases hlt : k < (linesP (hdZ s)).1.length
            · have hnum := (g1 _ (mem_getD hlt)).2
              have hone := hone k hlt
              have hst := sps_snoc (N := wdN (hdA s)) hlt
              rw [← ha] at hst
              rcases mp_fnd h2 (fld ((linesP (hdZ s)).1.getD k default)) with ⟨hf, hi⟩ | ⟨hf, hi⟩
              · have hfv := fnd_lt hf
                repeat' (first | refine gx ?_ | (refine br (fun q_ => ?_) (fun q_ => ?_) <;> try simp only [Int.toNat_natCast, Nat.mul_one, Nat.add_zero] at q_) | (refine brF (fun q_ => ?_) (fun q_ => ?_) <;> try simp only [Int.toNat_natCast, Nat.mul_one, Nat.add_zero] at q_))
                refine ⟨fun d hdd => ?_, fun hnn => absurd (hi.symm.trans hnn) (by simp)⟩
                obtain rfl : d = .v (.int .i64 (fndV (wdN (hdA s)) (fld ((linesP (hdZ s)).1.getD k default)))) := Option.some.inj (hdd.symm.trans hi)
                repeat' (first | refine gx ?_ | (refine br (fun q_ => ?_) (fun q_ => ?_) <;> try simp only [Int.toNat_natCast, Nat.mul_one, Nat.add_zero] at q_) | (refine brF (fun q_ => ?_) (fun q_ => ?_) <;> try simp only [Int.toNat_natCast, Nat.mul_one, Nat.add_zero] at q_))
                refine And.intro (show acc.length + 1 ≤ _ by omega) (And.intro (show (acc.length + 1) * 24 ≤ _ by omega) ?_)
                repeat' (first | refine gx ?_ | (refine br (fun q_ => ?_) (fun q_ => ?_) <;> try simp only [Int.toNat_natCast, Nat.mul_one, Nat.add_zero] at q_) | (refine brF (fun q_ => ?_) (fun q_ => ?_) <;> try simp only [Int.toNat_natCast, Nat.mul_one, Nat.add_zero] at q_))
                exact ⟨(k + 1, acc ++ [spOf (wdN (hdA s)) ((linesP (hdZ s)).1.getD k default)]), ⟨hlt, hst, next_of hd (unk_f hf)⟩, (by show _ - (k + 1) < _ - k; omega), StLe.ren [0, 1, 2, 5] tmS ⟨⟨rfl, EntL.refl _, rfl⟩, ⟨rfl, EntL.refl _, rfl⟩, ⟨rfl, rfl, rfl, fun key => optRen_self (mpN_pd _ _ key)⟩, own_app (fun j hj => match j, hj with | 0, _ => Ent.refl _ | 1, _ => Ent.refl _ | 2, _ => Ent.refl _), trivial⟩ (by decide)⟩
              · have hr := prs_unk hb h1 h2 h3 h4 (find_at hlt hd (unk_t hf))
                repeat' (first | refine gx ?_ | (refine br (fun q_ => ?_) (fun q_ => ?_) <;> try simp only [Int.toNat_natCast, Nat.mul_one, Nat.add_zero] at q_) | (refine brF (fun q_ => ?_) (fun q_ => ?_) <;> try simp only [Int.toNat_natCast, Nat.mul_one, Nat.add_zero] at q_))
                refine ⟨fun d hdd => absurd (hi.symm.trans hdd) (by simp), fun _ => ?_⟩
                have hbd : True → fitsI64 (hdN s + ((linesP (hdZ s)).1.getD (k : Int).toNat default).num) := fun _ => by
                  rw [Int.toNat_natCast]
                  unfold fitsI64
                  omega
                repeat' (first | refine gx ?_ | (refine br (fun q_ => ?_) (fun q_ => ?_) <;> try simp only [Int.toNat_natCast, Nat.mul_one, Nat.add_zero] at q_) | (refine brF (fun q_ => ?_) (fun q_ => ?_) <;> try simp only [Int.toNat_natCast, Nat.mul_one, Nat.add_zero] at q_))
                refine .inr ⟨.stage [0, 1, 2, 3, 4, 5] (.alt 6 [1, 2, 3, 4, 5] (.stage [] (.alt 7 [] (.done []) .nil)) .nil), by decide +kernel, ?_⟩
                refine And.intro hbd ?_
                refine And.intro rfl (And.intro rfl (And.intro rfl (And.intro rfl (And.intro (And.intro hbd rfl) (And.intro rfl ?_)))))
                refine And.intro rfl (And.intro rfl (And.intro rfl (And.intro (And.intro hbd rfl) (And.intro rfl ?_))))
                repeat' (first | refine gx ?_ | (refine br (fun q_ => ?_) (fun q_ => ?_) <;> try simp only [Int.toNat_natCast, Nat.mul_one, Nat.add_zero] at q_) | (refine brF (fun q_ => ?_) (fun q_ => ?_) <;> try simp only [Int.toNat_natCast, Nat.mul_one, Nat.add_zero] at q_))
                exact prs_ret hr rfl
            · have h5 : (plsP s).1.find? (unk (nmsP s)) = none := find_no (fun j hj => hd j (by have : j < (linesP (hdZ s)).1.length := hj; omega))
              have hall := spsOf_all h5
              obtain rfl : k = (linesP (hdZ s)).1.length := by omega
              rw [List.take_length] at ha
              have hall : allS (wdN (hdA s)).length acc := by rw [ha]; exact hall
              have p4 : ctOv.pre acc := ⟨by omega, fun i hi => (hall i hi).1⟩
              have p5 : ctMk.pre (wdN (hdA s), acc) := (by show acc.length ≤ 100000; omega)
              rcases ovI_cases acc with ⟨h7, he⟩ | ⟨i, hi, ho, hno, he⟩
              · have h6 : ¬ 0 ≤ ovI (spsOf (nmsP s) (plsP s).1) := by
                  have : ¬ 0 ≤ ovI acc := by omega
                  rw [ha] at this
                  exact this
                have hr := prs_ok hb h1 h2 h3 h4 h5 h6
                have h0 := mkE_ok h2 hall h7
                repeat' (first | refine gx ?_ | (refine br (fun q_ => ?_) (fun q_ => ?_) <;> try simp only [Int.toNat_natCast, Nat.mul_one, Nat.add_zero] at q_) | (refine brF (fun q_ => ?_) (fun q_ => ?_) <;> try simp only [Int.toNat_natCast, Nat.mul_one, Nat.add_zero] at q_))
                refine EntR.of rfl ?_
                show Ent _ (D.tu [prA (prsO s).1, faultA (prsO s).2.1 (prsO s).2.2])
                rw [hr, show spsOf (nmsP s) (plsP s).1 = acc from ha.symm]
                exact Ent.tu2 (Ent.refl _) (Ent.of_eq (by show D.ag [.v (.int .i64 (mkE (wdN (hdA s)) acc)), .v (.int .i64 0)] = _; rw [h0]; rfl))
              · have h6 : 0 ≤ ovI (spsOf (nmsP s) (plsP s).1) := by
                  have : 0 ≤ ovI acc := by omega
                  rw [ha] at this
                  exact this
                have hr := prs_ov hb h1 h2 h3 h4 h5 h6
                rw [show spsOf (nmsP s) (plsP s).1 = acc from ha.symm, show (plsP s).1 = (linesP (hdZ s)).1 from rfl] at hr
                have hib : (ovI acc).toNat < (linesP (hdZ s)).1.length := by rw [he]; simpa using (by omega)
                have hnum := (g1 _ (mem_getD hib)).2
                have h6' : 0 ≤ ovI acc := by omega
                have hbd : True → fitsI64 (hdN s + ((linesP (hdZ s)).1.getD (ovI acc).toNat default).num) := fun _ => by
                  unfold fitsI64
                  omega
                repeat' (first | refine gx ?_ | (refine br (fun q_ => ?_) (fun q_ => ?_) <;> try simp only [Int.toNat_natCast, Nat.mul_one, Nat.add_zero] at q_) | (refine brF (fun q_ => ?_) (fun q_ => ?_) <;> try simp only [Int.toNat_natCast, Nat.mul_one, Nat.add_zero] at q_))
                all_goals first
                  | (exfalso; omega)
                  | skip
                refine .inr ⟨.stage [0, 1, 2, 3, 4, 5, 6, 7, 8] (.alt 9 [1, 2, 3, 4, 5, 6, 7, 8] (.stage [] (.alt 10 [] (.done []) .nil)) .nil), by decide +kernel, ?_⟩
                have hix : True → (0 ≤ ovI acc ∧ ovI acc < (linesP (hdZ s)).1.length) := fun _ => ⟨h6', by omega⟩
                refine And.intro hix (And.intro hbd ?_)
                refine And.intro rfl (And.intro rfl (And.intro rfl (And.intro rfl (And.intro (And.intro hix rfl) (And.intro rfl (And.intro rfl (And.intro (And.intro hbd rfl) (And.intro rfl ?_))))))))
                refine And.intro rfl (And.intro rfl (And.intro rfl (And.intro (And.intro hix rfl) (And.intro rfl (And.intro rfl (And.intro (And.intro hbd rfl) (And.intro rfl ?_)))))))
                repeat' (first | refine gx ?_ | (refine br (fun q_ => ?_) (fun q_ => ?_) <;> try simp only [Int.toNat_natCast, Nat.mul_one, Nat.add_zero] at q_) | (refine brF (fun q_ => ?_) (fun q_ => ?_) <;> try simp only [Int.toNat_natCast, Nat.mul_one, Nat.add_zero] at q_))
                exact prs_ret hr rfl
        · have hr := prs_lines hb h1 h2 h3
          have hbd : True → fitsI64 (hdN s + (linesP (hdZ s)).2.2) := fun _ => by
            unfold fitsI64
            omega
          repeat' (first | refine gx ?_ | (refine br (fun q_ => ?_) (fun q_ => ?_) <;> try simp only [Int.toNat_natCast, Nat.mul_one, Nat.add_zero] at q_) | (refine brF (fun q_ => ?_) (fun q_ => ?_) <;> try simp only [Int.toNat_natCast, Nat.mul_one, Nat.add_zero] at q_))
          refine .inr ⟨.stage [0, 1, 2, 3, 4, 5, 6, 7] (.alt 8 [1, 2, 3, 4, 5, 6, 7] (.stage [] (.alt 9 [] (.done []) .nil)) .nil), by decide +kernel, ?_⟩
          refine And.intro hbd ?_
          refine And.intro rfl (And.intro rfl (And.intro rfl (And.intro rfl (And.intro rfl (And.intro rfl (And.intro (And.intro hbd rfl) (And.intro rfl ?_)))))))
          refine And.intro rfl (And.intro rfl (And.intro rfl (And.intro rfl (And.intro rfl (And.intro (And.intro hbd rfl) (And.intro rfl ?_))))))
          repeat' (first | refine gx ?_ | (refine br (fun q_ => ?_) (fun q_ => ?_) <;> try simp only [Int.toNat_natCast, Nat.mul_one, Nat.add_zero] at q_) | (refine brF (fun q_ => ?_) (fun q_ => ?_) <;> try simp only [Int.toNat_natCast, Nat.mul_one, Nat.add_zero] at q_))
          exact prs_ret hr rfl
    · exact prs_ret (prs_names hb h1 (names_len (.inl (by show (wdN (hdA s)).length < 1; omega)))) rfl
  · repeat' (first | refine gx ?_ | (refine br (fun q_ => ?_) (fun q_ => ?_) <;> try simp only [Int.toNat_natCast, Nat.mul_one, Nat.add_zero] at q_) | (refine brF (fun q_ => ?_) (fun q_ => ?_) <;> try simp only [Int.toNat_natCast, Nat.mul_one, Nat.add_zero] at q_))
    exact prs_ret (prs_words hb h1) rfl
#print axioms pParse_ok
end Go.Proofs

namespace Go.Proofs
open Go Go.Sx
variable {mx : Int} {pb : Bool}

/-! the twin's Parse -/
def fixI (l : List ByteArray) (v : ByteArray) : Int := if fndB l v = true then fndV l v else -1
def ctFix : Ct := { ι := List ByteArray × ByteArray, inp := fun x => [slD 1 strD x.1, .v (.string x.2)], out := fun x => .v (.int .i64 (fixI x.1 x.2)), pre := fun x => x.1.length ≤ 1000000000 }
set_option maxHeartbeats 4000000 in
theorem rFix_ok : Sound Tryz.prog (GlT mx pb) 95 ctFix := by
  refine sound_by (cc := true) Γ0_ok Tryz.T_ok Tryz.mixed Tryz.func95 rfl (by kernel_rfl) (fun _ => rfl) (fun _ _ => by show 2 ≤ 19; decide) ?_
  rintro ⟨(l : List ByteArray), (v : ByteArray)⟩ (hl : l.length ≤ 1000000000)
  repeat' (first | refine gw ?_ | (refine br (fun q_ => ?_) (fun q_ => ?_) <;> try simp only [Int.toNat_natCast, Nat.mul_one, Nat.add_zero] at q_) | (refine brF (fun q_ => ?_) (fun q_ => ?_) <;> try simp only [Int.toNat_natCast, Nat.mul_one, Nat.add_zero] at q_))
  refine ⟨0, Nat, fun k => ⟨[(0, slD 1 strD l), (1, .v (.string v)), (5, .v (.int .i64 k))], [], []⟩, fun k => k ≤ l.length ∧ ∀ j, j < k → ¬ l.getD j default = v, fun k => l.length - k, fun _ => Nat.zero_le _, ⟨0, ⟨Nat.zero_le _, fun j hj => by omega⟩, StLe.ren [] tmS trivial (by decide)⟩, ?_⟩
  rintro k ⟨hk, hd⟩
  by_cases hlt : k < l.length
  · by_cases he : l.getD k default = v
    · repeat' (first | refine gw ?_ | (refine br (fun q_ => ?_) (fun q_ => ?_) <;> try simp only [Int.toNat_natCast, Nat.mul_one, Nat.add_zero] at q_) | (refine brF (fun q_ => ?_) (fun q_ => ?_) <;> try simp only [Int.toNat_natCast, Nat.mul_one, Nat.add_zero] at q_))
      have e := fnd_at hlt hd he
      exact EntR.int (by show (k : Int) = fixI l v; rw [fixI, fndB, fndV, e]; rfl)
    · repeat' (first | refine gw ?_ | (refine br (fun q_ => ?_) (fun q_ => ?_) <;> try simp only [Int.toNat_natCast, Nat.mul_one, Nat.add_zero] at q_) | (refine brF (fun q_ => ?_) (fun q_ => ?_) <;> try simp only [Int.toNat_natCast, Nat.mul_one, Nat.add_zero] at q_))
      exact ⟨k + 1, ⟨by omega, next_of hd he⟩, (by show _ - (k + 1) < _ - k; omega), StLe.ren [] tmS trivial (by decide)⟩
  · repeat' (first | refine gw ?_ | (refine br (fun q_ => ?_) (fun q_ => ?_) <;> try simp only [Int.toNat_natCast, Nat.mul_one, Nat.add_zero] at q_) | (refine brF (fun q_ => ?_) (fun q_ => ?_) <;> try simp only [Int.toNat_natCast, Nat.mul_one, Nat.add_zero] at q_))
    have e := fnd_no (l := l) (n := v) (fun j hj => hd j (by omega))
    exact EntR.int (by show (-1 : Int) = fixI l v; rw [fixI, fndB, e]; rfl)
theorem headL_em : ∀ (l : List UInt8) (n : Int), (headL n l).1 = [] → (headL n l).2.1 = 1
  | [], _, _ => rfl
  | b :: l, n, h => by
    rw [headL] at h ⊢
    split
    · rename_i hb
      rw [if_pos hb] at h
      exact headL_em l _ h
    · rename_i hb
      rw [if_neg hb] at h
      have : (b != 10) = true := by simpa using hb
      rw [List.takeWhile_cons_of_pos (p := (· != 10)) this] at h
      exact absurd h (by simp)
theorem hdM_max (s : ByteArray) : max (hdM s) 1 = hdN s := by
  have h3 := (hd_size s).2.2.1
  unfold hdM
  split
  · rename_i h
    have e := emB_iff.1 h
    have : (headL 1 s.data.toList).1 = [] := congrArg (fun x : ByteArray => x.data.toList) e
    have := headL_em _ _ this
    unfold hdN at h3 ⊢
    omega
  · omega
theorem hdM_eq {s : ByteArray} (h : wdB (hdA s) = true) : hdM s = hdN s := by
  unfold hdM
  split
  · rename_i he
    rw [emB_iff.1 he] at h
    exact absurd (wd_iff.1 h).1 (by decide)
  · rfl
def prsOr : List Own := [.cells 27 [nilV, nilV], z31]
noncomputable def Γrps (mx : Int) (pb : Bool) : Ctx := fun f => match f with
  | 93 => some (.pure ctHdR)
  | 94 => some (.pure ctWd)
  | 77 => some (.pure ctNames)
  | 50 => some (.pure ctLp)
  | 95 => some (.pure ctFix)
  | 78 => some (.pure ctOvR)
  | 28 => some (.pure ctMk)
  | _ => none
theorem Γrps_ok : CtxOk Tryz.prog (GlT mx pb) (Γrps mx pb) := by
  intro f h hh
  simp only [Γrps] at hh
  split at hh <;> simp at hh <;> subst hh
  · exact rHead_ok
  · exact rWords_ok
  · exact rNames_ok
  · exact rLines_ok
  · exact rFix_ok
  · exact rOv_ok
  · exact rMake_ok
set_option maxHeartbeats 8000000 in
theorem rPrs_ok : Sound Tryz.prog (GlT mx pb) 39 ctPrs := by
  refine sound_by (cc := true) Γrps_ok Tryz.T_ok Tryz.mixed Tryz.func39 rfl (by kernel_rfl) (fun _ => rfl) (fun _ _ => by show 1 ≤ 163; decide) ?_
  intro (s : ByteArray) _
  by_cases hb : s.size > 65536
  · repeat' (first | refine gx ?_ | (refine br (fun q_ => ?_) (fun q_ => ?_) <;> try simp only [Int.toNat_natCast, Nat.mul_one, Nat.add_zero] at q_) | (refine brF (fun q_ => ?_) (fun q_ => ?_) <;> try simp only [Int.toNat_natCast, Nat.mul_one, Nat.add_zero] at q_))
    exact prs_ret (prs_big hb) rfl
  obtain ⟨d1, d2, d3, d4⟩ := hd_size s
  have p1 : ctHdR.pre s := (by show s.size ≤ _; omega)
  have p2 : ctWd.pre (hdA s) := (by show (hdA s).size ≤ _; omega)
  have p3 : ctLp.pre (hdZ s) := (by show (hdZ s).size ≤ _; omega)
  have hmx := hdM_max s
  rcases Bool.eq_false_or_eq_true (wdB (hdA s)) with h1 | h1
  · have hN := wdN_len (hdA s)
    have hM := hdM_eq h1
    obtain ⟨g1, g2, g3, g4, g5, g6⟩ := linesP_ok (hdZ s)
    rcases Bool.eq_false_or_eq_true (namesB (wdN (hdA s))) with h2 | h2
    · by_cases h3 : (linesP (hdZ s)).2.1 = 0
      · repeat' (first | refine gx ?_ | (refine br (fun q_ => ?_) (fun q_ => ?_) <;> try simp only [Int.toNat_natCast, Nat.mul_one, Nat.add_zero] at q_) | (refine brF (fun q_ => ?_) (fun q_ => ?_) <;> try simp only [Int.toNat_natCast, Nat.mul_one, Nat.add_zero] at q_))
        refine ⟨0, Nat, fun k => ⟨[(2, .own 0 0), (3, .own 1 0), (4, .v (.int .i64 (hdM s))), (7, slD 1 strD (wdN (hdA s))), (9, lnsD (linesP (hdZ s)).1), (11, .v (.int .i64 k))], prsOr, []⟩, fun k => k ≤ (linesP (hdZ s)).1.length ∧ ∀ j, j < k → ¬ one1 ((linesP (hdZ s)).1.getD j default) = true, fun k => (linesP (hdZ s)).1.length - k, fun _ => Nat.zero_le _, ⟨0, ⟨Nat.zero_le _, fun j hj => by omega⟩, StLe.ren [0, 1] tmS ⟨⟨rfl, EntL.refl _, rfl⟩, ⟨rfl, EntL.refl _, rfl⟩, trivial⟩ (by decide)⟩, ?_⟩
        rintro k ⟨hk, hd⟩
        unfold prsOr
        by_cases hlt : k < (linesP (hdZ s)).1.length
        · have hnum := (g1 _ (mem_getD hlt)).2
          by_cases ho : one1 ((linesP (hdZ s)).1.getD k default) = true
          · have ho' := one_no ho
            have hr : prsO s = (⟨[], []⟩, 3, hdN s + ((linesP (hdZ s)).1.getD k default).num) := prs_one hb h1 h2 h3 (find_at hlt hd ho)
            have hbd : True → fitsI64 (((linesP (hdZ s)).1.getD (k : Int).toNat default).num + hdM s) := fun _ => by
              rw [Int.toNat_natCast]
              unfold fitsI64
              omega
            have hix : True → (0 ≤ (k : Int) ∧ (k : Int) < (linesP (hdZ s)).1.length) := fun _ => ⟨by omega, by omega⟩
            repeat' (first | refine gx ?_ | (refine br (fun q_ => ?_) (fun q_ => ?_) <;> try simp only [Int.toNat_natCast, Nat.mul_one, Nat.add_zero] at q_) | (refine brF (fun q_ => ?_) (fun q_ => ?_) <;> try simp only [Int.toNat_natCast, Nat.mul_one, Nat.add_zero] at q_))
            all_goals first
              | (exfalso; omega)
              | skip
            refine .inr ⟨.stage [0, 1, 2, 3, 4, 5, 6, 7, 8] (.alt 9 [1, 2, 3, 4, 5, 6, 7, 8] (.stage [] (.alt 10 [] (.done []) .nil)) .nil), by decide +kernel, ?_⟩
            refine And.intro hix (And.intro hbd ?_)
            refine And.intro rfl (And.intro rfl (And.intro rfl (And.intro (And.intro hix rfl) (And.intro rfl (And.intro rfl (And.intro rfl (And.intro (And.intro hbd rfl) (And.intro rfl ?_))))))))
            refine And.intro rfl (And.intro rfl (And.intro (And.intro hix rfl) (And.intro rfl (And.intro rfl (And.intro rfl (And.intro (And.intro hbd rfl) (And.intro rfl ?_)))))))
            repeat' (first | refine gx ?_ | (refine br (fun q_ => ?_) (fun q_ => ?_) <;> try simp only [Int.toNat_natCast, Nat.mul_one, Nat.add_zero] at q_) | (refine brF (fun q_ => ?_) (fun q_ => ?_) <;> try simp only [Int.toNat_natCast, Nat.mul_one, Nat.add_zero] at q_))
            exact prs_ret hr (by simp only [Int.toNat_natCast]; omega)
          · have ho' := one_of ho
            repeat' (first | refine gx ?_ | (refine br (fun q_ => ?_) (fun q_ => ?_) <;> try simp only [Int.toNat_natCast, Nat.mul_one, Nat.add_zero] at q_) | (refine brF (fun q_ => ?_) (fun q_ => ?_) <;> try simp only [Int.toNat_natCast, Nat.mul_one, Nat.add_zero] at q_))
            · exfalso; omega
            repeat' (first | refine gx ?_ | (refine br (fun q_ => ?_) (fun q_ => ?_) <;> try simp only [Int.toNat_natCast, Nat.mul_one, Nat.add_zero] at q_) | (refine brF (fun q_ => ?_) (fun q_ => ?_) <;> try simp only [Int.toNat_natCast, Nat.mul_one, Nat.add_zero] at q_))
            exact ⟨k + 1, ⟨by omega, next_of hd ho⟩, (by show _ - (k + 1) < _ - k; omega), StLe.ren [0, 1] tmS ⟨⟨rfl, EntL.refl _, rfl⟩, ⟨rfl, EntL.refl _, rfl⟩, trivial⟩ (by decide)⟩
        · have h4 : (plsP s).1.find? one1 = none := find_no (fun j hj => hd j (by have : j < (linesP (hdZ s)).1.length := hj; omega))
          have hone : ∀ j, j < (linesP (hdZ s)).1.length → ((linesP (hdZ s)).1.getD j default).fields.length = 1 := fun j hj => one_of (hd j (by omega))
          repeat' (first | refine gx ?_ | (refine br (fun q_ => ?_) (fun q_ => ?_) <;> try simp only [Int.toNat_natCast, Nat.mul_one, Nat.add_zero] at q_) | (refine brF (fun q_ => ?_) (fun q_ => ?_) <;> try simp only [Int.toNat_natCast, Nat.mul_one, Nat.add_zero] at q_))
          refine ⟨0, Nat × List Sp, fun | (k, acc) => ⟨[(2, .own 0 0), (3, .own 1 0), (4, .v (.int .i64 (hdM s))), (7, slD 1 strD (wdN (hdA s))), (9, lnsD (linesP (hdZ s)).1), (12, .row 2), (13, .v (.int .i64 k))], prsOr ++ [rowL 80 3 spD acc], []⟩, fun | (k, acc) => k ≤ (linesP (hdZ s)).1.length ∧ acc = spsOf (wdN (hdA s)) ((linesP (hdZ s)).1.take k) ∧ ∀ j, j < k → ¬ unk (wdN (hdA s)) ((linesP (hdZ s)).1.getD j default) = true, fun x => (linesP (hdZ s)).1.length - x.1, fun _ => Nat.zero_le _, ⟨(0, []), ⟨Nat.zero_le _, rfl, fun j hj => by omega⟩, StLe.trans (StLe.nilRow (t := 12) 80 3 (fun _ _ => .junk) rfl) (StLe.ren [0, 1, 2] tmS ⟨⟨rfl, EntL.refl _, rfl⟩, ⟨rfl, EntL.refl _, rfl⟩, own_nil, trivial⟩ (by decide))⟩, ?_⟩
          clear hd hk hlt
          clear k
          rintro ⟨k, acc⟩ ⟨(hk : k ≤ (linesP (hdZ s)).1.length), (ha : acc = _), hd⟩
          unfold prsOr
          have hal : acc.length = k := by rw [ha, spsOf_len, List.length_take]; omega
          by_cases hlt : k < (linesP (hdZ s)).1.length
          · have hnum := (g1 _ (mem_getD hlt)).2
            have hone := hone k hlt
            have hst := sps_snoc (N := wdN (hdA s)) hlt
            rw [← ha] at hst
            have p4 : ctFix.pre (wdN (hdA s), fld ((linesP (hdZ s)).1.getD k default)) := (by show (wdN (hdA s)).length ≤ _; omega)
            rcases Bool.eq_false_or_eq_true (fndB (wdN (hdA s)) (fld ((linesP (hdZ s)).1.getD k default))) with hf | hf
            · have hfv := fnd_lt hf
              have e1 : fixI (wdN (hdA s)) (((linesP (hdZ s)).1.getD k default).fields.getD 0 default) = fndV (wdN (hdA s)) (fld ((linesP (hdZ s)).1.getD k default)) := if_pos hf
              have e2 : fixI (wdN (hdA s)) (fld ((linesP (hdZ s)).1.getD k default)) = fndV (wdN (hdA s)) (fld ((linesP (hdZ s)).1.getD k default)) := e1
              repeat' (first | refine gx ?_ | (refine br (fun q_ => ?_) (fun q_ => ?_) <;> try simp only [Int.toNat_natCast, Nat.mul_one, Nat.add_zero] at q_) | (refine brF (fun q_ => ?_) (fun q_ => ?_) <;> try simp only [Int.toNat_natCast, Nat.mul_one, Nat.add_zero] at q_))
              · exfalso; omega
              refine wo5 ?_
              repeat' (first | refine gx ?_ | (refine br (fun q_ => ?_) (fun q_ => ?_) <;> try simp only [Int.toNat_natCast, Nat.mul_one, Nat.add_zero] at q_) | (refine brF (fun q_ => ?_) (fun q_ => ?_) <;> try simp only [Int.toNat_natCast, Nat.mul_one, Nat.add_zero] at q_))
              refine And.intro (show acc.length + 1 ≤ _ by omega) (And.intro (show (acc.length + 1) * 24 ≤ _ by omega) ?_)
              repeat' (first | refine gx ?_ | (refine br (fun q_ => ?_) (fun q_ => ?_) <;> try simp only [Int.toNat_natCast, Nat.mul_one, Nat.add_zero] at q_) | (refine brF (fun q_ => ?_) (fun q_ => ?_) <;> try simp only [Int.toNat_natCast, Nat.mul_one, Nat.add_zero] at q_))
              exact ⟨(k + 1, acc ++ [spOf (wdN (hdA s)) ((linesP (hdZ s)).1.getD k default)]), ⟨hlt, hst, next_of hd (unk_f hf)⟩, (by show _ - (k + 1) < _ - k; omega), StLe.ren [0, 1, 3] tmS ⟨⟨rfl, EntL.refl _, rfl⟩, ⟨rfl, EntL.refl _, rfl⟩, own_app (fun j hj => match j, hj with | 0, _ => Ent.refl _ | 1, _ => Ent.refl _ | 2, _ => Ent.int e1), trivial⟩ (by decide)⟩
            · have hr : prsO s = (⟨[], []⟩, 6, hdN s + ((linesP (hdZ s)).1.getD k default).num) := prs_unk hb h1 h2 h3 h4 (find_at hlt hd (unk_t hf))
              have e1 : fixI (wdN (hdA s)) (((linesP (hdZ s)).1.getD k default).fields.getD 0 default) = -1 := if_neg (by rw [show ((linesP (hdZ s)).1.getD k default).fields.getD 0 default = fld ((linesP (hdZ s)).1.getD k default) from rfl, hf]; decide)
              have e2 : fixI (wdN (hdA s)) (fld ((linesP (hdZ s)).1.getD k default)) = -1 := e1
              have hbd : True → fitsI64 (((linesP (hdZ s)).1.getD (k : Int).toNat default).num + hdM s) := fun _ => by
                rw [Int.toNat_natCast]
                unfold fitsI64
                omega
              have hix : True → (0 ≤ (k : Int) ∧ (k : Int) < (linesP (hdZ s)).1.length) := fun _ => ⟨by omega, by omega⟩
              repeat' (first | refine gx ?_ | (refine br (fun q_ => ?_) (fun q_ => ?_) <;> try simp only [Int.toNat_natCast, Nat.mul_one, Nat.add_zero] at q_) | (refine brF (fun q_ => ?_) (fun q_ => ?_) <;> try simp only [Int.toNat_natCast, Nat.mul_one, Nat.add_zero] at q_))
              all_goals first
                | (exfalso; omega)
                | skip
              refine .inr ⟨.stage [0, 1, 2, 3, 4, 5, 6, 7, 8] (.alt 9 [1, 2, 3, 4, 5, 6, 7, 8] (.stage [] (.alt 10 [] (.done []) .nil)) .nil), by decide +kernel, ?_⟩
              refine And.intro hix (And.intro hbd ?_)
              refine And.intro rfl (And.intro rfl (And.intro rfl (And.intro (And.intro hix rfl) (And.intro rfl (And.intro rfl (And.intro rfl (And.intro (And.intro hbd rfl) (And.intro rfl ?_))))))))
              refine And.intro rfl (And.intro rfl (And.intro (And.intro hix rfl) (And.intro rfl (And.intro rfl (And.intro rfl (And.intro (And.intro hbd rfl) (And.intro rfl ?_)))))))
              repeat' (first | refine gx ?_ | (refine br (fun q_ => ?_) (fun q_ => ?_) <;> try simp only [Int.toNat_natCast, Nat.mul_one, Nat.add_zero] at q_) | (refine brF (fun q_ => ?_) (fun q_ => ?_) <;> try simp only [Int.toNat_natCast, Nat.mul_one, Nat.add_zero] at q_))
              exact prs_ret hr (by simp only [Int.toNat_natCast]; omega)
          · have h5 : (plsP s).1.find? (unk (nmsP s)) = none := find_no (fun j hj => hd j (by have : j < (linesP (hdZ s)).1.length := hj; omega))
            have hall := spsOf_all h5
            obtain rfl : k = (linesP (hdZ s)).1.length := by omega
            rw [List.take_length] at ha
            have hall : allS (wdN (hdA s)).length acc := by rw [ha]; exact hall
            have p5 : ctMk.pre (wdN (hdA s), acc) := (by show acc.length ≤ 100000; omega)
            have hsp : spsOf (nmsP s) (plsP s).1 = acc := ha.symm
            repeat' (first | refine gx ?_ | (refine br (fun q_ => ?_) (fun q_ => ?_) <;> try simp only [Int.toNat_natCast, Nat.mul_one, Nat.add_zero] at q_) | (refine brF (fun q_ => ?_) (fun q_ => ?_) <;> try simp only [Int.toNat_natCast, Nat.mul_one, Nat.add_zero] at q_))
            refine ⟨0, Nat, fun k => ⟨[(2, .own 0 0), (3, .own 1 0), (4, .v (.int .i64 (hdM s))), (7, slD 1 strD (wdN (hdA s))), (9, lnsD (linesP (hdZ s)).1), (12, .row 2), (15, .v (.int .i64 k))], prsOr ++ [rowL 80 3 spD acc], []⟩, fun k => k ≤ (linesP (hdZ s)).1.length ∧ ∀ i, i < k → ¬ ovAt acc i, fun k => (linesP (hdZ s)).1.length - k, fun _ => Nat.zero_le _, ⟨0, ⟨Nat.zero_le _, fun j hj => by omega⟩, StLe.ren [0, 1, 2] tmS ⟨⟨rfl, EntL.refl _, rfl⟩, ⟨rfl, EntL.refl _, rfl⟩, own_refl, trivial⟩ (by decide)⟩, ?_⟩
            clear hd hk hlt
            rintro k ⟨hk, hd⟩
            unfold prsOr
            by_cases hlt : k < (linesP (hdZ s)).1.length
            · have hnum := (g1 _ (mem_getD hlt)).2
              repeat' (first | refine gx ?_ | (refine br (fun q_ => ?_) (fun q_ => ?_) <;> try simp only [Int.toNat_natCast, Nat.mul_one, Nat.add_zero] at q_) | (refine brF (fun q_ => ?_) (fun q_ => ?_) <;> try simp only [Int.toNat_natCast, Nat.mul_one, Nat.add_zero] at q_))
              refine ⟨0, Nat, fun j => ⟨[(2, .own 0 0), (3, .own 1 0), (4, .v (.int .i64 (hdM s))), (7, slD 1 strD (wdN (hdA s))), (9, lnsD (linesP (hdZ s)).1), (12, .row 2), (15, .v (.int .i64 k)), (16, .v (.int .i64 j))], prsOr ++ [rowL 80 3 spD acc], []⟩, fun j => j ≤ k ∧ ∀ x, x < j → ¬ ovS (acc.getD x default) (acc.getD k default), fun j => k - j, fun _ => Nat.zero_le _, ⟨0, ⟨Nat.zero_le _, fun j hj => by omega⟩, StLe.ren [0, 1, 2] tmS ⟨⟨rfl, EntL.refl _, rfl⟩, ⟨rfl, EntL.refl _, rfl⟩, own_refl, trivial⟩ (by decide)⟩, ?_⟩
              rintro j ⟨hj, hdj⟩
              unfold prsOr
              by_cases hjk : j < k
              · repeat' (first | refine gx ?_ | (refine br (fun q_ => ?_) (fun q_ => ?_) <;> try simp only [Int.toNat_natCast, Nat.mul_one, Nat.add_zero] at q_) | (refine brF (fun q_ => ?_) (fun q_ => ?_) <;> try simp only [Int.toNat_natCast, Nat.mul_one, Nat.add_zero] at q_))
                refine wo5 ?_
                repeat' (first | refine gx ?_ | (refine br (fun q_ => ?_) (fun q_ => ?_) <;> try simp only [Int.toNat_natCast, Nat.mul_one, Nat.add_zero] at q_) | (refine brF (fun q_ => ?_) (fun q_ => ?_) <;> try simp only [Int.toNat_natCast, Nat.mul_one, Nat.add_zero] at q_))
                refine ⟨(acc.getD j default, acc.getD k default), EntL.refl _, fun _ => trivial, ?_⟩
                by_cases ho : ovS (acc.getD j default) (acc.getD k default)
                · rw [show ctOvR.out (acc.getD j default, acc.getD k default) = .v (.bool true) from congrArg (fun b => D.v (.bool b)) (decide_eq_true ho)]
                  have hov := ovI_at (l := acc) (i := k) (by omega) ⟨j, hjk, ho⟩ hd
                  have hr := prs_ov hb h1 h2 h3 h4 h5 (by rw [hsp, hov]; omega)
                  rw [hsp, hov, Int.toNat_natCast] at hr
                  have hr : prsO s = (⟨[], []⟩, 5, hdN s + ((linesP (hdZ s)).1.getD k default).num) := hr
                  have hbd : True → fitsI64 (((linesP (hdZ s)).1.getD (k : Int).toNat default).num + hdM s) := fun _ => by
                    rw [Int.toNat_natCast]
                    unfold fitsI64
                    omega
                  have hix : True → (0 ≤ (k : Int) ∧ (k : Int) < (linesP (hdZ s)).1.length) := fun _ => ⟨by omega, by omega⟩
                  repeat' (first | refine gx ?_ | (refine br (fun q_ => ?_) (fun q_ => ?_) <;> try simp only [Int.toNat_natCast, Nat.mul_one, Nat.add_zero] at q_) | (refine brF (fun q_ => ?_) (fun q_ => ?_) <;> try simp only [Int.toNat_natCast, Nat.mul_one, Nat.add_zero] at q_))
                  refine .inr ⟨.stage [0, 1, 2, 3, 4, 5, 6, 7, 8] (.alt 9 [1, 2, 3, 4, 5, 6, 7, 8] (.stage [] (.alt 10 [] (.done []) .nil)) .nil), by decide +kernel, ?_⟩
                  refine And.intro hix (And.intro hbd ?_)
                  refine And.intro rfl (And.intro rfl (And.intro rfl (And.intro (And.intro hix rfl) (And.intro rfl (And.intro rfl (And.intro rfl (And.intro (And.intro hbd rfl) (And.intro rfl ?_))))))))
                  refine And.intro rfl (And.intro rfl (And.intro (And.intro hix rfl) (And.intro rfl (And.intro rfl (And.intro rfl (And.intro (And.intro hbd rfl) (And.intro rfl ?_)))))))
                  repeat' (first | refine gx ?_ | (refine br (fun q_ => ?_) (fun q_ => ?_) <;> try simp only [Int.toNat_natCast, Nat.mul_one, Nat.add_zero] at q_) | (refine brF (fun q_ => ?_) (fun q_ => ?_) <;> try simp only [Int.toNat_natCast, Nat.mul_one, Nat.add_zero] at q_))
                  exact prs_ret hr (by simp only [Int.toNat_natCast]; omega)
                · rw [show ctOvR.out (acc.getD j default, acc.getD k default) = .v (.bool false) from congrArg (fun b => D.v (.bool b)) (decide_eq_false ho)]
                  repeat' (first | refine gx ?_ | (refine br (fun q_ => ?_) (fun q_ => ?_) <;> try simp only [Int.toNat_natCast, Nat.mul_one, Nat.add_zero] at q_) | (refine brF (fun q_ => ?_) (fun q_ => ?_) <;> try simp only [Int.toNat_natCast, Nat.mul_one, Nat.add_zero] at q_))
                  exact ⟨j + 1, ⟨by omega, next_of hdj ho⟩, (by show k - (j + 1) < k - j; omega), StLe.ren [0, 1, 2] tmS ⟨⟨rfl, EntL.refl _, rfl⟩, ⟨rfl, EntL.refl _, rfl⟩, own_refl, trivial⟩ (by decide)⟩
              · repeat' (first | refine gx ?_ | (refine br (fun q_ => ?_) (fun q_ => ?_) <;> try simp only [Int.toNat_natCast, Nat.mul_one, Nat.add_zero] at q_) | (refine brF (fun q_ => ?_) (fun q_ => ?_) <;> try simp only [Int.toNat_natCast, Nat.mul_one, Nat.add_zero] at q_))
                exact ⟨k + 1, ⟨by omega, next_of hd (fun ⟨x, hx, ho⟩ => hdj x (by omega) ho)⟩, (by show _ - (k + 1) < _ - k; omega), StLe.ren [0, 1, 2] tmS ⟨⟨rfl, EntL.refl _, rfl⟩, ⟨rfl, EntL.refl _, rfl⟩, own_refl, trivial⟩ (by decide)⟩
            · have hno : noOv acc := fun i hi => hd i (by omega)
              have hov := ovI_no hno
              have hr := prs_ok hb h1 h2 h3 h4 h5 (by rw [hsp, hov]; decide)
              have h0 := mkE_ok h2 hall hno
              repeat' (first | refine gx ?_ | (refine br (fun q_ => ?_) (fun q_ => ?_) <;> try simp only [Int.toNat_natCast, Nat.mul_one, Nat.add_zero] at q_) | (refine brF (fun q_ => ?_) (fun q_ => ?_) <;> try simp only [Int.toNat_natCast, Nat.mul_one, Nat.add_zero] at q_))
              refine EntR.of rfl ?_
              show Ent _ (D.tu [prA (prsO s).1, faultA (prsO s).2.1 (prsO s).2.2])
              rw [hr, hsp]
              exact Ent.tu2 (Ent.refl _) (Ent.refl _)
      · have hr : prsO s = (⟨[], []⟩, (linesP (hdZ s)).2.1, hdN s + (linesP (hdZ s)).2.2) := prs_lines hb h1 h2 h3
        have hbd : True → fitsI64 ((linesP (hdZ s)).2.2 + hdM s) := fun _ => by
          unfold fitsI64
          omega
        repeat' (first | refine gx ?_ | (refine br (fun q_ => ?_) (fun q_ => ?_) <;> try simp only [Int.toNat_natCast, Nat.mul_one, Nat.add_zero] at q_) | (refine brF (fun q_ => ?_) (fun q_ => ?_) <;> try simp only [Int.toNat_natCast, Nat.mul_one, Nat.add_zero] at q_))
        refine .inr ⟨.stage [0, 1, 2, 3, 4, 5, 6, 7] (.alt 8 [1, 2, 3, 4, 5, 6, 7] (.stage [] (.alt 9 [] (.done []) .nil)) .nil), by decide +kernel, ?_⟩
        refine And.intro hbd ?_
        refine And.intro rfl (And.intro rfl (And.intro rfl (And.intro rfl (And.intro rfl (And.intro rfl (And.intro (And.intro hbd rfl) (And.intro rfl ?_)))))))
        refine And.intro rfl (And.intro rfl (And.intro rfl (And.intro rfl (And.intro rfl (And.intro (And.intro hbd rfl) (And.intro rfl ?_))))))
        repeat' (first | refine gx ?_ | (refine br (fun q_ => ?_) (fun q_ => ?_) <;> try simp only [Int.toNat_natCast, Nat.mul_one, Nat.add_zero] at q_) | (refine brF (fun q_ => ?_) (fun q_ => ?_) <;> try simp only [Int.toNat_natCast, Nat.mul_one, Nat.add_zero] at q_))
        exact prs_ret hr (by omega)
    · have hr := prs_names hb h1 h2
      repeat' (first | refine gx ?_ | (refine br (fun q_ => ?_) (fun q_ => ?_) <;> try simp only [Int.toNat_natCast, Nat.mul_one, Nat.add_zero] at q_) | (refine brF (fun q_ => ?_) (fun q_ => ?_) <;> try simp only [Int.toNat_natCast, Nat.mul_one, Nat.add_zero] at q_))
      exact prs_ret hr (by omega)
  · repeat' (first | refine gx ?_ | (refine br (fun q_ => ?_) (fun q_ => ?_) <;> try simp only [Int.toNat_natCast, Nat.mul_one, Nat.add_zero] at q_) | (refine brF (fun q_ => ?_) (fun q_ => ?_) <;> try simp only [Int.toNat_natCast, Nat.mul_one, Nat.add_zero] at q_))
    exact prs_ret (prs_words hb h1) (by omega)
#print axioms rPrs_ok
end Go.Proofs
