import Derived.Test.YtfalaomjfkaphaaGreatDoorTz
import Derived.Test.YtfalaomjfkaphaaGreatDoorBu
set_option linter.unusedVariables false
set_option linter.unusedSimpArgs false
namespace Go.Proofs
open Go Go.Sx
variable {mx : Int} {pb : Bool}

noncomputable def cBLen : Code := (Tryz.f47.body).getD .skip
noncomputable def Γjn (mx : Int) (pb : Bool) : Ctx := fun f => match f with
  | 47 => some (.gen (inlW true Γ0 Tryz.T (GlT mx pb) Tryz.f47 cBLen))
  | 48 => some (.gen (inlW true (Γbw mx pb) Tryz.T (GlT mx pb) Tryz.f48 cWByte))
  | 49 => some (.gen (inlW true (Γbw mx pb) Tryz.T (GlT mx pb) Tryz.f49 cWStr))
  | 50 => some (.gen (inlW true Γ0 Tryz.T (GlT mx pb) Tryz.f50 cBStr))
  | _ => none
theorem Γjn_ok : CtxOk Tryz.prog (GlT mx pb) (Γjn mx pb) := by
  intro f h hh
  simp only [Γjn] at hh
  split at hh <;> simp at hh <;> subst hh
  · exact soundT_inlW Γ0_ok Tryz.T_ok Tryz.mixed Tryz.func47 rfl (by kernel_rfl)
  · exact soundT_inlW Γbw_ok Tryz.T_ok Tryz.mixed Tryz.func48 rfl (by kernel_rfl)
  · exact soundT_inlW Γbw_ok Tryz.T_ok Tryz.mixed Tryz.func49 rfl (by kernel_rfl)
  · exact soundT_inlW Γ0_ok Tryz.T_ok Tryz.mixed Tryz.func50 rfl (by kernel_rfl)

theorem wa1 {n : Nat} {q : Prop} (k : q) (h : Nat.ble 1 n = true := by kernel_rfl) : 1 ≤ n ∧ q := ⟨Nat.le_of_ble_eq_true h, k⟩
theorem wa2 {n : Nat} {q : Prop} (k : q) (h : Nat.ble 2 n = true := by kernel_rfl) : 2 ≤ n ∧ q := ⟨Nat.le_of_ble_eq_true h, k⟩
theorem wgT {x y p : Prop} {c : Bool} (e : c = true) (h : x) : (p → x) ∧ (c = false → y) := ⟨fun _ => h, fun f => by rw [e] at f; exact Bool.noConfusion f⟩
theorem wgF {x y p : Prop} {c : Bool} (e : c = false) (h : y) : (c = true → x) ∧ (p → y) := ⟨fun f => by rw [e] at f; exact Bool.noConfusion f, fun _ => h⟩

/-! mapping.join of two words -/
def jn2 (a b : ByteArray) : ByteArray := if b ≠ ⟨#[]⟩ ∧ 0 < a.size then bcat (bcat a spB) b else bcat a b
def ctJn : Ct := { ι := ByteArray × ByteArray, inp := fun x => [slD 1 strD [x.1, x.2]], out := fun x => .v (.string (jn2 x.1 x.2)), pre := fun x => x.1.size ≤ 10000000 ∧ x.2.size ≤ 10000000 }
def jnSt (a b : ByteArray) : Nat → St
  | 0 => ⟨[(3, .own 0 0), (6, slD 1 strD [a, b]), (7, .v (.int .i64 2)), (8, .v (.int .i64 0))], [.cells 93 [.v (.pointer none), .v (.slice none 0 0)]], []⟩
  | 1 => ⟨[(3, .own 0 0), (6, slD 1 strD [a, b]), (7, .v (.int .i64 2)), (8, .v (.int .i64 1))], [.cells 93 [.own 0 0, .row 1], .bytes 5 a], []⟩
  | k + 2 => ⟨[(3, .own 0 0), (6, slD 1 strD [a, b]), (7, .v (.int .i64 2)), (8, .v (.int .i64 2))], [.cells 93 [.own 0 0, .row 1], .bytes 5 (jn2 a b)], []⟩
set_option maxHeartbeats 1000000 in
/-- mapping.join. -/
theorem jn_ok : Sound Tryz.prog (GlT mx pb) 25 ctJn := by
  refine sound_by (cc := true) Γjn_ok Tryz.T_ok Tryz.mixed Tryz.func25 rfl (by kernel_rfl) (fun _ => rfl) (fun _ _ => by show 1 ≤ 23; decide) ?_
  rintro ⟨a, b⟩ ⟨ha, hb⟩
  have ha : a.size ≤ 10000000 := ha
  have hb : b.size ≤ 10000000 := hb
  refine gA ?_
  refine ⟨0, Nat, jnSt a b, fun k => k ≤ 2, fun k => 2 - k, fun _ => Nat.zero_le _, ⟨0, Nat.zero_le _, StLe.of tmS (by repeat' (first | exact trivial | exact EntL.refl _ | exact rfl | refine And.intro ?_ ?_))⟩, ?_⟩
  intro k hk
  match k, hk with
  | 0, _ =>
    refine gA ?_
    refine And.intro (show (0 : Int) ≤ 0 ∧ (0 : Int) < 2 by decide) ?_
    refine gA ?_
    rcases Bool.eq_false_or_eq_true (!@decide (a = ⟨#[]⟩) (baDec a ⟨#[]⟩)) with hc | hc
    · repeat first | refine wk1 ?_ | refine wk2 ?_ | refine wk3 ?_ | refine wt1 ?_ | refine wt2 ?_ | refine wt3 ?_ | refine wt4 ?_ | refine wgT hc ?_ | refine wgF hc ?_ | refine wa1 ?_ | refine wa2 ?_ | refine wn1 ?_ | refine wn2 ?_ | refine wn3 ?_ | refine wn4 ?_ | refine wn5 ?_ | refine wo5 ?_
      refine And.intro (show a.size ≤ 9223372036854775807 by omega) (And.intro (show a.size * 1 ≤ 140737488355328 by omega) ?_)
      repeat first | refine wk1 ?_ | refine wk2 ?_ | refine wk3 ?_ | refine wt1 ?_ | refine wt2 ?_ | refine wt3 ?_ | refine wt4 ?_ | refine wgT hc ?_ | refine wgF hc ?_ | refine wa1 ?_ | refine wa2 ?_ | refine wn1 ?_ | refine wn2 ?_ | refine wn3 ?_ | refine wn4 ?_ | refine wn5 ?_ | refine wo5 ?_
      exact ⟨1, (show 1 ≤ 2 by decide), (show 2 - 1 < 2 - 0 by decide), StLe.ren [0, 1] tmS (by repeat' (first | exact trivial | exact EntL.refl _ | exact rfl | refine And.intro ?_ ?_)) (by decide)⟩
    · repeat first | refine wk1 ?_ | refine wk2 ?_ | refine wk3 ?_ | refine wt1 ?_ | refine wt2 ?_ | refine wt3 ?_ | refine wt4 ?_ | refine wgT hc ?_ | refine wgF hc ?_ | refine wa1 ?_ | refine wa2 ?_ | refine wn1 ?_ | refine wn2 ?_ | refine wn3 ?_ | refine wn4 ?_ | refine wn5 ?_ | refine wo5 ?_
      refine And.intro (show a.size ≤ 9223372036854775807 by omega) (And.intro (show a.size * 1 ≤ 140737488355328 by omega) ?_)
      repeat first | refine wk1 ?_ | refine wk2 ?_ | refine wk3 ?_ | refine wt1 ?_ | refine wt2 ?_ | refine wt3 ?_ | refine wt4 ?_ | refine wgT hc ?_ | refine wgF hc ?_ | refine wa1 ?_ | refine wa2 ?_ | refine wn1 ?_ | refine wn2 ?_ | refine wn3 ?_ | refine wn4 ?_ | refine wn5 ?_ | refine wo5 ?_
      exact ⟨1, (show 1 ≤ 2 by decide), (show 2 - 1 < 2 - 0 by decide), StLe.ren [0, 1] tmS (by repeat' (first | exact trivial | exact EntL.refl _ | exact rfl | refine And.intro ?_ ?_)) (by decide)⟩
  | 1, _ =>
    refine gA ?_
    refine And.intro (show (0 : Int) ≤ 1 ∧ (1 : Int) < 2 by decide) ?_
    refine gA ?_
    rcases Bool.eq_false_or_eq_true (!@decide (b = ⟨#[]⟩) (baDec b ⟨#[]⟩)) with hc | hc
    · rcases Bool.eq_false_or_eq_true (decide ((0 : Int) < a.size)) with hd | hd
      · have e2 : jn2 a b = bcat (bcat a spB) b := if_pos ⟨by simpa using hc, by have := of_decide_eq_true hd; omega⟩
        repeat first | refine wk1 ?_ | refine wk2 ?_ | refine wk3 ?_ | refine wt1 ?_ | refine wt2 ?_ | refine wt3 ?_ | refine wt4 ?_ | refine wgT hc ?_ | refine wgF hc ?_ | refine wgT hd ?_ | refine wgF hd ?_ | refine wa1 ?_ | refine wa2 ?_ | refine wn1 ?_ | refine wn2 ?_ | refine wn3 ?_ | refine wn4 ?_ | refine wn5 ?_ | refine wo5 ?_
        refine And.intro (show (bcat a spB).size + b.size ≤ 9223372036854775807 by rw [bcat_size, show spB.size = 1 from rfl]; omega) (And.intro (show ((bcat a spB).size + b.size) * 1 ≤ 140737488355328 by rw [bcat_size, show spB.size = 1 from rfl]; omega) ?_)
        repeat first | refine wk1 ?_ | refine wk2 ?_ | refine wk3 ?_ | refine wt1 ?_ | refine wt2 ?_ | refine wt3 ?_ | refine wt4 ?_ | refine wgT hc ?_ | refine wgF hc ?_ | refine wgT hd ?_ | refine wgF hd ?_ | refine wa1 ?_ | refine wa2 ?_ | refine wn1 ?_ | refine wn2 ?_ | refine wn3 ?_ | refine wn4 ?_ | refine wn5 ?_ | refine wo5 ?_
        refine ⟨2, (show 2 ≤ 2 by decide), (show 2 - 2 < 2 - 1 by decide), ?_⟩
        unfold jnSt
        rw [e2]
        exact StLe.ren [0, 3] tmS (by repeat' (first | exact trivial | exact EntL.refl _ | exact rfl | refine And.intro ?_ ?_)) (by decide)
      · have e2 : jn2 a b = bcat a b := if_neg fun h => by have := of_decide_eq_false hd; omega
        repeat first | refine wk1 ?_ | refine wk2 ?_ | refine wk3 ?_ | refine wt1 ?_ | refine wt2 ?_ | refine wt3 ?_ | refine wt4 ?_ | refine wgT hc ?_ | refine wgF hc ?_ | refine wgT hd ?_ | refine wgF hd ?_ | refine wa1 ?_ | refine wa2 ?_ | refine wn1 ?_ | refine wn2 ?_ | refine wn3 ?_ | refine wn4 ?_ | refine wn5 ?_ | refine wo5 ?_
        refine And.intro (show a.size + b.size ≤ 9223372036854775807 by omega) (And.intro (show (a.size + b.size) * 1 ≤ 140737488355328 by omega) ?_)
        repeat first | refine wk1 ?_ | refine wk2 ?_ | refine wk3 ?_ | refine wt1 ?_ | refine wt2 ?_ | refine wt3 ?_ | refine wt4 ?_ | refine wgT hc ?_ | refine wgF hc ?_ | refine wgT hd ?_ | refine wgF hd ?_ | refine wa1 ?_ | refine wa2 ?_ | refine wn1 ?_ | refine wn2 ?_ | refine wn3 ?_ | refine wn4 ?_ | refine wn5 ?_ | refine wo5 ?_
        refine ⟨2, (show 2 ≤ 2 by decide), (show 2 - 2 < 2 - 1 by decide), ?_⟩
        unfold jnSt
        rw [e2]
        exact StLe.ren [0, 2] tmS (by repeat' (first | exact trivial | exact EntL.refl _ | exact rfl | refine And.intro ?_ ?_)) (by decide)
    · have e2 : jn2 a b = bcat a b := if_neg fun h => h.1 (by simpa using hc)
      repeat first | refine wk1 ?_ | refine wk2 ?_ | refine wk3 ?_ | refine wt1 ?_ | refine wt2 ?_ | refine wt3 ?_ | refine wt4 ?_ | refine wgT hc ?_ | refine wgF hc ?_ | refine wa1 ?_ | refine wa2 ?_ | refine wn1 ?_ | refine wn2 ?_ | refine wn3 ?_ | refine wn4 ?_ | refine wn5 ?_ | refine wo5 ?_
      refine And.intro (show a.size + b.size ≤ 9223372036854775807 by omega) (And.intro (show (a.size + b.size) * 1 ≤ 140737488355328 by omega) ?_)
      repeat first | refine wk1 ?_ | refine wk2 ?_ | refine wk3 ?_ | refine wt1 ?_ | refine wt2 ?_ | refine wt3 ?_ | refine wt4 ?_ | refine wgT hc ?_ | refine wgF hc ?_ | refine wa1 ?_ | refine wa2 ?_ | refine wn1 ?_ | refine wn2 ?_ | refine wn3 ?_ | refine wn4 ?_ | refine wn5 ?_ | refine wo5 ?_
      refine ⟨2, (show 2 ≤ 2 by decide), (show 2 - 2 < 2 - 1 by decide), ?_⟩
      unfold jnSt
      rw [e2]
      exact StLe.ren [0, 2] tmS (by repeat' (first | exact trivial | exact EntL.refl _ | exact rfl | refine And.intro ?_ ?_)) (by decide)
  | 2, _ =>
    refine gA ?_
    repeat first | refine wk1 ?_ | refine wk2 ?_ | refine wk3 ?_ | refine wt1 ?_ | refine wt2 ?_ | refine wt3 ?_ | refine wt4 ?_ | refine wa1 ?_ | refine wa2 ?_ | refine wn1 ?_ | refine wn2 ?_ | refine wn3 ?_ | refine wn4 ?_ | refine wn5 ?_ | refine wo5 ?_
    exact EntR.str rfl
end Go.Proofs
