import Derived.Test.YtnegdnbodccgkaaGreatDoorFp0z
set_option linter.unusedVariables false
set_option linter.unusedSimpArgs false
namespace Go.Proofs
open Go Go.Sx
variable {mx : Int} {pb : Bool}

/-! versions.compare: the inner loop -/
def sI13x14 (a : Fl) (x : Pc) : Int × List Pc × List Ch → St
  | (lo, rest, out) => ⟨[(4, nilV), (5, .own 2 0), (6, .own 3 0), (7, .own 9 0), (8, .own 14 0), (9, .v (.int .i64 lo))], [flO a, .gone, .cells 42 [.row 15], fnC, .gone, .gone, .gone, .gone, .gone, .cells 95 [slD 3 pcD rest], flO a, .defd, .lp .busy none, .gone, .cells 184 (pcL x), rowL 49 5 chD out], []⟩
theorem StLe.i13x14 {tm tm' : List (Nat × D)} {ow ow' : List Own} {n : Nat} (hn : [0, 1, 2, 3, 4, 5, 6, 7, 8, 9, 10, 11, 12, 13, 14, n].Nodup) (h1 : renT [0, 1, 2, 3, 4, 5, 6, 7, 8, 9, 10, 11, 12, 13, 14, n] tm tm') (h2 : renO [0, 1, 2, 3, 4, 5, 6, 7, 8, 9, 10, 11, 12, 13, 14, n] ow [0, 1, 2, 3, 4, 5, 6, 7, 8, 9, 10, 11, 12, 13, 14, n] ow') : StLe 14 ⟨tm, ow, []⟩ ⟨tm', ow', []⟩ :=
  StLe.renm [0, 1, 2, 3, 4, 5, 6, 7, 8, 9, 10, 11, 12, 13, 14, n] h1 h2 hn (fun i hi => by
    match i, hi with
    | 0, _ => rfl
    | 1, _ => rfl
    | 2, _ => rfl
    | 3, _ => rfl
    | 4, _ => rfl
    | 5, _ => rfl
    | 6, _ => rfl
    | 7, _ => rfl
    | 8, _ => rfl
    | 9, _ => rfl
    | 10, _ => rfl
    | 11, _ => rfl
    | 12, _ => rfl
    | 13, _ => rfl
    | i + 14, h => exact absurd (show i + 14 < 14 from h) (by omega)) (by simp)
set_option maxHeartbeats 16000000 in
theorem in13x14 {Y : Ys} {s : St} {k : Exit → St → Prop} (a b : Fl) (x : Pc) (rest : List Pc) (hx0 : 0 ≤ x.lo) (hx1 : x.hi ≤ 1114111) (hxl : x.lo ≤ x.hi + 1) (hva : ∀ c, x.lo ≤ c → c ≤ x.hi → flV a c = x.s)
    (hT : Tiles (flV b) x.lo rest) (hrl : rest.length ≤ 1000000) (hs : StLe 14 s (sI13x14 a x (x.lo, rest, chB a.what (flV a) (flV b) x.lo)))
    (hk : ∀ tm rest', Tiles (flV b) (x.hi + 1) rest' → rest'.length ≤ 1000000 → k (.exit 2) ⟨tm, (sI13x14 a x (x.hi + 1, rest', chB a.what (flV a) (flV b) (x.hi + 1))).ow, []⟩) :
    stepEx (Wk true (Γpc mx pb) Tryz.T (GlT mx pb) 50) (WkO true (Γpc mx pb) Tryz.T (GlT mx pb) 50) (WkP true (Γpc mx pb) Tryz.T (GlT mx pb) 50) (Γpc mx pb) Tryz.T (GlT mx pb) 50 cIn Y 14 true s k := by
  refine ⟨0, Int × List Pc × List Ch, sI13x14 a x, InInv a b x, fun i => (x.hi + 1 - i.1).toNat, fun _ => (by show 14 ≤ 16; decide), ⟨_, ⟨Int.le_refl _, hxl, hT, hrl, rfl⟩, hs⟩, ?_⟩
  rintro ⟨lo, rest, out⟩ ⟨h1, h2, h3, h4, h5⟩
  have h1 : x.lo ≤ lo := h1
  have h2 : lo ≤ x.hi + 1 := h2
  have h3 : Tiles (flV b) lo rest := h3
  have h4 : rest.length ≤ 1000000 := h4
  have h5 : out = chB a.what (flV a) (flV b) lo := h5
  clear hs hT hrl
  by_cases hlt : lo ≤ x.hi
  · obtain ⟨t0, t1, t2, t3, t4, t5⟩ := tiles_at h3 (by omega)
    have hol : out.length ≤ 1114112 := by rw [h5]; exact chB_len _ _ _ (by omega)
    have hoe := in_last (show lo ≤ 1114112 by omega) h5
    have ek : ((out.length : Int) - 1).toNat = out.length - 1 := by omega
    have z1 : (rest.getD (Int.toNat 0) default).hi = (rest.getD 0 default).hi := rfl
    by_cases hm : (rest.getD 0 default).hi ≤ x.hi
    · have nx := in_one hx0 hva h1 t2 hm t4 h5
      have em : min x.hi (rest.getD (Int.toNat 0) default).hi = (rest.getD 0 default).hi := by omega
      clear h3 h5 hva hk
      by_cases hq : x.s = (rest.getD (Int.toNat 0) default).s
      · refine gn ?_
        exact ⟨((rest.getD 0 default).hi + 1, rest.drop 1, out), ⟨(by show x.lo ≤ (rest.getD 0 default).hi + 1; omega), (by show (rest.getD 0 default).hi + 1 ≤ x.hi + 1; omega), t5, (by show (rest.drop 1).length ≤ 1000000; rw [List.length_drop]; omega), (by show out = _; rw [← nx, addC, if_pos (show x.s = (rest.getD 0 default).s from hq)])⟩, (by show (x.hi + 1 - ((rest.getD 0 default).hi + 1)).toNat < (x.hi + 1 - lo).toNat; omega), StLe.i13x14 (n := 15) (by decide) tmS ⟨⟨rfl, EntL.refl _, rfl⟩, trivial, ⟨rfl, EntL.refl _, rfl⟩, ⟨rfl, EntL.refl _, rfl⟩, trivial, trivial, trivial, trivial, trivial, ⟨rfl, EntL.cons ent_dropP (EntL.refl _), rfl⟩, ⟨rfl, EntL.refl _, rfl⟩, trivial, ⟨rfl, rfl⟩, trivial, ⟨rfl, EntL.refl _, rfl⟩, own_refl, trivial⟩⟩
      · rcases Nat.eq_zero_or_pos out.length with hz | hz
        · refine gn ?_
          exact ⟨((rest.getD 0 default).hi + 1, rest.drop 1, out ++ [⟨a.what, lo, (rest.getD 0 default).hi, x.s, (rest.getD 0 default).s⟩]), ⟨(by show x.lo ≤ (rest.getD 0 default).hi + 1; omega), (by show (rest.getD 0 default).hi + 1 ≤ x.hi + 1; omega), t5, (by show (rest.drop 1).length ≤ 1000000; rw [List.length_drop]; omega), (by show out ++ _ = _; rw [← nx, addC, if_neg (show ¬ x.s = (rest.getD 0 default).s from hq), if_neg (fun h => absurd h.1 (by omega))])⟩, (by show (x.hi + 1 - ((rest.getD 0 default).hi + 1)).toNat < (x.hi + 1 - lo).toNat; omega), StLe.i13x14 (n := 17) (by decide) tmS ⟨⟨rfl, EntL.refl _, rfl⟩, trivial, ⟨rfl, EntL.refl _, rfl⟩, ⟨rfl, EntL.refl _, rfl⟩, trivial, trivial, trivial, trivial, trivial, ⟨rfl, EntL.cons ent_dropP (EntL.refl _), rfl⟩, ⟨rfl, EntL.refl _, rfl⟩, trivial, ⟨rfl, rfl⟩, trivial, ⟨rfl, EntL.refl _, rfl⟩, own_app (lt5 (Ent.refl _) (Ent.refl _) (Ent.int em) (Ent.refl _) (Ent.refl _)), trivial⟩⟩
        · obtain ⟨e1, e2⟩ := hoe hz
          rw [← ek] at e1 e2
          by_cases j1 : (out.getD ((out.length : Int) - 1).toNat default).hi + 1 = lo
          · by_cases j2 : (out.getD ((out.length : Int) - 1).toNat default).old = x.s
            · by_cases j3 : (out.getD ((out.length : Int) - 1).toNat default).new = (rest.getD (Int.toNat 0) default).s
              · refine gn ?_
                rw [ek] at *
                exact ⟨((rest.getD 0 default).hi + 1, rest.drop 1, out.set (out.length - 1) (withHi (lastC out) ((rest.getD 0 default).hi))), ⟨(by show x.lo ≤ (rest.getD 0 default).hi + 1; omega), (by show (rest.getD 0 default).hi + 1 ≤ x.hi + 1; omega), t5, (by show (rest.drop 1).length ≤ 1000000; rw [List.length_drop]; omega), (by show out.set _ _ = _; rw [← nx, addC, if_neg (show ¬ x.s = (rest.getD 0 default).s from hq), if_pos ⟨hz, j1, j2, j3⟩])⟩, (by show (x.hi + 1 - ((rest.getD 0 default).hi + 1)).toNat < (x.hi + 1 - lo).toNat; omega), StLe.i13x14 (n := 15) (by decide) tmS ⟨⟨rfl, EntL.refl _, rfl⟩, trivial, ⟨rfl, EntL.refl _, rfl⟩, ⟨rfl, EntL.refl _, rfl⟩, trivial, trivial, trivial, trivial, trivial, ⟨rfl, EntL.cons ent_dropP (EntL.refl _), rfl⟩, ⟨rfl, EntL.refl _, rfl⟩, trivial, ⟨rfl, rfl⟩, trivial, ⟨rfl, EntL.refl _, rfl⟩, own_set (lt5 (Ent.refl _) (Ent.refl _) (Ent.int em) (Ent.refl _) (Ent.refl _)) (by omega), trivial⟩⟩
              · refine gn ?_
                rw [ek] at *
                exact ⟨((rest.getD 0 default).hi + 1, rest.drop 1, out ++ [⟨a.what, lo, (rest.getD 0 default).hi, x.s, (rest.getD 0 default).s⟩]), ⟨(by show x.lo ≤ (rest.getD 0 default).hi + 1; omega), (by show (rest.getD 0 default).hi + 1 ≤ x.hi + 1; omega), t5, (by show (rest.drop 1).length ≤ 1000000; rw [List.length_drop]; omega), (by show out ++ _ = _; rw [← nx, addC, if_neg (show ¬ x.s = (rest.getD 0 default).s from hq), if_neg (fun h => j3 h.2.2.2)])⟩, (by show (x.hi + 1 - ((rest.getD 0 default).hi + 1)).toNat < (x.hi + 1 - lo).toNat; omega), StLe.i13x14 (n := 17) (by decide) tmS ⟨⟨rfl, EntL.refl _, rfl⟩, trivial, ⟨rfl, EntL.refl _, rfl⟩, ⟨rfl, EntL.refl _, rfl⟩, trivial, trivial, trivial, trivial, trivial, ⟨rfl, EntL.cons ent_dropP (EntL.refl _), rfl⟩, ⟨rfl, EntL.refl _, rfl⟩, trivial, ⟨rfl, rfl⟩, trivial, ⟨rfl, EntL.refl _, rfl⟩, own_app (lt5 (Ent.refl _) (Ent.refl _) (Ent.int em) (Ent.refl _) (Ent.refl _)), trivial⟩⟩
            · refine gn ?_
              rw [ek] at *
              exact ⟨((rest.getD 0 default).hi + 1, rest.drop 1, out ++ [⟨a.what, lo, (rest.getD 0 default).hi, x.s, (rest.getD 0 default).s⟩]), ⟨(by show x.lo ≤ (rest.getD 0 default).hi + 1; omega), (by show (rest.getD 0 default).hi + 1 ≤ x.hi + 1; omega), t5, (by show (rest.drop 1).length ≤ 1000000; rw [List.length_drop]; omega), (by show out ++ _ = _; rw [← nx, addC, if_neg (show ¬ x.s = (rest.getD 0 default).s from hq), if_neg (fun h => j2 h.2.2.1)])⟩, (by show (x.hi + 1 - ((rest.getD 0 default).hi + 1)).toNat < (x.hi + 1 - lo).toNat; omega), StLe.i13x14 (n := 17) (by decide) tmS ⟨⟨rfl, EntL.refl _, rfl⟩, trivial, ⟨rfl, EntL.refl _, rfl⟩, ⟨rfl, EntL.refl _, rfl⟩, trivial, trivial, trivial, trivial, trivial, ⟨rfl, EntL.cons ent_dropP (EntL.refl _), rfl⟩, ⟨rfl, EntL.refl _, rfl⟩, trivial, ⟨rfl, rfl⟩, trivial, ⟨rfl, EntL.refl _, rfl⟩, own_app (lt5 (Ent.refl _) (Ent.refl _) (Ent.int em) (Ent.refl _) (Ent.refl _)), trivial⟩⟩
          · refine gn ?_
            rw [ek] at *
            exact ⟨((rest.getD 0 default).hi + 1, rest.drop 1, out ++ [⟨a.what, lo, (rest.getD 0 default).hi, x.s, (rest.getD 0 default).s⟩]), ⟨(by show x.lo ≤ (rest.getD 0 default).hi + 1; omega), (by show (rest.getD 0 default).hi + 1 ≤ x.hi + 1; omega), t5, (by show (rest.drop 1).length ≤ 1000000; rw [List.length_drop]; omega), (by show out ++ _ = _; rw [← nx, addC, if_neg (show ¬ x.s = (rest.getD 0 default).s from hq), if_neg (fun h => j1 h.2.1)])⟩, (by show (x.hi + 1 - ((rest.getD 0 default).hi + 1)).toNat < (x.hi + 1 - lo).toNat; omega), StLe.i13x14 (n := 17) (by decide) tmS ⟨⟨rfl, EntL.refl _, rfl⟩, trivial, ⟨rfl, EntL.refl _, rfl⟩, ⟨rfl, EntL.refl _, rfl⟩, trivial, trivial, trivial, trivial, trivial, ⟨rfl, EntL.cons ent_dropP (EntL.refl _), rfl⟩, ⟨rfl, EntL.refl _, rfl⟩, trivial, ⟨rfl, rfl⟩, trivial, ⟨rfl, EntL.refl _, rfl⟩, own_app (lt5 (Ent.refl _) (Ent.refl _) (Ent.int em) (Ent.refl _) (Ent.refl _)), trivial⟩⟩
    · have nx := in_one hx0 hva h1 hlt (Int.le_refl _) (fun c c1 c2 => t4 c c1 (by omega)) h5
      have t6 := tiles_to h3 (show lo ≤ x.hi + 1 by omega) (by omega) (by omega)
      have em : min x.hi (rest.getD (Int.toNat 0) default).hi = x.hi := by omega
      clear h3 h5 hva hk
      by_cases hq : x.s = (rest.getD (Int.toNat 0) default).s
      · refine gn ?_
        exact ⟨(x.hi + 1, rest, out), ⟨(by show x.lo ≤ x.hi + 1; omega), (by show x.hi + 1 ≤ x.hi + 1; omega), t6, h4, (by show out = _; rw [← nx, addC, if_pos (show x.s = (rest.getD 0 default).s from hq)])⟩, (by show (x.hi + 1 - (x.hi + 1)).toNat < (x.hi + 1 - lo).toNat; omega), StLe.i13x14 (n := 15) (by decide) tmS ⟨⟨rfl, EntL.refl _, rfl⟩, trivial, ⟨rfl, EntL.refl _, rfl⟩, ⟨rfl, EntL.refl _, rfl⟩, trivial, trivial, trivial, trivial, trivial, ⟨rfl, EntL.refl _, rfl⟩, ⟨rfl, EntL.refl _, rfl⟩, trivial, ⟨rfl, rfl⟩, trivial, ⟨rfl, EntL.refl _, rfl⟩, own_refl, trivial⟩⟩
      · rcases Nat.eq_zero_or_pos out.length with hz | hz
        · refine gn ?_
          exact ⟨(x.hi + 1, rest, out ++ [⟨a.what, lo, x.hi, x.s, (rest.getD 0 default).s⟩]), ⟨(by show x.lo ≤ x.hi + 1; omega), (by show x.hi + 1 ≤ x.hi + 1; omega), t6, h4, (by show out ++ _ = _; rw [← nx, addC, if_neg (show ¬ x.s = (rest.getD 0 default).s from hq), if_neg (fun h => absurd h.1 (by omega))])⟩, (by show (x.hi + 1 - (x.hi + 1)).toNat < (x.hi + 1 - lo).toNat; omega), StLe.i13x14 (n := 17) (by decide) tmS ⟨⟨rfl, EntL.refl _, rfl⟩, trivial, ⟨rfl, EntL.refl _, rfl⟩, ⟨rfl, EntL.refl _, rfl⟩, trivial, trivial, trivial, trivial, trivial, ⟨rfl, EntL.refl _, rfl⟩, ⟨rfl, EntL.refl _, rfl⟩, trivial, ⟨rfl, rfl⟩, trivial, ⟨rfl, EntL.refl _, rfl⟩, own_app (lt5 (Ent.refl _) (Ent.refl _) (Ent.int em) (Ent.refl _) (Ent.refl _)), trivial⟩⟩
        · obtain ⟨e1, e2⟩ := hoe hz
          rw [← ek] at e1 e2
          by_cases j1 : (out.getD ((out.length : Int) - 1).toNat default).hi + 1 = lo
          · by_cases j2 : (out.getD ((out.length : Int) - 1).toNat default).old = x.s
            · by_cases j3 : (out.getD ((out.length : Int) - 1).toNat default).new = (rest.getD (Int.toNat 0) default).s
              · refine gn ?_
                rw [ek] at *
                exact ⟨(x.hi + 1, rest, out.set (out.length - 1) (withHi (lastC out) (x.hi))), ⟨(by show x.lo ≤ x.hi + 1; omega), (by show x.hi + 1 ≤ x.hi + 1; omega), t6, h4, (by show out.set _ _ = _; rw [← nx, addC, if_neg (show ¬ x.s = (rest.getD 0 default).s from hq), if_pos ⟨hz, j1, j2, j3⟩])⟩, (by show (x.hi + 1 - (x.hi + 1)).toNat < (x.hi + 1 - lo).toNat; omega), StLe.i13x14 (n := 15) (by decide) tmS ⟨⟨rfl, EntL.refl _, rfl⟩, trivial, ⟨rfl, EntL.refl _, rfl⟩, ⟨rfl, EntL.refl _, rfl⟩, trivial, trivial, trivial, trivial, trivial, ⟨rfl, EntL.refl _, rfl⟩, ⟨rfl, EntL.refl _, rfl⟩, trivial, ⟨rfl, rfl⟩, trivial, ⟨rfl, EntL.refl _, rfl⟩, own_set (lt5 (Ent.refl _) (Ent.refl _) (Ent.int em) (Ent.refl _) (Ent.refl _)) (by omega), trivial⟩⟩
              · refine gn ?_
                rw [ek] at *
                exact ⟨(x.hi + 1, rest, out ++ [⟨a.what, lo, x.hi, x.s, (rest.getD 0 default).s⟩]), ⟨(by show x.lo ≤ x.hi + 1; omega), (by show x.hi + 1 ≤ x.hi + 1; omega), t6, h4, (by show out ++ _ = _; rw [← nx, addC, if_neg (show ¬ x.s = (rest.getD 0 default).s from hq), if_neg (fun h => j3 h.2.2.2)])⟩, (by show (x.hi + 1 - (x.hi + 1)).toNat < (x.hi + 1 - lo).toNat; omega), StLe.i13x14 (n := 17) (by decide) tmS ⟨⟨rfl, EntL.refl _, rfl⟩, trivial, ⟨rfl, EntL.refl _, rfl⟩, ⟨rfl, EntL.refl _, rfl⟩, trivial, trivial, trivial, trivial, trivial, ⟨rfl, EntL.refl _, rfl⟩, ⟨rfl, EntL.refl _, rfl⟩, trivial, ⟨rfl, rfl⟩, trivial, ⟨rfl, EntL.refl _, rfl⟩, own_app (lt5 (Ent.refl _) (Ent.refl _) (Ent.int em) (Ent.refl _) (Ent.refl _)), trivial⟩⟩
            · refine gn ?_
              rw [ek] at *
              exact ⟨(x.hi + 1, rest, out ++ [⟨a.what, lo, x.hi, x.s, (rest.getD 0 default).s⟩]), ⟨(by show x.lo ≤ x.hi + 1; omega), (by show x.hi + 1 ≤ x.hi + 1; omega), t6, h4, (by show out ++ _ = _; rw [← nx, addC, if_neg (show ¬ x.s = (rest.getD 0 default).s from hq), if_neg (fun h => j2 h.2.2.1)])⟩, (by show (x.hi + 1 - (x.hi + 1)).toNat < (x.hi + 1 - lo).toNat; omega), StLe.i13x14 (n := 17) (by decide) tmS ⟨⟨rfl, EntL.refl _, rfl⟩, trivial, ⟨rfl, EntL.refl _, rfl⟩, ⟨rfl, EntL.refl _, rfl⟩, trivial, trivial, trivial, trivial, trivial, ⟨rfl, EntL.refl _, rfl⟩, ⟨rfl, EntL.refl _, rfl⟩, trivial, ⟨rfl, rfl⟩, trivial, ⟨rfl, EntL.refl _, rfl⟩, own_app (lt5 (Ent.refl _) (Ent.refl _) (Ent.int em) (Ent.refl _) (Ent.refl _)), trivial⟩⟩
          · refine gn ?_
            rw [ek] at *
            exact ⟨(x.hi + 1, rest, out ++ [⟨a.what, lo, x.hi, x.s, (rest.getD 0 default).s⟩]), ⟨(by show x.lo ≤ x.hi + 1; omega), (by show x.hi + 1 ≤ x.hi + 1; omega), t6, h4, (by show out ++ _ = _; rw [← nx, addC, if_neg (show ¬ x.s = (rest.getD 0 default).s from hq), if_neg (fun h => j1 h.2.1)])⟩, (by show (x.hi + 1 - (x.hi + 1)).toNat < (x.hi + 1 - lo).toNat; omega), StLe.i13x14 (n := 17) (by decide) tmS ⟨⟨rfl, EntL.refl _, rfl⟩, trivial, ⟨rfl, EntL.refl _, rfl⟩, ⟨rfl, EntL.refl _, rfl⟩, trivial, trivial, trivial, trivial, trivial, ⟨rfl, EntL.refl _, rfl⟩, ⟨rfl, EntL.refl _, rfl⟩, trivial, ⟨rfl, rfl⟩, trivial, ⟨rfl, EntL.refl _, rfl⟩, own_app (lt5 (Ent.refl _) (Ent.refl _) (Ent.int em) (Ent.refl _) (Ent.refl _)), trivial⟩⟩
  · have e : lo = x.hi + 1 := by omega
    subst e
    subst h5
    refine gn ?_
    exact hk _ rest h3 h4
end Go.Proofs

namespace Go.Proofs
open Go Go.Sx
variable {mx : Int} {pb : Bool}

/-! versions.compare: the inner loop -/
def sI13x15 (a : Fl) (p5 : Pc) (x : Pc) : Int × List Pc × List Ch → St
  | (lo, rest, out) => ⟨[(4, nilV), (5, .own 2 0), (6, .own 3 0), (7, .own 9 0), (8, .own 15 0), (9, .v (.int .i64 lo))], [flO a, .gone, .cells 42 [.row 16], fnC, .gone, .gone, .gone, .gone, .gone, .cells 95 [slD 3 pcD rest], flO a, .defd, .lp .busy none, .gone, .cells 184 (pcL p5), .cells 184 (pcL x), rowL 49 5 chD out], []⟩
theorem StLe.i13x15 {tm tm' : List (Nat × D)} {ow ow' : List Own} {n : Nat} (hn : [0, 1, 2, 3, 4, 5, 6, 7, 8, 9, 10, 11, 12, 13, 14, 15, n].Nodup) (h1 : renT [0, 1, 2, 3, 4, 5, 6, 7, 8, 9, 10, 11, 12, 13, 14, 15, n] tm tm') (h2 : renO [0, 1, 2, 3, 4, 5, 6, 7, 8, 9, 10, 11, 12, 13, 14, 15, n] ow [0, 1, 2, 3, 4, 5, 6, 7, 8, 9, 10, 11, 12, 13, 14, 15, n] ow') : StLe 15 ⟨tm, ow, []⟩ ⟨tm', ow', []⟩ :=
  StLe.renm [0, 1, 2, 3, 4, 5, 6, 7, 8, 9, 10, 11, 12, 13, 14, 15, n] h1 h2 hn (fun i hi => by
    match i, hi with
    | 0, _ => rfl
    | 1, _ => rfl
    | 2, _ => rfl
    | 3, _ => rfl
    | 4, _ => rfl
    | 5, _ => rfl
    | 6, _ => rfl
    | 7, _ => rfl
    | 8, _ => rfl
    | 9, _ => rfl
    | 10, _ => rfl
    | 11, _ => rfl
    | 12, _ => rfl
    | 13, _ => rfl
    | 14, _ => rfl
    | i + 15, h => exact absurd (show i + 15 < 15 from h) (by omega)) (by simp)
set_option maxHeartbeats 16000000 in
theorem in13x15 {Y : Ys} {s : St} {k : Exit → St → Prop} (a b : Fl) (p5 : Pc) (x : Pc) (rest : List Pc) (hx0 : 0 ≤ x.lo) (hx1 : x.hi ≤ 1114111) (hxl : x.lo ≤ x.hi + 1) (hva : ∀ c, x.lo ≤ c → c ≤ x.hi → flV a c = x.s)
    (hT : Tiles (flV b) x.lo rest) (hrl : rest.length ≤ 1000000) (hs : StLe 15 s (sI13x15 a p5 x (x.lo, rest, chB a.what (flV a) (flV b) x.lo)))
    (hk : ∀ tm rest', Tiles (flV b) (x.hi + 1) rest' → rest'.length ≤ 1000000 → k (.exit 2) ⟨tm, (sI13x15 a p5 x (x.hi + 1, rest', chB a.what (flV a) (flV b) (x.hi + 1))).ow, []⟩) :
    stepEx (Wk true (Γpc mx pb) Tryz.T (GlT mx pb) 50) (WkO true (Γpc mx pb) Tryz.T (GlT mx pb) 50) (WkP true (Γpc mx pb) Tryz.T (GlT mx pb) 50) (Γpc mx pb) Tryz.T (GlT mx pb) 50 cIn Y 15 true s k := by
  refine ⟨0, Int × List Pc × List Ch, sI13x15 a p5 x, InInv a b x, fun i => (x.hi + 1 - i.1).toNat, fun _ => (by show 15 ≤ 17; decide), ⟨_, ⟨Int.le_refl _, hxl, hT, hrl, rfl⟩, hs⟩, ?_⟩
  rintro ⟨lo, rest, out⟩ ⟨h1, h2, h3, h4, h5⟩
  have h1 : x.lo ≤ lo := h1
  have h2 : lo ≤ x.hi + 1 := h2
  have h3 : Tiles (flV b) lo rest := h3
  have h4 : rest.length ≤ 1000000 := h4
  have h5 : out = chB a.what (flV a) (flV b) lo := h5
  clear hs hT hrl
  by_cases hlt : lo ≤ x.hi
  · obtain ⟨t0, t1, t2, t3, t4, t5⟩ := tiles_at h3 (by omega)
    have hol : out.length ≤ 1114112 := by rw [h5]; exact chB_len _ _ _ (by omega)
    have hoe := in_last (show lo ≤ 1114112 by omega) h5
    have ek : ((out.length : Int) - 1).toNat = out.length - 1 := by omega
    have z1 : (rest.getD (Int.toNat 0) default).hi = (rest.getD 0 default).hi := rfl
    by_cases hm : (rest.getD 0 default).hi ≤ x.hi
    · have nx := in_one hx0 hva h1 t2 hm t4 h5
      have em : min x.hi (rest.getD (Int.toNat 0) default).hi = (rest.getD 0 default).hi := by omega
      clear h3 h5 hva hk
      by_cases hq : x.s = (rest.getD (Int.toNat 0) default).s
      · refine gn ?_
        exact ⟨((rest.getD 0 default).hi + 1, rest.drop 1, out), ⟨(by show x.lo ≤ (rest.getD 0 default).hi + 1; omega), (by show (rest.getD 0 default).hi + 1 ≤ x.hi + 1; omega), t5, (by show (rest.drop 1).length ≤ 1000000; rw [List.length_drop]; omega), (by show out = _; rw [← nx, addC, if_pos (show x.s = (rest.getD 0 default).s from hq)])⟩, (by show (x.hi + 1 - ((rest.getD 0 default).hi + 1)).toNat < (x.hi + 1 - lo).toNat; omega), StLe.i13x15 (n := 16) (by decide) tmS ⟨⟨rfl, EntL.refl _, rfl⟩, trivial, ⟨rfl, EntL.refl _, rfl⟩, ⟨rfl, EntL.refl _, rfl⟩, trivial, trivial, trivial, trivial, trivial, ⟨rfl, EntL.cons ent_dropP (EntL.refl _), rfl⟩, ⟨rfl, EntL.refl _, rfl⟩, trivial, ⟨rfl, rfl⟩, trivial, ⟨rfl, EntL.refl _, rfl⟩, ⟨rfl, EntL.refl _, rfl⟩, own_refl, trivial⟩⟩
      · rcases Nat.eq_zero_or_pos out.length with hz | hz
        · refine gn ?_
          exact ⟨((rest.getD 0 default).hi + 1, rest.drop 1, out ++ [⟨a.what, lo, (rest.getD 0 default).hi, x.s, (rest.getD 0 default).s⟩]), ⟨(by show x.lo ≤ (rest.getD 0 default).hi + 1; omega), (by show (rest.getD 0 default).hi + 1 ≤ x.hi + 1; omega), t5, (by show (rest.drop 1).length ≤ 1000000; rw [List.length_drop]; omega), (by show out ++ _ = _; rw [← nx, addC, if_neg (show ¬ x.s = (rest.getD 0 default).s from hq), if_neg (fun h => absurd h.1 (by omega))])⟩, (by show (x.hi + 1 - ((rest.getD 0 default).hi + 1)).toNat < (x.hi + 1 - lo).toNat; omega), StLe.i13x15 (n := 18) (by decide) tmS ⟨⟨rfl, EntL.refl _, rfl⟩, trivial, ⟨rfl, EntL.refl _, rfl⟩, ⟨rfl, EntL.refl _, rfl⟩, trivial, trivial, trivial, trivial, trivial, ⟨rfl, EntL.cons ent_dropP (EntL.refl _), rfl⟩, ⟨rfl, EntL.refl _, rfl⟩, trivial, ⟨rfl, rfl⟩, trivial, ⟨rfl, EntL.refl _, rfl⟩, ⟨rfl, EntL.refl _, rfl⟩, own_app (lt5 (Ent.refl _) (Ent.refl _) (Ent.int em) (Ent.refl _) (Ent.refl _)), trivial⟩⟩
        · obtain ⟨e1, e2⟩ := hoe hz
          rw [← ek] at e1 e2
          by_cases j1 : (out.getD ((out.length : Int) - 1).toNat default).hi + 1 = lo
          · by_cases j2 : (out.getD ((out.length : Int) - 1).toNat default).old = x.s
            · by_cases j3 : (out.getD ((out.length : Int) - 1).toNat default).new = (rest.getD (Int.toNat 0) default).s
              · refine gn ?_
                rw [ek] at *
                exact ⟨((rest.getD 0 default).hi + 1, rest.drop 1, out.set (out.length - 1) (withHi (lastC out) ((rest.getD 0 default).hi))), ⟨(by show x.lo ≤ (rest.getD 0 default).hi + 1; omega), (by show (rest.getD 0 default).hi + 1 ≤ x.hi + 1; omega), t5, (by show (rest.drop 1).length ≤ 1000000; rw [List.length_drop]; omega), (by show out.set _ _ = _; rw [← nx, addC, if_neg (show ¬ x.s = (rest.getD 0 default).s from hq), if_pos ⟨hz, j1, j2, j3⟩])⟩, (by show (x.hi + 1 - ((rest.getD 0 default).hi + 1)).toNat < (x.hi + 1 - lo).toNat; omega), StLe.i13x15 (n := 16) (by decide) tmS ⟨⟨rfl, EntL.refl _, rfl⟩, trivial, ⟨rfl, EntL.refl _, rfl⟩, ⟨rfl, EntL.refl _, rfl⟩, trivial, trivial, trivial, trivial, trivial, ⟨rfl, EntL.cons ent_dropP (EntL.refl _), rfl⟩, ⟨rfl, EntL.refl _, rfl⟩, trivial, ⟨rfl, rfl⟩, trivial, ⟨rfl, EntL.refl _, rfl⟩, ⟨rfl, EntL.refl _, rfl⟩, own_set (lt5 (Ent.refl _) (Ent.refl _) (Ent.int em) (Ent.refl _) (Ent.refl _)) (by omega), trivial⟩⟩
              · refine gn ?_
                rw [ek] at *
                exact ⟨((rest.getD 0 default).hi + 1, rest.drop 1, out ++ [⟨a.what, lo, (rest.getD 0 default).hi, x.s, (rest.getD 0 default).s⟩]), ⟨(by show x.lo ≤ (rest.getD 0 default).hi + 1; omega), (by show (rest.getD 0 default).hi + 1 ≤ x.hi + 1; omega), t5, (by show (rest.drop 1).length ≤ 1000000; rw [List.length_drop]; omega), (by show out ++ _ = _; rw [← nx, addC, if_neg (show ¬ x.s = (rest.getD 0 default).s from hq), if_neg (fun h => j3 h.2.2.2)])⟩, (by show (x.hi + 1 - ((rest.getD 0 default).hi + 1)).toNat < (x.hi + 1 - lo).toNat; omega), StLe.i13x15 (n := 18) (by decide) tmS ⟨⟨rfl, EntL.refl _, rfl⟩, trivial, ⟨rfl, EntL.refl _, rfl⟩, ⟨rfl, EntL.refl _, rfl⟩, trivial, trivial, trivial, trivial, trivial, ⟨rfl, EntL.cons ent_dropP (EntL.refl _), rfl⟩, ⟨rfl, EntL.refl _, rfl⟩, trivial, ⟨rfl, rfl⟩, trivial, ⟨rfl, EntL.refl _, rfl⟩, ⟨rfl, EntL.refl _, rfl⟩, own_app (lt5 (Ent.refl _) (Ent.refl _) (Ent.int em) (Ent.refl _) (Ent.refl _)), trivial⟩⟩
            · refine gn ?_
              rw [ek] at *
              exact ⟨((rest.getD 0 default).hi + 1, rest.drop 1, out ++ [⟨a.what, lo, (rest.getD 0 default).hi, x.s, (rest.getD 0 default).s⟩]), ⟨(by show x.lo ≤ (rest.getD 0 default).hi + 1; omega), (by show (rest.getD 0 default).hi + 1 ≤ x.hi + 1; omega), t5, (by show (rest.drop 1).length ≤ 1000000; rw [List.length_drop]; omega), (by show out ++ _ = _; rw [← nx, addC, if_neg (show ¬ x.s = (rest.getD 0 default).s from hq), if_neg (fun h => j2 h.2.2.1)])⟩, (by show (x.hi + 1 - ((rest.getD 0 default).hi + 1)).toNat < (x.hi + 1 - lo).toNat; omega), StLe.i13x15 (n := 18) (by decide) tmS ⟨⟨rfl, EntL.refl _, rfl⟩, trivial, ⟨rfl, EntL.refl _, rfl⟩, ⟨rfl, EntL.refl _, rfl⟩, trivial, trivial, trivial, trivial, trivial, ⟨rfl, EntL.cons ent_dropP (EntL.refl _), rfl⟩, ⟨rfl, EntL.refl _, rfl⟩, trivial, ⟨rfl, rfl⟩, trivial, ⟨rfl, EntL.refl _, rfl⟩, ⟨rfl, EntL.refl _, rfl⟩, own_app (lt5 (Ent.refl _) (Ent.refl _) (Ent.int em) (Ent.refl _) (Ent.refl _)), trivial⟩⟩
          · refine gn ?_
            rw [ek] at *
            exact ⟨((rest.getD 0 default).hi + 1, rest.drop 1, out ++ [⟨a.what, lo, (rest.getD 0 default).hi, x.s, (rest.getD 0 default).s⟩]), ⟨(by show x.lo ≤ (rest.getD 0 default).hi + 1; omega), (by show (rest.getD 0 default).hi + 1 ≤ x.hi + 1; omega), t5, (by show (rest.drop 1).length ≤ 1000000; rw [List.length_drop]; omega), (by show out ++ _ = _; rw [← nx, addC, if_neg (show ¬ x.s = (rest.getD 0 default).s from hq), if_neg (fun h => j1 h.2.1)])⟩, (by show (x.hi + 1 - ((rest.getD 0 default).hi + 1)).toNat < (x.hi + 1 - lo).toNat; omega), StLe.i13x15 (n := 18) (by decide) tmS ⟨⟨rfl, EntL.refl _, rfl⟩, trivial, ⟨rfl, EntL.refl _, rfl⟩, ⟨rfl, EntL.refl _, rfl⟩, trivial, trivial, trivial, trivial, trivial, ⟨rfl, EntL.cons ent_dropP (EntL.refl _), rfl⟩, ⟨rfl, EntL.refl _, rfl⟩, trivial, ⟨rfl, rfl⟩, trivial, ⟨rfl, EntL.refl _, rfl⟩, ⟨rfl, EntL.refl _, rfl⟩, own_app (lt5 (Ent.refl _) (Ent.refl _) (Ent.int em) (Ent.refl _) (Ent.refl _)), trivial⟩⟩
    · have nx := in_one hx0 hva h1 hlt (Int.le_refl _) (fun c c1 c2 => t4 c c1 (by omega)) h5
      have t6 := tiles_to h3 (show lo ≤ x.hi + 1 by omega) (by omega) (by omega)
      have em : min x.hi (rest.getD (Int.toNat 0) default).hi = x.hi := by omega
      clear h3 h5 hva hk
      by_cases hq : x.s = (rest.getD (Int.toNat 0) default).s
      · refine gn ?_
        exact ⟨(x.hi + 1, rest, out), ⟨(by show x.lo ≤ x.hi + 1; omega), (by show x.hi + 1 ≤ x.hi + 1; omega), t6, h4, (by show out = _; rw [← nx, addC, if_pos (show x.s = (rest.getD 0 default).s from hq)])⟩, (by show (x.hi + 1 - (x.hi + 1)).toNat < (x.hi + 1 - lo).toNat; omega), StLe.i13x15 (n := 16) (by decide) tmS ⟨⟨rfl, EntL.refl _, rfl⟩, trivial, ⟨rfl, EntL.refl _, rfl⟩, ⟨rfl, EntL.refl _, rfl⟩, trivial, trivial, trivial, trivial, trivial, ⟨rfl, EntL.refl _, rfl⟩, ⟨rfl, EntL.refl _, rfl⟩, trivial, ⟨rfl, rfl⟩, trivial, ⟨rfl, EntL.refl _, rfl⟩, ⟨rfl, EntL.refl _, rfl⟩, own_refl, trivial⟩⟩
      · rcases Nat.eq_zero_or_pos out.length with hz | hz
        · refine gn ?_
          exact ⟨(x.hi + 1, rest, out ++ [⟨a.what, lo, x.hi, x.s, (rest.getD 0 default).s⟩]), ⟨(by show x.lo ≤ x.hi + 1; omega), (by show x.hi + 1 ≤ x.hi + 1; omega), t6, h4, (by show out ++ _ = _; rw [← nx, addC, if_neg (show ¬ x.s = (rest.getD 0 default).s from hq), if_neg (fun h => absurd h.1 (by omega))])⟩, (by show (x.hi + 1 - (x.hi + 1)).toNat < (x.hi + 1 - lo).toNat; omega), StLe.i13x15 (n := 18) (by decide) tmS ⟨⟨rfl, EntL.refl _, rfl⟩, trivial, ⟨rfl, EntL.refl _, rfl⟩, ⟨rfl, EntL.refl _, rfl⟩, trivial, trivial, trivial, trivial, trivial, ⟨rfl, EntL.refl _, rfl⟩, ⟨rfl, EntL.refl _, rfl⟩, trivial, ⟨rfl, rfl⟩, trivial, ⟨rfl, EntL.refl _, rfl⟩, ⟨rfl, EntL.refl _, rfl⟩, own_app (lt5 (Ent.refl _) (Ent.refl _) (Ent.int em) (Ent.refl _) (Ent.refl _)), trivial⟩⟩
        · obtain ⟨e1, e2⟩ := hoe hz
          rw [← ek] at e1 e2
          by_cases j1 : (out.getD ((out.length : Int) - 1).toNat default).hi + 1 = lo
          · by_cases j2 : (out.getD ((out.length : Int) - 1).toNat default).old = x.s
            · by_cases j3 : (out.getD ((out.length : Int) - 1).toNat default).new = (rest.getD (Int.toNat 0) default).s
              · refine gn ?_
                rw [ek] at *
                exact ⟨(x.hi + 1, rest, out.set (out.length - 1) (withHi (lastC out) (x.hi))), ⟨(by show x.lo ≤ x.hi + 1; omega), (by show x.hi + 1 ≤ x.hi + 1; omega), t6, h4, (by show out.set _ _ = _; rw [← nx, addC, if_neg (show ¬ x.s = (rest.getD 0 default).s from hq), if_pos ⟨hz, j1, j2, j3⟩])⟩, (by show (x.hi + 1 - (x.hi + 1)).toNat < (x.hi + 1 - lo).toNat; omega), StLe.i13x15 (n := 16) (by decide) tmS ⟨⟨rfl, EntL.refl _, rfl⟩, trivial, ⟨rfl, EntL.refl _, rfl⟩, ⟨rfl, EntL.refl _, rfl⟩, trivial, trivial, trivial, trivial, trivial, ⟨rfl, EntL.refl _, rfl⟩, ⟨rfl, EntL.refl _, rfl⟩, trivial, ⟨rfl, rfl⟩, trivial, ⟨rfl, EntL.refl _, rfl⟩, ⟨rfl, EntL.refl _, rfl⟩, own_set (lt5 (Ent.refl _) (Ent.refl _) (Ent.int em) (Ent.refl _) (Ent.refl _)) (by omega), trivial⟩⟩
              · refine gn ?_
                rw [ek] at *
                exact ⟨(x.hi + 1, rest, out ++ [⟨a.what, lo, x.hi, x.s, (rest.getD 0 default).s⟩]), ⟨(by show x.lo ≤ x.hi + 1; omega), (by show x.hi + 1 ≤ x.hi + 1; omega), t6, h4, (by show out ++ _ = _; rw [← nx, addC, if_neg (show ¬ x.s = (rest.getD 0 default).s from hq), if_neg (fun h => j3 h.2.2.2)])⟩, (by show (x.hi + 1 - (x.hi + 1)).toNat < (x.hi + 1 - lo).toNat; omega), StLe.i13x15 (n := 18) (by decide) tmS ⟨⟨rfl, EntL.refl _, rfl⟩, trivial, ⟨rfl, EntL.refl _, rfl⟩, ⟨rfl, EntL.refl _, rfl⟩, trivial, trivial, trivial, trivial, trivial, ⟨rfl, EntL.refl _, rfl⟩, ⟨rfl, EntL.refl _, rfl⟩, trivial, ⟨rfl, rfl⟩, trivial, ⟨rfl, EntL.refl _, rfl⟩, ⟨rfl, EntL.refl _, rfl⟩, own_app (lt5 (Ent.refl _) (Ent.refl _) (Ent.int em) (Ent.refl _) (Ent.refl _)), trivial⟩⟩
            · refine gn ?_
              rw [ek] at *
              exact ⟨(x.hi + 1, rest, out ++ [⟨a.what, lo, x.hi, x.s, (rest.getD 0 default).s⟩]), ⟨(by show x.lo ≤ x.hi + 1; omega), (by show x.hi + 1 ≤ x.hi + 1; omega), t6, h4, (by show out ++ _ = _; rw [← nx, addC, if_neg (show ¬ x.s = (rest.getD 0 default).s from hq), if_neg (fun h => j2 h.2.2.1)])⟩, (by show (x.hi + 1 - (x.hi + 1)).toNat < (x.hi + 1 - lo).toNat; omega), StLe.i13x15 (n := 18) (by decide) tmS ⟨⟨rfl, EntL.refl _, rfl⟩, trivial, ⟨rfl, EntL.refl _, rfl⟩, ⟨rfl, EntL.refl _, rfl⟩, trivial, trivial, trivial, trivial, trivial, ⟨rfl, EntL.refl _, rfl⟩, ⟨rfl, EntL.refl _, rfl⟩, trivial, ⟨rfl, rfl⟩, trivial, ⟨rfl, EntL.refl _, rfl⟩, ⟨rfl, EntL.refl _, rfl⟩, own_app (lt5 (Ent.refl _) (Ent.refl _) (Ent.int em) (Ent.refl _) (Ent.refl _)), trivial⟩⟩
          · refine gn ?_
            rw [ek] at *
            exact ⟨(x.hi + 1, rest, out ++ [⟨a.what, lo, x.hi, x.s, (rest.getD 0 default).s⟩]), ⟨(by show x.lo ≤ x.hi + 1; omega), (by show x.hi + 1 ≤ x.hi + 1; omega), t6, h4, (by show out ++ _ = _; rw [← nx, addC, if_neg (show ¬ x.s = (rest.getD 0 default).s from hq), if_neg (fun h => j1 h.2.1)])⟩, (by show (x.hi + 1 - (x.hi + 1)).toNat < (x.hi + 1 - lo).toNat; omega), StLe.i13x15 (n := 18) (by decide) tmS ⟨⟨rfl, EntL.refl _, rfl⟩, trivial, ⟨rfl, EntL.refl _, rfl⟩, ⟨rfl, EntL.refl _, rfl⟩, trivial, trivial, trivial, trivial, trivial, ⟨rfl, EntL.refl _, rfl⟩, ⟨rfl, EntL.refl _, rfl⟩, trivial, ⟨rfl, rfl⟩, trivial, ⟨rfl, EntL.refl _, rfl⟩, ⟨rfl, EntL.refl _, rfl⟩, own_app (lt5 (Ent.refl _) (Ent.refl _) (Ent.int em) (Ent.refl _) (Ent.refl _)), trivial⟩⟩
  · have e : lo = x.hi + 1 := by omega
    subst e
    subst h5
    refine gn ?_
    exact hk _ rest h3 h4
end Go.Proofs

namespace Go.Proofs
open Go Go.Sx
variable {mx : Int} {pb : Bool}

/-! versions.compare: the inner loop -/
def sI13x17 (a : Fl) (p5 : Pc) (x : Pc) : Int × List Pc × List Ch → St
  | (lo, rest, out) => ⟨[(4, nilV), (5, .own 2 0), (6, .own 3 0), (7, .own 9 0), (8, .own 17 0), (9, .v (.int .i64 lo))], [flO a, .gone, .cells 42 [.row 18], fnC, .gone, .gone, .gone, .gone, .gone, .cells 95 [slD 3 pcD rest], flO a, .defd, .lp .busy none, .gone, .cells 184 (pcL p5), .gone, .gone, .cells 184 (pcL x), rowL 49 5 chD out], []⟩
theorem StLe.i13x17 {tm tm' : List (Nat × D)} {ow ow' : List Own} {n : Nat} (hn : [0, 1, 2, 3, 4, 5, 6, 7, 8, 9, 10, 11, 12, 13, 14, 15, 16, 17, n].Nodup) (h1 : renT [0, 1, 2, 3, 4, 5, 6, 7, 8, 9, 10, 11, 12, 13, 14, 15, 16, 17, n] tm tm') (h2 : renO [0, 1, 2, 3, 4, 5, 6, 7, 8, 9, 10, 11, 12, 13, 14, 15, 16, 17, n] ow [0, 1, 2, 3, 4, 5, 6, 7, 8, 9, 10, 11, 12, 13, 14, 15, 16, 17, n] ow') : StLe 17 ⟨tm, ow, []⟩ ⟨tm', ow', []⟩ :=
  StLe.renm [0, 1, 2, 3, 4, 5, 6, 7, 8, 9, 10, 11, 12, 13, 14, 15, 16, 17, n] h1 h2 hn (fun i hi => by
    match i, hi with
    | 0, _ => rfl
    | 1, _ => rfl
    | 2, _ => rfl
    | 3, _ => rfl
    | 4, _ => rfl
    | 5, _ => rfl
    | 6, _ => rfl
    | 7, _ => rfl
    | 8, _ => rfl
    | 9, _ => rfl
    | 10, _ => rfl
    | 11, _ => rfl
    | 12, _ => rfl
    | 13, _ => rfl
    | 14, _ => rfl
    | 15, _ => rfl
    | 16, _ => rfl
    | i + 17, h => exact absurd (show i + 17 < 17 from h) (by omega)) (by simp)
set_option maxHeartbeats 16000000 in
theorem in13x17 {Y : Ys} {s : St} {k : Exit → St → Prop} (a b : Fl) (p5 : Pc) (x : Pc) (rest : List Pc) (hx0 : 0 ≤ x.lo) (hx1 : x.hi ≤ 1114111) (hxl : x.lo ≤ x.hi + 1) (hva : ∀ c, x.lo ≤ c → c ≤ x.hi → flV a c = x.s)
    (hT : Tiles (flV b) x.lo rest) (hrl : rest.length ≤ 1000000) (hs : StLe 17 s (sI13x17 a p5 x (x.lo, rest, chB a.what (flV a) (flV b) x.lo)))
    (hk : ∀ tm rest', Tiles (flV b) (x.hi + 1) rest' → rest'.length ≤ 1000000 → k (.exit 2) ⟨tm, (sI13x17 a p5 x (x.hi + 1, rest', chB a.what (flV a) (flV b) (x.hi + 1))).ow, []⟩) :
    stepEx (Wk true (Γpc mx pb) Tryz.T (GlT mx pb) 50) (WkO true (Γpc mx pb) Tryz.T (GlT mx pb) 50) (WkP true (Γpc mx pb) Tryz.T (GlT mx pb) 50) (Γpc mx pb) Tryz.T (GlT mx pb) 50 cIn Y 17 true s k := by
  refine ⟨0, Int × List Pc × List Ch, sI13x17 a p5 x, InInv a b x, fun i => (x.hi + 1 - i.1).toNat, fun _ => (by show 17 ≤ 19; decide), ⟨_, ⟨Int.le_refl _, hxl, hT, hrl, rfl⟩, hs⟩, ?_⟩
  rintro ⟨lo, rest, out⟩ ⟨h1, h2, h3, h4, h5⟩
  have h1 : x.lo ≤ lo := h1
  have h2 : lo ≤ x.hi + 1 := h2
  have h3 : Tiles (flV b) lo rest := h3
  have h4 : rest.length ≤ 1000000 := h4
  have h5 : out = chB a.what (flV a) (flV b) lo := h5
  clear hs hT hrl
  by_cases hlt : lo ≤ x.hi
  · obtain ⟨t0, t1, t2, t3, t4, t5⟩ := tiles_at h3 (by omega)
    have hol : out.length ≤ 1114112 := by rw [h5]; exact chB_len _ _ _ (by omega)
    have hoe := in_last (show lo ≤ 1114112 by omega) h5
    have ek : ((out.length : Int) - 1).toNat = out.length - 1 := by omega
    have z1 : (rest.getD (Int.toNat 0) default).hi = (rest.getD 0 default).hi := rfl
    by_cases hm : (rest.getD 0 default).hi ≤ x.hi
    · have nx := in_one hx0 hva h1 t2 hm t4 h5
      have em : min x.hi (rest.getD (Int.toNat 0) default).hi = (rest.getD 0 default).hi := by omega
      clear h3 h5 hva hk
      by_cases hq : x.s = (rest.getD (Int.toNat 0) default).s
      · refine gn ?_
        exact ⟨((rest.getD 0 default).hi + 1, rest.drop 1, out), ⟨(by show x.lo ≤ (rest.getD 0 default).hi + 1; omega), (by show (rest.getD 0 default).hi + 1 ≤ x.hi + 1; omega), t5, (by show (rest.drop 1).length ≤ 1000000; rw [List.length_drop]; omega), (by show out = _; rw [← nx, addC, if_pos (show x.s = (rest.getD 0 default).s from hq)])⟩, (by show (x.hi + 1 - ((rest.getD 0 default).hi + 1)).toNat < (x.hi + 1 - lo).toNat; omega), StLe.i13x17 (n := 18) (by decide) tmS ⟨⟨rfl, EntL.refl _, rfl⟩, trivial, ⟨rfl, EntL.refl _, rfl⟩, ⟨rfl, EntL.refl _, rfl⟩, trivial, trivial, trivial, trivial, trivial, ⟨rfl, EntL.cons ent_dropP (EntL.refl _), rfl⟩, ⟨rfl, EntL.refl _, rfl⟩, trivial, ⟨rfl, rfl⟩, trivial, ⟨rfl, EntL.refl _, rfl⟩, trivial, trivial, ⟨rfl, EntL.refl _, rfl⟩, own_refl, trivial⟩⟩
      · rcases Nat.eq_zero_or_pos out.length with hz | hz
        · refine gn ?_
          exact ⟨((rest.getD 0 default).hi + 1, rest.drop 1, out ++ [⟨a.what, lo, (rest.getD 0 default).hi, x.s, (rest.getD 0 default).s⟩]), ⟨(by show x.lo ≤ (rest.getD 0 default).hi + 1; omega), (by show (rest.getD 0 default).hi + 1 ≤ x.hi + 1; omega), t5, (by show (rest.drop 1).length ≤ 1000000; rw [List.length_drop]; omega), (by show out ++ _ = _; rw [← nx, addC, if_neg (show ¬ x.s = (rest.getD 0 default).s from hq), if_neg (fun h => absurd h.1 (by omega))])⟩, (by show (x.hi + 1 - ((rest.getD 0 default).hi + 1)).toNat < (x.hi + 1 - lo).toNat; omega), StLe.i13x17 (n := 20) (by decide) tmS ⟨⟨rfl, EntL.refl _, rfl⟩, trivial, ⟨rfl, EntL.refl _, rfl⟩, ⟨rfl, EntL.refl _, rfl⟩, trivial, trivial, trivial, trivial, trivial, ⟨rfl, EntL.cons ent_dropP (EntL.refl _), rfl⟩, ⟨rfl, EntL.refl _, rfl⟩, trivial, ⟨rfl, rfl⟩, trivial, ⟨rfl, EntL.refl _, rfl⟩, trivial, trivial, ⟨rfl, EntL.refl _, rfl⟩, own_app (lt5 (Ent.refl _) (Ent.refl _) (Ent.int em) (Ent.refl _) (Ent.refl _)), trivial⟩⟩
        · obtain ⟨e1, e2⟩ := hoe hz
          rw [← ek] at e1 e2
          by_cases j1 : (out.getD ((out.length : Int) - 1).toNat default).hi + 1 = lo
          · by_cases j2 : (out.getD ((out.length : Int) - 1).toNat default).old = x.s
            · by_cases j3 : (out.getD ((out.length : Int) - 1).toNat default).new = (rest.getD (Int.toNat 0) default).s
              · refine gn ?_
                rw [ek] at *
                exact ⟨((rest.getD 0 default).hi + 1, rest.drop 1, out.set (out.length - 1) (withHi (lastC out) ((rest.getD 0 default).hi))), ⟨(by show x.lo ≤ (rest.getD 0 default).hi + 1; omega), (by show (rest.getD 0 default).hi + 1 ≤ x.hi + 1; omega), t5, (by show (rest.drop 1).length ≤ 1000000; rw [List.length_drop]; omega), (by show out.set _ _ = _; rw [← nx, addC, if_neg (show ¬ x.s = (rest.getD 0 default).s from hq), if_pos ⟨hz, j1, j2, j3⟩])⟩, (by show (x.hi + 1 - ((rest.getD 0 default).hi + 1)).toNat < (x.hi + 1 - lo).toNat; omega), StLe.i13x17 (n := 18) (by decide) tmS ⟨⟨rfl, EntL.refl _, rfl⟩, trivial, ⟨rfl, EntL.refl _, rfl⟩, ⟨rfl, EntL.refl _, rfl⟩, trivial, trivial, trivial, trivial, trivial, ⟨rfl, EntL.cons ent_dropP (EntL.refl _), rfl⟩, ⟨rfl, EntL.refl _, rfl⟩, trivial, ⟨rfl, rfl⟩, trivial, ⟨rfl, EntL.refl _, rfl⟩, trivial, trivial, ⟨rfl, EntL.refl _, rfl⟩, own_set (lt5 (Ent.refl _) (Ent.refl _) (Ent.int em) (Ent.refl _) (Ent.refl _)) (by omega), trivial⟩⟩
              · refine gn ?_
                rw [ek] at *
                exact ⟨((rest.getD 0 default).hi + 1, rest.drop 1, out ++ [⟨a.what, lo, (rest.getD 0 default).hi, x.s, (rest.getD 0 default).s⟩]), ⟨(by show x.lo ≤ (rest.getD 0 default).hi + 1; omega), (by show (rest.getD 0 default).hi + 1 ≤ x.hi + 1; omega), t5, (by show (rest.drop 1).length ≤ 1000000; rw [List.length_drop]; omega), (by show out ++ _ = _; rw [← nx, addC, if_neg (show ¬ x.s = (rest.getD 0 default).s from hq), if_neg (fun h => j3 h.2.2.2)])⟩, (by show (x.hi + 1 - ((rest.getD 0 default).hi + 1)).toNat < (x.hi + 1 - lo).toNat; omega), StLe.i13x17 (n := 20) (by decide) tmS ⟨⟨rfl, EntL.refl _, rfl⟩, trivial, ⟨rfl, EntL.refl _, rfl⟩, ⟨rfl, EntL.refl _, rfl⟩, trivial, trivial, trivial, trivial, trivial, ⟨rfl, EntL.cons ent_dropP (EntL.refl _), rfl⟩, ⟨rfl, EntL.refl _, rfl⟩, trivial, ⟨rfl, rfl⟩, trivial, ⟨rfl, EntL.refl _, rfl⟩, trivial, trivial, ⟨rfl, EntL.refl _, rfl⟩, own_app (lt5 (Ent.refl _) (Ent.refl _) (Ent.int em) (Ent.refl _) (Ent.refl _)), trivial⟩⟩
            · refine gn ?_
              rw [ek] at *
              exact ⟨((rest.getD 0 default).hi + 1, rest.drop 1, out ++ [⟨a.what, lo, (rest.getD 0 default).hi, x.s, (rest.getD 0 default).s⟩]), ⟨(by show x.lo ≤ (rest.getD 0 default).hi + 1; omega), (by show (rest.getD 0 default).hi + 1 ≤ x.hi + 1; omega), t5, (by show (rest.drop 1).length ≤ 1000000; rw [List.length_drop]; omega), (by show out ++ _ = _; rw [← nx, addC, if_neg (show ¬ x.s = (rest.getD 0 default).s from hq), if_neg (fun h => j2 h.2.2.1)])⟩, (by show (x.hi + 1 - ((rest.getD 0 default).hi + 1)).toNat < (x.hi + 1 - lo).toNat; omega), StLe.i13x17 (n := 20) (by decide) tmS ⟨⟨rfl, EntL.refl _, rfl⟩, trivial, ⟨rfl, EntL.refl _, rfl⟩, ⟨rfl, EntL.refl _, rfl⟩, trivial, trivial, trivial, trivial, trivial, ⟨rfl, EntL.cons ent_dropP (EntL.refl _), rfl⟩, ⟨rfl, EntL.refl _, rfl⟩, trivial, ⟨rfl, rfl⟩, trivial, ⟨rfl, EntL.refl _, rfl⟩, trivial, trivial, ⟨rfl, EntL.refl _, rfl⟩, own_app (lt5 (Ent.refl _) (Ent.refl _) (Ent.int em) (Ent.refl _) (Ent.refl _)), trivial⟩⟩
          · refine gn ?_
            rw [ek] at *
            exact ⟨((rest.getD 0 default).hi + 1, rest.drop 1, out ++ [⟨a.what, lo, (rest.getD 0 default).hi, x.s, (rest.getD 0 default).s⟩]), ⟨(by show x.lo ≤ (rest.getD 0 default).hi + 1; omega), (by show (rest.getD 0 default).hi + 1 ≤ x.hi + 1; omega), t5, (by show (rest.drop 1).length ≤ 1000000; rw [List.length_drop]; omega), (by show out ++ _ = _; rw [← nx, addC, if_neg (show ¬ x.s = (rest.getD 0 default).s from hq), if_neg (fun h => j1 h.2.1)])⟩, (by show (x.hi + 1 - ((rest.getD 0 default).hi + 1)).toNat < (x.hi + 1 - lo).toNat; omega), StLe.i13x17 (n := 20) (by decide) tmS ⟨⟨rfl, EntL.refl _, rfl⟩, trivial, ⟨rfl, EntL.refl _, rfl⟩, ⟨rfl, EntL.refl _, rfl⟩, trivial, trivial, trivial, trivial, trivial, ⟨rfl, EntL.cons ent_dropP (EntL.refl _), rfl⟩, ⟨rfl, EntL.refl _, rfl⟩, trivial, ⟨rfl, rfl⟩, trivial, ⟨rfl, EntL.refl _, rfl⟩, trivial, trivial, ⟨rfl, EntL.refl _, rfl⟩, own_app (lt5 (Ent.refl _) (Ent.refl _) (Ent.int em) (Ent.refl _) (Ent.refl _)), trivial⟩⟩
    · have nx := in_one hx0 hva h1 hlt (Int.le_refl _) (fun c c1 c2 => t4 c c1 (by omega)) h5
      have t6 := tiles_to h3 (show lo ≤ x.hi + 1 by omega) (by omega) (by omega)
      have em : min x.hi (rest.getD (Int.toNat 0) default).hi = x.hi := by omega
      clear h3 h5 hva hk
      by_cases hq : x.s = (rest.getD (Int.toNat 0) default).s
      · refine gn ?_
        exact ⟨(x.hi + 1, rest, out), ⟨(by show x.lo ≤ x.hi + 1; omega), (by show x.hi + 1 ≤ x.hi + 1; omega), t6, h4, (by show out = _; rw [← nx, addC, if_pos (show x.s = (rest.getD 0 default).s from hq)])⟩, (by show (x.hi + 1 - (x.hi + 1)).toNat < (x.hi + 1 - lo).toNat; omega), StLe.i13x17 (n := 18) (by decide) tmS ⟨⟨rfl, EntL.refl _, rfl⟩, trivial, ⟨rfl, EntL.refl _, rfl⟩, ⟨rfl, EntL.refl _, rfl⟩, trivial, trivial, trivial, trivial, trivial, ⟨rfl, EntL.refl _, rfl⟩, ⟨rfl, EntL.refl _, rfl⟩, trivial, ⟨rfl, rfl⟩, trivial, ⟨rfl, EntL.refl _, rfl⟩, trivial, trivial, ⟨rfl, EntL.refl _, rfl⟩, own_refl, trivial⟩⟩
      · rcases Nat.eq_zero_or_pos out.length with hz | hz
        · refine gn ?_
          exact ⟨(x.hi + 1, rest, out ++ [⟨a.what, lo, x.hi, x.s, (rest.getD 0 default).s⟩]), ⟨(by show x.lo ≤ x.hi + 1; omega), (by show x.hi + 1 ≤ x.hi + 1; omega), t6, h4, (by show out ++ _ = _; rw [← nx, addC, if_neg (show ¬ x.s = (rest.getD 0 default).s from hq), if_neg (fun h => absurd h.1 (by omega))])⟩, (by show (x.hi + 1 - (x.hi + 1)).toNat < (x.hi + 1 - lo).toNat; omega), StLe.i13x17 (n := 20) (by decide) tmS ⟨⟨rfl, EntL.refl _, rfl⟩, trivial, ⟨rfl, EntL.refl _, rfl⟩, ⟨rfl, EntL.refl _, rfl⟩, trivial, trivial, trivial, trivial, trivial, ⟨rfl, EntL.refl _, rfl⟩, ⟨rfl, EntL.refl _, rfl⟩, trivial, ⟨rfl, rfl⟩, trivial, ⟨rfl, EntL.refl _, rfl⟩, trivial, trivial, ⟨rfl, EntL.refl _, rfl⟩, own_app (lt5 (Ent.refl _) (Ent.refl _) (Ent.int em) (Ent.refl _) (Ent.refl _)), trivial⟩⟩
        · obtain ⟨e1, e2⟩ := hoe hz
          rw [← ek] at e1 e2
          by_cases j1 : (out.getD ((out.length : Int) - 1).toNat default).hi + 1 = lo
          · by_cases j2 : (out.getD ((out.length : Int) - 1).toNat default).old = x.s
            · by_cases j3 : (out.getD ((out.length : Int) - 1).toNat default).new = (rest.getD (Int.toNat 0) default).s
              · refine gn ?_
                rw [ek] at *
                exact ⟨(x.hi + 1, rest, out.set (out.length - 1) (withHi (lastC out) (x.hi))), ⟨(by show x.lo ≤ x.hi + 1; omega), (by show x.hi + 1 ≤ x.hi + 1; omega), t6, h4, (by show out.set _ _ = _; rw [← nx, addC, if_neg (show ¬ x.s = (rest.getD 0 default).s from hq), if_pos ⟨hz, j1, j2, j3⟩])⟩, (by show (x.hi + 1 - (x.hi + 1)).toNat < (x.hi + 1 - lo).toNat; omega), StLe.i13x17 (n := 18) (by decide) tmS ⟨⟨rfl, EntL.refl _, rfl⟩, trivial, ⟨rfl, EntL.refl _, rfl⟩, ⟨rfl, EntL.refl _, rfl⟩, trivial, trivial, trivial, trivial, trivial, ⟨rfl, EntL.refl _, rfl⟩, ⟨rfl, EntL.refl _, rfl⟩, trivial, ⟨rfl, rfl⟩, trivial, ⟨rfl, EntL.refl _, rfl⟩, trivial, trivial, ⟨rfl, EntL.refl _, rfl⟩, own_set (lt5 (Ent.refl _) (Ent.refl _) (Ent.int em) (Ent.refl _) (Ent.refl _)) (by omega), trivial⟩⟩
              · refine gn ?_
                rw [ek] at *
                exact ⟨(x.hi + 1, rest, out ++ [⟨a.what, lo, x.hi, x.s, (rest.getD 0 default).s⟩]), ⟨(by show x.lo ≤ x.hi + 1; omega), (by show x.hi + 1 ≤ x.hi + 1; omega), t6, h4, (by show out ++ _ = _; rw [← nx, addC, if_neg (show ¬ x.s = (rest.getD 0 default).s from hq), if_neg (fun h => j3 h.2.2.2)])⟩, (by show (x.hi + 1 - (x.hi + 1)).toNat < (x.hi + 1 - lo).toNat; omega), StLe.i13x17 (n := 20) (by decide) tmS ⟨⟨rfl, EntL.refl _, rfl⟩, trivial, ⟨rfl, EntL.refl _, rfl⟩, ⟨rfl, EntL.refl _, rfl⟩, trivial, trivial, trivial, trivial, trivial, ⟨rfl, EntL.refl _, rfl⟩, ⟨rfl, EntL.refl _, rfl⟩, trivial, ⟨rfl, rfl⟩, trivial, ⟨rfl, EntL.refl _, rfl⟩, trivial, trivial, ⟨rfl, EntL.refl _, rfl⟩, own_app (lt5 (Ent.refl _) (Ent.refl _) (Ent.int em) (Ent.refl _) (Ent.refl _)), trivial⟩⟩
            · refine gn ?_
              rw [ek] at *
              exact ⟨(x.hi + 1, rest, out ++ [⟨a.what, lo, x.hi, x.s, (rest.getD 0 default).s⟩]), ⟨(by show x.lo ≤ x.hi + 1; omega), (by show x.hi + 1 ≤ x.hi + 1; omega), t6, h4, (by show out ++ _ = _; rw [← nx, addC, if_neg (show ¬ x.s = (rest.getD 0 default).s from hq), if_neg (fun h => j2 h.2.2.1)])⟩, (by show (x.hi + 1 - (x.hi + 1)).toNat < (x.hi + 1 - lo).toNat; omega), StLe.i13x17 (n := 20) (by decide) tmS ⟨⟨rfl, EntL.refl _, rfl⟩, trivial, ⟨rfl, EntL.refl _, rfl⟩, ⟨rfl, EntL.refl _, rfl⟩, trivial, trivial, trivial, trivial, trivial, ⟨rfl, EntL.refl _, rfl⟩, ⟨rfl, EntL.refl _, rfl⟩, trivial, ⟨rfl, rfl⟩, trivial, ⟨rfl, EntL.refl _, rfl⟩, trivial, trivial, ⟨rfl, EntL.refl _, rfl⟩, own_app (lt5 (Ent.refl _) (Ent.refl _) (Ent.int em) (Ent.refl _) (Ent.refl _)), trivial⟩⟩
          · refine gn ?_
            rw [ek] at *
            exact ⟨(x.hi + 1, rest, out ++ [⟨a.what, lo, x.hi, x.s, (rest.getD 0 default).s⟩]), ⟨(by show x.lo ≤ x.hi + 1; omega), (by show x.hi + 1 ≤ x.hi + 1; omega), t6, h4, (by show out ++ _ = _; rw [← nx, addC, if_neg (show ¬ x.s = (rest.getD 0 default).s from hq), if_neg (fun h => j1 h.2.1)])⟩, (by show (x.hi + 1 - (x.hi + 1)).toNat < (x.hi + 1 - lo).toNat; omega), StLe.i13x17 (n := 20) (by decide) tmS ⟨⟨rfl, EntL.refl _, rfl⟩, trivial, ⟨rfl, EntL.refl _, rfl⟩, ⟨rfl, EntL.refl _, rfl⟩, trivial, trivial, trivial, trivial, trivial, ⟨rfl, EntL.refl _, rfl⟩, ⟨rfl, EntL.refl _, rfl⟩, trivial, ⟨rfl, rfl⟩, trivial, ⟨rfl, EntL.refl _, rfl⟩, trivial, trivial, ⟨rfl, EntL.refl _, rfl⟩, own_app (lt5 (Ent.refl _) (Ent.refl _) (Ent.int em) (Ent.refl _) (Ent.refl _)), trivial⟩⟩
  · have e : lo = x.hi + 1 := by omega
    subst e
    subst h5
    refine gn ?_
    exact hk _ rest h3 h4
end Go.Proofs
