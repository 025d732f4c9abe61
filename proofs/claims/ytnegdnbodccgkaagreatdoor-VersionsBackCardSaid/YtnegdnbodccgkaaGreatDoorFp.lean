import Derived.Test.YtnegdnbodccgkaaGreatDoorFx1
import Derived.Test.YtnegdnbodccgkaaGreatDoorFx2
set_option linter.unusedVariables false
set_option linter.unusedSimpArgs false
namespace Go.Proofs
open Go Go.Sx
variable {mx : Int} {pb : Bool}

/-! versions.compare: the loops -/
theorem StLe.r13 {tm tm' : List (Nat × D)} {ow ow' : List Own} {n : Nat} (hn : [0, 1, 2, 3, 4, 5, 6, 7, 8, 9, 10, 11, 12, n].Nodup) (h1 : renT [0, 1, 2, 3, 4, 5, 6, 7, 8, 9, 10, 11, 12, n] tm tm') (h2 : renO [0, 1, 2, 3, 4, 5, 6, 7, 8, 9, 10, 11, 12, n] ow [0, 1, 2, 3, 4, 5, 6, 7, 8, 9, 10, 11, 12, n] ow') : StLe 13 ⟨tm, ow, []⟩ ⟨tm', ow', []⟩ :=
  StLe.renm [0, 1, 2, 3, 4, 5, 6, 7, 8, 9, 10, 11, 12, n] h1 h2 hn (fun i hi => by
    match i, hi with
    | 0, _ => rfl
    | 1, _ => rfl
    | 2, _ => rfl
    | 3, _ => rfl
    | 4, _ => rfl
    | 5, _ => rfl
    | 6, _ => rfl
    | 7, _ => rfl
    | 8, _ => rfl
    | 9, _ => rfl
    | 10, _ => rfl
    | 11, _ => rfl
    | 12, _ => rfl
    | i + 13, h => exact absurd (show i + 13 < 13 from h) (by omega)) (by simp)
def sL13 (a : Fl) : Nat × Int × List Pc × List Ch → St
  | (k, nx, rest, out) => ⟨[(0, .yl 12), (1, .own 10 0), (3, .v (.int .i64 nx)), (7, slD 3 pcD a.pcs), (8, .v (.int .i64 a.pcs.length)), (9, .v (.int .i64 k))], [flO a, .gone, .cells 42 [.row 13], fnC, .gone, .gone, .gone, .gone, .gone, .cells 95 [slD 3 pcD rest], flO a, .defd, .lp .ready none, rowL 49 5 chD out], []⟩
theorem StLe.r15 {tm tm' : List (Nat × D)} {ow ow' : List Own} {n : Nat} (hn : [0, 1, 2, 3, 4, 5, 6, 7, 8, 9, 10, 11, 12, 13, 14, n].Nodup) (h1 : renT [0, 1, 2, 3, 4, 5, 6, 7, 8, 9, 10, 11, 12, 13, 14, n] tm tm') (h2 : renO [0, 1, 2, 3, 4, 5, 6, 7, 8, 9, 10, 11, 12, 13, 14, n] ow [0, 1, 2, 3, 4, 5, 6, 7, 8, 9, 10, 11, 12, 13, 14, n] ow') : StLe 15 ⟨tm, ow, []⟩ ⟨tm', ow', []⟩ :=
  StLe.renm [0, 1, 2, 3, 4, 5, 6, 7, 8, 9, 10, 11, 12, 13, 14, n] h1 h2 hn (fun i hi => by
    match i, hi with
    | 0, _ => rfl
    | 1, _ => rfl
    | 2, _ => rfl
    | 3, _ => rfl
    | 4, _ => rfl
    | 5, _ => rfl
    | 6, _ => rfl
    | 7, _ => rfl
    | 8, _ => rfl
    | 9, _ => rfl
    | 10, _ => rfl
    | 11, _ => rfl
    | 12, _ => rfl
    | 13, _ => rfl
    | 14, _ => rfl
    | i + 15, h => exact absurd (show i + 15 < 15 from h) (by omega)) (by simp)
def sL15 (a : Fl) : Nat × Int × List Pc × List Ch → St
  | (k, nx, rest, out) => ⟨[(0, .yl 14), (1, .own 12 0), (3, .v (.int .i64 nx)), (7, slD 3 pcD a.pcs), (8, .v (.int .i64 a.pcs.length)), (9, .v (.int .i64 k))], [flO a, .gone, .cells 42 [.row 15], fnC, .gone, .gone, .gone, .gone, .gone, .gone, .gone, .cells 95 [slD 3 pcD rest], flO a, .defd, .lp .ready none, rowL 49 5 chD out], []⟩
def L2Inv (a b : Fl) : Nat × Int × List Pc × List Ch → Prop
  | (k, nx, rest, out) => k ≤ a.pcs.length ∧ 0 ≤ nx ∧ AscP nx (a.pcs.drop k) ∧ Tiles (flV a) nx (segsP a.other nx (a.pcs.drop k)) ∧ Tiles (flV b) nx rest ∧ rest.length ≤ 1000000 ∧ out = chB a.what (flV a) (flV b) nx
def ctPCmp : Ct := { ι := Fl × Fl, inp := fun x => [flA x.1, flA x.2], out := fun x => chsD (chB x.1.what (flV x.1) (flV x.2) 1114112), pre := fun x => AscP 0 x.1.pcs ∧ AscP 0 x.2.pcs ∧ x.1.pcs.length ≤ 1000 ∧ x.2.pcs.length ≤ 1000 }
set_option maxHeartbeats 32000000 in
theorem pCmp_ok : Sound Tryz.prog (GlT mx pb) 49 ctPCmp := by
  refine sound_by (cc := true) Γpc_ok Tryz.T_ok Tryz.mixed Tryz.func49 rfl (by kernel_rfl) (fun _ => rfl) (fun _ _ => by show 2 ≤ 50; decide) ?_
  rintro ⟨(a : Fl), (b : Fl)⟩ ⟨(ha : AscP 0 a.pcs), (hb : AscP 0 b.pcs), (la : a.pcs.length ≤ 1000), (lb : b.pcs.length ≤ 1000)⟩
  repeat' (first | refine gl ?_ | (refine br (fun q_ => ?_) (fun q_ => ?_) <;> try simp only [Int.toNat_natCast, Nat.mul_one, Nat.add_zero] at q_) | (refine brF (fun q_ => ?_) (fun q_ => ?_) <;> try simp only [Int.toNat_natCast, Nat.mul_one, Nat.add_zero] at q_))
  refine ⟨0, Nat × Int × List Pc, fun | (k, nx, acc) => ⟨[(0, .yl 7), (1, .own 4 0), (3, .v (.int .i64 nx)), (7, slD 3 pcD b.pcs), (8, .v (.int .i64 b.pcs.length)), (9, .v (.int .i64 k))], [flO a, flO b, .cells 42 [nilV], fnC, flO b, .cells 95 [.row 8], .defd, .lp .ready none, rowL 184 3 pcD acc], []⟩, CoInv b.other b.pcs, fun x => b.pcs.length - x.1, fun _ => (by show 8 ≤ 9; decide), ⟨(0, 0, []), ⟨Nat.zero_le _, Int.le_refl _, hb, Nat.le_refl _, rfl⟩, StLe.trans (StLe.nilCell (i := 5) (j := 0) 184 3 (fun _ _ => .junk) rfl rfl) (StLe.r8 (n := 8) (by decide) tmS ⟨⟨rfl, EntL.refl _, rfl⟩, ⟨rfl, EntL.refl _, rfl⟩, ⟨rfl, EntL.refl _, rfl⟩, ⟨rfl, EntL.refl _, rfl⟩, ⟨rfl, EntL.refl _, rfl⟩, ⟨rfl, EntL.refl _, rfl⟩, trivial, ⟨rfl, rfl⟩, own_nil, trivial⟩)⟩, ?_⟩
  rintro ⟨k, nx, acc⟩ ⟨hk, hnn, hasc, hlen, heq⟩
  have hk : k ≤ b.pcs.length := hk
  have hnn : 0 ≤ nx := hnn
  have hlen : acc.length ≤ 2 * k := hlen
  have hasc : AscP nx (b.pcs.drop k) := hasc
  have heq : acc ++ segsP b.other nx (b.pcs.drop k) = segsP b.other 0 b.pcs := heq
  by_cases hlt : k < b.pcs.length
  · have hd := drop_cons hlt
    rw [hd] at hasc heq
    obtain ⟨h1, h2, h3, h4⟩ := hasc
    have nxt : ∀ acc', acc' = (if nx < (b.pcs.getD k default).lo then acc ++ [⟨nx, (b.pcs.getD k default).lo - 1, b.other⟩] ++ [b.pcs.getD k default] else acc ++ [b.pcs.getD k default]) → CoInv b.other b.pcs (k + 1, (b.pcs.getD k default).hi + 1, acc') := fun acc' e => by
      refine ⟨(by show k + 1 ≤ _; omega), (by show 0 ≤ (b.pcs.getD k default).hi + 1; omega), h4, ?_, ?_⟩
      · show acc'.length ≤ 2 * (k + 1)
        rw [e]; split <;> simp <;> omega
      · show acc' ++ segsP b.other ((b.pcs.getD k default).hi + 1) (b.pcs.drop (k + 1)) = _
        rw [← heq, segsP, e]
        split <;> simp
    clear heq hd h4 ha hb hasc
    have ek : ((k : Int)).toNat = k := Int.toNat_natCast k
    repeat (first | refine wk1 ?_ | refine wk2 ?_ | refine wk3 ?_ | refine wt1 ?_ | refine wt2 ?_ | refine wt3 ?_ | refine wt4 ?_ | refine bt1 ?_ | refine bt2 ?_ | refine bt3 ?_ | refine bt4 ?_ | refine wn1 ?_ | refine wn2 ?_ | refine wnb ?_ | refine wa ?_)
    generalize hp : decide (nx < (b.pcs.getD ((k : Int)).toNat default).lo) = p
    cases p
    case true =>
      have hp' : nx < (b.pcs.getD k default).lo := by simpa using hp
      iterate 42 (try (first | refine wk1 ?_ | refine wk2 ?_ | refine wk3 ?_ | refine wt1 ?_ | refine wt2 ?_ | refine wt3 ?_ | refine wt4 ?_ | refine bt1 ?_ | refine bt2 ?_ | refine bt3 ?_ | refine bt4 ?_ | refine wn1 ?_ | refine wn2 ?_ | refine wnb ?_ | refine wa ?_))
      simp only [setOwn, goneO, flO, fnC, rowL, retD, List.map_cons, List.map_nil, List.cons_append, List.nil_append, List.append_nil, List.length_cons, List.length_nil, List.length_append, Nat.reduceAdd, Nat.zero_add, reduceIte]
      repeat (first | refine wk1 ?_ | refine wk2 ?_ | refine wk3 ?_ | refine wt1 ?_ | refine wt2 ?_ | refine wt3 ?_ | refine wt4 ?_ | refine bt1 ?_ | refine bt2 ?_ | refine bt3 ?_ | refine bt4 ?_ | refine wn1 ?_ | refine wn2 ?_ | refine wnb ?_ | refine wa ?_)
      simp only [setOwn, goneO, flO, fnC, rowL, retD, List.map_cons, List.map_nil, List.cons_append, List.nil_append, List.append_nil, List.length_cons, List.length_nil, List.length_append, Nat.reduceAdd, Nat.zero_add, reduceIte]
      refine ⟨(k + 1, (b.pcs.getD k default).hi + 1, acc ++ [⟨nx, (b.pcs.getD k default).lo - 1, b.other⟩] ++ [b.pcs.getD k default]), nxt _ (by rw [if_pos hp']), (by show _ - (k + 1) < _ - k; omega), StLe.r8 (n := 13) (by decide) tmS ⟨⟨rfl, EntL.refl _, rfl⟩, ⟨rfl, EntL.refl _, rfl⟩, ⟨rfl, EntL.refl _, rfl⟩, ⟨rfl, EntL.refl _, rfl⟩, ⟨rfl, EntL.refl _, rfl⟩, ⟨rfl, EntL.refl _, rfl⟩, trivial, ⟨rfl, rfl⟩, ?_, trivial⟩⟩
      show OwnRen [0, 1, 2, 3, 4, 5, 6, 7, 13] (Own.row 184 3 (acc.length + 1 + 1) (catF (acc.length + 1) (catF acc.length (fun i j => pcD (acc.getD i default) j) _) _)) (rowL 184 3 pcD (acc ++ [⟨nx, (b.pcs.getD k default).lo - 1, b.other⟩] ++ [b.pcs.getD k default]))
      exact own_app2 (lt3 (Ent.refl _) (Ent.refl _) (Ent.refl _)) (lt3 (Ent.refl _) (Ent.refl _) (Ent.refl _))
    case false =>
      have hp' : ¬ nx < (b.pcs.getD k default).lo := by simpa using hp
      repeat (first | refine wk1 ?_ | refine wk2 ?_ | refine wk3 ?_ | refine wt1 ?_ | refine wt2 ?_ | refine wt3 ?_ | refine wt4 ?_ | refine bt1 ?_ | refine bt2 ?_ | refine bt3 ?_ | refine bt4 ?_ | refine wn1 ?_ | refine wn2 ?_ | refine wnb ?_ | refine wa ?_)
      exact ⟨(k + 1, (b.pcs.getD k default).hi + 1, acc ++ [b.pcs.getD k default]), nxt _ (by rw [if_neg hp']), (by show _ - (k + 1) < _ - k; omega), StLe.r8 (n := 11) (by decide) tmS ⟨⟨rfl, EntL.refl _, rfl⟩, ⟨rfl, EntL.refl _, rfl⟩, ⟨rfl, EntL.refl _, rfl⟩, ⟨rfl, EntL.refl _, rfl⟩, ⟨rfl, EntL.refl _, rfl⟩, ⟨rfl, EntL.refl _, rfl⟩, trivial, ⟨rfl, rfl⟩, own_app (lt3 (Ent.refl _) (Ent.refl _) (Ent.refl _)), trivial⟩⟩
  · have e : k = b.pcs.length := by omega
    have hd : b.pcs.drop k = [] := List.drop_eq_nil_of_le (by omega)
    rw [hd] at hasc heq
    have hb1 : nx ≤ 1114112 := hasc
    by_cases hn : nx ≤ 1114111
    · have hacc : acc ++ [⟨nx, 1114111, b.other⟩] = segsP b.other 0 b.pcs := by rw [← heq, segsP, if_pos hn]
      have hT : Tiles (flV b) 0 (acc ++ [⟨nx, 1114111, b.other⟩]) := by rw [hacc]; exact segs_tiles hb
      have hrl : (acc ++ [(⟨nx, 1114111, b.other⟩ : Pc)]).length ≤ 1000000 := by rw [List.length_append]; show acc.length + 1 ≤ _; omega
      have hal : acc.length ≤ 2000 := by omega
      clear heq hacc hd
      refine gn ?_
      refine ⟨0, Nat × Int × List Pc × List Ch, sL15 a, L2Inv a b, fun x => a.pcs.length - x.1, fun _ => (by show 15 ≤ 16; decide), ⟨(0, 0, acc ++ [⟨nx, 1114111, b.other⟩], []), ⟨Nat.zero_le _, Int.le_refl _, ha, segs_tiles ha, hT, hrl, (chB_zero _ _ _).symm⟩, StLe.trans (StLe.frz (i := 11) (j := 0) (r := 10) rfl rfl rfl) (StLe.trans (StLe.killsB (is := [1, 4, 5, 6, 7, 8, 9, 10]) rfl) (StLe.trans (StLe.nilCell (i := 2) (j := 0) 49 5 (fun _ _ => .junk) rfl rfl) (StLe.r15 (n := 15) (by decide) tmS ⟨⟨rfl, EntL.refl _, rfl⟩, trivial, ⟨rfl, EntL.refl _, rfl⟩, ⟨rfl, EntL.refl _, rfl⟩, trivial, trivial, trivial, trivial, trivial, trivial, trivial, ⟨rfl, EntL.cons (ent_app (lt3 (Ent.refl _) (Ent.refl _) (Ent.refl _))) (EntL.refl _), rfl⟩, ⟨rfl, EntL.refl _, rfl⟩, trivial, ⟨rfl, rfl⟩, own_nil, trivial⟩)))⟩, ?_⟩
      clear hT hrl
      rintro ⟨k2, nx2, rest, out⟩ ⟨hk2, hnn2, hasc2, hta, hT, hrl, hout⟩
      have hk2 : k2 ≤ a.pcs.length := hk2
      have hnn2 : 0 ≤ nx2 := hnn2
      have hasc2 : AscP nx2 (a.pcs.drop k2) := hasc2
      have hta : Tiles (flV a) nx2 (segsP a.other nx2 (a.pcs.drop k2)) := hta
      have hT : Tiles (flV b) nx2 rest := hT
      have hrl : rest.length ≤ 1000000 := hrl
      have hout : out = chB a.what (flV a) (flV b) nx2 := hout
      by_cases hlt2 : k2 < a.pcs.length
      · have hd := drop_cons hlt2
        rw [hd] at hasc2 hta
        obtain ⟨g1, g2, g3, g4⟩ := hasc2
        unfold segsP at hta
        have hc1 : 0 ≤ (a.pcs.getD ((k2 : Int)).toNat default).hi := (by show 0 ≤ (a.pcs.getD k2 default).hi; omega)
        have hc2 : (a.pcs.getD ((k2 : Int)).toNat default).hi ≤ 1114111 := g3
        have hc3 : (a.pcs.getD ((k2 : Int)).toNat default).lo ≤ 1114111 := (by show (a.pcs.getD k2 default).lo ≤ _; omega)
        have hc4 : 0 ≤ (a.pcs.getD ((k2 : Int)).toNat default).lo := (by show 0 ≤ (a.pcs.getD k2 default).lo; omega)
        by_cases hp : nx2 < (a.pcs.getD k2 default).lo
        · rw [if_pos hp] at hta
          obtain ⟨-, -, -, v1, ht2⟩ := hta
          rw [Int.sub_add_cancel] at ht2
          obtain ⟨-, -, -, v2, ht3⟩ := ht2
          have hp' : nx2 < (a.pcs.getD ((k2 : Int)).toNat default).lo := hp
          clear hd hb ha hasc
          refine gn ?_
          refine in15x17 a b (a.pcs.getD k2 default) ⟨nx2, (a.pcs.getD k2 default).lo - 1, a.other⟩ rest hnn2 (by show (a.pcs.getD k2 default).lo - 1 ≤ 1114111; omega) (by show nx2 ≤ (a.pcs.getD k2 default).lo - 1 + 1; omega) v1 hT hrl ?_ ?_
          · exact (StLe.trans (StLe.move (i := 2) (j := 0) (r := 15) rfl rfl rfl) (StLe.i15x17 (n := 18) (by decide) tmS ⟨⟨rfl, EntL.refl _, rfl⟩, trivial, ⟨rfl, EntL.refl _, rfl⟩, ⟨rfl, EntL.refl _, rfl⟩, trivial, trivial, trivial, trivial, trivial, trivial, trivial, ⟨rfl, EntL.refl _, rfl⟩, ⟨rfl, EntL.refl _, rfl⟩, trivial, ⟨rfl, rfl⟩, trivial, ⟨rfl, EntL.refl _, rfl⟩, ⟨rfl, EntL.refl _, rfl⟩, own_eq hout, trivial⟩))
          intro tm1 rest1 hT1 hrl1
          have hT1 : Tiles (flV b) ((a.pcs.getD k2 default).lo - 1 + 1) rest1 := hT1
          have hx1 : chB a.what (flV a) (flV b) ((a.pcs.getD k2 default).lo - 1 + 1) = chB a.what (flV a) (flV b) (a.pcs.getD k2 default).lo := by rw [Int.sub_add_cancel]
          rw [Int.sub_add_cancel] at hT1
          refine gn ?_
          refine in15x19 a b (a.pcs.getD k2 default) (a.pcs.getD k2 default) rest1 (by omega) g3 (by omega) v2 hT1 hrl1 ?_ ?_
          · exact (StLe.trans (StLe.killsB (is := [17]) rfl) (StLe.trans (StLe.move (i := 2) (j := 0) (r := 18) rfl rfl rfl) (StLe.i15x19 (n := 20) (by decide) tmS ⟨⟨rfl, EntL.refl _, rfl⟩, trivial, ⟨rfl, EntL.refl _, rfl⟩, ⟨rfl, EntL.refl _, rfl⟩, trivial, trivial, trivial, trivial, trivial, trivial, trivial, ⟨rfl, EntL.refl _, rfl⟩, ⟨rfl, EntL.refl _, rfl⟩, trivial, ⟨rfl, rfl⟩, trivial, ⟨rfl, EntL.refl _, rfl⟩, trivial, trivial, ⟨rfl, EntL.refl _, rfl⟩, own_eq hx1, trivial⟩)))
          intro tm2 rest2 hT2 hrl2
          refine gn ?_
          exact ⟨(k2 + 1, (a.pcs.getD k2 default).hi + 1, rest2, chB a.what (flV a) (flV b) ((a.pcs.getD k2 default).hi + 1)), ⟨(by show k2 + 1 ≤ _; omega), (by show 0 ≤ (a.pcs.getD k2 default).hi + 1; omega), g4, ht3, hT2, hrl2, rfl⟩, (by show _ - (k2 + 1) < _ - k2; omega), StLe.r15 (n := 20) (by decide) tmS ⟨⟨rfl, EntL.refl _, rfl⟩, trivial, ⟨rfl, EntL.refl _, rfl⟩, ⟨rfl, EntL.refl _, rfl⟩, trivial, trivial, trivial, trivial, trivial, trivial, trivial, ⟨rfl, EntL.refl _, rfl⟩, ⟨rfl, EntL.refl _, rfl⟩, trivial, ⟨rfl, rfl⟩, own_refl, trivial⟩⟩
        · rw [if_neg hp] at hta
          obtain ⟨-, -, -, v2, ht3⟩ := hta
          have hp' : ¬ nx2 < (a.pcs.getD ((k2 : Int)).toNat default).lo := hp
          have hnx : nx2 = (a.pcs.getD k2 default).lo := by omega
          rw [hnx] at v2 hT hout
          clear hd hb ha hasc
          refine gn ?_
          refine in15x17 a b (a.pcs.getD k2 default) (a.pcs.getD k2 default) rest (by omega) g3 (by omega) v2 hT hrl ?_ ?_
          · exact (StLe.trans (StLe.move (i := 2) (j := 0) (r := 15) rfl rfl rfl) (StLe.i15x17 (n := 18) (by decide) tmS ⟨⟨rfl, EntL.refl _, rfl⟩, trivial, ⟨rfl, EntL.refl _, rfl⟩, ⟨rfl, EntL.refl _, rfl⟩, trivial, trivial, trivial, trivial, trivial, trivial, trivial, ⟨rfl, EntL.refl _, rfl⟩, ⟨rfl, EntL.refl _, rfl⟩, trivial, ⟨rfl, rfl⟩, trivial, ⟨rfl, EntL.refl _, rfl⟩, ⟨rfl, EntL.refl _, rfl⟩, own_eq hout, trivial⟩))
          intro tm2 rest2 hT2 hrl2
          refine gn ?_
          exact ⟨(k2 + 1, (a.pcs.getD k2 default).hi + 1, rest2, chB a.what (flV a) (flV b) ((a.pcs.getD k2 default).hi + 1)), ⟨(by show k2 + 1 ≤ _; omega), (by show 0 ≤ (a.pcs.getD k2 default).hi + 1; omega), g4, ht3, hT2, hrl2, rfl⟩, (by show _ - (k2 + 1) < _ - k2; omega), StLe.r15 (n := 18) (by decide) tmS ⟨⟨rfl, EntL.refl _, rfl⟩, trivial, ⟨rfl, EntL.refl _, rfl⟩, ⟨rfl, EntL.refl _, rfl⟩, trivial, trivial, trivial, trivial, trivial, trivial, trivial, ⟨rfl, EntL.refl _, rfl⟩, ⟨rfl, EntL.refl _, rfl⟩, trivial, ⟨rfl, rfl⟩, own_refl, trivial⟩⟩
      · have hd : a.pcs.drop k2 = [] := List.drop_eq_nil_of_le (by omega)
        rw [hd] at hasc2 hta
        have hle : nx2 ≤ 1114112 := hasc2
        by_cases hn2 : nx2 ≤ 1114111
        · unfold segsP at hta
          rw [if_pos hn2] at hta
          obtain ⟨-, -, -, v1, -⟩ := hta
          clear hd hb ha
          refine gn ?_
          refine in15x16 a b ⟨nx2, 1114111, a.other⟩ rest hnn2 (Int.le_refl _) (by show nx2 ≤ 1114111 + 1; omega) v1 hT hrl ?_ ?_
          · exact (StLe.trans (StLe.move (i := 2) (j := 0) (r := 15) rfl rfl rfl) (StLe.i15x16 (n := 17) (by decide) tmS ⟨⟨rfl, EntL.refl _, rfl⟩, trivial, ⟨rfl, EntL.refl _, rfl⟩, ⟨rfl, EntL.refl _, rfl⟩, trivial, trivial, trivial, trivial, trivial, trivial, trivial, ⟨rfl, EntL.refl _, rfl⟩, ⟨rfl, EntL.refl _, rfl⟩, trivial, ⟨rfl, rfl⟩, trivial, ⟨rfl, EntL.refl _, rfl⟩, own_eq hout, trivial⟩))
          intro tm2 rest2 hT2 hrl2
          have hfin : chB a.what (flV a) (flV b) ((⟨nx2, 1114111, a.other⟩ : Pc).hi + 1) = chB a.what (flV a) (flV b) 1114112 := rfl
          rw [hfin]
          have hct : ctPCmp.out (a, b) = chsD (chB a.what (flV a) (flV b) 1114112) := rfl
          rw [hct]
          generalize chB a.what (flV a) (flV b) 1114112 = fin
          clear hfin hct
          refine gn ?_
          exact EntR.of rfl (Ent.refl _)
        · have hn3 : nx2 = 1114112 := by omega
          have hct : ctPCmp.out (a, b) = chsD out := by rw [hout, hn3]; rfl
          rw [hct]
          clear hct hout hd hb ha
          refine gn ?_
          exact EntR.of rfl (Ent.refl _)
    · have hacc : acc = segsP b.other 0 b.pcs := by rw [← heq, segsP, if_neg hn, List.append_nil]
      have hT : Tiles (flV b) 0 acc := by rw [hacc]; exact segs_tiles hb
      have hrl : acc.length ≤ 1000000 := by omega
      clear heq hacc hd
      refine gn ?_
      refine ⟨0, Nat × Int × List Pc × List Ch, sL13 a, L2Inv a b, fun x => a.pcs.length - x.1, fun _ => (by show 13 ≤ 14; decide), ⟨(0, 0, acc, []), ⟨Nat.zero_le _, Int.le_refl _, ha, segs_tiles ha, hT, hrl, (chB_zero _ _ _).symm⟩, StLe.trans (StLe.frz (i := 9) (j := 0) (r := 8) rfl rfl rfl) (StLe.trans (StLe.killsB (is := [1, 4, 5, 6, 7, 8]) rfl) (StLe.trans (StLe.nilCell (i := 2) (j := 0) 49 5 (fun _ _ => .junk) rfl rfl) (StLe.r13 (n := 13) (by decide) tmS ⟨⟨rfl, EntL.refl _, rfl⟩, trivial, ⟨rfl, EntL.refl _, rfl⟩, ⟨rfl, EntL.refl _, rfl⟩, trivial, trivial, trivial, trivial, trivial, ⟨rfl, EntL.refl _, rfl⟩, ⟨rfl, EntL.refl _, rfl⟩, trivial, ⟨rfl, rfl⟩, own_nil, trivial⟩)))⟩, ?_⟩
      clear hT hrl
      rintro ⟨k2, nx2, rest, out⟩ ⟨hk2, hnn2, hasc2, hta, hT, hrl, hout⟩
      have hk2 : k2 ≤ a.pcs.length := hk2
      have hnn2 : 0 ≤ nx2 := hnn2
      have hasc2 : AscP nx2 (a.pcs.drop k2) := hasc2
      have hta : Tiles (flV a) nx2 (segsP a.other nx2 (a.pcs.drop k2)) := hta
      have hT : Tiles (flV b) nx2 rest := hT
      have hrl : rest.length ≤ 1000000 := hrl
      have hout : out = chB a.what (flV a) (flV b) nx2 := hout
      by_cases hlt2 : k2 < a.pcs.length
      · have hd := drop_cons hlt2
        rw [hd] at hasc2 hta
        obtain ⟨g1, g2, g3, g4⟩ := hasc2
        unfold segsP at hta
        have hc1 : 0 ≤ (a.pcs.getD ((k2 : Int)).toNat default).hi := (by show 0 ≤ (a.pcs.getD k2 default).hi; omega)
        have hc2 : (a.pcs.getD ((k2 : Int)).toNat default).hi ≤ 1114111 := g3
        have hc3 : (a.pcs.getD ((k2 : Int)).toNat default).lo ≤ 1114111 := (by show (a.pcs.getD k2 default).lo ≤ _; omega)
        have hc4 : 0 ≤ (a.pcs.getD ((k2 : Int)).toNat default).lo := (by show 0 ≤ (a.pcs.getD k2 default).lo; omega)
        by_cases hp : nx2 < (a.pcs.getD k2 default).lo
        · rw [if_pos hp] at hta
          obtain ⟨-, -, -, v1, ht2⟩ := hta
          rw [Int.sub_add_cancel] at ht2
          obtain ⟨-, -, -, v2, ht3⟩ := ht2
          have hp' : nx2 < (a.pcs.getD ((k2 : Int)).toNat default).lo := hp
          clear hd hb ha hasc
          refine gn ?_
          refine in13x15 a b (a.pcs.getD k2 default) ⟨nx2, (a.pcs.getD k2 default).lo - 1, a.other⟩ rest hnn2 (by show (a.pcs.getD k2 default).lo - 1 ≤ 1114111; omega) (by show nx2 ≤ (a.pcs.getD k2 default).lo - 1 + 1; omega) v1 hT hrl ?_ ?_
          · exact (StLe.trans (StLe.move (i := 2) (j := 0) (r := 13) rfl rfl rfl) (StLe.i13x15 (n := 16) (by decide) tmS ⟨⟨rfl, EntL.refl _, rfl⟩, trivial, ⟨rfl, EntL.refl _, rfl⟩, ⟨rfl, EntL.refl _, rfl⟩, trivial, trivial, trivial, trivial, trivial, ⟨rfl, EntL.refl _, rfl⟩, ⟨rfl, EntL.refl _, rfl⟩, trivial, ⟨rfl, rfl⟩, trivial, ⟨rfl, EntL.refl _, rfl⟩, ⟨rfl, EntL.refl _, rfl⟩, own_eq hout, trivial⟩))
          intro tm1 rest1 hT1 hrl1
          have hT1 : Tiles (flV b) ((a.pcs.getD k2 default).lo - 1 + 1) rest1 := hT1
          have hx1 : chB a.what (flV a) (flV b) ((a.pcs.getD k2 default).lo - 1 + 1) = chB a.what (flV a) (flV b) (a.pcs.getD k2 default).lo := by rw [Int.sub_add_cancel]
          rw [Int.sub_add_cancel] at hT1
          refine gn ?_
          refine in13x17 a b (a.pcs.getD k2 default) (a.pcs.getD k2 default) rest1 (by omega) g3 (by omega) v2 hT1 hrl1 ?_ ?_
          · exact (StLe.trans (StLe.killsB (is := [15]) rfl) (StLe.trans (StLe.move (i := 2) (j := 0) (r := 16) rfl rfl rfl) (StLe.i13x17 (n := 18) (by decide) tmS ⟨⟨rfl, EntL.refl _, rfl⟩, trivial, ⟨rfl, EntL.refl _, rfl⟩, ⟨rfl, EntL.refl _, rfl⟩, trivial, trivial, trivial, trivial, trivial, ⟨rfl, EntL.refl _, rfl⟩, ⟨rfl, EntL.refl _, rfl⟩, trivial, ⟨rfl, rfl⟩, trivial, ⟨rfl, EntL.refl _, rfl⟩, trivial, trivial, ⟨rfl, EntL.refl _, rfl⟩, own_eq hx1, trivial⟩)))
          intro tm2 rest2 hT2 hrl2
          refine gn ?_
          exact ⟨(k2 + 1, (a.pcs.getD k2 default).hi + 1, rest2, chB a.what (flV a) (flV b) ((a.pcs.getD k2 default).hi + 1)), ⟨(by show k2 + 1 ≤ _; omega), (by show 0 ≤ (a.pcs.getD k2 default).hi + 1; omega), g4, ht3, hT2, hrl2, rfl⟩, (by show _ - (k2 + 1) < _ - k2; omega), StLe.r13 (n := 18) (by decide) tmS ⟨⟨rfl, EntL.refl _, rfl⟩, trivial, ⟨rfl, EntL.refl _, rfl⟩, ⟨rfl, EntL.refl _, rfl⟩, trivial, trivial, trivial, trivial, trivial, ⟨rfl, EntL.refl _, rfl⟩, ⟨rfl, EntL.refl _, rfl⟩, trivial, ⟨rfl, rfl⟩, own_refl, trivial⟩⟩
        · rw [if_neg hp] at hta
          obtain ⟨-, -, -, v2, ht3⟩ := hta
          have hp' : ¬ nx2 < (a.pcs.getD ((k2 : Int)).toNat default).lo := hp
          have hnx : nx2 = (a.pcs.getD k2 default).lo := by omega
          rw [hnx] at v2 hT hout
          clear hd hb ha hasc
          refine gn ?_
          refine in13x15 a b (a.pcs.getD k2 default) (a.pcs.getD k2 default) rest (by omega) g3 (by omega) v2 hT hrl ?_ ?_
          · exact (StLe.trans (StLe.move (i := 2) (j := 0) (r := 13) rfl rfl rfl) (StLe.i13x15 (n := 16) (by decide) tmS ⟨⟨rfl, EntL.refl _, rfl⟩, trivial, ⟨rfl, EntL.refl _, rfl⟩, ⟨rfl, EntL.refl _, rfl⟩, trivial, trivial, trivial, trivial, trivial, ⟨rfl, EntL.refl _, rfl⟩, ⟨rfl, EntL.refl _, rfl⟩, trivial, ⟨rfl, rfl⟩, trivial, ⟨rfl, EntL.refl _, rfl⟩, ⟨rfl, EntL.refl _, rfl⟩, own_eq hout, trivial⟩))
          intro tm2 rest2 hT2 hrl2
          refine gn ?_
          exact ⟨(k2 + 1, (a.pcs.getD k2 default).hi + 1, rest2, chB a.what (flV a) (flV b) ((a.pcs.getD k2 default).hi + 1)), ⟨(by show k2 + 1 ≤ _; omega), (by show 0 ≤ (a.pcs.getD k2 default).hi + 1; omega), g4, ht3, hT2, hrl2, rfl⟩, (by show _ - (k2 + 1) < _ - k2; omega), StLe.r13 (n := 16) (by decide) tmS ⟨⟨rfl, EntL.refl _, rfl⟩, trivial, ⟨rfl, EntL.refl _, rfl⟩, ⟨rfl, EntL.refl _, rfl⟩, trivial, trivial, trivial, trivial, trivial, ⟨rfl, EntL.refl _, rfl⟩, ⟨rfl, EntL.refl _, rfl⟩, trivial, ⟨rfl, rfl⟩, own_refl, trivial⟩⟩
      · have hd : a.pcs.drop k2 = [] := List.drop_eq_nil_of_le (by omega)
        rw [hd] at hasc2 hta
        have hle : nx2 ≤ 1114112 := hasc2
        by_cases hn2 : nx2 ≤ 1114111
        · unfold segsP at hta
          rw [if_pos hn2] at hta
          obtain ⟨-, -, -, v1, -⟩ := hta
          clear hd hb ha
          refine gn ?_
          refine in13x14 a b ⟨nx2, 1114111, a.other⟩ rest hnn2 (Int.le_refl _) (by show nx2 ≤ 1114111 + 1; omega) v1 hT hrl ?_ ?_
          · exact (StLe.trans (StLe.move (i := 2) (j := 0) (r := 13) rfl rfl rfl) (StLe.i13x14 (n := 15) (by decide) tmS ⟨⟨rfl, EntL.refl _, rfl⟩, trivial, ⟨rfl, EntL.refl _, rfl⟩, ⟨rfl, EntL.refl _, rfl⟩, trivial, trivial, trivial, trivial, trivial, ⟨rfl, EntL.refl _, rfl⟩, ⟨rfl, EntL.refl _, rfl⟩, trivial, ⟨rfl, rfl⟩, trivial, ⟨rfl, EntL.refl _, rfl⟩, own_eq hout, trivial⟩))
          intro tm2 rest2 hT2 hrl2
          have hfin : chB a.what (flV a) (flV b) ((⟨nx2, 1114111, a.other⟩ : Pc).hi + 1) = chB a.what (flV a) (flV b) 1114112 := rfl
          rw [hfin]
          have hct : ctPCmp.out (a, b) = chsD (chB a.what (flV a) (flV b) 1114112) := rfl
          rw [hct]
          generalize chB a.what (flV a) (flV b) 1114112 = fin
          clear hfin hct
          refine gn ?_
          exact EntR.of rfl (Ent.refl _)
        · have hn3 : nx2 = 1114112 := by omega
          have hct : ctPCmp.out (a, b) = chsD out := by rw [hout, hn3]; rfl
          rw [hct]
          clear hct hout hd hb ha
          refine gn ?_
          exact EntR.of rfl (Ent.refl _)
end Go.Proofs
