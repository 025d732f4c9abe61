import Derived.Test.YtfalaomjfkaphaaGreatDoorMpC
import Derived.Test.YtfalaomjfkaphaaGreatDoorMpR
import Derived.Test.YtfalaomjfkaphaaGreatDoorMpP
import Derived.Test.YtfalaomjfkaphaaGreatDoorT17c
set_option linter.unusedVariables false
set_option linter.unusedSimpArgs false
namespace Go.Proofs
open Go Go.Sx
variable {mx : Int} {pb : Bool}

/-! the twin's Parse -/
attribute [local irreducible] exPs exCk exSch exAlt
noncomputable def alL (L : List Ln) : List Mp := L.map fun x => rdM (fld x)
noncomputable def tgL (L : List Ln) : List ByteArray := L.map fun x => fdG (fld x)
theorem alL_at {L : List Ln} {k : Nat} (h : k < L.length) : (alL L).getD k default = rdM (fld (L.getD k default)) := by unfold alL; rw [getD_map _ h]
theorem tgL_at {L : List Ln} {k : Nat} (h : k < L.length) : (tgL L).getD k default = fdG (fld (L.getD k default)) := by unfold tgL; rw [getD_map _ h]
theorem clQ_P {L : List Ln} {k : Nat} (h : k < L.length) : clQ L (tgL L) k ↔ clP L k := by
  unfold clQ clP
  constructor
  · rintro ⟨j, hj, h1, h2⟩
    rw [tgL_at h, tgL_at (show j < L.length by omega)] at h1
    exact ⟨j, hj, h1, h2⟩
  · rintro ⟨j, hj, h1, h2⟩
    refine ⟨j, hj, ?_, h2⟩
    rw [tgL_at h, tgL_at (show j < L.length by omega)]
    exact h1
noncomputable def rpOw (s : ByteArray) : List Own := [z31, .cells 27 [.v (.int .i64 (linesP s).2.1), .v (.int .i64 (linesP s).2.2)]]
theorem StLe.m7 {tm tm' : List (Nat × D)} {ow ow' : List Own} (h1 : renT [0, 1, 2, 3, 4, 5, 6, 7, 8] tm tm') (h2 : renO [0, 1, 2, 3, 4, 5, 6, 7, 8] ow [0, 1, 2, 3, 4, 5, 6, 7, 8] ow') : StLe 7 ⟨tm, ow, []⟩ ⟨tm', ow', []⟩ := StLe.renm [0, 1, 2, 3, 4, 5, 6, 7, 8] h1 h2 (by decide) (fun i hi => by match i, hi with | 0, _ => rfl | 1, _ => rfl | 2, _ => rfl | 3, _ => rfl | 4, _ => rfl | 5, _ => rfl | 6, _ => rfl) (by simp)
def insO (P : List Own) (L : List Mp) (x : Mp) (j : Nat) : List Own := P ++ [.gone, .gone, .frozen 1 x.to.length (fun i j => intD (x.to.getD i default) j), .cells 47 [mpD x 0, .row 6, mpD x 2], rowL 47 3 mpD (insM L j x)]
theorem StLe.frow {m r e sz n : Nat} {f : Nat → Nat → D} {tm : List (Nat × D)} {ow : List Own} {df : List Nat} (hr : ow[r]? = some (.row e sz n f)) : StLe m ⟨tm, ow, df⟩ ⟨tm, setOwn ow r (.frozen sz n f), df⟩ := by
  refine ⟨rfl, ?_⟩
  intro B w0 M0 dv N M E w a hW hR
  obtain ⟨v, hv⟩ := get_some (l := E) (n := r) (by rw [hW.len]; exact get_lt hr)
  obtain ⟨M', hle, hW1, hrep⟩ := hW.freeze hr rfl hv
  exact ⟨M', E, hle, fun i v _ hv => hv, fun i _ b hb => hb, hW1, hR.mono hle (EnvLe.refl _)⟩
theorem mp_bad {s : ByteArray} {e a : Int} (h : mrO s = ([], e, a)) (h0 : ¬ e = 0) : mpO s = ([], e, a) := by
  have := mp_rows (s := s) (by rw [h]; exact h0)
  rw [this, h]
theorem alL_snoc {L : List Ln} {k : Nat} (h : k < L.length) : alL (L.take (k + 1)) = alL (L.take k) ++ [rdM (fld (L.getD k default))] := by
  unfold alL
  rw [take_at h, List.map_append]
  rfl
theorem tgL_snoc {L : List Ln} {k : Nat} (h : k < L.length) : tgL (L.take (k + 1)) = tgL (L.take k) ++ [fdG (fld (L.getD k default))] := by
  unfold tgL
  rw [take_at h, List.map_append]
  rfl
theorem nilMp : D.ag [.v (.int .i64 0), nilV, .v (.string ⟨#[]⟩)] = D.ag [.v (.int .i64 0), nilV, .v (.string ⟨#[]⟩)] := rfl
def Γin12 : Ctx := fun f => match f with
  | 43 => some (.pure ctBefore)
  | _ => none
theorem Γin12_ok : CtxOk Tryz.prog (GlT mx pb) Γin12 := by
  intro f h hh
  simp only [Γin12] at hh
  split at hh <;> simp at hh <;> subst hh
  · exact rbefore_ok
noncomputable def Γrp (mx : Int) (pb : Bool) : Ctx := fun f => match f with
  | 13 => some (.pure ctLpT)
  | 21 => some (.pure ctRd)
  | 22 => some (.pure ctCla)
  | 23 => some (.gen (inlW true Γin12 Tryz.T (GlT mx pb) Tryz.f23 cIns11))
  | _ => none
theorem Γrp_ok : CtxOk Tryz.prog (GlT mx pb) (Γrp mx pb) := by
  intro f h hh
  simp only [Γrp] at hh
  split at hh <;> simp at hh <;> subst hh
  · exact rLinesT_ok
  · exact rRead_ok
  · exact rClash_ok
  · exact soundT_inlW Γin12_ok Tryz.T_ok Tryz.mixed Tryz.func23 rfl (by kernel_rfl)
set_option maxHeartbeats 8000000 in
theorem rParse11_ok : Sound Tryz.prog (GlT mx pb) 8 ctMpP := by
  refine sound_by (cc := true) Γrp_ok Tryz.T_ok Tryz.mixed Tryz.func8 rfl (by kernel_rfl) (fun _ => rfl) (fun _ _ => by show 1 ≤ 152; decide) ?_
  intro (s : ByteArray) _
  have p1 : ctLpT.pre s := trivial
  by_cases h0 : (linesP s).2.1 = 0
  · obtain ⟨g1, g2, g3, g4, g5, g6⟩ := linesP_ok s
    have g7 := linesP_few s
    repeat' (first | refine gx ?_ | (refine br (fun q_ => ?_) (fun q_ => ?_) <;> try simp only [Int.toNat_natCast, Nat.mul_one, Nat.add_zero] at q_) | (refine brF (fun q_ => ?_) (fun q_ => ?_) <;> try simp only [Int.toNat_natCast, Nat.mul_one, Nat.add_zero] at q_))
    refine ⟨0, Nat, fun k => ⟨[(3, .own 0 0), (4, lnsD (linesP s).1), (6, .row 2), (7, .row 3), (8, .v (.int .i64 k))], rpOw s ++ [rowL 47 3 mpD (alL ((linesP s).1.take k)), rowL 9 1 strD (tgL ((linesP s).1.take k))], []⟩, fun k => k ≤ (linesP s).1.length ∧ ∀ j, j < k → ¬ bdF ((linesP s).1.getD j default) = true, fun k => (linesP s).1.length - k, fun _ => Nat.zero_le _, ⟨0, ⟨Nat.zero_le _, fun j hj => by omega⟩, StLe.trans (StLe.nilRow (t := 6) 47 3 (fun _ _ => .junk) rfl) (StLe.trans (StLe.nilRow (t := 7) 9 1 (fun _ _ => .junk) rfl) (StLe.ren [0, 1, 2, 3] tmS ⟨⟨rfl, EntL.refl _, rfl⟩, ⟨rfl, EntL.refl _, rfl⟩, own_nil, own_nil, trivial⟩ (by decide)))⟩, ?_⟩
    rintro k ⟨hk, hd⟩
    unfold rpOw
    have hal : (alL ((linesP s).1.take k)).length = k := by unfold alL; rw [List.length_map, List.length_take]; omega
    have htl : (tgL ((linesP s).1.take k)).length = k := by unfold tgL; rw [List.length_map, List.length_take]; omega
    by_cases hlt : k < (linesP s).1.length
    · have hx := mem_getD hlt
      have hnum := g1 _ hx
      have hfs := fld_size hx
      have p2 : ctRd.pre (fld ((linesP s).1.getD k default)) := (by show ByteArray.size _ ≤ _; omega)
      have p3 : ctRd.pre (((linesP s).1.getD k default).fields.getD 0 default) := p2
      by_cases h1 : ((linesP s).1.getD k default).fields.length = 1
      · rcases Bool.eq_false_or_eq_true (fdB (fld ((linesP s).1.getD k default))) with h2 | h2
        · have hnb : ¬ bdF ((linesP s).1.getD k default) = true := fun h => by
            simp only [bdF, one1, h1, h2] at h
            exact absurd h (by decide)
          have hm := rd_mp h2
          repeat' (first | refine gx ?_ | (refine br (fun q_ => ?_) (fun q_ => ?_) <;> try simp only [Int.toNat_natCast, Nat.mul_one, Nat.add_zero] at q_) | (refine brF (fun q_ => ?_) (fun q_ => ?_) <;> try simp only [Int.toNat_natCast, Nat.mul_one, Nat.add_zero] at q_))
          all_goals try (exfalso; omega)
          exact ⟨k + 1, ⟨hlt, next_of hd hnb⟩, (by show _ - (k + 1) < _ - k; omega), StLe.ren [0, 1, 5, 6] tmS ⟨⟨rfl, EntL.refl _, rfl⟩, ⟨rfl, EntL.refl _, rfl⟩, by rw [alL_snoc hlt]; exact own_app (fun j hj => match j, hj with | 0, _ => Ent.refl _ | 1, _ => Ent.refl _ | 2, _ => Ent.refl _), by rw [tgL_snoc hlt]; exact own_app (lt1 (Ent.v (congrArg Value.string (congrArg Mp.tag hm)))), trivial⟩ (by decide)⟩
        · have hr : mpO s = ([], 3, _) := mp_bad (mr_bad h0 (find_at hlt hd (bd_2 h2))) (by decide)
          repeat' (first | refine gx ?_ | (refine br (fun q_ => ?_) (fun q_ => ?_) <;> try simp only [Int.toNat_natCast, Nat.mul_one, Nat.add_zero] at q_) | (refine brF (fun q_ => ?_) (fun q_ => ?_) <;> try simp only [Int.toNat_natCast, Nat.mul_one, Nat.add_zero] at q_))
          all_goals try (exfalso; omega)
          refine .inr ⟨.stage [0, 1, 2, 3, 4, 5] (.alt 6 [0, 1, 2, 3, 4, 5] (.stage [] (.alt 7 [] (.done []) .nil)) .nil), by decide +kernel, ?_⟩
          refine xs1 ?_
          repeat' (first | refine gx ?_ | refine xp1 ?_ | refine xp0 ?_ | refine xc1 ?_ ?_ | refine xc0 ?_ | refine xs1 ?_ | refine xs2 ?_ | refine xs3 ?_ | refine xa1 ?_ | exact rfl)
          exact mp_ret hr rfl
      · have hr : mpO s = ([], 3, _) := mp_bad (mr_bad h0 (find_at hlt hd (bd_1 h1))) (by decide)
        repeat' (first | refine gx ?_ | (refine br (fun q_ => ?_) (fun q_ => ?_) <;> try simp only [Int.toNat_natCast, Nat.mul_one, Nat.add_zero] at q_) | (refine brF (fun q_ => ?_) (fun q_ => ?_) <;> try simp only [Int.toNat_natCast, Nat.mul_one, Nat.add_zero] at q_))
        all_goals try (exfalso; omega)
        refine .inr ⟨.stage [0, 1, 2, 3, 4, 5] (.alt 6 [0, 1, 2, 3, 4, 5] (.stage [] (.alt 7 [] (.done []) .nil)) .nil), by decide +kernel, ?_⟩
        refine xs1 ?_
        repeat' (first | refine gx ?_ | refine xp1 ?_ | refine xp0 ?_ | refine xc1 ?_ ?_ | refine xc0 ?_ | refine xs1 ?_ | refine xs2 ?_ | refine xs3 ?_ | refine xa1 ?_ | exact rfl)
        exact mp_ret hr rfl
    · have hb : (linesP s).1.find? bdF = none := find_no (fun j hj => hd j (by omega))
      have hta : (linesP s).1.take k = (linesP s).1 := List.take_of_length_le (by omega)
      rw [hta] at hal htl
      have hfd : ∀ j, j < (linesP s).1.length → fdB (fld ((linesP s).1.getD j default)) = true := fun j hj => (one_of' (by simpa using hd j (by omega))).2
      repeat' (first | refine gx ?_ | (refine br (fun q_ => ?_) (fun q_ => ?_) <;> try simp only [Int.toNat_natCast, Nat.mul_one, Nat.add_zero] at q_) | (refine brF (fun q_ => ?_) (fun q_ => ?_) <;> try simp only [Int.toNat_natCast, Nat.mul_one, Nat.add_zero] at q_))
      refine ⟨0, Nat, fun k => ⟨[(3, .own 0 0), (4, lnsD (linesP s).1), (6, .row 2), (7, .row 3), (11, .v (.int .i64 k))], rpOw s ++ [rowL 47 3 mpD (alL (linesP s).1), rowL 9 1 strD (tgL (linesP s).1)], []⟩, fun k => k ≤ (linesP s).1.length ∧ ∀ j, j < k → ¬ bgR ((linesP s).1.getD j default) = true, fun k => (linesP s).1.length - k, fun _ => Nat.zero_le _, ⟨0, ⟨Nat.zero_le _, fun j hj => by omega⟩, StLe.ren [0, 1, 2, 3] tmS ⟨⟨rfl, EntL.refl _, rfl⟩, ⟨rfl, EntL.refl _, rfl⟩, own_eq (congrArg alL hta), own_eq (congrArg tgL hta), trivial⟩ (by decide)⟩, ?_⟩
      have hkl : k = (linesP s).1.length := by omega
      subst hkl
      clear hd hk hlt hta
      rintro k ⟨hk, hd⟩
      unfold rpOw
      by_cases hlt : k < (linesP s).1.length
      · have hx := mem_getD hlt
        obtain ⟨⟨v1, v2, v3⟩, n1, n2⟩ := g1 _ hx
        rw [validB_iff] at v1 v2
        have hle : ((alL (linesP s).1).getD k default).to = fdT (fld ((linesP s).1.getD k default)) := by rw [alL_at hlt, rd_mp (hfd k hlt)]
        have hlen : ((alL (linesP s).1).getD k default).to.length = (fdT (fld ((linesP s).1.getD k default))).length := by rw [hle]
        by_cases h1 : 64 < (fdT (fld ((linesP s).1.getD k default))).length
        · have hr : mpO s = ([], 2, _) := mp_bad (mr_big h0 hb (find_at hlt hd (bg_1 h1))) (by decide)
          repeat' (first | refine gx ?_ | (refine br (fun q_ => ?_) (fun q_ => ?_) <;> try simp only [Int.toNat_natCast, Nat.mul_one, Nat.add_zero] at q_) | (refine brF (fun q_ => ?_) (fun q_ => ?_) <;> try simp only [Int.toNat_natCast, Nat.mul_one, Nat.add_zero] at q_))
          refine wo5 ?_
          repeat' (first | refine gx ?_ | (refine br (fun q_ => ?_) (fun q_ => ?_) <;> try simp only [Int.toNat_natCast, Nat.mul_one, Nat.add_zero] at q_) | (refine brF (fun q_ => ?_) (fun q_ => ?_) <;> try simp only [Int.toNat_natCast, Nat.mul_one, Nat.add_zero] at q_))
          all_goals try (exfalso; omega)
          refine .inr ⟨.stage [0, 1, 2, 3, 4, 5] (.alt 6 [0, 1, 2, 3, 4, 5] (.stage [] (.alt 7 [] (.done []) .nil)) .nil), by decide +kernel, ?_⟩
          refine xs1 ?_
          repeat' (first | refine gx ?_ | refine xp1 ?_ | refine xp0 ?_ | refine xc1 ?_ ?_ | refine xc0 ?_ | refine xs1 ?_ | refine xs2 ?_ | refine xs3 ?_ | refine xa1 ?_ | exact rfl)
          exact mp_ret hr rfl
        · by_cases h2 : 1024 < ((linesP s).1.getD k default).hi - ((linesP s).1.getD k default).lo + 1
          · have hr : mpO s = ([], 2, _) := mp_bad (mr_big h0 hb (find_at hlt hd (bg_2 h2))) (by decide)
            repeat' (first | refine gx ?_ | (refine br (fun q_ => ?_) (fun q_ => ?_) <;> try simp only [Int.toNat_natCast, Nat.mul_one, Nat.add_zero] at q_) | (refine brF (fun q_ => ?_) (fun q_ => ?_) <;> try simp only [Int.toNat_natCast, Nat.mul_one, Nat.add_zero] at q_))
            refine wo5 ?_
            repeat' (first | refine gx ?_ | (refine br (fun q_ => ?_) (fun q_ => ?_) <;> try simp only [Int.toNat_natCast, Nat.mul_one, Nat.add_zero] at q_) | (refine brF (fun q_ => ?_) (fun q_ => ?_) <;> try simp only [Int.toNat_natCast, Nat.mul_one, Nat.add_zero] at q_))
            all_goals try (exfalso; omega)
            refine .inr ⟨.stage [0, 1, 2, 3, 4, 5] (.alt 6 [0, 1, 2, 3, 4, 5] (.stage [] (.alt 7 [] (.done []) .nil)) .nil), by decide +kernel, ?_⟩
            refine xs1 ?_
            repeat' (first | refine gx ?_ | refine xp1 ?_ | refine xp0 ?_ | refine xc1 ?_ ?_ | refine xc0 ?_ | refine xs1 ?_ | refine xs2 ?_ | refine xs3 ?_ | refine xa1 ?_ | exact rfl)
            exact mp_ret hr rfl
          · have hnb : ¬ bgR ((linesP s).1.getD k default) = true := fun h => by
              simp only [bgR, decide_eq_false h1, decide_eq_false h2] at h
              exact absurd h (by decide)
            repeat' (first | refine gx ?_ | (refine br (fun q_ => ?_) (fun q_ => ?_) <;> try simp only [Int.toNat_natCast, Nat.mul_one, Nat.add_zero] at q_) | (refine brF (fun q_ => ?_) (fun q_ => ?_) <;> try simp only [Int.toNat_natCast, Nat.mul_one, Nat.add_zero] at q_))
            refine wo5 ?_
            repeat' (first | refine gx ?_ | (refine br (fun q_ => ?_) (fun q_ => ?_) <;> try simp only [Int.toNat_natCast, Nat.mul_one, Nat.add_zero] at q_) | (refine brF (fun q_ => ?_) (fun q_ => ?_) <;> try simp only [Int.toNat_natCast, Nat.mul_one, Nat.add_zero] at q_))
            all_goals try (exfalso; omega)
            exact ⟨k + 1, ⟨hlt, next_of hd hnb⟩, (by show _ - (k + 1) < _ - k; omega), StLe.ren [0, 1, 2, 3] tmS ⟨⟨rfl, EntL.refl _, rfl⟩, ⟨rfl, EntL.refl _, rfl⟩, own_refl, own_refl, trivial⟩ (by decide)⟩
      · have hg : (linesP s).1.find? bgR = none := find_no (fun j hj => hd j (by omega))
        have hbg : ∀ j, j < (linesP s).1.length → (fdT (fld ((linesP s).1.getD j default))).length ≤ 64 ∧ ((linesP s).1.getD j default).hi - ((linesP s).1.getD j default).lo + 1 ≤ 1024 := fun j hj => bg_no (hd j (by omega))
        have hmr : mrO s = ((linesP s).1, 0, 0) := mr_ok h0 hb hg
        have hok : ∀ x ∈ (linesP s).1, x.lo ≤ x.hi := fun x hx => (g1 x hx).1.2.2
        have hrw : ∀ x ∈ (linesP s).1, rwN x ≤ 1024 := fun x hx => by
          obtain ⟨j, hj, rfl⟩ := List.getElem_of_mem hx
          have := (hbg j hj).2
          have e : (linesP s).1.getD j default = (linesP s).1[j] := by simp [List.getD_eq_getElem?_getD, hj]
          rw [e] at this
          unfold rwN
          omega
        repeat' (first | refine gx ?_ | (refine br (fun q_ => ?_) (fun q_ => ?_) <;> try simp only [Int.toNat_natCast, Nat.mul_one, Nat.add_zero] at q_) | (refine brF (fun q_ => ?_) (fun q_ => ?_) <;> try simp only [Int.toNat_natCast, Nat.mul_one, Nat.add_zero] at q_))
        refine ⟨0, Nat × List Mp, fun | (k, out) => ⟨[(3, .own 0 0), (4, lnsD (linesP s).1), (6, .row 2), (7, .row 3), (12, .row 4), (13, .v (.int .i64 k))], rpOw s ++ [rowL 47 3 mpD (alL (linesP s).1), .frozen 1 (tgL (linesP s).1).length (fun i j => strD ((tgL (linesP s).1).getD i default) j), rowL 47 3 mpD out], []⟩, fun | (k, out) => k ≤ (linesP s).1.length ∧ out.Perm (rwsL ((linesP s).1.take k)) ∧ upM out ∧ ∀ j, j < k → ¬ clP (linesP s).1 j, fun x => (linesP s).1.length - x.1, fun _ => Nat.zero_le _, ⟨(0, []), ⟨Nat.zero_le _, List.Perm.refl _, List.Pairwise.nil, fun j hj => by omega⟩, StLe.trans (StLe.nilRow (t := 12) 47 3 (fun _ _ => .junk) rfl) (StLe.trans (StLe.frow (r := 3) rfl) (StLe.ren [0, 1, 2, 3, 4] tmS ⟨⟨rfl, EntL.refl _, rfl⟩, ⟨rfl, EntL.refl _, rfl⟩, own_refl, Ent.refl _, own_nil, trivial⟩ (by decide)))⟩, ?_⟩
        clear hd hk hlt
        clear k
        rintro ⟨k, out⟩ ⟨(hk : k ≤ (linesP s).1.length), (hp : out.Perm (rwsL ((linesP s).1.take k))), (hup : upM out), (hd : ∀ j, j < k → ¬ clP (linesP s).1 j)⟩
        unfold rpOw
        have hol : out.length ≤ 1024 * k := by rw [hp.length_eq]; exact rws_len hrw k hk
        by_cases hlt : k < (linesP s).1.length
        · have hx := mem_getD hlt
          obtain ⟨⟨v1, v2, v3⟩, n1, n2⟩ := g1 _ hx
          rw [validB_iff] at v1 v2
          have p4 : ctCla.pre ((linesP s).1, tgL (linesP s).1, k) := ⟨hlt, htl, by show (linesP s).1.length ≤ 1000000; omega⟩
          by_cases hc : clP (linesP s).1 k
          · have hcc : clC (linesP s).1 (tgL (linesP s).1) k = true := clC_t ((clQ_P hlt).2 hc)
            have hr := mp_twice (s := s) (i := k) (by rw [hmr]) (by rw [hmr]; exact hlt) (by rw [hmr]; exact hd) (by rw [hmr]; exact hc)
            rw [show (mrO s).1 = (linesP s).1 by rw [hmr]] at hr
            repeat' (first | refine gx ?_ | (refine br (fun q_ => ?_) (fun q_ => ?_) <;> try simp only [Int.toNat_natCast, Nat.mul_one, Nat.add_zero] at q_) | (refine brF (fun q_ => ?_) (fun q_ => ?_) <;> try simp only [Int.toNat_natCast, Nat.mul_one, Nat.add_zero] at q_))
            refine .inr ⟨.stage [0, 1, 2, 3, 4, 5] (.alt 6 [0, 1, 2, 3, 4, 5] (.stage [] (.alt 7 [] (.done []) .nil)) .nil), by decide +kernel, ?_⟩
            refine xs1 ?_
            repeat' (first | refine gx ?_ | refine xp1 ?_ | refine xp0 ?_ | refine xc1 ?_ ?_ | refine xc0 ?_ | refine xs1 ?_ | refine xs2 ?_ | refine xs3 ?_ | refine xa1 ?_ | exact rfl)
            exact mp_ret hr rfl
          · have hcc : clC (linesP s).1 (tgL (linesP s).1) k = false := clC_f (fun h => hc ((clQ_P hlt).1 h))
            have hy := alL_at hlt
            rw [rd_mp (hfd k hlt)] at hy
            have hyt : ((alL (linesP s).1).getD k default).to.length ≤ 64 := by rw [hy]; exact (hbg k hlt).1
            have hn0 : rwN ((linesP s).1.getD k default) ≤ 1024 := hrw _ hx
            repeat' (first | refine gx ?_ | (refine br (fun q_ => ?_) (fun q_ => ?_) <;> try simp only [Int.toNat_natCast, Nat.mul_one, Nat.add_zero] at q_) | (refine brF (fun q_ => ?_) (fun q_ => ?_) <;> try simp only [Int.toNat_natCast, Nat.mul_one, Nat.add_zero] at q_))
            refine ⟨0, Nat × List Mp, fun | (i, out) => ⟨[(3, .own 0 0), (4, lnsD (linesP s).1), (6, .row 2), (7, .row 3), (12, .row 4), (13, .v (.int .i64 k)), (14, .v (.int .i64 (((linesP s).1.getD k default).lo + (i : Int))))], rpOw s ++ [rowL 47 3 mpD (alL (linesP s).1), .frozen 1 (tgL (linesP s).1).length (fun i j => strD ((tgL (linesP s).1).getD i default) j), rowL 47 3 mpD out], []⟩, fun | (i, out) => i ≤ rwN ((linesP s).1.getD k default) ∧ out.Perm (rwsL ((linesP s).1.take k) ++ (rwL ((linesP s).1.getD k default)).take i) ∧ upM out, fun x => rwN ((linesP s).1.getD k default) - x.1, fun _ => Nat.zero_le _, ⟨(0, out), ⟨Nat.zero_le _, by simpa using hp, hup⟩, StLe.ren [0, 1, 2, 3, 4] tmS ⟨⟨rfl, EntL.refl _, rfl⟩, ⟨rfl, EntL.refl _, rfl⟩, own_refl, Ent.refl _, own_refl, trivial⟩ (by decide)⟩, ?_⟩
            clear hp hup hol
            rintro ⟨i, o⟩ ⟨(hi : i ≤ rwN ((linesP s).1.getD k default)), (hp : o.Perm _), (hup : upM o)⟩
            unfold rpOw
            have hrl := rws_len hrw k hk
            have hol : o.length ≤ 70000000 := by
              rw [hp.length_eq, List.length_append, List.length_take]
              omega
            by_cases hil : i < rwN ((linesP s).1.getD k default)
            · have hle : ((linesP s).1.getD k default).lo + (i : Int) ≤ ((linesP s).1.getD k default).hi := by unfold rwN at hil; omega
              have hxr : (⟨((linesP s).1.getD k default).lo + (i : Int), ((alL (linesP s).1).getD k default).to, ((alL (linesP s).1).getD k default).tag⟩ : Mp) = rwM ((linesP s).1.getD k default) i := by rw [hy]; rfl
              repeat' (first | refine gx ?_ | (refine br (fun q_ => ?_) (fun q_ => ?_) <;> try simp only [Int.toNat_natCast, Nat.mul_one, Nat.add_zero] at q_) | (refine brF (fun q_ => ?_) (fun q_ => ?_) <;> try simp only [Int.toNat_natCast, Nat.mul_one, Nat.add_zero] at q_))
              refine .inr ⟨.stage [0, 1, 3, 4, 5, 6, 7, 9, 10, 11, 12, 13] (.alt 2 [0, 1, 3, 4, 5, 6, 7, 9, 10, 11, 12, 13] (.stage [] (.alt 8 [0, 1, 9, 10, 11, 12, 13] (.stage [14] (.alt 15 [] (.done [16]) .nil)) .nil)) .nil), by decide +kernel, ?_⟩
              refine xs1 ?_
              repeat' (first | refine gx ?_ | refine xp1 ?_ | refine xp0 ?_ | refine xc1 ?_ ?_ | refine xc0 ?_ | refine xs1 ?_ | refine xs2 ?_ | refine xs3 ?_ | refine xa1 ?_ | exact rfl)
              generalize hxe : (⟨((linesP s).1.getD k default).lo + (i : Int), ((alL (linesP s).1).getD k default).to, ((alL (linesP s).1).getD k default).tag⟩ : Mp) = x at hxr
              have hperm : ∀ j, (insM o j x).Perm (rwsL ((linesP s).1.take k) ++ (rwL ((linesP s).1.getD k default)).take (i + 1)) := fun j => by
                refine (insM_perm o j _).trans ((hp.cons _).trans ?_)
                rw [rwL_snoc hil, ← List.append_assoc, hxr]
                exact List.perm_append_comm (l₁ := [rwM ((linesP s).1.getD k default) i])
              have exf : x.frm = ((linesP s).1.getD k default).lo + (i : Int) := by rw [← hxe]
              have ext : x.to = ((alL (linesP s).1).getD k default).to := by rw [← hxe]
              have exg : x.tag = ((alL (linesP s).1).getD k default).tag := by rw [← hxe]
              refine ⟨0, Nat, fun j => ⟨[(0, .row 8), (3, .own 7 0), (5, .v (.int .i64 j))], insO (rpOw s ++ [rowL 47 3 mpD (alL (linesP s).1), .frozen 1 (tgL (linesP s).1).length (fun i j => strD ((tgL (linesP s).1).getD i default) j)]) o x j, []⟩, fun j => j ≤ o.length ∧ ∀ q, j ≤ q → q < o.length → lessB x (o.getD q default) = true, fun j => j, fun _ => (by show 7 ≤ 9; decide), ⟨o.length, ⟨Nat.le_refl _, fun q h1 h2 => by omega⟩, ?_⟩, ?_⟩
              · subst hxe
                refine StLe.m7 (by repeat' (first | exact trivial | exact Ent.refl _ | exact rfl | exact Ent.int (show ((o.length + 1 : Nat) : Int) - 1 = o.length by omega) | refine And.intro ?_ ?_)) ⟨⟨rfl, EntL.refl _, rfl⟩, ⟨rfl, EntL.refl _, rfl⟩, own_refl, Ent.refl _, trivial, trivial, Ent.sl (Nat.zero_add _) fun i hi j hj => Ent.of_eq ?_, ⟨rfl, EntL.refl _, rfl⟩, ?_, trivial⟩
                · simp only [catF, Src.fn]
                  rw [if_neg (by omega)]
                  rfl
                · rw [insM_end]
                  refine own_app fun j hj => ?_
                  match j, hj with
                  | 0, _ => exact Ent.refl _
                  | 1, _ =>
                    refine Ent.sl (Nat.zero_add _) fun i hi j hj => Ent.of_eq ?_
                    simp only [catF, Src.fn]
                    rw [if_neg (by omega)]
                    rfl
                  | 2, _ => exact Ent.refl _
              · rintro j ⟨hj, hdj⟩
                unfold insO rpOw
                have hil2 := insM_len (x := x) hj
                by_cases hj0 : 0 < j
                · have eg : (insM o j x).getD (j - 1) default = o.getD (j - 1) default := by rw [insM_at hj, if_pos (by omega)]
                  have ej : (insM o j x).getD j default = x := by rw [insM_at hj, if_neg (by omega), if_pos rfl]
                  have e1 : ((j : Int) - 1).toNat = j - 1 := by omega
                  repeat' (first | refine gx ?_ | (refine br (fun q_ => ?_) (fun q_ => ?_) <;> try simp only [Int.toNat_natCast, Nat.mul_one, Nat.add_zero] at q_) | (refine brF (fun q_ => ?_) (fun q_ => ?_) <;> try simp only [Int.toNat_natCast, Nat.mul_one, Nat.add_zero] at q_))
                  refine wo5 ?_
                  repeat' (first | refine gx ?_ | (refine br (fun q_ => ?_) (fun q_ => ?_) <;> try simp only [Int.toNat_natCast, Nat.mul_one, Nat.add_zero] at q_) | (refine brF (fun q_ => ?_) (fun q_ => ?_) <;> try simp only [Int.toNat_natCast, Nat.mul_one, Nat.add_zero] at q_))
                  refine ⟨(x, (insM o j x).getD ((j : Int) - 1).toNat default), EntL.refl _, fun _ => trivial, ?_⟩
                  by_cases hb : lessB x (o.getD (j - 1) default) = true
                  · rw [show ctBefore.out (x, (insM o j x).getD ((j : Int) - 1).toNat default) = .v (.bool true) from by show D.v (.bool (lessB _ _)) = _; rw [e1, eg, hb]]
                    have es : swp (insM o j x) (j - 1) = insM o (j - 1) x := by
                      unfold swp
                      rw [show j - 1 + 1 = j by omega, ej]
                      exact ins_shift hj0 hj
                    repeat' (first | refine gx ?_ | refine xp1 ?_ | refine xp0 ?_ | refine xc1 ?_ ?_ | refine xc0 ?_ | refine xs1 ?_ | refine xs2 ?_ | refine xs3 ?_ | refine xa1 ?_ | exact rfl)
                    refine ⟨j - 1, ⟨by omega, fun q h1 h2 => ?_⟩, (by show j - 1 < j; omega), StLe.m7 tmS ⟨⟨rfl, EntL.refl _, rfl⟩, ⟨rfl, EntL.refl _, rfl⟩, own_refl, Ent.refl _, trivial, trivial, Ent.refl _, ⟨rfl, EntL.refl _, rfl⟩, ?_, trivial⟩⟩
                    · rcases Nat.lt_or_ge q j with h3 | h3
                      · rw [show q = j - 1 by omega]; exact hb
                      · exact hdj q h3 h2
                    · rw [e1, ← es]
                      exact own_swap (a := j) (by omega) (by omega) (fun q hq => by match q, hq with | 0, _ => rfl | 1, _ => rfl | 2, _ => rfl) (fun q hq => by rw [ej]; match q, hq with | 0, _ => rfl | 1, _ => rfl | 2, _ => rfl)
                  · have hb : lessB x (o.getD (j - 1) default) = false := by simpa using hb
                    rw [show ctBefore.out (x, (insM o j x).getD ((j : Int) - 1).toNat default) = .v (.bool false) from by show D.v (.bool (lessB _ _)) = _; rw [e1, eg, hb]]
                    repeat' (first | refine gx ?_ | refine xp1 ?_ | refine xp0 ?_ | refine xc1 ?_ ?_ | refine xc0 ?_ | refine xs1 ?_ | refine xs2 ?_ | refine xs3 ?_ | refine xa1 ?_ | exact rfl)
                    exact ⟨(i + 1, insM o j x), ⟨hil, hperm j, insM_up hup hj hdj (.inr hb)⟩, (by show _ - (i + 1) < _ - i; omega), StLe.ren [0, 1, 2, 3, 8] tmS ⟨⟨rfl, EntL.refl _, rfl⟩, ⟨rfl, EntL.refl _, rfl⟩, own_refl, Ent.refl _, own_refl, trivial⟩ (by decide)⟩
                · have hj0 : j = 0 := by omega
                  repeat' (first | refine gx ?_ | (refine br (fun q_ => ?_) (fun q_ => ?_) <;> try simp only [Int.toNat_natCast, Nat.mul_one, Nat.add_zero] at q_) | (refine brF (fun q_ => ?_) (fun q_ => ?_) <;> try simp only [Int.toNat_natCast, Nat.mul_one, Nat.add_zero] at q_))
                  refine wo5 ?_
                  repeat' (first | refine gx ?_ | (refine br (fun q_ => ?_) (fun q_ => ?_) <;> try simp only [Int.toNat_natCast, Nat.mul_one, Nat.add_zero] at q_) | (refine brF (fun q_ => ?_) (fun q_ => ?_) <;> try simp only [Int.toNat_natCast, Nat.mul_one, Nat.add_zero] at q_))
                  repeat' (first | refine gx ?_ | refine xp1 ?_ | refine xp0 ?_ | refine xc1 ?_ ?_ | refine xc0 ?_ | refine xs1 ?_ | refine xs2 ?_ | refine xs3 ?_ | refine xa1 ?_ | exact rfl)
                  exact ⟨(i + 1, insM o j x), ⟨hil, hperm j, insM_up hup hj hdj (.inl hj0)⟩, (by show _ - (i + 1) < _ - i; omega), StLe.ren [0, 1, 2, 3, 8] tmS ⟨⟨rfl, EntL.refl _, rfl⟩, ⟨rfl, EntL.refl _, rfl⟩, own_refl, Ent.refl _, own_refl, trivial⟩ (by decide)⟩
            · have hgt : ¬ ((linesP s).1.getD k default).lo + (i : Int) ≤ ((linesP s).1.getD k default).hi := by unfold rwN at hil; omega
              have hie : i = rwN ((linesP s).1.getD k default) := by omega
              have hacc : rwsL ((linesP s).1.take k) ++ (rwL ((linesP s).1.getD k default)).take i = rwsL ((linesP s).1.take (k + 1)) := by
                rw [rws_snoc hlt, List.take_of_length_le (l := rwL ((linesP s).1.getD k default)) (by rw [rwL_len]; omega)]
              repeat' (first | refine gx ?_ | (refine br (fun q_ => ?_) (fun q_ => ?_) <;> try simp only [Int.toNat_natCast, Nat.mul_one, Nat.add_zero] at q_) | (refine brF (fun q_ => ?_) (fun q_ => ?_) <;> try simp only [Int.toNat_natCast, Nat.mul_one, Nat.add_zero] at q_))
              exact ⟨(k + 1, o), ⟨hlt, hacc ▸ hp, hup, next_of hd hc⟩, (by show _ - (k + 1) < _ - k; omega), StLe.ren [0, 1, 2, 3, 4] tmS ⟨⟨rfl, EntL.refl _, rfl⟩, ⟨rfl, EntL.refl _, rfl⟩, own_refl, Ent.refl _, own_refl, trivial⟩ (by decide)⟩
        · have hkl : k = (linesP s).1.length := by omega
          subst hkl
          rw [List.take_length] at hp
          have hr := mp_ok (s := s) (by rw [hmr]) (by rw [hmr]; exact hd)
          rw [show (mrO s).1 = (linesP s).1 by rw [hmr]] at hr
          have hL := sort_one' (rws_dup hok hd) hp hup
          repeat' (first | refine gx ?_ | (refine br (fun q_ => ?_) (fun q_ => ?_) <;> try simp only [Int.toNat_natCast, Nat.mul_one, Nat.add_zero] at q_) | (refine brF (fun q_ => ?_) (fun q_ => ?_) <;> try simp only [Int.toNat_natCast, Nat.mul_one, Nat.add_zero] at q_))
          refine EntR.of rfl ?_
          show Ent _ (D.tu [mpsD (mpO s).1, faultA (mpO s).2.1 (mpO s).2.2])
          rw [hr, ← hL]
          exact Ent.refl _
  · have hr := mr_lines h0
    have hr := mp_rows (s := s) (by rw [hr]; exact h0)
    repeat' (first | refine gx ?_ | (refine br (fun q_ => ?_) (fun q_ => ?_) <;> try simp only [Int.toNat_natCast, Nat.mul_one, Nat.add_zero] at q_) | (refine brF (fun q_ => ?_) (fun q_ => ?_) <;> try simp only [Int.toNat_natCast, Nat.mul_one, Nat.add_zero] at q_))
    refine .inr ⟨.stage [0] (.alt 1 [0] (.stage [] (.alt 2 [] (.done []) .nil)) .nil), by decide +kernel, ?_⟩
    refine xs1 ?_
    repeat' (first | refine gx ?_ | refine xp1 ?_ | refine xp0 ?_ | refine xc1 ?_ ?_ | refine xc0 ?_ | refine xs1 ?_ | refine xs2 ?_ | refine xs3 ?_ | refine xa1 ?_ | exact rfl)
    exact mp_ret (by rw [hr, mr_lines h0]) rfl
#print axioms rParse11_ok
end Go.Proofs
