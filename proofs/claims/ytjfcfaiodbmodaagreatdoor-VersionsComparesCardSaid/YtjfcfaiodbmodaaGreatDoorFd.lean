import Derived.Test.YtjfcfaiodbmodaaGreatDoorFc
set_option linter.unusedVariables false
set_option linter.unusedSimpArgs false
namespace Go.Proofs
open Go Go.Sx
variable {mx : Int} {pb : Bool}

/-! Value, cuts, compare of the reference -/
noncomputable def ctValF : Ct := { ι := Db × Nat × Int, inp := fun x => [dbA x.1, .v (.string (nmK x.2.1)), .v (.int .i64 x.2.2)], out := fun x => .v (.string (ptV (partOf x.1 x.2.1) x.2.2)), pre := fun x => OkD x.1 ∧ x.2.1 < 20 }
noncomputable def Γvf : Ctx := fun f => match f with
  | 121 => some (.pure ctClsV)
  | 118 => some (.pure ctRMaps)
  | 119 => some (.pure ctRSetF)
  | 120 => some (.pure ctRPropF)
  | 122 => some (.pure ctTgt)
  | 123 => some (.pure ctYes)
  | 38 => some (.pure ctHas)
  | 33 => some (.pure ctPName)
  | _ => none
theorem Γvf_ok {mx : Int} : CtxOk Tryz.prog (GlT mx true) Γvf := by
  intro f h hh
  simp only [Γvf] at hh
  split at hh <;> simp at hh <;> subst hh
  · exact rClsV_ok
  · exact rMaps_ok
  · exact rSetF_ok
  · exact rPropF_ok
  · exact rTgt_ok
  · exact rYes_ok
  · exact r2Has_ok
  · exact rNameV_ok
set_option maxHeartbeats 32000000 in
theorem rValF_ok {mx : Int} : Sound Tryz.prog (GlT mx true) 89 ctValF := by
  refine sound_by (cc := true) Γvf_ok Tryz.T_ok Tryz.mixed Tryz.func89 rfl (by kernel_rfl) (fun _ => rfl) (fun _ _ => by show 3 ≤ 44; decide) ?_
  rintro ⟨(d : Db), (k : Nat), (c : Int)⟩ ⟨(hd : OkD d), (hk : k < 20)⟩
  match k, hk with
  | 0, _ =>
    have p1 : ctRMaps.pre (d, 0) := (by show 0 < 20; decide)
    have p2 : ctRSetF.pre (d, 0) := (by show 0 < 20; decide)
    have p3 : ctRPropF.pre (d, 0) := (by show 0 < 7; decide)
    have p4 : ctPName.pre (d.prs 0, c) := (by have := (hd.sm.prs 0 (by decide)).2; show (d.prs 0).spans.length ≤ 1000000000; omega)
    repeat' (first | refine gw ?_ | (refine br (fun q_ => ?_) (fun q_ => ?_) <;> try simp only [Int.toNat_natCast, Nat.mul_one, Nat.add_zero] at q_) | (refine brF (fun q_ => ?_) (fun q_ => ?_) <;> try simp only [Int.toNat_natCast, Nat.mul_one, Nat.add_zero] at q_))
    exact EntR.str rfl
  | 1, _ =>
    have p1 : ctRMaps.pre (d, 1) := (by show 1 < 20; decide)
    have p2 : ctRSetF.pre (d, 1) := (by show 1 < 20; decide)
    have p3 : ctRPropF.pre (d, 1) := (by show 1 < 7; decide)
    have p4 : ctPName.pre (d.prs 1, c) := (by have := (hd.sm.prs 1 (by decide)).2; show (d.prs 1).spans.length ≤ 1000000000; omega)
    repeat' (first | refine gw ?_ | (refine br (fun q_ => ?_) (fun q_ => ?_) <;> try simp only [Int.toNat_natCast, Nat.mul_one, Nat.add_zero] at q_) | (refine brF (fun q_ => ?_) (fun q_ => ?_) <;> try simp only [Int.toNat_natCast, Nat.mul_one, Nat.add_zero] at q_))
    exact EntR.str rfl
  | 2, _ =>
    have p1 : ctRMaps.pre (d, 2) := (by show 2 < 20; decide)
    have p2 : ctRSetF.pre (d, 2) := (by show 2 < 20; decide)
    have p3 : ctRPropF.pre (d, 2) := (by show 2 < 7; decide)
    have p4 : ctPName.pre (d.prs 2, c) := (by have := (hd.sm.prs 2 (by decide)).2; show (d.prs 2).spans.length ≤ 1000000000; omega)
    repeat' (first | refine gw ?_ | (refine br (fun q_ => ?_) (fun q_ => ?_) <;> try simp only [Int.toNat_natCast, Nat.mul_one, Nat.add_zero] at q_) | (refine brF (fun q_ => ?_) (fun q_ => ?_) <;> try simp only [Int.toNat_natCast, Nat.mul_one, Nat.add_zero] at q_))
    exact EntR.str rfl
  | 3, _ =>
    have p1 : ctRMaps.pre (d, 3) := (by show 3 < 20; decide)
    have p2 : ctRSetF.pre (d, 3) := (by show 3 < 20; decide)
    have p3 : ctRPropF.pre (d, 3) := (by show 3 < 7; decide)
    have p4 : ctPName.pre (d.prs 3, c) := (by have := (hd.sm.prs 3 (by decide)).2; show (d.prs 3).spans.length ≤ 1000000000; omega)
    repeat' (first | refine gw ?_ | (refine br (fun q_ => ?_) (fun q_ => ?_) <;> try simp only [Int.toNat_natCast, Nat.mul_one, Nat.add_zero] at q_) | (refine brF (fun q_ => ?_) (fun q_ => ?_) <;> try simp only [Int.toNat_natCast, Nat.mul_one, Nat.add_zero] at q_))
    exact EntR.str rfl
  | 4, _ =>
    have p1 : ctRMaps.pre (d, 4) := (by show 4 < 20; decide)
    have p2 : ctRSetF.pre (d, 4) := (by show 4 < 20; decide)
    have p3 : ctRPropF.pre (d, 4) := (by show 4 < 7; decide)
    have p4 : ctPName.pre (d.prs 4, c) := (by have := (hd.sm.prs 4 (by decide)).2; show (d.prs 4).spans.length ≤ 1000000000; omega)
    repeat' (first | refine gw ?_ | (refine br (fun q_ => ?_) (fun q_ => ?_) <;> try simp only [Int.toNat_natCast, Nat.mul_one, Nat.add_zero] at q_) | (refine brF (fun q_ => ?_) (fun q_ => ?_) <;> try simp only [Int.toNat_natCast, Nat.mul_one, Nat.add_zero] at q_))
    exact EntR.str rfl
  | 5, _ =>
    have p1 : ctRMaps.pre (d, 5) := (by show 5 < 20; decide)
    have p2 : ctRSetF.pre (d, 5) := (by show 5 < 20; decide)
    have p3 : ctRPropF.pre (d, 5) := (by show 5 < 7; decide)
    have p4 : ctPName.pre (d.prs 5, c) := (by have := (hd.sm.prs 5 (by decide)).2; show (d.prs 5).spans.length ≤ 1000000000; omega)
    repeat' (first | refine gw ?_ | (refine br (fun q_ => ?_) (fun q_ => ?_) <;> try simp only [Int.toNat_natCast, Nat.mul_one, Nat.add_zero] at q_) | (refine brF (fun q_ => ?_) (fun q_ => ?_) <;> try simp only [Int.toNat_natCast, Nat.mul_one, Nat.add_zero] at q_))
    exact EntR.str rfl
  | 6, _ =>
    have p1 : ctRMaps.pre (d, 6) := (by show 6 < 20; decide)
    have p2 : ctRSetF.pre (d, 6) := (by show 6 < 20; decide)
    have p3 : ctRPropF.pre (d, 6) := (by show 6 < 7; decide)
    have p4 : ctPName.pre (d.prs 6, c) := (by have := (hd.sm.prs 6 (by decide)).2; show (d.prs 6).spans.length ≤ 1000000000; omega)
    repeat' (first | refine gw ?_ | (refine br (fun q_ => ?_) (fun q_ => ?_) <;> try simp only [Int.toNat_natCast, Nat.mul_one, Nat.add_zero] at q_) | (refine brF (fun q_ => ?_) (fun q_ => ?_) <;> try simp only [Int.toNat_natCast, Nat.mul_one, Nat.add_zero] at q_))
    exact EntR.str rfl
  | 7, _ =>
    have p0 : ctClsV.pre (d.cls, c) := hd.clsV c
    repeat' (first | refine gw ?_ | (refine br (fun q_ => ?_) (fun q_ => ?_) <;> try simp only [Int.toNat_natCast, Nat.mul_one, Nat.add_zero] at q_) | (refine brF (fun q_ => ?_) (fun q_ => ?_) <;> try simp only [Int.toNat_natCast, Nat.mul_one, Nat.add_zero] at q_))
    exact EntR.str rfl
  | 8, _ =>
    have p1 : ctRMaps.pre (d, 8) := (by show 8 < 20; decide)
    have p2 : ctRSetF.pre (d, 8) := (by show 8 < 20; decide)
    have p3 : ctTgt.pre (mpOf (partOf d 8), c) := hd.tgt (k := 0) (by decide) c
    repeat' (first | refine gw ?_ | (refine br (fun q_ => ?_) (fun q_ => ?_) <;> try simp only [Int.toNat_natCast, Nat.mul_one, Nat.add_zero] at q_) | (refine brF (fun q_ => ?_) (fun q_ => ?_) <;> try simp only [Int.toNat_natCast, Nat.mul_one, Nat.add_zero] at q_))
    exact EntR.str rfl
  | 9, _ =>
    have p1 : ctRMaps.pre (d, 9) := (by show 9 < 20; decide)
    have p2 : ctRSetF.pre (d, 9) := (by show 9 < 20; decide)
    have p3 : ctHas.pre (stOf (partOf d 9), c) := (by have := hd.sm.sts 0 (by decide); show (d.sts 0).length ≤ 1000000; omega)
    repeat' (first | refine gw ?_ | (refine br (fun q_ => ?_) (fun q_ => ?_) <;> try simp only [Int.toNat_natCast, Nat.mul_one, Nat.add_zero] at q_) | (refine brF (fun q_ => ?_) (fun q_ => ?_) <;> try simp only [Int.toNat_natCast, Nat.mul_one, Nat.add_zero] at q_))
    exact EntR.str rfl
  | 10, _ =>
    have p1 : ctRMaps.pre (d, 10) := (by show 10 < 20; decide)
    have p2 : ctRSetF.pre (d, 10) := (by show 10 < 20; decide)
    have p3 : ctTgt.pre (mpOf (partOf d 10), c) := hd.tgt (k := 1) (by decide) c
    repeat' (first | refine gw ?_ | (refine br (fun q_ => ?_) (fun q_ => ?_) <;> try simp only [Int.toNat_natCast, Nat.mul_one, Nat.add_zero] at q_) | (refine brF (fun q_ => ?_) (fun q_ => ?_) <;> try simp only [Int.toNat_natCast, Nat.mul_one, Nat.add_zero] at q_))
    exact EntR.str rfl
  | 11, _ =>
    have p1 : ctRMaps.pre (d, 11) := (by show 11 < 20; decide)
    have p2 : ctRSetF.pre (d, 11) := (by show 11 < 20; decide)
    have p3 : ctTgt.pre (mpOf (partOf d 11), c) := hd.tgt (k := 2) (by decide) c
    repeat' (first | refine gw ?_ | (refine br (fun q_ => ?_) (fun q_ => ?_) <;> try simp only [Int.toNat_natCast, Nat.mul_one, Nat.add_zero] at q_) | (refine brF (fun q_ => ?_) (fun q_ => ?_) <;> try simp only [Int.toNat_natCast, Nat.mul_one, Nat.add_zero] at q_))
    exact EntR.str rfl
  | 12, _ =>
    have p1 : ctRMaps.pre (d, 12) := (by show 12 < 20; decide)
    have p2 : ctRSetF.pre (d, 12) := (by show 12 < 20; decide)
    have p3 : ctTgt.pre (mpOf (partOf d 12), c) := hd.tgt (k := 3) (by decide) c
    repeat' (first | refine gw ?_ | (refine br (fun q_ => ?_) (fun q_ => ?_) <;> try simp only [Int.toNat_natCast, Nat.mul_one, Nat.add_zero] at q_) | (refine brF (fun q_ => ?_) (fun q_ => ?_) <;> try simp only [Int.toNat_natCast, Nat.mul_one, Nat.add_zero] at q_))
    exact EntR.str rfl
  | 13, _ =>
    have p1 : ctRMaps.pre (d, 13) := (by show 13 < 20; decide)
    have p2 : ctRSetF.pre (d, 13) := (by show 13 < 20; decide)
    have p3 : ctTgt.pre (mpOf (partOf d 13), c) := hd.tgt (k := 4) (by decide) c
    repeat' (first | refine gw ?_ | (refine br (fun q_ => ?_) (fun q_ => ?_) <;> try simp only [Int.toNat_natCast, Nat.mul_one, Nat.add_zero] at q_) | (refine brF (fun q_ => ?_) (fun q_ => ?_) <;> try simp only [Int.toNat_natCast, Nat.mul_one, Nat.add_zero] at q_))
    exact EntR.str rfl
  | 14, _ =>
    have p1 : ctRMaps.pre (d, 14) := (by show 14 < 20; decide)
    have p2 : ctRSetF.pre (d, 14) := (by show 14 < 20; decide)
    have p3 : ctHas.pre (stOf (partOf d 14), c) := (by have := hd.sm.sts 1 (by decide); show (d.sts 1).length ≤ 1000000; omega)
    repeat' (first | refine gw ?_ | (refine br (fun q_ => ?_) (fun q_ => ?_) <;> try simp only [Int.toNat_natCast, Nat.mul_one, Nat.add_zero] at q_) | (refine brF (fun q_ => ?_) (fun q_ => ?_) <;> try simp only [Int.toNat_natCast, Nat.mul_one, Nat.add_zero] at q_))
    exact EntR.str rfl
  | 15, _ =>
    have p1 : ctRMaps.pre (d, 15) := (by show 15 < 20; decide)
    have p2 : ctRSetF.pre (d, 15) := (by show 15 < 20; decide)
    have p3 : ctHas.pre (stOf (partOf d 15), c) := (by have := hd.sm.sts 2 (by decide); show (d.sts 2).length ≤ 1000000; omega)
    repeat' (first | refine gw ?_ | (refine br (fun q_ => ?_) (fun q_ => ?_) <;> try simp only [Int.toNat_natCast, Nat.mul_one, Nat.add_zero] at q_) | (refine brF (fun q_ => ?_) (fun q_ => ?_) <;> try simp only [Int.toNat_natCast, Nat.mul_one, Nat.add_zero] at q_))
    exact EntR.str rfl
  | 16, _ =>
    have p1 : ctRMaps.pre (d, 16) := (by show 16 < 20; decide)
    have p2 : ctRSetF.pre (d, 16) := (by show 16 < 20; decide)
    have p3 : ctHas.pre (stOf (partOf d 16), c) := (by have := hd.sm.sts 3 (by decide); show (d.sts 3).length ≤ 1000000; omega)
    repeat' (first | refine gw ?_ | (refine br (fun q_ => ?_) (fun q_ => ?_) <;> try simp only [Int.toNat_natCast, Nat.mul_one, Nat.add_zero] at q_) | (refine brF (fun q_ => ?_) (fun q_ => ?_) <;> try simp only [Int.toNat_natCast, Nat.mul_one, Nat.add_zero] at q_))
    exact EntR.str rfl
  | 17, _ =>
    have p1 : ctRMaps.pre (d, 17) := (by show 17 < 20; decide)
    have p2 : ctRSetF.pre (d, 17) := (by show 17 < 20; decide)
    have p3 : ctHas.pre (stOf (partOf d 17), c) := (by have := hd.sm.sts 4 (by decide); show (d.sts 4).length ≤ 1000000; omega)
    repeat' (first | refine gw ?_ | (refine br (fun q_ => ?_) (fun q_ => ?_) <;> try simp only [Int.toNat_natCast, Nat.mul_one, Nat.add_zero] at q_) | (refine brF (fun q_ => ?_) (fun q_ => ?_) <;> try simp only [Int.toNat_natCast, Nat.mul_one, Nat.add_zero] at q_))
    exact EntR.str rfl
  | 18, _ =>
    have p1 : ctRMaps.pre (d, 18) := (by show 18 < 20; decide)
    have p2 : ctRSetF.pre (d, 18) := (by show 18 < 20; decide)
    have p3 : ctHas.pre (stOf (partOf d 18), c) := (by have := hd.sm.sts 5 (by decide); show (d.sts 5).length ≤ 1000000; omega)
    repeat' (first | refine gw ?_ | (refine br (fun q_ => ?_) (fun q_ => ?_) <;> try simp only [Int.toNat_natCast, Nat.mul_one, Nat.add_zero] at q_) | (refine brF (fun q_ => ?_) (fun q_ => ?_) <;> try simp only [Int.toNat_natCast, Nat.mul_one, Nat.add_zero] at q_))
    exact EntR.str rfl
  | 19, _ =>
    have p1 : ctRMaps.pre (d, 19) := (by show 19 < 20; decide)
    have p2 : ctRSetF.pre (d, 19) := (by show 19 < 20; decide)
    have p3 : ctTgt.pre (mpOf (partOf d 19), c) := hd.tgt (k := 5) (by decide) c
    repeat' (first | refine gw ?_ | (refine br (fun q_ => ?_) (fun q_ => ?_) <;> try simp only [Int.toNat_natCast, Nat.mul_one, Nat.add_zero] at q_) | (refine brF (fun q_ => ?_) (fun q_ => ?_) <;> try simp only [Int.toNat_natCast, Nat.mul_one, Nat.add_zero] at q_))
    exact EntR.str rfl
  | k0 + 20, h => exact absurd (show k0 + 20 < 20 from h) (by omega)

def spRg (s : Sp) : Rg := (s.lo, s.hi)
def mpRg (m : Mp) : Rg := (m.frm, m.frm)
def ctSpR : Ct := { ι := List Sp, inp := fun l => [spsD l], out := fun l => setD (l.map spRg), pre := fun l => l.length ≤ 1000 }
set_option maxHeartbeats 4000000 in
theorem rSpR_ok : Sound Tryz.prog (GlT mx pb) 117 ctSpR := by
  refine sound_by (cc := true) Γ0_ok Tryz.T_ok Tryz.mixed Tryz.func117 rfl (by kernel_rfl) (fun _ => rfl) (fun _ _ => by show 1 ≤ 28; decide) ?_
  intro (l : List Sp) (hl : l.length ≤ 1000)
  repeat' (first | refine gl ?_ | (refine br (fun q_ => ?_) (fun q_ => ?_) <;> try simp only [Int.toNat_natCast, Nat.mul_one, Nat.add_zero] at q_) | (refine brF (fun q_ => ?_) (fun q_ => ?_) <;> try simp only [Int.toNat_natCast, Nat.mul_one, Nat.add_zero] at q_))
  refine ⟨0, Nat, fun k => ⟨[(0, spsD l), (2, .own 0 0), (3, .own 1 0), (4, .v (.int .i64 k))], [.cells 31 [nilV], .cells 31 [.row 2], rowL 51 2 rgD ((l.take k).map spRg)], []⟩, fun k => k ≤ l.length, fun k => l.length - k, fun _ => Nat.zero_le _, ⟨0, Nat.zero_le _, StLe.trans (StLe.nilCell (i := 1) (j := 0) 51 2 (fun _ _ => .junk) rfl rfl) (StLe.ren [0, 1, 2] tmS ⟨⟨rfl, EntL.refl _, rfl⟩, ⟨rfl, EntL.refl _, rfl⟩, own_nil, trivial⟩ (by decide))⟩, ?_⟩
  intro k (hk : k ≤ l.length)
  have hml := mapT_len spRg hk
  by_cases hlt : k < l.length
  · repeat' (first | refine gl ?_ | (refine br (fun q_ => ?_) (fun q_ => ?_) <;> try simp only [Int.toNat_natCast, Nat.mul_one, Nat.add_zero] at q_) | (refine brF (fun q_ => ?_) (fun q_ => ?_) <;> try simp only [Int.toNat_natCast, Nat.mul_one, Nat.add_zero] at q_))
    exact ⟨k + 1, (by show k + 1 ≤ _; omega), (by show _ - (k + 1) < _ - k; omega), StLe.ren [0, 1, 3] tmS ⟨⟨rfl, EntL.refl _, rfl⟩, ⟨rfl, EntL.refl _, rfl⟩, by rw [mapT spRg hlt]; exact own_app (lt2 (Ent.refl _) (Ent.refl _)), trivial⟩ (by decide)⟩
  · repeat' (first | refine gl ?_ | (refine br (fun q_ => ?_) (fun q_ => ?_) <;> try simp only [Int.toNat_natCast, Nat.mul_one, Nat.add_zero] at q_) | (refine brF (fun q_ => ?_) (fun q_ => ?_) <;> try simp only [Int.toNat_natCast, Nat.mul_one, Nat.add_zero] at q_))
    refine EntR.of rfl ?_
    show Ent _ (setD (l.map spRg))
    rw [← mapT_all spRg (show l.length ≤ k by omega)]
    exact Ent.refl _
def ctCutsF : Ct := { ι := List Int × Db × Nat, inp := fun x => [slD 1 intD x.1, dbA x.2.1, .v (.string (nmK x.2.2))], out := fun x => slD 1 intD (cutsL x.1 (ptR (partOf x.2.1 x.2.2))), pre := fun x => x.1.length ≤ 1000 ∧ SmD x.2.1 ∧ x.2.2 < 20 }
noncomputable def Γcf : Ctx := fun f => match f with
  | 117 => some (.pure ctSpR)
  | 118 => some (.pure ctRMaps)
  | 119 => some (.pure ctRSetF)
  | 120 => some (.pure ctRPropF)
  | 110 => some (.pure ctCuts)
  | _ => none
theorem Γcf_ok : CtxOk Tryz.prog (GlT mx pb) Γcf := by
  intro f h hh
  simp only [Γcf] at hh
  split at hh <;> simp at hh <;> subst hh
  · exact rSpR_ok
  · exact rMaps_ok
  · exact rSetF_ok
  · exact rPropF_ok
  · exact cuts_ok
set_option maxHeartbeats 32000000 in
theorem rCutsF_ok : Sound Tryz.prog (GlT mx pb) 88 ctCutsF := by
  refine sound_by (cc := true) Γcf_ok Tryz.T_ok Tryz.mixed Tryz.func88 rfl (by kernel_rfl) (fun _ => rfl) (fun _ _ => by show 3 ≤ 64; decide) ?_
  rintro ⟨(l : List Int), (d : Db), (k : Nat)⟩ ⟨(hl : l.length ≤ 1000), (hd : SmD d), (hk : k < 20)⟩
  match k, hk with
  | 0, _ =>
    have p1 : ctRMaps.pre (d, 0) := (by show 0 < 20; decide)
    have p2 : ctRSetF.pre (d, 0) := (by show 0 < 20; decide)
    have p3 : ctRPropF.pre (d, 0) := (by show 0 < 7; decide)
    have p4 : ctSpR.pre (d.prs 0).spans := (by have := (hd.prs 0 (by decide)).2; show (d.prs 0).spans.length ≤ 1000; omega)
    have p5 : ctCuts.pre (l, (d.prs 0).spans.map spRg) := ⟨by show l.length ≤ 100000; omega, by have := (hd.prs 0 (by decide)).2; show ((d.prs 0).spans.map spRg).length ≤ 100000; simp; omega⟩
    repeat' (first | refine gw ?_ | (refine br (fun q_ => ?_) (fun q_ => ?_) <;> try simp only [Int.toNat_natCast, Nat.mul_one, Nat.add_zero] at q_) | (refine brF (fun q_ => ?_) (fun q_ => ?_) <;> try simp only [Int.toNat_natCast, Nat.mul_one, Nat.add_zero] at q_))
    exact EntR.of rfl (Ent.refl _)
  | 1, _ =>
    have p1 : ctRMaps.pre (d, 1) := (by show 1 < 20; decide)
    have p2 : ctRSetF.pre (d, 1) := (by show 1 < 20; decide)
    have p3 : ctRPropF.pre (d, 1) := (by show 1 < 7; decide)
    have p4 : ctSpR.pre (d.prs 1).spans := (by have := (hd.prs 1 (by decide)).2; show (d.prs 1).spans.length ≤ 1000; omega)
    have p5 : ctCuts.pre (l, (d.prs 1).spans.map spRg) := ⟨by show l.length ≤ 100000; omega, by have := (hd.prs 1 (by decide)).2; show ((d.prs 1).spans.map spRg).length ≤ 100000; simp; omega⟩
    repeat' (first | refine gw ?_ | (refine br (fun q_ => ?_) (fun q_ => ?_) <;> try simp only [Int.toNat_natCast, Nat.mul_one, Nat.add_zero] at q_) | (refine brF (fun q_ => ?_) (fun q_ => ?_) <;> try simp only [Int.toNat_natCast, Nat.mul_one, Nat.add_zero] at q_))
    exact EntR.of rfl (Ent.refl _)
  | 2, _ =>
    have p1 : ctRMaps.pre (d, 2) := (by show 2 < 20; decide)
    have p2 : ctRSetF.pre (d, 2) := (by show 2 < 20; decide)
    have p3 : ctRPropF.pre (d, 2) := (by show 2 < 7; decide)
    have p4 : ctSpR.pre (d.prs 2).spans := (by have := (hd.prs 2 (by decide)).2; show (d.prs 2).spans.length ≤ 1000; omega)
    have p5 : ctCuts.pre (l, (d.prs 2).spans.map spRg) := ⟨by show l.length ≤ 100000; omega, by have := (hd.prs 2 (by decide)).2; show ((d.prs 2).spans.map spRg).length ≤ 100000; simp; omega⟩
    repeat' (first | refine gw ?_ | (refine br (fun q_ => ?_) (fun q_ => ?_) <;> try simp only [Int.toNat_natCast, Nat.mul_one, Nat.add_zero] at q_) | (refine brF (fun q_ => ?_) (fun q_ => ?_) <;> try simp only [Int.toNat_natCast, Nat.mul_one, Nat.add_zero] at q_))
    exact EntR.of rfl (Ent.refl _)
  | 3, _ =>
    have p1 : ctRMaps.pre (d, 3) := (by show 3 < 20; decide)
    have p2 : ctRSetF.pre (d, 3) := (by show 3 < 20; decide)
    have p3 : ctRPropF.pre (d, 3) := (by show 3 < 7; decide)
    have p4 : ctSpR.pre (d.prs 3).spans := (by have := (hd.prs 3 (by decide)).2; show (d.prs 3).spans.length ≤ 1000; omega)
    have p5 : ctCuts.pre (l, (d.prs 3).spans.map spRg) := ⟨by show l.length ≤ 100000; omega, by have := (hd.prs 3 (by decide)).2; show ((d.prs 3).spans.map spRg).length ≤ 100000; simp; omega⟩
    repeat' (first | refine gw ?_ | (refine br (fun q_ => ?_) (fun q_ => ?_) <;> try simp only [Int.toNat_natCast, Nat.mul_one, Nat.add_zero] at q_) | (refine brF (fun q_ => ?_) (fun q_ => ?_) <;> try simp only [Int.toNat_natCast, Nat.mul_one, Nat.add_zero] at q_))
    exact EntR.of rfl (Ent.refl _)
  | 4, _ =>
    have p1 : ctRMaps.pre (d, 4) := (by show 4 < 20; decide)
    have p2 : ctRSetF.pre (d, 4) := (by show 4 < 20; decide)
    have p3 : ctRPropF.pre (d, 4) := (by show 4 < 7; decide)
    have p4 : ctSpR.pre (d.prs 4).spans := (by have := (hd.prs 4 (by decide)).2; show (d.prs 4).spans.length ≤ 1000; omega)
    have p5 : ctCuts.pre (l, (d.prs 4).spans.map spRg) := ⟨by show l.length ≤ 100000; omega, by have := (hd.prs 4 (by decide)).2; show ((d.prs 4).spans.map spRg).length ≤ 100000; simp; omega⟩
    repeat' (first | refine gw ?_ | (refine br (fun q_ => ?_) (fun q_ => ?_) <;> try simp only [Int.toNat_natCast, Nat.mul_one, Nat.add_zero] at q_) | (refine brF (fun q_ => ?_) (fun q_ => ?_) <;> try simp only [Int.toNat_natCast, Nat.mul_one, Nat.add_zero] at q_))
    exact EntR.of rfl (Ent.refl _)
  | 5, _ =>
    have p1 : ctRMaps.pre (d, 5) := (by show 5 < 20; decide)
    have p2 : ctRSetF.pre (d, 5) := (by show 5 < 20; decide)
    have p3 : ctRPropF.pre (d, 5) := (by show 5 < 7; decide)
    have p4 : ctSpR.pre (d.prs 5).spans := (by have := (hd.prs 5 (by decide)).2; show (d.prs 5).spans.length ≤ 1000; omega)
    have p5 : ctCuts.pre (l, (d.prs 5).spans.map spRg) := ⟨by show l.length ≤ 100000; omega, by have := (hd.prs 5 (by decide)).2; show ((d.prs 5).spans.map spRg).length ≤ 100000; simp; omega⟩
    repeat' (first | refine gw ?_ | (refine br (fun q_ => ?_) (fun q_ => ?_) <;> try simp only [Int.toNat_natCast, Nat.mul_one, Nat.add_zero] at q_) | (refine brF (fun q_ => ?_) (fun q_ => ?_) <;> try simp only [Int.toNat_natCast, Nat.mul_one, Nat.add_zero] at q_))
    exact EntR.of rfl (Ent.refl _)
  | 6, _ =>
    have p1 : ctRMaps.pre (d, 6) := (by show 6 < 20; decide)
    have p2 : ctRSetF.pre (d, 6) := (by show 6 < 20; decide)
    have p3 : ctRPropF.pre (d, 6) := (by show 6 < 7; decide)
    have p4 : ctSpR.pre (d.prs 6).spans := (by have := (hd.prs 6 (by decide)).2; show (d.prs 6).spans.length ≤ 1000; omega)
    have p5 : ctCuts.pre (l, (d.prs 6).spans.map spRg) := ⟨by show l.length ≤ 100000; omega, by have := (hd.prs 6 (by decide)).2; show ((d.prs 6).spans.map spRg).length ≤ 100000; simp; omega⟩
    repeat' (first | refine gw ?_ | (refine br (fun q_ => ?_) (fun q_ => ?_) <;> try simp only [Int.toNat_natCast, Nat.mul_one, Nat.add_zero] at q_) | (refine brF (fun q_ => ?_) (fun q_ => ?_) <;> try simp only [Int.toNat_natCast, Nat.mul_one, Nat.add_zero] at q_))
    exact EntR.of rfl (Ent.refl _)
  | 7, _ =>
    have p0 : ctSpR.pre d.cls := (by have := hd.cls; show d.cls.length ≤ 1000; omega)
    have p3 : ctCuts.pre (l, d.cls.map spRg) := ⟨by show l.length ≤ 100000; omega, by have := hd.cls; show (d.cls.map spRg).length ≤ 100000; simp; omega⟩
    repeat' (first | refine gw ?_ | (refine br (fun q_ => ?_) (fun q_ => ?_) <;> try simp only [Int.toNat_natCast, Nat.mul_one, Nat.add_zero] at q_) | (refine brF (fun q_ => ?_) (fun q_ => ?_) <;> try simp only [Int.toNat_natCast, Nat.mul_one, Nat.add_zero] at q_))
    exact EntR.of rfl (Ent.refl _)
  | 8, _ =>
    have p1 : ctRMaps.pre (d, 8) := (by show 8 < 20; decide)
    have p2 : ctRSetF.pre (d, 8) := (by show 8 < 20; decide)
    have hm := small_facts (hd.mps 0 (by decide))
    have hml := fun j (h : j ≤ (d.mps 0).length) => mapT_len mpRg h
    repeat' (first | refine gl ?_ | (refine br (fun q_ => ?_) (fun q_ => ?_) <;> try simp only [Int.toNat_natCast, Nat.mul_one, Nat.add_zero] at q_) | (refine brF (fun q_ => ?_) (fun q_ => ?_) <;> try simp only [Int.toNat_natCast, Nat.mul_one, Nat.add_zero] at q_))
    refine ⟨0, Nat, fun j => ⟨[(0, slD 1 intD l), (7, .own 1 0), (8, mpsD (d.mps 0)), (10, .v (.int .i64 j))], [.cells 39 (dbL d), .cells 31 [.row 2], rowL 51 2 rgD (((d.mps 0).take j).map mpRg)], []⟩, fun j => j ≤ (d.mps 0).length, fun j => (d.mps 0).length - j, fun _ => Nat.zero_le _, ⟨0, Nat.zero_le _, StLe.trans (StLe.nilCell (i := 1) (j := 0) 51 2 (fun _ _ => .junk) rfl rfl) (StLe.ren [0, 1, 2] tmS ⟨⟨rfl, EntL.refl _, rfl⟩, ⟨rfl, EntL.refl _, rfl⟩, own_nil, trivial⟩ (by decide))⟩, ?_⟩
    intro j (hj : j ≤ (d.mps 0).length)
    have hmj := hml j hj
    by_cases hlt : j < (d.mps 0).length
    · repeat' (first | refine gl ?_ | (refine br (fun q_ => ?_) (fun q_ => ?_) <;> try simp only [Int.toNat_natCast, Nat.mul_one, Nat.add_zero] at q_) | (refine brF (fun q_ => ?_) (fun q_ => ?_) <;> try simp only [Int.toNat_natCast, Nat.mul_one, Nat.add_zero] at q_))
      exact ⟨j + 1, (by show j + 1 ≤ _; omega), (by show _ - (j + 1) < _ - j; omega), StLe.ren [0, 1, 3] tmS ⟨⟨rfl, EntL.refl _, rfl⟩, ⟨rfl, EntL.refl _, rfl⟩, by rw [mapT mpRg hlt]; exact own_app (lt2 (Ent.refl _) (Ent.refl _)), trivial⟩ (by decide)⟩
    · have p3 : ctCuts.pre (l, ((d.mps 0).take j).map mpRg) := ⟨by show l.length ≤ 100000; omega, by show (((d.mps 0).take j).map mpRg).length ≤ 100000; omega⟩
      repeat' (first | refine gl ?_ | (refine br (fun q_ => ?_) (fun q_ => ?_) <;> try simp only [Int.toNat_natCast, Nat.mul_one, Nat.add_zero] at q_) | (refine brF (fun q_ => ?_) (fun q_ => ?_) <;> try simp only [Int.toNat_natCast, Nat.mul_one, Nat.add_zero] at q_))
      refine EntR.of rfl ?_
      show Ent _ (slD 1 intD (cutsL l ((d.mps 0).map mpRg)))
      rw [← mapT_all mpRg (show (d.mps 0).length ≤ j by omega)]
      exact Ent.refl _
  | 9, _ =>
    have p1 : ctRMaps.pre (d, 9) := (by show 9 < 20; decide)
    have p2 : ctRSetF.pre (d, 9) := (by show 9 < 20; decide)
    have p3 : ctCuts.pre (l, stOf (partOf d 9)) := ⟨by show l.length ≤ 100000; omega, by have := hd.sts 0 (by decide); show (d.sts 0).length ≤ 100000; omega⟩
    repeat' (first | refine gw ?_ | (refine br (fun q_ => ?_) (fun q_ => ?_) <;> try simp only [Int.toNat_natCast, Nat.mul_one, Nat.add_zero] at q_) | (refine brF (fun q_ => ?_) (fun q_ => ?_) <;> try simp only [Int.toNat_natCast, Nat.mul_one, Nat.add_zero] at q_))
    exact EntR.of rfl (Ent.refl _)
  | 10, _ =>
    have p1 : ctRMaps.pre (d, 10) := (by show 10 < 20; decide)
    have p2 : ctRSetF.pre (d, 10) := (by show 10 < 20; decide)
    have hm := small_facts (hd.mps 1 (by decide))
    have hml := fun j (h : j ≤ (d.mps 1).length) => mapT_len mpRg h
    repeat' (first | refine gl ?_ | (refine br (fun q_ => ?_) (fun q_ => ?_) <;> try simp only [Int.toNat_natCast, Nat.mul_one, Nat.add_zero] at q_) | (refine brF (fun q_ => ?_) (fun q_ => ?_) <;> try simp only [Int.toNat_natCast, Nat.mul_one, Nat.add_zero] at q_))
    refine ⟨0, Nat, fun j => ⟨[(0, slD 1 intD l), (7, .own 1 0), (8, mpsD (d.mps 1)), (10, .v (.int .i64 j))], [.cells 39 (dbL d), .cells 31 [.row 2], rowL 51 2 rgD (((d.mps 1).take j).map mpRg)], []⟩, fun j => j ≤ (d.mps 1).length, fun j => (d.mps 1).length - j, fun _ => Nat.zero_le _, ⟨0, Nat.zero_le _, StLe.trans (StLe.nilCell (i := 1) (j := 0) 51 2 (fun _ _ => .junk) rfl rfl) (StLe.ren [0, 1, 2] tmS ⟨⟨rfl, EntL.refl _, rfl⟩, ⟨rfl, EntL.refl _, rfl⟩, own_nil, trivial⟩ (by decide))⟩, ?_⟩
    intro j (hj : j ≤ (d.mps 1).length)
    have hmj := hml j hj
    by_cases hlt : j < (d.mps 1).length
    · repeat' (first | refine gl ?_ | (refine br (fun q_ => ?_) (fun q_ => ?_) <;> try simp only [Int.toNat_natCast, Nat.mul_one, Nat.add_zero] at q_) | (refine brF (fun q_ => ?_) (fun q_ => ?_) <;> try simp only [Int.toNat_natCast, Nat.mul_one, Nat.add_zero] at q_))
      exact ⟨j + 1, (by show j + 1 ≤ _; omega), (by show _ - (j + 1) < _ - j; omega), StLe.ren [0, 1, 3] tmS ⟨⟨rfl, EntL.refl _, rfl⟩, ⟨rfl, EntL.refl _, rfl⟩, by rw [mapT mpRg hlt]; exact own_app (lt2 (Ent.refl _) (Ent.refl _)), trivial⟩ (by decide)⟩
    · have p3 : ctCuts.pre (l, ((d.mps 1).take j).map mpRg) := ⟨by show l.length ≤ 100000; omega, by show (((d.mps 1).take j).map mpRg).length ≤ 100000; omega⟩
      repeat' (first | refine gl ?_ | (refine br (fun q_ => ?_) (fun q_ => ?_) <;> try simp only [Int.toNat_natCast, Nat.mul_one, Nat.add_zero] at q_) | (refine brF (fun q_ => ?_) (fun q_ => ?_) <;> try simp only [Int.toNat_natCast, Nat.mul_one, Nat.add_zero] at q_))
      refine EntR.of rfl ?_
      show Ent _ (slD 1 intD (cutsL l ((d.mps 1).map mpRg)))
      rw [← mapT_all mpRg (show (d.mps 1).length ≤ j by omega)]
      exact Ent.refl _
  | 11, _ =>
    have p1 : ctRMaps.pre (d, 11) := (by show 11 < 20; decide)
    have p2 : ctRSetF.pre (d, 11) := (by show 11 < 20; decide)
    have hm := small_facts (hd.mps 2 (by decide))
    have hml := fun j (h : j ≤ (d.mps 2).length) => mapT_len mpRg h
    repeat' (first | refine gl ?_ | (refine br (fun q_ => ?_) (fun q_ => ?_) <;> try simp only [Int.toNat_natCast, Nat.mul_one, Nat.add_zero] at q_) | (refine brF (fun q_ => ?_) (fun q_ => ?_) <;> try simp only [Int.toNat_natCast, Nat.mul_one, Nat.add_zero] at q_))
    refine ⟨0, Nat, fun j => ⟨[(0, slD 1 intD l), (7, .own 1 0), (8, mpsD (d.mps 2)), (10, .v (.int .i64 j))], [.cells 39 (dbL d), .cells 31 [.row 2], rowL 51 2 rgD (((d.mps 2).take j).map mpRg)], []⟩, fun j => j ≤ (d.mps 2).length, fun j => (d.mps 2).length - j, fun _ => Nat.zero_le _, ⟨0, Nat.zero_le _, StLe.trans (StLe.nilCell (i := 1) (j := 0) 51 2 (fun _ _ => .junk) rfl rfl) (StLe.ren [0, 1, 2] tmS ⟨⟨rfl, EntL.refl _, rfl⟩, ⟨rfl, EntL.refl _, rfl⟩, own_nil, trivial⟩ (by decide))⟩, ?_⟩
    intro j (hj : j ≤ (d.mps 2).length)
    have hmj := hml j hj
    by_cases hlt : j < (d.mps 2).length
    · repeat' (first | refine gl ?_ | (refine br (fun q_ => ?_) (fun q_ => ?_) <;> try simp only [Int.toNat_natCast, Nat.mul_one, Nat.add_zero] at q_) | (refine brF (fun q_ => ?_) (fun q_ => ?_) <;> try simp only [Int.toNat_natCast, Nat.mul_one, Nat.add_zero] at q_))
      exact ⟨j + 1, (by show j + 1 ≤ _; omega), (by show _ - (j + 1) < _ - j; omega), StLe.ren [0, 1, 3] tmS ⟨⟨rfl, EntL.refl _, rfl⟩, ⟨rfl, EntL.refl _, rfl⟩, by rw [mapT mpRg hlt]; exact own_app (lt2 (Ent.refl _) (Ent.refl _)), trivial⟩ (by decide)⟩
    · have p3 : ctCuts.pre (l, ((d.mps 2).take j).map mpRg) := ⟨by show l.length ≤ 100000; omega, by show (((d.mps 2).take j).map mpRg).length ≤ 100000; omega⟩
      repeat' (first | refine gl ?_ | (refine br (fun q_ => ?_) (fun q_ => ?_) <;> try simp only [Int.toNat_natCast, Nat.mul_one, Nat.add_zero] at q_) | (refine brF (fun q_ => ?_) (fun q_ => ?_) <;> try simp only [Int.toNat_natCast, Nat.mul_one, Nat.add_zero] at q_))
      refine EntR.of rfl ?_
      show Ent _ (slD 1 intD (cutsL l ((d.mps 2).map mpRg)))
      rw [← mapT_all mpRg (show (d.mps 2).length ≤ j by omega)]
      exact Ent.refl _
  | 12, _ =>
    have p1 : ctRMaps.pre (d, 12) := (by show 12 < 20; decide)
    have p2 : ctRSetF.pre (d, 12) := (by show 12 < 20; decide)
    have hm := small_facts (hd.mps 3 (by decide))
    have hml := fun j (h : j ≤ (d.mps 3).length) => mapT_len mpRg h
    repeat' (first | refine gl ?_ | (refine br (fun q_ => ?_) (fun q_ => ?_) <;> try simp only [Int.toNat_natCast, Nat.mul_one, Nat.add_zero] at q_) | (refine brF (fun q_ => ?_) (fun q_ => ?_) <;> try simp only [Int.toNat_natCast, Nat.mul_one, Nat.add_zero] at q_))
    refine ⟨0, Nat, fun j => ⟨[(0, slD 1 intD l), (7, .own 1 0), (8, mpsD (d.mps 3)), (10, .v (.int .i64 j))], [.cells 39 (dbL d), .cells 31 [.row 2], rowL 51 2 rgD (((d.mps 3).take j).map mpRg)], []⟩, fun j => j ≤ (d.mps 3).length, fun j => (d.mps 3).length - j, fun _ => Nat.zero_le _, ⟨0, Nat.zero_le _, StLe.trans (StLe.nilCell (i := 1) (j := 0) 51 2 (fun _ _ => .junk) rfl rfl) (StLe.ren [0, 1, 2] tmS ⟨⟨rfl, EntL.refl _, rfl⟩, ⟨rfl, EntL.refl _, rfl⟩, own_nil, trivial⟩ (by decide))⟩, ?_⟩
    intro j (hj : j ≤ (d.mps 3).length)
    have hmj := hml j hj
    by_cases hlt : j < (d.mps 3).length
    · repeat' (first | refine gl ?_ | (refine br (fun q_ => ?_) (fun q_ => ?_) <;> try simp only [Int.toNat_natCast, Nat.mul_one, Nat.add_zero] at q_) | (refine brF (fun q_ => ?_) (fun q_ => ?_) <;> try simp only [Int.toNat_natCast, Nat.mul_one, Nat.add_zero] at q_))
      exact ⟨j + 1, (by show j + 1 ≤ _; omega), (by show _ - (j + 1) < _ - j; omega), StLe.ren [0, 1, 3] tmS ⟨⟨rfl, EntL.refl _, rfl⟩, ⟨rfl, EntL.refl _, rfl⟩, by rw [mapT mpRg hlt]; exact own_app (lt2 (Ent.refl _) (Ent.refl _)), trivial⟩ (by decide)⟩
    · have p3 : ctCuts.pre (l, ((d.mps 3).take j).map mpRg) := ⟨by show l.length ≤ 100000; omega, by show (((d.mps 3).take j).map mpRg).length ≤ 100000; omega⟩
      repeat' (first | refine gl ?_ | (refine br (fun q_ => ?_) (fun q_ => ?_) <;> try simp only [Int.toNat_natCast, Nat.mul_one, Nat.add_zero] at q_) | (refine brF (fun q_ => ?_) (fun q_ => ?_) <;> try simp only [Int.toNat_natCast, Nat.mul_one, Nat.add_zero] at q_))
      refine EntR.of rfl ?_
      show Ent _ (slD 1 intD (cutsL l ((d.mps 3).map mpRg)))
      rw [← mapT_all mpRg (show (d.mps 3).length ≤ j by omega)]
      exact Ent.refl _
  | 13, _ =>
    have p1 : ctRMaps.pre (d, 13) := (by show 13 < 20; decide)
    have p2 : ctRSetF.pre (d, 13) := (by show 13 < 20; decide)
    have hm := small_facts (hd.mps 4 (by decide))
    have hml := fun j (h : j ≤ (d.mps 4).length) => mapT_len mpRg h
    repeat' (first | refine gl ?_ | (refine br (fun q_ => ?_) (fun q_ => ?_) <;> try simp only [Int.toNat_natCast, Nat.mul_one, Nat.add_zero] at q_) | (refine brF (fun q_ => ?_) (fun q_ => ?_) <;> try simp only [Int.toNat_natCast, Nat.mul_one, Nat.add_zero] at q_))
    refine ⟨0, Nat, fun j => ⟨[(0, slD 1 intD l), (7, .own 1 0), (8, mpsD (d.mps 4)), (10, .v (.int .i64 j))], [.cells 39 (dbL d), .cells 31 [.row 2], rowL 51 2 rgD (((d.mps 4).take j).map mpRg)], []⟩, fun j => j ≤ (d.mps 4).length, fun j => (d.mps 4).length - j, fun _ => Nat.zero_le _, ⟨0, Nat.zero_le _, StLe.trans (StLe.nilCell (i := 1) (j := 0) 51 2 (fun _ _ => .junk) rfl rfl) (StLe.ren [0, 1, 2] tmS ⟨⟨rfl, EntL.refl _, rfl⟩, ⟨rfl, EntL.refl _, rfl⟩, own_nil, trivial⟩ (by decide))⟩, ?_⟩
    intro j (hj : j ≤ (d.mps 4).length)
    have hmj := hml j hj
    by_cases hlt : j < (d.mps 4).length
    · repeat' (first | refine gl ?_ | (refine br (fun q_ => ?_) (fun q_ => ?_) <;> try simp only [Int.toNat_natCast, Nat.mul_one, Nat.add_zero] at q_) | (refine brF (fun q_ => ?_) (fun q_ => ?_) <;> try simp only [Int.toNat_natCast, Nat.mul_one, Nat.add_zero] at q_))
      exact ⟨j + 1, (by show j + 1 ≤ _; omega), (by show _ - (j + 1) < _ - j; omega), StLe.ren [0, 1, 3] tmS ⟨⟨rfl, EntL.refl _, rfl⟩, ⟨rfl, EntL.refl _, rfl⟩, by rw [mapT mpRg hlt]; exact own_app (lt2 (Ent.refl _) (Ent.refl _)), trivial⟩ (by decide)⟩
    · have p3 : ctCuts.pre (l, ((d.mps 4).take j).map mpRg) := ⟨by show l.length ≤ 100000; omega, by show (((d.mps 4).take j).map mpRg).length ≤ 100000; omega⟩
      repeat' (first | refine gl ?_ | (refine br (fun q_ => ?_) (fun q_ => ?_) <;> try simp only [Int.toNat_natCast, Nat.mul_one, Nat.add_zero] at q_) | (refine brF (fun q_ => ?_) (fun q_ => ?_) <;> try simp only [Int.toNat_natCast, Nat.mul_one, Nat.add_zero] at q_))
      refine EntR.of rfl ?_
      show Ent _ (slD 1 intD (cutsL l ((d.mps 4).map mpRg)))
      rw [← mapT_all mpRg (show (d.mps 4).length ≤ j by omega)]
      exact Ent.refl _
  | 14, _ =>
    have p1 : ctRMaps.pre (d, 14) := (by show 14 < 20; decide)
    have p2 : ctRSetF.pre (d, 14) := (by show 14 < 20; decide)
    have p3 : ctCuts.pre (l, stOf (partOf d 14)) := ⟨by show l.length ≤ 100000; omega, by have := hd.sts 1 (by decide); show (d.sts 1).length ≤ 100000; omega⟩
    repeat' (first | refine gw ?_ | (refine br (fun q_ => ?_) (fun q_ => ?_) <;> try simp only [Int.toNat_natCast, Nat.mul_one, Nat.add_zero] at q_) | (refine brF (fun q_ => ?_) (fun q_ => ?_) <;> try simp only [Int.toNat_natCast, Nat.mul_one, Nat.add_zero] at q_))
    exact EntR.of rfl (Ent.refl _)
  | 15, _ =>
    have p1 : ctRMaps.pre (d, 15) := (by show 15 < 20; decide)
    have p2 : ctRSetF.pre (d, 15) := (by show 15 < 20; decide)
    have p3 : ctCuts.pre (l, stOf (partOf d 15)) := ⟨by show l.length ≤ 100000; omega, by have := hd.sts 2 (by decide); show (d.sts 2).length ≤ 100000; omega⟩
    repeat' (first | refine gw ?_ | (refine br (fun q_ => ?_) (fun q_ => ?_) <;> try simp only [Int.toNat_natCast, Nat.mul_one, Nat.add_zero] at q_) | (refine brF (fun q_ => ?_) (fun q_ => ?_) <;> try simp only [Int.toNat_natCast, Nat.mul_one, Nat.add_zero] at q_))
    exact EntR.of rfl (Ent.refl _)
  | 16, _ =>
    have p1 : ctRMaps.pre (d, 16) := (by show 16 < 20; decide)
    have p2 : ctRSetF.pre (d, 16) := (by show 16 < 20; decide)
    have p3 : ctCuts.pre (l, stOf (partOf d 16)) := ⟨by show l.length ≤ 100000; omega, by have := hd.sts 3 (by decide); show (d.sts 3).length ≤ 100000; omega⟩
    repeat' (first | refine gw ?_ | (refine br (fun q_ => ?_) (fun q_ => ?_) <;> try simp only [Int.toNat_natCast, Nat.mul_one, Nat.add_zero] at q_) | (refine brF (fun q_ => ?_) (fun q_ => ?_) <;> try simp only [Int.toNat_natCast, Nat.mul_one, Nat.add_zero] at q_))
    exact EntR.of rfl (Ent.refl _)
  | 17, _ =>
    have p1 : ctRMaps.pre (d, 17) := (by show 17 < 20; decide)
    have p2 : ctRSetF.pre (d, 17) := (by show 17 < 20; decide)
    have p3 : ctCuts.pre (l, stOf (partOf d 17)) := ⟨by show l.length ≤ 100000; omega, by have := hd.sts 4 (by decide); show (d.sts 4).length ≤ 100000; omega⟩
    repeat' (first | refine gw ?_ | (refine br (fun q_ => ?_) (fun q_ => ?_) <;> try simp only [Int.toNat_natCast, Nat.mul_one, Nat.add_zero] at q_) | (refine brF (fun q_ => ?_) (fun q_ => ?_) <;> try simp only [Int.toNat_natCast, Nat.mul_one, Nat.add_zero] at q_))
    exact EntR.of rfl (Ent.refl _)
  | 18, _ =>
    have p1 : ctRMaps.pre (d, 18) := (by show 18 < 20; decide)
    have p2 : ctRSetF.pre (d, 18) := (by show 18 < 20; decide)
    have p3 : ctCuts.pre (l, stOf (partOf d 18)) := ⟨by show l.length ≤ 100000; omega, by have := hd.sts 5 (by decide); show (d.sts 5).length ≤ 100000; omega⟩
    repeat' (first | refine gw ?_ | (refine br (fun q_ => ?_) (fun q_ => ?_) <;> try simp only [Int.toNat_natCast, Nat.mul_one, Nat.add_zero] at q_) | (refine brF (fun q_ => ?_) (fun q_ => ?_) <;> try simp only [Int.toNat_natCast, Nat.mul_one, Nat.add_zero] at q_))
    exact EntR.of rfl (Ent.refl _)
  | 19, _ =>
    have p1 : ctRMaps.pre (d, 19) := (by show 19 < 20; decide)
    have p2 : ctRSetF.pre (d, 19) := (by show 19 < 20; decide)
    have hm := small_facts (hd.mps 5 (by decide))
    have hml := fun j (h : j ≤ (d.mps 5).length) => mapT_len mpRg h
    repeat' (first | refine gl ?_ | (refine br (fun q_ => ?_) (fun q_ => ?_) <;> try simp only [Int.toNat_natCast, Nat.mul_one, Nat.add_zero] at q_) | (refine brF (fun q_ => ?_) (fun q_ => ?_) <;> try simp only [Int.toNat_natCast, Nat.mul_one, Nat.add_zero] at q_))
    refine ⟨0, Nat, fun j => ⟨[(0, slD 1 intD l), (7, .own 1 0), (8, mpsD (d.mps 5)), (10, .v (.int .i64 j))], [.cells 39 (dbL d), .cells 31 [.row 2], rowL 51 2 rgD (((d.mps 5).take j).map mpRg)], []⟩, fun j => j ≤ (d.mps 5).length, fun j => (d.mps 5).length - j, fun _ => Nat.zero_le _, ⟨0, Nat.zero_le _, StLe.trans (StLe.nilCell (i := 1) (j := 0) 51 2 (fun _ _ => .junk) rfl rfl) (StLe.ren [0, 1, 2] tmS ⟨⟨rfl, EntL.refl _, rfl⟩, ⟨rfl, EntL.refl _, rfl⟩, own_nil, trivial⟩ (by decide))⟩, ?_⟩
    intro j (hj : j ≤ (d.mps 5).length)
    have hmj := hml j hj
    by_cases hlt : j < (d.mps 5).length
    · repeat' (first | refine gl ?_ | (refine br (fun q_ => ?_) (fun q_ => ?_) <;> try simp only [Int.toNat_natCast, Nat.mul_one, Nat.add_zero] at q_) | (refine brF (fun q_ => ?_) (fun q_ => ?_) <;> try simp only [Int.toNat_natCast, Nat.mul_one, Nat.add_zero] at q_))
      exact ⟨j + 1, (by show j + 1 ≤ _; omega), (by show _ - (j + 1) < _ - j; omega), StLe.ren [0, 1, 3] tmS ⟨⟨rfl, EntL.refl _, rfl⟩, ⟨rfl, EntL.refl _, rfl⟩, by rw [mapT mpRg hlt]; exact own_app (lt2 (Ent.refl _) (Ent.refl _)), trivial⟩ (by decide)⟩
    · have p3 : ctCuts.pre (l, ((d.mps 5).take j).map mpRg) := ⟨by show l.length ≤ 100000; omega, by show (((d.mps 5).take j).map mpRg).length ≤ 100000; omega⟩
      repeat' (first | refine gl ?_ | (refine br (fun q_ => ?_) (fun q_ => ?_) <;> try simp only [Int.toNat_natCast, Nat.mul_one, Nat.add_zero] at q_) | (refine brF (fun q_ => ?_) (fun q_ => ?_) <;> try simp only [Int.toNat_natCast, Nat.mul_one, Nat.add_zero] at q_))
      refine EntR.of rfl ?_
      show Ent _ (slD 1 intD (cutsL l ((d.mps 5).map mpRg)))
      rw [← mapT_all mpRg (show (d.mps 5).length ≤ j by omega)]
      exact Ent.refl _
  | k0 + 20, h => exact absurd (show k0 + 20 < 20 from h) (by omega)

/-! changes -/
noncomputable def ctCmpF : Ct := { ι := Db × Db × Nat, inp := fun x => [dbA x.1, dbA x.2.1, .v (.string (nmK x.2.2))], out := fun x => chsD (chB (nmK x.2.2) (ptV (partOf x.1 x.2.2)) (ptV (partOf x.2.1 x.2.2)) 1114112), pre := fun x => OkD x.1 ∧ OkD x.2.1 ∧ x.2.2 < 20 }
noncomputable def Γcm : Ctx := fun f => match f with
  | 88 => some (.pure ctCutsF)
  | 89 => some (.pure ctValF)
  | _ => none
theorem Γcm_ok {mx : Int} : CtxOk Tryz.prog (GlT mx true) Γcm := by
  intro f h hh
  simp only [Γcm] at hh
  split at hh <;> simp at hh <;> subst hh
  · exact rCutsF_ok
  · exact rValF_ok
theorem segHi_in {cs : List Int} (hasc : cs.Pairwise (· < ·)) (hok : ∀ x ∈ cs, 0 ≤ x ∧ x ≤ 1114111) {k : Nat} (hk : k < cs.length) : 0 ≤ cs.getD k default ∧ cs.getD k default ≤ segHi cs k ∧ segHi cs k ≤ 1114111 ∧ ∀ x ∈ cs, ¬ (cs.getD k default < x ∧ x ≤ segHi cs k) := by
  have hb := hok _ (getD_mem hk)
  refine ⟨hb.1, ?_, ?_, fun x hx hh => ?_⟩
  · unfold segHi
    split
    · rename_i h1
      have := asc_getD hasc (show k < k + 1 by omega) h1
      omega
    · omega
  · unfold segHi
    split
    · rename_i h1
      have := hok _ (getD_mem h1)
      omega
    · omega
  · obtain ⟨j, hj, he⟩ := List.getElem_of_mem hx
    have he : cs.getD j default = x := by simpa [List.getD_eq_getElem?_getD, hj] using he
    rcases Nat.lt_trichotomy j (k + 1) with h1 | h1 | h1
    · rcases Nat.lt_or_ge j k with h2 | h2
      · have := asc_getD hasc h2 hk; omega
      · have : j = k := by omega
        subst this; omega
    · subst h1
      rw [segHi, if_pos hj] at hh; omega
    · have h2 := asc_getD hasc h1 hj
      rw [segHi, if_pos (by omega)] at hh; omega
end Go.Proofs
