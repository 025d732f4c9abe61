import Derived.Test.YtfalaomjfkaphaaGreatDoorProg
import Derived.RowKit3
import Derived.Lib.Small
import Derived.LoopN
import Derived.Laws.Cover1
import Derived.WalkKit
import Derived.Laws.NewBlocks
import Derived.Shelf.SlSortCmp.NoneTotal
import Derived.Deep.QuietTactic
import Derived.BigQuiet
import Derived.Deep.RegionWith
import Derived.StillTailTactics
import Derived.Test.YtfalaomjfkaphaaGreatDoorSo
import Derived.Test.YtfalaomjfkaphaaGreatDoorSoL
import Derived.Test.YtfalaomjfkaphaaGreatDoorSm2
set_option linter.unusedVariables false
set_option linter.unusedSimpArgs false
namespace Go.Proofs
open Go Go.RowKit Go.Shelf Go.Lib Go.Sort
/-! mapping.compare in the kit's own walk: what it leaves of the world -/
def lessL (a b : ByteArray) : Bool := Op.bytesLess a.toList b.toList
def gtrL (a b : ByteArray) : Bool := !(Op.bytesLess a.toList b.toList || a.toList == b.toList)
def cmpT (a b : ByteArray) : Int := if lessL a b = true then -1 else if gtrL a b = true then 1 else 0
def cmpN (a b : Int) : Int := if a < b then -1 else if a > b then 1 else 0
def orN (a b : Int) : Int := if a = 0 then b else a
theorem nanW (s : ByteArray) (w : World) : Calls Tryz.prog 74 #[.string s] w fun e w' => e = .returned (.bool false) ∧ w' = w := by
  go_enter Tryz.func74, Tryz.ntmps74
  go_wp2
  go_ret
  exact ⟨by simp, rfl⟩
theorem nanV (s : Int) (w : World) : Calls Tryz.prog 73 #[.int .i64 s] w fun e w' => e = .returned (.bool false) ∧ w' = w := by
  go_enter Tryz.func73, Tryz.ntmps73
  go_wp2
  go_ret
  exact ⟨by simp, rfl⟩
set_option maxHeartbeats 1000000 in
theorem cmpV (a b : Int) (w : World) : Calls Tryz.prog 38 #[.int .i64 a, .int .i64 b] w fun e w' => e = .returned (.int .i64 (cmpN a b)) ∧ w' = w := by
  have hn := fun s W => nanV s W
  go_enter Tryz.func38, Tryz.ntmps38
  go_wp2_with (go_at_call 73; refine (hn _ _).mono ?_; rintro e w' ⟨rfl, hw⟩; rw [hw])
  all_goals (go_ret; refine ⟨?_, rfl⟩; unfold cmpN; (repeat' split) <;> first | rfl | (exfalso; omega))
set_option maxHeartbeats 1000000 in
theorem cmpW (a b : ByteArray) (w : World) : Calls Tryz.prog 39 #[.string a, .string b] w fun e w' => e = .returned (.int .i64 (cmpT a b)) ∧ w' = w := by
  have hn := fun s W => nanW s W
  go_enter Tryz.func39, Tryz.ntmps39
  go_wp2_with (go_at_call 74; refine (hn _ _).mono ?_; rintro e w' ⟨rfl, hw⟩; rw [hw])
  all_goals (go_ret; refine ⟨?_, rfl⟩; unfold cmpT lessL gtrL; (repeat' split) <;> first | rfl | (exfalso; simp_all; done))
set_option maxHeartbeats 1000000 in
theorem orW (a b : Int) (blk : Nat) (w : World) (h0 : w.cell? ⟨blk, 0, none⟩ = some (.int .i64 a)) (h1 : w.cell? ⟨blk, 1, none⟩ = some (.int .i64 b)) : Calls Tryz.prog 37 #[.slice (some ⟨blk, 0, none⟩) 2 2] w fun e w' => e = .returned (.int .i64 (orN a b)) ∧ w' = w := by
  go_enter Tryz.func37, Tryz.ntmps37
  go_wp2
  refine wp_loop_rounds 3 ?_
  rw [rounds_succ]
  go_wp2
  all_goals try (rw [rounds_succ]; go_wp2)
  all_goals try (rw [rounds_succ]; go_wp2)
  all_goals (go_ret; exact ⟨by simp_all [orN], rfl⟩)
set_option maxRecDepth 20000 in
set_option maxHeartbeats 2000000 in
theorem compW (a b : Int) (u v : Value) (s t : ByteArray) (W : World) : Calls Tryz.prog 20 #[.agg #[.int .i64 a, u, .string s], .agg #[.int .i64 b, v, .string t]] W fun e w' => e = .returned (.int .i64 (orN (cmpN a b) (cmpT s t))) ∧ ∃ q os', w' = grow (W.drewN q) os' := by
  have hi := fun a b W => cmpV a b W
  have hs := fun a b W => cmpW a b W
  have ho := fun a b blk w h0 h1 => orW a b blk w h0 h1
  go_enter Tryz.func20, Tryz.ntmps20
  go_wp2
  generalize hw1 : World.alloc (World.alloc W _) _ = w1
  have c1 : w1.cell? ⟨W.heap.size, 0, none⟩ = some (.int .i64 a) := by clear hi hs ho; subst hw1; go_simp
  have c2 : w1.cell? ⟨W.heap.size, 2, none⟩ = some (.string s) := by clear hi hs ho; subst hw1; go_simp
  have c3 : w1.cell? ⟨W.heap.size + 1, 0, none⟩ = some (.int .i64 b) := by clear hi hs ho; subst hw1; go_simp
  have c4 : w1.cell? ⟨W.heap.size + 1, 2, none⟩ = some (.string t) := by clear hi hs ho; subst hw1; go_simp
  refine wp_region_still_tail 10 (by kernel_rfl) (by kernel_rfl) ?_
  change wpStill _ _ (World.drew w1) (fun a' => wpList _ _ _ _ a' (World.drew w1)) _ _
  simp only [List.take_succ_cons, List.take_zero, List.drop_succ_cons, List.drop_zero]
  iterate 4 still_step
  still_call (hi a b _)
  iterate 4 still_step
  still_call (hs s t _)
  refine wpStill_nil ?_
  go_wp2_with (go_at_call 37; refine (ho (cmpN a b) (cmpT s t) w1.heap.size _ (by go_simp) (by go_simp)).mono ?_; rintro e w' ⟨rfl, rfl⟩)
  go_ret
  exact ⟨rfl, 1, _, by rw [← hw1, alloc_eq_grow, alloc_eq_grow, alloc_eq_grow, grow_grow, grow_grow]; rfl⟩
#print axioms compW
end Go.Proofs

namespace Go.Proofs
open Go Go.Sx Go.RowKit Go.Lib Go.Sort Go.Shelf
variable {mx : Int} {pb : Bool}

/-! slices.SortFunc of mappings -/
structure MV where
  frm : Int
  to : Value
  ok : to.oneCell' = true
  tag : ByteArray
instance : Inhabited MV := ⟨⟨0, .slice none 0 0, rfl, ⟨#[]⟩⟩⟩
def mvV (x : MV) : List Value := [.int .i64 x.frm, x.to, .string x.tag]
def mvM (x : MV) : Mp := ⟨x.frm, [], x.tag⟩
def cfM (x y : MV) : Int := cmpM (mvM x) (mvM y)
theorem cmpT_S (a b : ByteArray) : cmpT a b = cmpS a b := by
  unfold cmpT cmpS lessL gtrL lessS gtrS
  rw [ByteArray.toList_eq, ByteArray.toList_eq]
theorem orN_M (x y : MV) : orN (cmpN x.frm y.frm) (cmpT x.tag y.tag) = cfM x y := by
  unfold orN cfM cmpM
  rw [cmpT_S]
  have : cmpN x.frm y.frm = cmpI x.frm y.frm := by
    unfold cmpN cmpI
    by_cases h1 : x.frm < y.frm
    · simp [h1]
    · by_cases h2 : x.frm > y.frm <;> simp [h1, h2]
  rw [this]
  rfl
theorem ltM_of (x y : MV) : ltOf cfM x y = ltM (mvM x) (mvM y) := rfl
theorem swoM : SWO (ltOf cfM) where
  irrefl x := by
    rw [ltM_of]
    cases h : ltM (mvM x) (mvM x) with
    | false => rfl
    | true => have := ltM_asym _ _ h; rw [h] at this; exact this
  trans x y z h1 h2 := by
    rw [ltM_of] at *
    cases h : ltM (mvM x) (mvM z) with
    | true => rfl
    | false =>
      have := ltM_tr _ _ _ (ltM_asym _ _ h2) h
      rw [h1] at this
      exact this.symm
  ntrans x y z h1 h2 := by
    rw [ltM_of] at *
    exact ltM_tr _ _ _ h2 h1
theorem entersM : Sx.Enters Tryz.prog 20 := ⟨_, Tryz.func20, by kernel_rfl, by kernel_rfl⟩
theorem sortM_ok : SoundT Tryz.prog (GlT mx pb) 19 (sortT 3 20 mpD ltM) := by
  refine sort_sound (α := MV) ⟨_, Tryz.func19, by kernel_rfl, by kernel_rfl⟩ entersM mvV cfM (fun _ => rfl) (by decide) (fun x v hv => by
      simp [mvV] at hv; rcases hv with rfl | rfl | rfl
      · rfl
      · exact x.ok
      · rfl) ?_ ?_ (fun M x y => x.frm = y.frm ∧ x.tag = y.tag ∧ Rep M [] (mpD x 1) y.to) ?_ ?_ ?_
  · intro blk cap d w hH hblk hsz
    exact AnyQ.slices_SortFunc Tryz.sortMp 3 Tryz.isAgg47 Tryz.sizeOf47 mvV (fun _ => rfl) (fun x v hv => by
      simp [mvV] at hv; rcases hv with rfl | rfl | rfl
      · rfl
      · exact x.ok
      · rfl) cfM swoM 20 #[] blk 0 cap d w (fun args w => run_callFunc entersM) (fun _ _ _ _ x y => by
        have := compW x.frm y.frm x.to y.to x.tag y.tag
        rw [orN_M] at this
        exact this _) hH hblk hsz
  · intro p cap fv w
    exact AnyF.slices_SortFunc_none Tryz.sortMp p cap fv w
  · intro M x cs hl hc
    match cs, hl with
    | [a, b, c], _ =>
      obtain ⟨u0, e0, _, r0⟩ := hc 0 (by decide)
      obtain ⟨u1, e1, o1, r1⟩ := hc 1 (by decide)
      obtain ⟨u2, e2, _, r2⟩ := hc 2 (by decide)
      obtain rfl : a = u0 := Option.some.inj e0
      obtain rfl : b = u1 := Option.some.inj e1
      obtain rfl : c = u2 := Option.some.inj e2
      have r0 : a = .int .i64 x.frm := r0
      have r2 : c = .string x.tag := r2
      subst r0; subst r2
      exact ⟨⟨x.frm, b, o1, x.tag⟩, rfl, rfl, rfl, r1⟩
  · rintro M x y ⟨h1, h2, h3⟩ j hj
    match j, hj with
    | 0, _ => exact ⟨_, rfl, rfl, congrArg (Value.int .i64) h1.symm⟩
    | 1, _ => exact ⟨_, rfl, y.ok, h3⟩
    | 2, _ => exact ⟨_, rfl, rfl, congrArg Value.string h2.symm⟩
  · rintro M x y x' y' ⟨h1, h2, _⟩ ⟨h3, h4, _⟩
    rw [show Go.Proofs.ltOf cfM y y' = ltM (mvM y) (mvM y') from rfl]
    unfold ltM cmpM
    show decide ((if cmpI x.frm x'.frm = 0 then cmpS x.tag x'.tag else cmpI x.frm x'.frm) < 0) = decide ((if cmpI y.frm y'.frm = 0 then cmpS y.tag y'.tag else cmpI y.frm y'.frm) < 0)
    rw [h1, h2, h3, h4]
#print axioms sortM_ok
end Go.Proofs
