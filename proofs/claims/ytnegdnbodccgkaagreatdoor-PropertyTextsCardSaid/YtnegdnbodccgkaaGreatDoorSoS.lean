import Derived.Test.YtnegdnbodccgkaaGreatDoorSo
import Derived.Test.YtnegdnbodccgkaaGreatDoorSoL
import Derived.Test.YtnegdnbodccgkaaGreatDoorQ2
set_option linter.unusedVariables false
set_option linter.unusedSimpArgs false
namespace Go.Proofs
open Go Go.Sx Go.RowKit Go.Lib Go.Sort Go.Shelf
variable {mx : Int} {pb : Bool}

/-! slices.SortFunc of spans, by their first code points -/
def spV (s : Sp) : List Value := [.int .i64 s.lo, .int .i64 s.hi, .int .i64 s.val]
def ltS (a b : Sp) : Bool := decide (a.lo < b.lo)
set_option maxHeartbeats 1000000 in
theorem mkCmp (x y : Sp) (W : World) : Calls Tryz.prog 74 #[.agg #[.int .i64 x.lo, .int .i64 x.hi, .int .i64 x.val], .agg #[.int .i64 y.lo, .int .i64 y.hi, .int .i64 y.val]] W fun e w' => e = .returned (.int .i64 (Lib.compareInt x.lo y.lo)) ∧ ∃ q os', w' = grow (W.drewN q) os' := by
  have hcon := fun W' => Tryz.cmp_Compare_int x.lo y.lo W'
  generalize Lib.compareInt x.lo y.lo = r at hcon ⊢
  go_enter Tryz.func74, Tryz.ntmps74
  go_wp2_with (go_at_call 75; refine (hcon _).mono ?_; rintro e w' ⟨rfl, rfl⟩)
  go_ret
  exact ⟨rfl, 0, _, by rw [alloc_eq_grow, alloc_eq_grow, grow_grow]; rfl⟩
theorem ltLo (x y : Sp) : ltOf (fun x y : Sp => Lib.compareInt x.lo y.lo) x y = ltS x y := by
  unfold ltOf Lib.compareInt ltS
  by_cases h1 : x.lo < y.lo
  · simp [h1]
  · by_cases h2 : y.lo < x.lo <;> simp [h1, h2]
theorem swoLo : SWO (ltOf fun x y : Sp => Lib.compareInt x.lo y.lo) where
  irrefl x := by rw [ltLo]; simp [ltS]
  trans x y z h1 h2 := by rw [ltLo] at *; simp [ltS] at *; omega
  ntrans x y z h1 h2 := by rw [ltLo] at *; simp [ltS] at *; omega
theorem enters74 : Sx.Enters Tryz.prog 74 := ⟨_, Tryz.func74, by kernel_rfl, by kernel_rfl⟩
theorem sortS_ok : SoundT Tryz.prog (GlT mx pb) 73 (sortT 3 74 spD ltS) := by
  refine sort_sound (α := Sp) ⟨_, Tryz.func73, by kernel_rfl, by kernel_rfl⟩ enters74 spV (fun x y => Lib.compareInt x.lo y.lo) (fun _ => rfl) (by decide) (fun x v hv => by
      simp [spV] at hv; rcases hv with rfl | rfl | rfl <;> rfl) ?_ ?_ (fun _ x y => x = y) ?_ ?_ ?_
  · intro blk cap d w hH hblk hsz
    exact AnyQ.slices_SortFunc Tryz.sortSp 3 Tryz.isAgg80 Tryz.sizeOf80 spV (fun _ => rfl) (fun x v hv => by simp [spV] at hv; rcases hv with rfl | rfl | rfl <;> rfl) (fun x y => Lib.compareInt x.lo y.lo) swoLo 74 #[] blk 0 cap d w (fun args w => run_callFunc enters74) (fun _ _ _ _ x y => mkCmp x y _) hH hblk hsz
  · intro p cap fv w
    exact AnyF.slices_SortFunc_none Tryz.sortSp p cap fv w
  · intro M x cs hl hc
    have g : ∀ j v, j < 3 → spD x j = .v v → cs[j]? = some v := fun j v hj he => by
      obtain ⟨u, h1, _, h3⟩ := hc j hj
      rw [he] at h3
      rw [h1]; exact congrArg some h3
    refine ⟨x, ?_, rfl⟩
    match cs, hl with
    | [a, b, c], _ =>
      have e0 := Option.some.inj (g 0 _ (by decide) rfl)
      have e1 := Option.some.inj (g 1 _ (by decide) rfl)
      have e2 := Option.some.inj (g 2 _ (by decide) rfl)
      rw [e0, e1, e2]; rfl
  · rintro M x y rfl j hj
    match j, hj with
    | 0, _ => exact ⟨_, rfl, rfl, rfl⟩
    | 1, _ => exact ⟨_, rfl, rfl, rfl⟩
    | 2, _ => exact ⟨_, rfl, rfl, rfl⟩
  · rintro M x y x' y' rfl rfl
    exact (ltLo x x').symm
#print axioms sortS_ok
end Go.Proofs
