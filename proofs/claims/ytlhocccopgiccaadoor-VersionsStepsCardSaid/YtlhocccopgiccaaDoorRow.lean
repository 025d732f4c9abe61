import Derived.Test.YtlhocccopgiccaaDoorV2
import Derived.Test.YtlhocccopgiccaaDoorRows
import Derived.Test.YtlhocccopgiccaaDoorTie
import Derived.Test.YtlhocccopgiccaaDoorCards
import Derived.ProofKit
import Derived.LaidMore
import Derived.OpenShut
import Derived.Stop.Joined
import Derived.Lib.SmallJoins
import Derived.Deep.Slices
import Derived.Carry
import Derived.SevenTiedAt
namespace Go.Proofs.YtlhocccopgiccaaDoor
open Go Go.Sx Go.ChangeShapes Go.WideShapes Go.ChangeAt Go.RowKit

theorem stepsAll : Sound Tryd.prog GlT 3 ctSteps := steps_ok alive_ok

/-- All blocks of cells. -/
def memOf (W : World) : Mem := fun b => match W.heap[b]? with | some (.cells c t f) => some (.cells c t f) | _ => none
theorem memOf_fits (W : World) : (memOf W).fits W := by
  intro b o h
  unfold memOf at h
  split at h
  · rename_i c t f hb
    simp at h; subst h
    exact hb
  · simp at h
theorem memOf_cell {W : World} {a : Addr} {v : Value} (h : W.cell? a = some v) : (memOf W).cell a = some v := by
  unfold World.cell? at h
  unfold Mem.cell memOf
  split at h
  · rename_i c e f hb
    simp only [hb]
    exact h
  · simp at h

theorem one_of {cs : List Value} {i : Nat} {v : Value} (h : (cs.drop i).take 1 = [v]) : cs[i]? = some v := by
  have : ((cs.drop i).take 1)[0]? = some v := by rw [h]; rfl
  simpa [List.getElem?_take, List.getElem?_drop] using this

def digs : List Int := [48,49,50,51,52,53,54,55,56,57,65,66,67,68,69,70]
theorem own : ownKnob Tryd.prog.godebug = none := by kernel_rfl
theorem laidOut : laidOutB Tryd.prog = true := by kernel_rfl
theorem gDig : Tryd.prog.globalNamed "unicodetext/codepoint.digits" = some 0 := by kernel_rfl
theorem tDig : (Tryd.prog.globals[0]?).map (·.type) = some 99 := by kernel_rfl

theorem digits_of {W : World} (h : laidMetH Tryd.prog Rows.versionsStepsRow.laid W) : ∀ j, j < 16 → W.cell? ⟨0, j, none⟩ = some (.int .u8 (digs.getD j 0)) := by
  rw [MakeChecks.laidMetH_plain _ _ _ (by kernel_rfl)] at h
  obtain ⟨ps, ⟨_, _, _, _, _, _, _, _, _, _, ⟨_, _, _, _, _, _, _, _, _, _, ⟨_, _, _, _, _, _, _, _, _, _, ⟨g, t, cs, f, p, q, hg, ht, hv, hd, _, _⟩, _⟩, _⟩, _⟩, _, _⟩ := h
  obtain rfl := Option.some.inj (gDig.symm.trans hg)
  obtain rfl := Option.some.inj (tDig.symm.trans ht)
  obtain ⟨xs, m, rfl, hx, hlen, hn, hel⟩ := DataW.trod_array Tryd.underlying99 hd
  intro j hj
  have he := hel j hj
  have hx' : xs.map (·.1) = digs.map fun k => (DataW.lit (.int .u8 k) : DataW Unit) := by
    simp only [Prod.mk.injEq] at hx
    have := hx.1
    exact (DataW.agg.inj this).symm
  obtain ⟨y, hy⟩ : ∃ y, xs[j]? = some y := ⟨xs[j]'(by omega), List.getElem?_eq_getElem _⟩
  rw [hy] at he
  obtain ⟨k, e1, e2, _⟩ := DataW.trod_int Tryd.underlying5 he
  have e3 : (xs.map (·.1))[j]? = some (.lit (.int .u8 k)) := by rw [List.getElem?_map, hy, e2]; rfl
  rw [hx', List.getElem?_map] at e3
  have hk : digs[j]? = some k := by
    cases hdj : digs[j]? with
    | none => rw [hdj] at e3; simp at e3
    | some k' => rw [hdj] at e3; simp at e3; rw [e3]
  have c1 : Tryd.prog.cellsOf 5 = 1 := by kernel_rfl
  rw [c1, Nat.mul_one] at e1
  have e4 := one_of e1
  have := World.var?_cell hg hv j
  rw [this, List.getD_eq_getElem?_getD, hk]
  simpa using e4

theorem gl_ok {W : World} (h : laidMetH Tryd.prog Rows.versionsStepsRow.laid W) : GlOk (memOf W) GlT := by
  intro g d hd
  unfold GlT at hd
  split at hd
  · rename_i hg
    subst hg
    simp at hd; subst hd
    simp only [digitsD, Rep]
    refine ⟨_, rfl, fun j hj => ⟨_, memOf_cell (by rw [add_plain, Nat.zero_add]; exact digits_of h j hj), rfl, rfl⟩⟩
  · simp at hd

section
variable {H : Type} {enc : TypeId × Value → H} {W : World} {base : Nat} {sp : Nat → Bool} {hd : Bool}

theorem open_change {n : Nat} {cs : List Value} {x : DataW H × List MemPlace} (h : DataW.trod enc Tryd.prog W base sp hd n 34 cs = some x) :
    ∃ c : Change, ∀ j, j < 5 → ∃ v, cs[j]? = some v ∧ v.oneCell' = true ∧ ∀ M, Rep M [] (chD c j) v := by
  obtain ⟨y0, y1, y2, y3, m, _, hlen, h0, h1, h2, h3⟩ := Joins.trod_struct4 Tryd.underlying34 h
  have c9 : Tryd.prog.cellsOf 9 = 1 := by kernel_rfl
  have c32 : Tryd.prog.cellsOf 32 = 2 := by kernel_rfl
  have c3 : Tryd.prog.cellsOf 3 = 1 := by kernel_rfl
  obtain ⟨s0, e0, _, _⟩ := DataW.trod_string Tryd.underlying9 h0
  obtain ⟨s2, e2, _, _⟩ := DataW.trod_string Tryd.underlying9 h2
  obtain ⟨s3, e3, _, _⟩ := DataW.trod_string Tryd.underlying9 h3
  obtain ⟨z0, z1, m', _, _, g0, g1⟩ := trod_struct2 Tryd.underlying32 h1
  obtain ⟨k0, f0, _, _⟩ := DataW.trod_int Tryd.underlying3 g0
  obtain ⟨k1, f1, _, _⟩ := DataW.trod_int Tryd.underlying3 g1
  simp only [c9, c32, c3] at e0 e2 e3 f0 f1
  have a0 := one_of e0
  have a3 := one_of e2
  have a4 := one_of e3
  have b0 := one_of f0
  have b1 := one_of f1
  simp only [List.getElem?_take, List.getElem?_drop] at b0 b1
  refine ⟨⟨s0, k0, k1, s2, s3⟩, fun j hj => ?_⟩
  match j, hj with
  | 0, _ => exact ⟨_, a0, rfl, fun M => rfl⟩
  | 1, _ => exact ⟨_, by simpa using b0, rfl, fun M => rfl⟩
  | 2, _ => exact ⟨_, by simpa using b1, rfl, fun M => rfl⟩
  | 3, _ => exact ⟨_, a3, rfl, fun M => rfl⟩
  | 4, _ => exact ⟨_, a4, rfl, fun M => rfl⟩

theorem open_changes {v : Value} {d : DataW H} {p : List MemPlace} (hval : ∃ a len cap, v = .slice a len cap) (h : DataW.Trod enc Tryd.prog W base sp hd 24 v d p) :
    ∃ l : List Change, l.length ≤ 9223372036854775807 ∧ Rep (memOf W) [] (slD 5 chD l) v := by
  obtain ⟨a0, len0, cap0, rfl⟩ := hval
  obtain ⟨fuel, hf⟩ := h
  rcases Go.Deep.open_slice Tryd.underlying24 hf with ⟨hcs, _⟩ | ⟨a, len, cap, m, n, Dd, Pl, hcs, _, hl, hm, hmm, _, hel⟩
  · simp [Value.cells] at hcs
    obtain ⟨rfl, rfl, rfl⟩ := hcs
    refine ⟨[], by simp, ?_⟩
    simp only [slD, Rep]
    exact ⟨none, 0, rfl, Nat.le_refl _, fun h => by simp at h⟩
  · simp [Value.cells] at hcs
    obtain ⟨rfl, rfl, rfl⟩ := hcs
    have c34 : Tryd.prog.cellsOf 34 = 5 := by kernel_rfl
    have hlm : len0 ≤ m := by rw [hmm]; split <;> omega
    have key : ∀ i, ∃ c : Change, i < len0 → ∀ j, j < 5 → ∃ v, W.cell? (a.add (i * 5 + j)) = some v ∧ v.oneCell' = true ∧ ∀ M, Rep M [] (chD c j) v := by
      intro i
      by_cases hi : i < len0
      · obtain ⟨cs', h1, h2⟩ := hel i (by omega)
        rw [c34] at h1
        obtain ⟨c, hc⟩ := open_change h2
        obtain ⟨_, hlen, hcell⟩ := World.cells?_some h1
        refine ⟨c, fun _ j hj => ?_⟩
        obtain ⟨v, q1, q2, q3⟩ := hc j hj
        refine ⟨v, ?_, q2, q3⟩
        rw [← Go.Deep.add_add, hcell j hj, q1]
      · exact ⟨default, fun h => absurd h hi⟩
    let F : Nat → Change := fun i => Classical.choose (key i)
    have hF : ∀ i, i < len0 → ∀ j, j < 5 → ∃ v, W.cell? (a.add (i * 5 + j)) = some v ∧ v.oneCell' = true ∧ ∀ M, Rep M [] (chD (F i) j) v := fun i => Classical.choose_spec (key i)
    refine ⟨(List.range len0).map F, by simp; simp [maxLen] at hm; omega, ?_⟩
    simp only [slD, Rep]
    refine ⟨some a, cap0, by simp, by simpa using hl, fun _ => ⟨a, rfl, fun i hi j hj => ?_⟩⟩
    simp only [List.length_map, List.length_range] at hi
    obtain ⟨v, q1, q2, q3⟩ := hF i hi j hj
    refine ⟨v, memOf_cell q1, q2, ?_⟩
    have : ((List.range len0).map F).getD i default = F i := by simp [List.getD_eq_getElem?_getD, hi]
    rw [this]
    exact q3 _
end

theorem door_met (os : Os) (args : Array Value) : laidMetH Tryd.prog Rows.versionsStepsRow.laid ((World.doorLaid Tryd.prog 400 os).forCall (fun _ _ => 0) ⟨#[], args, []⟩).memory :=
  laidMetH_of_parts3 (fuel := 8) (laidMet_of_run' 8 (by kernel_rfl) (by kernel_rfl)) (by kernel_rfl) (by kernel_rfl)

set_option maxRecDepth 100000 in
theorem lifted (os : Os) (started : os.Started) (H : Type) (enc : TypeId × Value → H) :
    ReturnsInHanded {} Tryd.checked os 3 .any (fun w args => (Rows.versionsStepsSpec.pre enc Tryd.prog Tryd.f3 [] false w args ∧ laidMetH Tryd.prog Rows.versionsStepsRow.laid w) ∧ sizedMet enc Tryd.prog Tryd.f3 (OpenSpec.ofChange Rows.versionsStepsSpec) false w args)
      (Rows.versionsStepsSpec.post enc Tryd.prog Tryd.f3 false true false false) := by
  refine returnsInHanded_of_change_and (C := Tryd.checked) (X := fun w _ => laidMetH Tryd.prog Rows.versionsStepsRow.laid w) (fun _ _ _ hh h => h.of_heap hh) own started (by kernel_rfl) Tryd.func3
    (ChangeSpec.witness_shaped (enc := enc) (C := Tryd.checked) (os := os) (X := fun w _ => laidMetH Tryd.prog Rows.versionsStepsRow.laid w) false (World.doorLaid Tryd.prog 400 os) #[.agg #[.int .i64 0, .int .i64 0], .slice none 0 0] 8 rfl (World.shaped_of_RefB (by kernel_rfl) (by kernel_rfl)) (by kernel_rfl) (by kernel_rfl) (by kernel_rfl) (door_met os _)) ?_
  intro W base args ds gs before hval0 hW _ _ hL _
  have hval : ∀ (j : Nat) t v, Tryd.f3.params[j]? = some t → args[j]? = some v → Value.okWide Tryd.prog W .any base t v := hval0
  have hW' := hW
  obtain ⟨p, q, hA0, hV, rfl, hfz, hnd⟩ := hW
  have hA : DataW.TrodAll enc Tryd.prog W 0 (fun _ => true) true Tryd.f3.params.toList args.toList ds p := hA0
  rw [Tryd.params3] at hA hval
  obtain ⟨v0, v1, d0, d1, p0, p1, rfl, rfl, rfl, h0, h1⟩ := trodAll_two hA
  obtain ⟨rfl, rfl⟩ := trodVars_none hV
  have hlt : ∀ x ∈ p0 ++ p1, x.block < W.heap.size := fun x hx => by simpa using hW'.lt x (by simpa using hx)
  have hargs0 : ∀ (W' : World), Below W.heap.size W W' → DataW.Trod enc Tryd.prog W' 0 (fun b => decide (b < W.heap.size)) true 23 v0 d0 p0 :=
    fun W' hn => Below.trod laidOut (by kernel_rfl) (of_decide_eq_true (by kernel_rfl)) h0 hn (fun x hx => hlt x (List.mem_append.2 (.inl hx)))
  have hargs1 : ∀ (W' : World), Below W.heap.size W W' → DataW.Trod enc Tryd.prog W' 0 (fun b => decide (b < W.heap.size)) true 24 v1 d1 p1 :=
    fun W' hn => Below.trod laidOut (by kernel_rfl) (of_decide_eq_true (by kernel_rfl)) h1 hn (fun x hx => hlt x (List.mem_append.2 (.inr hx)))
  obtain ⟨u0, u1, y0, y1, n, rfl, _, _, g0, g1⟩ := Joins.open_agg2 Tryd.underlying23 (by kernel_rfl) (by kernel_rfl) (hval 0 23 v0 rfl rfl) h0
  obtain ⟨a, e0, _, wa⟩ := DataW.trod_int Tryd.underlying3 g0
  obtain ⟨b, e1, _, wb⟩ := DataW.trod_int Tryd.underlying3 g1
  simp only [List.cons.injEq, and_true] at e0 e1
  subst e0; subst e1
  obtain ⟨l, hl, hrep⟩ := open_changes (okWide_slice Tryd.underlying24 (hval 1 24 v1 rfl rfl)) h1
  have fit : ∀ {k : Int}, (Lit.int .i64 k).wf = true → fitsI64 k := by
    intro k hk
    simp [Lit.wf] at hk
    exact hk
  have hin : RepL (memOf W) [] (ctSteps.inp (a, b, l)) #[.agg #[.int .i64 a, .int .i64 b], v1].toList := by
    refine RepL.cons ?_ (RepL.cons hrep RepL.nil)
    simp only [verD, Rep]
    exact ⟨_, rfl, RepL.cons rfl (RepL.cons rfl RepL.nil)⟩
  have hcall := stepsAll.2.2 (a, b, l) ⟨hl, fit wa, fit wb⟩ (memOf W) W #[.agg #[.int .i64 a, .int .i64 b], v1] (memOf_fits W) (gl_ok hL) hin 0
  refine (callsIn_wide.1 hcall).mono fun e W' hR => ?_
  obtain ⟨M', u, rfl, _, _, _, hu, hb⟩ := hR
  have hu' : u = .bool true := hu
  subst hu'
  simp only [List.append_nil] at hW'
  refine ⟨_, rfl, _, _, _, [], p0 ++ p1, [], hW', ?_, ?_, rfl, hb.frame _, fun h => by cases h⟩
  · exact trodAll_mk1 (shut_bool Tryd.underlying4 true)
  · exact trodAll_mk2 (hargs0 _ hb) (hargs1 _ hb)

theorem row_holds : Rows.VersionsStepsSaid :=
  OpenClaim.holds_of_wide 3 Tryd.f3 rfl rfl rfl rfl rfl rfl rfl ⟨rfl, rfl, rfl, rfl, rfl⟩ rfl rfl rfl rfl rfl (by kernel_rfl) Tryd.func3 (by kernel_rfl)
    (of_decide_eq_true (by kernel_rfl)) (by unfold Func.isWrapper; first | (rw [if_pos (by decide +kernel)]; kernel_rfl) | (rw [if_neg (by decide +kernel)]; exact ⟨rfl, rfl⟩))
    (fun os started H enc _ => lifted os started H enc)
end Go.Proofs.YtlhocccopgiccaaDoor
