import Derived.Test.YtlhocccopgiccaaGreatDoorVX
import Derived.Test.YtlhocccopgiccaaGreatDoorRows
import Derived.Test.YtlhocccopgiccaaGreatDoorTie
import Derived.Test.YtlhocccopgiccaaGreatDoorCards
import Derived.ProofKit
import Derived.LaidMore
import Derived.OpenShut
import Derived.Stop.Joined
import Derived.Lib.SmallJoins
import Derived.Deep.Slices
import Derived.Carry
import Derived.SevenTiedAt
namespace Go.Proofs.YtlhocccopgiccaaGreatDoor
open Go Go.Sx Go.ChangeShapes Go.WideShapes Go.ChangeAt Go.RowKit


/-- All blocks of cells. -/
def memOf (W : World) : Mem := fun b => match W.heap[b]? with | some (.cells c t f) => some (.cells c t f) | _ => none
theorem memOf_fits (W : World) : (memOf W).fits W := by
  intro b o h
  unfold memOf at h
  split at h
  · rename_i c t f hb
    simp at h; subst h
    exact hb
  · simp at h
theorem memOf_cell {W : World} {a : Addr} {v : Value} (h : W.cell? a = some v) : (memOf W).cell a = some v := by
  unfold World.cell? at h
  unfold Mem.cell memOf
  split at h
  · rename_i c e f hb
    simp only [hb]
    exact h
  · simp at h

theorem one_of {cs : List Value} {i : Nat} {v : Value} (h : (cs.drop i).take 1 = [v]) : cs[i]? = some v := by
  have : ((cs.drop i).take 1)[0]? = some v := by rw [h]; rfl
  simpa [List.getElem?_take, List.getElem?_drop] using this

def digs : List Int := [48,49,50,51,52,53,54,55,56,57,65,66,67,68,69,70]
theorem own : ownKnob Tryz.prog.godebug = none := by kernel_rfl
theorem laidOut : laidOutB Tryz.prog = true := by kernel_rfl
theorem gDig : Tryz.prog.globalNamed "unicodetext/codepoint.digits" = some 0 := by kernel_rfl
theorem tDig : (Tryz.prog.globals[0]?).map (·.type) = some 125 := by kernel_rfl

theorem digits_of {W : World} (h : laidMetH Tryz.prog Rows.versionsTextsRow.laid W) : ∀ j, j < 16 → W.cell? ⟨0, j, none⟩ = some (.int .u8 (digs.getD j 0)) := by
  rw [MakeChecks.laidMetH_plain _ _ _ (by kernel_rfl)] at h
  obtain ⟨ps, ⟨_, _, _, _, _, _, _, _, _, _, ⟨_, _, _, _, _, _, _, _, _, _, ⟨_, _, _, _, _, _, _, _, _, _, ⟨g, t, cs, f, p, q, hg, ht, hv, hd, _, _⟩, _⟩, _⟩, _⟩, _, _⟩ := h
  obtain rfl := Option.some.inj (gDig.symm.trans hg)
  obtain rfl := Option.some.inj (tDig.symm.trans ht)
  obtain ⟨xs, m, rfl, hx, hlen, hn, hel⟩ := DataW.trod_array Tryz.underlying125 hd
  intro j hj
  have he := hel j hj
  have hx' : xs.map (·.1) = digs.map fun k => (DataW.lit (.int .u8 k) : DataW Unit) := by
    simp only [Prod.mk.injEq] at hx
    have := hx.1
    exact (DataW.agg.inj this).symm
  obtain ⟨y, hy⟩ : ∃ y, xs[j]? = some y := ⟨xs[j]'(by omega), List.getElem?_eq_getElem _⟩
  rw [hy] at he
  obtain ⟨k, e1, e2, _⟩ := DataW.trod_int Tryz.underlying5 he
  have e3 : (xs.map (·.1))[j]? = some (.lit (.int .u8 k)) := by rw [List.getElem?_map, hy, e2]; rfl
  rw [hx', List.getElem?_map] at e3
  have hk : digs[j]? = some k := by
    cases hdj : digs[j]? with
    | none => rw [hdj] at e3; simp at e3
    | some k' => rw [hdj] at e3; simp at e3; rw [e3]
  have c1 : Tryz.prog.cellsOf 5 = 1 := by kernel_rfl
  rw [c1, Nat.mul_one] at e1
  have e4 := one_of e1
  have := World.var?_cell hg hv j
  rw [this, List.getD_eq_getElem?_getD, hk]
  simpa using e4

theorem gl_ok {W : World} (h : laidMetH Tryz.prog Rows.versionsTextsRow.laid W) : GlOk (memOf W) GlT := by
  intro g d hd
  unfold GlT at hd
  split at hd
  · rename_i hg
    subst hg
    simp at hd; subst hd
    simp only [digitsD, Rep]
    refine ⟨_, rfl, fun j hj => ⟨_, memOf_cell (by rw [add_plain, Nat.zero_add]; exact digits_of h j hj), rfl, rfl⟩⟩
  · simp at hd

section
variable {H : Type} {enc : TypeId × Value → H} {W : World} {base : Nat} {sp : Nat → Bool} {hd : Bool}

theorem open_change {n : Nat} {cs : List Value} {x : DataW H × List MemPlace} (h : DataW.trod enc Tryz.prog W base sp hd n 55 cs = some x) :
    ∃ c : Change, ∀ j, j < 5 → ∃ v, cs[j]? = some v ∧ v.oneCell' = true ∧ ∀ M, Rep M [] (chD c j) v := by
  obtain ⟨y0, y1, y2, y3, m, _, hlen, h0, h1, h2, h3⟩ := Joins.trod_struct4 Tryz.underlying55 h
  have c9 : Tryz.prog.cellsOf 9 = 1 := by kernel_rfl
  have c32 : Tryz.prog.cellsOf 53 = 2 := by kernel_rfl
  have c3 : Tryz.prog.cellsOf 3 = 1 := by kernel_rfl
  obtain ⟨s0, e0, _, _⟩ := DataW.trod_string Tryz.underlying9 h0
  obtain ⟨s2, e2, _, _⟩ := DataW.trod_string Tryz.underlying9 h2
  obtain ⟨s3, e3, _, _⟩ := DataW.trod_string Tryz.underlying9 h3
  obtain ⟨z0, z1, m', _, _, g0, g1⟩ := trod_struct2 Tryz.underlying53 h1
  obtain ⟨k0, f0, _, _⟩ := DataW.trod_int Tryz.underlying3 g0
  obtain ⟨k1, f1, _, _⟩ := DataW.trod_int Tryz.underlying3 g1
  simp only [c9, c32, c3] at e0 e2 e3 f0 f1
  have a0 := one_of e0
  have a3 := one_of e2
  have a4 := one_of e3
  have b0 := one_of f0
  have b1 := one_of f1
  simp only [List.getElem?_take, List.getElem?_drop] at b0 b1
  refine ⟨⟨s0, k0, k1, s2, s3⟩, fun j hj => ?_⟩
  match j, hj with
  | 0, _ => exact ⟨_, a0, rfl, fun M => rfl⟩
  | 1, _ => exact ⟨_, by simpa using b0, rfl, fun M => rfl⟩
  | 2, _ => exact ⟨_, by simpa using b1, rfl, fun M => rfl⟩
  | 3, _ => exact ⟨_, a3, rfl, fun M => rfl⟩
  | 4, _ => exact ⟨_, a4, rfl, fun M => rfl⟩

theorem open_changes {v : Value} {d : DataW H} {p : List MemPlace} (hval : ∃ a len cap, v = .slice a len cap) (h : DataW.Trod enc Tryz.prog W base sp hd 42 v d p) :
    ∃ l : List Change, l.length ≤ 9223372036854775807 ∧ Rep (memOf W) [] (slD 5 chD l) v := by
  obtain ⟨a0, len0, cap0, rfl⟩ := hval
  obtain ⟨fuel, hf⟩ := h
  rcases Go.Deep.open_slice Tryz.underlying42 hf with ⟨hcs, _⟩ | ⟨a, len, cap, m, n, Dd, Pl, hcs, _, hl, hm, hmm, _, hel⟩
  · simp [Value.cells] at hcs
    obtain ⟨rfl, rfl, rfl⟩ := hcs
    refine ⟨[], by simp, ?_⟩
    simp only [slD, Rep]
    exact ⟨none, 0, rfl, Nat.le_refl _, fun h => by simp at h⟩
  · simp [Value.cells] at hcs
    obtain ⟨rfl, rfl, rfl⟩ := hcs
    have c34 : Tryz.prog.cellsOf 55 = 5 := by kernel_rfl
    have hlm : len0 ≤ m := by rw [hmm]; split <;> omega
    have key : ∀ i, ∃ c : Change, i < len0 → ∀ j, j < 5 → ∃ v, W.cell? (a.add (i * 5 + j)) = some v ∧ v.oneCell' = true ∧ ∀ M, Rep M [] (chD c j) v := by
      intro i
      by_cases hi : i < len0
      · obtain ⟨cs', h1, h2⟩ := hel i (by omega)
        rw [c34] at h1
        obtain ⟨c, hc⟩ := open_change h2
        obtain ⟨_, hlen, hcell⟩ := World.cells?_some h1
        refine ⟨c, fun _ j hj => ?_⟩
        obtain ⟨v, q1, q2, q3⟩ := hc j hj
        refine ⟨v, ?_, q2, q3⟩
        rw [← Go.Deep.add_add, hcell j hj, q1]
      · exact ⟨default, fun h => absurd h hi⟩
    let F : Nat → Change := fun i => Classical.choose (key i)
    have hF : ∀ i, i < len0 → ∀ j, j < 5 → ∃ v, W.cell? (a.add (i * 5 + j)) = some v ∧ v.oneCell' = true ∧ ∀ M, Rep M [] (chD (F i) j) v := fun i => Classical.choose_spec (key i)
    refine ⟨(List.range len0).map F, by simp; simp [maxLen] at hm; omega, ?_⟩
    simp only [slD, Rep]
    refine ⟨some a, cap0, by simp, by simpa using hl, fun _ => ⟨a, rfl, fun i hi j hj => ?_⟩⟩
    simp only [List.length_map, List.length_range] at hi
    obtain ⟨v, q1, q2, q3⟩ := hF i hi j hj
    refine ⟨v, memOf_cell q1, q2, ?_⟩
    have : ((List.range len0).map F).getD i default = F i := by simp [List.getD_eq_getElem?_getD, hi]
    rw [this]
    exact q3 _
end

theorem door_met (os : Os) (args : Array Value) : laidMetH Tryz.prog Rows.versionsTextsRow.laid ((World.doorLaid Tryz.prog 400 os).forCall (fun _ _ => 0) ⟨#[], args, []⟩).memory :=
  laidMetH_of_parts3 (fuel := 8) (laidMet_of_run' 8 (by kernel_rfl) (by kernel_rfl)) (by kernel_rfl) (by kernel_rfl)

set_option maxRecDepth 100000 in
theorem lifted (os : Os) (started : os.Started) (H : Type) (enc : TypeId × Value → H) :
    ReturnsInHanded {} Tryz.checked os 5 .any (fun w args => (Rows.versionsTextsSpec.pre enc Tryz.prog Tryz.f5 [] false w args ∧ laidMetH Tryz.prog Rows.versionsTextsRow.laid w) ∧ sizedMet enc Tryz.prog Tryz.f5 (OpenSpec.ofChange Rows.versionsTextsSpec) false w args)
      (Rows.versionsTextsSpec.post enc Tryz.prog Tryz.f5 false true false false) := by
  refine returnsInHanded_of_change_and (C := Tryz.checked) (X := fun w _ => laidMetH Tryz.prog Rows.versionsTextsRow.laid w) (fun _ _ _ hh h => h.of_heap hh) own started (by kernel_rfl) Tryz.func5
    (ChangeSpec.witness_shaped (enc := enc) (C := Tryz.checked) (os := os) (X := fun w _ => laidMetH Tryz.prog Rows.versionsTextsRow.laid w) false (World.doorLaid Tryz.prog 400 os) #[.slice none 0 0] 8 rfl (World.shaped_of_RefB (by kernel_rfl) (by kernel_rfl)) (by kernel_rfl) (by kernel_rfl) (by kernel_rfl) (door_met os _)) ?_
  intro W base args ds gs before hval0 hW _ _ hL _
  have hval : ∀ (j : Nat) t v, Tryz.f5.params[j]? = some t → args[j]? = some v → Value.okWide Tryz.prog W .any base t v := hval0
  have hW' := hW
  obtain ⟨p, q, hA0, hV, rfl, hfz, hnd⟩ := hW
  have hA : DataW.TrodAll enc Tryz.prog W 0 (fun _ => true) true Tryz.f5.params.toList args.toList ds p := hA0
  rw [Tryz.params5] at hA hval
  obtain ⟨v1, d1, rfl, rfl, h1⟩ := trodAll_one hA
  obtain ⟨rfl, rfl⟩ := trodVars_none hV
  have hlt : ∀ x ∈ p, x.block < W.heap.size := fun x hx => by simpa using hW'.lt x (by simpa using hx)
  have hargs1 : ∀ (W' : World), Below W.heap.size W W' → DataW.Trod enc Tryz.prog W' 0 (fun b => decide (b < W.heap.size)) true 42 v1 d1 p :=
    fun W' hn => Below.trod laidOut (by kernel_rfl) (of_decide_eq_true (by kernel_rfl)) h1 hn hlt
  obtain ⟨l, hl, hrep⟩ := open_changes (okWide_slice Tryz.underlying42 (hval 0 42 v1 rfl rfl)) h1
  have hin : RepL (memOf W) [] (ctLawA.inp l) #[v1].toList := RepL.cons hrep RepL.nil
  have hcall := lawTexts_ok.2.2 l hl (memOf W) W #[v1] (memOf_fits W) (gl_ok hL) hin 0
  refine (callsIn_wide.1 hcall).mono fun e W' hR => ?_
  obtain ⟨M', u, rfl, _, _, _, hu, hb⟩ := hR
  have hu' : u = .bool true := hu
  subst hu'
  simp only [List.append_nil] at hW'
  refine ⟨_, rfl, _, _, _, [], p, [], hW', ?_, ?_, rfl, hb.frame _, fun h => by cases h⟩
  · exact trodAll_mk1 (shut_bool Tryz.underlying4 true)
  · exact trodAll_mk1 (hargs1 _ hb)

theorem row_holds : Rows.VersionsTextsSaid :=
  OpenClaim.holds_of_wide 5 Tryz.f5 rfl rfl rfl rfl rfl rfl rfl ⟨rfl, rfl, rfl, rfl, rfl⟩ rfl rfl rfl rfl rfl (by kernel_rfl) Tryz.func5 (by kernel_rfl)
    (of_decide_eq_true (by kernel_rfl)) (by unfold Func.isWrapper; first | (rw [if_pos (by decide +kernel)]; kernel_rfl) | (rw [if_neg (by decide +kernel)]; exact ⟨rfl, rfl⟩))
    (fun os started H enc _ => lifted os started H enc)
end Go.Proofs.YtlhocccopgiccaaGreatDoor
