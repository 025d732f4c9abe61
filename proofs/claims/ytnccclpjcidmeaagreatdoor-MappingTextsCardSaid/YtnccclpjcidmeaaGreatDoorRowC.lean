import Derived.Test.YtnccclpjcidmeaaGreatDoorL1
import Derived.Test.YtnccclpjcidmeaaGreatDoorRows
import Derived.Test.YtnccclpjcidmeaaGreatDoorTie
import Derived.Test.YtnccclpjcidmeaaGreatDoorCards
import Derived.ProofKit
import Derived.LaidMore
import Derived.Lay
import Derived.OpenShut
import Derived.Stop.Joined
import Derived.Lib.SmallJoins
import Derived.Deep.Slices
import Derived.Deep.Strs
import Derived.Carry
import Derived.SevenTiedAt
import Derived.HandedShaped
import Derived.Shelf.Vars
namespace Go.Proofs.YtnccclpjcidmeaaGreatDoor
open Go Go.Sx Go.ChangeShapes Go.WideShapes Go.ChangeAt Go.RowKit

/-- All blocks of cells. -/
def memOf (W : World) : Mem := fun b => match W.heap[b]? with | some (.cells c t f) => some (.cells c t f) | _ => none
theorem memOf_fits (W : World) : (memOf W).fits W := by
  intro b o h
  unfold memOf at h
  split at h
  · rename_i c t f hb
    simp at h; subst h
    exact hb
  · simp at h
theorem memOf_cell {W : World} {a : Addr} {v : Value} (h : W.cell? a = some v) : (memOf W).cell a = some v := by
  unfold World.cell? at h
  unfold Mem.cell memOf
  split at h
  · rename_i c e f hb
    simp only [hb]
    exact h
  · simp at h

theorem one_of {cs : List Value} {i : Nat} {v : Value} (h : (cs.drop i).take 1 = [v]) : cs[i]? = some v := by
  have : ((cs.drop i).take 1)[0]? = some v := by rw [h]; rfl
  simpa [List.getElem?_take, List.getElem?_drop] using this

def digs : List Int := [48,49,50,51,52,53,54,55,56,57,65,66,67,68,69,70]
theorem own : ownKnob Tryz.prog.godebug = none := by kernel_rfl
theorem laidOut : laidOutB Tryz.prog = true := by kernel_rfl
theorem gDig : Tryz.prog.globalNamed "unicodetext/codepoint.digits" = some 0 := by kernel_rfl
theorem tDig : (Tryz.prog.globals[0]?).map (·.type) = some 128 := by kernel_rfl

theorem digits_of {W : World} (h : laidMetH Tryz.prog Rows.mappingChecksRow.laid W) : ∀ j, j < 16 → W.cell? ⟨0, j, none⟩ = some (.int .u8 (digs.getD j 0)) := by
  rw [MakeChecks.laidMetH_plain _ _ _ (by kernel_rfl)] at h
  obtain ⟨ps, ⟨_, _, _, _, _, _, _, _, _, _, ⟨g, t, cs, f, p, q, hg, ht, hv, hd, _⟩, _⟩, _, _⟩ := h
  obtain rfl := Option.some.inj (gDig.symm.trans hg)
  obtain rfl := Option.some.inj (tDig.symm.trans ht)
  obtain ⟨xs, m, rfl, hx, hlen, hn, hel⟩ := DataW.trod_array Tryz.underlying128 hd
  intro j hj
  have he := hel j hj
  have hx' : xs.map (·.1) = digs.map fun k => (DataW.lit (.int .u8 k) : DataW Unit) := by
    simp only [Prod.mk.injEq] at hx
    have := hx.1
    exact (DataW.agg.inj this).symm
  obtain ⟨y, hy⟩ : ∃ y, xs[j]? = some y := ⟨xs[j]'(by omega), List.getElem?_eq_getElem _⟩
  rw [hy] at he
  obtain ⟨k, e1, e2, _⟩ := DataW.trod_int Tryz.underlying5 he
  have e3 : (xs.map (·.1))[j]? = some (.lit (.int .u8 k)) := by rw [List.getElem?_map, hy, e2]; rfl
  rw [hx', List.getElem?_map] at e3
  have hk : digs[j]? = some k := by
    cases hdj : digs[j]? with
    | none => rw [hdj] at e3; simp at e3
    | some k' => rw [hdj] at e3; simp at e3; rw [e3]
  have c1 : Tryz.prog.cellsOf 5 = 1 := by kernel_rfl
  rw [c1, Nat.mul_one] at e1
  have e4 := one_of e1
  have := World.var?_cell hg hv j
  rw [this, List.getD_eq_getElem?_getD, hk]
  simpa using e4

theorem max_of {W : World} (h : W.ShapedOpen Tryz.prog) : ∃ m, W.cell? ⟨1, 0, none⟩ = some (.int .i64 m) :=
  cell_of_shapedOpen_int (t := 3) (zero := #[.int .i64 0]) h (of_decide_eq_true (by kernel_rfl)) (by kernel_rfl) rfl (by kernel_rfl) (by kernel_rfl) Tryz.underlying3

theorem gl_ok {W : World} {mx : Int} (h : laidMetH Tryz.prog Rows.mappingChecksRow.laid W) (hm : W.cell? ⟨1, 0, none⟩ = some (.int .i64 mx)) : GlOk (memOf W) (GlT mx) := by
  intro g d hd
  unfold GlT at hd
  split at hd
  · rename_i hg
    subst hg
    simp at hd; subst hd
    simp only [digitsD, Rep]
    refine ⟨_, rfl, fun j hj => ⟨_, memOf_cell (by rw [add_plain, Nat.zero_add]; exact digits_of h j hj), rfl, rfl⟩⟩
  · split at hd
    · rename_i hg
      subst hg
      simp at hd; subst hd
      simp only [Rep]
      refine ⟨_, rfl, fun j hj => ⟨_, memOf_cell (v := .int .i64 mx) ?_, rfl, rfl⟩⟩
      have : j = 0 := by omega
      subst this
      exact hm
    · simp at hd

section
variable {H : Type} {enc : TypeId × Value → H} {W : World} {base : Nat} {sp : Nat → Bool} {hd : Bool}

theorem open_ints {n : Nat} {cs : List Value} {x : DataW H × List MemPlace} (h : DataW.trod enc Tryz.prog W base sp hd n 37 cs = some x) :
    ∃ (l : List Int) (v : Value), cs = [v] ∧ v.oneCell' = true ∧ l.length ≤ 9223372036854775807 ∧ Rep (memOf W) [] (slD 1 intD l) v := by
  rcases Go.Deep.open_slice Tryz.underlying37 h with ⟨hcs, _⟩ | ⟨a, len, cap, m, n, Dd, Pl, hcs, _, hl, hm, hmm, _, hel⟩
  · refine ⟨[], _, hcs, rfl, by simp, ?_⟩
    simp only [slD, Rep]
    exact ⟨none, 0, rfl, Nat.le_refl _, fun h => by simp at h⟩
  · have c3 : Tryz.prog.cellsOf 3 = 1 := by kernel_rfl
    have hlm : len ≤ m := by rw [hmm]; split <;> omega
    have key : ∀ i, ∃ c : Int, i < len → W.cell? (a.add i) = some (.int .i64 c) := by
      intro i
      by_cases hi : i < len
      · obtain ⟨cs', h1, h2⟩ := hel i (by omega)
        rw [c3, Nat.mul_one] at h1
        obtain ⟨k, e1, _, _⟩ := DataW.trod_int Tryz.underlying3 h2
        obtain ⟨_, hlen, hcell⟩ := World.cells?_some h1
        refine ⟨k, fun _ => ?_⟩
        have := hcell 0 (by omega)
        rw [e1] at this
        simpa [Addr.add] using this
      · exact ⟨0, fun h => absurd h hi⟩
    let F : Nat → Int := fun i => Classical.choose (key i)
    have hF : ∀ i, i < len → W.cell? (a.add i) = some (.int .i64 (F i)) := fun i => Classical.choose_spec (key i)
    refine ⟨(List.range len).map F, _, hcs, rfl, by simp; simp [maxLen] at hm; omega, ?_⟩
    simp only [slD, Rep]
    refine ⟨some a, cap, by simp, by simpa using hl, fun _ => ⟨a, rfl, fun i hi j hj => ?_⟩⟩
    simp only [List.length_map, List.length_range] at hi
    have hj0 : j = 0 := by omega
    subst hj0
    refine ⟨_, memOf_cell (by rw [Nat.mul_one, Nat.add_zero]; exact hF i hi), rfl, ?_⟩
    have : ((List.range len).map F).getD i default = F i := by simp [List.getD_eq_getElem?_getD, hi]
    rw [this]
    rfl

theorem open_mapping {n : Nat} {cs : List Value} {x : DataW H × List MemPlace} (h : DataW.trod enc Tryz.prog W base sp hd n 56 cs = some x) :
    ∃ c : Mp, ∀ j, j < 3 → ∃ v, cs[j]? = some v ∧ v.oneCell' = true ∧ Rep (memOf W) [] (mpD c j) v := by
  obtain ⟨y0, y1, y2, m, _, hlen, h0, h1, h2⟩ := Go.Deep.trod_struct3 Tryz.underlying56 h
  have c9 : Tryz.prog.cellsOf 9 = 1 := by kernel_rfl
  have c37 : Tryz.prog.cellsOf 37 = 1 := by kernel_rfl
  have c3 : Tryz.prog.cellsOf 3 = 1 := by kernel_rfl
  obtain ⟨k0, e0, _, _⟩ := DataW.trod_int Tryz.underlying3 h0
  obtain ⟨l, v1, e1, o1, _, r1⟩ := open_ints h1
  obtain ⟨s2, e2, _, _⟩ := DataW.trod_string Tryz.underlying9 h2
  simp only [c9, c37, c3] at e0 e1 e2
  have a0 := one_of e0
  have a1 := one_of e1
  have a2 := one_of e2
  refine ⟨⟨k0, l, s2⟩, fun j hj => ?_⟩
  match j, hj with
  | 0, _ => exact ⟨_, a0, rfl, rfl⟩
  | 1, _ => exact ⟨_, a1, o1, r1⟩
  | 2, _ => exact ⟨_, a2, rfl, rfl⟩

theorem open_mappings {v : Value} {d : DataW H} {p : List MemPlace} (hval : ∃ a len cap, v = .slice a len cap) (h : DataW.Trod enc Tryz.prog W base sp hd 22 v d p) :
    ∃ l : List Mp, l.length ≤ 9223372036854775807 ∧ Rep (memOf W) [] (mpsD l) v := by
  obtain ⟨a0, len0, cap0, rfl⟩ := hval
  obtain ⟨fuel, hf⟩ := h
  rcases Go.Deep.open_slice Tryz.underlying22 hf with ⟨hcs, _⟩ | ⟨a, len, cap, m, n, Dd, Pl, hcs, _, hl, hm, hmm, _, hel⟩
  · simp [Value.cells] at hcs
    obtain ⟨rfl, rfl, rfl⟩ := hcs
    refine ⟨[], by simp, ?_⟩
    simp only [mpsD, slD, Rep]
    exact ⟨none, 0, rfl, Nat.le_refl _, fun h => by simp at h⟩
  · simp [Value.cells] at hcs
    obtain ⟨rfl, rfl, rfl⟩ := hcs
    have c56 : Tryz.prog.cellsOf 56 = 3 := by kernel_rfl
    have hlm : len0 ≤ m := by rw [hmm]; split <;> omega
    have key : ∀ i, ∃ c : Mp, i < len0 → ∀ j, j < 3 → ∃ v, W.cell? (a.add (i * 3 + j)) = some v ∧ v.oneCell' = true ∧ Rep (memOf W) [] (mpD c j) v := by
      intro i
      by_cases hi : i < len0
      · obtain ⟨cs', h1, h2⟩ := hel i (by omega)
        rw [c56] at h1
        obtain ⟨c, hc⟩ := open_mapping h2
        obtain ⟨_, hlen, hcell⟩ := World.cells?_some h1
        refine ⟨c, fun _ j hj => ?_⟩
        obtain ⟨v, q1, q2, q3⟩ := hc j hj
        refine ⟨v, ?_, q2, q3⟩
        rw [← Go.Deep.add_add, hcell j hj, q1]
      · exact ⟨default, fun h => absurd h hi⟩
    let F : Nat → Mp := fun i => Classical.choose (key i)
    have hF : ∀ i, i < len0 → ∀ j, j < 3 → ∃ v, W.cell? (a.add (i * 3 + j)) = some v ∧ v.oneCell' = true ∧ Rep (memOf W) [] (mpD (F i) j) v := fun i => Classical.choose_spec (key i)
    refine ⟨(List.range len0).map F, by simp; simp [maxLen] at hm; omega, ?_⟩
    simp only [mpsD, slD, Rep]
    refine ⟨some a, cap0, by simp, by simpa using hl, fun _ => ⟨a, rfl, fun i hi j hj => ?_⟩⟩
    simp only [List.length_map, List.length_range] at hi
    obtain ⟨v, q1, q2, q3⟩ := hF i hi j hj
    refine ⟨v, memOf_cell q1, q2, ?_⟩
    have : ((List.range len0).map F).getD i default = F i := by simp [List.getD_eq_getElem?_getD, hi]
    rw [this]
    exact q3
end

/-- The wrap, with the world's shape and with what the row lists. -/
theorem ret_shaped {H : Type} {enc : TypeId × Value → H} {a : Assume} {C : Checked} {os : Os} {f : FuncId} {fn : Func} {s : ChangeSpec} {conds : List PathCond} {apart fresh handsOn again : Bool} {X : World → Array Value → Prop}
    (hX : ∀ (w w' : World) (args : Array Value), w.heap = w'.heap → X w args → X w' args)
    (own : ownKnob C.prog.godebug = none) (started : os.Started) (noInit : C.prog.inits.idxOf? f = none) (hfn : C.prog.funcs[f]? = some fn)
    (witness : ∃ (w : World) (tape : Tape) (i : Input), w.os = os ∧ (w.forCall tape i).Shaped C.prog ∧ i.vars = [] ∧ Input.okWide C.prog (w.forCall tape i) .any w.heap.size f i ∧
      ((s.pre enc C.prog fn conds apart (w.forCall tape i).memory i.args ∧ X (w.forCall tape i).memory i.args) ∧ sizedMet enc C.prog fn (OpenSpec.ofChange s) apart (w.forCall tape i).memory i.args) ∧ a.holds C.prog (lone (Frame.enter C.prog f i.args .normal) [] (w.forCall tape i)))
    (contract : ∀ (W : World) (base : Nat) (args : Array Value) (ds gs : List (DataW H)) (before : List MemPlace),
      (∀ (j : Nat) t v, fn.params[j]? = some t → args[j]? = some v → Value.okWide C.prog W .any base t v) →
      DataW.Whole enc C.prog fn.params.toList s.vars apart W args.toList ds gs before → X W args → W.ShapedOpen C.prog →
      Calls C.prog f args W fun e W' => ∃ v, e = .returned v ∧ s.post enc C.prog fn apart fresh handsOn again W args v W') :
    ReturnsInHanded a C os f .any (fun w args => (s.pre enc C.prog fn conds apart w args ∧ X w args) ∧ sizedMet enc C.prog fn (OpenSpec.ofChange s) apart w args) (s.post enc C.prog fn apart fresh handsOn again) := by
  refine returnsInHanded_of_calls own started noInit witness ?_
  intro w tape i _ hsh _ hok hpre _
  obtain ⟨_, _, _, fn', hfn', _, _, _, _, hval⟩ := hok
  have e : fn' = fn := Option.some.inj (hfn'.symm.trans hfn)
  subst e
  obtain ⟨⟨⟨ds, gs, before, hw, _⟩, hx⟩, _⟩ := hpre
  have hw' := DataW.Whole.of_heap (w' := w.forCall tape i) (by rfl) hw
  refine (contract (w.forCall tape i) w.heap.size i.args ds gs before hval hw' (hX _ _ _ (by rfl) hx) hsh).mono fun e W' ⟨v, he, hp⟩ => ?_
  subst he
  exact ChangeSpec.post_blind hp

set_option maxRecDepth 100000 in
theorem lifted (os : Os) (started : os.Started) (H : Type) (enc : TypeId × Value → H) :
    ReturnsInHanded {} Tryz.checked os 3 .any (fun w args => (Rows.mappingChecksSpec.pre enc Tryz.prog Tryz.f3 [] false w args ∧ laidMetH Tryz.prog Rows.mappingChecksRow.laid w) ∧ sizedMet enc Tryz.prog Tryz.f3 (OpenSpec.ofChange Rows.mappingChecksSpec) false w args)
      (Rows.mappingChecksSpec.post enc Tryz.prog Tryz.f3 false true false false) := by
  refine ret_shaped (C := Tryz.checked) (X := fun w _ => laidMetH Tryz.prog Rows.mappingChecksRow.laid w) (fun _ _ _ hh h => h.of_heap hh) own started (by kernel_rfl) Tryz.func3
    (ChangeSpec.witness_shaped (enc := enc) (C := Tryz.checked) (os := os) (X := fun w _ => laidMetH Tryz.prog Rows.mappingChecksRow.laid w) false (World.laidAll Tryz.prog os Rows.mappingChecksRow.laid) #[.slice none 0 0] 8 (World.laidAll_os _ _ _)
      (World.shaped_of_ZipB (by kernel_rfl) (by kernel_rfl)) (by kernel_rfl) (by kernel_rfl) (by kernel_rfl)
      (by rw [MakeChecks.laidMetH_plain _ _ _ (by kernel_rfl)]; exact laidMet_laidAll _ (by kernel_rfl) (by kernel_rfl))) ?_
  intro W base args ds gs before hval0 hW hL hsh
  have hval : ∀ (j : Nat) t v, Tryz.f3.params[j]? = some t → args[j]? = some v → Value.okWide Tryz.prog W .any base t v := hval0
  have hW' := hW
  obtain ⟨p, q, hA0, hV, rfl, hfz, hnd⟩ := hW
  have hA : DataW.TrodAll enc Tryz.prog W 0 (fun _ => true) true Tryz.f3.params.toList args.toList ds p := hA0
  rw [Tryz.params3] at hA hval
  obtain ⟨v1, d1, rfl, rfl, h1⟩ := trodAll_one hA
  obtain ⟨rfl, rfl⟩ := trodVars_none hV
  have hlt : ∀ x ∈ p, x.block < W.heap.size := fun x hx => by simpa using hW'.lt x (by simpa using hx)
  have hargs1 : ∀ (W' : World), Below W.heap.size W W' → DataW.Trod enc Tryz.prog W' 0 (fun b => decide (b < W.heap.size)) true 22 v1 d1 p :=
    fun W' hn => Below.trod laidOut (by kernel_rfl) (of_decide_eq_true (by kernel_rfl)) h1 hn hlt
  obtain ⟨l, hl, hrep⟩ := open_mappings (okWide_slice Tryz.underlying22 (hval 0 22 v1 rfl rfl)) h1
  obtain ⟨mx, hm⟩ := max_of hsh
  have hin : RepL (memOf W) [] (ctLawC.inp l) #[v1].toList := RepL.cons hrep RepL.nil
  have hcall := (lawChecks_ok (mx := mx)).2.2 l hl (memOf W) W #[v1] (memOf_fits W) (gl_ok hL hm) hin 0
  refine (callsIn_wide.1 hcall).mono fun e W' hR => ?_
  obtain ⟨M', u, rfl, _, _, _, hu, hb⟩ := hR
  have hu' : u = .bool true := hu
  subst hu'
  simp only [List.append_nil] at hW'
  refine ⟨_, rfl, _, _, _, [], p, [], hW', ?_, ?_, rfl, hb.frame _, fun h => by cases h⟩
  · exact trodAll_mk1 (shut_bool Tryz.underlying4 true)
  · exact trodAll_mk1 (hargs1 _ hb)

theorem row_holds : Rows.MappingChecksSaid :=
  OpenClaim.holds_of_wide 3 Tryz.f3 rfl rfl rfl rfl rfl rfl rfl ⟨rfl, rfl, rfl, rfl, rfl⟩ rfl rfl rfl rfl rfl (by kernel_rfl) Tryz.func3 (by kernel_rfl)
    (of_decide_eq_true (by kernel_rfl)) (by unfold Func.isWrapper; first | (rw [if_pos (by decide +kernel)]; kernel_rfl) | (rw [if_neg (by decide +kernel)]; exact ⟨rfl, rfl⟩))
    (fun os started H enc _ => lifted os started H enc)
end Go.Proofs.YtnccclpjcidmeaaGreatDoor
