import Derived.Test.YtcihhjjmcompkaaGreatDoorE6
import Derived.Test.YtcihhjjmcompkaaGreatDoorBz
import Derived.Test.YtcihhjjmcompkaaGreatDoorRows
import Derived.Test.YtcihhjjmcompkaaGreatDoorTie
import Derived.Test.YtcihhjjmcompkaaGreatDoorCards
import Derived.ProofKit
import Derived.LaidMore
import Derived.Lay
import Derived.OpenShut
import Derived.Stop.Joined
import Derived.Lib.SmallJoins
import Derived.Deep.Slices
import Derived.Deep.Strs
import Derived.Carry
import Derived.SevenTiedAt
import Derived.HandedShaped
import Derived.Shelf.Vars
set_option linter.unusedVariables false
set_option linter.unusedSimpArgs false
namespace Go.Proofs.YtcihhjjmcompkaaGreatDoor
open Go Go.Sx Go.ChangeShapes Go.WideShapes Go.ChangeAt Go.RowKit
def memOf (W : World) : Mem := fun b => match W.heap[b]? with | some (.cells c t f) => some (.cells c t f) | _ => none
theorem memOf_fits (W : World) : (memOf W).fits W := by
  intro b o h
  unfold memOf at h
  split at h
  · rename_i c t f hb
    simp at h; subst h
    exact hb
  · simp at h
theorem memOf_cell {W : World} {a : Addr} {v : Value} (h : W.cell? a = some v) : (memOf W).cell a = some v := by
  unfold World.cell? at h
  unfold Mem.cell memOf
  split at h
  · rename_i c e f hb
    simp only [hb]
    exact h
  · simp at h
theorem one_of {cs : List Value} {i : Nat} {v : Value} (h : (cs.drop i).take 1 = [v]) : cs[i]? = some v := by
  have : ((cs.drop i).take 1)[0]? = some v := by rw [h]; rfl
  simpa [List.getElem?_take, List.getElem?_drop] using this
theorem own : ownKnob Tryz.prog.godebug = none := by kernel_rfl
theorem laidOut : laidOutB Tryz.prog = true := by kernel_rfl
def Opens (W : World) (t : TypeId) (sz : Nat) {α : Type} (f : α → Nat → D) (ok : α → Prop) : Prop :=
  ∀ (H : Type) (enc : TypeId × Value → H) (base : Nat) (sp : Nat → Bool) (hd : Bool) (n : Nat) (cs : List Value) (x : DataW H × List MemPlace),
    DataW.trod enc Tryz.prog W base sp hd n t cs = some x → cs.length = sz ∧ ∃ c : α, ok c ∧ ∀ j, j < sz → ∃ v, cs[j]? = some v ∧ v.oneCell' = true ∧ Rep (memOf W) [] (f c j) v
section
variable {W : World}
theorem Opens.ren {t : TypeId} {sz : Nat} {α : Type} {f g : α → Nat → D} {ok ok' : α → Prop} (h : Opens W t sz f ok) (hfg : ∀ c j, j < sz → f c j = g c j) (ho : ∀ c, ok c → ok' c) : Opens W t sz g ok' := by
  intro H enc base sp hd n cs x hx
  obtain ⟨hl, c, hc, hj⟩ := h H enc base sp hd n cs x hx
  refine ⟨hl, c, ho c hc, fun j hjs => ?_⟩
  rw [← hfg c j hjs]
  exact hj j hjs
end
theorem ret_shaped {H : Type} {enc : TypeId × Value → H} {a : Assume} {C : Checked} {os : Os} {f : FuncId} {fn : Func} {s : ChangeSpec} {conds : List PathCond} {apart fresh handsOn again : Bool} {X : World → Array Value → Prop}
    (hX : ∀ (w w' : World) (args : Array Value), w.heap = w'.heap → X w args → X w' args)
    (own : ownKnob C.prog.godebug = none) (started : os.Started) (noInit : C.prog.inits.idxOf? f = none) (hfn : C.prog.funcs[f]? = some fn)
    (witness : ∃ (w : World) (tape : Tape) (i : Input), w.os = os ∧ (w.forCall tape i).Shaped C.prog ∧ i.vars = [] ∧ Input.okWide C.prog (w.forCall tape i) .any w.heap.size f i ∧
      ((s.pre enc C.prog fn conds apart (w.forCall tape i).memory i.args ∧ X (w.forCall tape i).memory i.args) ∧ sizedMet enc C.prog fn (OpenSpec.ofChange s) apart (w.forCall tape i).memory i.args) ∧ a.holds C.prog (lone (Frame.enter C.prog f i.args .normal) [] (w.forCall tape i)))
    (contract : ∀ (W : World) (base : Nat) (args : Array Value) (ds gs : List (DataW H)) (before : List MemPlace),
      (∀ (j : Nat) t v, fn.params[j]? = some t → args[j]? = some v → Value.okWide C.prog W .any base t v) →
      DataW.Whole enc C.prog fn.params.toList s.vars apart W args.toList ds gs before → X W args → W.ShapedOpen C.prog →
      Calls C.prog f args W fun e W' => ∃ v, e = .returned v ∧ s.post enc C.prog fn apart fresh handsOn again W args v W') :
    ReturnsInHanded a C os f .any (fun w args => (s.pre enc C.prog fn conds apart w args ∧ X w args) ∧ sizedMet enc C.prog fn (OpenSpec.ofChange s) apart w args) (s.post enc C.prog fn apart fresh handsOn again) := by
  refine returnsInHanded_of_calls own started noInit witness ?_
  intro w tape i _ hsh _ hok hpre _
  obtain ⟨_, _, _, fn', hfn', _, _, _, _, hval⟩ := hok
  have e : fn' = fn := Option.some.inj (hfn'.symm.trans hfn)
  subst e
  obtain ⟨⟨⟨ds, gs, before, hw, _⟩, hx⟩, _⟩ := hpre
  have hw' := DataW.Whole.of_heap (w' := w.forCall tape i) (by rfl) hw
  refine (contract (w.forCall tape i) w.heap.size i.args ds gs before hval hw' (hX _ _ _ (by rfl) hx) hsh).mono fun e W' ⟨v, he, hp⟩ => ?_
  subst he
  exact ChangeSpec.post_blind hp
end Go.Proofs.YtcihhjjmcompkaaGreatDoor
namespace Go.Proofs.YtcihhjjmcompkaaGreatDoor
open Go Go.Sx Go.ChangeShapes Go.WideShapes Go.ChangeAt Go.RowKit
theorem jfOut : laidOutB Tryz.prog = true := by kernel_rfl
theorem jfMaps : mapsRowed Tryz.prog = true := by kernel_rfl
theorem jfHeard : Program.stopsHeard Tryz.prog = true := by kernel_rfl
theorem jfEnter : Program.mayEnter Tryz.prog = true := by kernel_rfl
theorem jfLift : (Rows.setexprTextsRow.lifted == Tryz.prog.liftsFinal) = true := by kernel_rfl
theorem jfMake : (Tryz.prog.make == some Rows.setexprTextsRow.make) = true := by kernel_rfl
theorem and2 {a b : Bool} (h : a = true) (h' : b = true) : (a && b) = true := by rw [h, h']; rfl
end Go.Proofs.YtcihhjjmcompkaaGreatDoor
