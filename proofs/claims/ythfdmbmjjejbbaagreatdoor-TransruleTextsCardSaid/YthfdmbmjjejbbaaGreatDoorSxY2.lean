import Derived.Test.YthfdmbmjjejbbaaGreatDoorEa
set_option linter.unusedVariables false
set_option linter.unusedSimpArgs false
namespace Go.Sx
open Go Go.RowKit
/-- A row of bytes that a cell names, under a new number. -/
theorem StLe.moveB {m i j r t e : Nat} {s : ByteArray} {l : List D} {tm : List (Nat × D)} {ow : List Own} {df : List DE} (h : ow[i]? = some (.cells t l)) (hj : l[j]? = some (.row r)) (hr : ow[r]? = some (.bytes e s)) : StLe m ⟨tm, ow, df⟩ ⟨tm, setOwn (setOwn ow r .gone ++ [.bytes e s]) i (.cells t (l.set j (.row ow.length))), df⟩ := by
  refine ⟨rfl, ?_⟩
  intro B w0 M0 dv N M E w a hW hR
  obtain ⟨v, hv⟩ := get_some (l := E) (n := r) (by rw [hW.len]; exact get_lt hr)
  have hH := hW.holds _ _ _ hr hv
  have hir : i ≠ r := fun e => by subst e; rw [h] at hr; simp at hr
  have hW1 := hW.kill hr
  have hW2 : WRel B w0 M0 M (E ++ [v]) (setOwn ow r .gone ++ [.bytes e s]) w := by
    refine hW1.push hH fun k p u b hp hu hl _ hb hb' => ?_
    rw [getElem?_setOwn] at hp
    split at hp
    · rename_i hk; subst hk
      split at hp <;> simp at hp
      subst hp; simp [Own.live] at hl
    · rename_i hk
      exact hk (hW.inj _ _ _ _ _ _ _ hr hp rfl hl hv hu hb' hb)
  have hi : (setOwn ow r .gone ++ [Own.bytes e s])[i]? = some (.cells t l) := by
    rw [List.getElem?_append_left (by rw [length_setOwn]; exact get_lt h), getElem?_setOwn, if_neg (fun e => hir e.symm)]; exact h
  refine ⟨M, E ++ [v], Mem.le_refl _, fun i v _ hv => EnvLe.append _ _ _ _ hv, fun i _ b hb => EnvLe.append _ _ _ _ hb, hW2.swap hi (fun _ => rfl) fun v' _ hH' => ?_, hR.mono (Mem.le_refl _) (EnvLe.append _ _)⟩
  simp only [Holds] at hH' ⊢
  obtain ⟨b, cs, q1, q2, q3, q4, q5⟩ := hH'
  refine ⟨b, cs, q1, q2, RepL.setOne q3 fun u hu => ?_, q4, q5⟩
  obtain ⟨u', hu', hr'⟩ := RepL.get q3 hj
  rw [hu] at hu'
  simp only [Option.some.injEq] at hu'
  subst hu'
  simp only [Rep] at hr' ⊢
  rw [List.getElem?_append_left (by rw [hW.len]; exact get_lt hr), hv] at hr'
  simp only [Option.some.injEq] at hr'
  subst hr'
  rw [← hW.len, List.getElem?_append_right (Nat.le_refl _)]
  simp
end Go.Sx
