import Derived.Test.YtnegdnbodccgkaaGreatDoorT15
set_option linter.unusedVariables false
set_option linter.unusedSimpArgs false
namespace Go.Proofs
open Go Go.Sx Go.RowKit
variable {mx : Int} {pb : Bool}

/-! splitting at blanks -/
theorem splL_idx (c : UInt8) (l : List UInt8) : (∃ i : Nat, i < l.length ∧ Lib.index l [c] = i ∧ splitL c l = l.take i :: splitL c (l.drop (i + 1))) ∨ (Lib.index l [c] = -1 ∧ splitL c l = [l]) := by
  have h := splL_cut c (listB l)
  rcases Lib.index_spec l [c] with ⟨h1, h2⟩ | ⟨i, h1, h2, h3, h4⟩
  · rcases h with ⟨i, _, e1, _⟩ | ⟨_, e2⟩
    · have := cut_none h2
      rw [show Lib.cut l [c] = (l.take i, l.drop (i + 1), true) from e1] at this
      simp at this
    · exact .inr ⟨h1, e2⟩
  · have hc := cut_at h3 h4 h2
    rcases h with ⟨j, hj, e1, e2⟩ | ⟨e1, _⟩
    · have hi : i < l.length := by
        rcases Nat.lt_or_ge i l.length with h | h
        · exact h
        · have := occ1_end (s := listB l) (c := c) (j := i) h
          rw [show Lib.occAt l [c] i = false from this] at h3
          exact Bool.noConfusion h3
      have he : (l.take j, l.drop (j + 1), true) = (l.take i, l.drop (i + 1), true) := (show Lib.cut l [c] = _ from e1).symm.trans hc
      simp only [Prod.mk.injEq, and_true] at he
      have hl := congrArg List.length he.1
      rw [List.length_take, List.length_take] at hl
      have hj : j < l.length := hj
      have : j = i := by omega
      subst this
      exact .inl ⟨j, hi, h1, e2⟩
    · rw [show Lib.cut l [c] = (l, [], false) from e1] at hc
      simp at hc
theorem split_splL (c : UInt8) : ∀ (n : Nat) (l : List UInt8), l.length ≤ n → Lib.splitK [c] 0 (Lib.count l [c]) l = splitL c l
  | 0, l, h => by
    have : l = [] := List.length_eq_zero_iff.1 (by omega)
    subst this
    rfl
  | n + 1, l, h => by
    rcases splL_idx c l with ⟨i, hi, h1, h2⟩ | ⟨h1, h2⟩
    · rw [Lib.count_hit (by simp) h1, h2, Nat.add_comm, Lib.splitK, h1, if_neg (by simp)]
      simp only [Int.toNat_natCast, Nat.add_zero, List.length_singleton]
      rw [split_splL c n _ (by rw [List.length_drop]; omega)]
    · rw [Lib.count_miss h1, h2]
      rfl
theorem sound_calls2 {P : Program} {Gl : Nat → Option D} {f : FuncId} {ct : Ct} {fn : Func} (hf : P.funcs[f]? = some fn) (hname : (fn.name == "runtime.NumGoroutine") = false) (hbody : fn.body.isNone = false) (hpd : ∀ x, pdL (ct.inp x) = true)
    (h : ∀ x, ct.pre x → ∀ (M : Mem) (w : World) (us : Array Value), M.fits w → GlOk M Gl → RepL M [] (ct.inp x) us.toList →
      Calls P f us w fun e w' => ∃ v M', e = .returned v ∧ M.le M' ∧ (∀ b o, M' b = some o → M b = some o ∨ w.heap.size ≤ b) ∧ M'.fits w' ∧ Rep M' [] (ct.out x) v ∧ Below w.heap.size w w') : Sound P Gl f ct := by
  refine ⟨⟨fn, hf, hname, hbody⟩, hpd, fun x hx M w us hfit hG hr n => callsIn_wide.2 ((h x hx M w us hfit hG hr).mono ?_)⟩
  rintro e w' ⟨v, M', rfl, h1, h2, h3, h4, hb⟩
  exact ⟨M', v, rfl, h1, h2, h3, h4, hb⟩
/-- The block of a new slice. -/
def newM (M : Mem) (b : Nat) (o : Obj) : Mem := fun k => if k = b then some o else M k
theorem fits_lt {M : Mem} {w : World} (h : M.fits w) {b : Nat} {o : Obj} (hb : M b = some o) : b < w.heap.size := by
  obtain ⟨y, hy⟩ := (h b o hb).some
  exact (Array.getElem?_eq_some_iff.1 hy).1
theorem newM_le {M : Mem} {w : World} (h : M.fits w) (o : Obj) : M.le (newM M w.heap.size o) := fun b x hb => by
  have := fits_lt h hb
  unfold newM
  rw [if_neg (by omega)]
  exact hb
theorem newM_fits {M : Mem} {w : World} (h : M.fits w) (c : Array Value) (t : TypeId) : (newM M w.heap.size (.cells c t)).fits (w.alloc (.cells c t)) := fun b x hb => by
  unfold newM at hb
  split at hb
  · rename_i e
    subst e
    simp only [Option.some.injEq] at hb
    subst hb
    show (w.heap.push (.cells c t))[w.heap.size]? = _
    simp
  · have hlt := fits_lt h hb
    rw [Below.heap_alloc _ _ _ hlt]
    exact h b x hb
theorem newM_new {M : Mem} {n : Nat} {o : Obj} : ∀ b x, newM M n o b = some x → M b = some x ∨ n ≤ b := fun b x hb => by
  unfold newM at hb
  split at hb
  · exact .inr (by omega)
  · exact .inl hb
def ctSplitS (sep : ByteArray) (c : UInt8) : Ct := { ι := ByteArray, inp := fun s => [.v (.string s), .v (.string sep)], out := fun s => slD 1 strD (splB c s), pre := fun s => s.size ≤ 1000000000 }
theorem splitS_ok (c : UInt8) : Sound Tryz.prog (GlT mx pb) 155 (ctSplitS ⟨#[c]⟩ c) := by
  refine sound_calls2 Tryz.func155 (by kernel_rfl) (by kernel_rfl) (fun _ => rfl) fun (s : ByteArray) hs M w us hfit hG hr => ?_
  have := two_vals hr
  subst this
  have hs : s.size ≤ 1000000000 := hs
  refine (Any.strings_Split Tryz.lays146 (by kernel_rfl) s ⟨#[c]⟩ mx w (by omega) (gl_cell hfit hG rfl) (Nat.le_refl 1)).mono ?_
  rintro e w' ⟨rfl, rfl⟩
  have e1 : (Lib.splitB ⟨#[c]⟩ 0 (Lib.countB s ⟨#[c]⟩) s).map (·.data.toList) = splitL c s.data.toList := by
    rw [Lib.splitB_data]
    exact split_splL c _ _ (Nat.le_refl _)
  have e2 : Lib.splitB ⟨#[c]⟩ 0 (Lib.countB s ⟨#[c]⟩) s = splB c s := by
    unfold splB
    rw [← e1, List.map_map]
    exact (List.map_id' _).symm
  have e3 : Lib.countB s ⟨#[c]⟩ + 1 = (splB c s).length := by rw [← e2]; exact (Lib.splitB_all ⟨#[c]⟩ (Nat.le_refl 1) 0 _ s rfl).symm
  rw [e2, e3]
  refine ⟨_, newM M w.heap.size _, rfl, newM_le hfit _, newM_new, newM_fits hfit _ _, ?_, Below.alloc (Below.refl _ _) (Nat.le_refl _) _⟩
  show Rep _ [] (slD 1 strD (splB c s)) _
  simp only [slD, Rep]
  refine ⟨_, _, rfl, Nat.le_refl _, fun _ => ⟨_, rfl, fun i hi j hj => ?_⟩⟩
  have hj : j = 0 := by omega
  subst hj
  refine ⟨.string ((splB c s).getD i default), ?_, rfl, rfl⟩
  unfold Mem.cell newM
  have hb : ((⟨w.heap.size, 0, none⟩ : Addr).add (i * 1 + 0)) = ⟨w.heap.size, i, none⟩ := by by_cases h : i = 0 <;> simp [Addr.add, h]
  rw [hb]
  simp [List.getD_eq_getElem?_getD, hi]
end Go.Proofs
