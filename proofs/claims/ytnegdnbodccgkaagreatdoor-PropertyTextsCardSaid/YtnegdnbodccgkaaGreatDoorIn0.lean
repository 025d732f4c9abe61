import Derived.Test.YtnegdnbodccgkaaGreatDoorSo
import Derived.Shelf.Spec.SlicesInsertGrow
import Derived.Laws.CopyRow
set_option linter.unusedVariables false
set_option linter.unusedSimpArgs false
namespace Go.Sx
open Go Go.RowKit

/-! slices.Insert of one element into a row that the call owns -/
/-- copy into a row, elements of whatever size. -/
theorem run_copyK {P : Program} (w : World) (dT sT ty elem : TypeId) (i : TypeInfo) (g o dLen dCap : Nat) (a : Addr) (sLen sCap : Nat) (cur : Array Value) (t : TypeId) (cs : List Value)
    (hu : P.underlying dT = some (.slice elem)) (hi : P.info? elem = some i)
    (hg : w.heap[g]? = some (.cells cur t (0, 0))) (hn : cs.length = Nat.min sLen dLen * i.size)
    (hsrc : ∀ j v, cs[j]? = some v → w.cell? (a.add j) = some v) (hfit : o + cs.length ≤ cur.size) (h1 : ∀ v ∈ cs, v.oneCell' = true) :
    (Builtin.copy_ #[dT, sT] ty #[.slice (some ⟨g, o, none⟩) dLen dCap, .slice (some a) sLen sCap]).run P w =
      .ok (goInt (Nat.min sLen dLen)) (w.setRow g (cur.toList.take o ++ cs ++ cur.toList.drop (o + cs.length)).toArray) := by
  have hl := run_loadCells_list (P := P) w a cs hsrc
  have hst := run_storeCells_at P g o t cs 0 cur w hg (by simpa using hfit) h1
  simp [Builtin.copy_, run_underlying hu, Builtin.lenOf, Builtin.firstCells, sizeOf, typeInfo, hi, ← hn, hl, hst]
/-- slices.overlaps, the second slice being plain memory. -/
theorem run_overlaps_own {P : Program} (w : World) (tS tR e : TypeId) (ht : P.underlying tS = some (.slice e)) (size : Nat) (hz : ∀ w, (Go.sizeOf e).run P w = .ok size w)
    (a b : Addr) (la ca lb cb : Nat) (hne : a.block ≠ b.block) (tA tB : TypeId) (kA kB : Nat)
    (hsa : w.shape? a.block = some (tA, kA)) (hkA : kA ≠ 0) (hsb : w.shape? b.block = some (tB, kB))
    (hfb : w.frozen? b = false) (hfe : w.frozen? { block := b.block, off := kB } = false) :
    (Extern.SlicesOverlaps.overlaps #[tS, tS] #[tR] #[.slice (some a) la ca, .slice (some b) lb cb]).run P w = .ok (.bool false) w := by
  have hnb : (a.block != b.block) = true := by simpa using hne
  have hnb' : (a.block == b.block) = false := by simpa using hne
  change Sem.run P (α := Value) (do
    let some t := (#[tS, tS] : Array TypeId)[0]? | stuck "slices.overlaps: no parameter types"
    let .slice elem ← underlying t | stuck "slices.overlaps: slice type expected"
    let size ← sizeOf elem
    match (some a : Option Addr), (some b : Option Addr) with
    | some a, some b =>
      if la = 0 ∨ lb = 0 ∨ size = 0 then pure (Value.bool false)
      else if a.block != b.block && (← frozen a) && (← frozen b) then unsupported .addressObserved
      else do
        if a.block != b.block then do
          noView a; noView b
          if ← mayBeOne a b then return Value.bool ((← choose (.extern "sameAddr.stringBytes" 2)) == 1)
        pure (Value.bool (a.block == b.block && a.off < b.off + lb * size && b.off < a.off + la * size))
    | _, _ => pure (Value.bool false)) w = _
  by_cases h0 : la = 0 ∨ lb = 0 ∨ size = 0
  · simp [run_underlying ht, hz, h0]
  · cases kA with
    | zero => exact absurd rfl hkA
    | succ kA =>
      cases hfa : w.frozen? a <;> cases hfk : w.frozen? { block := a.block, off := kA + 1 } <;>
        simp [run_underlying ht, hz, h0, hnb, hnb', frozen, noView, viewAt, mayBeOne, stringish, shape, Sem.run, hsa, hsb, hfa, hfb, hfe, hfk]
def insF (k : Nat) (f g : Nat → Nat → D) : Nat → Nat → D := fun a j => if a < k then f a j else if a = k then g 0 j else f (a - 1) j
/-- What a call of slices.Insert with one value does to the row that it is given. -/
def insT (e sz : Nat) : Tr := fun _ ds ow k =>
  (∃ g, ds = [.v (.slice none 0 0), .v (.int .i64 0), .sl sz 1 g] ∧ k (.row ow.length) (ow ++ [.row e sz 1 g])) ∨
  ∃ (i n : Nat) (a : Nat) (f g : Nat → Nat → D), ds = [.row i, .v (.int .i64 a), .sl sz 1 g] ∧ ow[i]? = some (.row e sz n f) ∧ a ≤ n ∧ n ≤ 1000000 ∧ k (.row ow.length) (setOwn ow i .gone ++ [.row e sz (n + 1) (insF a f g)])
theorem ins_sound {P : Program} {Gl : Nat → Option D} {f : FuncId} {e sz : Nat} (hf : Enters P f) (hpos : 0 < sz)
    (hI : ∀ (B : Nat) (w : World) (v : Value) (n : Nat) (xs : List Value) (a : Nat) (ad : Addr) (c : Nat) (vs : List Value), w.ownsRow B e sz v n xs → a ≤ n → n ≤ 1000000 → B ≤ w.heap.size → vs.length = sz → (∀ j u, vs[j]? = some u → w.cell? (ad.add j) = some u) →
      (∀ u ∈ vs, u.oneCell' = true) → (∀ u ∈ xs, u.oneCell' = true) → blkOf v ≠ some ad.block → 1 ≤ c →
      Calls P f #[v, .int .i64 a, .slice (some ad) 1 c] w fun r w' => ∃ v', r = .returned v' ∧ w'.ownsRow B e sz v' (n + 1) (xs.take (a * sz) ++ vs ++ xs.drop (a * sz)) ∧ w.grownBy w' (blkOf v) ∧ ∀ g, blkOf v' = some g → blkOf v = some g ∨ w.heap.size ≤ g) :
    SoundT P Gl f (insT e sz) := by
  refine ⟨hf, ?_⟩
  have key : ∀ {B : Nat} {w : World} {M : Mem} {E : List Value} {g : Nat → Nat → D} {u : Value}, M.fits w → Rep M E (.sl sz 1 g) u → ∃ (ad : Addr) (c : Nat) (vs : List Value), u = .slice (some ad) 1 c ∧ 1 ≤ c ∧ vs.length = sz ∧ (∀ j u, vs[j]? = some u → w.cell? (ad.add j) = some u) ∧ (∀ u ∈ vs, u.oneCell' = true) ∧ (∀ j, j < sz → ∃ x, vs[j]? = some x ∧ x.oneCell' = true ∧ Rep M [] (g 0 j) x) ∧ ∃ o, M ad.block = some o := by
    intro B w M E g u hfit hu
    simp only [Rep] at hu
    obtain ⟨a, c, rfl, hc, hcell⟩ := hu
    obtain ⟨ad, rfl, hx⟩ := hcell (by omega)
    have hx0 : ∀ j, ∃ x, j < sz → M.cell (ad.add j) = some x ∧ x.oneCell' = true ∧ Rep M [] (g 0 j) x := fun j => by
      by_cases hj : j < sz
      · obtain ⟨x, x1, x2, x3⟩ := hx 0 (by omega) j hj
        rw [Nat.zero_mul, Nat.zero_add] at x1
        exact ⟨x, fun _ => ⟨x1, x2, x3⟩⟩
      · exact ⟨default, fun h => absurd h hj⟩
    obtain ⟨F, hF⟩ := Classical.axiomOfChoice hx0
    have hat : ∀ j, j < sz → ((List.range sz).map F)[j]? = some (F j) := fun j hj => by simp [hj]
    refine ⟨ad, c, (List.range sz).map F, rfl, hc, by simp, fun j u hj => ?_, fun u hu => ?_, fun j hj => ⟨F j, hat j hj, (hF j hj).2.1, (hF j hj).2.2⟩, ?_⟩
    · have hjl : j < sz := by
        have := (List.getElem?_eq_some_iff.1 hj).1
        simpa using this
      rw [hat j hjl] at hj
      obtain rfl := Option.some.inj hj
      exact Mem.cell_fits hfit (hF j hjl).1
    · obtain ⟨j, hj, rfl⟩ := List.mem_map.1 hu
      exact (hF j (List.mem_range.1 hj)).2.1
    · have h0 := (hF 0 hpos).1
      unfold Mem.cell at h0
      cases hm : M ad.block with
      | none =>
        have hb : (ad.add 0).block = ad.block := by unfold Addr.add; split <;> rfl
        rw [hb, hm] at h0
        simp at h0
      | some o => exact ⟨o, rfl⟩
  have key2 : ∀ {vs : List Value} {M : Mem} {g : Nat → Nat → D} {xs : List Value} {n a : Nat} {f : Nat → Nat → D}, a ≤ n → xs.length = n * sz → vs.length = sz → (∀ b, b < n → ∀ j, j < sz → ∃ x, xs[b * sz + j]? = some x ∧ x.oneCell' = true ∧ Rep M [] (f b j) x) → (∀ j, j < sz → ∃ x, vs[j]? = some x ∧ x.oneCell' = true ∧ Rep M [] (g 0 j) x) →
      ∀ b, b < n + 1 → ∀ j, j < sz → ∃ x, (xs.take (a * sz) ++ vs ++ xs.drop (a * sz))[b * sz + j]? = some x ∧ x.oneCell' = true ∧ Rep M [] (insF a f g b j) x := by
    intro vs M g xs n a f ha hxl hvl hx hv b hb j hj
    have h1 : a * sz ≤ n * sz := Nat.mul_le_mul_right sz ha
    have hlt : (xs.take (a * sz)).length = a * sz := by rw [List.length_take]; omega
    unfold insF
    by_cases h2 : b < a
    · obtain ⟨x, x1, x2, x3⟩ := hx b (by omega) j hj
      have h3 : b * sz + sz ≤ a * sz := by have := Nat.mul_le_mul_right sz (show b + 1 ≤ a from h2); rwa [Nat.add_mul, Nat.one_mul] at this
      refine ⟨x, ?_, x2, by rw [if_pos h2]; exact x3⟩
      rw [List.append_assoc, List.getElem?_append_left (by omega), List.getElem?_take, if_pos (by omega)]
      exact x1
    · by_cases h3 : b = a
      · subst h3
        obtain ⟨x, x1, x2, x3⟩ := hv j hj
        refine ⟨x, ?_, x2, by rw [if_neg h2, if_pos rfl]; exact x3⟩
        rw [List.append_assoc, List.getElem?_append_right (by omega), hlt, Nat.add_sub_cancel_left, List.getElem?_append_left (by omega)]
        exact x1
      · obtain ⟨x, x1, x2, x3⟩ := hx (b - 1) (by omega) j hj
        refine ⟨x, ?_, x2, by rw [if_neg h2, if_neg h3]; exact x3⟩
        obtain ⟨q, rfl⟩ : ∃ q, b = a + 1 + q := ⟨b - a - 1, by omega⟩
        have e1 : (a + 1 + q) * sz + j = a * sz + (sz + (q * sz + j)) := by rw [Nat.add_mul, Nat.add_mul, Nat.one_mul]; omega
        have e2 : (a + 1 + q - 1) * sz + j = a * sz + (q * sz + j) := by rw [show a + 1 + q - 1 = a + q by omega, Nat.add_mul]; omega
        rw [e1, List.append_assoc, List.getElem?_append_right (by omega), hlt, Nat.add_sub_cancel_left, List.getElem?_append_right (by omega), hvl, Nat.add_sub_cancel_left, List.getElem?_drop]
        rw [e2] at x1
        exact x1
  have one : ∀ {M : Mem} {xs : List Value} {n : Nat} {f : Nat → Nat → D}, xs.length = n * sz → (∀ b, b < n → ∀ j, j < sz → ∃ x, xs[b * sz + j]? = some x ∧ x.oneCell' = true ∧ Rep M [] (f b j) x) → ∀ u ∈ xs, u.oneCell' = true := by
    intro M xs n f hxl hx u hu
    obtain ⟨t, ht, rfl⟩ := List.getElem_of_mem hu
    have hdm := Nat.div_add_mod t sz
    rw [Nat.mul_comm] at hdm
    have hq : t / sz < n := Nat.div_lt_of_lt_mul (by rw [Nat.mul_comm, ← hxl]; exact ht)
    obtain ⟨x, x1, x2, _⟩ := hx _ hq _ (Nat.mod_lt t hpos)
    rw [hdm, List.getElem?_eq_getElem ht] at x1
    rw [Option.some.inj x1]; exact x2
  rintro Y ds ow k (⟨g, rfl, hK⟩ | ⟨i, n, a, f0, g, rfl, hrow, ha, hn, hK⟩) B w0 M0 M E w us hW hG hY hr n'
  · refine callsIn_wide.2 ?_
    simp only [RepL] at hr
    obtain ⟨v, r, hus, hv, u2, r2, rfl, hu2, u3, r3, rfl, hu3, rfl⟩ := hr
    have hv : v = .slice none 0 0 := hv
    have hu2 : u2 = .int .i64 0 := hu2
    subst hv; subst hu2
    obtain ⟨ad, c, vs, rfl, hc, hvl, hcell, hv1, hrep, _⟩ := key (B := B) hW.fits hu3
    have hus : us = #[.slice none 0 0, .int .i64 0, .slice (some ad) 1 c] := by apply Array.ext'; simpa using hus
    subst hus
    refine (hI B w (.slice none 0 0) 0 [] 0 ad c vs (World.ownsRow_nil _ _ _ _) (Nat.le_refl _) (Nat.zero_le _) hW.base hvl hcell hv1 (fun u hu => by simp at hu) (fun h => by simp [blkOf] at h) hc).mono ?_
    rintro e' w' ⟨v', rfl, hown, hgrow, hfresh⟩
    have hfr : ∀ b, blkOf v' = some b → w.heap.size ≤ b := fun b hb => (hfresh b hb).elim (fun h => by simp [blkOf] at h) id
    refine ⟨.row ow.length, v', M, E ++ [v'], _, rfl, hK, Mem.le_refl _, EnvLe.append _ _, hW.grown hgrow hfr ?_, by simp only [Rep]; rw [← hW.len, List.getElem?_append_right (Nat.le_refl _)]; simp⟩
    simp only [Holds]
    simp only [Nat.zero_mul, List.take_nil, List.drop_nil, List.nil_append, List.append_nil, Nat.zero_add] at hown
    refine ⟨vs, hown, fun b hb j hj => ?_, fun q hq => ?_⟩
    · have : b = 0 := by omega
      subst this
      rw [Nat.zero_mul, Nat.zero_add]
      exact hrep j hj
    · have := hfr q (blk_of_own hq)
      cases hm : M q with
      | none => rfl
      | some ob => have := (hW.fits _ _ hm).lt; omega
  · refine callsIn_wide.2 ?_
    simp only [RepL] at hr
    obtain ⟨v, r, hus, hv, u2, r2, rfl, hu2, u3, r3, rfl, hu3, rfl⟩ := hr
    have hu2 : u2 = .int .i64 a := hu2
    subst hu2
    simp only [Rep] at hv
    obtain ⟨ad, c, vs, rfl, hc, hvl, hcell, hv1, hrep, o, hMo⟩ := key (B := B) hW.fits hu3
    have hus : us = #[v, .int .i64 a, .slice (some ad) 1 c] := by apply Array.ext'; simpa using hus
    subst hus
    have hH := hW.holds _ _ _ hrow hv
    have hHl := hH
    simp only [Holds] at hH
    obtain ⟨xs, hown, hcells, hM⟩ := hH
    have hMv : ∀ b, blkOf v = some b → M b = none := fun b hb => (hHl.lt rfl hb).2.2 rfl
    refine (hI B w v n xs a ad c vs hown ha hn hW.base hvl hcell hv1 (one hown.1 hcells) (fun h => by have := hMv _ h; rw [this] at hMo; simp at hMo) hc).mono ?_
    rintro e' w' ⟨v', rfl, hown', hgrow, hfresh⟩
    have hlen : ow.length = E.length := hW.len.symm
    refine ⟨.row ow.length, v', M, E ++ [v'], _, rfl, hK, Mem.le_refl _, EnvLe.append _ _, hW.renew hrow rfl hv hgrow hfresh ?_, by simp only [Rep]; rw [hlen, List.getElem?_append_right (Nat.le_refl _)]; simp⟩
    simp only [Holds]
    refine ⟨_, hown', key2 ha hown.1 hvl hcells hrep, fun q hq => ?_⟩
    rcases hfresh q (blk_of_own hq) with h1 | h1
    · exact hMv q h1
    · cases hm : M q with
      | none => rfl
      | some ob => have := (hW.fits _ _ hm).lt; omega
#print axioms ins_sound
end Go.Sx
