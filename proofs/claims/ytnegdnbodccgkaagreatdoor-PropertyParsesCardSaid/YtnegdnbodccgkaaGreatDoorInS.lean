import Derived.Test.YtnegdnbodccgkaaGreatDoorIn0
import Derived.Test.YtnegdnbodccgkaaGreatDoorRa0
set_option linter.unusedVariables false
set_option linter.unusedSimpArgs false
namespace Go.Proofs
open Go Go.Sx Go.RowKit Go.Lib
variable {mx : Int} {pb : Bool}

/-! slices.Insert of one span: the library's text walked -/
theorem infoS : (Tryz.prog.info? 80).map (fun i => (i.zero, i.size, i.bytes)) = some (some (Value.agg #[.int .i64 0, .int .i64 0, .int .i64 0]), 3, 24) := by kernel_rfl
set_option maxHeartbeats 4000000 in
set_option maxRecDepth 100000 in
/-- At the end of the row. -/
theorem insS_end {B : Nat} {w : World} {v : Value} {n : Nat} {xs : List Value} {ad : Addr} {c : Nat} {vs : List Value} (hown : w.ownsRow B 80 3 v n xs) (hn : n ≤ 1000000) (hbase : B ≤ w.heap.size) (hvl : vs.length = 3) (hvs : ∀ j u, vs[j]? = some u → w.cell? (ad.add j) = some u)
    (h1 : ∀ u ∈ vs, u.oneCell' = true) :
    Calls Tryz.prog 142 #[v, .int .i64 n, .slice (some ad) 1 c] w fun r w' => ∃ v', r = .returned v' ∧ w'.ownsRow B 80 3 v' (n + 1) (xs ++ vs) ∧ w.grownBy w' (blkOf v) ∧ ∀ g, blkOf v' = some g → blkOf v = some g ∨ w.heap.size ≤ g := by
  obtain ⟨i, hi, hz, hs, hb⟩ := info_parts infoS
  obtain ⟨v', w', hr, ho', hg', hf', _⟩ := run_app (P := Tryz.prog) (t := 25) (ty := 25) (i := i) (c := c) (a := some ad) (m := 1) (news := vs) Tryz.underlying25 hi hz (by rw [hs]; rfl) (by omega) (by rw [hs]; exact hown) (by rw [hs]; exact hvl) (fun _ => ⟨ad, rfl, hvs⟩) h1 (by omega) (by rw [hb]; omega) hbase
  rw [hs] at ho'
  have hcase := hown.2
  clear hown h1 hvs
  rcases hcase with ⟨rfl, rfl⟩ | ⟨g, cap, cur, rfl, _, _, hnc, hcm, _, _⟩
  · go_enter Tryz.func142, Tryz.ntmps142
    go_wp2_with (at_builtin; refine Lib.wpList_append_run _ rfl _ _ _ _ rfl _ _ rfl rfl _ _ hr ?_)
    all_goals (go_ret; exact ⟨v', rfl, ho', hg', hf'⟩)
  · go_enter Tryz.func142, Tryz.ntmps142
    go_wp2_with (at_builtin; refine Lib.wpList_append_run _ rfl _ _ _ _ rfl _ _ rfl rfl _ _ hr ?_)
    all_goals (go_ret; exact ⟨v', rfl, ho', hg', hf'⟩)
/-- The cells of a row, as they were and then some. -/
theorem setRow_grown {w : World} {g : Nat} {cs : Array Value} : w.grownBy (w.setRow g cs) (some g) :=
  ⟨rfl, rfl, rfl, by simp, fun k _ hne => setRow_other w g k cs (fun e => hne (by rw [e]))⟩
theorem ins_cells {cur xs vs : List Value} {n a cap : Nat} (ha : a < n) (hx : cur.take (n * 3) = xs) (hc : cur.length = cap * 3) (hroom : n + 1 ≤ cap) (hv : vs.length = 3) :
    let c1 := cur.take ((a + 1) * 3) ++ xs.drop (a * 3) ++ cur.drop ((a + 1) * 3 + (xs.drop (a * 3)).length)
    let c2 := c1.take (a * 3) ++ vs ++ c1.drop (a * 3 + vs.length)
    c2.length = cap * 3 ∧ c2.take ((n + 1) * 3) = xs.take (a * 3) ++ vs ++ xs.drop (a * 3) := by
  intro c1 c2
  have hxl : xs.length = n * 3 := by rw [← hx, List.length_take]; omega
  have hdl : (xs.drop (a * 3)).length = n * 3 - a * 3 := by rw [List.length_drop, hxl]
  have l1 : c1.length = cap * 3 := by
    show (cur.take ((a + 1) * 3) ++ xs.drop (a * 3) ++ cur.drop ((a + 1) * 3 + (xs.drop (a * 3)).length)).length = _
    simp only [List.length_append, List.length_take, List.length_drop, hdl]
    omega
  have t1 : c1.take (a * 3) = xs.take (a * 3) := by
    show (cur.take ((a + 1) * 3) ++ xs.drop (a * 3) ++ cur.drop ((a + 1) * 3 + (xs.drop (a * 3)).length)).take (a * 3) = _
    rw [List.append_assoc, List.take_append_of_le_length (by rw [List.length_take]; omega), List.take_take, ← hx, List.take_take]
    congr 1
    omega
  have d1 : c1.drop (a * 3 + vs.length) = xs.drop (a * 3) ++ cur.drop ((a + 1) * 3 + (xs.drop (a * 3)).length) := by
    show (cur.take ((a + 1) * 3) ++ xs.drop (a * 3) ++ cur.drop ((a + 1) * 3 + (xs.drop (a * 3)).length)).drop (a * 3 + vs.length) = _
    have e : a * 3 + vs.length = (cur.take ((a + 1) * 3)).length := by rw [List.length_take, hv]; omega
    rw [e, List.append_assoc, List.drop_left]
  have e2 : c2 = xs.take (a * 3) ++ vs ++ (xs.drop (a * 3) ++ cur.drop ((a + 1) * 3 + (xs.drop (a * 3)).length)) := by
    show c1.take (a * 3) ++ vs ++ c1.drop (a * 3 + vs.length) = _
    rw [t1, d1]
  constructor
  · rw [e2]
    simp only [List.length_append, List.length_take, List.length_drop, hxl, hv]
    omega
  · rw [e2, ← List.append_assoc]
    refine List.take_left' ?_
    simp only [List.length_append, List.length_take, List.length_drop, hxl, hv]
    omega
set_option maxHeartbeats 4000000 in
set_option maxRecDepth 100000 in
/-- In the midst, where there is room. -/
theorem insS_room {B : Nat} {w : World} {g cap : Nat} {cur : Array Value} {n a : Nat} {xs : List Value} {ad : Addr} {c : Nat} {vs : List Value} (hb : B ≤ g) (hg : w.heap[g]? = some (.cells cur 80 (0, 0))) (hcm : cap ≤ maxLen) (hcs : cur.size = cap * 3) (hx : cur.toList.take (n * 3) = xs) (ha : a < n) (hn : n ≤ 1000000) (hroom : n + 1 ≤ cap) (hvl : vs.length = 3) (hvs : ∀ j u, vs[j]? = some u → w.cell? (ad.add j) = some u)
    (h1 : ∀ u ∈ vs, u.oneCell' = true) (h1x : ∀ u ∈ xs, u.oneCell' = true) (hne : ad.block ≠ g) :
    Calls Tryz.prog 142 #[.slice (some ⟨g, 0, none⟩) n cap, .int .i64 a, .slice (some ad) 1 c] w fun r w' => ∃ v', r = .returned v' ∧ w'.ownsRow B 80 3 v' (n + 1) (xs.take (a * 3) ++ vs ++ xs.drop (a * 3)) ∧ w.grownBy w' (some g) ∧ ∀ q, blkOf v' = some q → some g = some q ∨ w.heap.size ≤ q := by
  obtain ⟨ii, hi, hz, hs, hbb⟩ := info_parts infoS
  have hxl : xs.length = n * 3 := by rw [← hx, List.length_take, Array.length_toList]; omega
  have hdl : (xs.drop (a * 3)).length = n * 3 - a * 3 := by rw [List.length_drop, hxl]
  obtain ⟨hc2l, hc2⟩ := ins_cells (cur := cur.toList) ha hx (by simpa using hcs) hroom hvl
  generalize hA1 : cur.toList.take ((a + 1) * 3) ++ xs.drop (a * 3) ++ cur.toList.drop ((a + 1) * 3 + (xs.drop (a * 3)).length) = A1 at hc2l hc2
  have hA1l : A1.length = cap * 3 := by
    rw [← hA1]
    simp only [List.length_append, List.length_take, List.length_drop, hdl, Array.length_toList]
    omega
  generalize hA2 : A1.take (a * 3) ++ vs ++ A1.drop (a * 3 + vs.length) = A2 at hc2l hc2
  have hxat : ∀ j v, (xs.drop (a * 3))[j]? = some v → cur[a * 3 + j]? = some v := fun j v hj => by
    rw [List.getElem?_drop, ← hx, List.getElem?_take] at hj
    split at hj
    · rwa [Array.getElem?_toList] at hj
    · cases hj
  have hglt : g < w.heap.size := (Array.getElem?_eq_some_iff.1 hg).1
  obtain ⟨tA, kA, hsh, hkA⟩ : ∃ tA kA, w.shape? ad.block = some (tA, kA) ∧ kA ≠ 0 := by
    have h0 := hvs 0 (vs[0]'(by omega)) (List.getElem?_eq_getElem (by omega))
    have hbk : (ad.add 0).block = ad.block := by unfold Addr.add; split <;> rfl
    unfold World.cell? at h0
    rw [hbk] at h0
    unfold World.shape?
    split at h0
    · rename_i cc el fz he
      refine ⟨el, cc.size, rfl, fun hz => ?_⟩
      split at h0
      · cases h0
      · have := (Array.getElem?_eq_some_iff.1 h0).1
        omega
    · cases h0
  have hz2 : ¬ ((a : Int) = (n : Int)) := by omega
  have hb0 : ¬ ((cap : Int) < (n : Int) + 1) := by omega
  have htn : ((a : Int) + 1).toNat = a + 1 := by omega
  have htn2 : ((n : Int) + 1).toNat = n + 1 := by omega
  have hw1 : IntKind.i64.wrap ((a : Int) + 1) = (a : Int) + 1 := by rw [IntKind.wrap_i64]; omega
  have hw2 : IntKind.i64.wrap ((n : Int) + 1) = (n : Int) + 1 := by rw [IntKind.wrap_i64]; omega
  have hb1 : (0 : Int) ≤ (a : Int) + 1 := by omega
  have hb3 : (a : Int) ≤ (n : Int) + 1 := by omega
  have hb4 : ¬ (cap = a) := by omega
  have hb5 : ¬ (cap = a + 1) := by omega
  have hin : a ≤ n := by omega
  have mixed : Tryz.prog.follows .mixedOrders = true := Tryz.mixed
  have hov : ∀ lb cb, (callFunc 185 #[.slice (some ad) 1 c, .slice (some ⟨g, (a + 1) * 3, none⟩) lb cb]).run Tryz.prog w = .ok (.value (.bool false)) w := fun lb cb => by
    rw [run_callFunc_extern Tryz.func185 (by kernel_rfl) (by kernel_rfl) (by kernel_rfl) (e := Extern.SlicesOverlaps.overlaps #[25, 25] #[4]) (by kernel_rfl),
      run_overlaps_own w 25 4 80 Tryz.underlying25 3 Tryz.sizeOf80 ad ⟨g, (a + 1) * 3, none⟩ 1 c lb cb hne tA 80 kA cur.size hsh hkA (by simp [World.shape?, hg]) (frozen_of_row w g _ cur _ hg) (frozen_of_row w g _ cur _ hg)]
    rfl
  have hcp1 : ∀ ty dc sc, (Builtin.copy_ #[25, 25] ty #[.slice (some ⟨g, (a + 1) * 3, none⟩) (n - a) dc, .slice (some ⟨g, a * 3, none⟩) (n + 1 - a) sc]).run Tryz.prog w.drew = .ok (goInt (Nat.min (n + 1 - a) (n - a))) (w.drew.setRow g A1.toArray) := fun ty dc sc => by
    rw [← hA1]
    exact run_copyK w.drew _ _ ty _ ii g ((a + 1) * 3) _ dc ⟨g, a * 3, none⟩ _ sc cur 80 (xs.drop (a * 3)) Tryz.underlying25 hi hg (by rw [hdl, hs]; simp only [Nat.min_def]; split <;> omega)
      (fun j v hj => by rw [add_own, cell_of_row w.drew g _ cur _ _ hg]; exact hxat j v hj) (by rw [hdl]; omega) (fun v hv => h1x v (List.mem_of_mem_drop hv))
  have hg1 : (w.drew.setRow g A1.toArray).heap[g]? = some (.cells A1.toArray 80 (0, 0)) := setRow_heap w.drew g cur A1.toArray 80 (0, 0) hg
  have hcp2 : ∀ (W : World), W.heap = (w.drew.setRow g A1.toArray).heap → ∀ ty dc, (Builtin.copy_ #[25, 25] ty #[.slice (some ⟨g, a * 3, none⟩) (n + 1 - a) dc, .slice (some ad) 1 c]).run Tryz.prog W = .ok (goInt (Nat.min 1 (n + 1 - a))) (W.setRow g A2.toArray) := fun W hW ty dc => by
    have hgW : W.heap[g]? = some (.cells A1.toArray 80 (0, 0)) := by rw [hW]; exact hg1
    have := run_copyK (P := Tryz.prog) W 25 25 ty _ ii g (a * 3) (n + 1 - a) dc ad 1 c A1.toArray 80 vs Tryz.underlying25 hi hgW (by rw [hvl, hs]; simp only [Nat.min_def]; split <;> omega)
      (fun j v hj => by
        have hbk : (ad.add j).block = ad.block := by unfold Addr.add; split <;> rfl
        have e : W.cell? (ad.add j) = w.cell? (ad.add j) := World.cell?_of_block (by rw [hW, hbk]; exact setRow_other w.drew g ad.block _ hne)
        rw [e]; exact hvs j v hj) (by simp [hA1l]; omega) h1
    rw [← hA2]
    simpa using this
  have fin : ∀ (W : World), W.heap = (w.drew.setRow g A1.toArray).heap → W.os = w.os → W.tape = w.tape → W.output = w.output → (W.setRow g A2.toArray).ownsRow B 80 3 (.slice (some ⟨g, 0, none⟩) (n + 1) cap) (n + 1) (xs.take (a * 3) ++ vs ++ xs.drop (a * 3)) ∧ w.grownBy (W.setRow g A2.toArray) (some g) ∧ ∀ q, blkOf (.slice (some ⟨g, 0, none⟩) (n + 1) cap) = some q → some g = some q ∨ w.heap.size ≤ q := fun W hW ho ht hou => by
    have hgW : W.heap[g]? = some (.cells A1.toArray 80 (0, 0)) := by rw [hW]; exact hg1
    have hsz : W.heap.size = w.heap.size := by rw [hW]; simp
    refine ⟨⟨?_, .inr ⟨g, cap, _, rfl, hb, setRow_heap W g _ _ _ _ hgW, hroom, hcm, by simpa using hc2l, by simpa using hc2⟩⟩, ⟨ho, ht, hou, by simp [hsz], fun k hk hne' => ?_⟩, fun q hq => .inl hq⟩
    · simp only [List.length_append, List.length_take, hdl, hvl, hxl]; omega
    · rw [setRow_other W g k _ (fun e => hne' (by rw [e])), hW, setRow_other w.drew g k _ (fun e => hne' (by rw [e]))]
      rfl
  clear hx h1x hvs h1 hxat hA1 hc2 hc2l hA1l hg1 hg hxl hdl hA2
  go_enter Tryz.func142, Tryz.ntmps142
  go_wp2_with (simp only [hov])
  go_region_law_o (refine step_copy_runI rfl _ _ 25 25 rfl _ _ (by simp [Act.eval, Act.put]) (by simp [Act.eval, Act.put]) (hcp1 _ _ _) ?_)
  go_wp2_with (at_builtin; refine wpList_copy_runI _ rfl _ _ 25 25 rfl _ _ rfl rfl (hcp2 _ rfl _ _) ?_)
  go_ret
  exact ⟨.slice (some ⟨g, 0, none⟩) (n + 1) cap, rfl, fin _ rfl rfl rfl rfl⟩
theorem ins_new {xs vs : List Value} {zs : List Value} {n a G : Nat} (ha : a < n) (hx : xs.length = n * 3) (hv : vs.length = 3) (hz : zs.length = (n + 1 - a) * 3 + (G - (n + 1)) * 3) (hG : n + 1 ≤ G) :
    let c0 := xs.take (a * 3) ++ zs
    let c1 := c0.take (a * 3) ++ vs ++ c0.drop (a * 3 + vs.length)
    let c2 := c1.take ((a + 1) * 3) ++ xs.drop (a * 3) ++ c1.drop ((a + 1) * 3 + (xs.drop (a * 3)).length)
    c0.length = G * 3 ∧ c1.length = G * 3 ∧ c2.length = G * 3 ∧ c2.take ((n + 1) * 3) = xs.take (a * 3) ++ vs ++ xs.drop (a * 3) := by
  intro c0 c1 c2
  have hdl : (xs.drop (a * 3)).length = n * 3 - a * 3 := by rw [List.length_drop, hx]
  have htl : (xs.take (a * 3)).length = a * 3 := by rw [List.length_take]; omega
  have l0 : c0.length = G * 3 := by
    show (xs.take (a * 3) ++ zs).length = _
    rw [List.length_append, htl, hz]; omega
  have t0 : c0.take (a * 3) = xs.take (a * 3) := List.take_left' htl
  have l1 : c1.length = G * 3 := by
    show (c0.take (a * 3) ++ vs ++ c0.drop (a * 3 + vs.length)).length = _
    simp only [List.length_append, List.length_take, List.length_drop, l0, hv]; omega
  have t1 : c1.take ((a + 1) * 3) = xs.take (a * 3) ++ vs := by
    show (c0.take (a * 3) ++ vs ++ c0.drop (a * 3 + vs.length)).take ((a + 1) * 3) = _
    rw [t0]
    refine List.take_left' ?_
    rw [List.length_append, htl, hv]; omega
  refine ⟨l0, l1, ?_, ?_⟩
  · show (c1.take ((a + 1) * 3) ++ xs.drop (a * 3) ++ c1.drop ((a + 1) * 3 + (xs.drop (a * 3)).length)).length = _
    simp only [List.length_append, List.length_take, List.length_drop, l1, hdl]; omega
  · show (c1.take ((a + 1) * 3) ++ xs.drop (a * 3) ++ c1.drop ((a + 1) * 3 + (xs.drop (a * 3)).length)).take ((n + 1) * 3) = _
    rw [t1]
    refine List.take_left' ?_
    rw [List.length_append, List.length_append, htl, hv, hdl]; omega
theorem run_zerosK {P : Program} (w : World) (t tn ty e : TypeId) (i : TypeInfo) (z : Value) (kq kn : IntKind) (ht : P.underlying t = some (.slice e)) (htn : P.underlying tn = some (.int kn)) (hi : P.info? e = some i) (hz : i.zero = some z)
    (base : Option Addr) (sLen sCap : Nat) (olds : List Value) (hold : (Builtin.firstCells i.size sLen (.slice base sLen sCap)).run P w.drew = .ok olds.toArray w.drew)
    (k : Nat) (h0 : 0 < k) (hs : 0 < i.size) (hg : sCap < sLen + k) (h63 : ((sLen + k : Nat) : Int) ≤ 9223372036854775807) (h48 : k * i.bytes ≤ 281474976710656) (hfit : Builtin.nextslicecap (sLen + k) sCap * i.bytes ≤ 281474976710656) (q : Int) (hq : q = k) :
    (Builtin.append_ #[t, tn] ty #[.slice base sLen sCap, .int kq q]).run P w =
      .ok (.slice (some ⟨w.heap.size, 0, none⟩) (sLen + k) (grownCap w (sLen + k) sCap e))
        (w.drew.alloc (.cells (olds.toArray ++ Builtin.zeroCells z.cells k ++ Builtin.zeroCells z.cells (grownCap w (sLen + k) sCap e - (sLen + k))) e)) := by
  subst hq
  exact run_append_grow_zeros w t tn ty e i z kq kn ht htn hi hz base sLen sCap olds hold k h0 hs hg h63 h48 hfit
set_option maxHeartbeats 4000000 in
set_option maxRecDepth 100000 in
/-- In the midst, where there is no room. -/
theorem insS_grow {B : Nat} {w : World} {g cap : Nat} {cur : Array Value} {n a : Nat} {xs : List Value} {ad : Addr} {c : Nat} {vs : List Value} (hbase : B ≤ w.heap.size) (hg : w.heap[g]? = some (.cells cur 80 (0, 0))) (hnc : n ≤ cap) (hcs : cur.size = cap * 3) (hx : cur.toList.take (n * 3) = xs) (ha : a < n) (hn : n ≤ 1000000) (hroom : cap < n + 1) (hvl : vs.length = 3) (hvs : ∀ j u, vs[j]? = some u → w.cell? (ad.add j) = some u)
    (h1 : ∀ u ∈ vs, u.oneCell' = true) (h1x : ∀ u ∈ xs, u.oneCell' = true) :
    Calls Tryz.prog 142 #[.slice (some ⟨g, 0, none⟩) n cap, .int .i64 a, .slice (some ad) 1 c] w fun r w' => ∃ v', r = .returned v' ∧ w'.ownsRow B 80 3 v' (n + 1) (xs.take (a * 3) ++ vs ++ xs.drop (a * 3)) ∧ w.grownBy w' (some g) ∧ ∀ q, blkOf v' = some q → some g = some q ∨ w.heap.size ≤ q := by
  obtain ⟨ii, hi, hz, hs, hbb⟩ := info_parts infoS
  have hxl : xs.length = n * 3 := by rw [← hx, List.length_take, Array.length_toList]; omega
  have hglt : g < w.heap.size := (Array.getElem?_eq_some_iff.1 hg).1
  have hal : ad.block < w.heap.size := by
    have h0 := hvs 0 (vs[0]'(by omega)) (List.getElem?_eq_getElem (by omega))
    have hbk : (ad.add 0).block = ad.block := by unfold Addr.add; split <;> rfl
    have := World.block_lt_of_cell? w _ h0
    rwa [hbk] at this
  have hxat : ∀ j v, xs[j]? = some v → cur[j]? = some v := fun j v hj => by
    rw [← hx, List.getElem?_take] at hj
    split at hj
    · rwa [Array.getElem?_toList] at hj
    · cases hj
  have hold : (Builtin.firstCells ii.size a (.slice (some ⟨g, 0, none⟩) a cap)).run Tryz.prog w.drew = .ok (xs.take (a * 3)).toArray w.drew := by
    rw [hs]
    exact run_firstCells_some w.drew 3 a ⟨g, 0, none⟩ a cap (xs.take (a * 3)) (by rw [List.length_take]; omega) (fun j v hj => by
      rw [add_own, cell_of_row w.drew g _ cur _ _ hg, Nat.zero_add]
      rw [List.getElem?_take] at hj
      split at hj
      · exact hxat j v hj
      · cases hj)
  have hrz : ∀ ty, (Builtin.append_ #[25, 3] ty #[.slice (some ⟨g, 0, none⟩) a cap, .int .i64 ((n : Int) + 1 - (a : Int))]).run Tryz.prog w = _ := fun ty =>
    run_zerosK w 25 3 ty 80 ii _ .i64 .i64 Tryz.underlying25 Tryz.underlying3 hi hz (some ⟨g, 0, none⟩) a cap _ hold (n + 1 - a) (by omega) (by omega) (by omega) (by omega) (by rw [hbb]; omega) (by rw [hbb]; exact growslice_fits (by omega) (by omega)) _ (by omega)
  have hzc : (Value.agg #[.int .i64 0, .int .i64 0, .int .i64 0]).cells.size = 3 := rfl
  obtain ⟨zs, hzs⟩ : ∃ zs : List Value, zs = (Builtin.zeroCells (Value.agg #[.int .i64 0, .int .i64 0, .int .i64 0]).cells (n + 1 - a) ++ Builtin.zeroCells (Value.agg #[.int .i64 0, .int .i64 0, .int .i64 0]).cells (grownCap w (a + (n + 1 - a)) cap 80 - (a + (n + 1 - a)))).toList := ⟨_, rfl⟩
  have hik : a + (n + 1 - a) = n + 1 := by omega
  simp only [hik] at hrz hzs
  obtain ⟨G, hG⟩ : ∃ G, G = grownCap w (n + 1) cap 80 := ⟨_, rfl⟩
  rw [← hG] at hzs
  simp only [← hG] at hrz
  have hGn : n + 1 ≤ G := by rw [hG]; exact grownCap_ge w _ _ _
  have hGm : G ≤ maxLen := by rw [hG]; exact grownCap_le_maxLen w (n + 1) cap 80 (by unfold maxLen; omega)
  have hzl : zs.length = (n + 1 - a) * 3 + (G - (n + 1)) * 3 := by rw [hzs]; simp [Builtin.zeroCells, hzc]
  obtain ⟨k0, k1, k2, k3⟩ := ins_new ha hxl hvl hzl hGn
  obtain ⟨A0, hA0⟩ : ∃ A0, A0 = xs.take (a * 3) ++ zs := ⟨_, rfl⟩
  rw [← hA0] at k0 k1 k2 k3
  obtain ⟨A1, hA1⟩ : ∃ A1, A1 = A0.take (a * 3) ++ vs ++ A0.drop (a * 3 + vs.length) := ⟨_, rfl⟩
  rw [← hA1] at k1 k2 k3
  obtain ⟨A2, hA2⟩ : ∃ A2, A2 = A1.take ((a + 1) * 3) ++ xs.drop (a * 3) ++ A1.drop ((a + 1) * 3 + (xs.drop (a * 3)).length) := ⟨_, rfl⟩
  rw [← hA2] at k2 k3
  have hrz : ∀ ty, (Builtin.append_ #[25, 3] ty #[.slice (some ⟨g, 0, none⟩) a cap, .int .i64 ((n : Int) + 1 - (a : Int))]).run Tryz.prog w = .ok (.slice (some ⟨w.heap.size, 0, none⟩) (n + 1) G) ((w.alloc (.cells A0.toArray 80)).drew) := fun ty => by
    have e : ((xs.take (a * 3)).toArray ++ Builtin.zeroCells (Value.agg #[.int .i64 0, .int .i64 0, .int .i64 0]).cells (n + 1 - a) ++ Builtin.zeroCells (Value.agg #[.int .i64 0, .int .i64 0, .int .i64 0]).cells (G - (n + 1))) = A0.toArray := by
      apply Array.ext'
      rw [hA0, hzs]
      simp [List.append_assoc]
    rw [hrz ty, e]
    rfl
  obtain ⟨W1, hW1⟩ : ∃ W1, W1 = (w.alloc (.cells A0.toArray 80)).drew := ⟨_, rfl⟩
  rw [← hW1] at hrz
  have hh1 : W1.heap[w.heap.size]? = some (.cells A0.toArray 80 (0, 0)) := by rw [hW1]; exact heap_alloc_new w.drew _
  have hhk : ∀ k, k < w.heap.size → W1.heap[k]? = w.heap[k]? := fun k hk => by rw [hW1]; exact Below.heap_alloc w.drew _ k hk
  have hcpA : ∀ (W : World), W.heap = W1.heap → ∀ ty dc, (Builtin.copy_ #[25, 25] ty #[.slice (some ⟨w.heap.size, a * 3, none⟩) (n + 1 - a) dc, .slice (some ad) 1 c]).run Tryz.prog W = .ok (goInt (Nat.min 1 (n + 1 - a))) (W.setRow w.heap.size A1.toArray) := fun W hW ty dc => by
    have hgW : W.heap[w.heap.size]? = some (.cells A0.toArray 80 (0, 0)) := by rw [hW]; exact hh1
    have := run_copyK (P := Tryz.prog) W 25 25 ty _ ii w.heap.size (a * 3) (n + 1 - a) dc ad 1 c A0.toArray 80 vs Tryz.underlying25 hi hgW (by rw [hvl, hs]; simp only [Nat.min_def]; split <;> omega)
      (fun j v hj => by
        have hbk : (ad.add j).block = ad.block := by unfold Addr.add; split <;> rfl
        have e : W.cell? (ad.add j) = w.cell? (ad.add j) := World.cell?_of_block (by rw [hW, hbk]; exact hhk _ hal)
        rw [e]; exact hvs j v hj) (by simp [k0]; omega) h1
    rw [hA1]
    simpa using this
  have hcpB : ∀ (W : World), W.heap = (W1.setRow w.heap.size A1.toArray).heap → ∀ ty dc sc, (Builtin.copy_ #[25, 25] ty #[.slice (some ⟨w.heap.size, (a + 1) * 3, none⟩) (n - a) dc, .slice (some ⟨g, a * 3, none⟩) (n - a) sc]).run Tryz.prog W = .ok (goInt (Nat.min (n - a) (n - a))) (W.setRow w.heap.size A2.toArray) := fun W hW ty dc sc => by
    have hgW : W.heap[w.heap.size]? = some (.cells A1.toArray 80 (0, 0)) := by rw [hW]; exact setRow_heap W1 _ _ _ _ _ hh1
    have hgg : W.heap[g]? = some (.cells cur 80 (0, 0)) := by rw [hW, setRow_other _ _ _ _ (by omega), hhk _ hglt]; exact hg
    have := run_copyK (P := Tryz.prog) W 25 25 ty _ ii w.heap.size ((a + 1) * 3) (n - a) dc ⟨g, a * 3, none⟩ (n - a) sc A1.toArray 80 (xs.drop (a * 3)) Tryz.underlying25 hi hgW (by rw [List.length_drop, hxl, hs]; simp only [Nat.min_def]; split <;> omega)
      (fun j v hj => by
        rw [add_own, cell_of_row W g _ cur _ _ hgg]
        rw [List.getElem?_drop] at hj
        exact hxat _ v hj) (by simp [k1, hxl]; omega) (fun v hv => h1x v (List.mem_of_mem_drop hv))
    rw [hA2]
    simpa using this
  have fin : ∀ (W : World), W.heap = (W1.setRow w.heap.size A1.toArray).heap → W.os = w.os → W.tape = w.tape → W.output = w.output → (W.setRow w.heap.size A2.toArray).ownsRow B 80 3 (.slice (some ⟨w.heap.size, 0, none⟩) (n + 1) G) (n + 1) (xs.take (a * 3) ++ vs ++ xs.drop (a * 3)) ∧ w.grownBy (W.setRow w.heap.size A2.toArray) (some g) ∧ ∀ q, blkOf (.slice (some ⟨w.heap.size, 0, none⟩) (n + 1) G) = some q → some g = some q ∨ w.heap.size ≤ q := fun W hW ho ht hou => by
    have hgW : W.heap[w.heap.size]? = some (.cells A1.toArray 80 (0, 0)) := by rw [hW]; exact setRow_heap W1 _ _ _ _ _ hh1
    have hsz : W.heap.size = w.heap.size + 1 := by rw [hW, setRow_size, hW1]; exact Array.size_push _
    refine ⟨⟨?_, .inr ⟨w.heap.size, G, _, rfl, hbase, setRow_heap W _ _ _ _ _ hgW, hGn, hGm, by simpa using k2, by simpa using k3⟩⟩, ⟨ho, ht, hou, by simp [hsz], fun k hk hne' => ?_⟩, fun q hq => .inr (by simp [blkOf] at hq; omega)⟩
    · simp only [List.length_append, List.length_take, List.length_drop, hvl, hxl]; omega
    · rw [setRow_other W _ k _ (by omega), hW, setRow_other _ _ k _ (by omega), hhk k hk]
  have hz2 : ¬ ((a : Int) = (n : Int)) := by omega
  have hb0 : (cap : Int) < (n : Int) + 1 := by omega
  have htn : ((a : Int) + 1).toNat = a + 1 := by omega
  have hw1 : IntKind.i64.wrap ((a : Int) + 1) = (a : Int) + 1 := by rw [IntKind.wrap_i64]; omega
  have hw2 : IntKind.i64.wrap ((n : Int) + 1) = (n : Int) + 1 := by rw [IntKind.wrap_i64]; omega
  have hw3 : IntKind.i64.wrap ((n : Int) + 1 - (a : Int)) = (n : Int) + 1 - (a : Int) := by rw [IntKind.wrap_i64]; omega
  have hb1 : (0 : Int) ≤ (a : Int) + 1 := by omega
  have hb3 : (a : Int) ≤ (n : Int) + 1 := by omega
  have hb4 : ¬ (cap = a) := by omega
  have hb5 : ¬ (G = a) := by omega
  have hb6 : ¬ (G = a + 1) := by omega
  have hin : a ≤ n := by omega
  have hinc : a ≤ cap := by omega
  have mixed : Tryz.prog.follows .mixedOrders = true := Tryz.mixed
  clear hx h1x hvs h1 hxat hA1 hA2 hA0 hzs hzl k0 k1 k2 k3 hg hxl hh1 hhk hold hG
  subst hW1
  go_enter Tryz.func142, Tryz.ntmps142
  go_wp2_with (first
    | (at_builtin; refine Lib.wpList_append_run _ rfl _ _ _ _ rfl _ _ rfl rfl _ _ (hrz _) ?_)
    | (at_builtin; refine wpList_copy_runI _ rfl _ _ 25 25 rfl _ _ rfl rfl (hcpA _ (by rfl) _ _) ?_))
  go_region_law_o (refine step_copy_runI rfl _ _ 25 25 rfl (.slice (some ⟨w.heap.size, (a + 1) * 3, none⟩) (n - a) (G - (a + 1))) (.slice (some ⟨g, a * 3, none⟩) (n - a) (cap - a)) (by simp [Act.eval, Act.put]) (by simp [Act.eval, Act.put]) (hcpB (((w.alloc (.cells A0.toArray 80)).drew.setRow w.heap.size A1.toArray).drew) rfl 3 (G - (a + 1)) (cap - a)) ?_)
  go_wp2
  go_ret
  exact ⟨.slice (some ⟨w.heap.size, 0, none⟩) (n + 1) G, rfl, fin _ rfl rfl rfl rfl⟩
theorem insS_ok : SoundT Tryz.prog (GlT mx pb) 142 (insT 80 3) := by
  refine ins_sound ⟨_, Tryz.func142, by kernel_rfl, by kernel_rfl⟩ (by decide) ?_
  intro B w v n xs a ad c vs hown ha hn hbase hvl hvs h1 h1x hne hc
  rcases Nat.lt_or_ge a n with hlt | hge
  · rcases hown.2 with ⟨_, h0⟩ | ⟨g, cap, cur, rfl, b2, b3, b4, b4', b5, b6⟩
    · omega
    · rcases Nat.lt_or_ge cap (n + 1) with hr | hr
      · exact insS_grow hbase b3 b4 b5 b6 hlt hn hr hvl hvs h1 h1x
      · exact insS_room b2 b3 b4' b5 b6 hlt hn hr hvl hvs h1 h1x (fun e => hne (by rw [e]; rfl))
  · have : a = n := by omega
    subst this
    have e1 : xs.take (a * 3) = xs := List.take_of_length_le (by rw [hown.1]; exact Nat.le_refl _)
    have e2 : xs.drop (a * 3) = [] := List.drop_eq_nil_of_le (by rw [hown.1]; exact Nat.le_refl _)
    rw [e1, e2, List.append_nil]
    exact insS_end hown hn hbase hvl hvs h1
#print axioms insS_ok
end Go.Proofs
