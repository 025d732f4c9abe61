import Derived.Test.YtnccclpjcidmeaaGreatDoorSxJ
import Derived.Laws.Append
import Derived.Laws.AppendOwn
import Derived.Laws.OwnMore
import Derived.Lib.AppendStr
namespace Go.Sx
open Go Go.RowKit

section
variable {P : Program} {T : TT} {B : Nat} {w0 w w' : World} {M0 M M' : Mem} {E E' : List Value} {ow : List Own}

/-- What append does to a row of the call's own. -/
theorem run_app {t ty e : TypeId} {i : TypeInfo} {z : Value} (ht : P.underlying t = some (.slice e)) (hi : P.info? e = some i) (hz : i.zero = some z) (hzs : z.cells.size = i.size) (hsz : 0 < i.size)
    {v : Value} {n : Nat} {xs : List Value} (hown : w.ownsRow B e i.size v n xs) {a : Option Addr} {m c : Nat} {news : List Value} (hl : news.length = m * i.size) (hnews : 0 < m → ∃ ad, a = some ad ∧ ∀ j u, news[j]? = some u → w.cell? (ad.add j) = some u)
    (h1 : ∀ u ∈ news, u.oneCell' = true) (h63 : n + m ≤ 9223372036854775807) (hby : (n + m) * i.bytes ≤ 140737488355328) (hbase : B ≤ w.heap.size) :
    ∃ v' w', (Builtin.append_ #[t, t] ty #[v, .slice a m c]).run P w = .ok v' w' ∧ w'.ownsRow B e i.size v' (n + m) (xs ++ news) ∧ w.grownBy w' (blkOf v) ∧ (∀ g, blkOf v' = some g → blkOf v = some g ∨ w.heap.size ≤ g) ∧ (m = 0 → v' = v) := by
  have hbo : blkOf v = v.ownBlock := by
    rcases hown.2 with ⟨rfl, _⟩ | ⟨g, cap, cur, rfl, _⟩ <;> rfl
  rcases Nat.eq_zero_or_pos m with rfl | hm
  · have hnil : news = [] := by simpa using hl
    subst hnil
    have hf : (Builtin.firstCells i.size 0 (.slice a 0 c)).run P w = .ok #[] w := by
      cases a <;> simp [Builtin.firstCells, loadCells, loadCellsFrom]
    rcases hown.2 with ⟨rfl, rfl⟩ | ⟨g, cap, cur, rfl, q1, q2, q3, q4⟩
    · refine ⟨.slice none 0 0, w, ?_, by simpa using hown, ⟨rfl, rfl, rfl, Nat.le_refl _, fun _ _ _ => rfl⟩, fun g hg => by simp [blkOf] at hg, fun _ => rfl⟩
      simp [Builtin.append_, run_underlying' ht, run_sizeOf' hi, Builtin.lenOf, hf]
    · refine ⟨.slice (some ⟨g, 0, none⟩) n cap, w, ?_, by simpa using hown, ⟨rfl, rfl, rfl, Nat.le_refl _, fun _ _ _ => rfl⟩, fun g' hg => .inl hg, fun _ => rfl⟩
      simp [Builtin.append_, run_underlying' ht, run_sizeOf' hi, Builtin.lenOf, hf, q3, storeCells]
  · obtain ⟨ad, rfl, hc⟩ := hnews hm
    obtain ⟨v', w', hr, ho', hg', _⟩ := run_append_own (P := P) w B t ty e i z i.size i.bytes ht hi hz rfl rfl hzs hsz v n xs hown ad m c news hl hc h1 (by simp only [maxLen]; omega) hby hbase
    refine ⟨v', w', hr, ho', by rw [hbo]; exact hg', fun g hg => ?_, fun h0 => by omega⟩
    rcases hown.2 with ⟨rfl, rfl⟩ | ⟨g0, cap, cur, rfl, q1, q2, q3, q4, q5, q6⟩
    · have := run_append_nil (P := P) w t ty e i z ht hi hz ad m c news hl hc hm (by omega) (by simp at hby; omega)
      rw [this] at hr
      simp at hr
      rw [← hr.1] at hg
      simp [blkOf] at hg
      exact .inr (by omega)
    · by_cases hroom : n + m ≤ cap
      · obtain ⟨w2, hr2, _, _⟩ := run_append_fits (P := P) w B t ty e i i.size ht hi rfl g0 n cap xs hown ad m c news hl hc h1 hroom
        rw [hr2] at hr
        simp at hr
        rw [← hr.1] at hg
        exact .inl hg
      · have hcur : ∀ j u, xs[j]? = some u → w.cell? ((⟨g0, 0, none⟩ : Addr).add j) = some u := by
          intro j u hj
          rw [add_own, Nat.zero_add, cell_of_row w g0 j cur e (0, 0) q2, ← Array.getElem?_toList]
          rw [← q6] at hj
          have hjl := get_lt hj
          simp at hjl
          rw [List.getElem?_take_of_lt (by omega)] at hj
          exact hj
        have := run_append_grow (P := P) w t ty e i z ht hi hz ⟨g0, 0, none⟩ n cap xs hown.1 hcur ad m c news hl hc (by omega) (by omega) (growslice_fits (by omega) hby)
        rw [this] at hr
        simp at hr
        rw [← hr.1] at hg
        simp [blkOf] at hg
        exact .inr (by omega)


/-- What append of a string does to a row of bytes of the call's own. -/
theorem run_app_str {t u ty e : TypeId} {i : TypeInfo} (ht : P.underlying t = some (.slice e)) (hu : P.underlying u = some .string) (hi : P.info? e = some i) (hz : i.zero = some (.int .u8 0)) (hs1 : i.size = 1) (hb1 : i.bytes = 1)
    {v : Value} {n : Nat} {xs : List Value} (hown : w.ownsRow B e 1 v n xs) (s : ByteArray) (h63 : n + s.size ≤ 9223372036854775807) (hby : n + s.size ≤ 140737488355328) (hbase : B ≤ w.heap.size) :
    ∃ v' w', (Builtin.append_ #[t, u] ty #[v, .string s]).run P w = .ok v' w' ∧ w'.ownsRow B e 1 v' (n + s.size) (xs ++ Lib.strCells s) ∧ w.grownBy w' (blkOf v) ∧ (∀ g, blkOf v' = some g → blkOf v = some g ∨ w.heap.size ≤ g) ∧ (s.size = 0 → v' = v) := by
  have hbo : blkOf v = v.ownBlock := by
    rcases hown.2 with ⟨rfl, _⟩ | ⟨g, cap, cur, rfl, _⟩ <;> rfl
  obtain ⟨v', w', hr, ho', hg', hnil⟩ := Lib.run_append_own_string (P := P) w B t u ty e i ht hu hi hz hs1 hb1 v n xs hown s (by simp only [maxLen]; omega) hby hbase
  have fresh : (∀ g, blkOf v' = some g → blkOf v = some g ∨ w.heap.size ≤ g) ∧ (s.size = 0 → v' = v) := by
    rcases hown.2 with ⟨rfl, rfl⟩ | ⟨g0, cap, cur, rfl, q1, q2, q3, q4, q5, q6⟩
    · by_cases h0 : s.size = 0
      · have := hnil.2 ⟨rfl, h0⟩
        subst this
        exact ⟨fun g hg => by simp [blkOf] at hg, fun _ => rfl⟩
      · have := run_append_nil_string (P := P) w t u ty e i (.int .u8 0) ht hu hi hz s (by omega) (by omega) (by rw [hb1]; omega)
        rw [this] at hr
        simp at hr
        rw [← hr.1]
        exact ⟨fun g hg => by simp [blkOf] at hg; exact .inr (by omega), fun h => absurd h h0⟩
    · by_cases hroom : n + s.size ≤ cap
      · have hfit : n + s.size ≤ cur.size := by rw [q5]; omega
        have := Lib.run_append_room_string (P := P) w t u ty e i ht hu hi hs1 g0 n cap cur q2 s hroom hfit
        rw [this] at hr
        simp at hr
        rw [← hr.1]
        exact ⟨fun g hg => .inl hg, fun h => by rw [h]; rfl⟩
      · have hcur : ∀ j u, xs[j]? = some u → w.cell? ((⟨g0, 0, none⟩ : Addr).add j) = some u := by
          intro j u hj
          rw [add_own, Nat.zero_add, cell_of_row w g0 j cur e (0, 0) q2, ← Array.getElem?_toList]
          rw [← q6] at hj
          have hjl := get_lt hj
          simp at hjl
          rw [List.getElem?_take_of_lt (by omega)] at hj
          exact hj
        have := Lib.run_append_grow_string (P := P) w t u ty e i (.int .u8 0) ht hu hi hz ⟨g0, 0, none⟩ n cap xs (by rw [hs1]; exact hown.1) hcur s (by omega) (by omega) (growslice_fits (by omega) (by rw [hb1]; omega))
        rw [this] at hr
        simp at hr
        rw [← hr.1]
        exact ⟨fun g hg => by simp [blkOf] at hg; exact .inr (by omega), fun h => by omega⟩
  exact ⟨v', w', hr, ho', by rw [hbo]; exact hg', fresh.1, fresh.2⟩

/-- The object i of the call's own goes on as a new one. -/
theorem WRel.renew (h : WRel B w0 M0 M E ow w) {i : Nat} {o oN : Own} {v vN : Value} (ho : ow[i]? = some o) (hf : o.free = true) (hv : E[i]? = some v) (hgrow : w.grownBy w' (blkOf v)) (hfresh : ∀ g, blkOf vN = some g → blkOf v = some g ∨ w.heap.size ≤ g)
    (hH : Holds B M (E ++ [vN]) w' oN vN) : WRel B w0 M0 M (E ++ [vN]) (setOwn ow i .gone ++ [oN]) w' := by
  have hlv := Own.free_live hf
  have hlt : ∀ b, blkOf v = some b → b < w.heap.size ∧ B ≤ b ∧ M b = none := fun b hb => by
    obtain ⟨h1, h2, h3⟩ := (h.holds _ _ _ ho hv).lt hlv hb
    exact ⟨h1, h2, h3 hf⟩
  have hsame : ∀ b, b < w.heap.size → blkOf v ≠ some b → w'.heap[b]? = w.heap[b]? := fun b hb hne => hgrow.block b hb (fun e => hne e.symm)
  have hlast : (E ++ [vN])[ow.length]? = some vN := by rw [← h.len, List.getElem?_append_right (Nat.le_refl _)]; simp
  have old : ∀ {j : Nat} {p : Own} {u : Value}, (setOwn ow i .gone)[j]? = some p → (E ++ [vN])[j]? = some u → E[j]? = some u ∧ ((j = i ∧ p = .gone) ∨ (j ≠ i ∧ ow[j]? = some p)) := by
    intro j p u hp hu
    have hj := get_lt hp
    rw [length_setOwn] at hj
    rw [List.getElem?_append_left (by rw [h.len]; exact hj)] at hu
    refine ⟨hu, ?_⟩
    rw [getElem?_setOwn] at hp
    split at hp
    · rename_i hij; subst hij
      rw [if_pos (get_lt ho)] at hp
      simp at hp; exact .inl ⟨rfl, hp.symm⟩
    · rename_i hij; exact .inr ⟨fun e => hij e.symm, hp⟩
  refine ⟨fun b ob hb => ?_, Nat.le_trans h.base hgrow.size, h.below.trans ⟨hgrow.os, hgrow.tape, hgrow.output, hgrow.size, fun q hq => hsame q (Nat.lt_of_lt_of_le hq h.base) (fun hbu => ?_)⟩, by simp [length_setOwn, h.len], fun j p u hp hu => ?_, fun j j' p p' u1 u2 b hp hp' hl1 hl2 hu1 hu2 hb1 hb2 => ?_, h.mle, h.new⟩
  · have hfit := h.fits _ _ hb
    rw [hsame b hfit.lt (fun hbu => by rw [(hlt b hbu).2.2] at hb; simp at hb)]
    exact hfit
  · have := (hlt q hbu).2.1; omega
  · rcases getElem?_append_one hp with hp1 | ⟨rfl, rfl⟩
    · obtain ⟨hu', ⟨rfl, rfl⟩ | ⟨hne, hp2⟩⟩ := old hp1 hu
      · exact Rep_one h (d := .row j) rfl (by simp only [Rep]; exact hu')
      · have hHj := h.holds _ _ _ hp2 hu'
        exact hHj.frame (fun b hl hb => hsame b (hHj.lt hl hb).1 (fun hbu => hne (h.inj _ _ _ _ _ _ _ hp2 ho hl hlv hu' hv hb hbu))) (Mem.le_refl _) (EnvLe.append _ _) (fun b hf' hb => (hHj.lt (Own.free_live hf') hb).2.2 hf')
    · rw [length_setOwn, hlast] at hu; simp at hu; subst hu
      exact hH
  · have key : ∀ {j : Nat} {p : Own} {u : Value} {b : Nat}, (setOwn ow i .gone)[j]? = some p → p.live = true → (E ++ [vN])[j]? = some u → blkOf u = some b → ow[j]? = some p ∧ E[j]? = some u ∧ j ≠ i ∧ b < w.heap.size := by
      intro j p u b hp hl hu hb
      obtain ⟨hu', ⟨rfl, rfl⟩ | ⟨hne, hp2⟩⟩ := old hp hu
      · simp [Own.live] at hl
      · exact ⟨hp2, hu', hne, ((h.holds _ _ _ hp2 hu').lt hl hb).1⟩
    rcases getElem?_append_one hp with hp1 | ⟨rfl, rfl⟩ <;> rcases getElem?_append_one hp' with hp2 | ⟨rfl, rfl⟩
    · obtain ⟨a1, a2, a3, a4⟩ := key hp1 hl1 hu1 hb1
      obtain ⟨c1, c2, c3, c4⟩ := key hp2 hl2 hu2 hb2
      exact h.inj _ _ _ _ _ _ _ a1 c1 hl1 hl2 a2 c2 hb1 hb2
    · obtain ⟨a1, a2, a3, a4⟩ := key hp1 hl1 hu1 hb1
      rw [length_setOwn, hlast] at hu2; simp at hu2; subst hu2
      rcases hfresh b hb2 with hh | hh
      · exact absurd (h.inj _ _ _ _ _ _ _ a1 ho hl1 hlv a2 hv hb1 hh) a3
      · omega
    · obtain ⟨a1, a2, a3, a4⟩ := key hp2 hl2 hu2 hb2
      rw [length_setOwn, hlast] at hu1; simp at hu1; subst hu1
      rcases hfresh b hb1 with hh | hh
      · exact absurd (h.inj _ _ _ _ _ _ _ a1 ho hl2 hlv a2 hv hb2 hh) a3
      · omega
    · rfl

/-- A new object. -/
theorem WRel.grown (h : WRel B w0 M0 M E ow w) {oN : Own} {vN : Value} (hgrow : w.grownBy w' none) (hfresh : ∀ g, blkOf vN = some g → w.heap.size ≤ g)
    (hH : Holds B M (E ++ [vN]) w' oN vN) : WRel B w0 M0 M (E ++ [vN]) (ow ++ [oN]) w' := by
  have hsame : ∀ b, b < w.heap.size → w'.heap[b]? = w.heap[b]? := fun b hb => hgrow.block b hb (by simp)
  have hlast : (E ++ [vN])[ow.length]? = some vN := by rw [← h.len, List.getElem?_append_right (Nat.le_refl _)]; simp
  refine ⟨fun b ob hb => ?_, Nat.le_trans h.base hgrow.size, h.below.trans ⟨hgrow.os, hgrow.tape, hgrow.output, hgrow.size, fun q hq => hsame q (Nat.lt_of_lt_of_le hq h.base)⟩, by simp [h.len], fun j p u hp hu => ?_, fun j j' p p' u1 u2 b hp hp' hl1 hl2 hu1 hu2 hb1 hb2 => ?_, h.mle, h.new⟩
  · have hfit := h.fits _ _ hb
    rw [hsame b hfit.lt]; exact hfit
  · rcases getElem?_append_one hp with hp1 | ⟨rfl, rfl⟩
    · rw [List.getElem?_append_left (by rw [h.len]; exact get_lt hp1)] at hu
      have hHj := h.holds _ _ _ hp1 hu
      exact hHj.frame (fun b hl hb => hsame b (hHj.lt hl hb).1) (Mem.le_refl _) (EnvLe.append _ _) (fun b hf hb => (hHj.lt (Own.free_live hf) hb).2.2 hf)
    · rw [hlast] at hu; simp at hu; subst hu; exact hH
  · have key : ∀ {j : Nat} {p : Own} {u : Value} {b : Nat}, ow[j]? = some p → p.live = true → (E ++ [vN])[j]? = some u → blkOf u = some b → E[j]? = some u ∧ b < w.heap.size := by
      intro j p u b hp hl hu hb
      rw [List.getElem?_append_left (by rw [h.len]; exact get_lt hp)] at hu
      exact ⟨hu, ((h.holds _ _ _ hp hu).lt hl hb).1⟩
    rcases getElem?_append_one hp with hp1 | ⟨rfl, rfl⟩ <;> rcases getElem?_append_one hp' with hp2 | ⟨rfl, rfl⟩
    · exact h.inj _ _ _ _ _ _ _ hp1 hp2 hl1 hl2 (key hp1 hl1 hu1 hb1).1 (key hp2 hl2 hu2 hb2).1 hb1 hb2
    · have := (key hp1 hl1 hu1 hb1).2
      rw [hlast] at hu2; simp at hu2; subst hu2
      have := hfresh b hb2; omega
    · have := (key hp2 hl2 hu2 hb2).2
      rw [hlast] at hu1; simp at hu1; subst hu1
      have := hfresh b hb1; omega
    · rfl

/-- What is appended, in memory. -/
def SrcAt (M : Mem) (w : World) (sz : Nat) (q : Src) (y : Value) : Prop :=
  match q with
  | .str s => y = .string s
  | .data m g => ∃ (a : Option Addr) (c : Nat) (news : List Value), y = .slice a m c ∧ news.length = m * sz ∧ (0 < m → ∃ ad, a = some ad ∧ ∀ (j : Nat) (u : Value), news[j]? = some u → w.cell? (ad.add j) = some u) ∧ (∀ u ∈ news, u.oneCell' = true) ∧
      ∀ q, q < m → ∀ j, j < sz → ∃ x, news[q * sz + j]? = some x ∧ x.oneCell' = true ∧ Rep M [] (g q j) x

theorem srcOf_sound {sz : Nat} {u8 : Bool} {x : D} {q : Src} {y : Value} (hpos : 0 < sz) (hsrc : srcOf sz u8 ow x = some q) (hW : WRel B w0 M0 M E ow w) (hx : Rep M E x y) : SrcAt M w sz q y ∧ (∀ s, q = .str s → u8 = true ∧ sz = 1) := by
  have data : ∀ (m : Nat) (g : Nat → Nat → D) (a : Option Addr) (cap : Nat), (0 < m → ∃ ad, a = some ad ∧ ∀ i, i < m → ∀ j, j < sz → ∃ x, w.cell? (ad.add (i * sz + j)) = some x ∧ x.oneCell' = true ∧ Rep M [] (g i j) x) → SrcAt M w sz (.data m g) (.slice a m cap) := by
    intro m g a cap hc
    simp only [SrcAt]
    rcases Nat.eq_zero_or_pos m with rfl | hm
    · exact ⟨a, cap, [], rfl, by simp, fun h => by omega, by simp, fun q hq => by omega⟩
    · obtain ⟨ad, rfl, hcell⟩ := hc hm
      have hall : ∀ j, j < m * sz → ∃ x, w.cell? (ad.add j) = some x ∧ x.oneCell' = true ∧ Rep M [] (g (j / sz) (j % sz)) x := by
        intro j hj
        have h1 : j / sz < m := Nat.div_lt_of_lt_mul (by rw [Nat.mul_comm]; exact hj)
        have h2 : j % sz < sz := Nat.mod_lt _ hpos
        have := hcell _ h1 _ h2
        rw [show j / sz * sz + j % sz = j by rw [Nat.mul_comm]; exact Nat.div_add_mod j sz] at this
        exact this
      obtain ⟨news, hn1, hn2⟩ : ∃ news : List Value, news.length = m * sz ∧ ∀ j x, news[j]? = some x → w.cell? (ad.add j) = some x ∧ x.oneCell' = true ∧ Rep M [] (g (j / sz) (j % sz)) x := by
        refine ⟨(List.range (m * sz)).map fun j => (w.cell? (ad.add j)).getD undef, by simp, fun j x hx => ?_⟩
        rw [List.getElem?_map, Option.map_eq_some_iff] at hx
        obtain ⟨j', hj', rfl⟩ := hx
        have hjl := get_lt hj'
        simp only [List.length_range] at hjl
        rw [List.getElem?_range hjl] at hj'
        simp only [Option.some.injEq] at hj'
        subst hj'
        obtain ⟨y, y1, y2, y3⟩ := hall j hjl
        simp [y1, y2, y3]
      refine ⟨some ad, cap, news, rfl, hn1, fun _ => ⟨ad, rfl, fun j u hu => (hn2 j u hu).1⟩, fun u hu => ?_, fun q hq j hj => ?_⟩
      · obtain ⟨j, hj⟩ := List.getElem?_of_mem hu
        exact (hn2 j u hj).2.1
      · have hlt : q * sz + j < news.length := by
          rw [hn1]
          have : (q + 1) * sz ≤ m * sz := Nat.mul_le_mul_right _ (by omega)
          rw [Nat.add_mul] at this
          omega
        have hget := List.getElem?_eq_getElem hlt
        obtain ⟨_, y2, y3⟩ := hn2 _ _ hget
        refine ⟨_, hget, y2, ?_⟩
        have e1 : (q * sz + j) / sz = q := by
          rw [Nat.mul_comm, Nat.mul_add_div hpos, Nat.div_eq_of_lt hj, Nat.add_zero]
        have e2 : (q * sz + j) % sz = j := by
          rw [Nat.mul_comm, Nat.mul_add_mod, Nat.mod_eq_of_lt hj]
        rw [e1, e2] at y3
        exact y3
  unfold srcOf at hsrc
  split at hsrc
  · split at hsrc <;> try (simp at hsrc; done)
    rename_i hsz
    simp at hsrc; subst hsrc; subst hsz
    simp only [Rep] at hx
    obtain ⟨a, cap, rfl, _, hc⟩ := hx
    refine ⟨data _ _ a cap (fun hm => ?_), fun s h => by simp at h⟩
    obtain ⟨ad, h1, h2⟩ := hc hm
    exact ⟨ad, h1, fun i hi j hj => by obtain ⟨x, x1, x2⟩ := h2 i hi j hj; exact ⟨x, Mem.cell_fits hW.fits x1, x2⟩⟩
  · simp at hsrc; subst hsrc
    simp only [Rep] at hx; subst hx
    exact ⟨data _ _ none 0 (fun hm => by omega), fun s h => by simp at h⟩
  · split at hsrc <;> try (simp at hsrc; done)
    rename_i hc
    simp at hsrc; subst hsrc
    simp only [Rep] at hx; subst hx
    simp at hc
    exact ⟨rfl, fun s _ => hc⟩
  · split at hsrc <;> try (simp at hsrc; done)
    rename_i o ho
    split at hsrc <;> try (simp at hsrc; done)
    rename_i e sz' m g hro
    split at hsrc <;> try (simp at hsrc; done)
    rename_i hsz
    simp at hsrc; subst hsrc; subst hsz
    simp only [Rep] at hx
    obtain ⟨xs, hown, hrep, _⟩ := (hW.holds _ _ _ ho hx).toRow hro
    rcases hown.2 with ⟨rfl, rfl⟩ | ⟨g0, cap, cur, rfl, q1, q2, q3, q4, q5, q6⟩
    · exact ⟨data _ _ none 0 (fun hm => by omega), fun s h => by simp at h⟩
    · refine ⟨data _ _ _ cap (fun hm => ⟨_, rfl, fun i hi j hj => ?_⟩), fun s h => by simp at h⟩
      obtain ⟨x, x1, x2, x3⟩ := hrep i hi j hj
      refine ⟨x, ?_, x2, x3⟩
      rw [add_own, Nat.zero_add, cell_of_row w g0 _ cur e (0, 0) q2, ← Array.getElem?_toList]
      rw [← q6, List.getElem?_take_of_lt] at x1
      · exact x1
      · have : (i + 1) * sz' ≤ m * sz' := Nat.mul_le_mul_right _ (by omega)
        rw [Nat.add_mul] at this
        omega
  · simp at hsrc

theorem bAt_cat (x y : ByteArray) (i : Nat) : bAt (bcat x y) i = if i < x.size then bAt x i else bAt y (i - x.size) := by
  have hs : x.size = x.data.toList.length := rfl
  simp only [bAt, bcat]
  by_cases h : i < x.size
  · rw [if_pos h, List.getElem?_append_left (by rw [← hs]; exact h)]
  · rw [if_neg h, List.getElem?_append_right (by rw [← hs]; omega), hs]

theorem size_cat (x y : ByteArray) : (bcat x y).size = x.size + y.size := by
  show (x.data.toList ++ y.data.toList).length = x.data.toList.length + y.data.toList.length
  simp

theorem told_spec {q : Src} {vs : List DP} {c : ByteArray} (h : q.told = some (vs, c)) (hvs : AllP vs) : c.size = q.len ∧ ∀ i, i < q.len → q.fn i 0 = .v (.int .u8 (bAt c i)) := by
  unfold Src.told at h
  split at h
  · simp at h; obtain ⟨rfl, rfl⟩ := h
    exact ⟨rfl, fun i _ => rfl⟩
  · simp at h; obtain ⟨rfl, rfl⟩ := h
    exact ⟨rfl, fun i hi => by simp [Src.len] at hi⟩
  · split at h <;> simp at h
    rename_i g x hx
    obtain ⟨rfl, rfl⟩ := h
    simp only [AllP, and_true] at hvs
    refine ⟨rfl, fun i hi => ?_⟩
    simp only [Src.len] at hi
    have : i = 0 := by omega
    subst this
    simp only [Src.fn, hx]
    have : bAt ⟨⟨[UInt8.ofNat x.toNat]⟩⟩ 0 = x := by
      simp [bAt]
      omega
    rw [this]
  · simp at h

theorem allP_append : ∀ {a b : List DP}, AllP (a ++ b) ↔ AllP a ∧ AllP b
  | [], b => by simp [AllP]
  | ⟨p, d⟩ :: a, b => by simp [AllP, allP_append, and_assoc]

theorem evApp_sound (hT : TOk P T) {t t' ty : TypeId} {s x : D} {u y : Value} {vs : List DP} {i : Option Nat} {o : Own} (h : evApp T t t' ow s x = some (vs, i, o)) (hvs : AllP vs) (hW : WRel B w0 M0 M E ow w) (hs : Rep M E s u) (hx : Rep M E x y) :
    ∃ v' w', (Builtin.append_ #[t, t'] ty #[u, y]).run P w = .ok v' w' ∧ WRel B w0 M0 M (E ++ [v']) (goneO ow i ++ [o]) w' := by
  unfold evApp at h
  split at h <;> try (simp at h; done)
  rename_i e esz by' mo hTt
  split at h <;> try (simp at h; done)
  rename_i sz0 ag z k2 fl2 hTe
  split at h <;> try (simp at h; done)
  rename_i hcond
  obtain ⟨hzl, hpos, hs0⟩ := hcond
  split at h <;> try (simp at h; done)
  rename_i q hsrc
  split at h <;> try (simp at h; done)
  rename_i hty
  obtain ⟨i1, td, hi1, hd1, he1⟩ := tiOf_some (hT _ _ hTt)
  simp only [TI.mk.injEq] at he1
  obtain ⟨rfl, ei, hei, rfl, rfl⟩ := tkOf_slice he1.2.2.2.1.symm
  obtain ⟨i2, td2, hi2, hd2, he2⟩ := tiOf_some (hT _ _ hTe)
  simp only [TI.mk.injEq] at he2
  rw [hei] at hi2; simp at hi2; subst hi2
  obtain ⟨zv, hzv, hzc⟩ := Option.map_eq_some_iff.1 he2.2.2.1.symm
  have hzs : zv.cells.size = ei.size := by rw [← hzl, ← hzc]; simp
  obtain ⟨hat, hstr⟩ := srcOf_sound hpos hsrc hW hx
  -- the run, whatever the source
  have run : ∀ {v : Value} {n : Nat} {xs : List Value}, w.ownsRow B e ei.size v n xs → n + q.len ≤ 9223372036854775807 → (n + q.len) * ei.bytes ≤ 140737488355328 →
      ∃ v' w' news, (Builtin.append_ #[t, t'] ty #[v, y]).run P w = .ok v' w' ∧ w'.ownsRow B e ei.size v' (n + q.len) (xs ++ news) ∧ w.grownBy w' (blkOf v) ∧ (∀ g, blkOf v' = some g → blkOf v = some g ∨ w.heap.size ≤ g) ∧ (q.len = 0 → v' = v) ∧
        (∀ a, a < q.len → ∀ j, j < ei.size → ∃ x, news[a * ei.size + j]? = some x ∧ x.oneCell' = true ∧ Rep M [] (q.fn a j) x) := by
    intro v n xs hown h1 h2
    cases q with
    | data m g =>
      simp only [srcTy, beq_iff_eq] at hty
      subst hty
      simp only [SrcAt] at hat
      obtain ⟨a, c, news, rfl, hn1, hn2, hn3, hn4⟩ := hat
      obtain ⟨v', w', hr, hown', hgrow, hfresh, hz⟩ := run_app (P := P) (ty := ty) (c := c) hd1 hei hzv hzs hpos hown hn1 hn2 hn3 h1 h2 hW.base
      exact ⟨v', w', news, hr, hown', hgrow, hfresh, hz, hn4⟩
    | str b =>
      obtain ⟨hu8, hsz1⟩ := hstr b rfl
      simp only [SrcAt] at hat; subst hat
      simp only [srcTy] at hty
      split at hty <;> try (simp at hty; done)
      rename_i hTt'
      have hb1 : ei.bytes = 1 := by simpa using hty
      obtain ⟨i3, td3, hi3, hd3, he3⟩ := tiOf_some (hT _ _ hTt')
      simp only [TI.mk.injEq] at he3
      obtain rfl := tkOf_str he3.2.2.2.1.symm
      unfold byteTy at hu8
      split at hu8 <;> try (simp at hu8; done)
      rename_i n0 fl3 ms3 sf3 fa3 hTe'
      rw [hTe] at hTe'
      simp at hTe'
      obtain ⟨rfl, rfl, hz', rfl, rfl⟩ := hTe'
      have hn0 : n0 = 0 := by simpa using hu8
      subst hn0
      subst hz'
      have hzv' : zv = .int .u8 0 := by
        have hzok : zokOf ei td2 = true := by
          have := he2.2.2.2.2
          simp only [More.mk.injEq] at this
          exact this.2.2.2.2.symm
        simp only [zokOf, hzv] at hzok
        have hag : aggOf td2 = false := he2.2.1.symm
        cases zv <;> first
          | (rw [hag] at hzok; simp at hzok; done)
          | (simp [Value.cells] at hzc; done)
          | (simp [Value.cells] at hzc; obtain ⟨rfl, rfl⟩ := hzc; rfl)
      subst hzv'
      rw [hsz1] at hown
      simp only [Src.len, hb1, Nat.mul_one] at h1 h2
      obtain ⟨v', w', hr, hown', hgrow, hfresh, hz⟩ := run_app_str (P := P) (ty := ty) hd1 hd3 hei hzv hsz1 hb1 hown b h1 h2 hW.base
      refine ⟨v', w', Lib.strCells b, hr, by rw [hsz1]; exact hown', hgrow, hfresh, hz, fun a ha j hj => ?_⟩
      rw [hsz1] at hj ⊢
      have hj0 : j = 0 := by omega
      subst hj0
      simp only [Src.len] at ha
      have hss : b.size = b.data.toList.length := rfl
      have hal : a < b.data.toList.length := by omega
      refine ⟨.int .u8 (bAt b a), ?_, rfl, by simp only [Src.fn, bytesF]; exact Rep.val _⟩
      have hg := List.getElem?_eq_getElem hal
      rw [Nat.mul_one, Nat.add_zero, Lib.strCells, List.getElem?_map, bAt, hg]
      rfl
  -- the new row
  have rowN : ∀ {w' : World} {v' : Value} {n : Nat} {f : Nat → Nat → D} {xs news : List Value}, w'.ownsRow B e ei.size v' (n + q.len) (xs ++ news) → xs.length = n * ei.size → (∀ a, a < n → ∀ j, j < ei.size → ∃ x, xs[a * ei.size + j]? = some x ∧ x.oneCell' = true ∧ Rep M [] (f a j) x) →
      (∀ a, a < q.len → ∀ j, j < ei.size → ∃ x, news[a * ei.size + j]? = some x ∧ x.oneCell' = true ∧ Rep M [] (q.fn a j) x) → (∀ b, blkOf v' = some b → M b = none) → HoldsRow B M w' e ei.size (n + q.len) (catF n f q.fn) v' := by
    intro w' v' n f xs news hown' hxl hrep hn4 hM
    refine ⟨xs ++ news, hown', fun a ha j hj => ?_, fun g hg => hM g (blk_of_own hg)⟩
    by_cases hqn : a < n
    · obtain ⟨x, x1, x2, x3⟩ := hrep a hqn j hj
      exact ⟨x, by rw [List.getElem?_append_left (get_lt x1)]; exact x1, x2, by simpa [catF, hqn] using x3⟩
    · obtain ⟨x, x1, x2, x3⟩ := hn4 (a - n) (by omega) j hj
      refine ⟨x, ?_, x2, by simpa [catF, hqn] using x3⟩
      have hmul : n * ei.size ≤ a * ei.size := Nat.mul_le_mul_right _ (by omega)
      rw [List.getElem?_append_right (by rw [hxl]; omega), hxl]
      have : a * ei.size + j - n * ei.size = (a - n) * ei.size + j := by
        rw [Nat.sub_mul]; omega
      rw [this]; exact x1
  have fresh : ∀ {b : Nat}, w.heap.size ≤ b → M b = none := by
    intro b hb
    cases hm : M b with
    | none => rfl
    | some ob => have := (hW.fits _ _ hm).lt; omega
  have capOk : ∀ {w' : World} {v v' : Value} {n m : Nat} {xs : List Value}, w'.ownsRow B e ei.size v' (n + m) xs → (m = 0 → v' = v) → (∀ a k c, v = .slice (some a) k c → c ≠ 0) → ∀ a k c, v' = .slice (some a) k c → c ≠ 0 := by
    intro w' v v' n m xs hown' hz hc a k c hv
    by_cases hm : m = 0
    · exact hc a k c ((hz hm).symm.trans hv)
    · obtain ⟨g, cap, cur, h1, _, _, h2, _⟩ := ownsRow_some hown' (by omega)
      rw [h1] at hv; simp at hv; omega
  split at h
  · rename_i j
    split at h <;> try (simp at h; done)
    split at h <;> try (simp at h; done)
    · rename_i e' b ho
      split at h <;> try (simp at h; done)
      rename_i hc2
      obtain ⟨rfl, hsz1⟩ := hc2
      simp only [Rep] at hs
      have hH := hW.holds _ _ _ ho hs
      simp only [Holds] at hH
      obtain ⟨⟨xs, hown, hrep, hMg⟩, hcap⟩ := hH
      rw [hsz1] at hown hrep
      have hMu : ∀ g, blkOf u = some g → M g = none := fun g hg => ((hW.holds _ _ _ ho hs).lt rfl hg).2.2 rfl
      split at h
      · rename_i vs' c htold
        simp at h; obtain ⟨rfl, rfl, rfl⟩ := h
        simp only [AllP] at hvs
        obtain ⟨v', w', news, hr, hown', hgrow, hfresh, hz, hn4⟩ := run hown hvs.1 hvs.2.1
        obtain ⟨hcs, hcf⟩ := told_spec htold hvs.2.2
        refine ⟨v', w', hr, hW.renew ho rfl hs hgrow hfresh ?_⟩
        refine ⟨?_, capOk hown' hz hcap⟩
        have hR := rowN (f := bytesF b) hown' hown.1 hrep hn4 (fun g hg => by
          rcases hfresh g hg with h1 | h1
          · exact hMu g h1
          · exact fresh h1)
        rw [size_cat, hcs]
        rw [← hsz1] at hR
        obtain ⟨xs2, r1, r2, r3⟩ := hR
        refine ⟨xs2, r1, fun a ha j hj => ?_, r3⟩
        have hj0 : j = 0 := by omega
        subst hj0
        obtain ⟨x, x1, x2, x3⟩ := r2 a ha 0 (by omega)
        refine ⟨x, x1, x2, ?_⟩
        simp only [catF] at x3
        simp only [bytesF, bAt_cat]
        by_cases hab : a < b.size
        · rw [if_pos hab] at x3 ⊢; exact x3
        · rw [if_neg hab] at x3 ⊢
          rw [hcf (a - b.size) (by omega)] at x3
          exact x3
      · simp at h; obtain ⟨rfl, rfl, rfl⟩ := h
        simp only [AllP, and_true] at hvs
        obtain ⟨v', w', news, hr, hown', hgrow, hfresh, hz, hn4⟩ := run hown hvs.1 hvs.2
        refine ⟨v', w', hr, hW.renew ho rfl hs hgrow hfresh ?_⟩
        have hR := rowN (f := bytesF b) hown' hown.1 hrep hn4 (fun g hg => by
          rcases hfresh g hg with h1 | h1
          · exact hMu g h1
          · exact fresh h1)
        simp only [Holds]
        rw [hsz1]; exact hR
    · rename_i e' sz n f ho
      split at h <;> try (simp at h; done)
      rename_i hc2
      obtain ⟨rfl, rfl⟩ := hc2
      simp at h; obtain ⟨rfl, rfl, rfl⟩ := h
      simp only [AllP, and_true] at hvs
      simp only [Rep] at hs
      have hH := hW.holds _ _ _ ho hs
      simp only [Holds] at hH
      obtain ⟨xs, hown, hrep, hMg⟩ := hH
      have hMu : ∀ g, blkOf u = some g → M g = none := fun g hg => ((hW.holds _ _ _ ho hs).lt rfl hg).2.2 rfl
      obtain ⟨v', w', news, hr, hown', hgrow, hfresh, hz, hn4⟩ := run hown hvs.1 hvs.2
      refine ⟨v', w', hr, hW.renew ho rfl hs hgrow hfresh ?_⟩
      exact rowN hown' hown.1 hrep hn4 (fun g hg => by
        rcases hfresh g hg with h1 | h1
        · exact hMu g h1
        · exact fresh h1)
  · simp only [Rep] at hs; subst hs
    have hown0 := World.ownsRow_nil w B e ei.size
    split at h
    · rename_i b
      split at h <;> try (simp at h; done)
      rename_i hsz1
      simp at h; obtain ⟨rfl, rfl, rfl⟩ := h
      simp only [AllP, and_true] at hvs
      obtain ⟨v', w', news, hr, hown', hgrow, hfresh, hz, hn4⟩ := run hown0 (by simpa [Src.len] using hvs.1) (by simpa [Src.len] using hvs.2)
      refine ⟨v', w', hr, hW.grown hgrow (fun g hg => (hfresh g hg).elim (fun h1 => by simp [blkOf] at h1) id) ?_⟩
      refine ⟨?_, capOk hown' hz (fun a k c hh => by simp at hh)⟩
      rw [hsz1]
      simp only [Nat.zero_add, List.nil_append, Src.len] at hown'
      exact ⟨news, hown', hn4, fun g hg => fresh ((hfresh g (blk_of_own hg)).elim (fun h1 => by simp [blkOf] at h1) id)⟩
    · rename_i m g
      simp at h; obtain ⟨rfl, rfl, rfl⟩ := h
      simp only [AllP, and_true] at hvs
      obtain ⟨v', w', news, hr, hown', hgrow, hfresh, hz, hn4⟩ := run hown0 (by simpa [Src.len] using hvs.1) (by simpa [Src.len] using hvs.2)
      refine ⟨v', w', hr, hW.grown hgrow (fun g hg => (hfresh g hg).elim (fun h1 => by simp [blkOf] at h1) id) ?_⟩
      simp only [Nat.zero_add, List.nil_append, Src.len] at hown'
      exact ⟨news, hown', hn4, fun g hg => fresh ((hfresh g (blk_of_own hg)).elim (fun h1 => by simp [blkOf] at h1) id)⟩
  · simp at h
end
end Go.Sx
