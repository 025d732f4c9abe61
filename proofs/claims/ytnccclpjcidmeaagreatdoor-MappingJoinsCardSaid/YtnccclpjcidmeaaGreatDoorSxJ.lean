import Derived.Test.YtnccclpjcidmeaaGreatDoorSxI3
import Derived.Lib.UnsafeStr
namespace Go.Sx
open Go Go.RowKit

section
variable {P : Program} {T : TT} {B : Nat} {w0 w w' : World} {M0 M M' : Mem} {E E' : List Value} {ow : List Own}

theorem splice_some {α : Type} : ∀ (l : List α) (o : Nat) (cs : List α), o + cs.length ≤ l.length → ∃ l', splice l o cs = some l'
  | l, 0, [], _ => ⟨l, by simp [splice]⟩
  | [], 0, c :: cs, h => by simp at h
  | x :: l, 0, c :: cs, h => by
    obtain ⟨l', hl⟩ := splice_some l 0 cs (by simp at h; omega)
    exact ⟨c :: l', by simp [splice, hl]⟩
  | [], n + 1, cs, h => by simp at h
  | x :: l, n + 1, cs, h => by
    obtain ⟨l', hl⟩ := splice_some l n cs (by simp at h; omega)
    exact ⟨x :: l', by simp [splice, hl]⟩

theorem oneL_rep (hW : WRel B w0 M0 M E ow w) : ∀ {cs : List D} {us : List Value}, oneL cs = true → RepL M E cs us → ∀ v ∈ us, v.oneCell' = true
  | [], us, _, h => by simp [RepL] at h; subst h; simp
  | d :: cs, us, h1, h => by
    simp only [RepL] at h
    obtain ⟨u, r, rfl, hu, hr⟩ := h
    simp [oneL] at h1
    intro v hv
    simp at hv
    rcases hv with rfl | hv
    · exact Rep_one hW h1.1 hu
    · exact oneL_rep hW h1.2 hr v hv

theorem Rep.plain {d : D} {u : Value} (h : plain d = true) (hu : Rep M E d u) : Rep M E' d u := by
  cases d <;> simp [Sx.plain] at h <;> simpa only [Rep] using hu

theorem plainL_get : ∀ {cs : List D} {j : Nat} {d : D}, plainL cs = true → cs[j]? = some d → Sx.plain d = true
  | [], j, d, _, h => by simp at h
  | c :: cs, 0, d, h1, h => by simp [plainL] at h1; simp at h; subst h; exact h1.1
  | c :: cs, j + 1, d, h1, h => by simp [plainL] at h1; simp at h; exact plainL_get h1.2 h

theorem run_storeAt {t : TypeId} {i : TypeInfo} {b off : Nat} {tt : TypeId} {cs : Array Value} {v : Value} {l' : List Value} (hi : P.info? t = some i) (hsz : v.cells.size = i.size) (hb : w.heap[b]? = some (.cells cs tt (0, 0))) (h1 : ∀ x ∈ v.cells.toList, x.oneCell' = true)
    (hs : splice cs.toList off v.cells.toList = some l') :
    ∃ w', (Instr.storeAt t (.pointer (some ⟨b, off, none⟩)) v).run P w = .ok () w' ∧ w'.heap[b]? = some (.cells l'.toArray tt (0, 0)) ∧ (∀ j, j ≠ b → w'.heap[j]? = w.heap[j]?) ∧ w'.heap.size = w.heap.size ∧ w'.os = w.os ∧ w'.tape = w.tape ∧ w'.output = w.output := by
  obtain ⟨w', r1, r2⟩ := run_storeCells (P := P) (b := b) (off := off) (t := tt) v.cells.toList 0 w cs l' hb h1 (by simpa using hs)
  refine ⟨w', ?_, r2⟩
  simp only [Instr.storeAt, Sem.run_bind, run_sureAddr, Result.andThen_ok, storeVar, run_sizeOf' hi]
  simp [hsz, r1]

/-- A store. -/
theorem evStore_sound {t : TypeId} {i : TypeInfo} {p d : D} {u x : Value} {cs : List D} {vs : List DP} {ow' : List Own} (hi : P.info? t = some i) (hcs : cellsD d = some cs) (hlen : cs.length = i.size) (hst : evStore ow p d = some (vs, ow')) (hvs : AllP vs) (hW : WRel B w0 M0 M E ow w) (hpr : Rep M E p u) (hx : Rep M E d x) :
    ∃ w', (Instr.storeAt t u x).run P w = .ok () w' ∧ WRel B w0 M0 M E ow' w' := by
  have hr := cellsD_rep hW hcs hx
  have hcl : x.cells.size = i.size := by have := hr.length; simp at this; omega
  unfold evStore at hst
  split at hst
  · rename_i j off cs' hcs'
    rw [hcs] at hcs'; simp at hcs'; subst hcs'
    split at hst <;> try (simp at hst; done)
    rename_i tt l ho
    split at hst <;> try (simp at hst; done)
    rename_i hone
    split at hst <;> try (simp at hst; done)
    rename_i l' hsp
    simp at hst; obtain ⟨rfl, rfl⟩ := hst
    simp only [Rep] at hpr
    obtain ⟨b, hE, rfl⟩ := hpr
    have hH := hW.holds _ _ _ ho hE
    simp only [Holds] at hH
    obtain ⟨b', cells, hb', hheap, hrl, hMb, hB⟩ := hH
    simp at hb'; subst hb'
    obtain ⟨us', h4, h5⟩ := RepL.splice hrl hr hsp
    obtain ⟨w', r1, r2, r3, r4, r5, r6, r7⟩ := run_storeAt (P := P) (t := t) hi hcl hheap (oneL_rep hW hone hr) h4
    refine ⟨w', r1, ?_⟩
    refine hW.update (b := b) ho rfl hE rfl r3 r4 r5 r6 r7 ?_
    simp only [Holds]
    exact ⟨b, us'.toArray, rfl, r2, by simpa using h5, hMb, hB⟩
  · rename_i j sz aa off cs' hcs'
    rw [hcs] at hcs'; simp at hcs'; subst hcs'
    split at hst <;> try (simp at hst; done)
    rename_i o ho
    split at hst <;> try (simp at hst; done)
    rename_i e sz' n f hro
    split at hst <;> try (simp at hst; done)
    rename_i hc
    obtain ⟨rfl, hle, hpl, hone⟩ := hc
    simp at hst; obtain ⟨rfl, rfl⟩ := hst
    simp only [AllP, and_true] at hvs
    simp only [Rep] at hpr
    obtain ⟨hv, b, hE, hb, rfl⟩ := hpr
    have hfree : o.free = true := by cases o <;> simp_all [rowOf, Own.free]
    obtain ⟨xs, hown, hrep, hMg⟩ := (hW.holds _ _ _ ho hE).toRow hro
    obtain ⟨g', cap, cur, rfl, h2, h3, h4, h5, h6⟩ := ownsRow_some hown (by omega)
    simp [rowBase] at hb; subst hb
    rw [add_own, Nat.zero_add]
    have hlr := hr.length
    have hlen2 : aa * sz + off + cs.length ≤ n * sz := by
      have : (aa + 1) * sz ≤ n * sz := Nat.mul_le_mul_right _ (by omega)
      rw [Nat.add_mul] at this
      omega
    have hcapn : n * sz ≤ cap * sz := Nat.mul_le_mul_right _ h4
    obtain ⟨l', hl'⟩ := splice_some cur.toList (aa * sz + off) x.cells.toList (by rw [← hlr]; simp; omega)
    obtain ⟨s1, s2, s3, s4⟩ := splice_spec hl'
    obtain ⟨w', r1, r2, r3, r4, r5, r6, r7⟩ := run_storeAt (P := P) (t := t) hi hcl h3 (oneL_rep hW hone hr) hl'
    refine ⟨w', r1, ?_⟩
    refine hW.update (b := g') ho hfree hE rfl r3 r4 r5 r6 r7 ?_
    have hxl : xs.length = n * sz := hown.1
    refine ⟨l'.take (n * sz), ⟨by rw [List.length_take, s1]; simp; omega, .inr ⟨g', cap, l'.toArray, rfl, h2, r2, h4, ?_, ?_, by simp⟩⟩, fun a' ha' j hj => ?_, hMg⟩
    · rcases hown.2 with ⟨hh, _⟩ | ⟨_, _, _, hh, _, _, _, hh2, _⟩
      · simp at hh
      · simp at hh; obtain ⟨_, _, rfl⟩ := hh; exact hh2
    · simp [s1, h5]
    · obtain ⟨y, y1, y2, y3⟩ := hrep a' ha' j hj
      have hpos : a' * sz + j < n * sz := by
        have : (a' + 1) * sz ≤ n * sz := Nat.mul_le_mul_right _ (by omega)
        rw [Nat.add_mul] at this
        omega
      have hy : cur.toList[a' * sz + j]? = some y := by
        rw [← h6, List.getElem?_take_of_lt hpos] at y1; exact y1
      rw [List.getElem?_take_of_lt hpos]
      by_cases haa : a' = aa
      · subst haa
        by_cases hoff : off ≤ j
        · cases hcj : cs[j - off]? with
          | none =>
            have hjj : cs.length ≤ j - off := by simpa using hcj
            refine ⟨y, ?_, y2, by simpa [updF, hoff, hcj] using y3⟩
            rw [s4 _ (.inr (by rw [← hlr]; omega))]; exact hy
          | some dc =>
            have hjj := get_lt hcj
            obtain ⟨uc, hu1, hu2⟩ := RepL.get hr hcj
            refine ⟨uc, ?_, oneL_rep hW hone hr uc (List.mem_of_getElem? hu1), by simpa [updF, hoff, hcj] using hu2.plain (plainL_get hpl hcj)⟩
            have := s3 (j - off) (by rw [← hlr]; exact hjj)
            rw [show a' * sz + off + (j - off) = a' * sz + j by omega] at this
            rw [this]; exact hu1
        · refine ⟨y, ?_, y2, by simpa [updF, hoff] using y3⟩
          rw [s4 _ (.inl (by omega))]; exact hy
      · refine ⟨y, ?_, y2, by simpa [updF, haa] using y3⟩
        rw [s4 _ ?_]; · exact hy
        rcases Nat.lt_or_gt_of_ne haa with hlt | hgt
        · left
          have : (a' + 1) * sz ≤ aa * sz := Nat.mul_le_mul_right _ (by omega)
          rw [Nat.add_mul] at this
          omega
        · right
          have : (aa + 1) * sz ≤ a' * sz := Nat.mul_le_mul_right _ (by omega)
          rw [Nat.add_mul] at this
          rw [← hlr]
          omega
  · simp at hst

/-- An object of the call's own ends. -/
theorem WRel.drop (h : WRel B w0 M0 M E ow w) (i : Nat) : WRel B w0 M0 M E (setOwn ow i .gone) w := by
  refine ⟨h.fits, h.base, h.below, by simp [length_setOwn, h.len], fun j p v hp hv => ?_, fun j k p p' v v' b hp hp' hl1 hl2 hv hv' hb hb' => ?_, h.mle, h.new⟩
  · rw [getElem?_setOwn] at hp
    split at hp
    · rename_i hij; subst hij
      split at hp <;> simp at hp
      subst hp
      exact Rep_one h (d := .row i) rfl (by simp only [Rep]; exact hv)
    · exact h.holds _ _ _ hp hv
  · have back : ∀ (j : Nat) (p : Own), (setOwn ow i .gone)[j]? = some p → p.live = true → ow[j]? = some p := by
      intro j p hp hl
      rw [getElem?_setOwn] at hp
      split at hp
      · split at hp <;> simp at hp
        subst hp; simp [Own.live] at hl
      · exact hp
    exact h.inj _ _ _ _ _ _ _ (back _ _ hp hl1) (back _ _ hp' hl2) hl1 hl2 hv hv' hb hb'

/-- The object i of the call's own has turned, in its own block, and has ended. -/
theorem WRel.endIn (h : WRel B w0 M0 M E ow w) {i : Nat} {o : Own} {v : Value} {b : Nat} (ho : ow[i]? = some o) (hf : o.free = true) (hv : E[i]? = some v) (hb : blkOf v = some b)
    (hw : ∀ k, k ≠ b → w'.heap[k]? = w.heap[k]?) (hsz : w'.heap.size = w.heap.size) (hos : w'.os = w.os) (htape : w'.tape = w.tape) (hout : w'.output = w.output) : WRel B w0 M0 M E (setOwn ow i .gone) w' :=
  h.update (o' := .gone) ho hf hv hb hw hsz hos htape hout (Rep_one h (d := .row i) rfl (by simp only [Rep]; exact hv))

theorem freeze_heap (w : World) (a : Addr) (n : Nat) : (∀ k, k ≠ a.block → (w.freeze a n).heap[k]? = w.heap[k]?) ∧ (w.freeze a n).heap.size = w.heap.size ∧ (w.freeze a n).os = w.os ∧ (w.freeze a n).tape = w.tape ∧ (w.freeze a n).output = w.output := by
  unfold World.freeze
  split
  · exact ⟨fun _ _ => rfl, rfl, rfl, rfl, rfl⟩
  · refine ⟨fun k hk => ?_, by simp, rfl, rfl, rfl⟩
    rw [Array.getElem?_modify, if_neg (fun e => hk e.symm)]

/-- Operations that make or change what is owned. -/
theorem evOwn_sound (hT : TOk P T) {op : Op} {g : Gets} {ρ : Operand → Value} {vs : List DP} {d : D} {ow' : List Own} (h : evOwn T op g ow = some (vs, d, ow')) (hvs : AllP vs) (hg : ∀ x d, g x = some d → Rep M E d (ρ x)) (hW : WRel B w0 M0 M E ow w)
    (dst : Option Tmp) (ty : TypeId) (pos : String) (after : Array Edge) (guard : Option (Nat × Bool)) : ∃ u w' M' E', ((execOp ρ ⟨dst, op, ty, pos, after, guard⟩).run P w = .ok (.value u) w' ∨ ((execOp ρ ⟨dst, op, ty, pos, after, guard⟩).run P w = .ok .skip w' ∧ u = undef)) ∧
      M.le M' ∧ Rep M' E' d u ∧ WRel B w0 M0 M' E' ow' w' ∧ EnvLe E E' := by
  unfold evOwn at h
  split at h
  case h_1 e =>
    split at h <;> try (simp at h; done)
    rename_i hTt
    simp at h; obtain ⟨rfl, rfl, rfl⟩ := h
    obtain ⟨i, td, hi, hd, he⟩ := tiOf_some (hT _ _ hTt)
    simp only [TI.mk.injEq] at he
    obtain ⟨zv, hzv, hzc⟩ := Option.map_eq_some_iff.1 he.2.2.1.symm
    refine ⟨_, _, M, _, .inl (by simp [execOp, Instr.alloc, run_zeroValue' hi hzv, newVar, newRow]; rfl), Mem.le_refl _, ?_, hW.alloc (cs := zv.cells) (by rw [hzc]; exact RepL.vals _), EnvLe.append _ _⟩
    simp only [Rep]
    exact ⟨_, by rw [← hW.len, List.getElem?_append_right (Nat.le_refl _)]; simp, rfl⟩
  case h_2 e x =>
    split at h <;> try (simp at h; done)
    rename_i d' hx
    split at h <;> try (simp at h; done)
    rename_i cs hcs
    split at h <;> try (simp at h; done)
    simp at h; obtain ⟨rfl, rfl, rfl⟩ := h
    have hr := cellsD_rep hW hcs (hg _ _ hx)
    refine ⟨_, _, M, _, .inl (by simp [execOp, Instr.box, newVar, newRow]; rfl), Mem.le_refl _, ?_, hW.alloc (cs := (ρ x).cells) hr, EnvLe.append _ _⟩
    simp only [Rep]
    exact ⟨_, by rw [← hW.len, List.getElem?_append_right (Nat.le_refl _)]; simp, rfl⟩
  case h_3 t =>
    split at h <;> try (simp at h; done)
    rename_i e esz by' mo hTt
    simp at h; obtain ⟨rfl, rfl, rfl⟩ := h
    obtain ⟨i, td, hi, hd, he⟩ := tiOf_some (hT _ _ hTt)
    simp only [TI.mk.injEq] at he
    obtain ⟨rfl, ei, hei, rfl, rfl⟩ := tkOf_slice he.2.2.2.1.symm
    refine ⟨.slice (some ⟨w.heap.size, 0, none⟩) 0 0, w.alloc (.cells #[] e (0, 0)), M, E ++ [.slice (some ⟨w.heap.size, 0, none⟩) 0 0], .inl ?_, Mem.le_refl _, ?_, hW.allocRow, EnvLe.append _ _⟩
    · simp [execOp, Instr.buildSlice, run_underlying' hd, run_sizeOf' hei, Instr.fill, newRow]
      have h0 : Array.map (fun (_ : Nat) => (default : Value)) (Array.range 0) = #[] := by simp
      rw [h0]
    · simp only [Rep]
      rw [← hW.len, List.getElem?_append_right (Nat.le_refl _)]; simp
  case h_4 t a x =>
    split at h <;> try (simp at h; done)
    rename_i ti p dd hTt hp hx
    obtain ⟨M1, d', ow1, hle, hW1, hd1, h⟩ : ∃ M1 d' ow1, M.le M1 ∧ WRel B w0 M0 M1 E ow1 w ∧ Rep M1 E d' (ρ x) ∧ (match cellsD d' with
        | some cs => if cs.length = ti.size then (match evStore ow1 p d' with | some (vs, ow') => some (vs, D.junk, ow') | none => none) else none
        | none => none) = some (vs, d, ow') := by
      split at h
      rename_i d' ow1 heq
      split at heq
      · obtain ⟨M1, h1, h2, h3⟩ := frz_sound dd heq hW (hg _ _ hx)
        exact ⟨M1, d', ow1, h1, h2, h3, h⟩
      · simp at heq; obtain ⟨rfl, rfl⟩ := heq
        exact ⟨M, _, _, Mem.le_refl _, hW, hg _ _ hx, h⟩
    split at h <;> try (simp at h; done)
    rename_i cs hcs
    split at h <;> try (simp at h; done)
    rename_i hlen
    split at h <;> try (simp at h; done)
    rename_i vs' ow'' hst
    simp at h; obtain ⟨rfl, rfl, rfl⟩ := h
    obtain ⟨i, td, hi, hd, he⟩ := tiOf_some (hT _ _ hTt)
    rw [he] at hlen
    obtain ⟨w', r1, r2⟩ := evStore_sound (P := P) (t := t) hi hcs hlen hst hvs hW1 (Rep.mono hle (EnvLe.refl _) _ _ (hg _ _ hp)) hd1
    exact ⟨undef, w', M1, E, .inr ⟨by simp [execOp, r1], rfl⟩, hle, by simp [Rep], r2, EnvLe.refl _⟩
  case h_5 t =>
    split at h <;> try (simp at h; done)
    rename_i k v hTt
    split at h <;> try (simp at h; done)
    rename_i ki hTk
    split at h <;> try (simp at h; done)
    rename_i sh hsh
    simp at h; obtain ⟨rfl, rfl, rfl⟩ := h
    refine ⟨.map (some w.heap.size), w.alloc (.map #[] 0), M, E ++ [.pointer (some ⟨w.heap.size, 0, none⟩)], .inl ?_, Mem.le_refl _, ?_, ?_, EnvLe.append _ _⟩
    · simp [execOp, Instr.makeMap]
    · simp only [Rep]
      exact ⟨w.heap.size, by rw [← hW.len, List.getElem?_append_right (Nat.le_refl _)]; simp, rfl⟩
    · refine hW.allocOwn (.inl rfl) ?_
      simp only [Holds]
      refine ⟨w.heap.size, #[], 0, rfl, heap_alloc_new _ _, ⟨fun k d h => by simp at h, fun k _ e he => by simp at he, fun e he => by simp at he, fun j j' e e' he => by simp at he⟩, hW.fresh, hW.base⟩
  case h_6 t m k x =>
    split at h <;> try (simp at h; done)
    rename_i kt vt i kd dd hTt hm hk hx
    split at h <;> try (simp at h; done)
    rename_i ki kt' vt' sh f key hTk ho hkv
    split at h <;> try (simp at h; done)
    rename_i hc
    obtain ⟨rfl, rfl, hsh, hks⟩ := hc
    simp at h; obtain ⟨rfl, rfl, rfl⟩ := h
    obtain ⟨i1, td, hi1, hd1, he1⟩ := tiOf_some (hT _ _ hTt)
    simp only [TI.mk.injEq] at he1
    obtain rfl := tkOf_map he1.2.2.2.1.symm
    have hmv := hg _ _ hm
    simp only [Rep] at hmv
    obtain ⟨b, hE, hmu⟩ := hmv
    have hH := hW.holds _ _ _ ho hE
    simp only [Holds] at hH
    obtain ⟨b', es, ck, hb', hheap, hmr, hMb, hB⟩ := hH
    simp at hb'; subst hb'
    have hku := kvOf_rep hkv (hg _ _ hk)
    obtain ⟨r, hr1, hr2⟩ := run_findKey (P := P) (w := w) (hT _ _ hTk) hsh hks hmr.keys
    have hck := run_checkKey (P := P) (w := w) (b := false) (n := 9998) (hT _ _ hTk) hsh hks
    have hset : ∀ ob : Obj, (setObj b ob).run P w = .ok () { w with heap := w.heap.setIfInBounds b ob } := fun ob => by simp [setObj, Sem.run, hheap]
    have hgetm : (getObj b).run P w = .ok (.map es ck) w := by simp [getObj, Sem.run, hheap]
    have hbl : b < w.heap.size := lt_of_heap hheap
    have fin : ∀ (es' : Array MapEntry) (ck' : Nat), MapRep M E sh (fun k' => if k' = key then some dd else f k') es'.toList → WRel B w0 M0 M E (setOwn ow i (.map kt' vt' sh fun k' => if k' = key then some dd else f k')) { w with heap := w.heap.setIfInBounds b (.map es' ck') } := by
      intro es' ck' hmr'
      refine hW.update (b := b) ho rfl hE rfl (fun k hk => ?_) (by simp) rfl rfl rfl ?_
      · rw [Array.getElem?_setIfInBounds_ne (fun e => hk e.symm)]
      · simp only [Holds]
        exact ⟨b, es', ck', rfl, by simp [hbl], hmr', hMb, hB⟩
    have same : ∀ v : KV, Instr.sameBits 10000 (kvV v) (kvV v) = true := by
      intro v; exact sameBits_kv v
    cases r with
    | none =>
      refine ⟨undef, { w with heap := w.heap.setIfInBounds b (.map (es.push { key := kvV key, val := ρ x, born := ck }) (ck + 1)) }, M, E, .inr ⟨?_, rfl⟩, Mem.le_refl _, by simp [Rep], fin _ _ ?_, EnvLe.refl _⟩
      · simp [execOp, Instr.mapUpdate, run_underlying' hd1, hmu, hku, hgetm, hck, hr1, hset]
      · simp only [FindOk] at hr2
        refine ⟨fun k d hkd => ?_, fun k hkn e he => ?_, fun e he => ?_, fun j j' e e' he he' hkk => ?_⟩
        · by_cases hkk : k = key
          · subst hkk
            simp at hkd; subst hkd
            exact ⟨es.size, { key := kvV k, val := ρ x, born := ck }, by simp, rfl, hg _ _ hx⟩
          · simp [hkk] at hkd
            obtain ⟨j, e, h1, h2, h3⟩ := hmr.has k d hkd
            exact ⟨j, e, by rw [Array.toList_push, List.getElem?_append_left (get_lt h1)]; exact h1, h2, h3⟩
        · by_cases hkk : k = key
          · subst hkk; simp at hkn
          · simp [hkk] at hkn
            simp at he
            rcases he with he | rfl
            · exact hmr.lacks k hkn e (by simpa using he)
            · exact fun e => hkk (kvV_inj e).symm
        · simp at he
          rcases he with he | rfl
          · exact hmr.keys e (by simpa using he)
          · exact ⟨key, rfl, hks⟩
        · simp only [Array.toList_push] at he he'
          rcases getElem?_append_one he with h1 | ⟨rfl, rfl⟩ <;> rcases getElem?_append_one he' with h2 | ⟨rfl, rfl⟩
          · exact hmr.once _ _ _ _ h1 h2 hkk
          · exact absurd hkk (hr2 e (List.mem_of_getElem? h1))
          · exact absurd hkk.symm (hr2 e' (List.mem_of_getElem? h2))
          · rfl
    | some p =>
      obtain ⟨j0, v0⟩ := p
      simp only [FindOk, Nat.sub_zero] at hr2
      obtain ⟨_, e0, he0, hk0, hv0⟩ := hr2
      have hj0 : es[j0]? = some e0 := by simpa using he0
      refine ⟨undef, { w with heap := w.heap.setIfInBounds b (.map (es.modify j0 fun e => { e with key := kvV key, val := ρ x }) ck) }, M, E, .inr ⟨?_, rfl⟩, Mem.le_refl _, by simp [Rep], fin _ _ ?_, EnvLe.refl _⟩
      · simp [execOp, Instr.mapUpdate, run_underlying' hd1, hmu, hku, hgetm, hck, hr1, hset, Instr.keyThatStays, hj0, hk0, same]
      · have hmod : ∀ (j : Nat) (e : MapEntry), (es.modify j0 fun e => { e with key := kvV key, val := ρ x }).toList[j]? = some e → (j = j0 ∧ e.key = kvV key ∧ e.val = ρ x) ∨ (j ≠ j0 ∧ es.toList[j]? = some e) := by
          intro j e he
          by_cases hj : j = j0
          · subst hj
            left
            rw [Array.getElem?_toList, Array.getElem?_modify, if_pos rfl, hj0] at he
            simp at he
            rw [← he]; exact ⟨rfl, rfl, rfl⟩
          · right
            refine ⟨hj, ?_⟩
            rw [Array.getElem?_toList, Array.getElem?_modify, if_neg (fun e => hj e.symm)] at he
            simpa using he
        have hold : ∀ (j : Nat) (e : MapEntry), j ≠ j0 → es.toList[j]? = some e → (es.modify j0 fun e => { e with key := kvV key, val := ρ x }).toList[j]? = some e := by
          intro j e hj he
          rw [Array.getElem?_toList, Array.getElem?_modify, if_neg (fun e => hj e.symm)]
          simpa using he
        refine ⟨fun k d hkd => ?_, fun k hkn e he => ?_, fun e he => ?_, fun j j' e e' he he' hkk => ?_⟩
        · by_cases hkk : k = key
          · subst hkk
            simp at hkd; subst hkd
            exact ⟨j0, { e0 with key := kvV k, val := ρ x }, by rw [Array.getElem?_toList, Array.getElem?_modify, if_pos rfl, hj0]; rfl, rfl, hg _ _ hx⟩
          · simp [hkk] at hkd
            obtain ⟨j, e, h1, h2, h3⟩ := hmr.has k d hkd
            have : j ≠ j0 := fun e' => by subst e'; rw [he0] at h1; simp at h1; subst h1; rw [hk0] at h2; exact hkk (kvV_inj h2).symm
            exact ⟨j, e, hold j e this h1, h2, h3⟩
        · by_cases hkk : k = key
          · subst hkk; simp at hkn
          · simp [hkk] at hkn
            obtain ⟨j, hj⟩ := List.getElem?_of_mem he
            rcases hmod j e hj with ⟨_, h1, _⟩ | ⟨_, h1⟩
            · rw [h1]; exact fun e => hkk (kvV_inj e).symm
            · exact hmr.lacks k hkn e (List.mem_of_getElem? h1)
        · obtain ⟨j, hj⟩ := List.getElem?_of_mem he
          rcases hmod j e hj with ⟨_, h1, _⟩ | ⟨_, h1⟩
          · exact ⟨key, h1, hks⟩
          · exact hmr.keys e (List.mem_of_getElem? h1)
        · rcases hmod j e he with ⟨rfl, h1, _⟩ | ⟨hne, h1⟩ <;> rcases hmod j' e' he' with ⟨rfl, h2, _⟩ | ⟨hne', h2⟩
          · rfl
          · exact absurd (hmr.once _ _ _ _ he0 h2 (by rw [hk0, ← h1, hkk])) (fun e => hne' e.symm)
          · exact absurd (hmr.once _ _ _ _ h1 he0 (by rw [hkk, h2, hk0])) hne
          · exact hmr.once _ _ _ _ h1 h2 hkk
  case h_7 t x lo hi =>
    split at h <;> try (simp at h; done)
    rename_i e s by' i l hh hTt hx hl hhh
    split at h <;> try (simp at h; done)
    rename_i sz n f ow1 heq
    split at h <;> try (simp at h; done)
    rename_i hsz
    split at h <;> try (simp at h; done)
    rename_i vs' d' hev
    simp at h; obtain ⟨rfl, rfl, rfl⟩ := h
    obtain ⟨M1, hle, hW1, hr1⟩ := frz_sound (.row i) heq hW (hg _ _ hx)
    obtain ⟨ii, td, hii, hd, he⟩ := tiOf_some (hT _ _ hTt)
    simp only [TI.mk.injEq] at he
    obtain ⟨rfl, ei, hei, rfl, rfl⟩ := tkOf_slice he.2.2.2.1.symm
    subst hsz
    obtain ⟨z, h1, h2⟩ := evSliceL_sound (P := P) (w := w) (M := M1) (E := E) hd hei (fun _ _ _ e => by simp at e; exact e.1.symm) hev hvs hr1 (getO_rep (fun x d hx => Rep.mono hle (EnvLe.refl _) _ _ (hg x d hx)) hl) (getO_rep (fun x d hx => Rep.mono hle (EnvLe.refl _) _ _ (hg x d hx)) hhh)
    exact ⟨z, w, M1, E, .inl (by simp [execOp, h1]), hle, h2, hW1, EnvLe.refl _⟩
  case h_8 p n pt it =>
    split at h
    · rename_i hp hn
      simp at h; obtain ⟨rfl, rfl, rfl⟩ := h
      have h1 := hg _ _ hp
      have h2 := hg _ _ hn
      simp only [Rep] at h1 h2
      refine ⟨_, w, M, E, .inl ?_, Mem.le_refl _, Rep.val _, hW, EnvLe.refl _⟩
      simp [execOp, resolve, invoke, builtin, h1, h2, Lib.run_unsafeString_none]
      rfl
    · rename_i i m hp hn
      split at h <;> try (simp at h; done)
      rename_i e s ho
      split at h <;> try (simp at h; done)
      rename_i e' mo hTp
      split at h <;> try (simp at h; done)
      rename_i hee
      subst hee
      split at h <;> try (simp at h; done)
      rename_i hTe
      simp at h; obtain ⟨rfl, rfl, rfl⟩ := h
      simp only [AllP, and_true] at hvs; subst hvs
      have h1 := hg _ _ hp
      have h2 := hg _ _ hn
      simp only [Rep] at h1 h2
      obtain ⟨a, nn, c, q, hE, hpu, hq1, hq2⟩ := h1
      have hH := hW.holds _ _ _ ho hE
      simp only [Holds] at hH
      obtain ⟨⟨xs, hown, hrep, hMg⟩, hcap⟩ := hH
      obtain ⟨i1, td1, hi1, hd1, he1⟩ := tiOf_some (hT _ _ hTp)
      simp only [TI.mk.injEq] at he1
      obtain rfl := tkOf_ptr he1.2.2.2.1.symm
      obtain ⟨i2, td2, hi2, hd2, he2⟩ := tiOf_some (hT _ _ hTe)
      simp only [TI.mk.injEq] at he2
      have hss : s.size = s.data.toList.length := rfl
      have hs : (⟨⟨s.data.toList⟩⟩ : ByteArray) = s := rfl
      by_cases h0 : s.size = 0
      · refine ⟨.string s, w, M, E, .inl ?_, Mem.le_refl _, Rep.val _, hW.drop i, EnvLe.refl _⟩
        have hse : s = .empty := by
          rw [← hs]
          have : s.data.toList = [] := by rw [hss] at h0; exact List.length_eq_zero_iff.1 h0
          rw [this]; rfl
        have := Lib.run_unsafeString_none (P := P) w pt it ty q
        rw [h0] at h2
        simp at h2
        simp [execOp, resolve, invoke, builtin, hpu, h2]
        rw [this, hse]; rfl
      · rcases hown.2 with ⟨hv, hz⟩ | ⟨g', cap, cur, hv, hB, hg', hnc, hcm, hcs, htake⟩
        · exact absurd hz h0
        · simp at hv; obtain ⟨rfl, rfl, rfl⟩ := hv
          have hq := hq2 _ rfl (hcap _ _ _ rfl)
          subst hq
          have hsz1 : P.cellsOf e' = 1 := by simp [Program.cellsOf, hi2]; omega
          have hcell : ∀ (j : Nat) (x : UInt8), s.data.toList[j]? = some x → w.cell? ((⟨g', 0, none⟩ : Addr).add j) = some (.int .u8 x.toNat) := by
            intro j x hj
            have hjl := get_lt hj
            obtain ⟨y, y1, _, y3⟩ := hrep j (by omega) 0 (by omega)
            simp only [bytesF, Rep] at y3
            rw [add_own, Nat.zero_add, cell_of_row w g' j cur e' (0, 0) hg', ← Array.getElem?_toList]
            have y1' : xs[j]? = some y := by simpa using y1
            rw [← htake, List.getElem?_take_of_lt (by omega)] at y1'
            rw [y1', y3, bAt, hj]
            rfl
          have hrun := Lib.run_unsafeString_row (P := P) w pt it ty e' hd1 hsz1 g' cur.size (by simp [World.shape?, hg']) s.data.toList (fun e => h0 (by rw [hss, e]; rfl)) (by rw [hcs]; omega) (by rw [← hss]; simp only [maxLen] at hcm; omega) hcell
          obtain ⟨f1, f2, f3, f4, f5⟩ := freeze_heap w ⟨g', 0, none⟩ s.data.toList.length
          refine ⟨.string s, w.freeze ⟨g', 0, none⟩ s.data.toList.length, M, E, .inl ?_, Mem.le_refl _, Rep.val _, hW.endIn (b := g') ho rfl hE rfl f1 f2 f3 f4 f5, EnvLe.refl _⟩
          rw [hss] at h2
          simp [execOp, resolve, invoke, builtin, hpu, h2]
          simp at hrun
          rw [hrun]; rfl
    · simp at h
  case h_9 t x =>
    split at h <;> try (simp at h; done)
    rename_i mo s hTt hx
    simp at h; obtain ⟨rfl, rfl, rfl⟩ := h
    obtain ⟨i1, td, hi1, hd1, he1⟩ := tiOf_some (hT _ _ hTt)
    simp only [TI.mk.injEq] at he1
    obtain rfl := tkOf_str he1.2.2.2.1.symm
    have hxs := hg _ _ hx
    simp only [Rep] at hxs
    refine ⟨.pointer (some ⟨w.heap.size, 0, none⟩), w.alloc (.stringIter s 0), M, E ++ [.pointer (some ⟨w.heap.size, 0, none⟩)], .inl ?_, Mem.le_refl _, ?_, ?_, EnvLe.append _ _⟩
    · simp [execOp, Instr.range, run_underlying' hd1, hxs]
    · simp only [Rep]
      exact ⟨w.heap.size, by rw [← hW.len, List.getElem?_append_right (Nat.le_refl _)]; simp, rfl⟩
    · refine hW.allocOwn (.inl rfl) ?_
      simp only [Holds]
      exact ⟨w.heap.size, rfl, heap_alloc_new _ _, hW.fresh, hW.base⟩
  case h_10 x =>
    split at h <;> try (simp at h; done)
    rename_i i hx
    split at h <;> try (simp at h; done)
    rename_i s pos ho
    have hxs := hg _ _ hx
    simp only [Rep] at hxs
    obtain ⟨b, hE, hxs⟩ := hxs
    have hH := hW.holds _ _ _ ho hE
    simp only [Holds] at hH
    obtain ⟨b', hb', hheap, hMb, hB⟩ := hH
    simp at hb'; subst hb'
    have hget : (getObj b).run P w = .ok (.stringIter s pos) w := by simp [getObj, Sem.run, hheap]
    have hbl : b < w.heap.size := lt_of_heap hheap
    split at h
    · rename_i hlt
      simp at h; obtain ⟨rfl, rfl, rfl⟩ := h
      have hset : ∀ ob : Obj, (setObj b ob).run P w = .ok () { w with heap := w.heap.setIfInBounds b ob } := fun ob => by simp [setObj, Sem.run, hheap]
      refine ⟨.tuple #[.bool true, .int .i64 pos, .int .i32 (Utf8.decode s pos).1], { w with heap := w.heap.setIfInBounds b (.stringIter s (pos + (Utf8.decode s pos).2)) }, M, E, .inl ?_, Mem.le_refl _, ?_, ?_, EnvLe.refl _⟩
      · simp [execOp, Instr.next, hxs, hget, hlt, hset, goInt]
      · simp only [Rep]
        exact ⟨_, rfl, RepL.cons (Rep.val _) (RepL.cons (Rep.val _) (RepL.cons (Rep.val _) RepL.nil))⟩
      · refine hW.update (b := b) ho rfl hE rfl (fun k hk => ?_) (by simp) rfl rfl rfl ?_
        · rw [Array.getElem?_setIfInBounds_ne (fun e => hk e.symm)]
        · simp only [Holds]
          exact ⟨b, rfl, by simp [hbl], hMb, hB⟩
    · rename_i hlt
      simp at h; obtain ⟨rfl, rfl, rfl⟩ := h
      refine ⟨.tuple #[.bool false], w, M, E, .inl ?_, Mem.le_refl _, ?_, hW, EnvLe.refl _⟩
      · simp [execOp, Instr.next, hxs, hget, hlt]
      · simp only [Rep]
        exact ⟨_, rfl, RepL.cons (Rep.val _) RepL.nil⟩
  case h_11 t l c =>
    split at h <;> try (simp at h; done)
    rename_i e esz by' mo k1 n1 k2 n2 hTt hl hc
    split at h <;> try (simp at h; done)
    rename_i sz0 ag z kk fl hTe
    split at h <;> try (simp at h; done)
    rename_i hcond
    obtain ⟨hzl, hpos, hs0, hone⟩ := hcond
    simp only [Option.some.injEq, Prod.mk.injEq] at h; obtain ⟨rfl, rfl, rfl⟩ := h
    simp only [AllP, and_true] at hvs
    obtain ⟨h0, rfl, hcells, hbytes⟩ := hvs
    obtain ⟨i1, td, hi1, hd1, he1⟩ := tiOf_some (hT _ _ hTt)
    simp only [TI.mk.injEq] at he1
    obtain ⟨rfl, ei, hei, rfl, rfl⟩ := tkOf_slice he1.2.2.2.1.symm
    obtain ⟨i2, td2, hi2, hd2, he2⟩ := tiOf_some (hT _ _ hTe)
    simp only [TI.mk.injEq] at he2
    rw [hei] at hi2; simp at hi2; subst hi2
    obtain ⟨zv, hzv, hzc⟩ := Option.map_eq_some_iff.1 he2.2.2.1.symm
    have hzs : zv.cells.size = ei.size := by rw [← hzl, ← hzc]; simp
    have hxl := hg _ _ hl
    have hxc := hg _ _ hc
    simp only [Rep] at hxl hxc
    obtain ⟨n, rfl⟩ : ∃ n : Nat, n1 = (n : Int) := ⟨n1.toNat, by omega⟩
    simp only [Int.toNat_natCast] at hcells hbytes
    have hn63 : n ≤ 16777216 := Nat.le_trans (Nat.le_mul_of_pos_right n hpos) hcells
    have hb' : (ei.bytes : Int) * (n : Int) ≤ 281474976710656 := by
      have : ((ei.bytes * n : Nat) : Int) ≤ 281474976710656 := by omega
      rwa [Int.natCast_mul] at this
    have hrun := run_makeSlice (P := P) w t e ei zv hd1 hei hzv k1 k2 n n (by omega) (Int.le_refl _) (by simpa using hcells) hb' (by omega)
    simp only [Int.toNat_natCast] at hrun
    refine ⟨.slice (some ⟨w.heap.size, 0, none⟩) n n, w.alloc (.cells (madeCells zv.cells (n * ei.size)) e), M, E ++ [.slice (some ⟨w.heap.size, 0, none⟩) n n], .inl ?_, Mem.le_refl _, ?_, ?_, EnvLe.append _ _⟩
    · simp [execOp, hxl, hxc, hrun]
    · simp only [Rep]
      rw [← hW.len, List.getElem?_append_right (Nat.le_refl _)]; simp
    · refine hW.allocOwn (.inl rfl) ?_
      simp only [Holds, HoldsRow, Int.toNat_natCast]
      refine ⟨_, World.ownsRow_lit w _ n hW.base (by simp only [maxLen]; omega) (size_madeCells _ _), fun a ha j hj => ?_, fun g hgb => ?_⟩
      · refine ⟨z.getD j undef, ?_, ?_, Rep.val _⟩
        · have hlt : a * ei.size + j < n * ei.size := by
            have : (a + 1) * ei.size ≤ n * ei.size := Nat.mul_le_mul_right _ ha
            rw [Nat.succ_mul] at this; omega
          have hm : (a * ei.size + j) % ei.size = j := by rw [Nat.mul_comm, Nat.mul_add_mod]; exact Nat.mod_eq_of_lt hj
          have hjz : j < zv.cells.size := by rw [hzs]; exact hj
          rw [Array.getElem?_toList]
          simp only [madeCells, Array.getElem?_map, hzs]
          rw [Array.getElem?_eq_getElem (by simpa using hlt)]
          simp only [Option.map_some, Array.getElem_range, hm, ← hzc]
          rw [List.getD_eq_getElem?_getD, Array.getElem?_toList, Array.getElem?_eq_getElem hjz]
          simp [hjz]
        · have hjz : j < z.length := by rw [hzl]; exact hj
          rw [List.all_eq_true] at hone
          have := hone z[j] (List.getElem_mem _)
          rw [List.getD_eq_getElem?_getD, List.getElem?_eq_getElem hjz]
          simpa using this
      · simp [Value.ownBlock] at hgb; subst hgb
        exact hW.fresh
  case h_12 => simp at h
end
end Go.Sx
