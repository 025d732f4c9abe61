import Derived.Test.YtnccclpjcidmeaaGreatDoorSxG
namespace Go.Sx
open Go Go.RowKit

section
variable {P : Program} {T : TT} {B : Nat} {w0 w : World} {M0 M : Mem} {E : List Value} {ow : List Own}

theorem fill_sound (hW : WRel B w0 M0 M E ow w) {fs place : Nat → Option (Nat × Nat)} (hfs : ∀ i, place i = fs i) {parts : List (Nat × D)} {vparts : List (Nat × Value)} (hP : RepP M E parts vparts) : ∀ {cells cells' : List D} {us : Array Value},
    fillD fs cells parts = some cells' → RepL M E cells us.toList → ∃ us', Instr.fill place us vparts = some us' ∧ RepL M E cells' us'.toList := by
  induction hP with
  | nil => intro cells cells' us h hc; simp [fillD] at h; subst h; exact ⟨us, by simp [Instr.fill], hc⟩
  | @cons i d u ds vs hu hr ih =>
    intro cells cells' us h hc
    simp only [fillD] at h
    split at h
    · rename_i off size cs h1 h2
      split at h
      · rename_i hlen
        split at h
        · rename_i c' h3
          have hcs := cellsD_rep hW h2 hu
          obtain ⟨us', h4, h5⟩ := RepL.splice hc hcs h3
          obtain ⟨s1, s2, s3, s4⟩ := splice_spec h4
          have hf := foldl_splice off u.cells.toList 0 us us' (by simpa using h4)
          have hl : u.cells.size = size := by have := hcs.length; simp at this; omega
          simp only [Instr.fill, hfs, h1]
          have hcond : (decide (u.cells.size ≠ size) || decide (off + u.cells.size > us.size)) = false := by
            simp at s2 ⊢
            exact ⟨hl, by omega⟩
          rw [if_neg (by simpa using hcond)]
          have hfa : (u.cells.zipIdx.foldl (fun cs (x : Value × Nat) => cs.setIfInBounds (off + x.2) x.1) us).toList = us' := by
            rw [← hf, ← Array.foldl_toList, Array.toList_zipIdx]
          exact ih h (by rw [hfa]; exact h5)
        · simp at h
      · simp at h
    · simp at h

theorem run_mapM_sizes {w : World} : ∀ (F : List Field), (∀ f ∈ F, (P.info? f.type).isSome = true) →
    (F.mapM (m := Sem) fun f => do pure (f.offset, ← sizeOf f.type)).run P w = .ok (F.map fun f => (f.offset, P.cellsOf f.type)) w
  | [], _ => by simp
  | f :: F, h => by
    obtain ⟨i, hi⟩ := Option.isSome_iff_exists.1 (h f (by simp))
    have ih := run_mapM_sizes F (fun g hg => h g (by simp [hg])) (w := w)
    simp [List.mapM_cons, run_sizeOf' hi, Program.cellsOf, hi] at ih ⊢
    simp [ih]

theorem run_build {t : TypeId} {F : Array Field} {i : TypeInfo} {z : Value} {ps : Array (Nat × Value)} {us : Array Value} (ht : P.underlying t = some (.struct F)) (hi : P.info? t = some i) (hz : i.zero = some z) (hall : ∀ f ∈ F.toList, (P.info? f.type).isSome = true)
    (hf : Instr.fill (fun (k : Nat) => (F.toList.map fun f => (f.offset, P.cellsOf f.type))[k]?) z.cells ps.toList = some us) : (Instr.build t ps).run P w = .ok (.agg us) w := by
  have hm := run_mapM_sizes (P := P) (w := w) F.toList hall
  have hm2 : (F.mapM (m := Sem) fun f => do pure (f.offset, ← sizeOf f.type)).run P w = .ok (F.toList.map fun f => (f.offset, P.cellsOf f.type)).toArray w := by
    rw [Array.mapM_eq_mapM_toList, Sem.run_map, hm]
    rfl
  simp only [Instr.build, Sem.run_bind, run_zeroValue' hi hz, run_underlying' ht, Result.andThen_ok]
  rw [hm2]
  have hpl : (fun (x : Nat) => (F.toList.map fun f => (f.offset, P.cellsOf f.type)).toArray[x]?) = fun (k : Nat) => (F.toList.map fun f => (f.offset, P.cellsOf f.type))[k]? := by
    funext k; simp
  simp only [Result.andThen_ok, hpl, hf, Sem.run_pure]

theorem run_build_array {t e : TypeId} {n : Nat} {i ei : TypeInfo} {z : Value} {ps : Array (Nat × Value)} {us : Array Value} (ht : P.underlying t = some (.array n e)) (hi : P.info? t = some i) (hei : P.info? e = some ei) (hz : i.zero = some z)
    (hf : Instr.fill (fun (k : Nat) => some (k * ei.size, ei.size)) z.cells ps.toList = some us) : (Instr.build t ps).run P w = .ok (.agg us) w := by
  simp only [Instr.build, Sem.run_bind, run_zeroValue' hi hz, run_underlying' ht, run_sizeOf' hei, Result.andThen_ok, hf, Sem.run_pure]

theorem getO_rep {g : Gets} {ρ : Operand → Value} (hg : ∀ x d, g x = some d → Rep M E d (ρ x)) {o : Option Operand} {od : Option D} (ho : getO g o = some od) : OptRep M E od (o.map ρ) := by
  cases o with
  | none => simp [getO] at ho; exact .inl ⟨ho.symm, rfl⟩
  | some y =>
    simp only [getO] at ho
    split at ho
    · rename_i dy hy
      simp at ho; exact .inr ⟨dy, ρ y, ho.symm, rfl, hg _ _ hy⟩
    · simp at ho

/-- Operations that only compute and look. -/
theorem evPure_sound (hT : TOk P T) {op : Op} {g : Gets} {ρ : Operand → Value} {vs : List DP} {d : D} (h : evPure T op g ow = some (vs, d)) (hvs : AllP vs) (hg : ∀ x d, g x = some d → Rep M E d (ρ x)) (hW : WRel B w0 M0 M E ow w)
    (dst : Option Tmp) (ty : TypeId) (pos : String) (after : Array Edge) (guard : Option (Nat × Bool)) : ∃ u, (execOp ρ ⟨dst, op, ty, pos, after, guard⟩).run P w = .ok (.value u) w ∧ Rep M E d u := by
  unfold evPure at h
  split at h
  case h_1 x =>
    split at h
    · rename_i d' hx; simp at h; obtain ⟨rfl, rfl⟩ := h; exact ⟨_, by simp [execOp], hg _ _ hx⟩
    · simp at h
  case h_2 x =>
    split at h
    · rename_i d' hx; simp at h; obtain ⟨rfl, rfl⟩ := h; exact ⟨_, by simp [execOp], hg _ _ hx⟩
    · simp at h
  case h_3 t ps =>
    split at h <;> try (simp at h; done)
    rename_i z k ds hTt hps
    split at h <;> try (simp at h; done)
    rename_i fs hpl
    split at h <;> try (simp at h; done)
    rename_i cs hfill
    simp at h; obtain ⟨rfl, rfl⟩ := h
    obtain ⟨i, td, hi, hd, he⟩ := tiOf_some (hT _ _ hTt)
    simp only [TI.mk.injEq] at he
    obtain ⟨_, _, hz, hk, _⟩ := he
    obtain ⟨zv, hzv, hzc⟩ := Option.map_eq_some_iff.1 hz.symm
    have hP := getParts_rep hg hps
    unfold placeOf at hpl
    split at hpl
    · rename_i fs'
      simp only [Option.some.injEq] at hpl; subst hpl
      obtain ⟨F, rfl, rfl, hall⟩ := tkOf_struct hk.symm
      obtain ⟨us', h1, h2⟩ := fill_sound hW (place := fun (k : Nat) => (F.toList.map fun f => (f.offset, P.cellsOf f.type))[k]?) (fun _ => rfl) hP hfill (us := zv.cells) (by rw [hzc]; exact RepL.vals _)
      refine ⟨.agg us', ?_, by simp only [Rep]; exact ⟨us', rfl, h2⟩⟩
      have := run_build (w := w) (ps := ps.map fun p => (p.1, ρ p.2)) hd hi hzv hall (by simpa using h1)
      simp [execOp, this]
    · rename_i len esz
      simp only [Option.some.injEq] at hpl; subst hpl
      obtain ⟨e, ei, rfl, hei, rfl⟩ := tkOf_array hk.symm
      obtain ⟨us', h1, h2⟩ := fill_sound hW (place := fun (k : Nat) => some (k * ei.size, ei.size)) (fun _ => rfl) hP hfill (us := zv.cells) (by rw [hzc]; exact RepL.vals _)
      refine ⟨.agg us', ?_, by simp only [Rep]; exact ⟨us', rfl, h2⟩⟩
      have := run_build_array (w := w) (ps := ps.map fun p => (p.1, ρ p.2)) hd hi hei hzv (by simpa using h1)
      simp [execOp, this]
    · simp at hpl
  case h_4 t a =>
    split at h
    · rename_i ti p hTt hp
      obtain ⟨x, h1, h2⟩ := evLoad_sound (hT _ _ hTt) h hvs hW (hg _ _ hp)
      exact ⟨x, by simp [execOp, h1], h2⟩
    · simp at h
  case h_5 x =>
    split at h
    · rename_i i o hx
      simp at h; obtain ⟨rfl, rfl⟩ := h
      have := hg _ _ hx
      have h' := this
      simp only [Rep] at this
      obtain ⟨b, hb, hu⟩ := this
      exact ⟨ρ x, by simp [execOp, hu], h'⟩
    · rename_i m f hx
      simp at h; obtain ⟨rfl, rfl⟩ := h
      have := hg _ _ hx
      have h' := this
      simp only [Rep] at this
      obtain ⟨b, hu, _⟩ := this
      exact ⟨ρ x, by simp [execOp, hu], h'⟩
    · rename_i i s a o hx
      simp at h; obtain ⟨rfl, rfl⟩ := h
      have := hg _ _ hx
      have h' := this
      simp only [Rep] at this
      obtain ⟨hv, b, _, _, hu⟩ := this
      exact ⟨ρ x, by simp [execOp, hu], h'⟩
    · rename_i f l hx
      simp at h; obtain ⟨rfl, rfl⟩ := h
      have := hg _ _ hx
      have h' := this
      simp only [Rep] at this
      obtain ⟨us, hu, _⟩ := this
      exact ⟨ρ x, by simp [execOp, hu], h'⟩
    · rename_i i hx
      simp at h; obtain ⟨rfl, rfl⟩ := h
      have := hg _ _ hx
      have h' := this
      simp only [Rep] at this
      obtain ⟨us, _, hu⟩ := this
      exact ⟨ρ x, by simp [execOp, hu], h'⟩
    · rename_i t dd hx
      simp at h; obtain ⟨rfl, rfl⟩ := h
      have := hg _ _ hx
      have h' := this
      simp only [Rep] at this
      obtain ⟨us, hu, _⟩ := this
      exact ⟨ρ x, by simp [execOp, hu], h'⟩
    · simp at h
  case h_6 b t x y t2 =>
    split at h
    · rename_i l r hx hy
      split at h
      · rename_i ti hTt
        obtain ⟨z, h1, h2⟩ := evEqS_sound (P := P) (w := w) (t := t) (xo := x) (yo := y) (hT _ _ hTt) h (hg _ _ hx) (hg _ _ hy)
        refine ⟨z, ?_, h2⟩
        simp only [execOp]
        rw [Sem.run_bind, h1]
        rfl
      · simp at h
    · rename_i a c hx hy
      obtain ⟨z, h1, h2⟩ := evBin_sound (P := P) (w := w) (t := t) (xo := x) (yo := y) hT h hvs (hg _ _ hx) (hg _ _ hy)
      refine ⟨z, ?_, h2⟩
      simp only [execOp]
      rw [Sem.run_bind, h1]
      rfl
    · simp at h
  case h_7 u t x =>
    split at h
    · rename_i a hx
      obtain ⟨z, h1, h2⟩ := evUn_sound (P := P) (w := w) h hvs (hg _ _ hx)
      exact ⟨z, by simp [execOp, h1], h2⟩
    · simp at h
  case h_8 t x k =>
    split at h
    · rename_i sz ag z fs p hTt hp
      split at h
      · rename_i dd hf
        simp at h; obtain ⟨rfl, rfl⟩ := h
        obtain ⟨y, h1, h2⟩ := evField_sound (w := w) (hT _ _ hTt) rfl hf (hg _ _ hp)
        exact ⟨y, by simp [execOp, h1], h2⟩
      · simp at h
    · simp at h
  case h_9 t x k =>
    split at h
    · rename_i ti p hTt hp
      split at h
      · rename_i dd hf
        simp at h; obtain ⟨rfl, rfl⟩ := h
        obtain ⟨y, h1, h2⟩ := evFieldV_sound (w := w) (hT _ _ hTt) hf (hg _ _ hp)
        exact ⟨y, by simp [execOp, h1], h2⟩
      · simp at h
    · simp at h
  case h_10 t x i =>
    split at h
    · rename_i sz ag z tk a c hTt hx hi
      obtain ⟨y, h1, h2⟩ := evIndexAddr_sound (hT _ _ hTt) h hvs hW (hg _ _ hx) (hg _ _ hi)
      exact ⟨y, by simp [execOp, h1], h2⟩
    · simp at h
  case h_11 t x i =>
    split at h
    · rename_i ti a c hTt hx hi
      obtain ⟨y, h1, h2⟩ := evIndexV_sound (w := w) (hT _ _ hTt) h hvs (hg _ _ hx) (hg _ _ hi)
      exact ⟨y, by simp [execOp, h1], h2⟩
    · simp at h
  case h_12 x i =>
    split at h
    · rename_i l hx
      split at h
      · rename_i dd hl
        simp at h; obtain ⟨rfl, rfl⟩ := h
        have := hg _ _ hx
        simp only [Rep] at this
        obtain ⟨us, hu, hrl⟩ := this
        obtain ⟨y, h1, h2⟩ := RepL.get hrl hl
        have h3 : us[i]? = some y := by simpa using h1
        exact ⟨y, by simp [execOp, Instr.extract, hu, h3], h2⟩
      · simp at h
    · simp at h
  case h_13 ta tb x =>
    split at h
    · rename_i s1 a1 z1 ka s2 a2 z2 kb dd hTa hTb hx
      split at h
      · rename_i d' hc
        simp at h; obtain ⟨rfl, rfl⟩ := h
        obtain ⟨z, h1, h2⟩ := evConv_sound (P := P) (w := w) hT (hT _ _ hTa) (hT _ _ hTb) hc hW (hg _ _ hx)
        exact ⟨z, by simp [execOp, h1], h2⟩
      · simp at h
    · simp at h
  case h_14 t x lo hi =>
    split at h
    · rename_i s l hh hTt hx hl hhh
      obtain ⟨ii, td, hii, hd, he⟩ := tiOf_some (hT _ _ hTt)
      simp only [TI.mk.injEq] at he
      obtain rfl := tkOf_str he.2.2.2.1.symm
      have hxs := hg _ _ hx
      simp only [Rep] at hxs
      obtain ⟨z, h1, h2⟩ := evSliceS_sound (P := P) (w := w) (M := M) (E := E) hd h hvs (getO_rep hg hl) (getO_rep hg hhh)
      exact ⟨z, by simp [execOp, hxs, h1], h2⟩
    · rename_i e s by' sz n f l hh hTt hx hl hhh
      split at h <;> try (simp at h; done)
      rename_i hsz
      obtain ⟨ii, td, hii, hd, he⟩ := tiOf_some (hT _ _ hTt)
      simp only [TI.mk.injEq] at he
      obtain ⟨rfl, ei, hei, rfl, rfl⟩ := tkOf_slice he.2.2.2.1.symm
      subst hsz
      obtain ⟨z, h1, h2⟩ := evSliceL_sound (P := P) (w := w) (M := M) (E := E) hd hei (fun _ _ _ e => by simp at e; exact e.1.symm) h hvs (hg _ _ hx) (getO_rep hg hl) (getO_rep hg hhh)
      exact ⟨z, by simp [execOp, h1], h2⟩
    · rename_i e s by' y l hh hTt hx hl hhh
      obtain ⟨ii, td, hii, hd, he⟩ := tiOf_some (hT _ _ hTt)
      simp only [TI.mk.injEq] at he
      obtain ⟨rfl, ei, hei, rfl, rfl⟩ := tkOf_slice he.2.2.2.1.symm
      obtain ⟨z, h1, h2⟩ := evSliceL_sound (P := P) (w := w) (M := M) (E := E) hd hei (fun _ _ _ e => by simp at e) h hvs (hg _ _ hx) (getO_rep hg hl) (getO_rep hg hhh)
      exact ⟨z, by simp [execOp, h1], h2⟩
    · rename_i len i off l hh hTt hx hl hhh
      obtain ⟨ii, td, hii, hd, he⟩ := tiOf_some (hT _ _ hTt)
      simp only [TI.mk.injEq] at he
      obtain ⟨e, ei, rfl, hei, h1s⟩ := tkOf_array he.2.2.2.1.symm
      obtain ⟨z, h1, h2⟩ := evSliceA_sound (P := P) (w := w) (M := M) (E := E) hd hei h1s.symm h hvs (hg _ _ hx) (getO_rep hg hl) (getO_rep hg hhh)
      exact ⟨z, by simp [execOp, h1], h2⟩
    · simp at h
  case h_15 t x =>
    split at h
    · rename_i s1 a1 z1 k fl1 dd hTt hx
      have hne : ∀ ms, P.underlying t ≠ some (.interface ms) := by
        intro ms hms
        obtain ⟨ii, td, hii, hd, he⟩ := tiOf_some (hT _ _ hTt)
        simp only [TI.mk.injEq] at he
        rw [hms] at hd; simp at hd; subst hd
        have : k = .iface := he.2.2.2.1
        subst this
        simp at h
      have hsome : some (([] : List DP), D.ifc t dd) = some (vs, d) := by
        split at h
        · simp at h
        · exact h
      simp at hsome; obtain ⟨rfl, rfl⟩ := hsome
      obtain ⟨ii, td, hii, hd, he⟩ := tiOf_some (hT _ _ hTt)
      refine ⟨.iface t (ρ x), ?_, by simp only [Rep]; exact ⟨_, rfl, hg _ _ hx⟩⟩
      have : (Instr.makeInterface t (ρ x)).run P w = .ok (.iface t (ρ x)) w := by
        simp only [Instr.makeInterface, Sem.run_bind, run_underlying' hd, Result.andThen_ok]
        cases td <;> first | rfl | exact absurd hd (hne _)
      simp [execOp, this]
    · simp at h
  case h_16 f caps =>
    split at h
    · rename_i ds hds
      simp at h; obtain ⟨rfl, rfl⟩ := h
      have := gets_rep hg hds
      exact ⟨_, by simp [execOp, Instr.makeFunc]; rfl, by simp only [Rep]; exact ⟨_, rfl, by simpa using this⟩⟩
    · simp at h
  case h_17 x y _ =>
    split at h
    · rename_i a b hx hy
      simp at h; obtain ⟨rfl, rfl⟩ := h
      have h1 := hg _ _ hx
      have h2 := hg _ _ hy
      simp only [Rep] at h1 h2
      refine ⟨.int .i64 (min a b), ?_, Rep.val _⟩
      have : (if b < a then b else a) = min a b := by omega
      simp [execOp, resolve, invoke, builtin, h1, h2, Builtin.min_, Builtin.min2, this]
    · simp at h
  case h_18 x y _ =>
    split at h
    · rename_i a b hx hy
      simp at h; obtain ⟨rfl, rfl⟩ := h
      have h1 := hg _ _ hx
      have h2 := hg _ _ hy
      simp only [Rep] at h1 h2
      refine ⟨.int .i64 (max a b), ?_, Rep.val _⟩
      have : (if a < b then b else a) = max a b := by omega
      simp [execOp, resolve, invoke, builtin, h1, h2, Builtin.max_, Builtin.max2, this]
    · simp at h
  case h_19 x t =>
    split at h
    · rename_i sz ag z tk a hTt hx
      split at h
      · rename_i dd hl
        simp at h; obtain ⟨rfl, rfl⟩ := h
        obtain ⟨y, h1, h2⟩ := evLen_sound (ty := ty) (hT _ _ hTt) hl hW (hg _ _ hx)
        refine ⟨y, ?_, h2⟩
        simp [execOp, resolve, invoke, builtin, h1]
      · simp at h
    · simp at h
  case h_20 x t =>
    split at h
    · rename_i e s by' hTt hx
      simp at h; obtain ⟨rfl, rfl⟩ := h
      obtain ⟨ii, td, hii, hd, he⟩ := tiOf_some (hT _ _ hTt)
      simp only [TI.mk.injEq] at he
      obtain ⟨rfl, ei, hei, rfl, rfl⟩ := tkOf_slice he.2.2.2.1.symm
      have h1 := hg _ _ hx
      simp only [Rep] at h1
      refine ⟨.int .i64 0, ?_, Rep.val _⟩
      simp [execOp, resolve, invoke, builtin, h1, Builtin.cap_, run_underlying' hd, goInt]
    · simp at h
  case h_21 => simp at h

theorem nilCmp_sound (hT : TOk P T) {op : Op} {g : Gets} {ρ : Operand → Value} {n : Nat} {neg : Bool} (h : nilCmp T op g ow = some (n, neg)) (hg : ∀ x d, g x = some d → Rep M E d (ρ x)) (hW : WRel B w0 M0 M E ow w) (dst : Option Tmp) (ty : TypeId) (pos : String) (after : Array Edge) (guard : Option (Nat × Bool)) :
    ∃ q : Bool, (q = true → n = 0) ∧ (execOp ρ ⟨dst, op, ty, pos, after, guard⟩).run P w = .ok (.value (.bool (xor q neg))) w := by
  unfold nilCmp at h
  split at h <;> try (simp at h; done)
  rename_i b t x y oo
  split at h <;> try (simp at h; done)
  rename_i e s by' mo d hTt hx hy
  obtain ⟨i1, td, hi1, hd, he⟩ := tiOf_some (hT _ _ hTt)
  simp only [TI.mk.injEq] at he
  obtain ⟨rfl, ei, hei, rfl, rfl⟩ := tkOf_slice he.2.2.2.1.symm
  have h1 := hg _ _ hx
  have h2 := hg _ _ hy
  simp only [Rep] at h2
  have key : ∀ n', (match d with | .sl _ n _ => some n | .row i => (match ow[i]? with | some o => (match rowOf o with | some (_, _, n, _) => some n | none => none) | none => none) | _ => none) = some n' → ∃ a c, ρ x = .slice a n' c ∧ (a = none → n' = 0) := by
    intro n' hn
    split at hn
    · simp only [Option.some.injEq] at hn; rw [hn] at h1
      simp only [Rep] at h1
      obtain ⟨a, c, h3, _, h4⟩ := h1
      refine ⟨a, c, h3, fun h5 => ?_⟩
      rcases Nat.eq_zero_or_pos n' with h0 | h0
      · exact h0
      · obtain ⟨ad, h6, _⟩ := h4 h0
        rw [h5] at h6; simp at h6
    · split at hn <;> try (simp at hn; done)
      rename_i o ho
      split at hn <;> try (simp at hn; done)
      rename_i hro
      simp at hn; subst hn
      simp only [Rep] at h1
      obtain ⟨xs, hown, _⟩ := (hW.holds _ _ _ ho h1).toRow hro
      rcases hown.2 with ⟨h3, h4⟩ | ⟨g0, cap, cur, h3, _⟩
      · exact ⟨none, 0, by rw [h3, h4], fun _ => h4⟩
      · exact ⟨_, _, h3, fun h5 => by simp at h5⟩
    · simp at hn
  have run0 : ∀ (d : Nat) (a : Option Addr) (n' c : Nat), (Op.equalIn (d + 1) t (.slice a n' c) (.slice none 0 0)).run P w = .ok a.isNone w := by
    intro d a n' c
    cases a <;> simp [Op.equalIn, run_underlying' hd]
  have run : ∀ (a : Option Addr) (n' c : Nat), ρ x = .slice a n' c → (Op.equal t (ρ x) (ρ y)).run P w = .ok a.isNone w := by
    intro a n' c hxx
    rw [hxx, h2]
    exact run0 9999 a n' c
  have hq : ∀ (op' : BinOp) (a : Option Addr) (n' c : Nat), ρ x = .slice a n' c → (eqGuard op' t x y (ρ x) (ρ y)).run P w = .ok () w := by
    intro op' a n' c hxx
    rw [hxx, h2]
    cases op' <;> simp [eqGuard]
  split at h <;> try (simp at h; done)
  · rename_i n' hn
    simp at h; obtain ⟨rfl, rfl⟩ := h
    obtain ⟨a, c, h3, h4⟩ := key _ hn
    refine ⟨a.isNone, fun h5 => h4 (by simpa using h5), ?_⟩
    have e1 : binOp .eql t (ρ x) (ρ y) = (do pure (.bool (← Op.equal t (ρ x) (ρ y))) : Sem Value) := by rw [h3, h2]; rfl
    simp [execOp, hq _ _ _ _ h3, e1, run _ _ _ h3]
  · rename_i n' hn
    simp at h; obtain ⟨rfl, rfl⟩ := h
    obtain ⟨a, c, h3, h4⟩ := key _ hn
    refine ⟨a.isNone, fun h5 => h4 (by simpa using h5), ?_⟩
    have e1 : binOp .neq t (ρ x) (ρ y) = (do pure (.bool (!(← Op.equal t (ρ x) (ρ y)))) : Sem Value) := by rw [h3, h2]; rfl
    simp [execOp, hq _ _ _ _ h3, e1, run _ _ _ h3]
end
end Go.Sx
