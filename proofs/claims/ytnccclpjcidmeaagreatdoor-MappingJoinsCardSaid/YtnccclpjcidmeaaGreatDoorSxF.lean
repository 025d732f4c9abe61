import Derived.Test.YtnccclpjcidmeaaGreatDoorSxE
import Derived.IntWalk
import Derived.Laws.Strings
import Derived.ChangeKeysEq
import Derived.Lib.Builder
import Derived.Laws.BytesString
namespace Go.Sx
open Go Go.RowKit

theorem wrap_fits {n : Int} (h : fitsI64 n) : IntKind.i64.wrap n = n := by
  obtain ⟨h1, h2⟩ := h
  exact IntWalk.i64_in n ⟨h1, by omega⟩

theorem Rep.val {M : Mem} {E : List Value} (x : Value) : Rep M E (.v x) x := by simp [Rep]

section
variable {P : Program} {T : TT} {B : Nat} {w0 w : World} {M0 M : Mem} {E : List Value} {ow : List Own}

theorem run_bin_int {op : BinOp} {t : TypeId} {xo yo : Operand} {k : IntKind} {a b : Int} {vs : List DP} {d : D} (h : evInt op k a b = some (vs, d)) (hvs : AllP vs) :
    ∃ z, (do eqGuard op t xo yo (.int k a) (.int k b); binOp op t (.int k a) (.int k b) : Sem Value).run P w = .ok z w ∧ Rep M E d z := by
  unfold evInt at h
  split at h <;> (try simp only [bitsI] at h) <;> simp at h <;> obtain ⟨rfl, rfl⟩ := h <;>
    first
      | (simp only [AllP, and_true] at hvs
         obtain ⟨h0, h1, h2⟩ := hvs
         refine ⟨_, ?_, Rep.val _⟩
         have hb : b ≠ 0 := by omega
         have e1 : a.tdiv b = a / b := Int.tdiv_eq_ediv_of_nonneg h0
         have hq : fitsI64 (a / b) := ⟨by have := Int.ediv_nonneg h0 (Int.le_of_lt h1); omega, by have := Int.ediv_le_self b h0; omega⟩
         simp [eqGuard, binOp, Op.intDiv, hb, e1, wrap_fits hq]; done)
      | (simp only [AllP, and_true] at hvs
         obtain ⟨h0, h1, h2⟩ := hvs
         refine ⟨_, ?_, Rep.val _⟩
         have hb : b ≠ 0 := by omega
         have e1 : a.tmod b = a % b := Int.tmod_eq_emod_of_nonneg h0
         simp [eqGuard, binOp, Op.intDiv, hb, e1]; done)
      | (simp only [AllP, and_true] at hvs
         refine ⟨_, ?_, Rep.val _⟩
         simp [eqGuard, binOp, Op.intArith, wrap_fits hvs]; done)
      | (simp only [AllP, and_true] at hvs
         refine ⟨_, ?_, Rep.val _⟩
         simp [eqGuard, binOp, Op.intDiv, hvs]; done)
      | (refine ⟨_, ?_, Rep.val _⟩
         simp [eqGuard, binOp, Op.intBits]; done)
      | (refine ⟨_, ?_, Rep.val _⟩
         simp [eqGuard, binOp, Op.intArith, Op.intCmp])

theorem str_eq (a b : ByteArray) : (a.toList == b.toList) = decide (a = b) := by
  rw [Bool.eq_iff_iff]
  simp only [beq_iff_eq, decide_eq_true_eq, ByteArray.toList_eq]
  constructor
  · intro h
    cases a; cases b
    simp at h
    rw [h]
  · intro h; rw [h]

theorem bcat_eq (x y : ByteArray) : bcat x y = x ++ y := by
  cases x; cases y
  apply ByteArray.ext
  simp [bcat]
theorem baDec_eq (x y : ByteArray) : @decide (x = y) (baDec x y) = decide (x = y) := by
  rw [Bool.eq_iff_iff]; simp

theorem run_bin_sh {op : BinOp} {t : TypeId} {xo yo : Operand} {k k' : IntKind} {a b : Int} {vs : List DP} {d : D} (hop : op = .shl ∨ op = .shr) (h : evSh op k a b = some (vs, d)) (hvs : AllP vs) :
    ∃ z, (do eqGuard op t xo yo (.int k a) (.int k' b); binOp op t (.int k a) (.int k' b) : Sem Value).run P w = .ok z w ∧ Rep M E d z := by
  unfold evSh at h
  split at h <;> simp at h <;> obtain ⟨rfl, rfl⟩ := h
  · simp only [AllP, and_true] at hvs
    exact ⟨_, by simp [eqGuard, binOp, Op.shift, Int.not_lt.2 hvs], Rep.val _⟩
  · simp only [AllP, and_true] at hvs
    exact ⟨_, by simp [eqGuard, binOp, Op.shift, Int.not_lt.2 hvs], Rep.val _⟩

theorem run_bin_str {op : BinOp} {t : TypeId} {xo yo : Operand} {a b : ByteArray} {vs : List DP} {d : D} (h : evStr op a b = some (vs, d)) (hvs : AllP vs) :
    ∃ z, (do eqGuard op t xo yo (.string a) (.string b); binOp op t (.string a) (.string b) : Sem Value).run P w = .ok z w ∧ Rep M E d z := by
  unfold evStr at h
  split at h <;> simp at h <;> obtain ⟨rfl, rfl⟩ := h
  · simp only [AllP, and_true] at hvs
    refine ⟨_, ?_, Rep.val _⟩
    have hmax : IntKind.i64.max = 9223372036854775807 := by decide
    have hle : ¬ (((a.size + b.size : Nat) : Int) > IntKind.i64.max) := by rw [hmax]; omega
    simp only [eqGuard, binOp, Op.stringOp, bcat_eq]
    simp
    omega
  · exact ⟨.bool (decide (a = b)), by simp [eqGuard, binOp, Op.stringOp, str_eq], by rw [baDec_eq]; exact Rep.val _⟩
  · exact ⟨.bool (!decide (a = b)), by simp [eqGuard, binOp, Op.stringOp, str_eq], by rw [baDec_eq]; exact Rep.val _⟩
  · exact ⟨_, by simp [eqGuard, binOp, Op.stringOp, ByteArray.toList_eq], Rep.val _⟩
  · exact ⟨_, by simp [eqGuard, binOp, Op.stringOp, ByteArray.toList_eq], Rep.val _⟩
  · exact ⟨_, by simp [eqGuard, binOp, Op.stringOp, ByteArray.toList_eq], Rep.val _⟩
  · exact ⟨_, by simp [eqGuard, binOp, Op.stringOp, ByteArray.toList_eq], Rep.val _⟩

theorem evSame_sound (hT : TOk P T) {t : TypeId} {x y : D} {u v : Value} {z : Bool} (h : evSame T t x y = some z) (hx : Rep M E x u) (hy : Rep M E y v) :
    (∀ op xo yo, (eqGuard op t xo yo u v).run P w = .ok () w) ∧ (∀ d : Nat, (Op.equalIn (d + 1) t u v).run P w = .ok z w) ∧ binOp .eql t u v = (do pure (.bool (← Op.equal t u v)) : Sem Value) ∧ binOp .neq t u v = (do pure (.bool (!(← Op.equal t u v))) : Sem Value) := by
  unfold evSame at h
  split at h
  · rename_i e hTt
    obtain ⟨i, td, hi, hd, he⟩ := tiOf_some (hT _ _ hTt)
    simp only [TI.mk.injEq] at he
    obtain rfl := tkOf_ptr he.2.2.2.1.symm
    have out : ∀ (a b : Option Addr), (∀ d : Nat, (Op.equalIn (d + 1) t (.pointer a) (.pointer b)).run P w = .ok z w) → (∀ op xo yo, (eqGuard op t xo yo (.pointer a) (.pointer b)).run P w = .ok () w) ∧ (∀ d : Nat, (Op.equalIn (d + 1) t (.pointer a) (.pointer b)).run P w = .ok z w) ∧ binOp .eql t (.pointer a) (.pointer b) = (do pure (.bool (← Op.equal t (.pointer a) (.pointer b))) : Sem Value) ∧ binOp .neq t (.pointer a) (.pointer b) = (do pure (.bool (!(← Op.equal t (.pointer a) (.pointer b)))) : Sem Value) :=
      fun a b hh => ⟨fun op xo yo => by cases op <;> simp [eqGuard], hh, rfl, rfl⟩
    split at h
    · simp at h; subst h
      simp only [Rep] at hx hy; subst hx; subst hy
      exact out _ _ (fun d => by simp [Op.equalIn, run_underlying' hd])
    · simp at h; subst h
      simp only [Rep] at hx hy; subst hx; obtain ⟨b, _, rfl⟩ := hy
      exact out _ _ (fun d => by simp [Op.equalIn, run_underlying' hd])
    · simp at h; subst h
      simp only [Rep] at hx hy; subst hy; obtain ⟨b, _, rfl⟩ := hx
      exact out _ _ (fun d => by simp [Op.equalIn, run_underlying' hd])
    · simp at h; subst h
      simp only [Rep] at hx hy; subst hx; obtain ⟨b, rfl, _⟩ := hy
      exact out _ _ (fun d => by simp [Op.equalIn, run_underlying' hd])
    · simp at h; subst h
      simp only [Rep] at hx hy; subst hy; obtain ⟨b, rfl, _⟩ := hx
      exact out _ _ (fun d => by simp [Op.equalIn, run_underlying' hd])
    · rename_i i1 o1 j1 q1
      split at h <;> try (simp at h; done)
      rename_i hc
      obtain ⟨rfl, rfl⟩ := hc
      split at h <;> try (simp at h; done)
      rename_i hTe
      simp at h; subst h
      simp only [Rep] at hx hy
      obtain ⟨b, hb, rfl⟩ := hx
      obtain ⟨b', hb', rfl⟩ := hy
      rw [hb] at hb'; simp at hb'; subst hb'
      obtain ⟨i2, td2, hi2, _, he2⟩ := tiOf_some (hT _ _ hTe)
      simp only [TI.mk.injEq] at he2
      have h0 : i2.size ≠ 0 := by omega
      exact out _ _ (fun d => by simp [Op.equalIn, run_underlying' hd, run_sizeOf' hi2, run_sameAddr_same])
    · simp at h
  · rename_i hTt
    obtain ⟨i, td, hi, hd, he⟩ := tiOf_some (hT _ _ hTt)
    simp only [TI.mk.injEq] at he
    obtain rfl := tkOf_bool he.2.2.2.1.symm
    split at h
    · simp at h; subst h
      simp only [Rep] at hx hy; subst hx; subst hy
      exact ⟨fun op xo yo => by cases op <;> simp [eqGuard], fun d => by simp [Op.equalIn, run_underlying' hd], rfl, rfl⟩
    · simp at h
  · rename_i e s by' mo hTt
    obtain ⟨i, td, hi, hd, he⟩ := tiOf_some (hT _ _ hTt)
    simp only [TI.mk.injEq] at he
    obtain ⟨rfl, _⟩ := tkOf_slice he.2.2.2.1.symm
    split at h <;> try (simp at h; done)
    simp at h; subst h
    simp only [Rep] at hx hy; subst hx; subst hy
    exact ⟨fun op xo yo => by cases op <;> simp [eqGuard], fun d => by simp [Op.equalIn, run_underlying' hd], rfl, rfl⟩
  · simp at h

theorem evBin_sound (hT : TOk P T) {op : BinOp} {t : TypeId} {xo yo : Operand} {x y d : D} {u v : Value} {vs : List DP} (h : evBin T t op x y = some (vs, d)) (hvs : AllP vs) (hx : Rep M E x u) (hy : Rep M E y v) :
    ∃ z, (do eqGuard op t xo yo u v; binOp op t u v : Sem Value).run P w = .ok z w ∧ Rep M E d z := by
  unfold evBin at h
  split at h
  · simp only [Rep] at hx hy
    subst hx; subst hy
    split at h
    · exact run_bin_sh (.inl rfl) h hvs
    · exact run_bin_sh (.inr rfl) h hvs
    · split at h
      · rename_i hk
        subst hk
        exact run_bin_int h hvs
      · simp at h
  · simp only [Rep] at hx hy
    subst hx; subst hy
    exact run_bin_str h hvs
  · unfold evNil at h
    split at h
    · rename_i z hz
      simp at h; obtain ⟨rfl, rfl⟩ := h
      obtain ⟨h1, h2, h3, _⟩ := evSame_sound (w := w) hT hz hx hy
      have h4 : (Op.equal t u v).run P w = .ok z w := h2 9999
      refine ⟨.bool z, ?_, Rep.val _⟩
      rw [Sem.run_bind, h1, Result.andThen_ok, h3]
      simp [h4]
    · rename_i z hz
      simp at h; obtain ⟨rfl, rfl⟩ := h
      obtain ⟨h1, h2, _, h3⟩ := evSame_sound (w := w) hT hz hx hy
      have h4 : (Op.equal t u v).run P w = .ok z w := h2 9999
      refine ⟨.bool (!z), ?_, Rep.val _⟩
      rw [Sem.run_bind, h1, Result.andThen_ok, h3]
      simp [h4]
    · simp at h

theorem eqFields_step {d : Nat} {xs ys : Array Value} {f : Field} {fs : List Field} {a b : Value} {z z' : Bool} (hn : f.name ≠ "_") (ha : (part f.type xs f.offset).run P w = .ok a w) (hb : (part f.type ys f.offset).run P w = .ok b w)
    (he : (Op.equalIn (d + 1) f.type a b).run P w = .ok z w) (ih : (Op.eqFields (d + 1) xs ys fs).run P w = .ok z' w) : (Op.eqFields (d + 1) xs ys (f :: fs)).run P w = .ok (z && z') w := by
  rw [Op.eqFields, if_pos hn, Sem.run_bind, ha, Result.andThen_ok, Sem.run_bind, hb, Result.andThen_ok, Sem.run_bind, he, Result.andThen_ok]
  cases z
  · simp
  · simp [ih]

theorem eqFields_flat {d : Nat} {xs ys : Array Value} : ∀ {ks : List Nat} {i : Nat} {fs : List Field} {l r : List D} {us vs : List Value} {z : Bool}, flatFs P i fs = some ks → evEqL ks l r = some z → RepL M E l us → RepL M E r vs → xs.toList.drop i = us → ys.toList.drop i = vs → (Op.eqFields (d + 1) xs ys fs).run P w = .ok z w
  | ks, i, [], l, r, us, vs, z, hf, he, hl, hr, hx, hy => by
    simp [flatFs] at hf; subst hf
    cases l <;> cases r <;> simp [evEqL] at he
    subst he
    simp [Op.eqFields]
  | ks, i, f :: fs, l, r, us, vs, z, hf, he, hl, hr, hx, hy => by
    simp only [flatFs] at hf
    split at hf
    · rename_i k hk
      split at hf
      · rename_i hc
        obtain ⟨ho, hn⟩ := hc
        split at hf
        · rename_i ks' hks
          simp at hf; subst hf
          have gx : ∀ u rest, us = u :: rest → xs[f.offset]? = some u ∧ xs.toList.drop (i + 1) = rest := by
            intro u rest h
            rw [h] at hx
            refine ⟨?_, ?_⟩
            · have := congrArg (·[0]?) hx
              simpa [ho] using this
            · have := congrArg (List.drop 1) hx
              simpa [List.drop_drop] using this
          have gy : ∀ u rest, vs = u :: rest → ys[f.offset]? = some u ∧ ys.toList.drop (i + 1) = rest := by
            intro u rest h
            rw [h] at hy
            refine ⟨?_, ?_⟩
            · have := congrArg (·[0]?) hy
              simpa [ho] using this
            · have := congrArg (List.drop 1) hy
              simpa [List.drop_drop] using this
          unfold evEqL at he
          split at he
          · simp_all
          · rename_i e1; simp at e1; obtain ⟨rfl, rfl⟩ := e1
            split at he
            · rename_i z' hz'
              split at he
              · rename_i hkk; subst hkk
                simp at he; subst he
                simp only [RepL, Rep] at hl hr
                obtain ⟨u, ru, hu1, rfl, hu3⟩ := hl
                obtain ⟨v, rv, hv1, rfl, hv3⟩ := hr
                obtain ⟨a1, a2⟩ := gx _ _ hu1
                obtain ⟨b1, b2⟩ := gy _ _ hv1
                have ih := eqFields_flat (d := d) hks hz' hu3 hv3 a2 b2
                have hu : ∃ q, P.underlying f.type = some (.int q) := by
                  unfold flatK at hk; split at hk <;> simp at hk; exact ⟨_, by assumption⟩
                obtain ⟨q, hu⟩ := hu
                exact eqFields_step hn (run_part_plain w (by simp [Program.plainKey, hu]) a1) (run_part_plain w (by simp [Program.plainKey, hu]) b1) (by rw [run_equalIn_int w d f.type _ q _ _ hu]; rfl) ih
              · simp at he
            · simp at he
          · rename_i e1; simp at e1; obtain ⟨rfl, rfl⟩ := e1
            split at he
            · rename_i z' hz'
              simp at he; subst he
              simp only [RepL, Rep] at hl hr
              obtain ⟨u, ru, hu1, rfl, hu3⟩ := hl
              obtain ⟨v, rv, hv1, rfl, hv3⟩ := hr
              obtain ⟨a1, a2⟩ := gx _ _ hu1
              obtain ⟨b1, b2⟩ := gy _ _ hv1
              have ih := eqFields_flat (d := d) hks hz' hu3 hv3 a2 b2
              have hu : P.underlying f.type = some .string := by
                unfold flatK at hk; split at hk <;> simp at hk; assumption
              exact eqFields_step hn (run_part_plain w (by simp [Program.plainKey, hu]) a1) (run_part_plain w (by simp [Program.plainKey, hu]) b1) (by rw [run_equalIn_string w d f.type _ _ hu, str_eq, baDec_eq]) ih
            · simp at he
          · rename_i e1; simp at e1; obtain ⟨rfl, rfl⟩ := e1
            split at he
            · rename_i z' hz'
              simp at he; subst he
              simp only [RepL, Rep] at hl hr
              obtain ⟨u, ru, hu1, rfl, hu3⟩ := hl
              obtain ⟨v, rv, hv1, rfl, hv3⟩ := hr
              obtain ⟨a1, a2⟩ := gx _ _ hu1
              obtain ⟨b1, b2⟩ := gy _ _ hv1
              have ih := eqFields_flat (d := d) hks hz' hu3 hv3 a2 b2
              have hu : P.underlying f.type = some .bool := by
                unfold flatK at hk; split at hk <;> simp at hk; assumption
              exact eqFields_step hn (run_part_plain w (by simp [Program.plainKey, hu]) a1) (run_part_plain w (by simp [Program.plainKey, hu]) b1) (run_equalIn_bool' w d f.type _ _ hu) ih
            · simp at he
          · simp at he
        · simp at hf
      · simp at hf
    · simp at hf

theorem evEqS_sound {op : BinOp} {t : TypeId} {ti : TI} {xo yo : Operand} {l r : List D} {d : D} {u v : Value} {vs : List DP} (hti : tiOf P t = some ti) (h : evEqS op ti l r = some (vs, d)) (hx : Rep M E (.ag l) u) (hy : Rep M E (.ag r) v) :
    ∃ z, (do eqGuard op t xo yo u v; binOp op t u v : Sem Value).run P w = .ok z w ∧ Rep M E d z := by
  obtain ⟨i, ds, hi, hd, rfl⟩ := tiOf_some hti
  simp only [Rep] at hx hy
  obtain ⟨us, rfl, hu⟩ := hx
  obtain ⟨ws, rfl, hv⟩ := hy
  unfold evEqS at h
  split at h
  · rename_i ks hks
    split at h
    · rename_i z hz
      simp only [flatOf] at hks
      split at hks
      · rename_i fs
        split at hks
        · rename_i ks' hks'
          split at hks
          · rename_i hc
            simp at hks; subst hks
            have hf : P.fieldsOf t = fs := by simp [Program.fieldsOf, hd]
            have e1 : (Op.equalIn 10000 t (.agg us) (.agg ws)).run P w = .ok z w := by
              rw [run_equalIn_struct w 9999 t us ws (by rw [hf]; exact hd) hc.1, hf]
              exact eqFields_flat (d := 9998) hks' hz hu hv rfl rfl
            split at h
            · simp at h; obtain ⟨rfl, rfl⟩ := h
              refine ⟨.bool z, ?_, Rep.val _⟩
              rw [Sem.run_bind, run_eqGuard_agg w _ t xo yo us ws hc.2]
              simp only [Result.andThen_ok]
              rw [run_eql_struct, e1]; rfl
            · simp at h; obtain ⟨rfl, rfl⟩ := h
              refine ⟨.bool (!z), ?_, Rep.val _⟩
              rw [Sem.run_bind, run_eqGuard_agg w _ t xo yo us ws hc.2]
              simp only [Result.andThen_ok]
              rw [run_neq_struct, e1]; rfl
            · simp at h
          · simp at hks
        · simp at hks
      · simp at hks
    · simp at h
  · simp at h

/-! ### conversions -/
theorem bytesL_spec : ∀ {l : List D} {us : List Value} {bs : List UInt8}, bytesL l = some bs → RepL M E l us → ∃ ns : List Int, us = ns.map (Value.int .u8) ∧ bs = ns.map fun n => UInt8.ofNat n.toNat
  | [], us, bs, h, hr => by
    simp [bytesL] at h; simp [RepL] at hr; subst h; subst hr; exact ⟨[], rfl, rfl⟩
  | d :: l, us, bs, h, hr => by
    simp only [RepL] at hr
    obtain ⟨u, r, rfl, hu, hr⟩ := hr
    unfold bytesL at h
    split at h <;> try (simp at h; done)
    · rename_i e1; simp at e1
    · rename_i a l' e1
      simp at e1; obtain ⟨rfl, rfl⟩ := e1
      split at h <;> try (simp at h; done)
      rename_i q hq
      simp at h; subst h
      simp only [Rep] at hu; subst hu
      obtain ⟨ns, rfl, rfl⟩ := bytesL_spec hq hr
      exact ⟨a :: ns, rfl, rfl⟩

theorem foldl_push : ∀ (ns : List Int) (s : ByteArray), ns.foldl (fun r n => r.push (UInt8.ofNat n.toNat)) s = ⟨⟨s.data.toList ++ ns.map fun n => UInt8.ofNat n.toNat⟩⟩
  | [], s => by cases s; simp
  | n :: ns, s => by
    rw [List.foldl_cons, foldl_push ns]
    cases s; simp

theorem run_bytes_cells {a : Addr} {n cap : Nat} {l : List D} {us : List Value} {bs : List UInt8} (h : bytesL l = some bs) (hr : RepL M E l us) (hn : us.length = n) (hc : ∀ j v, us[j]? = some v → w.cell? (a.add j) = some v) :
    (Conv.bytesToString (.slice (some a) n cap)).run P w = .ok (.string ⟨⟨bs⟩⟩) w := by
  obtain ⟨ns, rfl, rfl⟩ := bytesL_spec h hr
  have hl := run_loadCells_list (P := P) (w := w) a (ns.map (Value.int .u8)) hc
  rw [hn] at hl
  rw [run_bytesToString w a n cap ns (by rw [hl])]
  rw [foldl_push]
  rfl

theorem firstL_rep {f : Nat → Nat → D} {us : List Value} : ∀ (n i : Nat), (∀ a, a < n → ∃ x, us[a]? = some x ∧ Rep M E (f (i + a) 0) x) → us.length = n → RepL M E (firstL f i n) us
  | 0, i, _, hl => by
    have : us = [] := by simpa using hl
    subst this; simp [firstL, RepL]
  | n + 1, i, h, hl => by
    cases us with
    | nil => simp at hl
    | cons u us =>
      obtain ⟨x, hx, hr⟩ := h 0 (by omega)
      simp at hx; subst hx
      simp only [firstL]
      refine RepL.cons (by simpa using hr) (firstL_rep n (i + 1) (fun a ha => ?_) (by simpa using hl))
      obtain ⟨y, hy, hry⟩ := h (a + 1) (by omega)
      exact ⟨y, by simpa using hy, by rw [show i + 1 + a = i + (a + 1) by omega]; exact hry⟩

theorem bytes_first (s : ByteArray) : ∀ (n i : Nat), i + n = s.size → bytesL (firstL (bytesF s) i n) = some (s.data.toList.drop i)
  | 0, i, h => by
    have hs : s.size = s.data.toList.length := rfl
    have : s.data.toList.length ≤ i := by omega
    simp only [firstL, bytesL]
    rw [List.drop_eq_nil_of_le this]
  | n + 1, i, h => by
    have hs : s.size = s.data.toList.length := rfl
    have hi : i < s.data.toList.length := by omega
    have e : bAt s i = (s.data.toList[i].toNat : Int) := by simp [bAt, List.getElem?_eq_getElem hi]
    simp only [firstL, bytesF, bytesL, bytes_first s n (i + 1) (by omega)]
    have : UInt8.ofNat (bAt s i).toNat = s.data.toList[i] := by rw [e]; simp
    rw [this, List.drop_eq_getElem_cons hi]

theorem evBytes_sound {x : D} {u : Value} {s : ByteArray} (h : evBytes ow x = some s) (hW : WRel B w0 M0 M E ow w) (hx : Rep M E x u) : (Conv.bytesToString u).run P w = .ok (.string s) w := by
  have row1 : ∀ (e n : Nat) (f : Nat → Nat → D) (v : Value) (bs : List UInt8), HoldsRow B M w e 1 n f v → bytesL (firstL f 0 n) = some bs → (Conv.bytesToString v).run P w = .ok (.string ⟨⟨bs⟩⟩) w := by
    intro e n f v bs hR hb
    obtain ⟨xs, hown, hrep, _⟩ := hR
    rcases hown.2 with ⟨rfl, rfl⟩ | ⟨g, cap, cur, rfl, q1, q2, q3, q4, q5, q6⟩
    · simp [firstL, bytesL] at hb; subst hb
      simp [Conv.bytesToString]; rfl
    · refine run_bytes_cells (M := M) (E := []) hb (firstL_rep n 0 (fun a ha => ?_) (by simpa using hown.1)) (by simpa using hown.1) (fun j v hj => ?_)
      · obtain ⟨x, h1, _, h2⟩ := hrep a ha 0 (by omega)
        exact ⟨x, by simpa using h1, by simpa using h2⟩
      · rw [add_own, Nat.zero_add, cell_of_row w g j cur e (0, 0) q2, ← Array.getElem?_toList]
        rw [← q6] at hj
        have hjl : j < n := by
          rcases Nat.lt_or_ge j n with h' | h'
          · exact h'
          · rw [List.getElem?_eq_none (by simp; omega)] at hj; simp at hj
        rw [List.getElem?_take_of_lt (by omega)] at hj
        exact hj
  unfold evBytes at h
  split at h
  · simp at h; subst h
    simp only [Rep] at hx; subst hx
    simp [Conv.bytesToString]; rfl
  · rename_i i off n
    split at h <;> try (simp at h; done)
    rename_i tt l ho
    split at h <;> try (simp at h; done)
    rename_i c hc
    split at h <;> try (simp at h; done)
    rename_i bs hbs
    simp at h; subst h
    simp only [Rep] at hx
    obtain ⟨b, o, cap, hE, rfl, _, hoff⟩ := hx
    have hH := hW.holds _ _ _ ho hE
    simp only [Holds] at hH
    obtain ⟨b', cs, hb', hheap, hrep, _, _⟩ := hH
    simp at hb'; subst hb'
    obtain ⟨us, hus, hrl⟩ := RepL.cut hrep hc
    obtain ⟨h1, h2, h3⟩ := cut_spec hus
    refine run_bytes_cells hbs hrl h1 (fun j v hj => ?_)
    have hjl : j < n := by
      rcases Nat.lt_or_ge j n with hh | hh
      · exact hh
      · rw [List.getElem?_eq_none (by omega)] at hj; simp at hj
    rw [hoff (by omega), add_own, cell_of_row w b (off + j) cs tt (0, 0) hheap, ← Array.getElem?_toList, ← h3 j hjl, hj]
  · rename_i n f
    split at h <;> try (simp at h; done)
    rename_i bs hbs
    simp at h; subst h
    simp only [Rep] at hx
    obtain ⟨a, cap, rfl, _, hc⟩ := hx
    rcases Nat.eq_zero_or_pos n with rfl | hn
    · simp [firstL, bytesL] at hbs; subst hbs
      cases a with
      | none => simp [Conv.bytesToString]; rfl
      | some ad =>
        have := run_bytes_cells (P := P) (w := w) (M := M) (E := []) (a := ad) (n := 0) (cap := cap) (l := []) (us := []) (bs := []) rfl RepL.nil rfl (by simp)
        exact this
    · obtain ⟨ad, rfl, hcell⟩ := hc hn
      obtain ⟨us, hl, hus⟩ : ∃ us : List Value, us.length = n ∧ ∀ j, j < n → ∃ x, us[j]? = some x ∧ M.cell (ad.add j) = some x ∧ Rep M [] (f j 0) x := by
        refine ⟨(List.range n).map fun j => (M.cell (ad.add j)).getD undef, by simp, fun j hj => ?_⟩
        obtain ⟨x, hx1, _, hx2⟩ := hcell j hj 0 (by omega)
        simp at hx1
        exact ⟨x, by simp [hj, hx1], hx1, hx2⟩
      refine run_bytes_cells (M := M) (E := []) hbs (firstL_rep n 0 (fun a ha => ?_) hl) hl (fun j v hj => ?_)
      · obtain ⟨x, h1, _, h2⟩ := hus a ha
        exact ⟨x, h1, by simpa using h2⟩
      · have hjl : j < n := by
          rcases Nat.lt_or_ge j n with h' | h'
          · exact h'
          · rw [List.getElem?_eq_none (by omega)] at hj; simp at hj
        obtain ⟨x, h1, h2, _⟩ := hus j hjl
        rw [h1] at hj; simp at hj; subst hj
        exact Mem.cell_fits hW.fits h2
  · rename_i i
    split at h <;> try (simp at h; done)
    · rename_i e s' ho
      simp at h; subst h
      simp only [Rep] at hx
      have hH := (hW.holds _ _ _ ho hx).toRow (o := .bytes e s') rfl
      have := row1 _ _ _ _ _ hH (bytes_first s' s'.size 0 (by omega))
      simpa using this
    · rename_i e n f ho
      split at h <;> try (simp at h; done)
      rename_i bs hbs
      simp at h; subst h
      simp only [Rep] at hx
      exact row1 _ _ _ _ _ (hW.holds _ _ _ ho hx) hbs
  · simp at h

theorem evConv_sound (hT : TOk P T) {ta tb : TypeId} {tia tib : TI} {x d : D} {u : Value} (ha : tiOf P ta = some tia) (hb : tiOf P tb = some tib) (h : evConv T ow tia.kind tib.kind x = some d) (hW : WRel B w0 M0 M E ow w) (hx : Rep M E x u) : ∃ z, (convert ta tb u).run P w = .ok z w ∧ Rep M E d z := by
  obtain ⟨i, ds, hi, hd, rfl⟩ := tiOf_some ha
  obtain ⟨i2, ds2, hi2, hd2, rfl⟩ := tiOf_some hb
  unfold evConv at h
  split at h
  · rename_i k1 k2 k3 n h1 h2
    simp at h; subst h
    simp only [Rep] at hx; subst hx
    obtain rfl := tkOf_int h1
    obtain rfl := tkOf_int h2
    exact ⟨_, by simp [convert, run_underlying' hd, run_underlying' hd2, Conv.intToInt], Rep.val _⟩
  · rename_i s h1 h2
    simp at h; subst h
    simp only [Rep] at hx; subst hx
    obtain rfl := tkOf_str h1
    obtain rfl := tkOf_str h2
    exact ⟨_, by simp [convert, run_underlying' hd, run_underlying' hd2], Rep.val _⟩
  · rename_i e by' x h1 h2
    split at h <;> try (simp at h; done)
    rename_i hTe
    split at h <;> try (simp at h; done)
    rename_i s hs
    simp at h; subst h
    obtain ⟨rfl, ei, hei, _, _⟩ := tkOf_slice h1
    obtain rfl := tkOf_str h2
    obtain ⟨i3, td3, hi3, hd3, he3⟩ := tiOf_some (hT _ _ hTe)
    simp only [TI.mk.injEq] at he3
    obtain rfl := tkOf_int he3.2.2.2.1.symm
    have := evBytes_sound (P := P) hs hW hx
    have hu : ∀ s', u ≠ .string s' ∧ (∀ k n, u ≠ .int k n) := by
      intro s'
      refine ⟨fun e => ?_, fun k n e => ?_⟩ <;> subst e <;> simp [Conv.bytesToString, stuck] at this
    refine ⟨_, ?_, Rep.val _⟩
    have hc : (convert ta tb u).run P w = (Conv.bytesToString u).run P w := by
      cases u <;> simp [convert, run_underlying' hd, run_underlying' hd2, run_underlying' hd3]
      all_goals first | exact absurd rfl ((hu ByteArray.empty).2 _ _) | exact absurd rfl (hu _).1 | (simp [Conv.bytesToString, stuck] at this; done)
    rw [hc, this]
  · rename_i t j h1 h2
    split at h <;> try (simp at h; done)
    rename_i sz d0 l0 tt hTt ho
    simp at h; subst h
    have hx' := hx
    simp only [Rep] at hx
    obtain ⟨b, hE, rfl⟩ := hx
    have hH := hW.holds _ _ _ ho hE
    simp only [Holds] at hH
    obtain ⟨b', cs, hb', hheap, hrep, _, _⟩ := hH
    simp at hb'; subst hb'
    obtain ⟨i3, td3, hi3, hd3, he3⟩ := tiOf_some (hT _ _ hTt)
    simp only [TI.mk.injEq] at he3
    have hlen := hrep.length
    refine ⟨_, Lib.run_to_unsafe w (cells := cs.size) ⟨b, 0, none⟩ (by rw [hd, tkOf_ptr h1]) (by rw [hd2, tkOf_uptr h2]) hi3 (by omega) (by simp [World.shape?, hheap]; rfl) (by simp at hlen; show 0 < cs.size; omega), hx'⟩
  · rename_i t j h1 h2
    split at h <;> try (simp at h; done)
    rename_i sz z k fl ms fa l0 tt hTt ho
    split at h <;> try (simp at h; done)
    rename_i hc
    obtain ⟨rfl, rfl⟩ := hc
    simp at h; subst h
    have hx' := hx
    simp only [Rep] at hx
    obtain ⟨b, hE, rfl⟩ := hx
    have hH := hW.holds _ _ _ ho hE
    simp only [Holds] at hH
    obtain ⟨b', cs, hb', hheap, hrep, _, _⟩ := hH
    simp at hb'; subst hb'
    obtain ⟨i3, td3, hi3, hd3, he3⟩ := tiOf_some (hT _ _ hTt)
    simp only [TI.mk.injEq, More.mk.injEq] at he3
    have hlen := hrep.length
    have hcs : cs.size = i3.size := by simp at hlen; omega
    refine ⟨_, Lib.run_from_unsafe w (cells := cs.size) ⟨b, 0, none⟩ (by rw [hd, tkOf_uptr h1]) (by rw [hd2, tkOf_ptr h2]) hi3 (by simp [World.shape?, hheap]; rfl) ?_, hx'⟩
    have hself := he3.2.2.2.2.2.2.1
    unfold selfOf at hself
    split at hself
    · rw [hcs]; exact hself.symm
    · simp at hself
  · simp at h

theorem bcut_eq (s : ByteArray) (l h : Nat) : bcut s l h = s.extract l h := by
  apply ByteArray.ext
  apply Array.ext'
  simp [bcut, List.drop_take]

abbrev OptRep (M : Mem) (E : List Value) (lo : Option D) (lv : Option Value) : Prop := (lo = none ∧ lv = none) ∨ ∃ x u, lo = some x ∧ lv = some u ∧ Rep M E x u

theorem OptRep.none' {lv : Option Value} (h : OptRep M E none lv) : lv = none := by
  rcases h with ⟨_, h⟩ | ⟨x, u, h, _⟩
  · exact h
  · simp at h
theorem OptRep.int {k : IntKind} {n : Int} {lv : Option Value} (h : OptRep M E (some (.v (.int k n))) lv) : lv = some (.int k n) := by
  rcases h with ⟨h, _⟩ | ⟨x, u, h, h2, h3⟩
  · simp at h
  · simp at h; subst h; simp only [Rep] at h3; subst h3; exact h2

theorem run_bounds_nn {b : Bool} {len cap : Nat} : (Instr.sliceBounds b len cap none none none).run P w = .ok (0, len, cap) w := by
  simp [Instr.sliceBounds]
theorem run_bounds_ln {b : Bool} {len cap : Nat} {k : IntKind} {l : Int} (h0 : 0 ≤ l) (h1 : l ≤ len) : (Instr.sliceBounds b len cap (some (.int k l)) none none).run P w = .ok (l.toNat, len, cap) w := by
  simp [Instr.sliceBounds, Instr.sliceBound, asIntOf, h0, h1]
theorem run_bounds_nh {b : Bool} {len cap : Nat} {k : IntKind} {h : Int} (h0 : 0 ≤ h) (h1 : h ≤ cap) : (Instr.sliceBounds b len cap none (some (.int k h)) none).run P w = .ok (0, h.toNat, cap) w := by
  simp [Instr.sliceBounds, Instr.sliceBound, asIntOf, h0, h1]
theorem run_bounds_lh {b : Bool} {len cap : Nat} {k k' : IntKind} {l h : Int} (h0 : 0 ≤ l) (h1 : l ≤ h) (h2 : h ≤ cap) : (Instr.sliceBounds b len cap (some (.int k l)) (some (.int k' h)) none).run P w = .ok (l.toNat, h.toNat, cap) w := by
  have h3 : 0 ≤ h := by omega
  have h4 : l ≤ max h 0 := by omega
  simp [Instr.sliceBounds, Instr.sliceBound, asIntOf, h0, h2, h3, h4]

theorem evSliceS_sound {t : TypeId} {s : ByteArray} {lo hi : Option D} {lv hv : Option Value} {vs : List DP} {d : D} (ht : P.underlying t = some .string) (h : evSliceS s lo hi = some (vs, d)) (hvs : AllP vs)
    (hl : OptRep M E lo lv) (hh : OptRep M E hi hv) : ∃ z, (Instr.sliceAt t (.string s) lv hv none).run P w = .ok z w ∧ Rep M E d z := by
  unfold evSliceS at h
  split at h
  · simp at h; obtain ⟨rfl, rfl⟩ := h
    rw [hl.none', hh.none']
    exact ⟨_, by simp [Instr.sliceAt, run_underlying' ht, Instr.slice, run_bounds_nn], Rep.val _⟩
  · simp at h; obtain ⟨rfl, rfl⟩ := h
    simp only [AllP, and_true] at hvs
    rw [hl.int, hh.none']
    exact ⟨_, by simp [Instr.sliceAt, run_underlying' ht, Instr.slice, run_bounds_ln hvs.1 hvs.2, bcut_eq]; try rfl, Rep.val _⟩
  · simp at h; obtain ⟨rfl, rfl⟩ := h
    simp only [AllP, and_true] at hvs
    rw [hl.none', hh.int]
    exact ⟨_, by simp [Instr.sliceAt, run_underlying' ht, Instr.slice, run_bounds_nh hvs.1 hvs.2, bcut_eq]; try rfl, Rep.val _⟩
  · simp at h; obtain ⟨rfl, rfl⟩ := h
    simp only [AllP, and_true] at hvs
    rw [hl.int, hh.int]
    exact ⟨_, by simp [Instr.sliceAt, run_underlying' ht, Instr.slice, run_bounds_lh hvs.1 hvs.2.1 hvs.2.2, bcut_eq]; try rfl, Rep.val _⟩
  · simp at h

theorem evSliceL_sound {t e : TypeId} {ei : TypeInfo} {x : D} {u : Value} {lo hi : Option D} {lv hv : Option Value} {vs : List DP} {d : D} (ht : P.underlying t = some (.slice e)) (hei : P.info? e = some ei) (hsz : ∀ sz n f, x = .sl sz n f → sz = ei.size) (h : evSliceL x lo hi = some (vs, d)) (hvs : AllP vs)
    (hx : Rep M E x u) (hl : OptRep M E lo lv) (hh : OptRep M E hi hv) : ∃ z, (Instr.sliceAt t u lv hv none).run P w = .ok z w ∧ Rep M E d z := by
  unfold evSliceL at h
  split at h
  · rename_i sz n f
    obtain rfl := hsz _ _ _ rfl
    simp only [Rep] at hx
    obtain ⟨a, cap, rfl, hcap, hc⟩ := hx
    have out : ∀ (l h : Nat), l ≤ h → h ≤ n → Rep M E (.sl ei.size (h - l) fun i j => f (l + i) j) (.slice (if cap = l then a else a.map (·.add (l * ei.size))) (h - l) (cap - l)) := by
      intro l h h1 h2
      simp only [Rep]
      refine ⟨_, _, rfl, by omega, fun h0 => ?_⟩
      obtain ⟨ad, rfl, hcell⟩ := hc (by omega)
      rw [if_neg (by omega)]
      refine ⟨ad.add (l * ei.size), rfl, fun i hi j hj => ?_⟩
      rw [add_add', ← Nat.add_assoc, ← Nat.add_mul]
      exact hcell (l + i) (by omega) j hj
    split at h
    · simp at h; obtain ⟨rfl, rfl⟩ := h
      rw [hl.none', hh.none']
      have := out 0 n (by omega) (by omega)
      simp only [Nat.zero_add, Nat.sub_zero] at this
      exact ⟨_, by simp [Instr.sliceAt, run_underlying' ht, Instr.slice, run_bounds_nn, run_sizeOf' hei]; try rfl, by simpa using this⟩
    · rename_i k l
      simp at h; obtain ⟨rfl, rfl⟩ := h
      simp only [AllP, and_true] at hvs
      rw [hl.int, hh.none']
      exact ⟨_, by simp [Instr.sliceAt, run_underlying' ht, Instr.slice, run_bounds_ln hvs.1 hvs.2, run_sizeOf' hei]; try rfl, out l.toNat n (by omega) (by omega)⟩
    · rename_i k h'
      simp at h; obtain ⟨rfl, rfl⟩ := h
      simp only [AllP, and_true] at hvs
      rw [hl.none', hh.int]
      have := out 0 h'.toNat (by omega) (by omega)
      simp only [Nat.zero_add, Nat.sub_zero] at this
      exact ⟨_, by simp [Instr.sliceAt, run_underlying' ht, Instr.slice, run_bounds_nh hvs.1 (show h' ≤ cap by omega), run_sizeOf' hei]; try rfl, by simpa using this⟩
    · rename_i k l k' h'
      simp at h; obtain ⟨rfl, rfl⟩ := h
      simp only [AllP, and_true] at hvs
      rw [hl.int, hh.int]
      exact ⟨_, by simp [Instr.sliceAt, run_underlying' ht, Instr.slice, run_bounds_lh hvs.1 hvs.2.1 (show h' ≤ cap by omega), run_sizeOf' hei]; try rfl, out l.toNat h'.toNat (by omega) (by omega)⟩
    · simp at h
  · simp only [Rep] at hx; subst hx
    split at h
    · simp at h; obtain ⟨rfl, rfl⟩ := h
      rw [hl.none', hh.none']
      exact ⟨_, by simp [Instr.sliceAt, run_underlying' ht, Instr.slice, run_bounds_nn, run_sizeOf' hei]; try rfl, Rep.val _⟩
    · simp at h; obtain ⟨rfl, rfl⟩ := h
      simp only [AllP, and_true] at hvs; subst hvs
      rw [hl.int, hh.none']
      exact ⟨_, by simp [Instr.sliceAt, run_underlying' ht, Instr.slice, run_bounds_ln (l := 0) (len := 0) (by omega) (by simp), run_sizeOf' hei]; try rfl, Rep.val _⟩
    · simp at h; obtain ⟨rfl, rfl⟩ := h
      simp only [AllP, and_true] at hvs; subst hvs
      rw [hl.none', hh.int]
      exact ⟨_, by simp [Instr.sliceAt, run_underlying' ht, Instr.slice, run_bounds_nh (h := 0) (cap := 0) (by omega) (by simp), run_sizeOf' hei]; try rfl, Rep.val _⟩
    · simp at h; obtain ⟨rfl, rfl⟩ := h
      simp only [AllP, and_true] at hvs; obtain ⟨rfl, rfl⟩ := hvs
      rw [hl.int, hh.int]
      exact ⟨_, by simp [Instr.sliceAt, run_underlying' ht, Instr.slice, run_bounds_lh (l := 0) (h := 0) (cap := 0) (by omega) (by omega) (by simp), run_sizeOf' hei]; try rfl, Rep.val _⟩
    · simp at h
  · simp at h

theorem evSliceA_sound {t e : TypeId} {ei : TypeInfo} {len i off : Nat} {u : Value} {lo hi : Option D} {lv hv : Option Value} {vs : List DP} {d : D} (ht : P.underlying t = some (.array len e)) (hei : P.info? e = some ei) (h1 : ei.size = 1) (h : evSliceA len i off lo hi = some (vs, d)) (hvs : AllP vs)
    (hx : Rep M E (.own i off) u) (hl : OptRep M E lo lv) (hh : OptRep M E hi hv) : ∃ z, (Instr.sliceAt t u lv hv none).run P w = .ok z w ∧ Rep M E d z := by
  simp only [Rep] at hx
  obtain ⟨b, hE, rfl⟩ := hx
  have out : ∀ (l h : Nat), l ≤ h → h ≤ len → Rep M E (.os i (off + l) (h - l)) (.slice (some (if len = l then ⟨b, off, none⟩ else (⟨b, off, none⟩ : Addr).add (l * ei.size))) (h - l) (len - l)) := by
    intro l h h2 h3
    simp only [Rep]
    by_cases he : len = l
    · rw [if_pos he]
      exact ⟨b, off, _, hE, rfl, by omega, fun _ => by omega⟩
    · rw [if_neg he, add_own, h1]
      exact ⟨b, _, _, hE, rfl, by omega, fun _ => by omega⟩
  unfold evSliceA at h
  split at h
  · simp at h; obtain ⟨rfl, rfl⟩ := h
    rw [hl.none', hh.none']
    have := out 0 len (by omega) (by omega)
    simp only [Nat.add_zero, Nat.sub_zero] at this
    exact ⟨_, by simp [Instr.sliceAt, run_underlying' ht, run_sureAddr, run_bounds_nn, run_sizeOf' hei]; try rfl, by simpa using this⟩
  · rename_i k l
    simp at h; obtain ⟨rfl, rfl⟩ := h
    simp only [AllP, and_true] at hvs
    rw [hl.int, hh.none']
    exact ⟨_, by simp [Instr.sliceAt, run_underlying' ht, run_sureAddr, run_bounds_ln hvs.1 hvs.2, run_sizeOf' hei]; try rfl, out l.toNat len (by omega) (by omega)⟩
  · rename_i k h'
    simp at h; obtain ⟨rfl, rfl⟩ := h
    simp only [AllP, and_true] at hvs
    rw [hl.none', hh.int]
    have := out 0 h'.toNat (by omega) (by omega)
    simp only [Nat.add_zero, Nat.sub_zero] at this
    exact ⟨_, by simp [Instr.sliceAt, run_underlying' ht, run_sureAddr, run_bounds_nh hvs.1 hvs.2, run_sizeOf' hei]; try rfl, by simpa using this⟩
  · rename_i k l k' h'
    simp at h; obtain ⟨rfl, rfl⟩ := h
    simp only [AllP, and_true] at hvs
    rw [hl.int, hh.int]
    exact ⟨_, by simp [Instr.sliceAt, run_underlying' ht, run_sureAddr, run_bounds_lh hvs.1 hvs.2.1 hvs.2.2, run_sizeOf' hei]; try rfl, out l.toNat h'.toNat (by omega) (by omega)⟩
  · simp at h

theorem evUn_sound {o : UnOp} {x d : D} {u : Value} {vs : List DP} (h : evUn o x = some (vs, d)) (hvs : AllP vs) (hx : Rep M E x u) : ∃ z, (Op.unary o u).run P w = .ok z w ∧ Rep M E d z := by
  unfold evUn at h
  split at h <;> simp only [Option.some.injEq, Prod.mk.injEq, reduceCtorEq] at h <;> obtain ⟨rfl, rfl⟩ := h <;> simp only [Rep] at hx <;> subst hx
  · exact ⟨_, by simp [Op.unary], Rep.val _⟩
  · simp only [AllP, and_true] at hvs
    exact ⟨_, by simp only [Op.unary, Op.intArith]; rw [wrap_fits hvs]; try rfl, Rep.val _⟩
  · exact ⟨_, by simp only [Op.unary, Op.intArith]; try rfl, Rep.val _⟩

theorem ownsRow_len {e : TypeId} {sz n : Nat} {v : Value} {xs : List Value} (h : w.ownsRow B e sz v n xs) : ∃ a cap, v = .slice a n cap := by
  rcases h.2 with ⟨rfl, rfl⟩ | ⟨g, cap, cur, rfl, _⟩
  · exact ⟨_, _, rfl⟩
  · exact ⟨_, _, rfl⟩

theorem evLen_sound {t : TypeId} {ty : TypeId} {ti : TI} {x d : D} {u : Value} (hti : tiOf P t = some ti) (h : evLen ti.kind ow x = some d) (hW : WRel B w0 M0 M E ow w) (hx : Rep M E x u) :
    ∃ z, (Builtin.len_ #[t] ty #[u]).run P w = .ok z w ∧ Rep M E d z := by
  obtain ⟨i, ds, hi, hd, rfl⟩ := tiOf_some hti
  unfold evLen at h
  split at h
  · rename_i s hk
    simp at h; subst h
    obtain rfl := tkOf_str hk
    simp only [Rep] at hx; subst hx
    exact ⟨_, by simp [Builtin.len_, run_underlying' hd, goInt], Rep.val _⟩
  · rename_i hk
    simp at h; subst h
    obtain ⟨rfl, _⟩ := tkOf_slice hk
    simp only [Rep] at hx; subst hx
    exact ⟨_, by simp [Builtin.len_, run_underlying' hd, goInt], Rep.val _⟩
  · rename_i hk
    simp at h; subst h
    obtain ⟨rfl, _⟩ := tkOf_slice hk
    simp only [Rep] at hx
    obtain ⟨a, cap, rfl, _, _⟩ := hx
    exact ⟨_, by simp [Builtin.len_, run_underlying' hd, goInt], Rep.val _⟩
  · rename_i hk
    simp at h; subst h
    obtain ⟨rfl, _⟩ := tkOf_slice hk
    simp only [Rep] at hx
    obtain ⟨b, o, cap, _, rfl, _⟩ := hx
    exact ⟨_, by simp [Builtin.len_, run_underlying' hd, goInt], Rep.val _⟩
  · rename_i r hk
    split at h <;> try (simp at h; done)
    rename_i o ho
    split at h
    · rename_i hro
      simp at h; subst h
      obtain ⟨rfl, _⟩ := tkOf_slice hk
      simp only [Rep] at hx
      obtain ⟨xs, hown, _⟩ := (hW.holds _ _ _ ho hx).toRow hro
      obtain ⟨a, cap, rfl⟩ := ownsRow_len hown
      exact ⟨_, by simp [Builtin.len_, run_underlying' hd, goInt], Rep.val _⟩
    · simp at h
  · simp at h

/-! ### parts of a value -/
theorem run_part_agg {e : TypeId} {td : TypeDesc} {ei : TypeInfo} {cs : Array Value} {off : Nat} {l : List D} {c : List D} (hd : P.underlying e = some td) (hi : P.info? e = some ei) (ha : aggOf td = true) (hr : RepL M E l cs.toList) (hc : cut l off ei.size = some c) :
    ∃ z, (part e cs off).run P w = .ok z w ∧ Rep M E (.ag c) z := by
  obtain ⟨us, hus, hrl⟩ := RepL.cut hr hc
  obtain ⟨h1, h2, h3⟩ := cut_spec hus
  refine ⟨.agg us.toArray, ?_, by simp only [Rep]; exact ⟨us.toArray, rfl, by simpa using hrl⟩⟩
  have e1 : cs.extract off (off + ei.size) = us.toArray := by
    apply Array.ext'
    apply List.ext_getElem?
    intro j
    by_cases hj : j < ei.size
    · have := h3 j hj
      simp only at *
      rw [List.toList_toArray, this]
      simp
      rw [List.getElem?_take_of_lt (by omega)]
      simp
    · rw [List.getElem?_eq_none (by simp; omega), List.getElem?_eq_none (by simp; omega)]
  simp [part, run_isAgg' hd, ha, run_sizeOf' hi, e1]

theorem run_part_one {e : TypeId} {td : TypeDesc} {cs : Array Value} {off : Nat} {l : List D} {d : D} (hd : P.underlying e = some td) (ha : aggOf td = false) (hr : RepL M E l cs.toList) (hc : l[off]? = some d) :
    ∃ z, (part e cs off).run P w = .ok z w ∧ Rep M E d z := by
  obtain ⟨u, hu, hr'⟩ := RepL.get hr hc
  refine ⟨u, ?_, hr'⟩
  have : cs[off]? = some u := by simpa using hu
  simp [part, run_isAgg' hd, ha, this]

theorem faggE_one {e : TypeId} (h : faggE P e = 1) : ∃ td, P.underlying e = some td ∧ aggOf td = true := by
  unfold faggE at h
  cases hu : P.underlying e with
  | none => rw [hu] at h; simp at h
  | some td =>
    rw [hu] at h
    refine ⟨td, rfl, ?_⟩
    cases ha : aggOf td with
    | true => rfl
    | false => simp [ha] at h
theorem faggE_zero {e : TypeId} (h : faggE P e = 0) : ∃ td, P.underlying e = some td ∧ aggOf td = false := by
  unfold faggE at h
  cases hu : P.underlying e with
  | none => rw [hu] at h; simp at h
  | some td =>
    rw [hu] at h
    refine ⟨td, rfl, ?_⟩
    cases ha : aggOf td with
    | false => rfl
    | true => simp [ha] at h

theorem evFieldV_sound {t : TypeId} {ti : TI} {k : Nat} {p d : D} {u : Value} (hti : tiOf P t = some ti) (h : evFieldV ti k p = some d) (hp : Rep M E p u) : ∃ z, (Instr.field t u k).run P w = .ok z w ∧ Rep M E d z := by
  obtain ⟨i, ds, hi, hd, rfl⟩ := tiOf_some hti
  unfold evFieldV at h
  split at h <;> try (simp at h; done)
  rename_i l
  simp only [Rep] at hp
  obtain ⟨cs, rfl, hr⟩ := hp
  split at h <;> try (simp at h; done)
  rename_i fs hk
  obtain ⟨F, rfl, rfl, hall⟩ := tkOf_struct hk
  have fact : ∀ o n (b : Nat), (F.toList.map fun f => (f.offset, P.cellsOf f.type))[k]? = some (o, n) → (faggOf P (.struct F))[k]? = some b → ∃ f fi, F[k]? = some f ∧ P.info? f.type = some fi ∧ f.offset = o ∧ fi.size = n ∧ faggE P f.type = b := by
    intro o n b h1 h2
    simp only [List.getElem?_map, Option.map_eq_some_iff, Prod.mk.injEq] at h1
    obtain ⟨f, hf, h3, h4⟩ := h1
    obtain ⟨fi, hfi⟩ := Option.isSome_iff_exists.1 (hall f (List.mem_of_getElem? hf))
    refine ⟨f, fi, by simpa using hf, hfi, h3, by simpa [Program.cellsOf, hfi] using h4, ?_⟩
    simp only [faggOf, List.getElem?_map, hf, Option.map_some, Option.some.injEq] at h2
    exact h2
  split at h
  · rename_i o n h1 h2
    split at h <;> try (simp at h; done)
    rename_i c hc
    simp at h; subst h
    obtain ⟨f, fi, hf, hfi, rfl, rfl, hb⟩ := fact _ _ _ h1 h2
    obtain ⟨td, hu, ha⟩ := faggE_one hb
    obtain ⟨z, hz1, hz2⟩ := run_part_agg (w := w) hu hfi ha hr hc
    exact ⟨z, by simp [Instr.field, run_underlying' hd, hf, asAgg, hz1], hz2⟩
  · rename_i o n h1 h2
    obtain ⟨f, fi, hf, hfi, rfl, rfl, hb⟩ := fact _ _ _ h1 h2
    obtain ⟨td, hu, ha⟩ := faggE_zero hb
    obtain ⟨z, hz1, hz2⟩ := run_part_one (w := w) hu ha hr h
    exact ⟨z, by simp [Instr.field, run_underlying' hd, hf, asAgg, hz1], hz2⟩
  · simp at h

theorem evIndexV_sound {t : TypeId} {ti : TI} {x ix d : D} {u v : Value} {vs : List DP} (hti : tiOf P t = some ti) (h : evIndexV ti x ix = some (vs, d)) (hvs : AllP vs) (hx : Rep M E x u) (hix : Rep M E ix v) : ∃ z, (Instr.index t u v).run P w = .ok z w ∧ Rep M E d z := by
  obtain ⟨i, ds, hi, hd, rfl⟩ := tiOf_some hti
  unfold evIndexV at h
  split at h
  · rename_i s k q hk
    simp at h; obtain ⟨rfl, rfl⟩ := h
    obtain rfl := tkOf_str hk
    simp only [Rep] at hx hix; subst hx; subst hix
    simp only [AllP, and_true] at hvs
    have hq : q.toNat < s.size := by omega
    have hs : s.size = s.data.toList.length := rfl
    refine ⟨.int .u8 (bAt s q.toNat), ?_, Rep.val _⟩
    have e1 : s[q.toNat]? = some (s[q.toNat]'hq) := by simp [hq]
    have e2 : bAt s q.toNat = ((s[q.toNat]'hq).toNat : Int) := by
      rw [hs] at hq
      simp [bAt, List.getElem?_eq_getElem hq]
      rfl
    simp [Instr.index, asIntOf, run_underlying' hd, hvs.1, e1, e2]
  · rename_i len esz l k q hk
    obtain ⟨e, ei, rfl, hei, rfl⟩ := tkOf_array hk
    simp only [Rep] at hx hix; subst hix
    obtain ⟨cs, rfl, hr⟩ := hx
    split at h
    · rename_i hf
      split at h <;> try (simp at h; done)
      rename_i c hc
      simp at h; obtain ⟨rfl, rfl⟩ := h
      simp only [AllP, and_true] at hvs
      simp only [faggOf, List.cons.injEq, and_true] at hf
      obtain ⟨td, hu, ha⟩ := faggE_one hf
      obtain ⟨z, hz1, hz2⟩ := run_part_agg (w := w) hu hei ha hr hc
      exact ⟨z, by simp [Instr.index, asIntOf, run_underlying' hd, hvs.1, hvs.2, run_sizeOf' hei, hz1], hz2⟩
    · rename_i hf
      split at h <;> try (simp at h; done)
      rename_i c hc
      simp at h; obtain ⟨rfl, rfl⟩ := h
      simp only [AllP, and_true] at hvs
      simp only [faggOf, List.cons.injEq, and_true] at hf
      obtain ⟨td, hu, ha⟩ := faggE_zero hf
      obtain ⟨z, hz1, hz2⟩ := run_part_one (w := w) hu ha hr hc
      exact ⟨z, by simp [Instr.index, asIntOf, run_underlying' hd, hvs.1, hvs.2, run_sizeOf' hei, hz1], hz2⟩
    · simp at h
  · simp at h
end
end Go.Sx
