import Derived.Test.YtnccclpjcidmeaaGreatDoorSxI2
namespace Go.Sx
open Go Go.RowKit

section
variable {P : Program} {T : TT} {B : Nat} {w0 w w' : World} {M0 M M' : Mem} {E E' : List Value} {ow : List Own}

theorem kaV_inj {a b : KA} (h : kaV a = kaV b) : a = b := by
  cases a <;> cases b <;> simp_all [kaV]
theorem kaVs_inj : ∀ {a b : List KA}, a.map kaV = b.map kaV → a = b
  | [], [], _ => rfl
  | [], _ :: _, h => by simp at h
  | _ :: _, [], h => by simp at h
  | x :: a, y :: b, h => by
    simp at h
    rw [kaV_inj h.1, kaVs_inj h.2]
theorem kvV_inj {a b : KV} (h : kvV a = kvV b) : a = b := by
  cases a <;> cases b <;> simp [kvV] at h ⊢ <;> first | exact h | exact kaVs_inj h

theorem ba_beq (x y : ByteArray) : (x == y) = true ↔ x = y := by
  cases x with | mk a => cases y with | mk b =>
  show (a == b) = true ↔ _
  simp

theorem sameBits_ka (n : Nat) : ∀ v : KA, Instr.sameBits n (kaV v) (kaV v) = true
  | .i _ _ => by simp [kaV, Instr.sameBits]
  | .s _ => by simp [kaV, Instr.sameBits, ba_beq]
  | .b _ => by simp [kaV, Instr.sameBits]
theorem sameBits_kas (n : Nat) : ∀ l : List KA, ((l.map kaV).zip (l.map kaV)).all (fun (x, y) => Instr.sameBits n x y) = true
  | [] => rfl
  | a :: l => by
    simp only [List.map_cons, List.zip_cons_cons, List.all_cons, Bool.and_eq_true]
    exact ⟨sameBits_ka n a, sameBits_kas n l⟩
theorem sameBits_kv (v : KV) : Instr.sameBits 10000 (kvV v) (kvV v) = true := by
  cases v with
  | i => simp [kvV, Instr.sameBits]
  | s => simp [kvV, Instr.sameBits, ba_beq]
  | b => simp [kvV, Instr.sameBits]
  | st l =>
    simp only [kvV, Instr.sameBits, Bool.and_eq_true]
    exact ⟨by simp, sameBits_kas 9999 l⟩

theorem ksOf_td {td : TypeDesc} {ti : TI} {sh : KS} (hk : ti.kind = tkOf P td) (h : ksOf ti = some sh) : (∃ k, td = .int k ∧ sh = .i k) ∨ (td = .string ∧ sh = .s) ∨ (td = .bool ∧ sh = .b) ∨ (∃ ks, sh = .st ks ∧ ti.more.flat = some ks) := by
  unfold ksOf at h
  split at h
  · rename_i k hk'; simp at h; subst h; exact .inl ⟨k, tkOf_int (hk ▸ hk'), rfl⟩
  · rename_i hk'; simp at h; subst h; exact .inr (.inl ⟨tkOf_str (hk ▸ hk'), rfl⟩)
  · rename_i hk'; simp at h; subst h; exact .inr (.inr (.inl ⟨tkOf_bool (hk ▸ hk'), rfl⟩))
  · split at h
    · rename_i ks hf; simp at h; subst h; exact .inr (.inr (.inr ⟨ks, rfl, hf⟩))
    · simp at h
  · simp at h

def kaD (l : List KA) : List D := l.map fun x => .v (kaV x)
theorem kaD_rep : ∀ l : List KA, RepL M E (kaD l) (l.map kaV)
  | [] => RepL.nil
  | _ :: l => RepL.cons (Rep.val _) (kaD_rep l)
theorem kaSh_lt {x : KA} (h : kaSh x < 3) : (∃ n, x = .i .i64 n) ∨ (∃ c, x = .s c) ∨ (∃ c, x = .b c) := by
  cases x with
  | i k n => cases k <;> simp [kaSh] at h <;> exact .inl ⟨n, rfl⟩
  | s c => exact .inr (.inl ⟨c, rfl⟩)
  | b c => exact .inr (.inr ⟨c, rfl⟩)
theorem evEqL_ka : ∀ {ks : List Nat} {a b : List KA}, (∀ k ∈ ks, k < 3) → a.map kaSh = ks → b.map kaSh = ks → evEqL ks (kaD a) (kaD b) = some (decide (a = b))
  | ks, [], [], _, ha, _ => by simp at ha; subst ha; simp [kaD, evEqL]
  | ks, [], y :: b, _, ha, hb => by simp at ha; subst ha; simp at hb
  | ks, x :: a, [], _, ha, hb => by simp at hb; subst hb; simp at ha
  | ks, x :: a, y :: b, hks, ha, hb => by
    simp only [List.map_cons] at ha hb
    subst ha
    simp only [List.cons.injEq] at hb
    have ih := evEqL_ka (ks := a.map kaSh) (a := a) (b := b) (fun k hk => hks k (by simp [hk])) rfl hb.2
    have e1 : kaD (x :: a) = .v (kaV x) :: kaD a := rfl
    have e2 : kaD (y :: b) = .v (kaV y) :: kaD b := rfl
    rw [e1, e2]
    have h1 := hb.1
    have h2 : kaSh x < 3 := hks _ (by simp)
    have h3 : kaSh y < 3 := by rw [h1]; exact h2
    rcases kaSh_lt h2 with ⟨n, rfl⟩ | ⟨c, rfl⟩ | ⟨c, rfl⟩ <;> rcases kaSh_lt h3 with ⟨n', rfl⟩ | ⟨c', rfl⟩ | ⟨c', rfl⟩ <;> simp [kaSh] at h1
    · simp only [kaSh, kaV, evEqL, ih, if_true, Option.some.injEq]
      rw [Bool.eq_iff_iff]; simp
    · simp only [kaSh, kaV, evEqL, ih, Option.some.injEq]
      rw [Bool.eq_iff_iff]; simp
    · simp only [kaSh, kaV, evEqL, ih, Option.some.injEq]
      rw [Bool.eq_iff_iff]; simp

theorem flatFs_lt : ∀ {fs : List Field} {i : Nat} {ks : List Nat}, flatFs P i fs = some ks → ∀ k ∈ ks, k < 3
  | [], i, ks, h => by simp [flatFs] at h; subst h; simp
  | f :: fs, i, ks, h => by
    simp only [flatFs] at h
    split at h
    · rename_i k0 hk0
      split at h
      · split at h
        · rename_i ks' hks'
          simp at h; subst h
          intro k hk
          simp at hk
          rcases hk with rfl | hk
          · unfold flatK at hk0
            split at hk0 <;> simp at hk0 <;> omega
          · exact flatFs_lt hks' k hk
        · simp at h
      · simp at h
    · simp at h

/-- A struct's type whose fields are compared one by one. -/
theorem flat_some {kt : TypeId} {ti : TI} {ks : List Nat} (hti : tiOf P kt = some ti) (h : ti.more.flat = some ks) : ∃ fs, P.underlying kt = some (.struct fs) ∧ flatFs P 0 fs.toList = some ks ∧ P.stoodInHeld kt = false := by
  obtain ⟨i, ds, hi, hd, rfl⟩ := tiOf_some hti
  simp only [flatOf] at h
  split at h
  · rename_i fs
    split at h
    · rename_i ks' hks'
      split at h
      · rename_i hc
        simp at h; subst h
        exact ⟨fs, hd, hks', hc.1⟩
      · simp at h
    · simp at h
  · simp at h

theorem sameNow_kv {td : TypeDesc} {sh : KS} (h : (∃ k, td = .int k ∧ sh = .i k) ∨ (td = .string ∧ sh = .s) ∨ (td = .bool ∧ sh = .b)) {a b : KV} (ha : kvSh a = sh) (hb : kvSh b = sh) : Instr.sameNow td (kvV a) (kvV b) = some (decide (a = b)) := by
  rcases h with ⟨k, rfl, rfl⟩ | ⟨rfl, rfl⟩ | ⟨rfl, rfl⟩
  · cases a <;> simp [kvSh] at ha
    cases b <;> simp [kvSh] at hb
    subst ha; subst hb
    simp [kvV, Instr.sameNow]
    rw [Bool.eq_iff_iff]; simp
  · cases a <;> simp [kvSh] at ha
    cases b <;> simp [kvSh] at hb
    simp [kvV, Instr.sameNow]
    rw [Bool.eq_iff_iff]; simp [ba_beq]
  · cases a <;> simp [kvSh] at ha
    cases b <;> simp [kvSh] at hb
    simp [kvV, Instr.sameNow]
    rw [Bool.eq_iff_iff]; simp

def FindOk (key : KV) (es : List MapEntry) (i : Nat) : Option (Nat × Value) → Prop
  | some (j, v) => i ≤ j ∧ ∃ e, es[j - i]? = some e ∧ e.key = kvV key ∧ v = e.val
  | none => ∀ e ∈ es, e.key ≠ kvV key

theorem FindOk.here {key : KV} {e : MapEntry} {es : List MapEntry} {i : Nat} (h : e.key = kvV key) : FindOk key (e :: es) i (some (i, e.val)) := ⟨Nat.le_refl _, e, by simp, h, rfl⟩
theorem FindOk.next {key k : KV} {e : MapEntry} {es : List MapEntry} {i : Nat} {r : Option (Nat × Value)} (h1 : e.key = kvV k) (hkk : key ≠ k) (h2 : FindOk key es (i + 1) r) : FindOk key (e :: es) i r := by
  cases r with
  | none =>
    intro e' he'
    simp at he'
    rcases he' with rfl | he'
    · rw [h1]; exact fun e => hkk (kvV_inj e).symm
    · exact h2 e' he'
  | some p =>
    obtain ⟨j, v⟩ := p
    obtain ⟨hle, e', h3, h4⟩ := h2
    refine ⟨by omega, e', ?_, h4⟩
    rw [show j - i = (j - (i + 1)) + 1 by omega]
    simpa using h3

theorem findNow_spec {td : TypeDesc} {sh : KS} (h : (∃ k, td = .int k ∧ sh = .i k) ∨ (td = .string ∧ sh = .s) ∨ (td = .bool ∧ sh = .b)) {key : KV} (hk : kvSh key = sh) : ∀ (es : List MapEntry) (i : Nat), (∀ e ∈ es, ∃ k, e.key = kvV k ∧ kvSh k = sh) →
    ∃ r, Instr.findNow td (kvV key) es i = some r ∧ FindOk key es i r
  | [], i, _ => ⟨none, rfl, fun e he => by simp at he⟩
  | e :: es, i, hes => by
    obtain ⟨k, hk1, hk2⟩ := hes e (by simp)
    have hs := sameNow_kv h hk hk2
    rw [← hk1] at hs
    by_cases hkk : key = k
    · subst hkk
      exact ⟨some (i, e.val), by simp [Instr.findNow, hs], .here hk1⟩
    · obtain ⟨r, h1, h2⟩ := findNow_spec h hk es (i + 1) (fun e' he' => hes e' (by simp [he']))
      exact ⟨r, by simp [Instr.findNow, hs, hkk, h1], .next hk1 hkk h2⟩

theorem run_equal_st {kt : TypeId} {ti : TI} {ks : List Nat} (hti : tiOf P kt = some ti) (h : ti.more.flat = some ks) {a b : List KA} (ha : a.map kaSh = ks) (hb : b.map kaSh = ks) : (Op.equal kt (kvV (.st a)) (kvV (.st b))).run P w = .ok (decide (a = b)) w := by
  obtain ⟨fs, hd, hfs, hst⟩ := flat_some hti h
  have hf : P.fieldsOf kt = fs := by simp [Program.fieldsOf, hd]
  show (Op.equalIn 10000 kt (.agg (a.map kaV).toArray) (.agg (b.map kaV).toArray)).run P w = _
  rw [run_equalIn_struct w 9999 kt _ _ (by rw [hf]; exact hd) hst, hf]
  exact eqFields_flat (M := fun _ => none) (E := []) (d := 9998) hfs (evEqL_ka (flatFs_lt hfs) ha hb) (kaD_rep a) (kaD_rep b) rfl rfl

theorem findAsking_spec {kt : TypeId} {ti : TI} {ks : List Nat} (hti : tiOf P kt = some ti) (h : ti.more.flat = some ks) {a : List KA} (hk : a.map kaSh = ks) : ∀ (es : List MapEntry) (i : Nat), (∀ e ∈ es, ∃ k, e.key = kvV k ∧ kvSh k = .st ks) →
    ∃ r, (Instr.findAsking kt (kvV (.st a)) es i).run P w = .ok r w ∧ FindOk (.st a) es i r
  | [], i, _ => ⟨none, by simp [Instr.findAsking], fun e he => by simp at he⟩
  | e :: es, i, hes => by
    obtain ⟨k, hk1, hk2⟩ := hes e (by simp)
    cases k with
    | st b =>
      simp only [kvSh, KS.st.injEq] at hk2
      have hs := run_equal_st (w := w) hti h hk hk2
      rw [← hk1] at hs
      by_cases hkk : a = b
      · subst hkk
        exact ⟨some (i, e.val), by simp [Instr.findAsking, hs], .here hk1⟩
      · obtain ⟨r, h1, h2⟩ := findAsking_spec hti h hk es (i + 1) (fun e' he' => hes e' (by simp [he']))
        exact ⟨r, by simp [Instr.findAsking, hs, hkk, h1], .next hk1 (fun e => hkk (by cases e; rfl)) h2⟩
    | i => simp [kvSh] at hk2
    | s => simp [kvSh] at hk2
    | b => simp [kvSh] at hk2

theorem findNow_struct {fs : Array Field} {v : Value} : ∀ (es : List MapEntry) (i : Nat), Instr.findNow (.struct fs) v es i = none ∨ es = []
  | [], _ => .inr rfl
  | e :: es, i => .inl (by simp [Instr.findNow, Instr.sameNow])

theorem run_findKey {kt : TypeId} {ti : TI} {sh : KS} (hti : tiOf P kt = some ti) (h : ksOf ti = some sh) {key : KV} (hk : kvSh key = sh) {es : List MapEntry} (hes : ∀ e ∈ es, ∃ k, e.key = kvV k ∧ kvSh k = sh) :
    ∃ r, (Instr.findKey kt (kvV key) es).run P w = .ok r w ∧ FindOk key es 0 r := by
  obtain ⟨inf, td, hi, hd, rfl⟩ := tiOf_some hti
  rcases ksOf_td (td := td) rfl h with h' | h' | h' | ⟨ks, rfl, hf⟩
  · obtain ⟨r, h1, h2⟩ := findNow_spec (.inl h') hk es 0 hes
    exact ⟨r, by simp [Instr.findKey, run_underlying' hd, h1], h2⟩
  · obtain ⟨r, h1, h2⟩ := findNow_spec (.inr (.inl h')) hk es 0 hes
    exact ⟨r, by simp [Instr.findKey, run_underlying' hd, h1], h2⟩
  · obtain ⟨r, h1, h2⟩ := findNow_spec (.inr (.inr h')) hk es 0 hes
    exact ⟨r, by simp [Instr.findKey, run_underlying' hd, h1], h2⟩
  · cases key with
    | st a =>
      simp only [kvSh, KS.st.injEq] at hk
      obtain ⟨r, h1, h2⟩ := findAsking_spec (w := w) hti hf hk es 0 hes
      obtain ⟨fs, hd', _, _⟩ := flat_some hti hf
      refine ⟨r, ?_, h2⟩
      simp only [Instr.findKey, Sem.run_bind, run_underlying' hd', Result.andThen_ok]
      rcases findNow_struct (fs := fs) (v := kvV (.st a)) es 0 with h3 | rfl
      · rw [h3]; exact h1
      · simp [Instr.findAsking] at h1
        subst h1
        simp [Instr.findNow]
    | i => simp [kvSh] at hk
    | s => simp [kvSh] at hk
    | b => simp [kvSh] at hk

theorem checkFields {em : Bool} {n : Nat} {xs : Array Value} : ∀ (fs : List Field) (i : Nat) (ks : List Nat), flatFs P i fs = some ks → xs.size = i + ks.length →
    (forIn fs PUnit.unit (fun f _ => do
        if f.name ≠ "_" then Instr.checkKey em (n + 1) f.type (← part f.type xs f.offset)
        pure (ForInStep.yield PUnit.unit)) : Sem PUnit).run P w = .ok PUnit.unit w
  | [], _, _, _, _ => by simp
  | f :: fs, i, ks, h, hx => by
    simp only [flatFs] at h
    split at h
    · rename_i k0 hk0
      split at h
      · rename_i hc
        split at h
        · rename_i ks' hks'
          simp at h; subst h
          have hp : P.plainKey f.type = true := by
            unfold flatK at hk0
            split at hk0 <;> simp at hk0 <;> rename_i hu <;> simp [Program.plainKey, hu]
          have hlt : f.offset < xs.size := by rw [hc.1, hx]; simp
          have p1 := run_part_plain (P := P) w hp (xs := xs) (off := f.offset) (Array.getElem?_eq_getElem hlt)
          have p2 : (Instr.checkKey em (n + 1) f.type xs[f.offset]).run P w = .ok () w := by
            unfold flatK at hk0
            split at hk0 <;> simp at hk0 <;> rename_i hu <;> simp [Instr.checkKey, run_underlying' hu]
          simp only [List.forIn_cons, Sem.run_bind, hc.2, ne_eq, not_false_eq_true, if_true, Result.andThen_ok, p1, p2, Sem.run_pure]
          exact checkFields fs (i + 1) ks' hks' (by rw [hx]; simp; omega)
        · simp at h
      · simp at h
    · simp at h

theorem run_checkKey {kt : TypeId} {ti : TI} {sh : KS} (hti : tiOf P kt = some ti) (h : ksOf ti = some sh) {b : Bool} {n : Nat} {key : KV} (hk : kvSh key = sh) : (Instr.checkKey b (n + 2) kt (kvV key)).run P w = .ok () w := by
  obtain ⟨inf, td, hi, hd, rfl⟩ := tiOf_some hti
  rcases ksOf_td (td := td) rfl h with ⟨k, rfl, rfl⟩ | ⟨rfl, rfl⟩ | ⟨rfl, rfl⟩ | ⟨ks, rfl, hf⟩
  · simp [Instr.checkKey, run_underlying' hd]
  · simp [Instr.checkKey, run_underlying' hd]
  · simp [Instr.checkKey, run_underlying' hd]
  · cases key with
    | st a =>
      simp only [kvSh, KS.st.injEq] at hk
      obtain ⟨fs, hd', hfs, _⟩ := flat_some hti hf
      rw [show n + 2 = (n + 1) + 1 from rfl, Instr.checkKey]
      simp only [Sem.run_bind, run_underlying' hd', Result.andThen_ok, kvV]
      rw [← Array.forIn_toList]
      have hc := checkFields (P := P) (w := w) (em := b) (n := n) (xs := (a.map kaV).toArray) fs.toList 0 ks hfs (by rw [← hk]; simp)
      exact congrArg (fun r : Result PUnit => r.andThen fun _ w' => Sem.run P (pure ()) w') hc
    | i => simp [kvSh] at hk
    | s => simp [kvSh] at hk
    | b => simp [kvSh] at hk

theorem kasOf_rep : ∀ {l : List D} {ks : List KA} {us : List Value}, kasOf l = some ks → RepL M E l us → us = ks.map kaV
  | [], ks, us, h, hu => by
    simp [kasOf] at h; subst h
    simpa [RepL] using hu
  | d :: l, ks, us, h, hu => by
    simp only [RepL] at hu
    obtain ⟨u, r, rfl, h1, h2⟩ := hu
    unfold kasOf at h
    split at h
    · simp_all
    · rename_i e1; simp at e1; obtain ⟨rfl, rfl⟩ := e1
      split at h
      · rename_i r' hr; simp at h; subst h
        rw [kasOf_rep hr h2]
        simp only [Rep] at h1; subst h1; rfl
      · simp at h
    · rename_i e1; simp at e1; obtain ⟨rfl, rfl⟩ := e1
      split at h
      · rename_i r' hr; simp at h; subst h
        rw [kasOf_rep hr h2]
        simp only [Rep] at h1; subst h1; rfl
      · simp at h
    · rename_i e1; simp at e1; obtain ⟨rfl, rfl⟩ := e1
      split at h
      · rename_i r' hr; simp at h; subst h
        rw [kasOf_rep hr h2]
        simp only [Rep] at h1; subst h1; rfl
      · simp at h
    · simp at h

theorem kvOf_rep {d : D} {key : KV} {u : Value} (h : kvOf d = some key) (hu : Rep M E d u) : u = kvV key := by
  unfold kvOf at h
  split at h
  · simp at h; subst h; simpa only [Rep, kvV] using hu
  · simp at h; subst h; simpa only [Rep, kvV] using hu
  · simp at h; subst h; simpa only [Rep, kvV] using hu
  · split at h
    · rename_i ks hks
      simp at h; subst h
      simp only [Rep] at hu
      obtain ⟨us, rfl, h1⟩ := hu
      have := kasOf_rep hks h1
      simp only [kvV, ← this]
    · simp at h
  · simp at h

theorem zeroD_rep {t : TypeId} {ti : TI} {z : D} (hti : tiOf P t = some ti) (hz : zeroD ti = some z) : ∃ v, (zeroValue t).run P w = .ok v w ∧ Rep M E z v := by
  obtain ⟨i, td, hi, hd, rfl⟩ := tiOf_some hti
  unfold zeroD at hz
  split at hz <;> try (simp at hz; done)
  rename_i zz h1 h2
  cases hzz : i.zero with
  | none => simp [hzz] at h1
  | some zv =>
    refine ⟨zv, run_zeroValue' hi hzz, ?_⟩
    simp only [hzz, Option.map_some, Option.some.injEq] at h1
    subst h1
    simp only [zokOf, hzz] at h2
    split at hz
    · rename_i hagg
      simp at hz; subst hz
      simp only [Rep]
      cases zv with
      | agg cs => exact ⟨cs, rfl, by simpa [Value.cells] using RepL.vals _⟩
      | _ => simp_all
    · rename_i hagg
      split at hz <;> simp at hz
      rename_i x hx
      subst hz
      simp only [Rep]
      cases zv with
      | agg cs => simp_all
      | _ => simpa [Value.cells] using hx
end
end Go.Sx
