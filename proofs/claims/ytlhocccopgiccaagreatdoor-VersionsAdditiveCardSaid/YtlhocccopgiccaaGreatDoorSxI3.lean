import Derived.Test.YtlhocccopgiccaaGreatDoorSxI2
namespace Go.Sx
open Go Go.RowKit

section
variable {P : Program} {T : TT} {B : Nat} {w0 w w' : World} {M0 M M' : Mem} {E E' : List Value} {ow : List Own}

theorem kvV_inj {a b : KV} (h : kvV a = kvV b) : a = b := by
  cases a <;> cases b <;> simp_all [kvV]

theorem ksOf_td {td : TypeDesc} {sh : KS} (h : ksOf (tkOf P td) = some sh) : (∃ k, td = .int k ∧ sh = .i k) ∨ (td = .string ∧ sh = .s) ∨ (td = .bool ∧ sh = .b) := by
  unfold ksOf at h
  split at h <;> simp at h
  · rename_i k hk; subst h; exact .inl ⟨k, tkOf_int hk, rfl⟩
  · rename_i hk; subst h; exact .inr (.inl ⟨tkOf_str hk, rfl⟩)
  · rename_i hk; subst h; exact .inr (.inr ⟨tkOf_bool hk, rfl⟩)

theorem ba_beq (x y : ByteArray) : (x == y) = true ↔ x = y := by
  cases x with | mk a => cases y with | mk b =>
  show (a == b) = true ↔ _
  simp

theorem sameNow_kv {td : TypeDesc} {sh : KS} (h : ksOf (tkOf P td) = some sh) {a b : KV} (ha : kvSh a = sh) (hb : kvSh b = sh) : Instr.sameNow td (kvV a) (kvV b) = some (decide (a = b)) := by
  rcases ksOf_td h with ⟨k, rfl, rfl⟩ | ⟨rfl, rfl⟩ | ⟨rfl, rfl⟩
  · cases a <;> simp [kvSh] at ha
    cases b <;> simp [kvSh] at hb
    subst ha; subst hb
    simp [kvV, Instr.sameNow]
    rw [Bool.eq_iff_iff]; simp
  · cases a <;> simp [kvSh] at ha
    cases b <;> simp [kvSh] at hb
    simp [kvV, Instr.sameNow]
    rw [Bool.eq_iff_iff]; simp [ba_beq]
  · cases a <;> simp [kvSh] at ha
    cases b <;> simp [kvSh] at hb
    simp [kvV, Instr.sameNow]
    rw [Bool.eq_iff_iff]; simp

def FindOk (key : KV) (es : List MapEntry) (i : Nat) : Option (Nat × Value) → Prop
  | some (j, v) => i ≤ j ∧ ∃ e, es[j - i]? = some e ∧ e.key = kvV key ∧ v = e.val
  | none => ∀ e ∈ es, e.key ≠ kvV key

theorem findNow_spec {td : TypeDesc} {sh : KS} (h : ksOf (tkOf P td) = some sh) {key : KV} (hk : kvSh key = sh) : ∀ (es : List MapEntry) (i : Nat), (∀ e ∈ es, ∃ k, e.key = kvV k ∧ kvSh k = sh) →
    ∃ r, Instr.findNow td (kvV key) es i = some r ∧ FindOk key es i r
  | [], i, _ => ⟨none, rfl, fun e he => by simp at he⟩
  | e :: es, i, hes => by
    obtain ⟨k, hk1, hk2⟩ := hes e (by simp)
    have hs := sameNow_kv h hk hk2
    rw [← hk1] at hs
    by_cases hkk : key = k
    · subst hkk
      refine ⟨some (i, e.val), by simp [Instr.findNow, hs], Nat.le_refl _, e, by simp, hk1, rfl⟩
    · obtain ⟨r, h1, h2⟩ := findNow_spec h hk es (i + 1) (fun e' he' => hes e' (by simp [he']))
      refine ⟨r, by simp [Instr.findNow, hs, hkk, h1], ?_⟩
      cases r with
      | none =>
        intro e' he'
        simp at he'
        rcases he' with rfl | he'
        · rw [hk1]; exact fun e => hkk (kvV_inj e).symm
        · exact h2 e' he'
      | some p =>
        obtain ⟨j, v⟩ := p
        obtain ⟨hle, e', h3, h4⟩ := h2
        refine ⟨by omega, e', ?_, h4⟩
        rw [show j - i = (j - (i + 1)) + 1 by omega]
        simpa using h3

theorem run_findKey {kt : TypeId} {td : TypeDesc} {sh : KS} (hd : P.underlying kt = some td) (h : ksOf (tkOf P td) = some sh) {key : KV} (hk : kvSh key = sh) {es : List MapEntry} (hes : ∀ e ∈ es, ∃ k, e.key = kvV k ∧ kvSh k = sh) :
    ∃ r, (Instr.findKey kt (kvV key) es).run P w = .ok r w ∧ FindOk key es 0 r := by
  obtain ⟨r, h1, h2⟩ := findNow_spec h hk es 0 hes
  exact ⟨r, by simp [Instr.findKey, run_underlying' hd, h1], h2⟩

theorem run_checkKey {kt : TypeId} {td : TypeDesc} {sh : KS} (hd : P.underlying kt = some td) (h : ksOf (tkOf P td) = some sh) {b : Bool} {n : Nat} {v : Value} : (Instr.checkKey b (n + 1) kt v).run P w = .ok () w := by
  rcases ksOf_td h with ⟨k, rfl, rfl⟩ | ⟨rfl, rfl⟩ | ⟨rfl, rfl⟩ <;> simp [Instr.checkKey, run_underlying' hd]

theorem kvOf_rep {d : D} {key : KV} {u : Value} (h : kvOf d = some key) (hu : Rep M E d u) : u = kvV key := by
  unfold kvOf at h
  split at h <;> simp at h <;> subst h <;> simpa only [Rep, kvV] using hu

theorem zeroD_rep {t : TypeId} {ti : TI} {z : D} (hti : tiOf P t = some ti) (hz : zeroD ti = some z) : ∃ v, (zeroValue t).run P w = .ok v w ∧ Rep M E z v := by
  obtain ⟨i, td, hi, hd, rfl⟩ := tiOf_some hti
  unfold zeroD at hz
  split at hz <;> try (simp at hz; done)
  rename_i zz h1 h2
  cases hzz : i.zero with
  | none => simp [hzz] at h1
  | some zv =>
    refine ⟨zv, run_zeroValue' hi hzz, ?_⟩
    simp only [hzz, Option.map_some, Option.some.injEq] at h1
    subst h1
    simp only [zokOf, hzz] at h2
    split at hz
    · rename_i hagg
      simp at hz; subst hz
      simp only [Rep]
      cases zv with
      | agg cs => exact ⟨cs, rfl, by simpa [Value.cells] using RepL.vals _⟩
      | _ => simp_all
    · rename_i hagg
      split at hz <;> simp at hz
      rename_i x hx
      subst hz
      simp only [Rep]
      cases zv with
      | agg cs => simp_all
      | _ => simpa [Value.cells] using hx
end
end Go.Sx
