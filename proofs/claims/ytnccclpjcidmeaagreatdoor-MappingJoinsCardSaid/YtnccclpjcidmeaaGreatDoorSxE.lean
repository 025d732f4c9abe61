import Derived.Test.YtnccclpjcidmeaaGreatDoorSxD
namespace Go.Sx
open Go Go.RowKit

section
variable {P : Program} {T : TT} {B : Nat} {w0 w : World} {M0 M : Mem} {E : List Value} {ow : List Own}

theorem tkOf_struct {d : TypeDesc} {fs : List (Nat × Nat)} (h : tkOf P d = .struct fs) : ∃ F : Array Field, d = .struct F ∧ fs = F.toList.map (fun f => (f.offset, P.cellsOf f.type)) ∧ ∀ f ∈ F.toList, (P.info? f.type).isSome = true := by
  cases d <;> simp only [tkOf] at h <;> try (first | (split at h <;> simp at h; done) | (simp at h; done))
  rename_i F
  split at h
  · rename_i hall
    simp at h
    exact ⟨F, rfl, h.symm, List.all_eq_true.1 hall⟩
  · simp at h

theorem tkOf_slice {d : TypeDesc} {e s b : Nat} (h : tkOf P d = .slice e s b) : d = .slice e ∧ ∃ i, P.info? e = some i ∧ s = i.size ∧ b = i.bytes := by
  cases d <;> simp only [tkOf] at h <;> try (first | (split at h <;> simp at h; done) | (simp at h; done))
  rename_i e'
  split at h
  · rename_i hs
    simp at h
    obtain ⟨rfl, rfl, rfl⟩ := h
    obtain ⟨i, hi⟩ := Option.isSome_iff_exists.1 hs
    exact ⟨rfl, i, hi, by simp [Program.cellsOf, hi], by simp [Program.bytesOf, hi]⟩
  · simp at h

theorem tkOf_array {d : TypeDesc} {n s : Nat} (h : tkOf P d = .array n s) : ∃ e i, d = .array n e ∧ P.info? e = some i ∧ s = i.size := by
  cases d <;> simp only [tkOf] at h <;> try (first | (split at h <;> simp at h; done) | (simp at h; done))
  rename_i n' e'
  split at h
  · rename_i hs
    simp at h
    obtain ⟨rfl, rfl⟩ := h
    obtain ⟨i, hi⟩ := Option.isSome_iff_exists.1 hs
    exact ⟨e', i, rfl, hi, by simp [Program.cellsOf, hi]⟩
  · simp at h

theorem tkOf_int {d : TypeDesc} {k : IntKind} (h : tkOf P d = .int k) : d = .int k := by
  cases d <;> simp only [tkOf] at h <;> try (first | (split at h <;> simp at h; done) | (simp at h; done))
  simp at h; rw [h]
theorem tkOf_str {d : TypeDesc} (h : tkOf P d = .str) : d = .string := by
  cases d <;> simp only [tkOf] at h <;> try (first | (split at h <;> simp at h; done) | (simp at h; done))
  rfl
theorem tkOf_bool {d : TypeDesc} (h : tkOf P d = .bool) : d = .bool := by
  cases d <;> simp only [tkOf] at h <;> try (first | (split at h <;> simp at h; done) | (simp at h; done))
  rfl
theorem tkOf_ptr {d : TypeDesc} {e : Nat} (h : tkOf P d = .ptr e) : d = .pointer e := by
  cases d <;> simp only [tkOf] at h <;> try (first | (split at h <;> simp at h; done) | (simp at h; done))
  simp at h; rw [h]
theorem tkOf_uptr {d : TypeDesc} (h : tkOf P d = .uptr) : d = .unsafePointer := by
  cases d <;> simp only [tkOf] at h <;> try (first | (split at h <;> simp at h; done) | (simp at h; done))
  rfl
theorem tkOf_map {d : TypeDesc} {k v : Nat} (h : tkOf P d = .map k v) : d = .map k v := by
  cases d <;> simp only [tkOf] at h <;> try (first | (split at h <;> simp at h; done) | (simp at h; done))
  simp at h; rw [h.1, h.2]

theorem run_fieldAt {s : TypeId} {F : Array Field} {k : Nat} {f : Field} {ad : Addr} {i : TypeInfo} (hs : P.underlying s = some (.struct F)) (hf : F[k]? = some f) (hi : P.info? f.type = some i) (h0 : i.size ≠ 0) :
    (Instr.fieldAt s (.pointer (some ad)) k).run P w = .ok (.pointer (some (ad.add f.offset))) w := by
  simp [Instr.fieldAt, run_underlying' hs, hf, run_sureAddr, fieldPlace, run_sizeOf' hi, h0]

theorem evField_sound {t : TypeId} {ti : TI} {fs : List (Nat × Nat)} {k : Nat} {p d : D} {u : Value} (hti : tiOf P t = some ti) (hk : ti.kind = .struct fs) (h : evField fs k p = some d) (hp : Rep M E p u) :
    ∃ x, (Instr.fieldAt t u k).run P w = .ok x w ∧ Rep M E d x := by
  obtain ⟨i, ds, hi, hd, rfl⟩ := tiOf_some hti
  obtain ⟨F, rfl, rfl, hall⟩ := tkOf_struct hk
  have key : ∀ o s, (F.toList.map (fun f => (f.offset, P.cellsOf f.type)))[k]? = some (o, s + 1) → ∀ ad, (Instr.fieldAt t (.pointer (some ad)) k).run P w = .ok (.pointer (some (ad.add o))) w := by
    intro o s ho ad
    simp only [List.getElem?_map, Option.map_eq_some_iff, Prod.mk.injEq] at ho
    obtain ⟨f, hf, rfl, hs⟩ := ho
    have hm : f ∈ F.toList := List.mem_of_getElem? hf
    obtain ⟨fi, hfi⟩ := Option.isSome_iff_exists.1 (hall f hm)
    refine run_fieldAt hd (by simpa using hf) hfi ?_
    simp [Program.cellsOf, hfi] at hs
    omega
  cases p <;> simp only [evField] at h <;> try (simp at h; done)
  case own j off =>
    split at h
    · rename_i o s ho
      simp at h; subst h
      simp only [Rep] at hp
      obtain ⟨b, hE, rfl⟩ := hp
      refine ⟨_, key _ _ ho _, ?_⟩
      simp only [Rep]
      exact ⟨b, hE, by rw [add_own]⟩
    · simp at h
  case pt m f =>
    split at h
    · rename_i o s ho
      simp at h; subst h
      simp only [Rep] at hp
      obtain ⟨ad, rfl, hc⟩ := hp
      refine ⟨_, key _ _ ho _, ?_⟩
      simp only [Rep]
      refine ⟨_, rfl, fun j hj => ?_⟩
      rw [add_add']
      exact hc (o + j) (by omega)
    · simp at h
  case rp j sz a off =>
    split at h
    · rename_i o s ho
      simp at h; subst h
      simp only [Rep] at hp
      obtain ⟨hv, b, hE, hb, rfl⟩ := hp
      refine ⟨_, key _ _ ho _, ?_⟩
      simp only [Rep]
      exact ⟨hv, b, hE, hb, by rw [add_add', Nat.add_assoc]⟩
    · simp at h

theorem run_indexAt_slice {t e : TypeId} {i : TypeInfo} {a : Option Addr} {ad : Addr} {n cap : Nat} {k : IntKind} {q : Int} (ht : P.underlying t = some (.slice e)) (hi : P.info? e = some i) (ha : a = some ad) (h0 : 0 ≤ q) (h1 : q < n) :
    (Instr.indexAt t (.slice a n cap) (.int k q)).run P w = .ok (.pointer (some (ad.add (q.toNat * i.size)))) w := by
  subst ha
  simp [Instr.indexAt, asIntOf, run_underlying' ht, run_sizeOf' hi, h0, h1]

theorem run_indexAt_array {t e : TypeId} {i : TypeInfo} {ad : Addr} {n : Nat} {k : IntKind} {q : Int} (ht : P.underlying t = some (.array n e)) (hi : P.info? e = some i) (h0 : 0 ≤ q) (h1 : q < n) :
    (Instr.indexAt t (.pointer (some ad)) (.int k q)).run P w = .ok (.pointer (some (ad.add (q.toNat * i.size)))) w := by
  simp [Instr.indexAt, asIntOf, run_underlying' ht, run_sizeOf' hi, run_sureAddr, h0, h1]

theorem evIndexAddr_sound {t : TypeId} {ti : TI} {x ix d : D} {u v : Value} {vs : List DP} (hti : tiOf P t = some ti) (h : evIndexAddr ti.kind ow x ix = some (vs, d)) (hvs : AllP vs) (hW : WRel B w0 M0 M E ow w)
    (hx : Rep M E x u) (hix : Rep M E ix v) :
    ∃ y, (Instr.indexAt t u v).run P w = .ok y w ∧ Rep M E d y := by
  obtain ⟨i, ds, hi, hd, rfl⟩ := tiOf_some hti
  unfold evIndexAddr at h
  split at h
  · rename_i e s b sz n f k q hk
    split at h <;> try (simp at h; done)
    rename_i hszs
    simp at h; obtain ⟨rfl, rfl⟩ := h
    obtain ⟨rfl, ei, hei, rfl, rfl⟩ := tkOf_slice hk
    simp [AllP] at hvs
    obtain ⟨h0, h1⟩ := hvs
    simp only [Rep] at hx hix
    subst hix
    obtain ⟨a, cap, rfl, hcap, hc⟩ := hx
    obtain ⟨ad, rfl, hcell⟩ := hc (by omega)
    refine ⟨_, run_indexAt_slice hd hei rfl h0 h1, ?_⟩
    subst hszs
    simp only [Rep]
    refine ⟨_, rfl, fun j hj => ?_⟩
    rw [add_add']
    exact hcell q.toNat (by omega) j hj
  · rename_i e s b r k q hk
    split at h <;> try (simp at h; done)
    rename_i o ho
    split at h
    · rename_i e' sz n f hro
      split at h <;> try (simp at h; done)
      rename_i hszs
      simp at h; obtain ⟨rfl, rfl⟩ := h
      obtain ⟨rfl, ei, hei, rfl, rfl⟩ := tkOf_slice hk
      simp [AllP] at hvs
      obtain ⟨h0, h1⟩ := hvs
      simp only [Rep] at hx hix
      subst hix
      obtain ⟨xs, hown, hrep, _⟩ := (hW.holds _ _ _ ho hx).toRow hro
      obtain ⟨g, cap, cur, rfl, h2, h3, h4, h5, h6⟩ := ownsRow_some hown (by omega)
      refine ⟨_, run_indexAt_slice hd hei rfl h0 h1, ?_⟩
      subst hszs
      simp only [Rep]
      exact ⟨_, _, hx, rfl, by simp⟩
    · simp at h
  · rename_i len esz r off k q hk
    simp at h; obtain ⟨rfl, rfl⟩ := h
    obtain ⟨e, ei, rfl, hei, rfl⟩ := tkOf_array hk
    simp only [AllP, and_true] at hvs
    simp only [Rep] at hx hix
    subst hix
    obtain ⟨b, hE, rfl⟩ := hx
    refine ⟨_, run_indexAt_array hd hei hvs.1 hvs.2, ?_⟩
    simp only [Rep]
    exact ⟨b, hE, by rw [add_own]⟩
  · rename_i len esz m f k q hk
    split at h <;> try (simp at h; done)
    rename_i hle
    simp at h; obtain ⟨rfl, rfl⟩ := h
    obtain ⟨e, ei, rfl, hei, rfl⟩ := tkOf_array hk
    simp only [AllP, and_true] at hvs
    simp only [Rep] at hx hix
    subst hix
    obtain ⟨ad, rfl, hc⟩ := hx
    refine ⟨_, run_indexAt_array hd hei hvs.1 hvs.2, ?_⟩
    simp only [Rep]
    refine ⟨_, rfl, fun j hj => ?_⟩
    rw [add_add']
    refine hc (q.toNat * ei.size + j) ?_
    have : (q.toNat + 1) * ei.size ≤ len * ei.size := Nat.mul_le_mul_right _ (by omega)
    rw [Nat.add_mul] at this
    omega
  · simp at h

end
end Go.Sx
