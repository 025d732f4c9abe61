import Derived.Test.YtlhocccopgiccaaGreatDoorVT
namespace Go.Proofs
open Go Go.Sx

def partA (c : Change) : ByteArray := bcat (bcat (bcat (bcat c.what ⟨#[32]⟩) (hexS c.lo)) ⟨#[46, 46]⟩) (hexS c.hi)
def partB (c : Change) : ByteArray := bcat (bcat (bcat (bcat ⟨#[58, 32]⟩ c.old) ⟨#[32, 45, 62, 32]⟩) c.new) ⟨#[10]⟩
def textK (l : List Change) : Nat → ByteArray
  | 0 => ⟨#[]⟩
  | k + 1 => bcat (bcat (textK l k) (partA (l.getD k default))) (partB (l.getD k default))
def ctText : Ct := { ι := List Change, inp := fun l => [slD 5 chD l], out := fun l => .v (.string (textK l l.length)), pre := fun l => fewB l = true }

theorem few_facts {l : List Change} (h : fewB l = true) : l.length ≤ 40 ∧ ∀ k, k < l.length → (l.getD k default).what.size ≤ 100 ∧ (l.getD k default).old.size ≤ 400 ∧ (l.getD k default).new.size ≤ 400 := by
  simp only [fewB, Bool.and_eq_true, decide_eq_true_eq, List.all_eq_true] at h
  refine ⟨h.2, fun k hk => ?_⟩
  have h2 := h.2
  have := h.1 l[k] (by rw [List.mem_take_iff_getElem]; exact ⟨k, by omega, rfl⟩)
  have e : l.getD k default = l[k] := by simp [List.getD_eq_getElem?_getD, hk]
  rw [e]
  simp only [shortB, Bool.not_eq_true', Bool.or_eq_false_iff, decide_eq_false_iff_not] at this
  omega
theorem size1 (a : UInt8) : (⟨#[a]⟩ : ByteArray).size = 1 := rfl
theorem size2 (a b : UInt8) : (⟨#[a, b]⟩ : ByteArray).size = 2 := rfl
theorem size4 (a b c d : UInt8) : (⟨#[a, b, c, d]⟩ : ByteArray).size = 4 := rfl
theorem size0 : (⟨#[]⟩ : ByteArray).size = 0 := rfl
theorem textK_size {l : List Change} (h : ∀ k, k < l.length → (l.getD k default).what.size ≤ 100 ∧ (l.getD k default).old.size ≤ 400 ∧ (l.getD k default).new.size ≤ 400) : ∀ k, k ≤ l.length → (textK l k).size ≤ 1000 * k
  | 0, _ => by simp [textK, size0]

  | k + 1, hk => by
    have := textK_size h k (by omega)
    have h1 := h k (by omega)
    have h2 := hexS_size (l.getD k default).lo
    have h3 := hexS_size (l.getD k default).hi
    simp only [textK, partA, partB, bcat_size, size1, size2, size4]
    omega

def Γc : Ctx := fun f => match f with
  | 90 => some .same
  | _ => none
theorem Γc_ok : CtxOk Tryz.prog GlT Γc := by
  intro f h hh
  simp only [Γc] at hh
  split at hh <;> simp at hh <;> subst hh
  exact same_ok
noncomputable def c66 : Code := (Tryz.f66.body).getD .skip
noncomputable def c35 : Code := (Tryz.f35.body).getD .skip
noncomputable def c37 : Code := (Tryz.f37.body).getD .skip
noncomputable def Γw : Ctx := fun f => match f with
  | 66 => some (.gen (inlW false Γc Tryz.T GlT Tryz.f66 c66))
  | _ => none
theorem Γw_ok : CtxOk Tryz.prog GlT Γw := by
  intro f h hh
  simp only [Γw] at hh
  split at hh <;> simp at hh <;> subst hh
  exact soundT_inlW Γc_ok Tryz.T_ok Tryz.mixed Tryz.func66 rfl (by kernel_rfl)
noncomputable def Γt : Ctx := fun f => match f with
  | 35 => some (.gen (inlW false Γw Tryz.T GlT Tryz.f35 c35))
  | 37 => some (.gen (inlW false Γ0 Tryz.T GlT Tryz.f37 c37))
  | 36 => some (.pure ctHex)
  | 38 => some (.pure ctHex)
  | _ => none
theorem Γt_ok : CtxOk Tryz.prog GlT Γt := by
  intro f h hh
  simp only [Γt] at hh
  split at hh <;> simp at hh <;> subst hh
  · exact soundT_inlW Γw_ok Tryz.T_ok Tryz.mixed Tryz.func35 rfl (by kernel_rfl)
  · exact soundT_inlW Γ0_ok Tryz.T_ok Tryz.mixed Tryz.func37 rfl (by kernel_rfl)
  · exact hex_ok
  · exact refHex_ok

def textSt (l : List Change) : Nat → St
  | 0 => ⟨[(3, .own 0 0), (6, slD 5 chD l), (7, .v (.int .i64 l.length)), (8, .v (.int .i64 0))], [.cells 83 [.v (.pointer none), .v (.slice none 0 0)]], []⟩
  | k + 1 => ⟨[(3, .own 0 0), (6, slD 5 chD l), (7, .v (.int .i64 l.length)), (8, .v (.int .i64 ((k + 1 : Nat) : Int)))], [.cells 83 [.own 0 0, .row 1], .bytes 5 (textK l (k + 1))], []⟩

set_option maxHeartbeats 1000000 in
theorem text_ok : Sound Tryz.prog GlT 18 ctText := by
  refine sound_by (cc := false) Γt_ok Tryz.T_ok Tryz.mixed Tryz.func18 rfl (by kernel_rfl) (fun _ => rfl) (fun _ _ => by show 1 ≤ 38; decide) ?_
  intro (l : List Change) (hl : fewB l = true)
  obtain ⟨hlen, hsz⟩ := few_facts hl
  have hts := textK_size hsz
  repeat first | refine WkO.of ?_ | refine Wk.of ?_ | refine WkP.of ?_
  refine ⟨0, Nat, textSt l, fun k => k ≤ l.length, fun k => l.length - k, fun _ => Nat.zero_le _, ⟨0, Nat.zero_le _, StLe.of (by repeat' (first | exact trivial | exact Ent.refl _ | exact rfl | refine And.intro ?_ ?_)) (by repeat' (first | exact trivial | exact EntL.refl _ | exact rfl | refine And.intro ?_ ?_))⟩, ?_⟩
  intro k hk
  match k, hk with
  | 0, hk =>
    repeat first | refine WkO.of ?_ | refine Wk.of ?_ | refine WkP.of ?_
    refine And.intro (fun h => ?_) (fun h => ?_)
    · have h : 0 < l.length := by simpa using h
      have hs := hsz 0 h
      have h2 := hexS_size (l.getD 0 default).lo
      have h3 := hexS_size (l.getD 0 default).hi
      repeat first | refine WkO.of ?_ | refine Wk.of ?_ | refine WkP.of ?_
      refine And.intro (by omega) ?_
      repeat first | refine WkO.of ?_ | refine Wk.of ?_ | refine WkP.of ?_
      refine And.intro (by kernel_rfl) ?_
      repeat first | refine WkO.of ?_ | refine Wk.of ?_ | refine WkP.of ?_
      refine And.intro (fun _ => ?_) ?_
      · show (l.getD 0 default).what.size + 1 ≤ _
        omega
      repeat first | refine WkO.of ?_ | refine Wk.of ?_ | refine WkP.of ?_
      refine ⟨(l.getD 0 default).lo, EntL.refl _, fun _ => trivial, ?_⟩
      repeat first | refine WkO.of ?_ | refine Wk.of ?_ | refine WkP.of ?_
      refine And.intro (fun _ => ?_) ?_
      · show (bcat (l.getD 0 default).what ⟨#[32]⟩).size + (hexS (l.getD 0 default).lo).size ≤ _
        simp only [bcat_size, size1]; omega
      repeat first | refine WkO.of ?_ | refine Wk.of ?_ | refine WkP.of ?_
      refine And.intro (fun _ => ?_) ?_
      · show (bcat (bcat (l.getD 0 default).what ⟨#[32]⟩) (hexS (l.getD 0 default).lo)).size + 2 ≤ _
        simp only [bcat_size, size1]; omega
      repeat first | refine WkO.of ?_ | refine Wk.of ?_ | refine WkP.of ?_
      refine ⟨(l.getD 0 default).hi, EntL.refl _, fun _ => trivial, ?_⟩
      repeat first | refine WkO.of ?_ | refine Wk.of ?_ | refine WkP.of ?_
      refine And.intro (fun _ => ?_) ?_
      · show (bcat (bcat (bcat (l.getD 0 default).what ⟨#[32]⟩) (hexS (l.getD 0 default).lo)) ⟨#[46, 46]⟩).size + (hexS (l.getD 0 default).hi).size ≤ _
        simp only [bcat_size, size1, size2]; omega
      repeat first | refine WkO.of ?_ | refine Wk.of ?_ | refine WkP.of ?_
      refine And.intro (by show 2 ≤ 19; decide) ?_
      repeat first | refine WkO.of ?_ | refine Wk.of ?_ | refine WkP.of ?_
      refine And.intro (by show 1 ≤ 20; decide) ?_
      repeat first | refine WkO.of ?_ | refine Wk.of ?_ | refine WkP.of ?_
      refine And.intro (fun _ => ?_) (fun h => Bool.noConfusion (show true = false from h))
      repeat first | refine WkO.of ?_ | refine Wk.of ?_ | refine WkP.of ?_
      refine And.intro (by show (partA (l.getD 0 default)).size ≤ _; simp only [partA, bcat_size, size1, size2]; omega) (And.intro (by show (partA (l.getD 0 default)).size * 1 ≤ _; simp only [partA, bcat_size, size1, size2]; omega) ?_)
      repeat first | refine WkO.of ?_ | refine Wk.of ?_ | refine WkP.of ?_
      refine And.intro (by show 2 + (l.getD 0 default).old.size ≤ _; omega) ?_
      repeat first | refine WkO.of ?_ | refine Wk.of ?_ | refine WkP.of ?_
      refine And.intro (by show (bcat ⟨#[58, 32]⟩ (l.getD 0 default).old).size + 4 ≤ _; simp only [bcat_size, size2]; omega) ?_
      repeat first | refine WkO.of ?_ | refine Wk.of ?_ | refine WkP.of ?_
      refine And.intro ?_ ?_
      · show (bcat (bcat ⟨#[58, 32]⟩ (l.getD 0 default).old) ⟨#[32, 45, 62, 32]⟩).size + (l.getD 0 default).new.size ≤ _
        simp only [bcat_size, size2, size4]; omega
      repeat first | refine WkO.of ?_ | refine Wk.of ?_ | refine WkP.of ?_
      refine And.intro ?_ ?_
      · show (bcat (bcat (bcat ⟨#[58, 32]⟩ (l.getD 0 default).old) ⟨#[32, 45, 62, 32]⟩) (l.getD 0 default).new).size + 1 ≤ _
        simp only [bcat_size, size2, size4]; omega
      repeat first | refine WkO.of ?_ | refine Wk.of ?_ | refine WkP.of ?_
      refine And.intro (by show 2 ≤ 19; decide) ?_
      repeat first | refine WkO.of ?_ | refine Wk.of ?_ | refine WkP.of ?_
      refine And.intro (by show 1 ≤ 20; decide) ?_
      repeat first | refine WkO.of ?_ | refine Wk.of ?_ | refine WkP.of ?_
      refine And.intro (fun h => Bool.noConfusion (show false = true from h)) (fun _ => ?_)
      repeat first | refine WkO.of ?_ | refine Wk.of ?_ | refine WkP.of ?_
      refine And.intro (fun h => Bool.noConfusion (show false = true from h)) (fun _ => ?_)
      repeat first | refine WkO.of ?_ | refine Wk.of ?_ | refine WkP.of ?_
      refine And.intro (by show (partA (l.getD 0 default)).size + (partB (l.getD 0 default)).size ≤ _; simp only [partA, partB, bcat_size, size1, size2, size4]; omega) (And.intro (by show ((partA (l.getD 0 default)).size + (partB (l.getD 0 default)).size) * 1 ≤ _; simp only [partA, partB, bcat_size, size1, size2, size4]; omega) ?_)
      repeat first | refine WkO.of ?_ | refine Wk.of ?_ | refine WkP.of ?_
      refine And.intro ⟨by decide, by decide⟩ ?_
      repeat first | refine WkO.of ?_ | refine Wk.of ?_ | refine WkP.of ?_
      refine ⟨1, by omega, (show l.length - 1 < l.length - 0 by omega), StLe.ren [0, 3] (by repeat' (first | exact trivial | exact Ent.refl _ | exact rfl | refine And.intro ?_ ?_)) (by repeat' (first | exact trivial | exact EntL.refl _ | exact rfl | refine And.intro ?_ ?_)) (by decide)⟩
    · have h : l.length = 0 := by simpa using h
      repeat first | refine WkO.of ?_ | refine Wk.of ?_ | refine WkP.of ?_
      refine And.intro (by show 1 ≤ 14; decide) ?_
      repeat first | refine WkO.of ?_ | refine Wk.of ?_ | refine WkP.of ?_
      refine And.intro (by kernel_rfl) ?_
      repeat first | refine WkO.of ?_ | refine Wk.of ?_ | refine WkP.of ?_
      refine EntR.str ?_
      rw [h]
      rfl
  | k + 1, hk =>
    repeat first | refine WkO.of ?_ | refine Wk.of ?_ | refine WkP.of ?_
    refine And.intro (fun h => ?_) (fun h => ?_)
    · have h : k + 1 < l.length := by have h' := h; simp at h'; omega
      have hs := hsz (k + 1) h
      have h2 := hexS_size (l.getD (k + 1) default).lo
      have h3 := hexS_size (l.getD (k + 1) default).hi
      have ht := hts (k + 1) (by omega)
      repeat first | refine WkO.of ?_ | refine Wk.of ?_ | refine WkP.of ?_
      refine And.intro (by omega) ?_
      repeat first | refine WkO.of ?_ | refine Wk.of ?_ | refine WkP.of ?_
      refine And.intro (by kernel_rfl) ?_
      repeat first | refine WkO.of ?_ | refine Wk.of ?_ | refine WkP.of ?_
      refine And.intro (fun _ => ?_) ?_
      · show (l.getD (k + 1) default).what.size + 1 ≤ _
        omega
      repeat first | refine WkO.of ?_ | refine Wk.of ?_ | refine WkP.of ?_
      refine ⟨(l.getD (k + 1) default).lo, EntL.refl _, fun _ => trivial, ?_⟩
      repeat first | refine WkO.of ?_ | refine Wk.of ?_ | refine WkP.of ?_
      refine And.intro (fun _ => ?_) ?_
      · show (bcat (l.getD (k + 1) default).what ⟨#[32]⟩).size + (hexS (l.getD (k + 1) default).lo).size ≤ _
        simp only [bcat_size, size1]; omega
      repeat first | refine WkO.of ?_ | refine Wk.of ?_ | refine WkP.of ?_
      refine And.intro (fun _ => ?_) ?_
      · show (bcat (bcat (l.getD (k + 1) default).what ⟨#[32]⟩) (hexS (l.getD (k + 1) default).lo)).size + 2 ≤ _
        simp only [bcat_size, size1]; omega
      repeat first | refine WkO.of ?_ | refine Wk.of ?_ | refine WkP.of ?_
      refine ⟨(l.getD (k + 1) default).hi, EntL.refl _, fun _ => trivial, ?_⟩
      repeat first | refine WkO.of ?_ | refine Wk.of ?_ | refine WkP.of ?_
      refine And.intro (fun _ => ?_) ?_
      · show (bcat (bcat (bcat (l.getD (k + 1) default).what ⟨#[32]⟩) (hexS (l.getD (k + 1) default).lo)) ⟨#[46, 46]⟩).size + (hexS (l.getD (k + 1) default).hi).size ≤ _
        simp only [bcat_size, size1, size2]; omega
      repeat first | refine WkO.of ?_ | refine Wk.of ?_ | refine WkP.of ?_
      refine And.intro (by show 2 ≤ 19; decide) ?_
      repeat first | refine WkO.of ?_ | refine Wk.of ?_ | refine WkP.of ?_
      refine And.intro (by show 1 ≤ 20; decide) ?_
      repeat first | refine WkO.of ?_ | refine Wk.of ?_ | refine WkP.of ?_
      refine And.intro (fun h => Bool.noConfusion (show false = true from h)) (fun _ => ?_)
      repeat first | refine WkO.of ?_ | refine Wk.of ?_ | refine WkP.of ?_
      refine And.intro (fun h => Bool.noConfusion (show false = true from h)) (fun _ => ?_)
      repeat first | refine WkO.of ?_ | refine Wk.of ?_ | refine WkP.of ?_
      refine And.intro (by show (textK l (k + 1)).size + (partA (l.getD (k + 1) default)).size ≤ _; simp only [partA, bcat_size, size1, size2]; omega) (And.intro (by show ((textK l (k + 1)).size + (partA (l.getD (k + 1) default)).size) * 1 ≤ _; simp only [partA, bcat_size, size1, size2]; omega) ?_)
      repeat first | refine WkO.of ?_ | refine Wk.of ?_ | refine WkP.of ?_
      refine And.intro (by show 2 + (l.getD (k + 1) default).old.size ≤ _; omega) ?_
      repeat first | refine WkO.of ?_ | refine Wk.of ?_ | refine WkP.of ?_
      refine And.intro (by show (bcat ⟨#[58, 32]⟩ (l.getD (k + 1) default).old).size + 4 ≤ _; simp only [bcat_size, size2]; omega) ?_
      repeat first | refine WkO.of ?_ | refine Wk.of ?_ | refine WkP.of ?_
      refine And.intro ?_ ?_
      · show (bcat (bcat ⟨#[58, 32]⟩ (l.getD (k + 1) default).old) ⟨#[32, 45, 62, 32]⟩).size + (l.getD (k + 1) default).new.size ≤ _
        simp only [bcat_size, size2, size4]; omega
      repeat first | refine WkO.of ?_ | refine Wk.of ?_ | refine WkP.of ?_
      refine And.intro ?_ ?_
      · show (bcat (bcat (bcat ⟨#[58, 32]⟩ (l.getD (k + 1) default).old) ⟨#[32, 45, 62, 32]⟩) (l.getD (k + 1) default).new).size + 1 ≤ _
        simp only [bcat_size, size2, size4]; omega
      repeat first | refine WkO.of ?_ | refine Wk.of ?_ | refine WkP.of ?_
      refine And.intro (by show 2 ≤ 19; decide) ?_
      repeat first | refine WkO.of ?_ | refine Wk.of ?_ | refine WkP.of ?_
      refine And.intro (by show 1 ≤ 20; decide) ?_
      repeat first | refine WkO.of ?_ | refine Wk.of ?_ | refine WkP.of ?_
      refine And.intro (fun h => Bool.noConfusion (show false = true from h)) (fun _ => ?_)
      repeat first | refine WkO.of ?_ | refine Wk.of ?_ | refine WkP.of ?_
      refine And.intro (fun h => Bool.noConfusion (show false = true from h)) (fun _ => ?_)
      repeat first | refine WkO.of ?_ | refine Wk.of ?_ | refine WkP.of ?_
      refine And.intro (by show (bcat (textK l (k + 1)) (partA (l.getD (k + 1) default))).size + (partB (l.getD (k + 1) default)).size ≤ _; simp only [partA, partB, bcat_size, size1, size2, size4]; omega) (And.intro (by show ((bcat (textK l (k + 1)) (partA (l.getD (k + 1) default))).size + (partB (l.getD (k + 1) default)).size) * 1 ≤ _; simp only [partA, partB, bcat_size, size1, size2, size4]; omega) ?_)
      repeat first | refine WkO.of ?_ | refine Wk.of ?_ | refine WkP.of ?_
      refine And.intro (show fitsI64 (((k + 1 : Nat) : Int) + 1) from ⟨by omega, by omega⟩) ?_
      repeat first | refine WkO.of ?_ | refine Wk.of ?_ | refine WkP.of ?_
      refine ⟨k + 2, by omega, (show l.length - (k + 2) < l.length - (k + 1) by omega), StLe.ren [0, 4] (by repeat' (first | exact trivial | exact Ent.refl _ | exact rfl | refine And.intro ?_ ?_)) (by repeat' (first | exact trivial | exact EntL.refl _ | exact rfl | refine And.intro ?_ ?_)) (by decide)⟩
    · have h : l.length = k + 1 := by have h' := h; simp at h'; omega
      repeat first | refine WkO.of ?_ | refine Wk.of ?_ | refine WkP.of ?_
      refine And.intro (by show 1 ≤ 14; decide) ?_
      repeat first | refine WkO.of ?_ | refine Wk.of ?_ | refine WkP.of ?_
      refine And.intro (by kernel_rfl) ?_
      repeat first | refine WkO.of ?_ | refine Wk.of ?_ | refine WkP.of ?_
      refine And.intro rfl ?_
      repeat first | refine WkO.of ?_ | refine Wk.of ?_ | refine WkP.of ?_
      refine EntR.str ?_
      rw [h]

set_option maxHeartbeats 1000000 in
theorem refText_ok : Sound Tryz.prog GlT 19 ctText := by
  refine sound_by (cc := false) Γt_ok Tryz.T_ok Tryz.mixed Tryz.func19 rfl (by kernel_rfl) (fun _ => rfl) (fun _ _ => by show 1 ≤ 42; decide) ?_
  intro (l : List Change) (hl : fewB l = true)
  obtain ⟨hlen, hsz⟩ := few_facts hl
  have hts := textK_size hsz
  repeat first | refine WkO.of ?_ | refine Wk.of ?_ | refine WkP.of ?_
  refine ⟨0, Nat, fun k => ⟨[(0, slD 5 chD l), (3, .v (.string (textK l k))), (4, .v (.int .i64 (k : Int)))], [], []⟩, fun k => k ≤ l.length, fun k => l.length - k, fun _ => Nat.zero_le _, ⟨0, Nat.zero_le _, StLe.of (by repeat' (first | exact trivial | exact Ent.refl _ | exact rfl | refine And.intro ?_ ?_)) trivial⟩, ?_⟩
  intro k hk
  have hk : k ≤ l.length := hk
  repeat first | refine WkO.of ?_ | refine Wk.of ?_ | refine WkP.of ?_
  refine And.intro (fun h => ?_) (fun h => ?_)
  · have h : k < l.length := by simpa using h
    have hs := hsz k h
    have h2 := hexS_size (l.getD k default).lo
    have h3 := hexS_size (l.getD k default).hi
    have ht := hts k (by omega)
    repeat first | refine WkO.of ?_ | refine Wk.of ?_ | refine WkP.of ?_
    refine And.intro (by omega) ?_
    repeat first | refine WkO.of ?_ | refine Wk.of ?_ | refine WkP.of ?_
    refine And.intro (by kernel_rfl) ?_
    repeat first | refine WkO.of ?_ | refine Wk.of ?_ | refine WkP.of ?_
    refine And.intro (fun _ => ?_) ?_
    · show (textK l k).size + (l.getD k default).what.size ≤ _
      omega
    repeat first | refine WkO.of ?_ | refine Wk.of ?_ | refine WkP.of ?_
    refine And.intro (fun _ => ?_) ?_
    · show (bcat (textK l k) (l.getD k default).what).size + 1 ≤ _
      simp only [bcat_size]; omega
    repeat first | refine WkO.of ?_ | refine Wk.of ?_ | refine WkP.of ?_
    refine ⟨(l.getD k default).lo, EntL.refl _, fun _ => trivial, ?_⟩
    repeat first | refine WkO.of ?_ | refine Wk.of ?_ | refine WkP.of ?_
    refine And.intro (fun _ => ?_) ?_
    · show (bcat (bcat (textK l k) (l.getD k default).what) ⟨#[32]⟩).size + (hexS (l.getD k default).lo).size ≤ _
      simp only [bcat_size, size1]; omega
    repeat first | refine WkO.of ?_ | refine Wk.of ?_ | refine WkP.of ?_
    refine And.intro (fun _ => ?_) ?_
    · show (bcat (bcat (bcat (textK l k) (l.getD k default).what) ⟨#[32]⟩) (hexS (l.getD k default).lo)).size + 2 ≤ _
      simp only [bcat_size, size1]; omega
    repeat first | refine WkO.of ?_ | refine Wk.of ?_ | refine WkP.of ?_
    refine ⟨(l.getD k default).hi, EntL.refl _, fun _ => trivial, ?_⟩
    repeat first | refine WkO.of ?_ | refine Wk.of ?_ | refine WkP.of ?_
    refine And.intro (fun _ => ?_) ?_
    · show (bcat (bcat (bcat (bcat (textK l k) (l.getD k default).what) ⟨#[32]⟩) (hexS (l.getD k default).lo)) ⟨#[46, 46]⟩).size + (hexS (l.getD k default).hi).size ≤ _
      simp only [bcat_size, size1, size2]; omega
    repeat first | refine WkO.of ?_ | refine Wk.of ?_ | refine WkP.of ?_
    refine And.intro (fun _ => ?_) ?_
    · show (bcat (bcat (bcat (bcat (bcat (textK l k) (l.getD k default).what) ⟨#[32]⟩) (hexS (l.getD k default).lo)) ⟨#[46, 46]⟩) (hexS (l.getD k default).hi)).size + 2 ≤ _
      simp only [bcat_size, size1, size2]; omega
    repeat first | refine WkO.of ?_ | refine Wk.of ?_ | refine WkP.of ?_
    refine And.intro (fun _ => ?_) ?_
    · show (bcat (bcat (bcat (bcat (bcat (bcat (textK l k) (l.getD k default).what) ⟨#[32]⟩) (hexS (l.getD k default).lo)) ⟨#[46, 46]⟩) (hexS (l.getD k default).hi)) ⟨#[58, 32]⟩).size + (l.getD k default).old.size ≤ _
      simp only [bcat_size, size1, size2]; omega
    repeat first | refine WkO.of ?_ | refine Wk.of ?_ | refine WkP.of ?_
    refine And.intro (fun _ => ?_) ?_
    · show (bcat (bcat (bcat (bcat (bcat (bcat (bcat (textK l k) (l.getD k default).what) ⟨#[32]⟩) (hexS (l.getD k default).lo)) ⟨#[46, 46]⟩) (hexS (l.getD k default).hi)) ⟨#[58, 32]⟩) (l.getD k default).old).size + 4 ≤ _
      simp only [bcat_size, size1, size2]; omega
    repeat first | refine WkO.of ?_ | refine Wk.of ?_ | refine WkP.of ?_
    refine And.intro (fun _ => ?_) ?_
    · show (bcat (bcat (bcat (bcat (bcat (bcat (bcat (bcat (textK l k) (l.getD k default).what) ⟨#[32]⟩) (hexS (l.getD k default).lo)) ⟨#[46, 46]⟩) (hexS (l.getD k default).hi)) ⟨#[58, 32]⟩) (l.getD k default).old) ⟨#[32, 45, 62, 32]⟩).size + (l.getD k default).new.size ≤ _
      simp only [bcat_size, size1, size2, size4]; omega
    repeat first | refine WkO.of ?_ | refine Wk.of ?_ | refine WkP.of ?_
    refine And.intro (fun _ => ?_) ?_
    · show (bcat (bcat (bcat (bcat (bcat (bcat (bcat (bcat (bcat (textK l k) (l.getD k default).what) ⟨#[32]⟩) (hexS (l.getD k default).lo)) ⟨#[46, 46]⟩) (hexS (l.getD k default).hi)) ⟨#[58, 32]⟩) (l.getD k default).old) ⟨#[32, 45, 62, 32]⟩) (l.getD k default).new).size + 1 ≤ _
      simp only [bcat_size, size1, size2, size4]; omega
    repeat first | refine WkO.of ?_ | refine Wk.of ?_ | refine WkP.of ?_
    refine And.intro (show fitsI64 ((k : Int) + 1) from ⟨by omega, by omega⟩) ?_
    repeat first | refine WkO.of ?_ | refine Wk.of ?_ | refine WkP.of ?_
    refine ⟨k + 1, (show k + 1 ≤ l.length by omega), (show l.length - (k + 1) < l.length - k by omega), StLe.of ⟨Ent.refl _, rfl, Ent.v ?_, rfl, Ent.refl _, rfl, trivial⟩ trivial⟩
    simp only [textK, partA, partB, bcat_assoc, Int.toNat_natCast]
  · have h : k = l.length := by simp at h; omega
    repeat first | refine WkO.of ?_ | refine Wk.of ?_ | refine WkP.of ?_
    subst h
    exact EntR.str rfl

noncomputable def Γl : Ctx := fun f => match f with
  | 15 => some (.pure ctFew)
  | 11 => some (.pure ctAlive)
  | 18 => some (.pure ctText)
  | 19 => some (.pure ctText)
  | _ => none
theorem Γl_ok : CtxOk Tryz.prog GlT Γl := by
  intro f h hh
  simp only [Γl] at hh
  split at hh <;> simp at hh <;> subst hh
  · exact few_ok
  · exact alive_ok
  · exact text_ok
  · exact refText_ok

set_option maxHeartbeats 600000 in
theorem lawTexts_ok : Sound Tryz.prog GlT 5 ctLawA := by
  refine sound_by (cc := false) Γl_ok Tryz.T_ok Tryz.mixed Tryz.func5 rfl (by kernel_rfl) (fun _ => rfl) (fun _ _ => by show 1 ≤ 16; decide) ?_
  intro (l : List Change) (hl : l.length ≤ 9223372036854775807)
  repeat first | refine WkO.of ?_ | refine Wk.of ?_ | refine WkP.of ?_
  refine ⟨l, EntL.refl _, hl, ?_⟩
  repeat first | refine WkO.of ?_ | refine Wk.of ?_ | refine WkP.of ?_
  refine ⟨l, EntL.refl _, fun h => ?_, ?_⟩
  · show fewB l = true
    simpa using h
  repeat first | refine WkO.of ?_ | refine Wk.of ?_ | refine WkP.of ?_
  refine ⟨l, EntL.refl _, fun h => ?_, ?_⟩
  · show fewB l = true
    simpa using h
  repeat first | refine WkO.of ?_ | refine Wk.of ?_ | refine WkP.of ?_
  refine ⟨(), EntL.refl _, fun _ => trivial, ?_⟩
  repeat first | refine WkO.of ?_ | refine Wk.of ?_ | refine WkP.of ?_
  refine EntR.bool ?_
  simp
#print axioms lawTexts_ok
end Go.Proofs
