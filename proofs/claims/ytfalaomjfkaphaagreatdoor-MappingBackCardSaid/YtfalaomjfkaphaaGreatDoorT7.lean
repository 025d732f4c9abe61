import Derived.Test.YtfalaomjfkaphaaGreatDoorT6
set_option linter.unusedVariables false
set_option linter.unusedSimpArgs false
namespace Go.Proofs
open Go Go.Sx
variable {mx : Int} {pb : Bool}

/-! lines.Text -/
def ddB : ByteArray := ⟨#[46, 46]⟩
def hashB : ByteArray := ⟨#[32, 35, 32]⟩
def lnW1 (b : ByteArray) (l : Ln) : ByteArray := if l.lo = l.hi then bcat b (hexS l.lo) else bcat (bcat b (hexS l.lo)) (bcat ddB (hexS l.hi))
def lnWF (b : ByteArray) (l : Ln) : Nat → ByteArray
  | 0 => lnW1 b l
  | j + 1 => bcat (lnWF b l j) (bcat smB (l.fields.getD j default))
def lnWC (b : ByteArray) (l : Ln) : ByteArray := if l.com = ⟨#[]⟩ then lnWF b l l.fields.length else bcat (lnWF b l l.fields.length) (bcat hashB l.com)
def lnW (b : ByteArray) (l : Ln) : ByteArray := bcat (lnWC b l) nlB
def lnsW (ls : List Ln) : Nat → ByteArray
  | 0 => ⟨#[]⟩
  | k + 1 => lnW (lnsW ls k) (ls.getD k default)
def linesE : List Ln → Int
  | [] => 0
  | l :: r => if lnE l = 0 then linesE r else lnE l
def linesS (ls : List Ln) : ByteArray := if linesE ls = 0 then lnsW ls ls.length else ⟨#[]⟩
def lnFitT (l : Ln) : Prop := l.fields.length ≤ 1000 ∧ (∀ f ∈ l.fields, f.size ≤ 1000000 ∧ asciiB f = true) ∧ l.com.size ≤ 1000000
def ctLines : Ct := { ι := List Ln, inp := fun l => [lnsD l], out := fun l => .tu [.v (.string (linesS l)), .v (.int .i64 (linesE l))], pre := fun l => l.length ≤ 10000 ∧ ∀ x ∈ l, lnFitT x }
theorem linesE_at : ∀ {ls : List Ln} {k : Nat}, k < ls.length → (∀ j, j < k → lnE (ls.getD j default) = 0) → lnE (ls.getD k default) ≠ 0 → linesE ls = lnE (ls.getD k default)
  | [], k, h, _, _ => by simp at h
  | l :: r, 0, _, _, h => if_neg h
  | l :: r, k + 1, h, hd, hk => by
    have h0 : lnE l = 0 := hd 0 (by omega)
    rw [linesE, if_pos h0]
    exact linesE_at (ls := r) (by simpa using h) (fun j hj => hd (j + 1) (by omega)) hk
theorem linesE_0 : ∀ {ls : List Ln}, (∀ j, j < ls.length → lnE (ls.getD j default) = 0) → linesE ls = 0
  | [], _ => rfl
  | l :: r, h => by
    have h0 : lnE l = 0 := h 0 (by simp)
    rw [linesE, if_pos h0]
    exact linesE_0 (fun j hj => h (j + 1) (by simpa using hj))
theorem lnW1_size {b : ByteArray} {l : Ln} : (lnW1 b l).size ≤ b.size + 20 := by
  have h1 := hexS_size l.lo
  have h2 := hexS_size l.hi
  have h3 : ddB.size = 2 := rfl
  unfold lnW1
  split <;> simp only [bcat_size', h3] <;> omega
theorem lnWF_size {b : ByteArray} {l : Ln} (h : lnFitT l) : ∀ j, j ≤ l.fields.length → (lnWF b l j).size ≤ b.size + 20 + 1000002 * j
  | 0, _ => by have := lnW1_size (b := b) (l := l); show (lnW1 b l).size ≤ _; omega
  | j + 1, hj => by
    have h1 := lnWF_size (b := b) h j (by omega)
    have h2 := (h.2.1 _ (mem_getD (show j < l.fields.length by omega))).1
    have h3 : smB.size = 2 := rfl
    simp only [lnWF, bcat_size', h3]
    omega
theorem lnW_size {b : ByteArray} {l : Ln} (h : lnFitT l) : (lnW b l).size ≤ b.size + 1001002100 := by
  have h1 := lnWF_size (b := b) h _ (Nat.le_refl _)
  have h2 := h.1
  have h3 := h.2.2
  have h4 : hashB.size = 3 := rfl
  have h5 : nlB.size = 1 := rfl
  unfold lnW lnWC
  split <;> simp only [bcat_size', h4, h5] <;> omega
theorem lnsW_size {ls : List Ln} (h : ∀ x ∈ ls, lnFitT x) : ∀ k, k ≤ ls.length → (lnsW ls k).size ≤ 1001002100 * k
  | 0, _ => by show (0 : Nat) ≤ _; omega
  | k + 1, hk => by
    have h1 := lnsW_size h k (by omega)
    have h2 := lnW_size (b := lnsW ls k) (h _ (mem_getD (show k < ls.length by omega)))
    simp only [lnsW]
    omega
theorem lnFitT.fit {l : Ln} (h : lnFitT l) : lnFit l := ⟨by have := h.1; omega, fun f hf => ⟨by have := (h.2.1 f hf).1; omega, (h.2.1 f hf).2⟩, by have := h.2.2; omega⟩
noncomputable def Γlt (mx : Int) (pb : Bool) : Ctx := fun f => match f with
  | 51 => some (.pure ctLnCheck)
  | 45 => some (.pure ctHex)
  | 48 => some (.gen (inlW true (Γbw mx pb) Tryz.T (GlT mx pb) Tryz.f48 cWByte))
  | 49 => some (.gen (inlW true (Γbw mx pb) Tryz.T (GlT mx pb) Tryz.f49 cWStr))
  | 50 => some (.gen (inlW true Γ0 Tryz.T (GlT mx pb) Tryz.f50 cBStr))
  | _ => none
theorem Γlt_ok : CtxOk Tryz.prog (GlT mx pb) (Γlt mx pb) := by
  intro f h hh
  simp only [Γlt] at hh
  split at hh <;> simp at hh <;> subst hh
  · exact lnCheck_ok
  · exact hex_ok
  · exact soundT_inlW Γbw_ok Tryz.T_ok Tryz.mixed Tryz.func48 rfl (by kernel_rfl)
  · exact soundT_inlW Γbw_ok Tryz.T_ok Tryz.mixed Tryz.func49 rfl (by kernel_rfl)
  · exact soundT_inlW Γ0_ok Tryz.T_ok Tryz.mixed Tryz.func50 rfl (by kernel_rfl)
def bOw (b : ByteArray) : Nat → List Own
  | 0 => [.cells 93 [.v (.pointer none), .v (.slice none 0 0)]]
  | _ + 1 => [.cells 93 [.own 0 0, .row 1], .bytes 5 b]
theorem bcat_nil (b : ByteArray) : bcat ⟨#[]⟩ b = b := rfl
theorem ag5 {ρ : List Nat} {t : Nat} {a b c d e : D} (h : inDL ρ.length [a, b, c, d, e] = true) (h' : EntL [a, b, c, d, e] (renDL ρ [a, b, c, d, e])) : OwnRen ρ (.cells t [a, b, c, d, e]) (.cells t [a, b, c, d, e]) := ⟨rfl, h', h⟩
def lnSt (ls : List Ln) (k j : Nat) : St := ⟨[(4, .own 0 0), (6, .own 1 0), (10, lnsD ls), (11, .v (.int .i64 ls.length)), (12, .v (.int .i64 k)), (36, slD 1 strD (ls.getD k default).fields), (37, .v (.int .i64 (ls.getD k default).fields.length)), (38, .v (.int .i64 j))], [.cells 93 [.own 0 0, .row 2], .cells 42 [lnD (ls.getD k default) 0, lnD (ls.getD k default) 1, lnD (ls.getD k default) 2, lnD (ls.getD k default) 3, lnD (ls.getD k default) 4], .bytes 5 (lnWF (lnsW ls k) (ls.getD k default) j)], []⟩
set_option maxHeartbeats 4000000 in
theorem lines_ok : Sound Tryz.prog (GlT mx pb) 26 ctLines := by
  refine sound_by (cc := true) Γlt_ok Tryz.T_ok Tryz.mixed Tryz.func26 rfl (by kernel_rfl) (fun _ => rfl) (fun _ _ => by show 1 ≤ 56; decide) ?_
  rintro (ls : List Ln) ⟨hn, hfit⟩
  have hn : ls.length ≤ 10000 := hn
  repeat' (first | refine gw ?_ | (refine br (fun q_ => ?_) (fun q_ => ?_) <;> try simp only [Int.toNat_natCast, Nat.mul_one, Nat.add_zero] at q_) | (refine brF (fun q_ => ?_) (fun q_ => ?_) <;> try simp only [Int.toNat_natCast, Nat.mul_one, Nat.add_zero] at q_))
  refine ⟨0, Nat × Nat, fun | (k, z) => ⟨[(4, .own 0 0), (10, lnsD ls), (11, .v (.int .i64 ls.length)), (12, .v (.int .i64 k))], bOw (lnsW ls k) z, []⟩, fun | (k, z) => k ≤ ls.length ∧ (z = 0 → k = 0) ∧ ∀ j, j < k → lnE (ls.getD j default) = 0, fun x => ls.length - x.1, fun _ => Nat.zero_le _, ⟨(0, 0), ⟨Nat.zero_le _, fun h => h, fun j hj => by omega⟩, StLe.ren [0] tmS ⟨⟨rfl, EntL.refl _, rfl⟩, trivial⟩ (by decide)⟩, ?_⟩
  rintro ⟨k, z⟩ ⟨hk, hz, hd⟩
  have hb := lnsW_size hfit k hk
  by_cases hlt : k < ls.length
  · have hf := hfit _ (mem_getD hlt)
    have hx1 := hexS_size (ls.getD k default).lo
    have hx2 := hexS_size (ls.getD k default).hi
    have p1 : ctLnCheck.pre (ls.getD k default) := hf.fit
    have e1 : ¬ lnE (ls.getD k default) = 0 → (linesS ls, linesE ls) = (⟨#[]⟩, lnE (ls.getD k default)) := fun h => by
      have := linesE_at hlt hd h
      rw [linesS, this, if_neg h]
    have hb0 : z = 0 → lnsW ls k = ⟨#[]⟩ := fun h => by rw [hz h]; rfl
    have hnf := hf.1
    have hcs := hf.2.2
    rcases z with _ | z
    all_goals repeat' (first | refine gw ?_ | (refine br (fun q_ => ?_) (fun q_ => ?_) <;> try simp only [Int.toNat_natCast, Nat.mul_one, Nat.add_zero] at q_) | (refine brF (fun q_ => ?_) (fun q_ => ?_) <;> try simp only [Int.toNat_natCast, Nat.mul_one, Nat.add_zero] at q_))
    all_goals try (have e := e1 ‹_›; simp only [Prod.mk.injEq] at e; exact entR_eq' rfl (by show _ = D.tu [.v (.string (linesS ls)), .v (.int .i64 (linesE ls))]; rw [e.1, e.2]; rfl))
    all_goals first
      | refine ⟨0, Nat, lnSt ls k, fun j => j ≤ (ls.getD k default).fields.length, fun j => (ls.getD k default).fields.length - j, fun _ => Nat.zero_le _, ⟨0, Nat.zero_le _, StLe.ren [0, 1, 3] tmS ⟨⟨rfl, EntL.refl _, rfl⟩, ⟨rfl, EntL.refl _, rfl⟩, ⟨rfl, by rw [hb0 rfl, lnWF, lnW1, if_neg ‹_›]; rfl⟩, trivial⟩ (by decide)⟩, ?_⟩
      | refine ⟨0, Nat, lnSt ls k, fun j => j ≤ (ls.getD k default).fields.length, fun j => (ls.getD k default).fields.length - j, fun _ => Nat.zero_le _, ⟨0, Nat.zero_le _, StLe.ren [0, 1, 2] tmS ⟨⟨rfl, EntL.refl _, rfl⟩, ⟨rfl, EntL.refl _, rfl⟩, ⟨rfl, by rw [hb0 rfl, lnWF, lnW1, if_pos ‹_›]; rfl⟩, trivial⟩ (by decide)⟩, ?_⟩
      | refine ⟨0, Nat, lnSt ls k, fun j => j ≤ (ls.getD k default).fields.length, fun j => (ls.getD k default).fields.length - j, fun _ => Nat.zero_le _, ⟨0, Nat.zero_le _, StLe.ren [0, 2, 4] tmS ⟨⟨rfl, EntL.refl _, rfl⟩, ⟨rfl, EntL.refl _, rfl⟩, ⟨rfl, by rw [lnWF, lnW1, if_neg ‹_›]; rfl⟩, trivial⟩ (by decide)⟩, ?_⟩
      | refine ⟨0, Nat, lnSt ls k, fun j => j ≤ (ls.getD k default).fields.length, fun j => (ls.getD k default).fields.length - j, fun _ => Nat.zero_le _, ⟨0, Nat.zero_le _, StLe.ren [0, 2, 3] tmS ⟨⟨rfl, EntL.refl _, rfl⟩, ⟨rfl, EntL.refl _, rfl⟩, ⟨rfl, by rw [lnWF, lnW1, if_pos ‹_›]; rfl⟩, trivial⟩ (by decide)⟩, ?_⟩
    all_goals
      intro j (hj : j ≤ (ls.getD k default).fields.length)
      have hw := lnWF_size (b := lnsW ls k) hf j hj
      by_cases hjl : j < (ls.getD k default).fields.length
      · have hfs := (hf.2.1 _ (mem_getD hjl)).1
        unfold lnSt
        repeat' (first | refine gw ?_ | (refine br (fun q_ => ?_) (fun q_ => ?_) <;> try simp only [Int.toNat_natCast, Nat.mul_one, Nat.add_zero] at q_) | (refine brF (fun q_ => ?_) (fun q_ => ?_) <;> try simp only [Int.toNat_natCast, Nat.mul_one, Nat.add_zero] at q_))
        exact ⟨j + 1, (by show j + 1 ≤ _; omega), (by show _ - (j + 1) < _ - j; omega), StLe.ren [0, 1, 3] tmS ⟨⟨rfl, EntL.refl _, rfl⟩, ⟨rfl, EntL.refl _, rfl⟩, ⟨rfl, rfl⟩, trivial⟩ (by decide)⟩
      · have hje : j = (ls.getD k default).fields.length := by omega
        unfold lnSt
        repeat' (first | refine gw ?_ | (refine br (fun q_ => ?_) (fun q_ => ?_) <;> try simp only [Int.toNat_natCast, Nat.mul_one, Nat.add_zero] at q_) | (refine brF (fun q_ => ?_) (fun q_ => ?_) <;> try simp only [Int.toNat_natCast, Nat.mul_one, Nat.add_zero] at q_))
        · exact ⟨(k + 1, 1), ⟨by omega, by omega, next_of hd ‹_›⟩, (by show _ - (k + 1) < _ - k; omega), StLe.ren [0, 4] tmS ⟨⟨rfl, EntL.refl _, rfl⟩, ⟨rfl, by rw [hje, lnsW, lnW, lnWC, if_neg ‹_›]; rfl⟩, trivial⟩ (by decide)⟩
        · exact ⟨(k + 1, 1), ⟨by omega, by omega, next_of hd ‹_›⟩, (by show _ - (k + 1) < _ - k; omega), StLe.ren [0, 3] tmS ⟨⟨rfl, EntL.refl _, rfl⟩, ⟨rfl, by rw [hje, lnsW, lnW, lnWC, if_pos ‹_›]; rfl⟩, trivial⟩ (by decide)⟩
  · have hke : k = ls.length := by omega
    have he : linesE ls = 0 := linesE_0 (by rw [← hke]; exact hd)
    have hs : linesS ls = lnsW ls k := by rw [linesS, if_pos he, hke]
    have hb0 : z = 0 → lnsW ls k = ⟨#[]⟩ := fun h => by rw [hz h]; rfl
    rcases z with _ | z
    all_goals repeat' (first | refine gw ?_ | (refine br (fun q_ => ?_) (fun q_ => ?_) <;> try simp only [Int.toNat_natCast, Nat.mul_one, Nat.add_zero] at q_) | (refine brF (fun q_ => ?_) (fun q_ => ?_) <;> try simp only [Int.toNat_natCast, Nat.mul_one, Nat.add_zero] at q_))
    all_goals first | exact entR_eq' rfl (by show _ = D.tu [.v (.string (linesS ls)), .v (.int .i64 (linesE ls))]; rw [he, hs, hb0 rfl]; rfl) | exact entR_eq' rfl (by show _ = D.tu [.v (.string (linesS ls)), .v (.int .i64 (linesE ls))]; rw [he, hs]; rfl)
end Go.Proofs
