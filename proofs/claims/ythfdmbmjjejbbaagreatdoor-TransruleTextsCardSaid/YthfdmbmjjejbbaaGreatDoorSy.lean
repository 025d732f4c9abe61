import Derived.Test.YthfdmbmjjejbbaaGreatDoorSz
import Derived.Test.YthfdmbmjjejbbaaGreatDoorBu
import Derived.Test.YthfdmbmjjejbbaaGreatDoorUz
set_option linter.unusedVariables false
set_option linter.unusedSimpArgs false
namespace Go.Proofs
open Go Go.Sx
variable {mx : Int} {pb : Bool}

/-! the expression of a set: setexpr.Text, the reference's Text -/
def dashB : ByteArray := ⟨#[45]⟩
def rgW (b : ByteArray) (r : Rg) : ByteArray := if r.2 = r.1 then bcat b (escS r.1) else bcat (bcat b (escS r.1)) (bcat dashB (escS r.2))
def setTK (C : List Rg) : Nat → ByteArray
  | 0 => ⟨#[91]⟩
  | k + 1 => rgW (setTK C k) (C.getD k default)
def shutB : ByteArray := ⟨#[93]⟩
def setTx (l : List Rg) : ByteArray := bcat (setTK (canon l) (canon l).length) shutB
theorem rgW_size (b : ByteArray) (r : Rg) : (rgW b r).size ≤ b.size + 21 := by
  have h1 := escS_size r.1
  have h2 := escS_size r.2
  have h3 : dashB.size = 1 := rfl
  unfold rgW
  split <;> simp only [bcat_size', h3] <;> omega
theorem setTK_size (C : List Rg) : ∀ k, (setTK C k).size ≤ 1 + 21 * k
  | 0 => Nat.le_refl _
  | k + 1 => by
    have h1 := setTK_size C k
    have h2 := rgW_size (setTK C k) (C.getD k default)
    show (rgW _ _).size ≤ _
    omega
theorem setTx_size {l : List Rg} (h : l.length ≤ 12) : (setTx l).size ≤ 260 := by
  have h1 := setTK_size (canon l) (canon l).length
  have h2 := canon_len l
  have h3 : shutB.size = 1 := rfl
  unfold setTx
  simp only [bcat_size', h3]
  omega
def ctSetTx : Ct := { ι := List Rg, inp := fun l => [setD l], out := fun l => .v (.string (setTx l)), pre := fun l => l.length ≤ 12 }
noncomputable def Γrt : Ctx := fun f => match f with
  | 100 => some (.pure ctCode)
  | 99 => some (.pure ctMakeR)
  | _ => none
theorem Γrt_ok : CtxOk Tryz.prog (GlT mx pb) Γrt := by
  intro f h hh
  simp only [Γrt] at hh
  split at hh <;> simp at hh <;> subst hh
  · exact short_ok
  · exact r2Make_ok
set_option maxHeartbeats 4000000 in
theorem rSetTx_ok : Sound Tryz.prog (GlT mx pb) 60 ctSetTx := by
  refine sound_by (cc := true) Γrt_ok Tryz.T_ok Tryz.mixed Tryz.func60 rfl (by kernel_rfl) (fun _ => rfl) (fun _ _ => by show 1 ≤ 46; decide) ?_
  intro (l : List Rg) (hl : l.length ≤ 12)
  have p1 : ctMakeR.pre l := (by show l.length ≤ 10000; omega)
  have hC := canon_canon l
  have hlen := canon_len l
  have hout : ctSetTx.out l = .v (.string (bcat (setTK (canon l) (canon l).length) shutB)) := rfl
  repeat' (first | refine gl ?_ | (refine br (fun q_ => ?_) (fun q_ => ?_) <;> try simp only [Int.toNat_natCast, Nat.mul_one, Nat.add_zero] at q_) | (refine brF (fun q_ => ?_) (fun q_ => ?_) <;> try simp only [Int.toNat_natCast, Nat.mul_one, Nat.add_zero] at q_))
  generalize canon l = C at hC hlen hout ⊢
  refine ⟨0, Nat, fun k => ⟨[(3, rgsD C), (4, .v (.string (setTK C k))), (5, .v (.int .i64 k))], [], []⟩, fun k => k ≤ C.length, fun k => C.length - k, fun _ => Nat.zero_le _, ⟨0, Nat.zero_le _, StLe.ren [] tmS trivial (by decide)⟩, ?_⟩
  intro k (hk : k ≤ C.length)
  have hs := setTK_size C k
  by_cases hlt : k < C.length
  · obtain ⟨r1, r2, r3⟩ := canon_rg hC hlt
    have p2 : ctCode.pre (C.getD k default).1 := validB_iff.2 ⟨by omega, by omega⟩
    have p3 : ctCode.pre (C.getD k default).2 := validB_iff.2 ⟨by omega, by omega⟩
    have e1 := escS_size (C.getD k default).1
    have e2 := escS_size (C.getD k default).2
    repeat' (first | refine gl ?_ | (refine br (fun q_ => ?_) (fun q_ => ?_) <;> try simp only [Int.toNat_natCast, Nat.mul_one, Nat.add_zero] at q_) | (refine brF (fun q_ => ?_) (fun q_ => ?_) <;> try simp only [Int.toNat_natCast, Nat.mul_one, Nat.add_zero] at q_))
    all_goals first
      | exact ⟨k + 1, (by show k + 1 ≤ C.length; omega), (by show C.length - (k + 1) < C.length - k; omega), StLe.ren [] ⟨Ent.refl _, rfl, Ent.v (congrArg Value.string (by show _ = rgW (setTK C k) (C.getD k default); first | (rw [rgW, if_neg q_]; rfl) | (rw [rgW, if_pos (by omega)]; rfl))), rfl, Ent.int (by omega), rfl, trivial⟩ trivial (by decide)⟩
  · have he : k = C.length := by omega
    repeat' (first | refine gl ?_ | (refine br (fun q_ => ?_) (fun q_ => ?_) <;> try simp only [Int.toNat_natCast, Nat.mul_one, Nat.add_zero] at q_) | (refine brF (fun q_ => ?_) (fun q_ => ?_) <;> try simp only [Int.toNat_natCast, Nat.mul_one, Nat.add_zero] at q_))
    refine EntR.str ?_
    show bcat (setTK C k) shutB = setTx l
    have := hout
    rw [he]
    exact (Value.string.inj (D.v.inj this)).symm
noncomputable def Γpt (mx : Int) (pb : Bool) : Ctx := fun f => match f with
  | 56 => some (.pure ctCode)
  | 44 => some (.pure ctMake)
  | 26 => some (.gen (inlW true (Γbw mx pb) Tryz.T (GlT mx pb) Tryz.f26 cWStr))
  | 30 => some (.gen (inlW true Γ0 Tryz.T (GlT mx pb) Tryz.f30 cBStr))
  | _ => none
theorem Γpt_ok : CtxOk Tryz.prog (GlT mx pb) (Γpt mx pb) := by
  intro f h hh
  simp only [Γpt] at hh
  split at hh <;> simp at hh <;> subst hh
  · exact code_ok
  · exact cpMake_ok
  · exact soundT_inlW Γbw_ok Tryz.T_ok Tryz.mixed Tryz.func26 rfl (by kernel_rfl)
  · exact soundT_inlW Γ0_ok Tryz.T_ok Tryz.mixed Tryz.func30 rfl (by kernel_rfl)
set_option maxHeartbeats 8000000 in
theorem pSetTx_ok : Sound Tryz.prog (GlT mx pb) 27 ctSetTx := by
  refine sound_by (cc := true) Γpt_ok Tryz.T_ok Tryz.mixed Tryz.func27 rfl (by kernel_rfl) (fun _ => rfl) (fun _ _ => by show 1 ≤ 33; decide) ?_
  intro (l : List Rg) (hl : l.length ≤ 12)
  have p1 : ctMake.pre l := ⟨by omega, .inl hl⟩
  have hC := canon_canon l
  have hlen := canon_len l
  have hout : ctSetTx.out l = .v (.string (bcat (setTK (canon l) (canon l).length) shutB)) := rfl
  repeat' (first | refine gl ?_ | (refine br (fun q_ => ?_) (fun q_ => ?_) <;> try simp only [Int.toNat_natCast, Nat.mul_one, Nat.add_zero] at q_) | (refine brF (fun q_ => ?_) (fun q_ => ?_) <;> try simp only [Int.toNat_natCast, Nat.mul_one, Nat.add_zero] at q_))
  generalize canon l = C at hC hlen hout ⊢
  refine ⟨0, Nat, fun k => ⟨[(3, .own 0 0), (10, rgsD C), (11, .v (.int .i64 C.length)), (12, .v (.int .i64 k))], [.cells 72 [.own 0 0, .row 1], .bytes 5 (setTK C k)], []⟩, fun k => k ≤ C.length, fun k => C.length - k, fun _ => Nat.zero_le _, ⟨0, Nat.zero_le _, StLe.ren [1, 2] tmS ⟨⟨rfl, EntL.refl _, rfl⟩, ⟨rfl, rfl⟩, trivial⟩ (by decide)⟩, ?_⟩
  intro k (hk : k ≤ C.length)
  have hs := setTK_size C k
  by_cases hlt : k < C.length
  · obtain ⟨r1, r2, r3⟩ := canon_rg hC hlt
    have p2 : ctCode.pre (C.getD k default).1 := validB_iff.2 ⟨by omega, by omega⟩
    have p3 : ctCode.pre (C.getD k default).2 := validB_iff.2 ⟨by omega, by omega⟩
    have e1 := escS_size (C.getD k default).1
    have e2 := escS_size (C.getD k default).2
    repeat' (first | refine gl ?_ | (refine br (fun q_ => ?_) (fun q_ => ?_) <;> try simp only [Int.toNat_natCast, Nat.mul_one, Nat.add_zero] at q_) | (refine brF (fun q_ => ?_) (fun q_ => ?_) <;> try simp only [Int.toNat_natCast, Nat.mul_one, Nat.add_zero] at q_))
    · exact ⟨k + 1, (by show k + 1 ≤ C.length; omega), (by show C.length - (k + 1) < C.length - k; omega), StLe.ren [0, 4] tmS ⟨⟨rfl, EntL.refl _, rfl⟩, ⟨rfl, by first | (show rgW (setTK C k) (C.getD k default) = _; rw [rgW, if_neg q_]; rfl) | (show _ = rgW (setTK C k) (C.getD k default); rw [rgW, if_neg q_]; rfl)⟩, trivial⟩ (by decide)⟩
    · exact ⟨k + 1, (by show k + 1 ≤ C.length; omega), (by show C.length - (k + 1) < C.length - k; omega), StLe.ren [0, 3] tmS ⟨⟨rfl, EntL.refl _, rfl⟩, ⟨rfl, by first | (show rgW (setTK C k) (C.getD k default) = _; rw [rgW, if_pos q_]; rfl) | (show _ = rgW (setTK C k) (C.getD k default); rw [rgW, if_pos q_]; rfl)⟩, trivial⟩ (by decide)⟩
  · have he : k = C.length := by omega
    repeat' (first | refine gl ?_ | (refine br (fun q_ => ?_) (fun q_ => ?_) <;> try simp only [Int.toNat_natCast, Nat.mul_one, Nat.add_zero] at q_) | (refine brF (fun q_ => ?_) (fun q_ => ?_) <;> try simp only [Int.toNat_natCast, Nat.mul_one, Nat.add_zero] at q_))
    refine EntR.str ?_
    show bcat (setTK C k) shutB = setTx l
    rw [he]
    exact (Value.string.inj (D.v.inj hout)).symm
end Go.Proofs
