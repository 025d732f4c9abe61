import Derived.Test.YthfdmbmjjejbbaaGreatDoorSy
import Derived.Test.YthfdmbmjjejbbaaGreatDoorHbz
import Derived.Test.YthfdmbmjjejbbaaGreatDoorTr1
import Derived.Test.YthfdmbmjjejbbaaGreatDoorTr2
set_option linter.unusedVariables false
set_option linter.unusedSimpArgs false
namespace Go.Proofs
open Go Go.Sx
variable {mx : Int} {pb : Bool}

/-! the text of rules: plain, and the reference's -/
def bl (l : List UInt8) : ByteArray := ⟨⟨l⟩⟩
theorem bl_size (l : List UInt8) : (bl l).size = l.length := rfl
def stL (l : List Rg) : List UInt8 := (setTx l).data.toList
def stsL (L : List (List Rg)) : Nat → List UInt8
  | 0 => []
  | k + 1 => stsL L k ++ stL (L.getD k default)
def pcL (p : Rg) : List UInt8 := if p.2 = 0 then escL p.1 else [36, UInt8.ofNat (48 + p.2).toNat]
def pcsL (l : List Rg) : Nat → List UInt8
  | 0 => []
  | k + 1 => pcsL l k ++ pcL (l.getD k default)
def hdL (x : Tl) : List UInt8 := stsL x.bef x.bef.length ++ [32, 123, 32] ++ stsL x.mat x.mat.length ++ [32, 125, 32] ++ stsL x.aft x.aft.length ++ [32, 62, 32]
def rlL (x : Tl) : List UInt8 := hdL x ++ pcsL x.res x.res.length ++ [10]
def rlsL (l : List Tl) : Nat → List UInt8
  | 0 => []
  | k + 1 => rlsL l k ++ rlL (l.getD k default)
open Classical in
noncomputable def txtS (l : List Tl) : ByteArray := if chkE l = 0 then bl (rlsL l l.length) else bl []
noncomputable def ctTxt : Ct := { ι := List Tl, inp := fun l => [tlsD l], out := fun l => .tu [.v (.string (txtS l)), .v (.int .i64 (chkE l))], pre := smL }
theorem stL_len {l : List Rg} (h : l.length ≤ 12) : (stL l).length ≤ 260 := setTx_size h
theorem stsL_len {L : List (List Rg)} (h : smS L) : ∀ k, k ≤ L.length → (stsL L k).length ≤ 260 * k
  | 0, _ => Nat.le_refl _
  | k + 1, hk => by
    have h1 := stsL_len h k (by omega)
    have h2 := stL_len (h.2 k (by omega))
    show List.length (_ ++ _) ≤ _
    rw [List.length_append]
    omega
theorem pcL_len (p : Rg) : (pcL p).length ≤ 10 := by
  have := escL_len p.1
  unfold pcL
  split
  · exact this
  · simp
theorem pcsL_len (l : List Rg) : ∀ k, (pcsL l k).length ≤ 10 * k
  | 0 => Nat.le_refl _
  | k + 1 => by
    have h1 := pcsL_len l k
    have h2 := pcL_len (l.getD k default)
    show List.length (_ ++ _) ≤ _
    rw [List.length_append]
    omega
theorem hdL_len {x : Tl} (h : smT x) : (hdL x).length ≤ 7900 := by
  have h1 := stsL_len h.1 _ (Nat.le_refl _)
  have h2 := stsL_len h.2.1 _ (Nat.le_refl _)
  have h3 := stsL_len h.2.2.1 _ (Nat.le_refl _)
  have l1 := h.1.1
  have l2 := h.2.1.1
  have l3 := h.2.2.1.1
  unfold hdL
  simp only [List.length_append, List.length_cons, List.length_nil]
  omega
theorem rlL_len {x : Tl} (h : smT x) : (rlL x).length ≤ 8200 := by
  have h1 := hdL_len h
  have h2 := pcsL_len x.res x.res.length
  have h3 := h.2.2.2
  unfold rlL
  simp only [List.length_append, List.length_cons, List.length_nil]
  omega
theorem rlsL_len {l : List Tl} (h : smL l) : ∀ k, k ≤ l.length → (rlsL l k).length ≤ 8200 * k
  | 0, _ => Nat.le_refl _
  | k + 1, hk => by
    have h1 := rlsL_len h k (by omega)
    have h2 := rlL_len (h.2 k (by omega))
    show List.length (_ ++ _) ≤ _
    rw [List.length_append]
    omega
theorem chkE_each : ∀ {l : List Tl}, chkE l = 0 → ∀ k, k < l.length → oneE (l.getD k default) = 0
  | [], _, k, hk => by simp at hk
  | x :: l, h, k, hk => by
    unfold chkE at h
    split at h
    · rename_i h0
      match k with
      | 0 => exact h0
      | k + 1 => exact chkE_each (l := l) h k (by simpa using hk)
    · rename_i h0; exact absurd h h0
theorem oneE_inv {x : Tl} (h : oneE x = 0) : szT x ∧ setT3 x ∧ pcsOk x := by
  unfold oneE at h
  split at h
  · split at h
    · split at h
      · exact ⟨‹_›, ‹_›, ‹_›⟩
      · simp at h
    · simp at h
  · simp at h
def stsB (L : List (List Rg)) (k : Nat) : ByteArray := bl (stsL L k)
def ctTxs : Ct := { ι := List (List Rg), inp := fun L => [stsD L], out := fun L => .v (.string (stsB L L.length)), pre := smS }
noncomputable def Γts : Ctx := fun f => match f with
  | 60 => some (.pure ctSetTx)
  | _ => none
theorem Γts_ok : CtxOk Tryz.prog (GlT mx pb) Γts := by
  intro f h hh
  simp only [Γts] at hh
  split at hh <;> simp at hh <;> subst hh
  · exact rSetTx_ok
set_option maxHeartbeats 2000000 in
theorem rTxs_ok : Sound Tryz.prog (GlT mx pb) 31 ctTxs := by
  refine sound_by (cc := true) Γts_ok Tryz.T_ok Tryz.mixed Tryz.func31 rfl (by kernel_rfl) (fun _ => rfl) (fun _ _ => by show 1 ≤ 19; decide) ?_
  intro (L : List (List Rg)) (hL : smS L)
  have h10 := hL.1
  repeat' (first | refine gl ?_ | (refine br (fun q_ => ?_) (fun q_ => ?_) <;> try simp only [Int.toNat_natCast, Nat.mul_one, Nat.add_zero] at q_) | (refine brF (fun q_ => ?_) (fun q_ => ?_) <;> try simp only [Int.toNat_natCast, Nat.mul_one, Nat.add_zero] at q_))
  refine ⟨0, Nat, fun k => ⟨[(0, stsD L), (3, .v (.string (stsB L k))), (4, .v (.int .i64 k))], [], []⟩, fun k => k ≤ L.length, fun k => L.length - k, fun _ => Nat.zero_le _, ⟨0, Nat.zero_le _, StLe.ren [] tmS trivial (by decide)⟩, ?_⟩
  intro k (hk : k ≤ L.length)
  have hs : (stsB L k).size ≤ 260 * k := stsL_len hL k hk
  by_cases hlt : k < L.length
  · have p1 : ctSetTx.pre (L.getD k default) := hL.2 k hlt
    have hx := setTx_size (hL.2 k hlt)
    repeat' (first | refine gl ?_ | (refine br (fun q_ => ?_) (fun q_ => ?_) <;> try simp only [Int.toNat_natCast, Nat.mul_one, Nat.add_zero] at q_) | (refine brF (fun q_ => ?_) (fun q_ => ?_) <;> try simp only [Int.toNat_natCast, Nat.mul_one, Nat.add_zero] at q_))
    exact ⟨k + 1, (by show k + 1 ≤ L.length; omega), (by show L.length - (k + 1) < L.length - k; omega), StLe.ren [] tmS trivial (by decide)⟩
  · have he : k = L.length := by omega
    repeat' (first | refine gl ?_ | (refine br (fun q_ => ?_) (fun q_ => ?_) <;> try simp only [Int.toNat_natCast, Nat.mul_one, Nat.add_zero] at q_) | (refine brF (fun q_ => ?_) (fun q_ => ?_) <;> try simp only [Int.toNat_natCast, Nat.mul_one, Nat.add_zero] at q_))
    refine EntR.str ?_
    show stsB L k = stsB L L.length
    rw [he]
def rlsB (l : List Tl) (k : Nat) : ByteArray := bl (rlsL l k)
def pcB (l : List Tl) (k j : Nat) : ByteArray := bl (rlsL l k ++ hdL (l.getD k default) ++ pcsL (l.getD k default).res j)
theorem hd_eq (l : List Tl) (k : Nat) : bcat (bcat (bcat (bcat (bcat (bcat (rlsB l k) (stsB (l.getD k default).bef (l.getD k default).bef.length)) ⟨#[32, 123, 32]⟩) (stsB (l.getD k default).mat (l.getD k default).mat.length)) ⟨#[32, 125, 32]⟩) (stsB (l.getD k default).aft (l.getD k default).aft.length)) ⟨#[32, 62, 32]⟩ = pcB l k 0 := by
  show bl ((((((rlsL l k ++ stsL (l.getD k default).bef _) ++ [32, 123, 32]) ++ stsL (l.getD k default).mat _) ++ [32, 125, 32]) ++ stsL (l.getD k default).aft _) ++ [32, 62, 32]) = bl (rlsL l k ++ hdL (l.getD k default) ++ [])
  congr 1
  unfold hdL
  simp only [List.append_assoc, List.append_nil]
theorem pc_esc (l : List Tl) (k : Nat) {j : Nat} (h : ((l.getD k default).res.getD j default).2 = 0) : bcat (pcB l k j) (escS ((l.getD k default).res.getD j default).1) = pcB l k (j + 1) := by
  show bl ((rlsL l k ++ hdL (l.getD k default) ++ pcsL (l.getD k default).res j) ++ escL ((l.getD k default).res.getD j default).1) = bl (rlsL l k ++ hdL (l.getD k default) ++ (pcsL (l.getD k default).res j ++ pcL ((l.getD k default).res.getD j default)))
  rw [pcL, if_pos h, List.append_assoc (rlsL l k ++ hdL (l.getD k default))]
theorem pc_cpy (l : List Tl) (k : Nat) {j : Nat} (h : ¬ ((l.getD k default).res.getD j default).2 = 0) : bcat (bcat (pcB l k j) ⟨#[36]⟩) ⟨⟨[UInt8.ofNat (48 + ((l.getD k default).res.getD j default).2).toNat]⟩⟩ = pcB l k (j + 1) := by
  show bl (((rlsL l k ++ hdL (l.getD k default) ++ pcsL (l.getD k default).res j) ++ [36]) ++ [UInt8.ofNat (48 + ((l.getD k default).res.getD j default).2).toNat]) = bl (rlsL l k ++ hdL (l.getD k default) ++ (pcsL (l.getD k default).res j ++ pcL ((l.getD k default).res.getD j default)))
  rw [pcL, if_neg h]
  simp only [List.append_assoc, List.cons_append, List.nil_append]
theorem nl_eq (l : List Tl) (k : Nat) {j : Nat} (h : j = (l.getD k default).res.length) : bcat (pcB l k j) ⟨#[10]⟩ = rlsB l (k + 1) := by
  show bl ((rlsL l k ++ hdL (l.getD k default) ++ pcsL (l.getD k default).res j) ++ [10]) = bl (rlsL l k ++ rlL (l.getD k default))
  unfold rlL
  rw [h]
  simp only [List.append_assoc]
theorem pcB_size {l : List Tl} (hl : smL l) {k j : Nat} (hk : k < l.length) (hj : j ≤ (l.getD k default).res.length) : (pcB l k j).size ≤ 60000 := by
  have h1 := rlsL_len hl k (by omega)
  have h2 := hdL_len (hl.2 k hk)
  have h3 := pcsL_len (l.getD k default).res j
  have h4 := (hl.2 k hk).2.2.2
  have h6 := hl.1
  show List.length (rlsL l k ++ hdL (l.getD k default) ++ pcsL (l.getD k default).res j) ≤ 60000
  rw [List.length_append, List.length_append]
  omega
theorem wrap8 {n : Int} (h1 : 1 ≤ n) (h2 : n ≤ 8) : IntKind.u8.wrap (48 + n) = 48 + n := by
  have : ∀ i : Fin 9, IntKind.u8.wrap (48 + (i.1 : Int)) = 48 + (i.1 : Int) := by decide
  have e : ((n.toNat : Nat) : Int) = n := by omega
  have := this ⟨n.toNat, by omega⟩
  simp only [e] at this
  exact this
noncomputable def Γtt : Ctx := fun f => match f with
  | 10 => some (.pure ctChkE)
  | 31 => some (.pure ctTxs)
  | 32 => some (.pure ctCode)
  | _ => none
theorem Γtt_ok : CtxOk Tryz.prog (GlT mx pb) Γtt := by
  intro f h hh
  simp only [Γtt] at hh
  split at hh <;> simp at hh <;> subst hh
  · exact rChk_ok
  · exact rTxs_ok
  · exact esc_ok
set_option maxHeartbeats 8000000 in
theorem rTxt_ok : Sound Tryz.prog (GlT mx pb) 13 ctTxt := by
  refine sound_by (cc := true) Γtt_ok Tryz.T_ok Tryz.mixed Tryz.func13 rfl (by kernel_rfl) (fun _ => rfl) (fun _ _ => by show 1 ≤ 73; decide) ?_
  intro (l : List Tl) (hl : smL l)
  have h6 := hl.1
  have p0 : ctChkE.pre l := hl
  by_cases he : chkE l = 0
  · have hout : ctTxt.out l = .tu [.v (.string (rlsB l l.length)), .v (.int .i64 0)] := by
      show D.tu [.v (.string (txtS l)), .v (.int .i64 (chkE l))] = _
      rw [txtS, if_pos he, he]
      rfl
    rw [hout]
    repeat' (first | refine gl ?_ | (refine br (fun q_ => ?_) (fun q_ => ?_) <;> try simp only [Int.toNat_natCast, Nat.mul_one, Nat.add_zero] at q_) | (refine brF (fun q_ => ?_) (fun q_ => ?_) <;> try simp only [Int.toNat_natCast, Nat.mul_one, Nat.add_zero] at q_))
    refine ⟨0, Nat, fun k => ⟨[(0, tlsD l), (5, .v (.string (rlsB l k))), (6, .v (.int .i64 k))], [], []⟩, fun k => k ≤ l.length, fun k => l.length - k, fun _ => Nat.zero_le _, ⟨0, Nat.zero_le _, StLe.ren [] tmS trivial (by decide)⟩, ?_⟩
    intro k (hk : k ≤ l.length)
    have hs : (rlsB l k).size ≤ 8200 * k := rlsL_len hl k hk
    by_cases hlt : k < l.length
    · obtain ⟨hz, _, hp⟩ := oneE_inv (chkE_each he k hlt)
      obtain ⟨q1, q2, q3, q4⟩ := hl.2 k hlt
      have p1 : ctTxs.pre (l.getD k default).bef := q1
      have p2 : ctTxs.pre (l.getD k default).mat := q2
      have p3 : ctTxs.pre (l.getD k default).aft := q3
      have s1 : (stsB (l.getD k default).bef (l.getD k default).bef.length).size ≤ 2600 := by have := stsL_len q1 _ (Nat.le_refl _); have := q1.1; show (stsL _ _).length ≤ 2600; omega
      have s2 : (stsB (l.getD k default).mat (l.getD k default).mat.length).size ≤ 2600 := by have := stsL_len q2 _ (Nat.le_refl _); have := q2.1; show (stsL _ _).length ≤ 2600; omega
      have s3 : (stsB (l.getD k default).aft (l.getD k default).aft.length).size ≤ 2600 := by have := stsL_len q3 _ (Nat.le_refl _); have := q3.1; show (stsL _ _).length ≤ 2600; omega
      repeat' (first | refine gl ?_ | (refine br (fun q_ => ?_) (fun q_ => ?_) <;> try simp only [Int.toNat_natCast, Nat.mul_one, Nat.add_zero] at q_) | (refine brF (fun q_ => ?_) (fun q_ => ?_) <;> try simp only [Int.toNat_natCast, Nat.mul_one, Nat.add_zero] at q_))
      refine ⟨0, Nat, fun j => ⟨[(0, tlsD l), (5, .v (.string (pcB l k j))), (6, .v (.int .i64 k)), (7, .own 0 0), (8, .v (.int .i64 j))], [.cells 35 [tlD (l.getD k default) 0, tlD (l.getD k default) 1, tlD (l.getD k default) 2, tlD (l.getD k default) 3]], []⟩, fun j => j ≤ (l.getD k default).res.length, fun j => (l.getD k default).res.length - j, fun _ => Nat.zero_le _, ⟨0, Nat.zero_le _, StLe.ren [0] ⟨Ent.refl _, rfl, Ent.v (congrArg Value.string (hd_eq l k)), rfl, Ent.refl _, rfl, Ent.refl _, rfl, Ent.refl _, rfl, trivial⟩ ⟨⟨rfl, EntL.refl _, rfl⟩, trivial⟩ (by decide)⟩, ?_⟩
      intro j (hj : j ≤ (l.getD k default).res.length)
      have hsj : (pcB l k j).size ≤ 60000 := pcB_size hl hlt hj
      by_cases hjl : j < (l.getD k default).res.length
      · have hpj := hp j hjl
        have hm8 := hz.2.1
        unfold pcOk at hpj
        by_cases hc0 : ((l.getD k default).res.getD ((j : Int)).toNat default).2 > 0
        · have hc1 : ((l.getD k default).res.getD j default).2 > 0 := hc0
          have hc : ¬ ((l.getD k default).res.getD j default).2 = 0 := by omega
          have hv : 1 ≤ ((l.getD k default).res.getD j default).2 ∧ ((l.getD k default).res.getD j default).2 ≤ 8 := by
            rcases hpj with h | h
            · exact absurd h.1 hc
            · omega
          have hv0 : 1 ≤ ((l.getD k default).res.getD ((j : Int)).toNat default).2 ∧ ((l.getD k default).res.getD ((j : Int)).toNat default).2 ≤ 8 := hv
          have hw : IntKind.u8.wrap (48 + ((l.getD k default).res.getD ((j : Int)).toNat default).2) = 48 + ((l.getD k default).res.getD j default).2 := wrap8 hv.1 hv.2
          repeat' (first | refine gl ?_ | (refine br (fun q_ => ?_) (fun q_ => ?_) <;> try simp only [Int.toNat_natCast, Nat.mul_one, Nat.add_zero] at q_) | (refine brF (fun q_ => ?_) (fun q_ => ?_) <;> try simp only [Int.toNat_natCast, Nat.mul_one, Nat.add_zero] at q_))
          rw [hw]
          exact ⟨j + 1, (by show j + 1 ≤ _; omega), (by show _ - (j + 1) < _ - j; omega), StLe.ren [0] ⟨Ent.refl _, rfl, Ent.v (congrArg Value.string (pc_cpy l k hc)), rfl, Ent.refl _, rfl, Ent.refl _, rfl, Ent.int (by omega), rfl, trivial⟩ ⟨⟨rfl, EntL.refl _, rfl⟩, trivial⟩ (by decide)⟩
        · have hc1 : ¬ ((l.getD k default).res.getD j default).2 > 0 := hc0
          have hc : ((l.getD k default).res.getD j default).2 = 0 := by omega
          have hv : validB ((l.getD k default).res.getD j default).1 = true := by
            rcases hpj with h | h
            · exact h.2
            · omega
          have p4 : ctCode.pre ((l.getD k default).res.getD j default).1 := hv
          have e1 := escS_size ((l.getD k default).res.getD j default).1
          repeat' (first | refine gl ?_ | (refine br (fun q_ => ?_) (fun q_ => ?_) <;> try simp only [Int.toNat_natCast, Nat.mul_one, Nat.add_zero] at q_) | (refine brF (fun q_ => ?_) (fun q_ => ?_) <;> try simp only [Int.toNat_natCast, Nat.mul_one, Nat.add_zero] at q_))
          exact ⟨j + 1, (by show j + 1 ≤ _; omega), (by show _ - (j + 1) < _ - j; omega), StLe.ren [0] ⟨Ent.refl _, rfl, Ent.v (congrArg Value.string (pc_esc l k hc)), rfl, Ent.refl _, rfl, Ent.refl _, rfl, Ent.int (by omega), rfl, trivial⟩ ⟨⟨rfl, EntL.refl _, rfl⟩, trivial⟩ (by decide)⟩
      · have hje : j = (l.getD k default).res.length := by omega
        repeat' (first | refine gl ?_ | (refine br (fun q_ => ?_) (fun q_ => ?_) <;> try simp only [Int.toNat_natCast, Nat.mul_one, Nat.add_zero] at q_) | (refine brF (fun q_ => ?_) (fun q_ => ?_) <;> try simp only [Int.toNat_natCast, Nat.mul_one, Nat.add_zero] at q_))
        exact ⟨k + 1, (by show k + 1 ≤ l.length; omega), (by show l.length - (k + 1) < l.length - k; omega), StLe.ren [] ⟨Ent.refl _, rfl, Ent.v (congrArg Value.string (nl_eq l k hje)), rfl, Ent.int (by omega), rfl, trivial⟩ trivial (by decide)⟩
    · have hke : k = l.length := by omega
      repeat' (first | refine gl ?_ | (refine br (fun q_ => ?_) (fun q_ => ?_) <;> try simp only [Int.toNat_natCast, Nat.mul_one, Nat.add_zero] at q_) | (refine brF (fun q_ => ?_) (fun q_ => ?_) <;> try simp only [Int.toNat_natCast, Nat.mul_one, Nat.add_zero] at q_))
      refine EntR.of rfl (Ent.tu2 (Ent.v (congrArg Value.string ?_)) (Ent.refl _))
      rw [hke]
  · have hout : ctTxt.out l = .tu [.v (.string (bl [])), .v (.int .i64 (chkE l))] := by
      show D.tu [.v (.string (txtS l)), .v (.int .i64 (chkE l))] = _
      rw [txtS, if_neg he]
    rw [hout]
    repeat' (first | refine gl ?_ | (refine br (fun q_ => ?_) (fun q_ => ?_) <;> try simp only [Int.toNat_natCast, Nat.mul_one, Nat.add_zero] at q_) | (refine brF (fun q_ => ?_) (fun q_ => ?_) <;> try simp only [Int.toNat_natCast, Nat.mul_one, Nat.add_zero] at q_))
    exact EntR.of rfl (Ent.refl _)
end Go.Proofs
