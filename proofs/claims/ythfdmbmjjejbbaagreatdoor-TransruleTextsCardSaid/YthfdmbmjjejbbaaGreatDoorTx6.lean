import Derived.Test.YthfdmbmjjejbbaaGreatDoorTx5
import Derived.Test.YthfdmbmjjejbbaaGreatDoorSxY2
import Derived.Test.YthfdmbmjjejbbaaGreatDoorBu
set_option linter.unusedVariables false
set_option linter.unusedSimpArgs false
namespace Go.Proofs
open Go Go.Sx
variable {mx : Int} {pb : Bool}

/-! transrule.Text -/
noncomputable def cWr : Code := (Tryz.f25.body).getD .skip
noncomputable def Γwr (mx : Int) (pb : Bool) : Ctx := fun f => match f with
  | 27 => some (.pure ctSetTx)
  | 26 => some (.gen (inlW true (Γbw mx pb) Tryz.T (GlT mx pb) Tryz.f26 cWStr))
  | _ => none
theorem Γwr_ok : CtxOk Tryz.prog (GlT mx pb) (Γwr mx pb) := by
  intro f h hh
  simp only [Γwr] at hh
  split at hh <;> simp at hh <;> subst hh
  · exact pSetTx_ok
  · exact soundT_inlW Γbw_ok Tryz.T_ok Tryz.mixed Tryz.func26 rfl (by kernel_rfl)
noncomputable def Γpx (mx : Int) (pb : Bool) : Ctx := fun f => match f with
  | 9 => some (.pure ctChkE)
  | 28 => some (.pure ctIt)
  | 29 => some (.pure ctDig)
  | 26 => some (.gen (inlW true (Γbw mx pb) Tryz.T (GlT mx pb) Tryz.f26 cWStr))
  | 30 => some (.gen (inlW true Γ0 Tryz.T (GlT mx pb) Tryz.f30 cBStr))
  | 25 => some (.gen (inlW true (Γwr mx pb) Tryz.T (GlT mx pb) Tryz.f25 cWr))
  | _ => none
theorem Γpx_ok : CtxOk Tryz.prog (GlT mx pb) (Γpx mx pb) := by
  intro f h hh
  simp only [Γpx] at hh
  split at hh <;> simp at hh <;> subst hh
  · exact pChk_ok
  · exact itoa1_ok
  · exact dig_ok
  · exact soundT_inlW Γbw_ok Tryz.T_ok Tryz.mixed Tryz.func26 rfl (by kernel_rfl)
  · exact soundT_inlW Γ0_ok Tryz.T_ok Tryz.mixed Tryz.func30 rfl (by kernel_rfl)
  · exact soundT_inlW Γwr_ok Tryz.T_ok Tryz.mixed Tryz.func25 rfl (by kernel_rfl)
def bOw5 (b : ByteArray) : Nat → List Own
  | 0 => [.cells 72 [.v (.pointer none), .v (.slice none 0 0)]]
  | _ + 1 => [.cells 72 [.own 0 0, .row 1], .bytes 5 b]
def wB (b : ByteArray) (L : List (List Rg)) : Nat → ByteArray
  | 0 => b
  | k + 1 => bcat (wB b L k) (setTx (L.getD k default))
def pB (b : ByteArray) (l : List Rg) : Nat → ByteArray
  | 0 => b
  | k + 1 => if (l.getD k default).2 = 0 then bcat (pB b l k) (bcat (bcat ⟨#[92, 117, 123]⟩ (shS (l.getD k default).1)) ⟨#[125]⟩) else bcat (pB b l k) (bcat ⟨#[36]⟩ (dg1 (l.getD k default).2))
theorem wB_list (b : ByteArray) (L : List (List Rg)) : ∀ k, (wB b L k).data.toList = b.data.toList ++ stsL L k
  | 0 => (List.append_nil _).symm
  | k + 1 => by
    show (wB b L k).data.toList ++ stL (L.getD k default) = b.data.toList ++ (stsL L k ++ stL (L.getD k default))
    rw [wB_list b L k, List.append_assoc]
theorem pB_list (b : ByteArray) (l : List Rg) : ∀ k, (pB b l k).data.toList = b.data.toList ++ pcsL l k
  | 0 => (List.append_nil _).symm
  | k + 1 => by
    have ih := pB_list b l k
    show (pB b l (k + 1)).data.toList = b.data.toList ++ (pcsL l k ++ pcL (l.getD k default))
    unfold pB pcL
    by_cases h : (l.getD k default).2 = 0
    · rw [if_pos h, if_pos h, ← List.append_assoc, ← ih]
      rfl
    · rw [if_neg h, if_neg h, ← List.append_assoc, ← ih]
      rfl
theorem wB_size {b : ByteArray} {L : List (List Rg)} (h : smS L) {k : Nat} (hk : k ≤ L.length) : (wB b L k).size ≤ b.size + 2600 := by
  have h1 : (wB b L k).size = ((wB b L k).data.toList).length := rfl
  have h2 := stsL_len h k hk
  have h3 := h.1
  rw [h1, wB_list, List.length_append]
  show b.size + _ ≤ _
  omega
theorem pB_size (b : ByteArray) {l : List Rg} (h : l.length ≤ 20) {k : Nat} (hk : k ≤ l.length) : (pB b l k).size ≤ b.size + 200 := by
  have h1 : (pB b l k).size = ((pB b l k).data.toList).length := rfl
  have h2 := pcsL_len l k
  rw [h1, pB_list, List.length_append]
  show b.size + _ ≤ _
  omega
def hdB (l : List Tl) (k : Nat) : ByteArray := bcat (wB (bcat (wB (bcat (wB (rlsB l k) (l.getD k default).bef (l.getD k default).bef.length) ⟨#[32, 123, 32]⟩) (l.getD k default).mat (l.getD k default).mat.length) ⟨#[32, 125, 32]⟩) (l.getD k default).aft (l.getD k default).aft.length) ⟨#[32, 62, 32]⟩
theorem fin_eq (l : List Tl) (k : Nat) : bcat (pB (hdB l k) (l.getD k default).res (l.getD k default).res.length) ⟨#[10]⟩ = rlsB l (k + 1) := by
  have e1 : ∀ x y : ByteArray, (bcat x y).data.toList = x.data.toList ++ y.data.toList := fun _ _ => rfl
  have e2 : (rlsB l k).data.toList = rlsL l k := rfl
  have e3 : (bcat (pB (hdB l k) (l.getD k default).res (l.getD k default).res.length) ⟨#[10]⟩).data.toList = rlsL l k ++ rlL (l.getD k default) := by
    rw [e1, pB_list]
    unfold hdB
    rw [e1, wB_list, e1, wB_list, e1, wB_list, e2]
    unfold rlL hdL
    simp only [List.append_assoc]
  have e4 : ∀ x : ByteArray, x = bl x.data.toList := fun _ => rfl
  rw [e4 (bcat _ _), e3]
  rfl
def wS (pre : List Own) (r : Nat) (e : ByteArray) (b : ByteArray) (L : List (List Rg)) (j : Nat) : St := ⟨[(1, .v (.string e)), (2, .own 0 0), (7, stsD L), (8, .v (.int .i64 L.length)), (9, .v (.int .i64 j))], .cells 72 [.own 0 0, .row r] :: (pre ++ [.bytes 5 (wB b L j)]), []⟩
def wS0 (pre : List Own) (e : ByteArray) (L : List (List Rg)) (j : Nat) : St := ⟨[(1, .v (.string e)), (2, .own 0 0), (7, stsD L), (8, .v (.int .i64 L.length)), (9, .v (.int .i64 j))], .cells 72 [.v (.pointer none), .v (.slice none 0 0)] :: pre, []⟩
def wSz (pre : List Own) (r : Nat) (e : ByteArray) (b : ByteArray) (L : List (List Rg)) : Nat × Nat → St
  | (j, 0) => wS0 pre e L j
  | (j, _ + 1) => wS pre r e b L j
set_option maxHeartbeats 32000000 in
theorem pTxt_ok : Sound Tryz.prog (GlT mx pb) 12 ctTxt := by
  refine sound_by (cc := true) Γpx_ok Tryz.T_ok Tryz.mixed Tryz.func12 rfl (by kernel_rfl) (fun _ => rfl) (fun _ _ => by show 1 ≤ 60; decide) ?_
  intro (l : List Tl) (hl : smL l)
  have h6 := hl.1
  have p0 : ctChkE.pre l := hl
  by_cases he : chkE l = 0
  · have hout : ctTxt.out l = .tu [.v (.string (rlsB l l.length)), .v (.int .i64 0)] := by
      show D.tu [.v (.string (txtS l)), .v (.int .i64 (chkE l))] = _
      rw [txtS, if_pos he, he]
      rfl
    rw [hout]
    repeat' (first | refine gl ?_ | (refine br (fun q_ => ?_) (fun q_ => ?_) <;> try simp only [Int.toNat_natCast, Nat.mul_one, Nat.add_zero] at q_) | (refine brF (fun q_ => ?_) (fun q_ => ?_) <;> try simp only [Int.toNat_natCast, Nat.mul_one, Nat.add_zero] at q_))
    refine ⟨0, Nat × Nat, fun | (k, z) => ⟨[(5, .own 0 0), (6, .fn 25 [.own 0 0]), (17, tlsD l), (18, .v (.int .i64 l.length)), (19, .v (.int .i64 k))], bOw5 (rlsB l k) z, []⟩, fun | (k, z) => k ≤ l.length ∧ (z = 0 → k = 0), fun x => l.length - x.1, fun _ => Nat.zero_le _, ⟨(0, 0), ⟨Nat.zero_le _, fun h => h⟩, StLe.ren [0] tmS ⟨⟨rfl, EntL.refl _, rfl⟩, trivial⟩ (by decide)⟩, ?_⟩
    rintro ⟨k, z⟩ ⟨hk, hz0⟩
    have hs : (rlsB l k).size ≤ 8200 * k := rlsL_len hl k hk
    by_cases hlt : k < l.length
    · obtain ⟨hz, _, hp⟩ := oneE_inv (chkE_each he k hlt)
      obtain ⟨q1, q2, q3, q4⟩ := hl.2 k hlt
      have b1 := q1.1
      have b2 := q2.1
      have b3 := q3.1
      have hfin := fin_eq l k
      have y1 : (Src.str ⟨#[32, 123, 32]⟩).len = 3 := rfl
      have y2 : (Src.str ⟨#[32, 125, 32]⟩).len = 3 := rfl
      have y3 : (Src.str ⟨#[32, 62, 32]⟩).len = 3 := rfl
      have y4 : (Src.str ⟨#[10]⟩).len = 1 := rfl
      unfold hdB at hfin
      rcases z with _ | z
      · repeat' (first | refine gl ?_ | (refine br (fun q_ => ?_) (fun q_ => ?_) <;> try simp only [Int.toNat_natCast, Nat.mul_one, Nat.add_zero] at q_) | (refine brF (fun q_ => ?_) (fun q_ => ?_) <;> try simp only [Int.toNat_natCast, Nat.mul_one, Nat.add_zero] at q_))
        have hk0 := hz0 rfl
        have hr0 : rlsB l k = ⟨#[]⟩ := by rw [hk0]; rfl
        have hs0 : (rlsB l k).size = 0 := by rw [hr0]; rfl
        refine ⟨0, Nat × Nat, wSz [.cells 35 [tlD (l.getD k default) 0, tlD (l.getD k default) 1, tlD (l.getD k default) 2, tlD (l.getD k default) 3]] 2 ⟨#[32, 123, 32]⟩ (rlsB l k) (l.getD k default).bef, fun x => x.1 ≤ (l.getD k default).bef.length ∧ (x.2 = 0 → x.1 = 0), fun x => (l.getD k default).bef.length - x.1, fun x => (by rcases x with ⟨a, _ | b⟩; exact Nat.le_refl 2; exact (by decide : 2 ≤ 3)), ⟨(0, 0), ⟨Nat.zero_le _, fun h => h⟩, StLe.renm (m := 2) [0, 1] tmS ⟨⟨rfl, EntL.refl _, rfl⟩, ⟨rfl, EntL.refl _, rfl⟩, trivial⟩ (by decide) (by decide) (by simp)⟩, ?_⟩
        rintro ⟨j0, z0⟩ ⟨(hj0 : j0 ≤ (l.getD k default).bef.length), (hz1 : z0 = 0 → j0 = 0)⟩
        have hw0 := wB_size (b := rlsB l k) q1 hj0
        rcases z0 with _ | z0
        · have hj00 := hz1 rfl
          subst hj00
          by_cases hl0 : 0 < (l.getD k default).bef.length
          · have p1 : ctSetTx.pre ((l.getD k default).bef.getD 0 default) := q1.2 0 hl0
            have hx := setTx_size (q1.2 0 hl0)
            unfold wSz wS0
            repeat' (first | refine gl ?_ | (refine br (fun q_ => ?_) (fun q_ => ?_) <;> try simp only [Int.toNat_natCast, Nat.mul_one, Nat.add_zero] at q_) | (refine brF (fun q_ => ?_) (fun q_ => ?_) <;> try simp only [Int.toNat_natCast, Nat.mul_one, Nat.add_zero] at q_))
            exact ⟨(1, 1), ⟨by show 1 ≤ _; omega, by omega⟩, (by show _ - 1 < _ - 0; omega), StLe.renm (m := 2) [0, 1, 3] tmS ⟨⟨rfl, EntL.refl _, rfl⟩, ⟨rfl, EntL.refl _, rfl⟩, ⟨rfl, by first | (show wB (rlsB l k) (l.getD k default).bef 1 = _; rw [wB, wB, hr0]; rfl) | (show _ = wB (rlsB l k) (l.getD k default).bef 1; rw [wB, wB, hr0]; rfl)⟩, trivial⟩ (by decide) (by decide) (by simp)⟩
          have hn0 : (l.getD k default).bef.length = 0 := by omega
          unfold wSz wS0
          repeat' (first | refine gl ?_ | (refine br (fun q_ => ?_) (fun q_ => ?_) <;> try simp only [Int.toNat_natCast, Nat.mul_one, Nat.add_zero] at q_) | (refine brF (fun q_ => ?_) (fun q_ => ?_) <;> try simp only [Int.toNat_natCast, Nat.mul_one, Nat.add_zero] at q_))
          have hB2 : (bcat (wB (rlsB l k) (l.getD k default).bef (l.getD k default).bef.length) ⟨#[32, 123, 32]⟩).size ≤ 51803 := by simp only [bcat_size']; show (wB _ _ _).size + 3 ≤ _; rw [hn0]; show (rlsB l k).size + 3 ≤ _; omega
          clear hw0 hs0
          have hB20 : bcat (wB (rlsB l k) (l.getD k default).bef (l.getD k default).bef.length) ⟨#[32, 123, 32]⟩ = ⟨#[32, 123, 32]⟩ := by rw [hn0, wB, hr0]; rfl
          generalize bcat (wB (rlsB l k) (l.getD k default).bef (l.getD k default).bef.length) ⟨#[32, 123, 32]⟩ = B2 at hB2 hB20 hfin ⊢
          rw [← hB20]
          refine ⟨0, Nat, wS [.cells 35 [tlD (l.getD k default) 0, tlD (l.getD k default) 1, tlD (l.getD k default) 2, tlD (l.getD k default) 3], .gone] 3 ⟨#[32, 125, 32]⟩ B2 (l.getD k default).mat, fun j => j ≤ (l.getD k default).mat.length, fun j => (l.getD k default).mat.length - j, fun _ => (by show 3 ≤ 4; decide), ⟨0, Nat.zero_le _, StLe.trans (StLe.moveB (m := 3) (i := 0) (j := 1) (r := 2) rfl rfl rfl) (StLe.renm (m := 3) [0, 1, 2, 3] tmS ⟨⟨rfl, EntL.refl _, rfl⟩, ⟨rfl, EntL.refl _, rfl⟩, trivial, ⟨rfl, rfl⟩, trivial⟩ (by decide) (by decide) (by simp))⟩, ?_⟩
          intro j1 (hj1 : j1 ≤ (l.getD k default).mat.length)
          have hw1 := wB_size (b := B2) q2 hj1
          by_cases hl1 : j1 < (l.getD k default).mat.length
          · have p1 : ctSetTx.pre ((l.getD k default).mat.getD j1 default) := q2.2 j1 hl1
            have hx := setTx_size (q2.2 j1 hl1)
            have hx' : (Src.str (setTx ((l.getD k default).mat.getD j1 default))).len ≤ 260 := hx
            unfold wS
            repeat' (first | refine gl ?_ | (refine br (fun q_ => ?_) (fun q_ => ?_) <;> try simp only [Int.toNat_natCast, Nat.mul_one, Nat.add_zero] at q_) | (refine brF (fun q_ => ?_) (fun q_ => ?_) <;> try simp only [Int.toNat_natCast, Nat.mul_one, Nat.add_zero] at q_))
            exact ⟨j1 + 1, (by show j1 + 1 ≤ _; omega), (by show _ - (j1 + 1) < _ - j1; omega), StLe.renm (m := 3) [0, 1, 2, 5] tmS ⟨⟨rfl, EntL.refl _, rfl⟩, ⟨rfl, EntL.refl _, rfl⟩, trivial, ⟨rfl, rfl⟩, trivial⟩ (by decide) (by decide) (by simp)⟩
          have hje1 : j1 = (l.getD k default).mat.length := by omega
          subst hje1
          unfold wS
          repeat' (first | refine gl ?_ | (refine br (fun q_ => ?_) (fun q_ => ?_) <;> try simp only [Int.toNat_natCast, Nat.mul_one, Nat.add_zero] at q_) | (refine brF (fun q_ => ?_) (fun q_ => ?_) <;> try simp only [Int.toNat_natCast, Nat.mul_one, Nat.add_zero] at q_))
          have hB3 : (bcat (wB B2 (l.getD k default).mat (l.getD k default).mat.length) ⟨#[32, 125, 32]⟩).size ≤ 54406 := by simp only [bcat_size']; show _ + 3 ≤ _; omega
          clear hw1 hB2
          generalize bcat (wB B2 (l.getD k default).mat (l.getD k default).mat.length) ⟨#[32, 125, 32]⟩ = B3 at hB3 hfin ⊢
          refine ⟨0, Nat, wS [.cells 35 [tlD (l.getD k default) 0, tlD (l.getD k default) 1, tlD (l.getD k default) 2, tlD (l.getD k default) 3], .gone, .gone, .gone] 5 ⟨#[32, 62, 32]⟩ B3 (l.getD k default).aft, fun j => j ≤ (l.getD k default).aft.length, fun j => (l.getD k default).aft.length - j, fun _ => (by show 5 ≤ 6; decide), ⟨0, Nat.zero_le _, StLe.trans (StLe.moveB (m := 5) (i := 0) (j := 1) (r := 4) rfl rfl rfl) (StLe.renm (m := 5) [0, 1, 2, 3, 4, 5] tmS ⟨⟨rfl, EntL.refl _, rfl⟩, ⟨rfl, EntL.refl _, rfl⟩, trivial, trivial, trivial, ⟨rfl, rfl⟩, trivial⟩ (by decide) (by decide) (by simp))⟩, ?_⟩
          intro j2 (hj2 : j2 ≤ (l.getD k default).aft.length)
          have hw2 := wB_size (b := B3) q3 hj2
          by_cases hl2 : j2 < (l.getD k default).aft.length
          · have p1 : ctSetTx.pre ((l.getD k default).aft.getD j2 default) := q3.2 j2 hl2
            have hx := setTx_size (q3.2 j2 hl2)
            have hx' : (Src.str (setTx ((l.getD k default).aft.getD j2 default))).len ≤ 260 := hx
            unfold wS
            repeat' (first | refine gl ?_ | (refine br (fun q_ => ?_) (fun q_ => ?_) <;> try simp only [Int.toNat_natCast, Nat.mul_one, Nat.add_zero] at q_) | (refine brF (fun q_ => ?_) (fun q_ => ?_) <;> try simp only [Int.toNat_natCast, Nat.mul_one, Nat.add_zero] at q_))
            exact ⟨j2 + 1, (by show j2 + 1 ≤ _; omega), (by show _ - (j2 + 1) < _ - j2; omega), StLe.renm (m := 5) [0, 1, 2, 3, 4, 7] tmS ⟨⟨rfl, EntL.refl _, rfl⟩, ⟨rfl, EntL.refl _, rfl⟩, trivial, trivial, trivial, ⟨rfl, rfl⟩, trivial⟩ (by decide) (by decide) (by simp)⟩
          have hje2 : j2 = (l.getD k default).aft.length := by omega
          subst hje2
          unfold wS
          repeat' (first | refine gl ?_ | (refine br (fun q_ => ?_) (fun q_ => ?_) <;> try simp only [Int.toNat_natCast, Nat.mul_one, Nat.add_zero] at q_) | (refine brF (fun q_ => ?_) (fun q_ => ?_) <;> try simp only [Int.toNat_natCast, Nat.mul_one, Nat.add_zero] at q_))
          have hB4 : (bcat (wB B3 (l.getD k default).aft (l.getD k default).aft.length) ⟨#[32, 62, 32]⟩).size ≤ 57009 := by simp only [bcat_size']; show _ + 3 ≤ _; omega
          clear hw2 hB3
          generalize bcat (wB B3 (l.getD k default).aft (l.getD k default).aft.length) ⟨#[32, 62, 32]⟩ = B4 at hB4 hfin ⊢
          refine ⟨0, Nat, fun j => ⟨[(5, .own 0 0), (6, .fn 25 [.own 0 0]), (17, tlsD l), (18, .v (.int .i64 l.length)), (19, .v (.int .i64 k)), (36, rgsD (l.getD k default).res), (37, .v (.int .i64 (l.getD k default).res.length)), (38, .v (.int .i64 j))], [.cells 72 [.own 0 0, .row 2], .cells 35 [tlD (l.getD k default) 0, tlD (l.getD k default) 1, tlD (l.getD k default) 2, tlD (l.getD k default) 3], .bytes 5 (pB B4 (l.getD k default).res j)], []⟩, fun j => j ≤ (l.getD k default).res.length, fun j => (l.getD k default).res.length - j, fun _ => Nat.zero_le _, ⟨0, Nat.zero_le _, StLe.ren [0, 1, 6] tmS ⟨⟨rfl, EntL.refl _, rfl⟩, ⟨rfl, EntL.refl _, rfl⟩, ⟨rfl, rfl⟩, trivial⟩ (by decide)⟩, ?_⟩
          intro j (hj : j ≤ (l.getD k default).res.length)
          have hsj := pB_size B4 q4 hj
          by_cases hjl : j < (l.getD k default).res.length
          · have hpj := hp j hjl
            have hm8 := hz.2.1
            unfold pcOk at hpj
            by_cases hc0 : ((l.getD k default).res.getD ((j : Int)).toNat default).2 = 0
            · have hc : ((l.getD k default).res.getD j default).2 = 0 := hc0
              have hv : validB ((l.getD k default).res.getD j default).1 = true := by
                rcases hpj with h | h
                · exact h.2
                · omega
              have p4 : ctDig.pre ((l.getD k default).res.getD j default).1 := hv
              have e1 := shS_size ((l.getD k default).res.getD j default).1
              have e2 : (Src.str (bcat (bcat ⟨#[92, 117, 123]⟩ (shS ((l.getD k default).res.getD j default).1)) ⟨#[125]⟩)).len ≤ 10 := by show (bcat _ _).size ≤ 10; rw [bcat_size', bcat_size']; show 3 + _ + 1 ≤ 10; omega
              repeat' (first | refine gl ?_ | (refine br (fun q_ => ?_) (fun q_ => ?_) <;> try simp only [Int.toNat_natCast, Nat.mul_one, Nat.add_zero] at q_) | (refine brF (fun q_ => ?_) (fun q_ => ?_) <;> try simp only [Int.toNat_natCast, Nat.mul_one, Nat.add_zero] at q_))
              exact ⟨j + 1, (by show j + 1 ≤ _; omega), (by show _ - (j + 1) < _ - j; omega), StLe.ren [0, 1, 4] tmS ⟨⟨rfl, EntL.refl _, rfl⟩, ⟨rfl, EntL.refl _, rfl⟩, ⟨rfl, by first | (show pB B4 (l.getD k default).res (j + 1) = _; rw [pB, if_pos hc]; rfl) | (show _ = pB B4 (l.getD k default).res (j + 1); rw [pB, if_pos hc]; rfl)⟩, trivial⟩ (by decide)⟩
            · have hc : ¬ ((l.getD k default).res.getD j default).2 = 0 := hc0
              have hv : 1 ≤ ((l.getD k default).res.getD j default).2 ∧ ((l.getD k default).res.getD j default).2 ≤ 8 := by
                rcases hpj with h | h
                · exact absurd h.1 hc
                · omega
              have p4 : ctIt.pre ((l.getD k default).res.getD j default).2 := ⟨by omega, by omega⟩
              have e1 : (dg1 ((l.getD k default).res.getD j default).2).size = 1 := rfl
              have e2 : (Src.str (bcat ⟨#[36]⟩ (dg1 ((l.getD k default).res.getD j default).2))).len ≤ 10 := by show (bcat _ _).size ≤ 10; rw [bcat_size', e1]; decide
              repeat' (first | refine gl ?_ | (refine br (fun q_ => ?_) (fun q_ => ?_) <;> try simp only [Int.toNat_natCast, Nat.mul_one, Nat.add_zero] at q_) | (refine brF (fun q_ => ?_) (fun q_ => ?_) <;> try simp only [Int.toNat_natCast, Nat.mul_one, Nat.add_zero] at q_))
              exact ⟨j + 1, (by show j + 1 ≤ _; omega), (by show _ - (j + 1) < _ - j; omega), StLe.ren [0, 1, 4] tmS ⟨⟨rfl, EntL.refl _, rfl⟩, ⟨rfl, EntL.refl _, rfl⟩, ⟨rfl, by first | (show pB B4 (l.getD k default).res (j + 1) = _; rw [pB, if_neg hc]; rfl) | (show _ = pB B4 (l.getD k default).res (j + 1); rw [pB, if_neg hc]; rfl)⟩, trivial⟩ (by decide)⟩
          have hje : j = (l.getD k default).res.length := by omega
          subst hje
          repeat' (first | refine gl ?_ | (refine br (fun q_ => ?_) (fun q_ => ?_) <;> try simp only [Int.toNat_natCast, Nat.mul_one, Nat.add_zero] at q_) | (refine brF (fun q_ => ?_) (fun q_ => ?_) <;> try simp only [Int.toNat_natCast, Nat.mul_one, Nat.add_zero] at q_))
          exact ⟨(k + 1, 1), ⟨by omega, by omega⟩, (by show l.length - (k + 1) < l.length - k; omega), StLe.ren [0, 3] tmS ⟨⟨rfl, EntL.refl _, rfl⟩, ⟨rfl, by first | exact hfin | exact hfin.symm⟩, trivial⟩ (by decide)⟩
        · by_cases hl0 : j0 < (l.getD k default).bef.length
          · have p1 : ctSetTx.pre ((l.getD k default).bef.getD j0 default) := q1.2 j0 hl0
            have hx := setTx_size (q1.2 j0 hl0)
            have hx' : (Src.str (setTx ((l.getD k default).bef.getD j0 default))).len ≤ 260 := hx
            unfold wSz wS
            repeat' (first | refine gl ?_ | (refine br (fun q_ => ?_) (fun q_ => ?_) <;> try simp only [Int.toNat_natCast, Nat.mul_one, Nat.add_zero] at q_) | (refine brF (fun q_ => ?_) (fun q_ => ?_) <;> try simp only [Int.toNat_natCast, Nat.mul_one, Nat.add_zero] at q_))
            exact ⟨(j0 + 1, 1), ⟨by show j0 + 1 ≤ _; omega, by omega⟩, (by show _ - (j0 + 1) < _ - j0; omega), StLe.renm (m := 2) [0, 1, 4] tmS ⟨⟨rfl, EntL.refl _, rfl⟩, ⟨rfl, EntL.refl _, rfl⟩, ⟨rfl, rfl⟩, trivial⟩ (by decide) (by decide) (by simp)⟩
          have hje0 : j0 = (l.getD k default).bef.length := by omega
          subst hje0
          unfold wSz wS
          repeat' (first | refine gl ?_ | (refine br (fun q_ => ?_) (fun q_ => ?_) <;> try simp only [Int.toNat_natCast, Nat.mul_one, Nat.add_zero] at q_) | (refine brF (fun q_ => ?_) (fun q_ => ?_) <;> try simp only [Int.toNat_natCast, Nat.mul_one, Nat.add_zero] at q_))
          have hB2 : (bcat (wB (rlsB l k) (l.getD k default).bef (l.getD k default).bef.length) ⟨#[32, 123, 32]⟩).size ≤ 51803 := by simp only [bcat_size']; show _ + 3 ≤ _; omega
          clear hw0
          generalize bcat (wB (rlsB l k) (l.getD k default).bef (l.getD k default).bef.length) ⟨#[32, 123, 32]⟩ = B2 at hB2 hfin ⊢
          refine ⟨0, Nat, wS [.cells 35 [tlD (l.getD k default) 0, tlD (l.getD k default) 1, tlD (l.getD k default) 2, tlD (l.getD k default) 3], .gone, .gone] 4 ⟨#[32, 125, 32]⟩ B2 (l.getD k default).mat, fun j => j ≤ (l.getD k default).mat.length, fun j => (l.getD k default).mat.length - j, fun _ => (by show 4 ≤ 5; decide), ⟨0, Nat.zero_le _, StLe.trans (StLe.moveB (m := 4) (i := 0) (j := 1) (r := 3) rfl rfl rfl) (StLe.renm (m := 4) [0, 1, 2, 3, 4] tmS ⟨⟨rfl, EntL.refl _, rfl⟩, ⟨rfl, EntL.refl _, rfl⟩, trivial, trivial, ⟨rfl, rfl⟩, trivial⟩ (by decide) (by decide) (by simp))⟩, ?_⟩
          intro j1 (hj1 : j1 ≤ (l.getD k default).mat.length)
          have hw1 := wB_size (b := B2) q2 hj1
          by_cases hl1 : j1 < (l.getD k default).mat.length
          · have p1 : ctSetTx.pre ((l.getD k default).mat.getD j1 default) := q2.2 j1 hl1
            have hx := setTx_size (q2.2 j1 hl1)
            have hx' : (Src.str (setTx ((l.getD k default).mat.getD j1 default))).len ≤ 260 := hx
            unfold wS
            repeat' (first | refine gl ?_ | (refine br (fun q_ => ?_) (fun q_ => ?_) <;> try simp only [Int.toNat_natCast, Nat.mul_one, Nat.add_zero] at q_) | (refine brF (fun q_ => ?_) (fun q_ => ?_) <;> try simp only [Int.toNat_natCast, Nat.mul_one, Nat.add_zero] at q_))
            exact ⟨j1 + 1, (by show j1 + 1 ≤ _; omega), (by show _ - (j1 + 1) < _ - j1; omega), StLe.renm (m := 4) [0, 1, 2, 3, 6] tmS ⟨⟨rfl, EntL.refl _, rfl⟩, ⟨rfl, EntL.refl _, rfl⟩, trivial, trivial, ⟨rfl, rfl⟩, trivial⟩ (by decide) (by decide) (by simp)⟩
          have hje1 : j1 = (l.getD k default).mat.length := by omega
          subst hje1
          unfold wS
          repeat' (first | refine gl ?_ | (refine br (fun q_ => ?_) (fun q_ => ?_) <;> try simp only [Int.toNat_natCast, Nat.mul_one, Nat.add_zero] at q_) | (refine brF (fun q_ => ?_) (fun q_ => ?_) <;> try simp only [Int.toNat_natCast, Nat.mul_one, Nat.add_zero] at q_))
          have hB3 : (bcat (wB B2 (l.getD k default).mat (l.getD k default).mat.length) ⟨#[32, 125, 32]⟩).size ≤ 54406 := by simp only [bcat_size']; show _ + 3 ≤ _; omega
          clear hw1 hB2
          generalize bcat (wB B2 (l.getD k default).mat (l.getD k default).mat.length) ⟨#[32, 125, 32]⟩ = B3 at hB3 hfin ⊢
          refine ⟨0, Nat, wS [.cells 35 [tlD (l.getD k default) 0, tlD (l.getD k default) 1, tlD (l.getD k default) 2, tlD (l.getD k default) 3], .gone, .gone, .gone, .gone] 6 ⟨#[32, 62, 32]⟩ B3 (l.getD k default).aft, fun j => j ≤ (l.getD k default).aft.length, fun j => (l.getD k default).aft.length - j, fun _ => (by show 6 ≤ 7; decide), ⟨0, Nat.zero_le _, StLe.trans (StLe.moveB (m := 6) (i := 0) (j := 1) (r := 5) rfl rfl rfl) (StLe.renm (m := 6) [0, 1, 2, 3, 4, 5, 6] tmS ⟨⟨rfl, EntL.refl _, rfl⟩, ⟨rfl, EntL.refl _, rfl⟩, trivial, trivial, trivial, trivial, ⟨rfl, rfl⟩, trivial⟩ (by decide) (by decide) (by simp))⟩, ?_⟩
          intro j2 (hj2 : j2 ≤ (l.getD k default).aft.length)
          have hw2 := wB_size (b := B3) q3 hj2
          by_cases hl2 : j2 < (l.getD k default).aft.length
          · have p1 : ctSetTx.pre ((l.getD k default).aft.getD j2 default) := q3.2 j2 hl2
            have hx := setTx_size (q3.2 j2 hl2)
            have hx' : (Src.str (setTx ((l.getD k default).aft.getD j2 default))).len ≤ 260 := hx
            unfold wS
            repeat' (first | refine gl ?_ | (refine br (fun q_ => ?_) (fun q_ => ?_) <;> try simp only [Int.toNat_natCast, Nat.mul_one, Nat.add_zero] at q_) | (refine brF (fun q_ => ?_) (fun q_ => ?_) <;> try simp only [Int.toNat_natCast, Nat.mul_one, Nat.add_zero] at q_))
            exact ⟨j2 + 1, (by show j2 + 1 ≤ _; omega), (by show _ - (j2 + 1) < _ - j2; omega), StLe.renm (m := 6) [0, 1, 2, 3, 4, 5, 8] tmS ⟨⟨rfl, EntL.refl _, rfl⟩, ⟨rfl, EntL.refl _, rfl⟩, trivial, trivial, trivial, trivial, ⟨rfl, rfl⟩, trivial⟩ (by decide) (by decide) (by simp)⟩
          have hje2 : j2 = (l.getD k default).aft.length := by omega
          subst hje2
          unfold wS
          repeat' (first | refine gl ?_ | (refine br (fun q_ => ?_) (fun q_ => ?_) <;> try simp only [Int.toNat_natCast, Nat.mul_one, Nat.add_zero] at q_) | (refine brF (fun q_ => ?_) (fun q_ => ?_) <;> try simp only [Int.toNat_natCast, Nat.mul_one, Nat.add_zero] at q_))
          have hB4 : (bcat (wB B3 (l.getD k default).aft (l.getD k default).aft.length) ⟨#[32, 62, 32]⟩).size ≤ 57009 := by simp only [bcat_size']; show _ + 3 ≤ _; omega
          clear hw2 hB3
          generalize bcat (wB B3 (l.getD k default).aft (l.getD k default).aft.length) ⟨#[32, 62, 32]⟩ = B4 at hB4 hfin ⊢
          refine ⟨0, Nat, fun j => ⟨[(5, .own 0 0), (6, .fn 25 [.own 0 0]), (17, tlsD l), (18, .v (.int .i64 l.length)), (19, .v (.int .i64 k)), (36, rgsD (l.getD k default).res), (37, .v (.int .i64 (l.getD k default).res.length)), (38, .v (.int .i64 j))], [.cells 72 [.own 0 0, .row 2], .cells 35 [tlD (l.getD k default) 0, tlD (l.getD k default) 1, tlD (l.getD k default) 2, tlD (l.getD k default) 3], .bytes 5 (pB B4 (l.getD k default).res j)], []⟩, fun j => j ≤ (l.getD k default).res.length, fun j => (l.getD k default).res.length - j, fun _ => Nat.zero_le _, ⟨0, Nat.zero_le _, StLe.ren [0, 1, 7] tmS ⟨⟨rfl, EntL.refl _, rfl⟩, ⟨rfl, EntL.refl _, rfl⟩, ⟨rfl, rfl⟩, trivial⟩ (by decide)⟩, ?_⟩
          intro j (hj : j ≤ (l.getD k default).res.length)
          have hsj := pB_size B4 q4 hj
          by_cases hjl : j < (l.getD k default).res.length
          · have hpj := hp j hjl
            have hm8 := hz.2.1
            unfold pcOk at hpj
            by_cases hc0 : ((l.getD k default).res.getD ((j : Int)).toNat default).2 = 0
            · have hc : ((l.getD k default).res.getD j default).2 = 0 := hc0
              have hv : validB ((l.getD k default).res.getD j default).1 = true := by
                rcases hpj with h | h
                · exact h.2
                · omega
              have p4 : ctDig.pre ((l.getD k default).res.getD j default).1 := hv
              have e1 := shS_size ((l.getD k default).res.getD j default).1
              have e2 : (Src.str (bcat (bcat ⟨#[92, 117, 123]⟩ (shS ((l.getD k default).res.getD j default).1)) ⟨#[125]⟩)).len ≤ 10 := by show (bcat _ _).size ≤ 10; rw [bcat_size', bcat_size']; show 3 + _ + 1 ≤ 10; omega
              repeat' (first | refine gl ?_ | (refine br (fun q_ => ?_) (fun q_ => ?_) <;> try simp only [Int.toNat_natCast, Nat.mul_one, Nat.add_zero] at q_) | (refine brF (fun q_ => ?_) (fun q_ => ?_) <;> try simp only [Int.toNat_natCast, Nat.mul_one, Nat.add_zero] at q_))
              exact ⟨j + 1, (by show j + 1 ≤ _; omega), (by show _ - (j + 1) < _ - j; omega), StLe.ren [0, 1, 4] tmS ⟨⟨rfl, EntL.refl _, rfl⟩, ⟨rfl, EntL.refl _, rfl⟩, ⟨rfl, by first | (show pB B4 (l.getD k default).res (j + 1) = _; rw [pB, if_pos hc]; rfl) | (show _ = pB B4 (l.getD k default).res (j + 1); rw [pB, if_pos hc]; rfl)⟩, trivial⟩ (by decide)⟩
            · have hc : ¬ ((l.getD k default).res.getD j default).2 = 0 := hc0
              have hv : 1 ≤ ((l.getD k default).res.getD j default).2 ∧ ((l.getD k default).res.getD j default).2 ≤ 8 := by
                rcases hpj with h | h
                · exact absurd h.1 hc
                · omega
              have p4 : ctIt.pre ((l.getD k default).res.getD j default).2 := ⟨by omega, by omega⟩
              have e1 : (dg1 ((l.getD k default).res.getD j default).2).size = 1 := rfl
              have e2 : (Src.str (bcat ⟨#[36]⟩ (dg1 ((l.getD k default).res.getD j default).2))).len ≤ 10 := by show (bcat _ _).size ≤ 10; rw [bcat_size', e1]; decide
              repeat' (first | refine gl ?_ | (refine br (fun q_ => ?_) (fun q_ => ?_) <;> try simp only [Int.toNat_natCast, Nat.mul_one, Nat.add_zero] at q_) | (refine brF (fun q_ => ?_) (fun q_ => ?_) <;> try simp only [Int.toNat_natCast, Nat.mul_one, Nat.add_zero] at q_))
              exact ⟨j + 1, (by show j + 1 ≤ _; omega), (by show _ - (j + 1) < _ - j; omega), StLe.ren [0, 1, 4] tmS ⟨⟨rfl, EntL.refl _, rfl⟩, ⟨rfl, EntL.refl _, rfl⟩, ⟨rfl, by first | (show pB B4 (l.getD k default).res (j + 1) = _; rw [pB, if_neg hc]; rfl) | (show _ = pB B4 (l.getD k default).res (j + 1); rw [pB, if_neg hc]; rfl)⟩, trivial⟩ (by decide)⟩
          have hje : j = (l.getD k default).res.length := by omega
          subst hje
          repeat' (first | refine gl ?_ | (refine br (fun q_ => ?_) (fun q_ => ?_) <;> try simp only [Int.toNat_natCast, Nat.mul_one, Nat.add_zero] at q_) | (refine brF (fun q_ => ?_) (fun q_ => ?_) <;> try simp only [Int.toNat_natCast, Nat.mul_one, Nat.add_zero] at q_))
          exact ⟨(k + 1, 1), ⟨by omega, by omega⟩, (by show l.length - (k + 1) < l.length - k; omega), StLe.ren [0, 3] tmS ⟨⟨rfl, EntL.refl _, rfl⟩, ⟨rfl, by first | exact hfin | exact hfin.symm⟩, trivial⟩ (by decide)⟩
      · repeat' (first | refine gl ?_ | (refine br (fun q_ => ?_) (fun q_ => ?_) <;> try simp only [Int.toNat_natCast, Nat.mul_one, Nat.add_zero] at q_) | (refine brF (fun q_ => ?_) (fun q_ => ?_) <;> try simp only [Int.toNat_natCast, Nat.mul_one, Nat.add_zero] at q_))
        refine ⟨0, Nat, wS [.gone, .cells 35 [tlD (l.getD k default) 0, tlD (l.getD k default) 1, tlD (l.getD k default) 2, tlD (l.getD k default) 3]] 3 ⟨#[32, 123, 32]⟩ (rlsB l k) (l.getD k default).bef, fun j => j ≤ (l.getD k default).bef.length, fun j => (l.getD k default).bef.length - j, fun _ => (by show 3 ≤ 4; decide), ⟨0, Nat.zero_le _, StLe.trans (StLe.moveB (m := 3) (i := 0) (j := 1) (r := 1) rfl rfl rfl) (StLe.renm (m := 3) [0, 1, 2, 3] tmS ⟨⟨rfl, EntL.refl _, rfl⟩, trivial, ⟨rfl, EntL.refl _, rfl⟩, ⟨rfl, rfl⟩, trivial⟩ (by decide) (by decide) (by simp))⟩, ?_⟩
        intro j0 (hj0 : j0 ≤ (l.getD k default).bef.length)
        have hw0 := wB_size (b := (rlsB l k)) q1 hj0
        by_cases hl0 : j0 < (l.getD k default).bef.length
        · have p1 : ctSetTx.pre ((l.getD k default).bef.getD j0 default) := q1.2 j0 hl0
          have hx := setTx_size (q1.2 j0 hl0)
          have hx' : (Src.str (setTx ((l.getD k default).bef.getD j0 default))).len ≤ 260 := hx
          unfold wS
          repeat' (first | refine gl ?_ | (refine br (fun q_ => ?_) (fun q_ => ?_) <;> try simp only [Int.toNat_natCast, Nat.mul_one, Nat.add_zero] at q_) | (refine brF (fun q_ => ?_) (fun q_ => ?_) <;> try simp only [Int.toNat_natCast, Nat.mul_one, Nat.add_zero] at q_))
          exact ⟨j0 + 1, (by show j0 + 1 ≤ _; omega), (by show _ - (j0 + 1) < _ - j0; omega), StLe.renm (m := 3) [0, 1, 2, 5] tmS ⟨⟨rfl, EntL.refl _, rfl⟩, trivial, ⟨rfl, EntL.refl _, rfl⟩, ⟨rfl, rfl⟩, trivial⟩ (by decide) (by decide) (by simp)⟩
        have hje0 : j0 = (l.getD k default).bef.length := by omega
        subst hje0
        unfold wS
        repeat' (first | refine gl ?_ | (refine br (fun q_ => ?_) (fun q_ => ?_) <;> try simp only [Int.toNat_natCast, Nat.mul_one, Nat.add_zero] at q_) | (refine brF (fun q_ => ?_) (fun q_ => ?_) <;> try simp only [Int.toNat_natCast, Nat.mul_one, Nat.add_zero] at q_))
        have hB2 : (bcat (wB (rlsB l k) (l.getD k default).bef (l.getD k default).bef.length) ⟨#[32, 123, 32]⟩).size ≤ 51803 := by simp only [bcat_size']; show _ + 3 ≤ _; omega
        clear hw0
        generalize bcat (wB (rlsB l k) (l.getD k default).bef (l.getD k default).bef.length) ⟨#[32, 123, 32]⟩ = B2 at hB2 hfin ⊢
        refine ⟨0, Nat, wS [.gone, .cells 35 [tlD (l.getD k default) 0, tlD (l.getD k default) 1, tlD (l.getD k default) 2, tlD (l.getD k default) 3], .gone, .gone] 5 ⟨#[32, 125, 32]⟩ B2 (l.getD k default).mat, fun j => j ≤ (l.getD k default).mat.length, fun j => (l.getD k default).mat.length - j, fun _ => (by show 5 ≤ 6; decide), ⟨0, Nat.zero_le _, StLe.trans (StLe.moveB (m := 5) (i := 0) (j := 1) (r := 4) rfl rfl rfl) (StLe.renm (m := 5) [0, 1, 2, 3, 4, 5] tmS ⟨⟨rfl, EntL.refl _, rfl⟩, trivial, ⟨rfl, EntL.refl _, rfl⟩, trivial, trivial, ⟨rfl, rfl⟩, trivial⟩ (by decide) (by decide) (by simp))⟩, ?_⟩
        intro j1 (hj1 : j1 ≤ (l.getD k default).mat.length)
        have hw1 := wB_size (b := B2) q2 hj1
        by_cases hl1 : j1 < (l.getD k default).mat.length
        · have p1 : ctSetTx.pre ((l.getD k default).mat.getD j1 default) := q2.2 j1 hl1
          have hx := setTx_size (q2.2 j1 hl1)
          have hx' : (Src.str (setTx ((l.getD k default).mat.getD j1 default))).len ≤ 260 := hx
          unfold wS
          repeat' (first | refine gl ?_ | (refine br (fun q_ => ?_) (fun q_ => ?_) <;> try simp only [Int.toNat_natCast, Nat.mul_one, Nat.add_zero] at q_) | (refine brF (fun q_ => ?_) (fun q_ => ?_) <;> try simp only [Int.toNat_natCast, Nat.mul_one, Nat.add_zero] at q_))
          exact ⟨j1 + 1, (by show j1 + 1 ≤ _; omega), (by show _ - (j1 + 1) < _ - j1; omega), StLe.renm (m := 5) [0, 1, 2, 3, 4, 7] tmS ⟨⟨rfl, EntL.refl _, rfl⟩, trivial, ⟨rfl, EntL.refl _, rfl⟩, trivial, trivial, ⟨rfl, rfl⟩, trivial⟩ (by decide) (by decide) (by simp)⟩
        have hje1 : j1 = (l.getD k default).mat.length := by omega
        subst hje1
        unfold wS
        repeat' (first | refine gl ?_ | (refine br (fun q_ => ?_) (fun q_ => ?_) <;> try simp only [Int.toNat_natCast, Nat.mul_one, Nat.add_zero] at q_) | (refine brF (fun q_ => ?_) (fun q_ => ?_) <;> try simp only [Int.toNat_natCast, Nat.mul_one, Nat.add_zero] at q_))
        have hB3 : (bcat (wB B2 (l.getD k default).mat (l.getD k default).mat.length) ⟨#[32, 125, 32]⟩).size ≤ 54406 := by simp only [bcat_size']; show _ + 3 ≤ _; omega
        clear hw1 hB2
        generalize bcat (wB B2 (l.getD k default).mat (l.getD k default).mat.length) ⟨#[32, 125, 32]⟩ = B3 at hB3 hfin ⊢
        refine ⟨0, Nat, wS [.gone, .cells 35 [tlD (l.getD k default) 0, tlD (l.getD k default) 1, tlD (l.getD k default) 2, tlD (l.getD k default) 3], .gone, .gone, .gone, .gone] 7 ⟨#[32, 62, 32]⟩ B3 (l.getD k default).aft, fun j => j ≤ (l.getD k default).aft.length, fun j => (l.getD k default).aft.length - j, fun _ => (by show 7 ≤ 8; decide), ⟨0, Nat.zero_le _, StLe.trans (StLe.moveB (m := 7) (i := 0) (j := 1) (r := 6) rfl rfl rfl) (StLe.renm (m := 7) [0, 1, 2, 3, 4, 5, 6, 7] tmS ⟨⟨rfl, EntL.refl _, rfl⟩, trivial, ⟨rfl, EntL.refl _, rfl⟩, trivial, trivial, trivial, trivial, ⟨rfl, rfl⟩, trivial⟩ (by decide) (by decide) (by simp))⟩, ?_⟩
        intro j2 (hj2 : j2 ≤ (l.getD k default).aft.length)
        have hw2 := wB_size (b := B3) q3 hj2
        by_cases hl2 : j2 < (l.getD k default).aft.length
        · have p1 : ctSetTx.pre ((l.getD k default).aft.getD j2 default) := q3.2 j2 hl2
          have hx := setTx_size (q3.2 j2 hl2)
          have hx' : (Src.str (setTx ((l.getD k default).aft.getD j2 default))).len ≤ 260 := hx
          unfold wS
          repeat' (first | refine gl ?_ | (refine br (fun q_ => ?_) (fun q_ => ?_) <;> try simp only [Int.toNat_natCast, Nat.mul_one, Nat.add_zero] at q_) | (refine brF (fun q_ => ?_) (fun q_ => ?_) <;> try simp only [Int.toNat_natCast, Nat.mul_one, Nat.add_zero] at q_))
          exact ⟨j2 + 1, (by show j2 + 1 ≤ _; omega), (by show _ - (j2 + 1) < _ - j2; omega), StLe.renm (m := 7) [0, 1, 2, 3, 4, 5, 6, 9] tmS ⟨⟨rfl, EntL.refl _, rfl⟩, trivial, ⟨rfl, EntL.refl _, rfl⟩, trivial, trivial, trivial, trivial, ⟨rfl, rfl⟩, trivial⟩ (by decide) (by decide) (by simp)⟩
        have hje2 : j2 = (l.getD k default).aft.length := by omega
        subst hje2
        unfold wS
        repeat' (first | refine gl ?_ | (refine br (fun q_ => ?_) (fun q_ => ?_) <;> try simp only [Int.toNat_natCast, Nat.mul_one, Nat.add_zero] at q_) | (refine brF (fun q_ => ?_) (fun q_ => ?_) <;> try simp only [Int.toNat_natCast, Nat.mul_one, Nat.add_zero] at q_))
        have hB4 : (bcat (wB B3 (l.getD k default).aft (l.getD k default).aft.length) ⟨#[32, 62, 32]⟩).size ≤ 57009 := by simp only [bcat_size']; show _ + 3 ≤ _; omega
        clear hw2 hB3
        generalize bcat (wB B3 (l.getD k default).aft (l.getD k default).aft.length) ⟨#[32, 62, 32]⟩ = B4 at hB4 hfin ⊢
        refine ⟨0, Nat, fun j => ⟨[(5, .own 0 0), (6, .fn 25 [.own 0 0]), (17, tlsD l), (18, .v (.int .i64 l.length)), (19, .v (.int .i64 k)), (36, rgsD (l.getD k default).res), (37, .v (.int .i64 (l.getD k default).res.length)), (38, .v (.int .i64 j))], [.cells 72 [.own 0 0, .row 2], .cells 35 [tlD (l.getD k default) 0, tlD (l.getD k default) 1, tlD (l.getD k default) 2, tlD (l.getD k default) 3], .bytes 5 (pB B4 (l.getD k default).res j)], []⟩, fun j => j ≤ (l.getD k default).res.length, fun j => (l.getD k default).res.length - j, fun _ => Nat.zero_le _, ⟨0, Nat.zero_le _, StLe.ren [0, 2, 8] tmS ⟨⟨rfl, EntL.refl _, rfl⟩, ⟨rfl, EntL.refl _, rfl⟩, ⟨rfl, rfl⟩, trivial⟩ (by decide)⟩, ?_⟩
        intro j (hj : j ≤ (l.getD k default).res.length)
        have hsj := pB_size B4 q4 hj
        by_cases hjl : j < (l.getD k default).res.length
        · have hpj := hp j hjl
          have hm8 := hz.2.1
          unfold pcOk at hpj
          by_cases hc0 : ((l.getD k default).res.getD ((j : Int)).toNat default).2 = 0
          · have hc : ((l.getD k default).res.getD j default).2 = 0 := hc0
            have hv : validB ((l.getD k default).res.getD j default).1 = true := by
              rcases hpj with h | h
              · exact h.2
              · omega
            have p4 : ctDig.pre ((l.getD k default).res.getD j default).1 := hv
            have e1 := shS_size ((l.getD k default).res.getD j default).1
            have e2 : (Src.str (bcat (bcat ⟨#[92, 117, 123]⟩ (shS ((l.getD k default).res.getD j default).1)) ⟨#[125]⟩)).len ≤ 10 := by show (bcat _ _).size ≤ 10; rw [bcat_size', bcat_size']; show 3 + _ + 1 ≤ 10; omega
            repeat' (first | refine gl ?_ | (refine br (fun q_ => ?_) (fun q_ => ?_) <;> try simp only [Int.toNat_natCast, Nat.mul_one, Nat.add_zero] at q_) | (refine brF (fun q_ => ?_) (fun q_ => ?_) <;> try simp only [Int.toNat_natCast, Nat.mul_one, Nat.add_zero] at q_))
            exact ⟨j + 1, (by show j + 1 ≤ _; omega), (by show _ - (j + 1) < _ - j; omega), StLe.ren [0, 1, 4] tmS ⟨⟨rfl, EntL.refl _, rfl⟩, ⟨rfl, EntL.refl _, rfl⟩, ⟨rfl, by first | (show pB B4 (l.getD k default).res (j + 1) = _; rw [pB, if_pos hc]; rfl) | (show _ = pB B4 (l.getD k default).res (j + 1); rw [pB, if_pos hc]; rfl)⟩, trivial⟩ (by decide)⟩
          · have hc : ¬ ((l.getD k default).res.getD j default).2 = 0 := hc0
            have hv : 1 ≤ ((l.getD k default).res.getD j default).2 ∧ ((l.getD k default).res.getD j default).2 ≤ 8 := by
              rcases hpj with h | h
              · exact absurd h.1 hc
              · omega
            have p4 : ctIt.pre ((l.getD k default).res.getD j default).2 := ⟨by omega, by omega⟩
            have e1 : (dg1 ((l.getD k default).res.getD j default).2).size = 1 := rfl
            have e2 : (Src.str (bcat ⟨#[36]⟩ (dg1 ((l.getD k default).res.getD j default).2))).len ≤ 10 := by show (bcat _ _).size ≤ 10; rw [bcat_size', e1]; decide
            repeat' (first | refine gl ?_ | (refine br (fun q_ => ?_) (fun q_ => ?_) <;> try simp only [Int.toNat_natCast, Nat.mul_one, Nat.add_zero] at q_) | (refine brF (fun q_ => ?_) (fun q_ => ?_) <;> try simp only [Int.toNat_natCast, Nat.mul_one, Nat.add_zero] at q_))
            exact ⟨j + 1, (by show j + 1 ≤ _; omega), (by show _ - (j + 1) < _ - j; omega), StLe.ren [0, 1, 4] tmS ⟨⟨rfl, EntL.refl _, rfl⟩, ⟨rfl, EntL.refl _, rfl⟩, ⟨rfl, by first | (show pB B4 (l.getD k default).res (j + 1) = _; rw [pB, if_neg hc]; rfl) | (show _ = pB B4 (l.getD k default).res (j + 1); rw [pB, if_neg hc]; rfl)⟩, trivial⟩ (by decide)⟩
        have hje : j = (l.getD k default).res.length := by omega
        subst hje
        repeat' (first | refine gl ?_ | (refine br (fun q_ => ?_) (fun q_ => ?_) <;> try simp only [Int.toNat_natCast, Nat.mul_one, Nat.add_zero] at q_) | (refine brF (fun q_ => ?_) (fun q_ => ?_) <;> try simp only [Int.toNat_natCast, Nat.mul_one, Nat.add_zero] at q_))
        exact ⟨(k + 1, 1), ⟨by omega, by omega⟩, (by show l.length - (k + 1) < l.length - k; omega), StLe.ren [0, 3] tmS ⟨⟨rfl, EntL.refl _, rfl⟩, ⟨rfl, by first | exact hfin | exact hfin.symm⟩, trivial⟩ (by decide)⟩
    · have hke : k = l.length := by omega
      rcases z with _ | z
      · have h0 := hz0 rfl
        repeat' (first | refine gl ?_ | (refine br (fun q_ => ?_) (fun q_ => ?_) <;> try simp only [Int.toNat_natCast, Nat.mul_one, Nat.add_zero] at q_) | (refine brF (fun q_ => ?_) (fun q_ => ?_) <;> try simp only [Int.toNat_natCast, Nat.mul_one, Nat.add_zero] at q_))
        refine EntR.of rfl (Ent.tu2 (Ent.v (congrArg Value.string ?_)) (Ent.refl _))
        rw [← hke, h0]
        rfl
      · repeat' (first | refine gl ?_ | (refine br (fun q_ => ?_) (fun q_ => ?_) <;> try simp only [Int.toNat_natCast, Nat.mul_one, Nat.add_zero] at q_) | (refine brF (fun q_ => ?_) (fun q_ => ?_) <;> try simp only [Int.toNat_natCast, Nat.mul_one, Nat.add_zero] at q_))
        refine EntR.of rfl (Ent.tu2 (Ent.v (congrArg Value.string ?_)) (Ent.refl _))
        rw [hke]
  · have hout : ctTxt.out l = .tu [.v (.string (bl [])), .v (.int .i64 (chkE l))] := by
      show D.tu [.v (.string (txtS l)), .v (.int .i64 (chkE l))] = _
      rw [txtS, if_neg he]
    rw [hout]
    repeat' (first | refine gl ?_ | (refine br (fun q_ => ?_) (fun q_ => ?_) <;> try simp only [Int.toNat_natCast, Nat.mul_one, Nat.add_zero] at q_) | (refine brF (fun q_ => ?_) (fun q_ => ?_) <;> try simp only [Int.toNat_natCast, Nat.mul_one, Nat.add_zero] at q_))
    exact EntR.of rfl (Ent.refl _)
end Go.Proofs
