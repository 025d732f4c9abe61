import Derived.Test.YtnegdnbodccgkaaGreatDoorPPz
import Derived.Test.YtnegdnbodccgkaaGreatDoorT7
import Derived.Test.YtnegdnbodccgkaaGreatDoorQ3
import Derived.Test.YtnegdnbodccgkaaGreatDoorHz
import Derived.Test.YtnegdnbodccgkaaGreatDoorLPz
import Derived.Test.YtnegdnbodccgkaaGreatDoorLPd
set_option linter.unusedVariables false
set_option linter.unusedSimpArgs false
namespace Go.Proofs
open Go Go.Sx
variable {mx : Int} {pb : Bool}

/-! property.Text and its twin -/
noncomputable def ctTx : Ct := { ι := Pr, inp := fun p => [prA p], out := fun p => .tu [.v (.string (txS p)), .v (.int .i64 (txE p))], pre := fun p => p.spans.length ≤ 10000 }
theorem tx_no {p : Pr} (h : validP p = false) : ctTx.out p = .tu [.v (.string ⟨#[]⟩), .v (.int .i64 11)] := by
  show D.tu [.v (.string (txS p)), .v (.int .i64 (txE p))] = _
  rw [txS, txE, if_neg (by rw [h]; decide), if_neg (by rw [h]; decide)]
theorem tx_yes {p : Pr} (h : validP p = true) {s : ByteArray} (e : s.data.toList = txL p) : ctTx.out p = .tu [.v (.string s), .v (.int .i64 0)] := by
  show D.tu [.v (.string (txS p)), .v (.int .i64 (txE p))] = _
  rw [txS, txE, if_pos h, if_pos h, ← e]
  rfl
theorem nms_cons (n : ByteArray) (l : List ByteArray) : nmsTx (n :: l) = 32 :: (n.data.toList ++ nmsTx l) := by simp [nmsTx]
theorem nms_tail : ∀ l : List ByteArray, nmsTx l = Lib.joinTail [32] (l.map (·.data.toList))
  | [] => rfl
  | n :: l => by
    rw [nms_cons, nms_tail l, List.map_cons, show Lib.joinTail [32] (n.data.toList :: l.map (·.data.toList)) = [32] ++ n.data.toList ++ Lib.joinTail [32] (l.map (·.data.toList)) from rfl]
    rfl
theorem nms_join : ∀ {l : List ByteArray}, l ≠ [] → nmsTx l = 32 :: (joinB l ⟨#[32]⟩).data.toList
  | [], h => absurd rfl h
  | n :: l, _ => by
    rw [nms_cons, nms_tail l]
    show _ = 32 :: Lib.join ((n :: l).map (·.data.toList)) [32]
    rw [List.map_cons, Lib.join_cons]
theorem nms_snoc {l : List ByteArray} {k : Nat} (h : k < l.length) : nmsTx (l.take (k + 1)) = nmsTx (l.take k) ++ 32 :: (l.getD k default).data.toList := by
  rw [List.take_succ_eq_append_getElem h, nmsTx, List.flatMap_append, List.getD_eq_getElem?_getD, List.getElem?_eq_getElem h]
  simp [nmsTx]
theorem nms_size : ∀ {l : List ByteArray}, (∀ n ∈ l, n.size ≤ 32) → (nmsTx l).length ≤ 33 * l.length
  | [], _ => by simp [nmsTx]
  | n :: l, h => by
    have h1 : n.data.toList.length ≤ 32 := h n (by simp)
    have h2 := nms_size (l := l) fun m hm => h m (by simp [hm])
    rw [nms_cons, List.length_cons, List.length_append, List.length_cons]
    omega
theorem word_ascii {b : UInt8} (h : wordB b = true) : b.toNat < 128 := by
  simp only [wordB, okByte, Bool.and_eq_true, decide_eq_true_eq] at h
  omega
def lnSp (names : List ByteArray) (s : Sp) : Ln := lxLn (lxSp names s)
theorem lnSp_fit {p : Pr} (h : prOk p) : ∀ x ∈ p.spans.map (lnSp p.names), lnFitT x := by
  intro x hx
  obtain ⟨s, hs, rfl⟩ := List.mem_map.1 hx
  obtain ⟨i, hi, rfl⟩ := List.getElem_of_mem hs
  have h1 := prOk_sp h hi
  rw [getD_get hi] at h1
  unfold spIn at h1
  have hv : p.spans[i].val.toNat < p.names.length := by omega
  have hm : p.names.getD p.spans[i].val.toNat default ∈ p.names := by
    rw [List.getD_eq_getElem?_getD, List.getElem?_eq_getElem hv]; exact List.getElem_mem hv
  obtain ⟨w1, _, w3⟩ := nm_facts h.1 _ hm
  refine ⟨by show 1 ≤ 1000; decide, fun f hf => ?_, by show 0 ≤ 1000000; decide⟩
  rw [show f = p.names.getD p.spans[i].val.toNat default from List.mem_singleton.1 hf]
  refine ⟨by omega, ?_⟩
  unfold asciiB
  rw [List.all_eq_true]
  exact fun b hb => decide_eq_true (word_ascii (w1 b hb))
theorem sp_val {p : Pr} (h : prOk p) {k : Nat} (hk : k < p.spans.length) : 0 ≤ (p.spans.getD k default).val ∧ (p.spans.getD k default).val < p.names.length := by
  have h1 := prOk_sp h hk
  unfold spIn at h1
  omega
theorem names_pos {l : List ByteArray} (h : namesB l = true) : 0 < l.length ∧ l.length ≤ 250 := by
  refine ⟨?_, ?_⟩
  · rcases Nat.eq_zero_or_pos l.length with h0 | h0
    · rw [names_len (.inl (by omega))] at h; exact Bool.noConfusion h
    · exact h0
  · rcases Nat.lt_or_ge 250 l.length with h0 | h0
    · rw [names_len (.inr h0)] at h; exact Bool.noConfusion h
    · exact h0
theorem bs_size (b : ByteArray) : b.data.toList.length = b.size := rfl
theorem lnTx_size {p : Pr} (h : prOk p) {k : Nat} (hk : k < p.spans.length) : (lnTx (lxSp p.names (p.spans.getD k default))).length ≤ 48 := by
  have h1 := sp_val h hk
  have hv : (p.spans.getD k default).val.toNat < p.names.length := by omega
  have hm : p.names.getD (p.spans.getD k default).val.toNat default ∈ p.names := by
    rw [List.getD_eq_getElem?_getD, List.getElem?_eq_getElem hv]; exact List.getElem_mem hv
  have h3 := (nm_facts h.1 _ hm).2.2
  have e1 : (hexL (p.spans.getD k default).lo).length ≤ 6 := hexS_size _
  have e2 : (hexL (p.spans.getD k default).hi).length ≤ 6 := hexS_size _
  unfold lnTx hdTx lxSp
  simp only
  rw [List.length_append, List.length_append, bs_size]
  split
  · simp only [List.length_cons, List.length_nil]; omega
  · rw [List.length_append, List.length_append]; simp only [List.length_cons, List.length_nil]; omega
theorem lns_snoc {p : Pr} {k : Nat} (h : k < p.spans.length) : lnsTx ((p.spans.take (k + 1)).map (lxSp p.names)) = lnsTx ((p.spans.take k).map (lxSp p.names)) ++ (lnTx (lxSp p.names (p.spans.getD k default)) ++ [10]) := by
  rw [List.take_succ_eq_append_getElem h, List.map_append, lnsTx_app, getD_get h]
  simp [lnsTx]
theorem lns_size {p : Pr} (h : prOk p) : ∀ k, k ≤ p.spans.length → (lnsTx ((p.spans.take k).map (lxSp p.names))).length ≤ 49 * k
  | 0, _ => by simp [lnsTx]
  | k + 1, hk => by
    have h1 := lns_size h k (by omega)
    have h2 := lnTx_size h (show k < p.spans.length by omega)
    rw [lns_snoc (by omega), List.length_append, List.length_append, List.length_singleton]
    omega
noncomputable def Γptx (mx : Int) (pb : Bool) : Ctx := fun f => match f with
  | 30 => some (.pure ctPV)
  | 63 => some (.pure ctLines)
  | 87 => some (.pure ctJoinS)
  | _ => none
theorem Γptx_ok : CtxOk Tryz.prog (GlT mx pb) (Γptx mx pb) := by
  intro f h hh
  simp only [Γptx] at hh
  split at hh <;> simp at hh <;> subst hh
  · exact pValid_ok
  · exact lines_ok
  · exact joinS_ok
set_option maxHeartbeats 4000000 in
theorem pText_ok : Sound Tryz.prog (GlT mx pb) 36 ctTx := by
  refine sound_by (cc := true) Γptx_ok Tryz.T_ok Tryz.mixed Tryz.func36 rfl (by kernel_rfl) (fun _ => rfl) (fun _ _ => by show 1 ≤ 49; decide) ?_
  intro (p : Pr) (hp : p.spans.length ≤ 10000)
  have p0 : ctPV.pre p := (by show p.spans.length ≤ 1000000000; omega)
  rcases Bool.eq_false_or_eq_true (validP p) with hv | hv
  · have hok := valid_iff.1 hv
    have hnp := names_pos hok.1
    have hne : p.names ≠ [] := fun e => by rw [e] at hnp; exact absurd hnp.1 (by decide)
    have hns := nms_size (fun n hn => (nm_facts hok.1 n hn).2.2)
    have hjs : (joinB p.names ⟨#[32]⟩).size ≤ 33 * p.names.length := by
      rw [nms_join hne, List.length_cons] at hns
      have : (joinB p.names ⟨#[32]⟩).data.toList.length = (joinB p.names ⟨#[32]⟩).size := rfl
      omega
    have p3 : ctJoinS.pre (p.names, ⟨#[32]⟩) := ⟨by show p.names.length ≤ _; omega, by show (joinB p.names ⟨#[32]⟩).size ≤ _; omega⟩
    repeat' (first | refine gw ?_ | (refine br (fun q_ => ?_) (fun q_ => ?_) <;> try simp only [Int.toNat_natCast, Nat.mul_one, Nat.add_zero] at q_) | (refine brF (fun q_ => ?_) (fun q_ => ?_) <;> try simp only [Int.toNat_natCast, Nat.mul_one, Nat.add_zero] at q_))
    refine ⟨0, Nat × List Ln, fun | (k, acc) => ⟨[(1, .own 0 0), (4, .row 1), (13, spsD p.spans), (14, .v (.int .i64 p.spans.length)), (15, .v (.int .i64 k))], [.cells 27 [slD 1 strD p.names, spsD p.spans], rowL 103 5 lnD acc], []⟩, fun | (k, acc) => k ≤ p.spans.length ∧ acc = (p.spans.take k).map (lnSp p.names), fun x => p.spans.length - x.1, fun _ => Nat.zero_le _, ⟨(0, []), ⟨Nat.zero_le _, rfl⟩, StLe.trans (StLe.nilRow (t := 4) 103 5 (fun _ _ => .junk) rfl) (StLe.ren [0, 1] tmS ⟨⟨rfl, EntL.refl _, rfl⟩, own_nil, trivial⟩ (by decide))⟩, ?_⟩
    rintro ⟨k, acc⟩ ⟨(hk : k ≤ p.spans.length), (ha : acc = (p.spans.take k).map (lnSp p.names))⟩
    have hal : acc.length = k := by rw [ha, List.length_map, List.length_take]; omega
    by_cases hlt : k < p.spans.length
    · have hval := sp_val hok hlt
      have hstep : acc ++ [lnSp p.names (p.spans.getD k default)] = (p.spans.take (k + 1)).map (lnSp p.names) := by
        rw [List.take_succ_eq_append_getElem hlt, List.map_append, ← ha, getD_get hlt]
        rfl
      repeat' (first | refine gw ?_ | (refine br (fun q_ => ?_) (fun q_ => ?_) <;> try simp only [Int.toNat_natCast, Nat.mul_one, Nat.add_zero] at q_) | (refine brF (fun q_ => ?_) (fun q_ => ?_) <;> try simp only [Int.toNat_natCast, Nat.mul_one, Nat.add_zero] at q_))
      first
        | (refine And.intro (show acc.length + 1 ≤ _ by omega) (And.intro (show (acc.length + 1) * 64 ≤ _ by omega) ?_)
           repeat' (first | refine gw ?_ | (refine br (fun q_ => ?_) (fun q_ => ?_) <;> try simp only [Int.toNat_natCast, Nat.mul_one, Nat.add_zero] at q_) | (refine brF (fun q_ => ?_) (fun q_ => ?_) <;> try simp only [Int.toNat_natCast, Nat.mul_one, Nat.add_zero] at q_))
           exact ⟨(k + 1, acc ++ [lnSp p.names (p.spans.getD k default)]), ⟨hlt, hstep⟩, (by show p.spans.length - (k + 1) < p.spans.length - k; omega), StLe.ren [0, 3] tmS ⟨⟨rfl, EntL.refl _, rfl⟩, own_app (lt5 (Ent.refl _) (Ent.refl _) (Ent.refl _) (Ent.sl rfl fun i hi j hj => match i, hi, j, hj with | 0, _, 0, _ => Ent.refl _) (Ent.refl _)), trivial⟩ (by decide)⟩)
        | (skip
           repeat' (first | refine gw ?_ | (refine br (fun q_ => ?_) (fun q_ => ?_) <;> try simp only [Int.toNat_natCast, Nat.mul_one, Nat.add_zero] at q_) | (refine brF (fun q_ => ?_) (fun q_ => ?_) <;> try simp only [Int.toNat_natCast, Nat.mul_one, Nat.add_zero] at q_))
           exact ⟨(k + 1, acc ++ [lnSp p.names (p.spans.getD k default)]), ⟨hlt, hstep⟩, (by show p.spans.length - (k + 1) < p.spans.length - k; omega), StLe.ren [0, 3] tmS ⟨⟨rfl, EntL.refl _, rfl⟩, own_app (lt5 (Ent.refl _) (Ent.refl _) (Ent.refl _) (Ent.sl rfl fun i hi j hj => match i, hi, j, hj with | 0, _, 0, _ => Ent.refl _) (Ent.refl _)), trivial⟩ (by decide)⟩)
    · have hke : k = p.spans.length := by omega
      rw [hke, List.take_length] at ha
      have hL : linesE acc = 0 ∧ linesS acc = listB (lnsTx (p.spans.map (lxSp p.names))) := by
        have := linesS_tx (tx_lx hok)
        rw [List.map_map] at this
        rw [ha]
        exact this
      have p2 : ctLines.pre acc := ⟨by rw [hal, hke]; exact hp, by rw [ha]; exact lnSp_fit hok⟩
      have he := hL.1
      have hls := lns_size hok _ (Nat.le_refl _)
      rw [List.take_length] at hls
      have hlb : (linesS acc).size ≤ 49 * p.spans.length := by rw [hL.2]; exact hls
      have hj1 : (joinB (p.names, (⟨#[32]⟩ : ByteArray)).1 (p.names, (⟨#[32]⟩ : ByteArray)).2).size ≤ 33 * p.names.length := hjs
      have hz1 : (⟨#[10]⟩ : ByteArray).size = 1 := rfl
      have hz2 : (⟨#[64, 110, 97, 109, 101, 115, 32]⟩ : ByteArray).size = 7 := rfl
      repeat' (first | refine gw ?_ | (refine br (fun q_ => ?_) (fun q_ => ?_) <;> try simp only [Int.toNat_natCast, Nat.mul_one, Nat.add_zero] at q_) | (refine brF (fun q_ => ?_) (fun q_ => ?_) <;> try simp only [Int.toNat_natCast, Nat.mul_one, Nat.add_zero] at q_))
      refine entR_eq' (d' := ctTx.out p) rfl (tx_yes hv ?_).symm
      show ((([64, 110, 97, 109, 101, 115, 32] : List UInt8) ++ (joinB p.names ⟨#[32]⟩).data.toList) ++ [10]) ++ (linesS acc).data.toList = txL p
      rw [hL.2, txL, nms_join hne]
      simp [atB, listB]
  · repeat' (first | refine gw ?_ | (refine br (fun q_ => ?_) (fun q_ => ?_) <;> try simp only [Int.toNat_natCast, Nat.mul_one, Nat.add_zero] at q_) | (refine brF (fun q_ => ?_) (fun q_ => ?_) <;> try simp only [Int.toNat_natCast, Nat.mul_one, Nat.add_zero] at q_))
    exact entR_eq' (d' := ctTx.out p) rfl (tx_no hv).symm
/-- A line as the twin writes it. -/
def rtW (b : ByteArray) (names : List ByteArray) (s : Sp) : ByteArray :=
  bcat (bcat (bcat (if s.lo < s.hi then bcat (bcat (bcat b (hexS s.lo)) ⟨#[46, 46]⟩) (hexS s.hi) else bcat b (hexS s.lo)) ⟨#[59, 32]⟩) (names.getD s.val.toNat default)) ⟨#[10]⟩
theorem rtW_list {b : ByteArray} {names : List ByteArray} {s : Sp} (h : s.lo ≤ s.hi) : (rtW b names s).data.toList = b.data.toList ++ (lnTx (lxSp names s) ++ [10]) := by
  unfold rtW lnTx hdTx lxSp
  by_cases hl : s.lo < s.hi
  · rw [if_pos hl, if_neg (show ¬ s.lo = s.hi by omega)]
    show ((((((b.data.toList ++ hexL s.lo) ++ [46, 46]) ++ hexL s.hi) ++ [59, 32]) ++ _) ++ [10]) = _
    simp
  · rw [if_neg hl, if_pos (show s.lo = s.hi by omega)]
    show ((((b.data.toList ++ hexL s.lo) ++ [59, 32]) ++ _) ++ [10]) = _
    simp
noncomputable def Γrtx (mx : Int) (pb : Bool) : Ctx := fun f => match f with
  | 88 => some (.pure ctPV)
  | 89 => some (.pure ctHex)
  | _ => none
theorem Γrtx_ok : CtxOk Tryz.prog (GlT mx pb) (Γrtx mx pb) := by
  intro f h hh
  simp only [Γrtx] at hh
  split at hh <;> simp at hh <;> subst hh
  · exact rPValid_ok
  · exact rHex_ok
set_option maxHeartbeats 4000000 in
theorem rText_ok : Sound Tryz.prog (GlT mx pb) 37 ctTx := by
  refine sound_by (cc := true) Γrtx_ok Tryz.T_ok Tryz.mixed Tryz.func37 rfl (by kernel_rfl) (fun _ => rfl) (fun _ _ => by show 1 ≤ 67; decide) ?_
  intro (p : Pr) (hp : p.spans.length ≤ 10000)
  have p0 : ctPV.pre p := (by show p.spans.length ≤ 1000000000; omega)
  rcases Bool.eq_false_or_eq_true (validP p) with hv | hv
  · have hok := valid_iff.1 hv
    have hnp := names_pos hok.1
    repeat' (first | refine gw ?_ | (refine br (fun q_ => ?_) (fun q_ => ?_) <;> try simp only [Int.toNat_natCast, Nat.mul_one, Nat.add_zero] at q_) | (refine brF (fun q_ => ?_) (fun q_ => ?_) <;> try simp only [Int.toNat_natCast, Nat.mul_one, Nat.add_zero] at q_))
    refine ⟨0, Nat × ByteArray, fun | (k, b) => ⟨[(1, .own 0 0), (4, .v (.string b)), (5, .v (.int .i64 k))], [.cells 27 [slD 1 strD p.names, spsD p.spans]], []⟩, fun | (k, b) => k ≤ p.names.length ∧ b.data.toList = atB.data.toList ++ nmsTx (p.names.take k), fun x => p.names.length - x.1, fun _ => Nat.zero_le _, ⟨(0, atB), ⟨Nat.zero_le _, by simp [nmsTx]⟩, StLe.ren [0] tmS ⟨⟨rfl, EntL.refl _, rfl⟩, trivial⟩ (by decide)⟩, ?_⟩
    rintro ⟨k, b⟩ ⟨(hk : k ≤ p.names.length), (hb : b.data.toList = _)⟩
    have hz1 : (⟨#[10]⟩ : ByteArray).size = 1 := rfl
    have hz2 : (⟨#[32]⟩ : ByteArray).size = 1 := rfl
    have hns := nms_size (l := p.names.take k) (fun n hn => (nm_facts hok.1 n (List.mem_of_mem_take hn)).2.2)
    have hbs : b.size ≤ 33 * k + 6 := by
      rw [← bs_size, hb, List.length_append]
      rw [List.length_take] at hns
      have : atB.data.toList.length = 6 := rfl
      omega
    by_cases hlt : k < p.names.length
    · have hnk : (p.names.getD k default).size ≤ 32 := (nm_facts hok.1 _ (by rw [List.getD_eq_getElem?_getD, List.getElem?_eq_getElem hlt]; exact List.getElem_mem hlt)).2.2
      repeat' (first | refine gw ?_ | (refine br (fun q_ => ?_) (fun q_ => ?_) <;> try simp only [Int.toNat_natCast, Nat.mul_one, Nat.add_zero] at q_) | (refine brF (fun q_ => ?_) (fun q_ => ?_) <;> try simp only [Int.toNat_natCast, Nat.mul_one, Nat.add_zero] at q_))
      refine ⟨(k + 1, bcat (bcat b ⟨#[32]⟩) (p.names.getD k default)), ⟨hlt, ?_⟩, (by show p.names.length - (k + 1) < p.names.length - k; omega), StLe.ren [0] tmS ⟨⟨rfl, EntL.refl _, rfl⟩, trivial⟩ (by decide)⟩
      show (b.data.toList ++ [32]) ++ (p.names.getD k default).data.toList = _
      rw [hb, nms_snoc hlt]
      simp
    · have hke : k = p.names.length := by omega
      rw [hke, List.take_length] at hb
      repeat' (first | refine gw ?_ | (refine br (fun q_ => ?_) (fun q_ => ?_) <;> try simp only [Int.toNat_natCast, Nat.mul_one, Nat.add_zero] at q_) | (refine brF (fun q_ => ?_) (fun q_ => ?_) <;> try simp only [Int.toNat_natCast, Nat.mul_one, Nat.add_zero] at q_))
      refine ⟨0, Nat × ByteArray, fun | (k, b) => ⟨[(1, .own 0 0), (4, .v (.string b)), (6, .v (.int .i64 k))], [.cells 27 [slD 1 strD p.names, spsD p.spans]], []⟩, fun | (k, b) => k ≤ p.spans.length ∧ b.data.toList = (atB.data.toList ++ nmsTx p.names) ++ 10 :: lnsTx ((p.spans.take k).map (lxSp p.names)), fun x => p.spans.length - x.1, fun _ => Nat.zero_le _, ⟨(0, bcat b ⟨#[10]⟩), ⟨Nat.zero_le _, by show b.data.toList ++ [10] = _; rw [hb]; simp [lnsTx]⟩, StLe.ren [0] tmS ⟨⟨rfl, EntL.refl _, rfl⟩, trivial⟩ (by decide)⟩, ?_⟩
      clear hlt hke hk hb hns hbs
      clear k b
      rintro ⟨k, b⟩ ⟨(hk : k ≤ p.spans.length), (hb : b.data.toList = _)⟩
      have hns := nms_size (fun n hn => (nm_facts hok.1 n hn).2.2)
      have hls := lns_size hok k hk
      have hbs : b.size ≤ 33 * p.names.length + 7 + 49 * k := by
        rw [← bs_size, hb, List.length_append, List.length_append, List.length_cons]
        have : atB.data.toList.length = 6 := rfl
        omega
      by_cases hlt : k < p.spans.length
      · have hval := sp_val hok hlt
        have hv : (p.spans.getD k default).val.toNat < p.names.length := by omega
        have hnk : (p.names.getD (p.spans.getD k default).val.toNat default).size ≤ 32 := (nm_facts hok.1 _ (by rw [List.getD_eq_getElem?_getD, List.getElem?_eq_getElem hv]; exact List.getElem_mem hv)).2.2
        have hx1 := hexS_size (p.spans.getD k default).lo
        have hx2 := hexS_size (p.spans.getD k default).hi
        have hz3 : (⟨#[59, 32]⟩ : ByteArray).size = 2 := rfl
        have hz4 : (⟨#[46, 46]⟩ : ByteArray).size = 2 := rfl
        have hlo : (p.spans.getD k default).lo ≤ (p.spans.getD k default).hi := by have h1 := prOk_sp hok hlt; unfold spIn at h1; omega
        have hstep : ∀ b', b' = rtW b p.names (p.spans.getD k default) → b'.data.toList = (atB.data.toList ++ nmsTx p.names) ++ 10 :: lnsTx ((p.spans.take (k + 1)).map (lxSp p.names)) := fun b' e => by
          rw [e, rtW_list hlo, hb, lns_snoc hlt]
          simp
        repeat' (first | refine gw ?_ | (refine br (fun q_ => ?_) (fun q_ => ?_) <;> try simp only [Int.toNat_natCast, Nat.mul_one, Nat.add_zero] at q_) | (refine brF (fun q_ => ?_) (fun q_ => ?_) <;> try simp only [Int.toNat_natCast, Nat.mul_one, Nat.add_zero] at q_))
        all_goals first
          | exact ⟨(k + 1, bcat (bcat (bcat (bcat (bcat (bcat b (hexS (p.spans.getD k default).lo)) ⟨#[46, 46]⟩) (hexS (p.spans.getD k default).hi)) ⟨#[59, 32]⟩) (p.names.getD (p.spans.getD k default).val.toNat default)) ⟨#[10]⟩), ⟨hlt, hstep _ (by rw [rtW, if_pos (by omega)])⟩, (by show p.spans.length - (k + 1) < p.spans.length - k; omega), StLe.ren [0] tmS ⟨⟨rfl, EntL.refl _, rfl⟩, trivial⟩ (by decide)⟩
          | exact ⟨(k + 1, bcat (bcat (bcat (bcat b (hexS (p.spans.getD k default).lo)) ⟨#[59, 32]⟩) (p.names.getD (p.spans.getD k default).val.toNat default)) ⟨#[10]⟩), ⟨hlt, hstep _ (by rw [rtW, if_neg (by omega)])⟩, (by show p.spans.length - (k + 1) < p.spans.length - k; omega), StLe.ren [0] tmS ⟨⟨rfl, EntL.refl _, rfl⟩, trivial⟩ (by decide)⟩
      · have hke : k = p.spans.length := by omega
        rw [hke, List.take_length] at hb
        repeat' (first | refine gw ?_ | (refine br (fun q_ => ?_) (fun q_ => ?_) <;> try simp only [Int.toNat_natCast, Nat.mul_one, Nat.add_zero] at q_) | (refine brF (fun q_ => ?_) (fun q_ => ?_) <;> try simp only [Int.toNat_natCast, Nat.mul_one, Nat.add_zero] at q_))
        exact entR_eq' (d' := ctTx.out p) rfl (tx_yes hv hb).symm
  · repeat' (first | refine gw ?_ | (refine br (fun q_ => ?_) (fun q_ => ?_) <;> try simp only [Int.toNat_natCast, Nat.mul_one, Nat.add_zero] at q_) | (refine brF (fun q_ => ?_) (fun q_ => ?_) <;> try simp only [Int.toNat_natCast, Nat.mul_one, Nat.add_zero] at q_))
    exact entR_eq' (d' := ctTx.out p) rfl (tx_no hv).symm
#print axioms pText_ok
#print axioms rText_ok
end Go.Proofs

namespace Go.Proofs
open Go Go.Sx
variable {mx : Int} {pb : Bool}

/-! the laws of chapter 10: Texts, Parses -/
noncomputable def Γlt10 (mx : Int) : Ctx := fun f => match f with
  | 31 => some (.pure (ctFewP 60))
  | 26 => some (.pure ctAlive)
  | 36 => some (.pure ctTx)
  | 37 => some (.pure ctTx)
  | 38 => some (.pure ctPrs)
  | 39 => some (.pure ctPrs)
  | 29 => some (.pure ctSameP)
  | 30 => some (.pure ctPV)
  | _ => none
theorem Γlt10_ok {mx : Int} : CtxOk Tryz.prog (GlT mx false) (Γlt10 mx) := by
  intro f h hh
  simp only [Γlt10] at hh
  split at hh <;> simp at hh <;> subst hh
  · exact rFewP_ok 60
  · exact awake_ok mx
  · exact pText_ok
  · exact rText_ok
  · exact pParse_ok
  · exact rPrs_ok
  · exact rSameP_ok
  · exact pValid_ok
def ctLawPs : Ct := { ι := ByteArray, inp := fun s => [.v (.string s)], out := fun _ => .v (.bool true), pre := fun _ => True }
theorem prs_len (s : ByteArray) : (prsO s).1.names.length ≤ 70000 ∧ (prsO s).1.spans.length ≤ 70000 := by
  by_cases h : s.size > 65536
  · rw [prs_big h]; exact ⟨Nat.zero_le _, Nat.zero_le _⟩
  have hN := wdN_len (hdA s)
  obtain ⟨d1, d2, _, _⟩ := hd_size s
  have hL := (linesP_ok (hdZ s)).2.1
  rcases prs_cases s h with h1 | ⟨h1, h2 | ⟨h2, h3 | ⟨h3, ⟨x, h4⟩ | ⟨h4, ⟨x, h5⟩ | ⟨h5, h6 | h6⟩⟩⟩⟩⟩
  · rw [prs_words h h1]; exact ⟨Nat.zero_le _, Nat.zero_le _⟩
  · rw [prs_names h h1 h2]; exact ⟨Nat.zero_le _, Nat.zero_le _⟩
  · rw [prs_lines h h1 h2 h3]; exact ⟨Nat.zero_le _, Nat.zero_le _⟩
  · rw [prs_one h h1 h2 h3 h4]; exact ⟨Nat.zero_le _, Nat.zero_le _⟩
  · rw [prs_unk h h1 h2 h3 h4 h5]; exact ⟨Nat.zero_le _, Nat.zero_le _⟩
  · rw [prs_ov h h1 h2 h3 h4 h5 h6]; exact ⟨Nat.zero_le _, Nat.zero_le _⟩
  · rw [prs_ok h h1 h2 h3 h4 h5 h6]
    have h7 := mkP_len (nmsP s) (spsOf (nmsP s) (plsP s).1)
    have h8 := mkP_nml (nm := nmsP s) (l := spsOf (nmsP s) (plsP s).1)
    have e : (spsOf (nmsP s) (plsP s).1).length = (linesP (hdZ s)).1.length := spsOf_len _ _
    have e2 : (nmsP s).length = (wdN (hdA s)).length := rfl
    refine ⟨?_, by simp only; omega⟩
    show (mkP (nmsP s) (spsOf (nmsP s) (plsP s).1)).names.length ≤ 70000
    unfold mkP
    split
    · show (nmsP s).length ≤ 70000; omega
    · exact Nat.zero_le _
set_option maxHeartbeats 8000000 in
theorem lawPPs_ok {mx : Int} : Sound Tryz.prog (GlT mx false) 10 ctLawPs := by
  refine sound_by (cc := true) Γlt10_ok Tryz.T_ok Tryz.mixed Tryz.func10 rfl (by kernel_rfl) (fun _ => rfl) (fun _ _ => by show 1 ≤ 46; decide) ?_
  intro (s : ByteArray) _
  by_cases ha : s.size > 3000 ∧ s.size ≤ 65536
  · obtain ⟨ha1, ha2⟩ := ha
    repeat' (first | refine gl ?_ | (refine br (fun q_ => ?_) (fun q_ => ?_) <;> try simp only [Int.toNat_natCast, Nat.mul_one, Nat.add_zero] at q_) | (refine brF (fun q_ => ?_) (fun q_ => ?_) <;> try simp only [Int.toNat_natCast, Nat.mul_one, Nat.add_zero] at q_))
    all_goals first
      | exact EntR.bool rfl
      | (exfalso; omega)
  have hl := prs_len s
  have p1 : ctPrs.pre s := trivial
  have p2 : ctSameP.pre ((prsO s).1, (prsO s).1) := ⟨by show (prsO s).1.names.length ≤ _; omega, by show (prsO s).1.spans.length ≤ _; omega, by show (prsO s).1.names.length ≤ _; omega, by show (prsO s).1.spans.length ≤ _; omega⟩
  have p3 : ctPV.pre (prsO s).1 := (by show (prsO s).1.spans.length ≤ 1000000000; omega)
  have e2 : ctSameP.out ((prsO s).1, (prsO s).1) = .v (.bool true) := congrArg (fun b => D.v (.bool b)) (eqP_t _)
  repeat' (first | refine gl ?_ | (refine br (fun q_ => ?_) (fun q_ => ?_) <;> try simp only [Int.toNat_natCast, Nat.mul_one, Nat.add_zero] at q_) | (refine brF (fun q_ => ?_) (fun q_ => ?_) <;> try simp only [Int.toNat_natCast, Nat.mul_one, Nat.add_zero] at q_))
  all_goals first
    | exact EntR.bool rfl
    | (exfalso; omega)
    | (exfalso
       have q : ¬True ∨ ¬True ∨ true = false := by assumption
       simp at q
       done)
    | (exfalso
       have q : eqP (prsO s).1 (prsO s).1 = false := by assumption
       rw [eqP_t] at q
       exact Bool.noConfusion q)
    | (exfalso
       have q : validP (prsO s).1 = false := by assumption
       have hv := validP_t (prs_valid s (by omega))
       rw [q] at hv
       exact Bool.noConfusion hv)
    | trace_state
#print axioms lawPPs_ok
def ctLawPt : Ct := { ι := Pr, inp := fun p => [prA p], out := fun _ => .v (.bool true), pre := fun _ => True }
set_option maxHeartbeats 8000000 in
theorem lawPTx_ok {mx : Int} : Sound Tryz.prog (GlT mx false) 9 ctLawPt := by
  refine sound_by (cc := true) Γlt10_ok Tryz.T_ok Tryz.mixed Tryz.func9 rfl (by kernel_rfl) (fun _ => rfl) (fun _ _ => by show 1 ≤ 55; decide) ?_
  intro (p : Pr) _
  rcases Bool.eq_false_or_eq_true (fewP p 60) with h | h
  · have hl := fewP_iff.1 h
    have p1 : ctTx.pre p := (by show p.spans.length ≤ 10000; omega)
    have p2 : ctPrs.pre (txS p) := trivial
    by_cases hok : prOk p
    · have e0 : txE p = 0 := if_pos (valid_iff.2 hok)
      by_cases hsz : (txS p).size > 65536
      · repeat' (first | refine gl ?_ | (refine br (fun q_ => ?_) (fun q_ => ?_) <;> try simp only [Int.toNat_natCast, Nat.mul_one, Nat.add_zero] at q_) | (refine brF (fun q_ => ?_) (fun q_ => ?_) <;> try simp only [Int.toNat_natCast, Nat.mul_one, Nat.add_zero] at q_))
        all_goals first
          | exact EntR.bool rfl
          | (exfalso; omega)
          | (exfalso; exact (show ¬True by assumption) trivial)
          | trace_state
      · have er := prs_tx hok (by omega)
        have p3 : ctSameP.pre (p, (prsO (txS p)).1) := by
          rw [er]
          exact ⟨by show p.names.length ≤ _; omega, by show p.spans.length ≤ _; omega, by show p.names.length ≤ _; omega, by show p.spans.length ≤ _; omega⟩
        have e1 : (prsO (txS p)).2.1 = 0 := by rw [er]
        have e2 : eqP p (prsO (txS p)).1 = true := by rw [er]; exact eqP_t _
        repeat' (first | refine gl ?_ | (refine br (fun q_ => ?_) (fun q_ => ?_) <;> try simp only [Int.toNat_natCast, Nat.mul_one, Nat.add_zero] at q_) | (refine brF (fun q_ => ?_) (fun q_ => ?_) <;> try simp only [Int.toNat_natCast, Nat.mul_one, Nat.add_zero] at q_))
        all_goals first
          | exact EntR.bool rfl
          | (exfalso; omega)
          | (exfalso; exact (show ¬True by assumption) trivial)
          | (exfalso
             have q : eqP p (prsO (txS p)).1 = false := by assumption
             rw [e2] at q
             exact Bool.noConfusion q)
          | trace_state
    · have e0 : txE p = 11 := if_neg (fun hh => hok (valid_iff.1 hh))
      repeat' (first | refine gl ?_ | (refine br (fun q_ => ?_) (fun q_ => ?_) <;> try simp only [Int.toNat_natCast, Nat.mul_one, Nat.add_zero] at q_) | (refine brF (fun q_ => ?_) (fun q_ => ?_) <;> try simp only [Int.toNat_natCast, Nat.mul_one, Nat.add_zero] at q_))
      all_goals first
        | exact EntR.bool rfl
        | (exfalso; omega)
        | (exfalso; exact (show ¬True by assumption) trivial)
        | trace_state
  · repeat' (first | refine gl ?_ | (refine br (fun q_ => ?_) (fun q_ => ?_) <;> try simp only [Int.toNat_natCast, Nat.mul_one, Nat.add_zero] at q_) | (refine brF (fun q_ => ?_) (fun q_ => ?_) <;> try simp only [Int.toNat_natCast, Nat.mul_one, Nat.add_zero] at q_))
    exact EntR.bool rfl
#print axioms lawPTx_ok
end Go.Proofs
