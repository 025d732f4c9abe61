import Derived.Test.YtnegdnbodccgkaaGreatDoorFa
import Derived.Test.YtnegdnbodccgkaaGreatDoorTz
import Derived.Test.YtnegdnbodccgkaaGreatDoorDe
import Derived.Test.YtnegdnbodccgkaaGreatDoorFm
import Derived.Test.YtnegdnbodccgkaaGreatDoorMz
set_option linter.unusedVariables false
set_option linter.unusedSimpArgs false
namespace Go.Proofs
open Go Go.Sx
variable {mx : Int} {pb : Bool}

/-! files: what one file gives the code points -/
structure Fl where
  what : ByteArray
  pcs : List Pc
  other : ByteArray
instance : Inhabited Fl := ⟨⟨⟨#[]⟩, [], ⟨#[]⟩⟩⟩
def pcD (p : Pc) : Nat → D
  | 0 => .v (.int .i64 p.lo)
  | 1 => .v (.int .i64 p.hi)
  | 2 => .v (.string p.s)
  | _ => .junk
def flD (f : Fl) : Nat → D
  | 0 => .v (.string f.what)
  | 1 => slD 3 pcD f.pcs
  | 2 => .v (.string f.other)
  | _ => .junk
def flA (f : Fl) : D := .ag [flD f 0, flD f 1, flD f 2]
def zFl : Own := .cells 97 [.v (.string ⟨#[]⟩), .v (.slice none 0 0), .v (.string ⟨#[]⟩)]
theorem lt3 {p : Nat → Prop} (h0 : p 0) (h1 : p 1) (h2 : p 2) : ∀ j, j < 3 → p j := fun j hj => by
  match j, hj with
  | 0, _ => exact h0
  | 1, _ => exact h1
  | 2, _ => exact h2
theorem lt2 {p : Nat → Prop} (h0 : p 0) (h1 : p 1) : ∀ j, j < 2 → p j := fun j hj => by
  match j, hj with
  | 0, _ => exact h0
  | 1, _ => exact h1
theorem mapT {α β : Type} [Inhabited α] (f : α → β) {l : List α} {k : Nat} (h : k < l.length) : (l.take (k + 1)).map f = (l.take k).map f ++ [f (l.getD k default)] := by
  rw [take_at h, List.map_append]; rfl
theorem mapT_len {α β : Type} (f : α → β) {l : List α} {k : Nat} (h : k ≤ l.length) : ((l.take k).map f).length = k := by
  simp; omega
theorem mapT_all {α β : Type} (f : α → β) {l : List α} {k : Nat} (h : l.length ≤ k) : (l.take k).map f = l.map f := by
  rw [List.take_of_length_le h]
def spPc (names : List ByteArray) (s : Sp) : Pc := ⟨s.lo, s.hi, names.getD s.val.toNat default⟩
def prF (w : ByteArray) (p : Pr) : Fl := ⟨w, p.spans.map (spPc p.names), p.names.getD 0 default⟩
def ctPrF : Ct := { ι := ByteArray × Pr, inp := fun x => [.v (.string x.1), prA x.2], out := fun x => flA (prF x.1 x.2), pre := fun x => x.2.spans.length ≤ 1000 ∧ 0 < x.2.names.length ∧ ∀ k, k < x.2.spans.length → 0 ≤ (x.2.spans.getD k default).val ∧ (x.2.spans.getD k default).val < x.2.names.length }
set_option maxHeartbeats 4000000 in
theorem prF_ok : Sound Tryz.prog (GlT mx pb) 110 ctPrF := by
  refine sound_by (cc := true) Γ0_ok Tryz.T_ok Tryz.mixed Tryz.func110 rfl (by kernel_rfl) (fun _ => rfl) (fun _ _ => by show 2 ≤ 39; decide) ?_
  rintro ⟨(w : ByteArray), (p : Pr)⟩ ⟨(hl : p.spans.length ≤ 1000), (hn : 0 < p.names.length), hv⟩
  have hv : ∀ k, k < p.spans.length → 0 ≤ (p.spans.getD k default).val ∧ (p.spans.getD k default).val < p.names.length := hv
  repeat' (first | refine gw ?_ | (refine br (fun q_ => ?_) (fun q_ => ?_) <;> try simp only [Int.toNat_natCast, Nat.mul_one, Nat.add_zero] at q_) | (refine brF (fun q_ => ?_) (fun q_ => ?_) <;> try simp only [Int.toNat_natCast, Nat.mul_one, Nat.add_zero] at q_))
  refine ⟨0, Nat, fun k => ⟨[(3, .own 0 0), (4, .own 1 0), (5, .own 2 0), (15, spsD p.spans), (16, .v (.int .i64 p.spans.length)), (17, .v (.int .i64 k))], [.cells 27 [slD 1 strD p.names, spsD p.spans], zFl, .cells 97 [.v (.string w), .row 3, .v (.string (p.names.getD 0 default))], rowL 184 3 pcD ((p.spans.take k).map (spPc p.names))], []⟩, fun k => k ≤ p.spans.length, fun k => p.spans.length - k, fun _ => Nat.zero_le _, ⟨0, Nat.zero_le _, StLe.trans (StLe.nilCell (i := 2) (j := 1) 184 3 (fun _ _ => .junk) rfl rfl) (StLe.ren [0, 1, 2, 3] tmS ⟨⟨rfl, EntL.refl _, rfl⟩, ⟨rfl, EntL.refl _, rfl⟩, ⟨rfl, EntL.refl _, rfl⟩, own_nil, trivial⟩ (by decide))⟩, ?_⟩
  intro k (hk : k ≤ p.spans.length)
  by_cases hlt : k < p.spans.length
  · have hk2 := hv k hlt
    have hml := mapT_len (spPc p.names) hk
    repeat' (first | refine gw ?_ | (refine br (fun q_ => ?_) (fun q_ => ?_) <;> try simp only [Int.toNat_natCast, Nat.mul_one, Nat.add_zero] at q_) | (refine brF (fun q_ => ?_) (fun q_ => ?_) <;> try simp only [Int.toNat_natCast, Nat.mul_one, Nat.add_zero] at q_))
    exact ⟨k + 1, (by show k + 1 ≤ _; omega), (by show _ - (k + 1) < _ - k; omega), StLe.ren [0, 1, 2, 5] tmS ⟨⟨rfl, EntL.refl _, rfl⟩, ⟨rfl, EntL.refl _, rfl⟩, ⟨rfl, EntL.refl _, rfl⟩, by rw [mapT (spPc p.names) hlt]; exact own_app (lt3 (Ent.refl _) (Ent.refl _) (Ent.refl _)), trivial⟩ (by decide)⟩
  · repeat' (first | refine gw ?_ | (refine br (fun q_ => ?_) (fun q_ => ?_) <;> try simp only [Int.toNat_natCast, Nat.mul_one, Nat.add_zero] at q_) | (refine brF (fun q_ => ?_) (fun q_ => ?_) <;> try simp only [Int.toNat_natCast, Nat.mul_one, Nat.add_zero] at q_))
    refine EntR.of rfl ?_
    show Ent _ (flA ⟨w, p.spans.map (spPc p.names), p.names.getD 0 default⟩)
    rw [← mapT_all (spPc p.names) (show p.spans.length ≤ k by omega)]
    exact Ent.refl _
def clPc (s : Sp) : Pc := ⟨s.lo, s.hi, decB s.val⟩
def zrS : ByteArray := ⟨#[48]⟩
def clF (w : ByteArray) (l : List Sp) : Fl := ⟨w, l.map clPc, zrS⟩
def ctClF : Ct := { ι := ByteArray × List Sp, inp := fun x => [.v (.string x.1), spsD x.2], out := fun x => flA (clF x.1 x.2), pre := fun x => x.2.length ≤ 1000 ∧ ∀ k, k < x.2.length → 0 ≤ (x.2.getD k default).val ∧ (x.2.getD k default).val ≤ 254 }
def Γit : Ctx := fun f => match f with
  | 162 => some (.pure ctDec)
  | _ => none
theorem Γit_ok {mx : Int} : CtxOk Tryz.prog (GlT mx true) Γit := by
  intro f h hh
  simp only [Γit] at hh
  split at hh <;> simp at hh <;> subst hh
  exact itoa_ok
set_option maxHeartbeats 4000000 in
theorem clF_ok {mx : Int} : Sound Tryz.prog (GlT mx true) 111 ctClF := by
  refine sound_by (cc := true) Γit_ok Tryz.T_ok Tryz.mixed Tryz.func111 rfl (by kernel_rfl) (fun _ => rfl) (fun _ _ => by show 2 ≤ 31; decide) ?_
  rintro ⟨(w : ByteArray), (l : List Sp)⟩ ⟨(hl : l.length ≤ 1000), hv⟩
  have hv : ∀ k, k < l.length → 0 ≤ (l.getD k default).val ∧ (l.getD k default).val ≤ 254 := hv
  repeat' (first | refine gw ?_ | (refine br (fun q_ => ?_) (fun q_ => ?_) <;> try simp only [Int.toNat_natCast, Nat.mul_one, Nat.add_zero] at q_) | (refine brF (fun q_ => ?_) (fun q_ => ?_) <;> try simp only [Int.toNat_natCast, Nat.mul_one, Nat.add_zero] at q_))
  refine ⟨0, Nat, fun k => ⟨[(4, .own 0 0), (5, .own 1 0), (10, spsD l), (11, .v (.int .i64 l.length)), (12, .v (.int .i64 k))], [zFl, .cells 97 [.v (.string w), .row 2, .v (.string zrS)], rowL 184 3 pcD ((l.take k).map clPc)], []⟩, fun k => k ≤ l.length, fun k => l.length - k, fun _ => Nat.zero_le _, ⟨0, Nat.zero_le _, StLe.trans (StLe.nilCell (i := 1) (j := 1) 184 3 (fun _ _ => .junk) rfl rfl) (StLe.ren [0, 1, 2] tmS ⟨⟨rfl, EntL.refl _, rfl⟩, ⟨rfl, EntL.refl _, rfl⟩, own_nil, trivial⟩ (by decide))⟩, ?_⟩
  intro k (hk : k ≤ l.length)
  by_cases hlt : k < l.length
  · have p1 : ctDec.pre (l.getD k default).val := hv k hlt
    have hml := mapT_len clPc hk
    repeat' (first | refine gw ?_ | (refine br (fun q_ => ?_) (fun q_ => ?_) <;> try simp only [Int.toNat_natCast, Nat.mul_one, Nat.add_zero] at q_) | (refine brF (fun q_ => ?_) (fun q_ => ?_) <;> try simp only [Int.toNat_natCast, Nat.mul_one, Nat.add_zero] at q_))
    exact ⟨k + 1, (by show k + 1 ≤ _; omega), (by show _ - (k + 1) < _ - k; omega), StLe.ren [0, 1, 4] tmS ⟨⟨rfl, EntL.refl _, rfl⟩, ⟨rfl, EntL.refl _, rfl⟩, by rw [mapT clPc hlt]; exact own_app (lt3 (Ent.refl _) (Ent.refl _) (Ent.refl _)), trivial⟩ (by decide)⟩
  · repeat' (first | refine gw ?_ | (refine br (fun q_ => ?_) (fun q_ => ?_) <;> try simp only [Int.toNat_natCast, Nat.mul_one, Nat.add_zero] at q_) | (refine brF (fun q_ => ?_) (fun q_ => ?_) <;> try simp only [Int.toNat_natCast, Nat.mul_one, Nat.add_zero] at q_))
    refine EntR.of rfl ?_
    show Ent _ (flA ⟨w, l.map clPc, zrS⟩)
    rw [← mapT_all clPc (show l.length ≤ k by omega)]
    exact Ent.refl _
def stPc (r : Rg) : Pc := ⟨r.1, r.2, yesS⟩
def stF (w : ByteArray) (l : List Rg) : Fl := ⟨w, l.map stPc, noS⟩
def ctStF : Ct := { ι := ByteArray × List Rg, inp := fun x => [.v (.string x.1), setD x.2], out := fun x => flA (stF x.1 x.2), pre := fun x => x.2.length ≤ 1000 }
set_option maxHeartbeats 4000000 in
theorem stF_ok : Sound Tryz.prog (GlT mx pb) 113 ctStF := by
  refine sound_by (cc := true) Γ0_ok Tryz.T_ok Tryz.mixed Tryz.func113 rfl (by kernel_rfl) (fun _ => rfl) (fun _ _ => by show 2 ≤ 29; decide) ?_
  rintro ⟨(w : ByteArray), (l : List Rg)⟩ (hl : l.length ≤ 1000)
  repeat' (first | refine gw ?_ | (refine br (fun q_ => ?_) (fun q_ => ?_) <;> try simp only [Int.toNat_natCast, Nat.mul_one, Nat.add_zero] at q_) | (refine brF (fun q_ => ?_) (fun q_ => ?_) <;> try simp only [Int.toNat_natCast, Nat.mul_one, Nat.add_zero] at q_))
  refine ⟨0, Nat, fun k => ⟨[(4, .own 1 0), (5, .own 2 0), (11, rgsD l), (12, .v (.int .i64 l.length)), (13, .v (.int .i64 k))], [.cells 31 [rgsD l], zFl, .cells 97 [.v (.string w), .row 3, .v (.string noS)], rowL 184 3 pcD ((l.take k).map stPc)], []⟩, fun k => k ≤ l.length, fun k => l.length - k, fun _ => Nat.zero_le _, ⟨0, Nat.zero_le _, StLe.trans (StLe.nilCell (i := 2) (j := 1) 184 3 (fun _ _ => .junk) rfl rfl) (StLe.ren [0, 1, 2, 3] tmS ⟨⟨rfl, EntL.refl _, rfl⟩, ⟨rfl, EntL.refl _, rfl⟩, ⟨rfl, EntL.refl _, rfl⟩, own_nil, trivial⟩ (by decide))⟩, ?_⟩
  intro k (hk : k ≤ l.length)
  by_cases hlt : k < l.length
  · have hml := mapT_len stPc hk
    repeat' (first | refine gw ?_ | (refine br (fun q_ => ?_) (fun q_ => ?_) <;> try simp only [Int.toNat_natCast, Nat.mul_one, Nat.add_zero] at q_) | (refine brF (fun q_ => ?_) (fun q_ => ?_) <;> try simp only [Int.toNat_natCast, Nat.mul_one, Nat.add_zero] at q_))
    exact ⟨k + 1, (by show k + 1 ≤ _; omega), (by show _ - (k + 1) < _ - k; omega), StLe.ren [0, 1, 2, 5] tmS ⟨⟨rfl, EntL.refl _, rfl⟩, ⟨rfl, EntL.refl _, rfl⟩, ⟨rfl, EntL.refl _, rfl⟩, by rw [mapT stPc hlt]; exact own_app (lt3 (Ent.refl _) (Ent.refl _) (Ent.refl _)), trivial⟩ (by decide)⟩
  · repeat' (first | refine gw ?_ | (refine br (fun q_ => ?_) (fun q_ => ?_) <;> try simp only [Int.toNat_natCast, Nat.mul_one, Nat.add_zero] at q_) | (refine brF (fun q_ => ?_) (fun q_ => ?_) <;> try simp only [Int.toNat_natCast, Nat.mul_one, Nat.add_zero] at q_))
    refine EntR.of rfl ?_
    show Ent _ (flA ⟨w, l.map stPc, noS⟩)
    rw [← mapT_all stPc (show l.length ≤ k by omega)]
    exact Ent.refl _
end Go.Proofs

namespace Go.Proofs
open Go Go.Sx
variable {mx : Int} {pb : Bool}

/-! the file of mappings -/
def fitT (l : List Mp) : Prop := l.length ≤ 20 ∧ ∀ k, k < l.length → allV (l.getD k default).to = true ∧ (l.getD k default).to.length ≤ 65 ∧ (l.getD k default).tag.size ≤ 40
def ctCdV : Ct := { ι := List Int, inp := fun t => [slD 1 intD t], out := fun t => .tu [.v (.string (codesS t)), .v (.int .i64 0)], pre := fun t => t.length ≤ 100000 ∧ allV t = true }
theorem pCdV_ok : Sound Tryz.prog (GlT mx pb) 61 ctCdV := sound_less codes_ok id (fun _ => rfl) (fun _ h => h.1) (fun _ h => if_pos h.2)
theorem rCdV_ok : Sound Tryz.prog (GlT mx pb) 181 ctCdV := sound_less r5Codes_ok id (fun _ => rfl) (fun _ h => h.1) (fun _ h => if_pos h.2)
def mpF (w : ByteArray) (l : List Mp) : Fl := ⟨w, mpK l l.length, ⟨#[]⟩⟩
def ctMpF : Ct := { ι := ByteArray × List Mp, inp := fun x => [.v (.string x.1), mpsD x.2], out := fun x => flA (mpF x.1 x.2), pre := fun x => fitT x.2 }
theorem mpS_size {m : Mp} (h2 : m.to.length ≤ 65) (h3 : m.tag.size ≤ 40) : (mpS m).size ≤ 496 := by
  have hcs : (codesS m.to).size ≤ 7 * m.to.length := codesK_size _ _
  show (bcat (bcat m.tag gtS) (codesS m.to)).size ≤ 496
  rw [bcat_size', bcat_size', show gtS.size = 1 from rfl]
  omega
def Γmf : Ctx := fun f => match f with
  | 61 => some (.pure ctCdV)
  | _ => none
theorem Γmf_ok : CtxOk Tryz.prog (GlT mx pb) Γmf := by
  intro f h hh
  simp only [Γmf] at hh
  split at hh <;> simp at hh <;> subst hh
  · exact pCdV_ok
set_option maxHeartbeats 8000000 in
theorem mpF_ok : Sound Tryz.prog (GlT mx pb) 112 ctMpF := by
  refine sound_by (cc := true) Γmf_ok Tryz.T_ok Tryz.mixed Tryz.func112 rfl (by kernel_rfl) (fun _ => rfl) (fun _ _ => by show 2 ≤ 73; decide) ?_
  rintro ⟨(w : ByteArray), (l : List Mp)⟩ ⟨(hl : l.length ≤ 20), hv⟩
  have hv : ∀ k, k < l.length → allV (l.getD k default).to = true ∧ (l.getD k default).to.length ≤ 65 ∧ (l.getD k default).tag.size ≤ 40 := hv
  have hsz := mpK_size (l := l) (B := 496) (fun k hk => mpS_size (hv k hk).2.1 (hv k hk).2.2)
  repeat' (first | refine gl ?_ | (refine br (fun q_ => ?_) (fun q_ => ?_) <;> try simp only [Int.toNat_natCast, Nat.mul_one, Nat.add_zero] at q_) | (refine brF (fun q_ => ?_) (fun q_ => ?_) <;> try simp only [Int.toNat_natCast, Nat.mul_one, Nat.add_zero] at q_))
  refine ⟨0, Nat × List Pc, fun | (k, ps) => ⟨[(4, .own 0 0), (5, .own 1 0), (14, mpsD l), (15, .v (.int .i64 l.length)), (16, .v (.int .i64 k))], [zFl, .cells 97 [.v (.string w), .row 2, .v (.string ⟨#[]⟩)], rowL 184 3 pcD ps], []⟩, fun | (k, ps) => k ≤ l.length ∧ ps = mpK l k, fun x => l.length - x.1, fun _ => Nat.zero_le _, ⟨(0, []), ⟨Nat.zero_le _, rfl⟩, StLe.trans (StLe.nilCell (i := 1) (j := 1) 184 3 (fun _ _ => .junk) rfl rfl) (StLe.ren [0, 1, 2] tmS ⟨⟨rfl, EntL.refl _, rfl⟩, ⟨rfl, EntL.refl _, rfl⟩, own_nil, trivial⟩ (by decide))⟩, ?_⟩
  rintro ⟨k, ps⟩ ⟨hk, hps⟩
  by_cases hlt : k < l.length
  · obtain ⟨h1, h2, h3⟩ := hv k hlt
    have p1 : ctCdV.pre (l.getD k default).to := ⟨by omega, h1⟩
    have hcs : (codesS (l.getD k default).to).size ≤ 7 * (l.getD k default).to.length := codesK_size _ _
    have hlen := mpK_len l k
    have hnx : mpK l (k + 1) = addM ps (l.getD k default) := by rw [mpK, hps]
    have ek : ((ps.length : Int) - 1).toNat = ps.length - 1 := by omega
    rw [← hps] at hlen
    have hls : 0 < ps.length → (ps.getD ((ps.length : Int) - 1).toNat default).s.size ≤ 10000 := fun h0 => by
      have h4 := hsz k hk (ps.getD (ps.length - 1) default) (by rw [← hps]; exact getD_mem (by omega))
      rw [ek]
      have : k * (496 + 1) ≤ 20 * (496 + 1) := Nat.mul_le_mul_right _ (by omega)
      omega
    rcases Nat.eq_zero_or_pos ps.length with h0 | h0
    · repeat' (first | refine gl ?_ | (refine br (fun q_ => ?_) (fun q_ => ?_) <;> try simp only [Int.toNat_natCast, Nat.mul_one, Nat.add_zero] at q_) | (refine brF (fun q_ => ?_) (fun q_ => ?_) <;> try simp only [Int.toNat_natCast, Nat.mul_one, Nat.add_zero] at q_))
      exact ⟨(k + 1, ps ++ [⟨(l.getD k default).frm, (l.getD k default).frm, mpS (l.getD k default)⟩]), ⟨by omega, by rw [hnx, addM, if_neg (fun h => by omega)]⟩, (by show _ - (k + 1) < _ - k; omega), StLe.ren [0, 1, 4] tmS ⟨⟨rfl, EntL.refl _, rfl⟩, ⟨rfl, EntL.refl _, rfl⟩, own_app (lt3 (Ent.refl _) (Ent.refl _) (Ent.refl _)), trivial⟩ (by decide)⟩
    · have hls := hls h0
      repeat' (first | refine gl ?_ | (refine br (fun q_ => ?_) (fun q_ => ?_) <;> try simp only [Int.toNat_natCast, Nat.mul_one, Nat.add_zero] at q_) | (refine brF (fun q_ => ?_) (fun q_ => ?_) <;> try simp only [Int.toNat_natCast, Nat.mul_one, Nat.add_zero] at q_))
      all_goals try rw [ek] at *
      all_goals first
        | exact ⟨(k + 1, ps.set (ps.length - 1) ⟨(lastP ps).lo, (lastP ps).hi, bcat (lastP ps).s (bcat barS (mpS (l.getD k default)))⟩), ⟨by omega, by rw [hnx, addM, if_pos ⟨h0, q_⟩]⟩, (by show _ - (k + 1) < _ - k; omega), StLe.ren [0, 1, 2] tmS ⟨⟨rfl, EntL.refl _, rfl⟩, ⟨rfl, EntL.refl _, rfl⟩, own_set (lt3 (Ent.refl _) (Ent.refl _) (Ent.refl _)) (by omega), trivial⟩ (by decide)⟩
        | exact ⟨(k + 1, ps ++ [⟨(l.getD k default).frm, (l.getD k default).frm, mpS (l.getD k default)⟩]), ⟨by omega, by rw [hnx, addM, if_neg (fun h => q_ h.2)]⟩, (by show _ - (k + 1) < _ - k; omega), StLe.ren [0, 1, 4] tmS ⟨⟨rfl, EntL.refl _, rfl⟩, ⟨rfl, EntL.refl _, rfl⟩, own_app (lt3 (Ent.refl _) (Ent.refl _) (Ent.refl _)), trivial⟩ (by decide)⟩
  · repeat' (first | refine gl ?_ | (refine br (fun q_ => ?_) (fun q_ => ?_) <;> try simp only [Int.toNat_natCast, Nat.mul_one, Nat.add_zero] at q_) | (refine brF (fun q_ => ?_) (fun q_ => ?_) <;> try simp only [Int.toNat_natCast, Nat.mul_one, Nat.add_zero] at q_))
    refine EntR.of rfl ?_
    show Ent _ (flA ⟨w, mpK l l.length, ⟨#[]⟩⟩)
    rw [show l.length = k from by omega, ← hps]
    exact Ent.refl _
end Go.Proofs
