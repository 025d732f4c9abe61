import Derived.Test.YtfalaomjfkaphaaGreatDoorMpR
import Derived.Test.YtfalaomjfkaphaaGreatDoorSoMz
set_option linter.unusedVariables false
set_option linter.unusedSimpArgs false
namespace Go.Proofs
open Go Go.Sx
variable {mx : Int} {pb : Bool}

/-! mapping.Parse -/
noncomputable def ctMpP : Ct := { ι := ByteArray, inp := fun s => [.v (.string s)], out := fun s => .tu [mpsD (mpO s).1, faultA (mpO s).2.1 (mpO s).2.2], pre := fun _ => True }
theorem mp_ret {s : ByteArray} {e a b : Int} (h : mpO s = ([], e, a)) (hb : b = a) : EntR (.tu [nilV, .ag [.v (.int .i64 e), .v (.int .i64 b)]]) (ctMpP.out s) := by
  subst hb
  refine EntR.of rfl ?_
  show Ent _ (D.tu [mpsD (mpO s).1, faultA (mpO s).2.1 (mpO s).2.2])
  rw [h]
  exact Ent.tu2 Ent.nil (Ent.refl _)
noncomputable def seenL (l : List Mp) : KV → Option D := fun key => @ite _ (∃ m, m ∈ l ∧ keyK m = key) (Classical.propDecidable _) (some (.v (.bool true))) none
theorem seenL_some {l : List Mp} {key : KV} {d : D} (h : seenL l key = some d) : d = .v (.bool true) ∧ ∃ m, m ∈ l ∧ keyK m = key := by
  unfold seenL at h
  split at h
  · rename_i hm
    exact ⟨(Option.some.inj h).symm, hm⟩
  · exact absurd h (by simp)
theorem seenL_none {l : List Mp} {key : KV} (h : seenL l key = none) : ¬ ∃ m, m ∈ l ∧ keyK m = key := by
  unfold seenL at h
  split at h
  · exact absurd h (by simp)
  · assumption
theorem seenL_yes {l : List Mp} {key : KV} (h : ∃ m, m ∈ l ∧ keyK m = key) : seenL l key = some (.v (.bool true)) := @if_pos _ (Classical.propDecidable _) h _ _ _
theorem seenL_no {l : List Mp} {key : KV} (h : ¬ ∃ m, m ∈ l ∧ keyK m = key) : seenL l key = none := @if_neg _ (Classical.propDecidable _) h _ _ _
theorem seenL_nil (key : KV) : seenL [] key = none := seenL_no fun ⟨m, h, _⟩ => by simp at h
theorem seenL_snoc {l : List Mp} {m : Mp} (key : KV) : (if key = keyK m then some (D.v (.bool true)) else seenL l key) = seenL (l ++ [m]) key := by
  by_cases h : key = keyK m
  · rw [if_pos h, seenL_yes ⟨m, by simp, h.symm⟩]
  · rw [if_neg h]
    by_cases h2 : ∃ x, x ∈ l ∧ keyK x = key
    · obtain ⟨x, hx, hk⟩ := h2
      rw [seenL_yes ⟨x, hx, hk⟩, seenL_yes ⟨x, by simp [hx], hk⟩]
    · rw [seenL_no h2, seenL_no]
      rintro ⟨x, hx, hk⟩
      rcases List.mem_append.1 hx with hx | hx
      · exact h2 ⟨x, hx, hk⟩
      · rw [List.mem_singleton.1 hx] at hk
        exact h hk.symm
theorem seen_ren {ρ : List Nat} {l : List Mp} {o : Option D} {key : KV} (h : o = seenL l key) : OptRen ρ o (seenL l key) := by
  rw [h]
  cases hs : seenL l key with
  | none => exact trivial
  | some d => rw [(seenL_some hs).1]; exact ⟨Ent.refl _, rfl⟩
theorem keyK_of {a b : Mp} (h : keyK a = keyK b) : a.frm = b.frm ∧ a.tag = b.tag := sameK_iff.1 (keyK_iff.1 h)
attribute [local irreducible] exPs exCk exSch exAlt
noncomputable def mpOw (s : ByteArray) (l : List Mp) : List Own := [z31, .cells 27 [.v (.int .i64 (mrO s).2.1), .v (.int .i64 (mrO s).2.2)], .map 57 4 (.st [0, 1]) (seenL l), rowL 47 3 mpD l]
noncomputable def Γmp (mx : Int) (pb : Bool) : Ctx := fun f => match f with
  | 16 => some (.pure ctRws)
  | 18 => some (.pure ctKeyOf)
  | 17 => some (.pure ctCloneI)
  | 19 => some (.gen (sortT 3 20 mpD ltM))
  | _ => none
theorem Γmp_ok : CtxOk Tryz.prog (GlT mx pb) (Γmp mx pb) := by
  intro f h hh
  simp only [Γmp] at hh
  split at hh <;> simp at hh <;> subst hh
  · exact mRows_ok
  · exact keyOf_ok
  · exact cloneI_ok
  · exact sortM_ok
set_option maxHeartbeats 8000000 in
theorem mParse_ok : Sound Tryz.prog (GlT mx pb) 7 ctMpP := by
  refine sound_by (cc := true) Γmp_ok Tryz.T_ok Tryz.mixed Tryz.func7 rfl (by kernel_rfl) (fun _ => rfl) (fun _ _ => by show 1 ≤ 62; decide) ?_
  intro (s : ByteArray) _
  have p1 : ctRws.pre s := trivial
  by_cases h0 : (mrO s).2.1 = 0
  · obtain ⟨e1, e2, e3, hf⟩ := mr_facts h0
    have hlen : (mrO s).1.length ≤ 65537 := by rw [e1]; exact linesP_few s
    repeat' (first | refine gx ?_ | (refine br (fun q_ => ?_) (fun q_ => ?_) <;> try simp only [Int.toNat_natCast, Nat.mul_one, Nat.add_zero] at q_) | (refine brF (fun q_ => ?_) (fun q_ => ?_) <;> try simp only [Int.toNat_natCast, Nat.mul_one, Nat.add_zero] at q_))
    refine ⟨0, Nat, fun k => ⟨[(3, .own 0 0), (6, .mp 2), (7, .row 3), (22, slD 5 rwD (mrO s).1), (23, .v (.int .i64 (mrO s).1.length)), (24, .v (.int .i64 k))], mpOw s (rwsL ((mrO s).1.take k)), []⟩, fun k => k ≤ (mrO s).1.length ∧ ∀ j, j < k → ¬ clP (mrO s).1 j, fun k => (mrO s).1.length - k, fun _ => Nat.zero_le _, ⟨0, ⟨Nat.zero_le _, fun j hj => by omega⟩, StLe.trans (StLe.nilRow (t := 7) 47 3 (fun _ _ => .junk) rfl) (StLe.ren [0, 1, 2, 3] tmS ⟨⟨rfl, EntL.refl _, rfl⟩, ⟨rfl, EntL.refl _, rfl⟩, ⟨rfl, rfl, rfl, fun key => seen_ren (l := []) (seenL_nil key).symm⟩, own_nil, trivial⟩ (by decide))⟩, ?_⟩
    rintro k ⟨hk, hd⟩
    unfold mpOw
    have hrl := rws_len (L := (mrO s).1) (fun x hx => by have := (hf x hx).2.2.2.2; unfold rwN; omega) k hk
    by_cases hlt : k < (mrO s).1.length
    · have hx := mem_getD hlt
      obtain ⟨⟨v1, v2, v3⟩, v4, v5, v6, v7⟩ := hf _ hx
      rw [validB_iff] at v1 v2
      have hn0 : rwN ((mrO s).1.getD k default) ≤ 1024 := by unfold rwN; omega
      have hnum := (linesP_ok s).1 _ (by rw [← e1]; exact hx)
      repeat' (first | refine gx ?_ | (refine br (fun q_ => ?_) (fun q_ => ?_) <;> try simp only [Int.toNat_natCast, Nat.mul_one, Nat.add_zero] at q_) | (refine brF (fun q_ => ?_) (fun q_ => ?_) <;> try simp only [Int.toNat_natCast, Nat.mul_one, Nat.add_zero] at q_))
      refine ⟨0, Nat, fun i => ⟨[(3, .own 0 0), (6, .mp 2), (7, .row 3), (9, .own 4 0), (10, .v (.int .i64 (((mrO s).1.getD k default).lo + (i : Int)))), (22, slD 5 rwD (mrO s).1), (23, .v (.int .i64 (mrO s).1.length)), (24, .v (.int .i64 k))], mpOw s (rwsL ((mrO s).1.take k) ++ (rwL ((mrO s).1.getD k default)).take i) ++ [.cells 54 [rwD ((mrO s).1.getD k default) 0, rwD ((mrO s).1.getD k default) 1, rwD ((mrO s).1.getD k default) 2, rwD ((mrO s).1.getD k default) 3, rwD ((mrO s).1.getD k default) 4]], []⟩, fun i => i ≤ rwN ((mrO s).1.getD k default) ∧ ∀ j, j < i → ¬ ∃ m, m ∈ rwsL ((mrO s).1.take k) ∧ m.frm = ((mrO s).1.getD k default).lo + (j : Int) ∧ m.tag = fdG (fld ((mrO s).1.getD k default)), fun i => rwN ((mrO s).1.getD k default) - i, fun _ => Nat.zero_le _, ⟨0, ⟨Nat.zero_le _, fun j hj => by omega⟩, ?_⟩, ?_⟩
      · have e0 : rwsL ((mrO s).1.take k) ++ (rwL ((mrO s).1.getD k default)).take 0 = rwsL ((mrO s).1.take k) := by simp
        exact StLe.ren [0, 1, 2, 3, 4] tmS ⟨⟨rfl, EntL.refl _, rfl⟩, ⟨rfl, EntL.refl _, rfl⟩, ⟨rfl, rfl, rfl, fun key => seen_ren (by rw [e0])⟩, own_eq e0.symm, ⟨rfl, EntL.refl _, rfl⟩, trivial⟩ (by decide)
      rintro i ⟨hi, hdi⟩
      unfold mpOw
      have hti : ((rwL ((mrO s).1.getD k default)).take i).length = i := by rw [List.length_take, rwL_len]; omega
      have hal : (rwsL ((mrO s).1.take k) ++ (rwL ((mrO s).1.getD k default)).take i).length ≤ 70000000 := by rw [List.length_append, hti]; omega
      by_cases hil : i < rwN ((mrO s).1.getD k default)
      · have hle : ((mrO s).1.getD k default).lo + (i : Int) ≤ ((mrO s).1.getD k default).hi := by unfold rwN at hil; omega
        have p2 : ctCloneI.pre (fdT (fld ((mrO s).1.getD k default))) := (by show (fdT (fld ((mrO s).1.getD k default))).length ≤ _; omega)
        repeat' (first | refine gx ?_ | (refine br (fun q_ => ?_) (fun q_ => ?_) <;> try simp only [Int.toNat_natCast, Nat.mul_one, Nat.add_zero] at q_) | (refine brF (fun q_ => ?_) (fun q_ => ?_) <;> try simp only [Int.toNat_natCast, Nat.mul_one, Nat.add_zero] at q_))
        refine wo5 ?_
        repeat' (first | refine gx ?_ | (refine br (fun q_ => ?_) (fun q_ => ?_) <;> try simp only [Int.toNat_natCast, Nat.mul_one, Nat.add_zero] at q_) | (refine brF (fun q_ => ?_) (fun q_ => ?_) <;> try simp only [Int.toNat_natCast, Nat.mul_one, Nat.add_zero] at q_))
        refine ⟨rwM ((mrO s).1.getD k default) i, EntL.refl _, trivial, ?_⟩
        have eK : keyK (rwM ((mrO s).1.getD k default) i) = .st [.i .i64 (((mrO s).1.getD k default).lo + (i : Int)), .s (fdG (fld ((mrO s).1.getD k default)))] := rfl
        by_cases hin : ∃ m, m ∈ rwsL ((mrO s).1.take k) ++ (rwL ((mrO s).1.getD k default)).take i ∧ keyK m = keyK (rwM ((mrO s).1.getD k default) i)
        · have hc : clP (mrO s).1 k := by
            obtain ⟨m, hm, hkm⟩ := hin
            have hk2 := keyK_of hkm
            rcases List.mem_append.1 hm with hm | hm
            · exact (cl_of (fun x hx => (hf x hx).1.2.2) hlt).1 ⟨i, hil, m, hm, hk2.1, hk2.2⟩
            · exfalso
              obtain ⟨j, hj, rfl⟩ := List.getElem_of_mem hm
              rw [hti] at hj
              rw [List.getElem_take] at hk2
              have e := rwL_at (x := ((mrO s).1.getD k default)) (i := j) (by omega)
              rw [List.getD_eq_getElem?_getD, List.getElem?_eq_getElem (by rw [rwL_len]; omega)] at e
              have e : (rwL ((mrO s).1.getD k default))[j]'(by rw [rwL_len]; omega) = rwM ((mrO s).1.getD k default) j := e
              rw [e] at hk2
              have := hk2.1
              simp only [rwM] at this
              omega
          have hr := mp_twice h0 hlt hd hc
          have hsn := seenL_yes hin
          repeat' (first | refine gx ?_ | (refine br (fun q_ => ?_) (fun q_ => ?_) <;> try simp only [Int.toNat_natCast, Nat.mul_one, Nat.add_zero] at q_) | (refine brF (fun q_ => ?_) (fun q_ => ?_) <;> try simp only [Int.toNat_natCast, Nat.mul_one, Nat.add_zero] at q_))
          refine ⟨fun d hdd => ?_, fun hnn => absurd (hsn.symm.trans hnn) (by simp)⟩
          obtain rfl : d = .v (.bool true) := Option.some.inj (hdd.symm.trans hsn)
          repeat' (first | refine gx ?_ | (refine br (fun q_ => ?_) (fun q_ => ?_) <;> try simp only [Int.toNat_natCast, Nat.mul_one, Nat.add_zero] at q_) | (refine brF (fun q_ => ?_) (fun q_ => ?_) <;> try simp only [Int.toNat_natCast, Nat.mul_one, Nat.add_zero] at q_))
          refine .inr ⟨.stage [0, 1, 2] (.alt 3 [0, 1, 2] (.stage [] (.alt 4 [] (.done []) .nil)) .nil), by decide +kernel, ?_⟩
          refine xs1 ?_
          repeat' (first | refine gx ?_ | refine xp1 ?_ | refine xp0 ?_ | refine xc1 ?_ ?_ | refine xc0 ?_ | refine xs1 ?_ | refine xs2 ?_ | refine xs3 ?_ | refine xa1 ?_ | exact rfl)
          exact mp_ret hr rfl
        · have hsn := seenL_no hin
          repeat' (first | refine gx ?_ | (refine br (fun q_ => ?_) (fun q_ => ?_) <;> try simp only [Int.toNat_natCast, Nat.mul_one, Nat.add_zero] at q_) | (refine brF (fun q_ => ?_) (fun q_ => ?_) <;> try simp only [Int.toNat_natCast, Nat.mul_one, Nat.add_zero] at q_))
          refine ⟨fun d hdd => absurd (hsn.symm.trans hdd) (by simp), fun _ => ?_⟩
          repeat' (first | refine gx ?_ | (refine br (fun q_ => ?_) (fun q_ => ?_) <;> try simp only [Int.toNat_natCast, Nat.mul_one, Nat.add_zero] at q_) | (refine brF (fun q_ => ?_) (fun q_ => ?_) <;> try simp only [Int.toNat_natCast, Nat.mul_one, Nat.add_zero] at q_))
          refine ⟨rwM ((mrO s).1.getD k default) i, EntL.refl _, trivial, ?_⟩
          repeat' (first | refine gx ?_ | (refine br (fun q_ => ?_) (fun q_ => ?_) <;> try simp only [Int.toNat_natCast, Nat.mul_one, Nat.add_zero] at q_) | (refine brF (fun q_ => ?_) (fun q_ => ?_) <;> try simp only [Int.toNat_natCast, Nat.mul_one, Nat.add_zero] at q_))
          have hni : ¬ ∃ m, m ∈ rwsL ((mrO s).1.take k) ∧ m.frm = ((mrO s).1.getD k default).lo + (i : Int) ∧ m.tag = fdG (fld ((mrO s).1.getD k default)) := fun ⟨m, hm, h1, h2⟩ => hin ⟨m, List.mem_append.2 (.inl hm), by
            show KV.st [.i .i64 m.frm, .s m.tag] = _
            rw [h1, h2]; rfl⟩
          have hsx : rwsL ((mrO s).1.take k) ++ (rwL ((mrO s).1.getD k default)).take (i + 1) = (rwsL ((mrO s).1.take k) ++ (rwL ((mrO s).1.getD k default)).take i) ++ [rwM ((mrO s).1.getD k default) i] := by
            rw [rwL_snoc hil, List.append_assoc]
          exact ⟨i + 1, ⟨hil, next_of hdi hni⟩, (by show _ - (i + 1) < _ - i; omega), StLe.ren [0, 1, 2, 6, 4] tmS ⟨⟨rfl, EntL.refl _, rfl⟩, ⟨rfl, EntL.refl _, rfl⟩, ⟨rfl, rfl, rfl, fun key => seen_ren (by rw [hsx]; exact seenL_snoc key)⟩, by rw [hsx]; exact own_app (fun j hj => match j, hj with | 0, _ => Ent.refl _ | 1, _ => Ent.refl _ | 2, _ => Ent.refl _), ⟨rfl, EntL.refl _, rfl⟩, trivial⟩ (by decide)⟩
      · have hgt : ¬ ((mrO s).1.getD k default).lo + (i : Int) ≤ ((mrO s).1.getD k default).hi := by unfold rwN at hil; omega
        have hie : i = rwN ((mrO s).1.getD k default) := by omega
        have hacc : rwsL ((mrO s).1.take k) ++ (rwL ((mrO s).1.getD k default)).take i = rwsL ((mrO s).1.take (k + 1)) := by
          rw [rws_snoc hlt, List.take_of_length_le (l := rwL ((mrO s).1.getD k default)) (by rw [rwL_len]; omega)]
        have hncl : ¬ clP (mrO s).1 k := fun hc => by
          obtain ⟨j, hj, hm⟩ := (cl_of (fun x hx => (hf x hx).1.2.2) hlt).2 hc
          exact hdi j (by omega) hm
        repeat' (first | refine gx ?_ | (refine br (fun q_ => ?_) (fun q_ => ?_) <;> try simp only [Int.toNat_natCast, Nat.mul_one, Nat.add_zero] at q_) | (refine brF (fun q_ => ?_) (fun q_ => ?_) <;> try simp only [Int.toNat_natCast, Nat.mul_one, Nat.add_zero] at q_))
        exact ⟨k + 1, ⟨hlt, next_of hd hncl⟩, (by show _ - (k + 1) < _ - k; omega), StLe.ren [0, 1, 2, 3] tmS ⟨⟨rfl, EntL.refl _, rfl⟩, ⟨rfl, EntL.refl _, rfl⟩, ⟨rfl, rfl, rfl, fun key => seen_ren (by rw [hacc])⟩, own_eq hacc, trivial⟩ (by decide)⟩
    · have hke : k = (mrO s).1.length := by omega
      have hta : (mrO s).1.take k = (mrO s).1 := List.take_of_length_le (by omega)
      have hr := mp_ok h0 (fun j hj => hd j (by omega))
      have hdup : dupB (rwsL ((mrO s).1.take k)) = false := by rw [hta]; exact rws_dup (fun x hx => (hf x hx).1.2.2) (fun j hj => hd j (by omega))
      repeat' (first | refine gx ?_ | (refine br (fun q_ => ?_) (fun q_ => ?_) <;> try simp only [Int.toNat_natCast, Nat.mul_one, Nat.add_zero] at q_) | (refine brF (fun q_ => ?_) (fun q_ => ?_) <;> try simp only [Int.toNat_natCast, Nat.mul_one, Nat.add_zero] at q_))
      refine .inl ⟨_, _, _, _, rwsL ((mrO s).1.take k), rfl, rfl, rfl, fun a ha j hj => Ent.refl _, by omega, fun L hp hs => ?_⟩
      have hL : L = sortM (rwsL ((mrO s).1.take k)) := sort_one' hdup hp (List.pairwise_iff_getElem.2 fun i j hi hj hij => by
        have := hs i j hij hj
        rw [ltM_less, List.getD_eq_getElem?_getD, List.getD_eq_getElem?_getD, List.getElem?_eq_getElem hi, List.getElem?_eq_getElem hj] at this
        exact this)
      repeat' (first | refine gx ?_ | (refine br (fun q_ => ?_) (fun q_ => ?_) <;> try simp only [Int.toNat_natCast, Nat.mul_one, Nat.add_zero] at q_) | (refine brF (fun q_ => ?_) (fun q_ => ?_) <;> try simp only [Int.toNat_natCast, Nat.mul_one, Nat.add_zero] at q_))
      refine EntR.of rfl ?_
      show Ent _ (D.tu [mpsD (mpO s).1, faultA (mpO s).2.1 (mpO s).2.2])
      rw [hr, hL, hta]
      exact Ent.refl _
  · repeat' (first | refine gx ?_ | (refine br (fun q_ => ?_) (fun q_ => ?_) <;> try simp only [Int.toNat_natCast, Nat.mul_one, Nat.add_zero] at q_) | (refine brF (fun q_ => ?_) (fun q_ => ?_) <;> try simp only [Int.toNat_natCast, Nat.mul_one, Nat.add_zero] at q_))
    refine .inr ⟨.stage [0] (.alt 1 [0] (.stage [] (.alt 2 [] (.done []) .nil)) .nil), by decide +kernel, ?_⟩
    refine xs1 ?_
    repeat' (first | refine gx ?_ | refine xp1 ?_ | refine xp0 ?_ | refine xc1 ?_ ?_ | refine xc0 ?_ | refine xs1 ?_ | refine xs2 ?_ | refine xs3 ?_ | refine xa1 ?_ | exact rfl)
    exact mp_ret (mp_rows h0) rfl
#print axioms mParse_ok
end Go.Proofs
