import Derived.Test.YtnccclpjcidmeaaGreatDoorA2
namespace Go.Proofs
open Go Go.Sx
variable {mx : Int}

def tgtF (l : List Mp) : Nat → KV → Option D
  | 0 => fun _ => none
  | k + 1 => fun k' => if k' = keyK (l.getD k default) then some (slD 1 intD (l.getD k default).to) else tgtF l k k'
theorem tgt_some {l : List Mp} {key : KV} {d : D} : ∀ {k : Nat}, tgtF l k key = some d → ∃ j, j < k ∧ key = keyK (l.getD j default) ∧ d = slD 1 intD (l.getD j default).to
  | 0, h => by simp [tgtF] at h
  | k + 1, h => by
    simp only [tgtF] at h
    split at h
    · rename_i hk
      simp only [Option.some.injEq] at h
      exact ⟨k, by omega, hk, h.symm⟩
    · obtain ⟨j, h2, h3⟩ := tgt_some h
      exact ⟨j, by omega, h3⟩
theorem tgt_none {l : List Mp} {key : KV} : ∀ {k : Nat}, tgtF l k key = none → ∀ j, j < k → key ≠ keyK (l.getD j default)
  | 0, _, j, hj => by omega
  | k + 1, h, j, hj => by
    simp only [tgtF] at h
    split at h
    · simp at h
    · rename_i hk
      by_cases hjk : j = k
      · subst hjk; exact hk
      · exact tgt_none h j (by omega)
theorem hit_key {m : Mp} {c : Int} {tag : ByteArray} : KV.st [.i .i64 c, .s tag] = keyK m ↔ hitB m c tag = true := by
  unfold hitB keyK
  by_cases h : m.frm = c
  · have h1 : (m.frm == c) = true := by simpa using h
    rw [h1]
    simp only [cond_true, eqB_iff]
    simp [h, eq_comm]
  · have h1 : (m.frm == c) = false := by simpa using h
    rw [h1]
    simp only [cond_false]
    constructor
    · intro e; simp at e; exact absurd e.1.symm h
    · intro e; simp at e
theorem not_dup {l : List Mp} (h : dupB l = false) (i j : Nat) : ¬ Dup l i j := by
  simp only [dupB, decide_eq_false_iff_not] at h
  exact fun hd => h ⟨i, j, hd⟩
theorem check_zero {l : List Mp} (h : (checkE l == 0) = true) : dupB l = false := by
  have h : checkE l = 0 := by simpa using h
  unfold checkE at h
  cases hp : (partsE l == 0) with
  | false =>
    rw [hp] at h
    simp only [cond_false] at h
    rw [h] at hp; simp at hp
  | true =>
    rw [hp] at h
    simp only [cond_true] at h
    cases ha : ascK l l.length with
    | true => exact asc_nodup ha
    | false =>
      rw [ha] at h
      simp only [cond_false] at h
      cases hd : dupB l with
      | false => rfl
      | true => rw [hd] at h; simp at h
theorem tgt_find {l : List Mp} (h : dupB l = false) (c : Int) (tag : ByteArray) : tgtF l l.length (.st [.i .i64 c, .s tag]) = (findM l c tag).map (slD 1 intD) := by
  cases ht : tgtF l l.length (.st [.i .i64 c, .s tag]) with
  | none =>
    have := tgt_none ht
    rw [find_no fun j hj => by
      cases hh : hitB (l.getD j default) c tag with
      | false => rfl
      | true => exact absurd (hit_key.2 hh) (this j hj)]
    rfl
  | some d =>
    obtain ⟨j, hj, hk, rfl⟩ := tgt_some ht
    have hj' := hit_key.1 hk
    rw [find_at hj (fun i hi => by
      cases hh : hitB (l.getD i default) c tag with
      | false => rfl
      | true => exact absurd (⟨hi, hj, keyK_iff.1 (hk.symm.trans (hit_key.2 hh))⟩ : Dup l j i) (not_dup h j i)) hj']
    rfl

def pSt (F : KV → Option D) (vl : List Mp) (tag : ByteArray) (text : List Int) : Nat → St
  | 0 => ⟨[(1, .v (.string tag)), (7, .mp 0), (31, slD 1 intD text), (32, .v (.int .i64 text.length)), (33, .v (.int .i64 0)), (10, .v (.slice none 0 0))], [.map 60 37 (.st [0, 1]) F], []⟩
  | k + 1 => ⟨[(1, .v (.string tag)), (7, .mp 0), (31, slD 1 intD text), (32, .v (.int .i64 text.length)), (33, .v (.int .i64 ((k + 1 : Nat) : Int))), (10, .row 1)], [.map 60 37 (.st [0, 1]) F, rowD (acc vl tag text (k + 1))], []⟩
theorem optren {F : KV → Option D} (hS : ∀ key d, F key = some d → ∃ to : List Int, d = slD 1 intD to) (ρ : List Nat) (key : KV) : OptRen ρ (F key) (F key) := by
  cases h : F key with
  | none => trivial
  | some d =>
    obtain ⟨to, rfl⟩ := hS key d h
    exact ⟨Ent.refl _, rfl⟩

set_option maxHeartbeats 4000000 in
theorem apply_ok : Sound Tryz.prog (GlT mx) 25 ctApply := by
  refine sound_by (cc := false) Γa_ok Tryz.T_ok Tryz.mixed Tryz.func25 rfl (by kernel_rfl) (fun _ => rfl) (fun _ _ => by show 3 ≤ 55; decide) ?_
  intro ((l : List Mp), (tag : ByteArray), (text : List Int)) ⟨(hs : smallB l = true), (ht : text.length ≤ 100)⟩
  obtain ⟨hv20, hv65⟩ := validL_to hs
  obtain ⟨hl20, _⟩ := small_facts hs
  have hal := acc_len hv65 tag text
  repeat first | refine wk1 ?_ | refine wk2 ?_ | refine wk3 ?_
  refine ⟨l, EntL.refl _, small_fit hs, ?_⟩
  repeat first | refine wk1 ?_ | refine wk2 ?_ | refine wk3 ?_
  refine And.intro (fun hc => ?_) (fun hc => ?_)
  · have hc : (checkE l == 0) = true := hc
    have hvl : validL l = l := by
      have : (checkE l != 0) = false := by simp only [bne, hc, Bool.not_true]
      simp only [validL, this, cond_false]
    repeat first | refine wk1 ?_ | refine wk2 ?_ | refine wk3 ?_
    refine ⟨0, Nat, fun k => ⟨[(1, .v (.string tag)), (2, slD 1 intD text), (7, .mp 0), (19, mpsD l), (20, .v (.int .i64 l.length)), (21, .v (.int .i64 k))], [.map 60 37 (.st [0, 1]) (tgtF l k)], []⟩, fun k => k ≤ l.length, fun k => l.length - k, fun _ => Nat.zero_le _, ⟨0, Nat.zero_le _, StLe.ren [0] (by repeat' (first | exact trivial | exact Ent.refl _ | exact rfl | refine And.intro ?_ ?_)) ⟨⟨rfl, rfl, rfl, fun _ => trivial⟩, trivial⟩ (by decide)⟩, ?_⟩
    intro k hk
    have hk : k ≤ l.length := hk
    repeat first | refine wk1 ?_ | refine wk2 ?_ | refine wk3 ?_
    refine And.intro (fun h => ?_) (fun h => ?_)
    · have h : k < l.length := by have h' := of_decide_eq_true h; omega
      repeat first | refine wk1 ?_ | refine wk2 ?_ | refine wk3 ?_
      refine And.intro (by omega) ?_
      repeat first | refine wk1 ?_ | refine wk2 ?_ | refine wk3 ?_
      refine And.intro (by kernel_rfl) ?_
      repeat first | refine wk1 ?_ | refine wk2 ?_ | refine wk3 ?_
      refine ⟨l.getD k default, EntL.refl _, fun _ => trivial, ?_⟩
      repeat first | refine wk1 ?_ | refine wk2 ?_ | refine wk3 ?_
      refine And.intro (show fitsI64 ((k : Int) + 1) from ⟨by omega, by omega⟩) ?_
      repeat first | refine wk1 ?_ | refine wk2 ?_ | refine wk3 ?_
      refine ⟨k + 1, (show k + 1 ≤ l.length by omega), (show l.length - (k + 1) < l.length - k by omega), StLe.ren [0] (by repeat' (first | exact trivial | exact Ent.refl _ | exact rfl | refine And.intro ?_ ?_)) ⟨⟨rfl, rfl, rfl, fun key => ?_⟩, trivial⟩ (by decide)⟩
      exact optren (F := tgtF l (k + 1)) (fun key d hd => let ⟨j, _, _, e⟩ := tgt_some hd; ⟨_, e⟩) [0] key
    have h : k = l.length := by have h' := of_decide_eq_false h; omega
    subst h
    have hF : ∀ c, tgtF l l.length (.st [.i .i64 c, .s tag]) = (findM (validL l) c tag).map (slD 1 intD) := by rw [hvl]; exact fun c => tgt_find (check_zero hc) c tag
    have hS : ∀ key d, tgtF l l.length key = some d → ∃ to : List Int, d = slD 1 intD to := fun key d hd => let ⟨j, _, _, e⟩ := tgt_some hd; ⟨_, e⟩
    generalize tgtF l l.length = F at hF hS ⊢
    repeat first | refine wk1 ?_ | refine wk2 ?_ | refine wk3 ?_
    refine ⟨0, Nat, pSt F (validL l) tag text, fun k => k ≤ text.length, fun k => text.length - k, fun _ => Nat.zero_le _, ⟨0, Nat.zero_le _, StLe.ren [0] (by repeat' (first | exact trivial | exact Ent.refl _ | exact rfl | refine And.intro ?_ ?_)) ⟨⟨rfl, rfl, rfl, fun key => optren hS _ key⟩, trivial⟩ (by decide)⟩, ?_⟩
    intro k hk
    match k, hk with
    | 0, hk =>
      repeat first | refine wk1 ?_ | refine wk2 ?_ | refine wk3 ?_
      refine And.intro (fun h => ?_) (fun h => ?_)
      · have h : 0 < text.length := by have h' := of_decide_eq_true h; omega
        have h1 := oneA_len hv65 tag (text.getD 0 default)
        repeat first | refine wk1 ?_ | refine wk2 ?_ | refine wk3 ?_
        refine And.intro (by omega) ?_
        repeat first | refine wk1 ?_ | refine wk2 ?_ | refine wk3 ?_
        refine And.intro (fun d hf => ?_) (fun hf => ?_)
        · have hf : F (.st [.i .i64 (text.getD 0 default), .s tag]) = some d := hf
          rw [hF, Option.map_eq_some_iff] at hf
          obtain ⟨to, hto, rfl⟩ := hf
          have e1 : oneA (validL l) tag (text.getD 0 default) = to := by simp only [oneA, hto, Option.getD_some]
          rw [e1] at h1
          repeat first | refine wk1 ?_ | refine wk2 ?_ | refine wk3 ?_ | refine wt1 ?_ | refine wt2 ?_ | refine wt3 ?_ | refine wt4 ?_
          refine And.intro (by show to.length ≤ _; omega) (And.intro (by show to.length * 8 ≤ _; omega) ?_)
          repeat first | refine wk1 ?_ | refine wk2 ?_ | refine wk3 ?_
          refine And.intro ⟨by decide, by decide⟩ ?_
          repeat first | refine wk1 ?_ | refine wk2 ?_ | refine wk3 ?_
          refine ⟨1, (show 1 ≤ text.length by omega), (show text.length - 1 < text.length - 0 by omega), StLe.ren [0, 1] (by repeat' (first | exact trivial | exact Ent.refl _ | exact rfl | refine And.intro ?_ ?_)) ⟨⟨rfl, rfl, rfl, fun key => optren hS _ key⟩, ⟨rfl, rfl, ?_, fun i hi j hj => ?_⟩, trivial⟩ (by decide)⟩
          · show to.length = (acc (validL l) tag text 1).length
            simp only [acc, e1, List.nil_append]
          · show Ent (intD (to.getD i default) j) (intD ((acc (validL l) tag text 1).getD i default) j)
            simp only [acc, e1, List.nil_append]
            exact Ent.refl _
        · have hf : F (.st [.i .i64 (text.getD 0 default), .s tag]) = none := hf
          rw [hF, Option.map_eq_none_iff] at hf
          have e1 : oneA (validL l) tag (text.getD 0 default) = [(text.getD 0 default)] := by simp only [oneA, hf, Option.getD_none]
          repeat first | refine wk1 ?_ | refine wk2 ?_ | refine wk3 ?_ | refine wt1 ?_ | refine wt2 ?_ | refine wt3 ?_ | refine wt4 ?_
          refine And.intro (by decide) (And.intro (by decide) ?_)
          repeat first | refine wk1 ?_ | refine wk2 ?_ | refine wk3 ?_
          refine And.intro ⟨by decide, by decide⟩ ?_
          repeat first | refine wk1 ?_ | refine wk2 ?_ | refine wk3 ?_
          refine ⟨1, (show 1 ≤ text.length by omega), (show text.length - 1 < text.length - 0 by omega), StLe.ren [0, 1] (by repeat' (first | exact trivial | exact Ent.refl _ | exact rfl | refine And.intro ?_ ?_)) ⟨⟨rfl, rfl, rfl, fun key => optren hS _ key⟩, ⟨rfl, rfl, ?_, fun i hi j hj => ?_⟩, trivial⟩ (by decide)⟩
          · show 1 = (acc (validL l) tag text 1).length
            simp only [acc, e1, List.nil_append, List.length_singleton]
          · show Ent (oneF (text.getD 0 default) i j) (intD ((acc (validL l) tag text 1).getD i default) j)
            simp only [acc, e1, List.nil_append]
            rw [oneF_eq _ hi hj]
            exact Ent.refl _
      · have h : text.length = 0 := by have h' := of_decide_eq_false h; have hk' : 0 ≤ text.length := hk; omega
        repeat first | refine wk1 ?_ | refine wk2 ?_ | refine wk3 ?_
        refine EntR.of rfl ?_
        show Ent _ (slD 1 intD (acc (validL l) tag text text.length))
        rw [h]
        exact Ent.nil
    | k + 1, hk =>
      repeat first | refine wk1 ?_ | refine wk2 ?_ | refine wk3 ?_
      refine And.intro (fun h => ?_) (fun h => ?_)
      · have h : (k + 1) < text.length := by have h' := of_decide_eq_true h; omega
        have h1 := oneA_len hv65 tag (text.getD (k + 1) default)
        have h2 := hal (k + 1)
        repeat first | refine wk1 ?_ | refine wk2 ?_ | refine wk3 ?_
        refine And.intro (by omega) ?_
        repeat first | refine wk1 ?_ | refine wk2 ?_ | refine wk3 ?_
        refine And.intro (fun d hf => ?_) (fun hf => ?_)
        · have hf : F (.st [.i .i64 (text.getD (k + 1) default), .s tag]) = some d := hf
          rw [hF, Option.map_eq_some_iff] at hf
          obtain ⟨to, hto, rfl⟩ := hf
          have e1 : oneA (validL l) tag (text.getD (k + 1) default) = to := by simp only [oneA, hto, Option.getD_some]
          rw [e1] at h1
          repeat first | refine wk1 ?_ | refine wk2 ?_ | refine wk3 ?_ | refine wt1 ?_ | refine wt2 ?_ | refine wt3 ?_ | refine wt4 ?_
          refine And.intro (by show (acc (validL l) tag text (k + 1)).length + to.length ≤ _; omega) (And.intro (by show ((acc (validL l) tag text (k + 1)).length + to.length) * 8 ≤ _; omega) ?_)
          repeat first | refine wk1 ?_ | refine wk2 ?_ | refine wk3 ?_
          refine And.intro (show fitsI64 (((k + 1 : Nat) : Int) + 1) from ⟨by omega, by omega⟩) ?_
          repeat first | refine wk1 ?_ | refine wk2 ?_ | refine wk3 ?_
          refine ⟨k + 2, (show k + 2 ≤ text.length by omega), (show text.length - (k + 2) < text.length - (k + 1) by omega), StLe.ren [0, 2] (by repeat' (first | exact trivial | exact Ent.refl _ | exact rfl | refine And.intro ?_ ?_)) ⟨⟨rfl, rfl, rfl, fun key => optren hS _ key⟩, ⟨rfl, rfl, ?_, fun i hi j hj => ?_⟩, trivial⟩ (by decide)⟩
          · show (acc (validL l) tag text (k + 1)).length + to.length = (acc (validL l) tag text (k + 2)).length
            rw [show acc (validL l) tag text (k + 2) = (acc (validL l) tag text (k + 1)) ++ oneA (validL l) tag (text.getD (k + 1) default) from rfl, e1, List.length_append]
          · show Ent (catF (acc (validL l) tag text (k + 1)).length (fun i j => intD ((acc (validL l) tag text (k + 1)).getD i default) j) (fun i j => intD (to.getD i default) j) i j) (intD ((acc (validL l) tag text (k + 2)).getD i default) j)
            rw [show acc (validL l) tag text (k + 2) = (acc (validL l) tag text (k + 1)) ++ oneA (validL l) tag (text.getD (k + 1) default) from rfl, e1, cat_eq _ _ _ _ hi]
            exact Ent.refl _
        · have hf : F (.st [.i .i64 (text.getD (k + 1) default), .s tag]) = none := hf
          rw [hF, Option.map_eq_none_iff] at hf
          have e1 : oneA (validL l) tag (text.getD (k + 1) default) = [(text.getD (k + 1) default)] := by simp only [oneA, hf, Option.getD_none]
          repeat first | refine wk1 ?_ | refine wk2 ?_ | refine wk3 ?_ | refine wt1 ?_ | refine wt2 ?_ | refine wt3 ?_ | refine wt4 ?_
          refine And.intro (by show (acc (validL l) tag text (k + 1)).length + 1 ≤ _; omega) (And.intro (by show ((acc (validL l) tag text (k + 1)).length + 1) * 8 ≤ _; omega) ?_)
          repeat first | refine wk1 ?_ | refine wk2 ?_ | refine wk3 ?_
          refine And.intro (show fitsI64 (((k + 1 : Nat) : Int) + 1) from ⟨by omega, by omega⟩) ?_
          repeat first | refine wk1 ?_ | refine wk2 ?_ | refine wk3 ?_
          refine ⟨k + 2, (show k + 2 ≤ text.length by omega), (show text.length - (k + 2) < text.length - (k + 1) by omega), StLe.ren [0, 2] (by repeat' (first | exact trivial | exact Ent.refl _ | exact rfl | refine And.intro ?_ ?_)) ⟨⟨rfl, rfl, rfl, fun key => optren hS _ key⟩, ⟨rfl, rfl, ?_, fun i hi j hj => ?_⟩, trivial⟩ (by decide)⟩
          · show (acc (validL l) tag text (k + 1)).length + 1 = (acc (validL l) tag text (k + 2)).length
            rw [show acc (validL l) tag text (k + 2) = (acc (validL l) tag text (k + 1)) ++ oneA (validL l) tag (text.getD (k + 1) default) from rfl, e1, List.length_append, List.length_singleton]
          · show Ent (catF (acc (validL l) tag text (k + 1)).length (fun i j => intD ((acc (validL l) tag text (k + 1)).getD i default) j) (oneF (text.getD (k + 1) default)) i j) (intD ((acc (validL l) tag text (k + 2)).getD i default) j)
            rw [show acc (validL l) tag text (k + 2) = (acc (validL l) tag text (k + 1)) ++ oneA (validL l) tag (text.getD (k + 1) default) from rfl, e1, cat_one _ _ _ _ hi hj]
            exact Ent.refl _
      · have h : text.length = k + 1 := by have h' := of_decide_eq_false h; have hk' : (k + 1) ≤ text.length := hk; omega
        repeat first | refine wk1 ?_ | refine wk2 ?_ | refine wk3 ?_
        refine EntR.of rfl ?_
        show Ent _ (slD 1 intD (acc (validL l) tag text text.length))
        rw [h]
        exact Ent.refl _
  · have hc : (checkE l == 0) = false := hc
    have hvl : validL l = [] := by
      have : (checkE l != 0) = true := by simp only [bne, hc, Bool.not_false]
      simp only [validL, this, cond_true]
    have hF : ∀ c, (fun _ : KV => (none : Option D)) (.st [.i .i64 c, .s tag]) = (findM (validL l) c tag).map (slD 1 intD) := by rw [hvl]; intro c; rfl
    have hS : ∀ key d, (fun _ : KV => (none : Option D)) key = some d → ∃ to : List Int, d = slD 1 intD to := fun key d hd => by simp at hd
    generalize (fun _ : KV => (none : Option D)) = F at hF hS ⊢
    repeat first | refine wk1 ?_ | refine wk2 ?_ | refine wk3 ?_
    refine ⟨0, Nat, pSt F (validL l) tag text, fun k => k ≤ text.length, fun k => text.length - k, fun _ => Nat.zero_le _, ⟨0, Nat.zero_le _, StLe.ren [0] (by repeat' (first | exact trivial | exact Ent.refl _ | exact rfl | refine And.intro ?_ ?_)) ⟨⟨rfl, rfl, rfl, fun key => optren hS _ key⟩, trivial⟩ (by decide)⟩, ?_⟩
    intro k hk
    match k, hk with
    | 0, hk =>
      repeat first | refine wk1 ?_ | refine wk2 ?_ | refine wk3 ?_
      refine And.intro (fun h => ?_) (fun h => ?_)
      · have h : 0 < text.length := by have h' := of_decide_eq_true h; omega
        have h1 := oneA_len hv65 tag (text.getD 0 default)
        repeat first | refine wk1 ?_ | refine wk2 ?_ | refine wk3 ?_
        refine And.intro (by omega) ?_
        repeat first | refine wk1 ?_ | refine wk2 ?_ | refine wk3 ?_
        refine And.intro (fun d hf => ?_) (fun hf => ?_)
        · have hf : F (.st [.i .i64 (text.getD 0 default), .s tag]) = some d := hf
          rw [hF, Option.map_eq_some_iff] at hf
          obtain ⟨to, hto, rfl⟩ := hf
          have e1 : oneA (validL l) tag (text.getD 0 default) = to := by simp only [oneA, hto, Option.getD_some]
          rw [e1] at h1
          repeat first | refine wk1 ?_ | refine wk2 ?_ | refine wk3 ?_ | refine wt1 ?_ | refine wt2 ?_ | refine wt3 ?_ | refine wt4 ?_
          refine And.intro (by show to.length ≤ _; omega) (And.intro (by show to.length * 8 ≤ _; omega) ?_)
          repeat first | refine wk1 ?_ | refine wk2 ?_ | refine wk3 ?_
          refine And.intro ⟨by decide, by decide⟩ ?_
          repeat first | refine wk1 ?_ | refine wk2 ?_ | refine wk3 ?_
          refine ⟨1, (show 1 ≤ text.length by omega), (show text.length - 1 < text.length - 0 by omega), StLe.ren [0, 1] (by repeat' (first | exact trivial | exact Ent.refl _ | exact rfl | refine And.intro ?_ ?_)) ⟨⟨rfl, rfl, rfl, fun key => optren hS _ key⟩, ⟨rfl, rfl, ?_, fun i hi j hj => ?_⟩, trivial⟩ (by decide)⟩
          · show to.length = (acc (validL l) tag text 1).length
            simp only [acc, e1, List.nil_append]
          · show Ent (intD (to.getD i default) j) (intD ((acc (validL l) tag text 1).getD i default) j)
            simp only [acc, e1, List.nil_append]
            exact Ent.refl _
        · have hf : F (.st [.i .i64 (text.getD 0 default), .s tag]) = none := hf
          rw [hF, Option.map_eq_none_iff] at hf
          have e1 : oneA (validL l) tag (text.getD 0 default) = [(text.getD 0 default)] := by simp only [oneA, hf, Option.getD_none]
          repeat first | refine wk1 ?_ | refine wk2 ?_ | refine wk3 ?_ | refine wt1 ?_ | refine wt2 ?_ | refine wt3 ?_ | refine wt4 ?_
          refine And.intro (by decide) (And.intro (by decide) ?_)
          repeat first | refine wk1 ?_ | refine wk2 ?_ | refine wk3 ?_
          refine And.intro ⟨by decide, by decide⟩ ?_
          repeat first | refine wk1 ?_ | refine wk2 ?_ | refine wk3 ?_
          refine ⟨1, (show 1 ≤ text.length by omega), (show text.length - 1 < text.length - 0 by omega), StLe.ren [0, 1] (by repeat' (first | exact trivial | exact Ent.refl _ | exact rfl | refine And.intro ?_ ?_)) ⟨⟨rfl, rfl, rfl, fun key => optren hS _ key⟩, ⟨rfl, rfl, ?_, fun i hi j hj => ?_⟩, trivial⟩ (by decide)⟩
          · show 1 = (acc (validL l) tag text 1).length
            simp only [acc, e1, List.nil_append, List.length_singleton]
          · show Ent (oneF (text.getD 0 default) i j) (intD ((acc (validL l) tag text 1).getD i default) j)
            simp only [acc, e1, List.nil_append]
            rw [oneF_eq _ hi hj]
            exact Ent.refl _
      · have h : text.length = 0 := by have h' := of_decide_eq_false h; have hk' : 0 ≤ text.length := hk; omega
        repeat first | refine wk1 ?_ | refine wk2 ?_ | refine wk3 ?_
        refine EntR.of rfl ?_
        show Ent _ (slD 1 intD (acc (validL l) tag text text.length))
        rw [h]
        exact Ent.nil
    | k + 1, hk =>
      repeat first | refine wk1 ?_ | refine wk2 ?_ | refine wk3 ?_
      refine And.intro (fun h => ?_) (fun h => ?_)
      · have h : (k + 1) < text.length := by have h' := of_decide_eq_true h; omega
        have h1 := oneA_len hv65 tag (text.getD (k + 1) default)
        have h2 := hal (k + 1)
        repeat first | refine wk1 ?_ | refine wk2 ?_ | refine wk3 ?_
        refine And.intro (by omega) ?_
        repeat first | refine wk1 ?_ | refine wk2 ?_ | refine wk3 ?_
        refine And.intro (fun d hf => ?_) (fun hf => ?_)
        · have hf : F (.st [.i .i64 (text.getD (k + 1) default), .s tag]) = some d := hf
          rw [hF, Option.map_eq_some_iff] at hf
          obtain ⟨to, hto, rfl⟩ := hf
          have e1 : oneA (validL l) tag (text.getD (k + 1) default) = to := by simp only [oneA, hto, Option.getD_some]
          rw [e1] at h1
          repeat first | refine wk1 ?_ | refine wk2 ?_ | refine wk3 ?_ | refine wt1 ?_ | refine wt2 ?_ | refine wt3 ?_ | refine wt4 ?_
          refine And.intro (by show (acc (validL l) tag text (k + 1)).length + to.length ≤ _; omega) (And.intro (by show ((acc (validL l) tag text (k + 1)).length + to.length) * 8 ≤ _; omega) ?_)
          repeat first | refine wk1 ?_ | refine wk2 ?_ | refine wk3 ?_
          refine And.intro (show fitsI64 (((k + 1 : Nat) : Int) + 1) from ⟨by omega, by omega⟩) ?_
          repeat first | refine wk1 ?_ | refine wk2 ?_ | refine wk3 ?_
          refine ⟨k + 2, (show k + 2 ≤ text.length by omega), (show text.length - (k + 2) < text.length - (k + 1) by omega), StLe.ren [0, 2] (by repeat' (first | exact trivial | exact Ent.refl _ | exact rfl | refine And.intro ?_ ?_)) ⟨⟨rfl, rfl, rfl, fun key => optren hS _ key⟩, ⟨rfl, rfl, ?_, fun i hi j hj => ?_⟩, trivial⟩ (by decide)⟩
          · show (acc (validL l) tag text (k + 1)).length + to.length = (acc (validL l) tag text (k + 2)).length
            rw [show acc (validL l) tag text (k + 2) = (acc (validL l) tag text (k + 1)) ++ oneA (validL l) tag (text.getD (k + 1) default) from rfl, e1, List.length_append]
          · show Ent (catF (acc (validL l) tag text (k + 1)).length (fun i j => intD ((acc (validL l) tag text (k + 1)).getD i default) j) (fun i j => intD (to.getD i default) j) i j) (intD ((acc (validL l) tag text (k + 2)).getD i default) j)
            rw [show acc (validL l) tag text (k + 2) = (acc (validL l) tag text (k + 1)) ++ oneA (validL l) tag (text.getD (k + 1) default) from rfl, e1, cat_eq _ _ _ _ hi]
            exact Ent.refl _
        · have hf : F (.st [.i .i64 (text.getD (k + 1) default), .s tag]) = none := hf
          rw [hF, Option.map_eq_none_iff] at hf
          have e1 : oneA (validL l) tag (text.getD (k + 1) default) = [(text.getD (k + 1) default)] := by simp only [oneA, hf, Option.getD_none]
          repeat first | refine wk1 ?_ | refine wk2 ?_ | refine wk3 ?_ | refine wt1 ?_ | refine wt2 ?_ | refine wt3 ?_ | refine wt4 ?_
          refine And.intro (by show (acc (validL l) tag text (k + 1)).length + 1 ≤ _; omega) (And.intro (by show ((acc (validL l) tag text (k + 1)).length + 1) * 8 ≤ _; omega) ?_)
          repeat first | refine wk1 ?_ | refine wk2 ?_ | refine wk3 ?_
          refine And.intro (show fitsI64 (((k + 1 : Nat) : Int) + 1) from ⟨by omega, by omega⟩) ?_
          repeat first | refine wk1 ?_ | refine wk2 ?_ | refine wk3 ?_
          refine ⟨k + 2, (show k + 2 ≤ text.length by omega), (show text.length - (k + 2) < text.length - (k + 1) by omega), StLe.ren [0, 2] (by repeat' (first | exact trivial | exact Ent.refl _ | exact rfl | refine And.intro ?_ ?_)) ⟨⟨rfl, rfl, rfl, fun key => optren hS _ key⟩, ⟨rfl, rfl, ?_, fun i hi j hj => ?_⟩, trivial⟩ (by decide)⟩
          · show (acc (validL l) tag text (k + 1)).length + 1 = (acc (validL l) tag text (k + 2)).length
            rw [show acc (validL l) tag text (k + 2) = (acc (validL l) tag text (k + 1)) ++ oneA (validL l) tag (text.getD (k + 1) default) from rfl, e1, List.length_append, List.length_singleton]
          · show Ent (catF (acc (validL l) tag text (k + 1)).length (fun i j => intD ((acc (validL l) tag text (k + 1)).getD i default) j) (oneF (text.getD (k + 1) default)) i j) (intD ((acc (validL l) tag text (k + 2)).getD i default) j)
            rw [show acc (validL l) tag text (k + 2) = (acc (validL l) tag text (k + 1)) ++ oneA (validL l) tag (text.getD (k + 1) default) from rfl, e1, cat_one _ _ _ _ hi hj]
            exact Ent.refl _
      · have h : text.length = k + 1 := by have h' := of_decide_eq_false h; have hk' : (k + 1) ≤ text.length := hk; omega
        repeat first | refine wk1 ?_ | refine wk2 ?_ | refine wk3 ?_
        refine EntR.of rfl ?_
        show Ent _ (slD 1 intD (acc (validL l) tag text text.length))
        rw [h]
        exact Ent.refl _
end Go.Proofs
