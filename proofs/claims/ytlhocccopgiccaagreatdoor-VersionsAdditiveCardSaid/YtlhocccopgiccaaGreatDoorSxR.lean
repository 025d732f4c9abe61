import Derived.Test.YtlhocccopgiccaaGreatDoorSxO
import Derived.KernelRfl
namespace Go.Sx
open Go Go.RowKit

mutual
/-- What d speaks of lies among the first m. -/
def inD (m : Nat) : D → Bool
  | .v _ | .sl _ _ _ | .pt _ _ | .junk => true
  | .own i _ => decide (i < m)
  | .row i => decide (i < m)
  | .rp i _ _ _ => decide (i < m)
  | .yl i => decide (i < m)
  | .mp i => decide (i < m)
  | .os i _ _ => decide (i < m)
  | .sd i => decide (i < m)
  | .ag l | .tu l => inDL m l
  | .fn _ l => inDL m l
  | .ifc _ d => inD m d
def inDL (m : Nat) : List D → Bool
  | [] => true
  | d :: ds => inD m d && inDL m ds
end

mutual
theorem Rep.take {M : Mem} {E : List Value} {m : Nat} : ∀ (d : D) (u : Value), inD m d = true → Rep M E d u → Rep M (E.take m) d u
  | .v x, u, _, h => by simpa only [Rep] using h
  | .sl _ _ _, u, _, h => by simpa only [Rep] using h
  | .pt _ _, u, _, h => by simpa only [Rep] using h
  | .ag l, u, hp, h => by
    simp only [Rep] at h ⊢
    obtain ⟨us, rfl, hl⟩ := h
    exact ⟨us, rfl, RepL.take _ _ (by simpa [inD] using hp) hl⟩
  | .tu l, u, hp, h => by
    simp only [Rep] at h ⊢
    obtain ⟨us, rfl, hl⟩ := h
    exact ⟨us, rfl, RepL.take _ _ (by simpa [inD] using hp) hl⟩
  | .own i o, u, hp, h => by
    simp only [Rep] at h ⊢
    simp [inD] at hp
    rw [List.getElem?_take_of_lt hp]; exact h
  | .row i, u, hp, h => by
    simp only [Rep] at h ⊢
    simp [inD] at hp
    rw [List.getElem?_take_of_lt hp]; exact h
  | .rp i _ _ _, u, hp, h => by
    simp only [Rep] at h ⊢
    simp [inD] at hp
    rw [List.getElem?_take_of_lt hp]; exact h
  | .yl i, u, hp, h => by
    simp only [Rep] at h ⊢
    simp [inD] at hp
    rw [List.getElem?_take_of_lt hp]; exact h
  | .mp i, u, hp, h => by
    simp only [Rep] at h ⊢
    simp [inD] at hp
    rw [List.getElem?_take_of_lt hp]; exact h
  | .os i _ _, u, hp, h => by
    simp only [Rep] at h ⊢
    simp [inD] at hp
    rw [List.getElem?_take_of_lt hp]; exact h
  | .sd i, u, hp, h => by
    simp only [Rep] at h ⊢
    simp [inD] at hp
    rw [List.getElem?_take_of_lt hp]; exact h
  | .fn g l, u, hp, h => by
    simp only [Rep] at h ⊢
    obtain ⟨us, rfl, hl⟩ := h
    exact ⟨us, rfl, RepL.take _ _ (by simpa [inD] using hp) hl⟩
  | .ifc t d, u, hp, h => by
    simp only [Rep] at h ⊢
    obtain ⟨x, rfl, hx⟩ := h
    exact ⟨x, rfl, Rep.take _ _ (by simpa [inD] using hp) hx⟩
  | .junk, u, _, _ => by simp [Rep]
theorem RepL.take {M : Mem} {E : List Value} {m : Nat} : ∀ (l : List D) (us : List Value), inDL m l = true → RepL M E l us → RepL M (E.take m) l us
  | [], us, _, h => by simpa only [RepL] using h
  | d :: ds, us, hp, h => by
    simp only [RepL] at h ⊢
    obtain ⟨u, r, rfl, hd, hr⟩ := h
    simp [inDL] at hp
    exact ⟨u, r, rfl, Rep.take _ _ hp.1 hd, RepL.take _ _ hp.2 hr⟩
end

/-- What is owned, told by less. -/
def OwnLe (m : Nat) : Own → Own → Prop
  | .cells t l, .cells t' l' => t = t' ∧ EntL l l' ∧ inDL m l' = true
  | .row e sz n f, .row e' sz' n' f' => e = e' ∧ sz = sz' ∧ n = n' ∧ ∀ a, a < n → ∀ j, j < sz → Ent (f a j) (f' a j)
  | .frozen sz n f, .frozen sz' n' f' => Ent (.sl sz n f) (.sl sz' n' f')
  | .bytes e s, .bytes e' s' => e = e' ∧ s = s'
  | .lp st pe, .lp st' pe' => st = st' ∧ pe = pe'
  | .defd, .defd => True
  | .gone, .gone => True
  | _, _ => False

def subO (m : Nat) : List Own → List Own → Prop
  | _, [] => True
  | [], _ :: _ => False
  | o :: os, o' :: os' => OwnLe m o o' ∧ subO m os os'

def subT (m : Nat) (tm : List (Nat × D)) : List (Nat × D) → Prop
  | [] => True
  | (t, d') :: r => (match lk tm t with | some d => Ent d d' | none => False) ∧ inD m d' = true ∧ subT m tm r

theorem subO_get {m : Nat} : ∀ {l l' : List Own} {i : Nat} {o' : Own}, subO m l l' → l'[i]? = some o' → ∃ o, l[i]? = some o ∧ OwnLe m o o'
  | _, [], i, o', _, h => by simp at h
  | [], _ :: _, i, o', hs, _ => hs.elim
  | o :: os, p :: os', 0, o', hs, h => by simp at h; subst h; exact ⟨o, by simp, hs.1⟩
  | o :: os, p :: os', i + 1, o', hs, h => by simp at h ⊢; exact subO_get hs.2 h

theorem subO_len {m : Nat} : ∀ {l l' : List Own}, subO m l l' → l'.length ≤ l.length
  | _, [], _ => by simp
  | [], _ :: _, hs => hs.elim
  | o :: os, p :: os', hs => by simp; exact subO_len hs.2

theorem subT_get {m : Nat} {tm : List (Nat × D)} : ∀ {l : List (Nat × D)} {t : Nat} {d' : D}, subT m tm l → lk l t = some d' → ∃ d, lk tm t = some d ∧ Ent d d' ∧ inD m d' = true
  | [], t, d', _, h => by simp [lk] at h
  | (s, x) :: r, t, d', hs, h => by
    simp only [subT] at hs
    simp only [lk] at h
    split at h
    · rename_i hst
      simp at h; subst h; subst hst
      cases hl : lk tm s with
      | none => rw [hl] at hs; exact hs.1.elim
      | some d => rw [hl] at hs; exact ⟨d, rfl, hs.1, hs.2.1⟩
    · exact subT_get hs.2.2 h

theorem Holds.le {B : Nat} {M : Mem} {E : List Value} {w : World} {m : Nat} {o o' : Own} {v : Value} (hl : OwnLe m o o') (h : Holds B M E w o v) : Holds B M (E.take m) w o' v ∧ (o'.live = true → o.live = true) := by
  cases o <;> cases o' <;> simp only [OwnLe] at hl
  case cells.cells t l t' l' =>
    obtain ⟨rfl, h1, h2⟩ := hl
    simp only [Holds] at h ⊢
    obtain ⟨b, cs, q1, q2, q3, q4, q5⟩ := h
    exact ⟨⟨b, cs, q1, q2, RepL.take _ _ h2 (h1 _ _ _ q3), q4, q5⟩, fun _ => rfl⟩
  case row.row e sz n f e' sz' n' f' =>
    obtain ⟨rfl, rfl, rfl, h1⟩ := hl
    simp only [Holds] at h ⊢
    obtain ⟨xs, q1, q2, q3⟩ := h
    refine ⟨⟨xs, q1, fun a ha j hj => ?_, q3⟩, fun _ => rfl⟩
    obtain ⟨x, x1, x2, x3⟩ := q2 a ha j hj
    exact ⟨x, x1, x2, h1 a ha j hj _ _ _ x3⟩
  case bytes.bytes => obtain ⟨rfl, rfl⟩ := hl; exact ⟨h, fun _ => rfl⟩
  case lp.lp => obtain ⟨rfl, rfl⟩ := hl; exact ⟨h, fun _ => rfl⟩
  case defd.defd => exact ⟨h, fun _ => rfl⟩
  case frozen.frozen => exact ⟨hl M [] v h, fun hh => by simp [Own.live] at hh⟩
  case gone.gone => exact ⟨h, fun hh => by simp [Own.live] at hh⟩

theorem StLe.ofm {m : Nat} {tm tm' : List (Nat × D)} {ow ow' : List Own} {df : List Nat} (h1 : subT ow'.length tm tm') (h2 : subO ow'.length ow ow') (hm : m ≤ ow'.length) (hdf : ∀ i ∈ df, i < ow'.length) : StLe m ⟨tm, ow, df⟩ ⟨tm', ow', df⟩ := by
  refine ⟨rfl, ?_⟩
  intro B w0 M0 dv N M E w a hW hR
  have hlen := subO_len h2
  refine ⟨M, E.take ow'.length, Mem.le_refl _, fun i b hi hb => by rw [List.getElem?_take_of_lt (by omega)]; exact hb, fun i b hi hb => by rw [List.getElem?_take_of_lt hi]; exact hb, hdf, ⟨hW.fits, hW.base, hW.below, ?_, ?_, ?_, hW.mle, hW.new⟩, ⟨hR.size, hR.defers, fun t d' ht => ?_, fun _ _ _ _ hh => by simp [lkG] at hh⟩⟩
  · simp [hW.len]; omega
  · intro i o' v ho hv
    obtain ⟨o, ho1, hle⟩ := subO_get h2 ho
    rw [List.getElem?_take_of_lt (get_lt ho)] at hv
    exact ((hW.holds _ _ _ ho1 hv).le hle).1
  · intro i j o o' v v' b ho ho' hl1 hl2 hv hv' hb hb'
    obtain ⟨p, hp, hle⟩ := subO_get h2 ho
    obtain ⟨p', hp', hle'⟩ := subO_get h2 ho'
    rw [List.getElem?_take_of_lt (get_lt ho)] at hv
    rw [List.getElem?_take_of_lt (get_lt ho')] at hv'
    exact hW.inj _ _ _ _ _ _ _ hp hp' (((hW.holds _ _ _ hp hv).le hle).2 hl1) (((hW.holds _ _ _ hp' hv').le hle').2 hl2) hv hv' hb hb'
  · obtain ⟨d, hd, hent, hsc⟩ := subT_get h1 ht
    exact Rep.take _ _ hsc (hent _ _ _ (hR.tmps _ _ hd))

theorem StLe.of {tm tm' : List (Nat × D)} {ow ow' : List Own} (h1 : subT ow'.length tm tm') (h2 : subO ow'.length ow ow') : StLe 0 ⟨tm, ow, []⟩ ⟨tm', ow', []⟩ := StLe.ofm h1 h2 (Nat.zero_le _) (fun i hi => by simp at hi)

theorem Ent.refl (d : D) : Ent d d := fun _ _ _ h => h
theorem Ent.of_eq {d d' : D} (h : d = d') : Ent d d' := h ▸ Ent.refl d
theorem EntL.refl (l : List D) : EntL l l := fun _ _ _ h => h
theorem EntL.cons {d d' : D} {l l' : List D} (h : Ent d d') (hl : EntL l l') : EntL (d :: l) (d' :: l') := by
  intro M E us hu
  simp only [RepL] at hu ⊢
  obtain ⟨u, r, rfl, h1, h2⟩ := hu
  exact ⟨u, r, rfl, h _ _ _ h1, hl _ _ _ h2⟩
theorem Ent.ag {l l' : List D} (hl : EntL l l') : Ent (.ag l) (.ag l') := by
  intro M E u hu
  simp only [Rep] at hu ⊢
  obtain ⟨us, rfl, h⟩ := hu
  exact ⟨us, rfl, hl _ _ _ h⟩
theorem Ent.v {x y : Value} (h : x = y) : Ent (.v x) (.v y) := h ▸ Ent.refl _
theorem Ent.int {k : IntKind} {x y : Int} (h : x = y) : Ent (.v (.int k x)) (.v (.int k y)) := h ▸ Ent.refl _
theorem Ent.sl {sz n n' : Nat} {f f' : Nat → Nat → D} (hn : n = n') (h : ∀ i, i < n → ∀ j, j < sz → Ent (f i j) (f' i j)) : Ent (.sl sz n f) (.sl sz n' f') := by
  subst hn
  intro M E u hu
  simp only [Rep] at hu ⊢
  obtain ⟨a, cap, rfl, h1, h2⟩ := hu
  refine ⟨a, cap, rfl, h1, fun h0 => ?_⟩
  obtain ⟨ad, rfl, h3⟩ := h2 h0
  refine ⟨ad, rfl, fun i hi j hj => ?_⟩
  obtain ⟨x, x1, x2, x3⟩ := h3 i hi j hj
  exact ⟨x, x1, x2, h i hi j hj _ _ _ x3⟩
theorem Ent.nil {sz : Nat} {f : Nat → Nat → D} : Ent (.v (.slice none 0 0)) (.sl sz 0 f) := by
  intro M E u hu
  simp only [Rep] at hu ⊢
  subst hu
  exact ⟨none, 0, rfl, Nat.le_refl _, fun h => by omega⟩
theorem EntR.of {d d' : D} (hp : pd d' = true) (h : Ent d d') : EntR d d' := fun _ _ _ hu => Rep.pd _ _ hp (h _ _ _ hu)
theorem EntR.v {x y : Value} (h : x = y) : EntR (.v x) (.v y) := EntR.of rfl (Ent.v h)
theorem EntR.bool {x y : Bool} (h : x = y) : EntR (.v (.bool x)) (.v (.bool y)) := h ▸ EntR.v rfl
theorem EntR.int {k : IntKind} {x y : Int} (h : x = y) : EntR (.v (.int k x)) (.v (.int k y)) := h ▸ EntR.v rfl
theorem EntR.str {x y : ByteArray} (h : x = y) : EntR (.v (.string x)) (.v (.string y)) := h ▸ EntR.v rfl
end Go.Sx
