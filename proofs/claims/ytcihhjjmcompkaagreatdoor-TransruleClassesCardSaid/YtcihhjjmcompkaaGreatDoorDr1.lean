import Derived.Test.YtcihhjjmcompkaaGreatDoorDr0
import Derived.Test.YtcihhjjmcompkaaGreatDoorDvb
set_option linter.unusedVariables false
set_option linter.unusedSimpArgs false
namespace Go.Sx
open Go Go.RowKit
theorem StLe.frzT {m r t e sz n:Nat}{f:Nat→Nat→D}{tm:List (Nat × D)}{ow:List Own}{df:List DE}(h:lk tm t=some (.row r)) (hr:ow[r]?=some (.row e sz n f)):StLe m ⟨tm,ow,df⟩ ⟨setT tm t (.sl sz n f),setOwn ow r (.frozen sz n f),df⟩:=by
 refine ⟨rfl,?_⟩
 intro B w0 M0 dv N M E w a hW hR
 obtain ⟨v,hv⟩:=get_some (l:=E) (n:=r) (by rw[hW.len];exact get_lt hr)
 obtain ⟨M',hle,hW1,hrep⟩:=hW.freeze hr rfl hv
 refine ⟨M',E,hle,fun i v _ hv=>hv,fun i _ b hb=>hb,hW1,⟨hR.size,hR.defers,fun s d hs=>?_,fun _ _ _ _ hh=>by simp[lkG] at hh⟩⟩
 rw[lk_setT] at hs
 split at hs
 ·rename_i hst
  simp only[Option.some.injEq] at hs
  subst hs hst
  have h1:=hR.tmps _ _ h
  simp only[Rep] at h1
  obtain rfl:=Option.some.inj (hv.symm.trans h1)
  exact Rep.mono (Mem.le_refl _) (EnvLe.nil _) _ _ hrep
 ·exact Rep.mono hle (EnvLe.refl _) _ _ (hR.tmps _ _ hs)
end Go.Sx
namespace Go.Proofs
open Go Go.Sx
variable {mx:Int}{pb:Bool}
def cutQ (S:List (List Rg)) (k:Nat):List Int:=(S.take k).foldl cutsL [0]
theorem cutQ_succ {S:List (List Rg)}{k:Nat}(h:k<S.length):cutQ S (k+1)=cutsL (cutQ S k) (S.getD k default):=by
 unfold cutQ
 rw[take_at h,List.foldl_append,List.foldl_cons,List.foldl_nil]
theorem cutQ_len {S:List (List Rg)}(hm:∀ X∈S,X.length≤12):∀ k,k≤S.length→(cutQ S k).length≤1+25*k
 | 0,_=>Nat.le_refl _
 | k+1,hk=>by
  rw[cutQ_succ hk]
  have h1:=cutQ_len hm k (by omega)
  have h2:(cutsL (cutQ S k) (S.getD k default)).length≤_:=cutsL_len
  have h3:=hm _ (getD_mem' (show k<S.length by omega))
  omega
theorem cutQ_asc {S:List (List Rg)}:∀ k,k≤S.length→(cutQ S k).Pairwise (· < ·)
 | 0,_=>by simp[cutQ]
 | k+1,hk=>by
  rw[cutQ_succ hk]
  exact cutsL_asc (cutQ_asc k (by omega))
theorem cutsL_mem {l:List Int}{rs:List Rg}{x:Int}:x∈cutsL l rs↔x=0∨x∈l∨∃ r∈rs,(0≤r.1∧r.1≤1114111∧x=r.1)∨(0≤r.2∧r.2<1114111∧x=r.2+1):=by
 unfold cutsL
 rw[mem_placeL]
 have key:∀ k,k≤rs.length→(x∈cutsK l rs k↔x∈l∨∃ r∈rs.take k,(0≤r.1∧r.1≤1114111∧x=r.1)∨(0≤r.2∧r.2<1114111∧x=r.2+1)):=by
  intro k
  induction k with
  | zero=>intro _;simp[cutsK]
  | succ k ih =>
   intro hk
   rw[cutsK,mem_stepL,ih (by omega),take_at (show k<rs.length by omega)]
   simp only[List.mem_append,List.mem_cons,List.not_mem_nil,or_false]
   constructor
   ·rintro (h|h|h|⟨r,hr,h⟩)
    ·exact .inr ⟨_,.inr rfl,.inr h⟩
    ·exact .inr ⟨_,.inr rfl,.inl h⟩
    ·exact .inl h
    ·exact .inr ⟨r,.inl hr,h⟩
   ·rintro (h|⟨r,hr|rfl,h⟩)
    ·exact .inr (.inr (.inl h))
    ·exact .inr (.inr (.inr ⟨r,hr,h⟩))
    ·rcases h with h|h
     ·exact .inr (.inl h)
     ·exact .inl h
 rw[key rs.length (Nat.le_refl _),List.take_length]
theorem cutQ_mem {S:List (List Rg)}(hS:∀ X∈S,okS X) {x:Int}:∀ k,k≤S.length→(x∈cutQ S k↔x≤1114111∧(x=0∨∃ X∈S.take k,∃ r∈X,x=r.1∨x=r.2+1))
 | 0,_=>by
  simp[cutQ]
  omega
 | k+1,hk=>by
  have hX:=okS_canon (hS _ (getD_mem' (show k<S.length by omega)))
  rw[cutQ_succ hk,cutsL_mem,cutQ_mem hS k (by omega),take_at (show k<S.length by omega)]
  simp only[List.mem_append,List.mem_cons,List.not_mem_nil,or_false]
  constructor
  ·rintro (h|⟨h1,h⟩|⟨r,hr,h⟩)
   ·exact ⟨by omega,.inl h⟩
   ·refine ⟨h1,h.imp id ?_⟩
    rintro ⟨X,hX,h⟩
    exact ⟨X,.inl hX,h⟩
   ·have:=hX.ok r hr
    rcases h with h|h
    ·exact ⟨by omega,.inr ⟨_,.inr rfl,r,hr,.inl h.2.2⟩⟩
    ·exact ⟨by omega,.inr ⟨_,.inr rfl,r,hr,.inr h.2.2⟩⟩
  ·rintro ⟨h1,h|⟨X,hX2|rfl,r,hr,h⟩⟩
   ·exact .inl h
   ·exact .inr (.inl ⟨h1,.inr ⟨X,hX2,r,hr,h⟩⟩)
   ·have:=hX.ok r hr
    rcases h with h|h
    ·exact .inr (.inr ⟨r,hr,.inl ⟨by omega,by omega,h⟩⟩)
    ·exact .inr (.inr ⟨r,hr,.inr ⟨by omega,by omega,h⟩⟩)
theorem asc_eq:∀ {l m:List Int},l.Pairwise (· < ·)→m.Pairwise (· < ·)→(∀ x,x∈l↔x∈m)→l=m
 | [],[],_,_,_=>rfl
 | [],y::m,_,_,h=>absurd ((h y).2 (List.mem_cons_self ..)) (by simp)
 | x::l,[],_,_,h=>absurd ((h x).1 (List.mem_cons_self ..)) (by simp)
 | x::l,y::m,hl,hm,h=>by
  have hl:=List.pairwise_cons.1 hl
  have hm:=List.pairwise_cons.1 hm
  have e:x=y:=by
   rcases List.mem_cons.1 ((h x).1 (List.mem_cons_self ..)) with h1|h1
   ·exact h1
   ·rcases List.mem_cons.1 ((h y).2 (List.mem_cons_self ..)) with h2|h2
    ·exact h2.symm
    ·have:=hl.1 y h2
     have:=hm.1 x h1
     omega
  subst e
  rw[asc_eq hl.2 hm.2 fun z=>?_]
  constructor
  ·intro hz
   rcases List.mem_cons.1 ((h z).1 (List.mem_cons_of_mem _ hz)) with rfl|h1
   ·have:=hl.1 _ hz;omega
   ·exact h1
  ·intro hz
   rcases List.mem_cons.1 ((h z).2 (List.mem_cons_of_mem _ hz)) with rfl|h1
   ·have:=hm.1 _ hz;omega
   ·exact h1
theorem cutQ_beg {S:List (List Rg)}(hS:∀ X∈S,okS X):cutQ S S.length=begF S:=by
 refine asc_eq (cutQ_asc _ (Nat.le_refl _)) (begF_spec hS).1 fun x=>?_
 rw[cutQ_mem hS _ (Nat.le_refl _),(begF_spec hS).2,List.take_length]
theorem comb_one (X:List Rg) (r:Rg):combL X [r] 1=canon (X++[r]):=by
 have h:=comb_spec X [r] 1
 refine canon_of h.1 fun c=>?_
 rw[h.2,inR_append]
 have e:keepsB 1 (hasB X c) (hasB [r] c)=(hasB X c||hasB [r] c):=rfl
 rw[e,Bool.or_eq_true,hasB_iff,hasB_iff]
 constructor
 ·rintro ⟨hc,h|h⟩
  ·exact ⟨hc,.inl h.2⟩
  ·exact ⟨hc,.inr h.2⟩
 ·rintro ⟨hc,h|h⟩
  ·exact ⟨hc,.inl ⟨hc,h⟩⟩
  ·exact ⟨hc,.inr ⟨hc,h⟩⟩
theorem setG_eq {α:Type} [Inhabited α] {l:List α}{i:Nat}{x:α}(h:i<l.length):(l.set i x).getD i default=x:=by simp[List.getD_eq_getElem?_getD,h]
theorem setG_ne {α:Type} [Inhabited α] {l:List α}{i j:Nat}{x:α}(h:j≠i):(l.set i x).getD j default=l.getD j default:=by
 simp only[List.getD_eq_getElem?_getD]
 rw[List.getElem?_set_ne (fun e=>h e.symm)]
def fndK (S:List (List Rg)) (x:Int):List (List Rg)→Nat
 | []=>0
 | Y::K=>if samB S (hdR Y) x=true then 0 else fndK S x K+1
theorem fnd_le (S:List (List Rg)) (x:Int):∀ K,fndK S x K≤K.length
 | []=>Nat.le_refl _
 | Y::K=>by
  have:=fnd_le S x K
  unfold fndK
  split
  ·exact Nat.zero_le _
  ·simp only[List.length_cons];omega
theorem fnd_eq {S:List (List Rg)}{x:Int}:∀ {K:List (List Rg)}{j:Nat},j≤K.length→(∀ i,i<j→¬samB S (hdR (K.getD i default)) x=true)→(j=K.length∨samB S (hdR (K.getD j default)) x=true)→fndK S x K=j
 | [],j,hj,_,_=>by
  have:j=0:=Nat.le_zero.1 hj
  rw[this];rfl
 | Y::K,0,_,_,h=>by
  unfold fndK
  rcases h with h|h
  ·simp at h
  ·exact if_pos h
 | Y::K,j+1,hj,h1,h2=>by
  unfold fndK
  have h0:¬samB S (hdR Y) x=true:=h1 0 (Nat.zero_lt_succ _)
  rw[if_neg h0,fnd_eq (K:=K) (j:=j) (by simp only[List.length_cons] at hj;omega) (fun i hi=>h1 (i+1) (by omega)) (h2.imp (fun h=>by simp only[List.length_cons] at h;omega) id)]
def stpK (S:List (List Rg)) (C:List Int) (K:List (List Rg)) (i:Nat):List (List Rg):=
 if fndK S (C.getD i default) K=K.length then K++[canon [ivI C i]] else K.set (fndK S (C.getD i default) K) (canon (K.getD (fndK S (C.getD i default) K) default++[ivI C i]))
def refK (S:List (List Rg)) (C:List Int):Nat→List (List Rg)
 | 0=>[]
 | i+1=>stpK S C (refK S C i) i
theorem refK_len (S:List (List Rg)) (C:List Int):∀ i,(refK S C i).length≤i∧∀ j,j<(refK S C i).length→((refK S C i).getD j default).length≤i
 | 0=>⟨Nat.le_refl _,fun j hj=>absurd hj (Nat.not_lt_zero _)⟩
 | i+1=>by
  obtain ⟨h1,h2⟩:=refK_len S C i
  show (stpK S C (refK S C i) i).length≤i+1∧∀ j,j<(stpK S C (refK S C i) i).length→((stpK S C (refK S C i) i).getD j default).length≤i+1
  unfold stpK
  split
  ·refine ⟨by rw[List.length_append,List.length_singleton];omega,fun j hj=>?_⟩
   rw[List.length_append,List.length_singleton] at hj
   rw[getD_snoc]
   split
   ·have:=h2 j (by assumption);omega
   ·rw[if_pos (by omega)]
    exact Nat.le_trans (canon_len _) (by simp)
  ·refine ⟨by rw[List.length_set];omega,fun j hj=>?_⟩
   rw[List.length_set] at hj
   by_cases e:j=fndK S (C.getD i default) (refK S C i)
   ·have e2:((refK S C i).set (fndK S (C.getD i default) (refK S C i)) (canon ((refK S C i).getD (fndK S (C.getD i default) (refK S C i)) default++[ivI C i]))).getD j default=canon ((refK S C i).getD j default++[ivI C i]):=by
     rw[← e]
     exact setG_eq hj
    rw[e2]
    refine Nat.le_trans (canon_len _) ?_
    rw[List.length_append,List.length_singleton]
    have:=h2 j hj
    omega
   ·have e2:((refK S C i).set (fndK S (C.getD i default) (refK S C i)) (canon ((refK S C i).getD (fndK S (C.getD i default) (refK S C i)) default++[ivI C i]))).getD j default=(refK S C i).getD j default:=by
     exact setG_ne e
    rw[e2]
    have:=h2 j hj
    omega
end Go.Proofs
namespace Go.Proofs
open Go Go.Sx
variable {mx:Int}{pb:Bool}
theorem okS_app {X:List Rg}{r:Rg}(h:0≤r.1∧r.1≤r.2∧r.2≤1114111):okS (canon (X++[r])):=by
 refine ⟨(canon_of (canon_canon _) fun y=>⟨fun hy=>⟨((canon_mem _).1 hy).1,hy⟩,fun hy=>hy.2⟩).symm,fun h0=>?_⟩
 have hin:inR (canon (X++[r])) r.1:=(canon_mem _).2 ⟨by omega,r,by simp,by omega,by omega⟩
 obtain ⟨q,hq,_⟩:=hin
 rw[List.eq_nil_of_length_eq_zero h0] at hq
 simp at hq
theorem ivI_ok {C:List Int}(hC:C.Pairwise (· < ·)) (hb:∀ x∈C,0≤x∧x≤1114111) {i:Nat}(hi:i<C.length):0≤(ivI C i).1∧(ivI C i).1≤(ivI C i).2∧(ivI C i).2≤1114111:=by
 have h1:=hb _ (getD_mem' hi)
 unfold ivI
 dsimp only
 split
 ·rename_i h
  have h2:=hb _ (getD_mem' h)
  have:=asc_get hC (show i<i+1 by omega) h
  omega
 ·omega
theorem stpK_mem {S:List (List Rg)}{C:List Int}{K:List (List Rg)}{i:Nat}{X:List Rg}(h:X∈stpK S C K i):X∈K∨∃ Y,X=canon (Y++[ivI C i]):=by
 unfold stpK at h
 split at h
 ·rcases List.mem_append.1 h with h|h
  ·exact .inl h
  ·rw[List.mem_singleton] at h
   exact .inr ⟨[],h⟩
 ·rcases List.mem_or_eq_of_mem_set h with h|h
  ·exact .inl h
  ·exact .inr ⟨_,h⟩
theorem refK_ok {S:List (List Rg)}{C:List Int}(hC:C.Pairwise (· < ·)) (hb:∀ x∈C,0≤x∧x≤1114111):∀ i,i≤C.length→∀ X∈refK S C i,okS X
 | 0,_,X,hX=>by simp[refK] at hX
 | i+1,hi,X,hX=>by
  rcases stpK_mem hX with h|⟨Y,rfl⟩
  ·exact refK_ok hC hb i (by omega) X h
  ·exact okS_app (ivI_ok hC hb (by omega))
theorem cutQ_bd {S:List (List Rg)}(hS:∀ X∈S,okS X):∀ x∈cutQ S S.length,0≤x∧x≤1114111:=fun x hx=>by
 rw[cutQ_beg hS] at hx
 obtain ⟨n,hn,rfl⟩:=List.getElem_of_mem hx
 have:=begF_bd hS hn
 simpa[List.getD_eq_getElem?_getD,hn] using this
end Go.Proofs
