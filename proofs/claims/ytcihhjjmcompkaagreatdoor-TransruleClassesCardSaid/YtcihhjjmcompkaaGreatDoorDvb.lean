import Derived.Test.YtcihhjjmcompkaaGreatDoorDva
import Derived.Test.YtcihhjjmcompkaaGreatDoorY5
set_option linter.unusedVariables false
set_option linter.unusedSimpArgs false
namespace Go.Proofs
open Go Go.Sx
variable {mx:Int}{pb:Bool}
theorem sm_bgL {l:List Tl}(h:smL l):bgL l:=by
 have key:∀ {L:List (List Rg)},smS L→bgS L:=fun {L} h=>⟨by have:=h.1;omega,fun i hi=>by have:=h.2 i hi;omega⟩
 refine ⟨by have:=h.1;omega,fun i hi=>?_⟩
 obtain ⟨h1,h2,h3,h4⟩:=h.2 i hi
 exact ⟨key h1,key h2,key h3,by omega⟩
theorem sm_nil:smL []:=⟨Nat.zero_le _,fun i hi=>absurd hi (Nat.not_lt_zero _)⟩
open Classical in
noncomputable def setsOf (l:List Tl):List (List Rg):=if chkB l=0 then allS l else []
theorem sets_len {l:List Tl}{S:List (List Rg)}(hS:S=setsOf l) (h:smL l):S.length≤180:=by
 subst hS
 unfold setsOf
 split
 ·have:=allK_len h l.length (Nat.le_refl _)
  rw[allK_all] at this
  have:=h.1
  omega
 ·exact Nat.zero_le _
theorem chkE_mem:∀ {l:List Tl},chkE l=0→∀ x∈l,oneE x=0
 | [],_,x,hx=>by simp at hx
 | y::l,h,x,hx=>by
  unfold chkE at h
  split at h
  ·rename_i h0
   rcases List.mem_cons.1 hx with rfl|hx
   ·exact h0
   ·exact chkE_mem h x hx
  ·rename_i h0;exact absurd h h0
theorem oneE_sets {x:Tl}(h:oneE x=0):setT3 x:=by
 unfold oneE at h
 split at h
 ·split at h
  ·assumption
  ·simp at h
 ·simp at h
theorem sm_mem {L:List (List Rg)}(h:smS L) {X:List Rg}(hX:X∈L):X.length≤12:=by
 obtain ⟨n,hn,rfl⟩:=List.getElem_of_mem hX
 have:=h.2 n hn
 simpa[List.getD_eq_getElem?_getD,hn] using this
theorem sets_ok {l:List Tl}{S:List (List Rg)}(hS:S=setsOf l) (h:smL l):∀ X∈S,okS X∧X.length≤12:=by
 subst hS
 unfold setsOf
 split
 ·rename_i hc
  have hc2:chkE l=0:=by
   unfold chkB at hc
   split at hc
   ·simp at hc
   ·exact hc
  intro X hX
  obtain ⟨x,hx,hX⟩:=List.mem_flatMap.1 hX
  obtain ⟨g1,g2,g3⟩:=oneE_sets (chkE_mem hc2 x hx)
  obtain ⟨n,hn,rfl⟩:=List.getElem_of_mem hx
  have hs:=h.2 n hn
  rw[show l.getD n default=l[n] by simp[List.getD_eq_getElem?_getD,hn]] at hs
  obtain ⟨s1,s2,s3,_⟩:=hs
  rcases List.mem_append.1 hX with hX|hX
  ·exact ⟨rgtS_mem.1 g1 X hX,sm_mem s1 hX⟩
  ·rcases List.mem_append.1 hX with hX|hX
   ·exact ⟨rgtS_mem.1 g2 X hX,sm_mem s2 hX⟩
   ·exact ⟨rgtS_mem.1 g3 X hX,sm_mem s3 hX⟩
 ·intro X hX
  simp at hX
end Go.Proofs
namespace Go.Proofs
open Go Go.Sx
variable {mx:Int}{pb:Bool}
theorem okS_canon {X:List Rg}(h:okS X):Canon X:=by have:=canon_canon X;rw[h.1] at this;exact this
theorem begK_mem {acc:List Int}{x:Int}:∀ {X:List Rg},x∈X.foldl begR acc↔x∈acc∨∃ r∈X,x=r.1∨x=r.2+1
 | []=>by simp
 | r::X=>by
  rw[List.foldl_cons,begK_mem (X:=X)]
  unfold begR
  simp only[List.mem_append,List.mem_cons,List.not_mem_nil,or_false,exists_eq_or_imp]
  constructor
  ·rintro ((h|h|h)|h)
   ·exact .inl h
   ·exact .inr (.inl (.inl h))
   ·exact .inr (.inl (.inr h))
   ·exact .inr (.inr h)
  ·rintro (h|(h|h)|h)
   ·exact .inl (.inl h)
   ·exact .inl (.inr (.inl h))
   ·exact .inl (.inr (.inr h))
   ·exact .inr h
theorem begS_mem {acc:List Int}{x:Int}{X:List Rg}:x∈begS acc X↔x∈acc∨∃ r∈X,x=r.1∨x=r.2+1:=by
 unfold begS begK
 rw[List.take_length]
 exact begK_mem
theorem begL_mem {x:Int}:∀ {S:List (List Rg)}{acc:List Int},x∈S.foldl begS acc↔x∈acc∨∃ X∈S,∃ r∈X,x=r.1∨x=r.2+1
 | [],acc=>by simp
 | X::S,acc=>by
  rw[List.foldl_cons,begL_mem (S:=S),begS_mem]
  simp only[List.mem_cons,exists_eq_or_imp]
  constructor
  ·rintro ((h|h)|h)
   ·exact .inl h
   ·exact .inr (.inl h)
   ·exact .inr (.inr h)
  ·rintro (h|h|h)
   ·exact .inl (.inl h)
   ·exact .inl (.inr h)
   ·exact .inr h
theorem begA_mem {S:List (List Rg)}{x:Int}:x∈begA S S.length↔x=0∨∃ X∈S,∃ r∈X,x=r.1∨x=r.2+1:=by
 unfold begA
 rw[List.take_length,begL_mem]
 simp
theorem sortL_mem {l:List Int}{x:Int}:x∈sortL l↔x∈l:=(List.mergeSort_perm l _).mem_iff
theorem sortL_asc (l:List Int):(sortL l).Pairwise (· ≤ ·):=by
 have:=List.pairwise_mergeSort (le:=fun x y:Int=>decide (x≤y)) (fun a b c h1 h2=>by simp at *;omega) (fun a b=>by simp;omega) l
 exact this.imp fun h=>by simpa using h
theorem keeps_iff {d:Array Int}{j:Nat}(hj:j<d.size):Lib.keeps d j=true↔(j=0∨d[j]! ≠ d[j - 1]!):=by
 unfold Lib.keeps
 simp
theorem comp_mem {l:List Int}{x:Int}:x∈Lib.compact l↔x∈l:=by
 unfold Lib.compact Lib.compactUpTo
 simp only[List.mem_map,List.mem_filter,List.mem_range]
 constructor
 ·rintro ⟨j,⟨hj,_⟩,rfl⟩
  rw[getD_bang hj]
  exact getD_mem' hj
 ·intro hx
  obtain ⟨n,hn,hx⟩:=List.getElem_of_mem hx
  -- the first place where x stands in the run
  have:∀ m,m<l.length→l.toArray[m]! = x→∃ j,(j<l.length∧Lib.keeps l.toArray j=true)∧l.toArray[j]! = x:=by
   intro m
   induction m with
   | zero=>intro h0 hm;exact ⟨0,⟨h0,(keeps_iff (by simpa using h0)).2 (.inl rfl)⟩,hm⟩
   | succ m ih =>
    intro hm hmx
    by_cases he:l.toArray[m]! = x
    ·exact ih (by omega) he
    ·exact ⟨m+1,⟨hm,(keeps_iff (by simpa using hm)).2 (.inr (by rw[hmx];exact fun e=>he e.symm))⟩,hmx⟩
  exact this n hn (by rw[getD_bang hn];simpa[List.getD_eq_getElem?_getD,hn] using hx)
theorem comp_asc {l:List Int}(h:l.Pairwise (· ≤ ·)):(Lib.compact l).Pairwise (· < ·):=by
 unfold Lib.compact Lib.compactUpTo
 rw[List.pairwise_map]
 have h1:(List.range l.length).Pairwise (· < ·):=List.pairwise_lt_range
 have hle:∀ a b,a≤b→b<l.length→l.toArray[a]! ≤ l.toArray[b]! := fun a b hab hb=>by
  rw[getD_bang (show a<l.length by omega),getD_bang hb]
  rcases Nat.lt_or_ge a b with h2|h2
  ·have:=List.pairwise_iff_getElem.1 h a b (by omega) hb h2
   simpa[List.getD_eq_getElem?_getD,hb,show a<l.length by omega] using this
  ·have:a=b:=by omega
   subst this
   exact Int.le_refl _
 refine List.Pairwise.imp_of_mem ?_ (h1.filter _)
 intro a b ha hb hab
 obtain ⟨_,_⟩:=List.mem_filter.1 ha
 obtain ⟨hbr,hbk⟩:=List.mem_filter.1 hb
 have hbl:b<l.length:=by simpa using hbr
 rcases (keeps_iff (by simpa using hbl)).1 hbk with h2|h2
 ·omega
 ·have h3:=hle a (b - 1) (by omega) (by omega)
  have h4:=hle (b - 1) b (by omega) hbl
  omega
theorem cutB_asc (S:List (List Rg)):(cutB S).Pairwise (· < ·):=comp_asc (sortL_asc _)
theorem cutB_mem {S:List (List Rg)}{x:Int}:x∈cutB S↔x=0∨∃ X∈S,∃ r∈X,x=r.1∨x=r.2+1:=by
 unfold cutB
 rw[comp_mem,sortL_mem,begA_mem]
theorem asc_get {l:List Int}(h:l.Pairwise (· < ·)) {i j:Nat}(hij:i<j) (hj:j<l.length):l.getD i default<l.getD j default:=by
 have:=List.pairwise_iff_getElem.1 h i j (by omega) hj hij
 simpa[List.getD_eq_getElem?_getD,hj,show i<l.length by omega] using this
theorem cutB_pos (S:List (List Rg)):0<(cutB S).length:=List.length_pos_of_mem (cutB_mem.2 (.inl rfl))
section
variable {S:List (List Rg)}(hS:∀ X∈S,okS X)
include hS
theorem cutB_bd {x:Int}(hx:x∈cutB S):0≤x∧x≤1114112:=by
 rcases cutB_mem.1 hx with rfl|⟨X,hX,r,hr,h⟩
 ·omega
 ·have:=(okS_canon (hS X hX)).ok r hr
  omega
theorem begF_spec:(begF S).Pairwise (· < ·)∧∀ x,x∈begF S↔x≤1114111∧(x=0∨∃ X∈S,∃ r∈X,x=r.1∨x=r.2+1):=by
 have ha:=cutB_asc S
 have hp:=cutB_pos S
 unfold begF
 split
 ·rename_i hg
  refine ⟨ha.sublist (List.take_sublist _ _),fun x=>?_⟩
  have hlast:=cutB_bd hS (getD_mem' (show (cutB S).length - 1<(cutB S).length by omega))
  constructor
  ·intro hx
   have hm:=List.mem_of_mem_take hx
   refine ⟨?_,cutB_mem.1 hm⟩
   obtain ⟨n,hn,rfl⟩:=List.getElem_of_mem hx
   rw[List.length_take] at hn
   have:=asc_get ha (show n<(cutB S).length - 1 by omega) (by omega)
   rw[List.getElem_take]
   have e:(cutB S).getD n default=(cutB S)[n]:=by simp[List.getD_eq_getElem?_getD,show n<(cutB S).length by omega]
   rw[e] at this
   omega
  ·rintro ⟨hx,hm⟩
   obtain ⟨n,hn,he⟩:=List.getElem_of_mem (cutB_mem.2 hm)
   have e:(cutB S).getD n default=x:=by simp[List.getD_eq_getElem?_getD,hn,he]
   have hnl:n<(cutB S).length - 1:=by
    rcases Nat.lt_or_ge n ((cutB S).length - 1) with h|h
    ·exact h
    ·have:n=(cutB S).length - 1:=by omega
     rw[← this,e] at hg
     omega
   rw[← he]
   exact List.mem_take_iff_getElem.2 ⟨n,by omega,rfl⟩
 ·rename_i hg
  refine ⟨ha,fun x=>⟨fun hx=>⟨?_,cutB_mem.1 hx⟩,fun hx=>cutB_mem.2 hx.2⟩⟩
  obtain ⟨n,hn,rfl⟩:=List.getElem_of_mem hx
  have e:(cutB S).getD n default=(cutB S)[n]:=by simp[List.getD_eq_getElem?_getD,hn]
  rcases Nat.lt_or_ge n ((cutB S).length - 1) with h|h
  ·have:=asc_get ha h (by omega)
   rw[e] at this
   omega
  ·have:n=(cutB S).length - 1:=by omega
   rw[← this,e] at hg
   omega
theorem begF_pos:0<(begF S).length:=List.length_pos_of_mem (((begF_spec hS).2 0).2 ⟨by decide,.inl rfl⟩)
theorem begF_bd {i:Nat}(h:i<(begF S).length):0≤(begF S).getD i default∧(begF S).getD i default≤1114111:=by
 obtain ⟨h1,h2⟩:=((begF_spec hS).2 _).1 (getD_mem' h)
 have:=cutB_bd hS (cutB_mem.2 h2)
 omega
theorem begF_0:(begF S).getD 0 default=0:=by
 have hp:=begF_pos hS
 obtain ⟨n,hn,he⟩:=List.getElem_of_mem (((begF_spec hS).2 0).2 ⟨by decide,.inl rfl⟩)
 have e:(begF S).getD n default=0:=by simp[List.getD_eq_getElem?_getD,hn,he]
 have h0:=begF_bd hS hp
 rcases Nat.eq_zero_or_pos n with h|h
 ·rw[← h];rw[h] at e;rw[h];exact e
 ·have:=asc_get (begF_spec hS).1 h hn
  omega
theorem iv_at {c:Int}(hc:0≤c∧c≤1114111):∃ i,i<(begF S).length∧(begF S).getD i default≤c∧∀ j,i<j→j<(begF S).length→c<(begF S).getD j default:=by
 have hp:=begF_pos hS
 have h0:=begF_0 hS
 have key:∀ m,m≤(begF S).length→0<m→∃ i,i<m∧(begF S).getD i default≤c∧∀ j,i<j→j<m→c<(begF S).getD j default:=by
  intro m
  induction m with
  | zero=>intro _ h;omega
  | succ m ih =>
   intro hm _
   by_cases hlast:(begF S).getD m default≤c
   ·exact ⟨m,by omega,hlast,fun j h1 h2=>by omega⟩
   ·rcases Nat.eq_zero_or_pos m with h|h
    ·subst h;omega
    ·obtain ⟨i,h1,h2,h3⟩:=ih (by omega) h
     refine ⟨i,by omega,h2,fun j h4 h5=>?_⟩
     rcases Nat.lt_or_ge j m with h6|h6
     ·exact h3 j h4 h6
     ·have:j=m:=by omega
      subst this;omega
 exact key _ (Nat.le_refl _) hp
theorem iv_in {i:Nat}{c:Int}(hc:c≤1114111) (hi:i<(begF S).length):((ivI (begF S) i).1≤c∧c≤(ivI (begF S) i).2)↔((begF S).getD i default≤c∧∀ j,i<j→j<(begF S).length→c<(begF S).getD j default):=by
 unfold ivI
 dsimp only
 constructor
 ·rintro ⟨h1,h2⟩
  refine ⟨h1,fun j h3 h4=>?_⟩
  rw[if_pos (by omega)] at h2
  rcases Nat.lt_or_ge (i+1) j with h5|h5
  ·have:=asc_get (begF_spec hS).1 h5 h4
   omega
  ·have:j=i+1:=by omega
   subst this;omega
 ·rintro ⟨h1,h2⟩
  refine ⟨h1,?_⟩
  split
  ·rename_i h3
   have:=h2 (i+1) (by omega) h3
   omega
  ·exact hc
theorem iv_same {X:List Rg}(hX:X∈S) {i:Nat}{c:Int}(hc:0≤c∧c≤1114111) (hi:i<(begF S).length) (h1:(begF S).getD i default≤c) (h2:∀ j,i<j→j<(begF S).length→c<(begF S).getD j default):hasB X c=hasB X ((begF S).getD i default):=by
 have hC:=okS_canon (hS X hX)
 have hb:=begF_bd hS hi
 have hs:=begF_spec hS
 rw[Bool.eq_iff_iff,hasB_iff,hasB_iff]
 constructor
 ·rintro ⟨_,r,hr,h3,h4⟩
  refine ⟨hb,r,hr,?_,by omega⟩
  have hr2:=hC.ok r hr
  obtain ⟨n,hn,he⟩:=List.getElem_of_mem ((hs.2 r.1).2 ⟨by omega,.inr ⟨X,hX,r,hr,.inl rfl⟩⟩)
  have e:(begF S).getD n default=r.1:=by simp[List.getD_eq_getElem?_getD,hn,he]
  rcases Nat.lt_trichotomy n i with h5|h5|h5
  ·have:=asc_get hs.1 h5 hi;omega
  ·subst h5;omega
  ·have:=h2 n h5 hn;omega
 ·rintro ⟨_,r,hr,h3,h4⟩
  refine ⟨hc,r,hr,by omega,?_⟩
  have hr2:=hC.ok r hr
  by_cases hm:r.2=1114111
  ·omega
  ·obtain ⟨n,hn,he⟩:=List.getElem_of_mem ((hs.2 (r.2+1)).2 ⟨by omega,.inr ⟨X,hX,r,hr,.inr rfl⟩⟩)
   have e:(begF S).getD n default=r.2+1:=by simp[List.getD_eq_getElem?_getD,hn,he]
   rcases Nat.lt_trichotomy n i with h5|h5|h5
   ·have:=asc_get hs.1 h5 hi;omega
   ·subst h5;omega
   ·have:=h2 n h5 hn;omega
end
end Go.Proofs
namespace Go.Proofs
open Go Go.Sx
variable {mx:Int}{pb:Bool}
structure DInv (s0:List Int × Int) (P:Nat→Prop) (s:DvS):Prop where
 len:s.cl.length=s0.1.length
 cnt:s0.2≤s.cnt
 out:∀ i,¬P i→s.cl.getD i default=s0.1.getD i default
 ins:∀ i,P i→i<s0.1.length→s.ins (s0.1.getD i default)=some (s.cl.getD i default)
 rng:∀ c d,s.ins c=some d→s0.2≤d∧d<s.cnt
 inj:∀ c c' d,s.ins c=some d→s.ins c'=some d→c=c'
theorem set_eq {l:List Int}{i:Nat}{x:Int}(h:i<l.length):(l.set i x).getD i default=x:=by simp[List.getD_eq_getElem?_getD,h]
theorem set_ne {l:List Int}{i j:Nat}{x:Int}(h:j≠i):(l.set i x).getD j default=l.getD j default:=by
 simp only[List.getD_eq_getElem?_getD]
 rw[List.getElem?_set_ne (fun e=>h e.symm)]
theorem DInv.congr {s0:List Int × Int}{P P':Nat→Prop}{s:DvS}(h:DInv s0 P s) (hP:∀ j,P j↔P' j):DInv s0 P' s :=
 ⟨h.len,h.cnt,fun i hi=>h.out i fun hp=>hi ((hP i).1 hp),fun i hi=>h.ins i ((hP i).2 hi),h.rng,h.inj⟩
theorem DInv.zero (s0:List Int × Int):DInv s0 (fun _=>False) (dv0 s0):=
 ⟨rfl,Int.le_refl _,fun _ _=>rfl,fun _ h=>h.elim,fun _ _ h=>by simp[dv0] at h,fun _ _ _ h=>by simp[dv0] at h⟩
theorem DInv.vis {s0:List Int × Int}{P:Nat→Prop}{s:DvS}(h:DInv s0 P s) {i:Nat}(hi:i<s0.1.length) (hP:¬P i):DInv s0 (fun j=>P j∨j=i) (vis s i):=by
 have hc:=h.out i hP
 have hil:i<s.cl.length:=by rw[h.len];exact hi
 cases hx:s.ins (s.cl.getD i default) with
 | some d =>
  rw[vis_y hx]
  refine ⟨by show (s.cl.set i d).length=_;rw[List.length_set];exact h.len,h.cnt,fun j hj=>?_,fun j hj hl=>?_,h.rng,h.inj⟩
  ·show (s.cl.set i d).getD j default=_
   rw[set_ne fun e=>hj (.inr e)]
   exact h.out j fun hp=>hj (.inl hp)
  ·show s.ins _=some ((s.cl.set i d).getD j default)
   by_cases e:j=i
   ·subst e
    rw[set_eq hil,← hc,hx]
   ·rw[set_ne e]
    rcases hj with hj|hj
    ·exact h.ins j hj hl
    ·exact absurd hj e
 | none =>
  rw[vis_n hx]
  refine ⟨by show (s.cl.set i s.cnt).length=_;rw[List.length_set];exact h.len,(by have:=h.cnt;show s0.2≤s.cnt+1;omega),fun j hj=>?_,fun j hj hl=>?_,fun c d hd=>?_,fun c c' d h1 h2=>?_⟩
  ·show (s.cl.set i s.cnt).getD j default=_
   rw[set_ne fun e=>hj (.inr e)]
   exact h.out j fun hp=>hj (.inl hp)
  ·show (if s0.1.getD j default=s.cl.getD i default then some s.cnt else s.ins (s0.1.getD j default))=some ((s.cl.set i s.cnt).getD j default)
   by_cases e:j=i
   ·subst e
    rw[set_eq hil,if_pos hc.symm]
   ·rw[set_ne e]
    rcases hj with hj|hj
    ·have h1:=h.ins j hj hl
     rw[if_neg (fun e2=>by rw[e2,hx] at h1;simp at h1)]
     exact h1
    ·exact absurd hj e
  ·have hd:(if c=s.cl.getD i default then some s.cnt else s.ins c)=some d:=hd
   have:=h.cnt
   show s0.2≤d∧d<s.cnt+1
   split at hd
   ·obtain rfl:=Option.some.inj hd
    omega
   ·have:=h.rng c d hd
    omega
  ·have h1:(if c=s.cl.getD i default then some s.cnt else s.ins c)=some d:=h1
   have h2:(if c'=s.cl.getD i default then some s.cnt else s.ins c')=some d:=h2
   split at h1<;>split at h2
   ·rename_i e1 e2;rw[e1,e2]
   ·obtain rfl:=Option.some.inj h1
    have:=h.rng c' _ h2
    omega
   ·obtain rfl:=Option.some.inj h2
    have:=h.rng c _ h1
    omega
   ·exact h.inj c c' d h1 h2
theorem DInv.visF {B:List Int}(hB:B.Pairwise (· < ·)) {s0:List Int × Int}(hl:s0.1.length=B.length) {hi:Int}:∀ (f i:Nat) (P:Nat→Prop) (s:DvS),f=B.length - i→DInv s0 P s→(∀ j,i≤j→¬P j)→DInv s0 (fun j=>P j∨(i≤j∧j<B.length∧B.getD j default≤hi)) (visF B hi f i s)
 | 0,i,P,s,hf,h,_=>h.congr fun j=>⟨.inl,fun hj=>by
  rcases hj with hj|hj
  ·exact hj
  ·omega⟩
 | f+1,i,P,s,hf,h,hP=>by
  have hib:i<B.length:=by omega
  rw[Go.Proofs.visF]
  by_cases hle:B.getD i default≤hi
  ·rw[if_pos ⟨hib,hle⟩]
   refine (DInv.visF hB hl f (i+1) (fun j=>P j∨j=i) _ (by omega) (h.vis (by omega) (hP i (Nat.le_refl _))) (fun j hj hh=>?_)).congr fun j=>?_
   ·rcases hh with hh|hh
    ·exact hP j (by omega) hh
    ·omega
   ·constructor
    ·rintro ((hj|rfl)|⟨h1,h2,h3⟩)
     ·exact .inl hj
     ·exact .inr ⟨Nat.le_refl _,hib,hle⟩
     ·exact .inr ⟨by omega,h2,h3⟩
    ·rintro (hj|⟨h1,h2,h3⟩)
     ·exact .inl (.inl hj)
     ·by_cases e:j=i
      ·exact .inl (.inr e)
      ·exact .inr ⟨by omega,h2,h3⟩
  ·rw[if_neg fun hh=>hle hh.2]
   refine h.congr fun j=>⟨.inl,fun hj=>?_⟩
   rcases hj with hj|⟨h1,h2,h3⟩
   ·exact hj
   ·by_cases e:j=i
    ·subst e;exact absurd h3 hle
    ·have:=asc_get hB (show i<j by omega) h2
     omega
theorem cnt_le:∀ {B:List Int},B.Pairwise (· < ·)→∀ {x:Int}{j:Nat},j<B.length→(cntL B x≤j↔x≤B.getD j default)
 | [],_,_,j,h=>absurd h (Nat.not_lt_zero j)
 | b::B,hp,x,j,h=>by
  have hp':=List.pairwise_cons.1 hp
  have hc:cntL (b::B) x=cntL B x+if b<x then 1 else 0:=by
   unfold cntL
   rw[List.countP_cons]
   simp
  have h0:¬b<x→cntL B x=0:=fun hb=>List.countP_eq_zero.2 fun y hy=>by
   have:=hp'.1 y hy
   simp
   omega
  rw[hc]
  match j,h with
  | 0,_ =>
   show _↔x≤b
   by_cases hb:b<x
   ·rw[if_pos hb];omega
   ·rw[if_neg hb,h0 hb];omega
  | j+1,h =>
   show _↔x≤B.getD j default
   have hj:j<B.length:=Nat.lt_of_succ_lt_succ h
   by_cases hb:b<x
   ·rw[if_pos hb,← cnt_le hp'.2 hj];omega
   ·rw[if_neg hb,h0 hb]
    have:=hp'.1 _ (getD_mem' hj)
    constructor
    ·intro _;omega
    ·intro _;omega
theorem DInv.visR {B:List Int}(hB:B.Pairwise (· < ·)) {s0:List Int × Int}(hl:s0.1.length=B.length) {r:Rg}{P:Nat→Prop}{s:DvS}(h:DInv s0 P s) (hP:∀ j,P j→j<B.length∧B.getD j default<r.1):DInv s0 (fun j=>P j∨(j<B.length∧r.1≤B.getD j default∧B.getD j default≤r.2)) (visR B s r):=by
 refine (DInv.visF hB hl _ (cntL B r.1) P s rfl h (fun j hj hp=>?_)).congr fun j=>?_
 ·obtain ⟨h1,h2⟩:=hP j hp
  have:=(cnt_le hB h1).1 hj
  omega
 ·constructor
  ·rintro (hj|⟨h1,h2,h3⟩)
   ·exact .inl hj
   ·exact .inr ⟨h2,(cnt_le hB h2).1 h1,h3⟩
  ·rintro (hj|⟨h1,h2,h3⟩)
   ·exact .inl hj
   ·exact .inr ⟨(cnt_le hB h1).2 h2,h1,h3⟩
theorem DInv.visK {B:List Int}(hB:B.Pairwise (· < ·)) {s0:List Int × Int}(hl:s0.1.length=B.length) {X:List Rg}(hX:Canon X):∀ k,k≤X.length→DInv s0 (fun j=>j<B.length∧∃ r∈X.take k,r.1≤B.getD j default∧B.getD j default≤r.2) (visK B (dv0 s0) X k)
 | 0,_=>(DInv.zero s0).congr fun j=>⟨False.elim,fun ⟨_,r,hr,_⟩=>by simp at hr⟩
 | k+1,hk=>by
  rw[visK_succ hk]
  have hg:X.getD k default=X[k]:=by simp[List.getD_eq_getElem?_getD,show k<X.length by omega]
  refine ((DInv.visK hB hl hX k (by omega)).visR hB hl (r:=X.getD k default) fun j hj=>⟨hj.1,?_⟩).congr fun j=>?_
  ·obtain ⟨_,r,hr,h1,h2⟩:=hj
   obtain ⟨n,hn,rfl⟩:=List.getElem_of_mem hr
   rw[List.length_take] at hn
   have:=List.pairwise_iff_getElem.1 hX.sep n k (by omega) (by omega) (by omega)
   rw[List.getElem_take] at h2
   rw[hg]
   omega
  ·rw[List.take_succ_eq_append_getElem (show k<X.length by omega),← hg]
   simp only[List.mem_append,List.mem_cons,List.not_mem_nil,or_false]
   constructor
   ·rintro (⟨h1,r,hr,h2⟩|⟨h1,h2⟩)
    ·exact ⟨h1,r,.inl hr,h2⟩
    ·exact ⟨h1,_,.inr rfl,h2⟩
   ·rintro ⟨h1,r,hr|rfl,h2⟩
    ·exact .inl ⟨h1,r,hr,h2⟩
    ·exact .inr ⟨h1,h2⟩
structure Lab (n:Nat) (R:Nat→Nat→Prop) (s:List Int × Int):Prop where
 len:s.1.length=n
 lt:∀ i,i<n→s.1.getD i default<s.2
 iff:∀ i j,i<n→j<n→(s.1.getD i default=s.1.getD j default↔R i j)
theorem Lab.div {B:List Int}(hB:B.Pairwise (· < ·)) {R:Nat→Nat→Prop}{s0:List Int × Int}(h:Lab B.length R s0) {X:List Rg}(hX:Canon X):Lab B.length (fun i j=>R i j∧(inR X (B.getD i default)↔inR X (B.getD j default))) (divS B s0 X):=by
 have hD:=DInv.visK hB h.len hX X.length (Nat.le_refl _)
 rw[List.take_length] at hD
 obtain ⟨t,ht⟩:∃ t,t=Go.Proofs.visK B (dv0 s0) X X.length:=⟨_,rfl⟩
 rw[← ht] at hD
 have e:divS B s0 X=(t.cl,t.cnt):=by rw[ht];rfl
 rw[e]
 have hin:∀ i,i<B.length→inR X (B.getD i default)→t.ins (s0.1.getD i default)=some (t.cl.getD i default):=fun i hi hx=>hD.ins i ⟨hi,hx⟩ (by rw[h.len];exact hi)
 have hout:∀ i,¬inR X (B.getD i default)→t.cl.getD i default=s0.1.getD i default:=fun i hx=>hD.out i fun hh=>hx hh.2
 refine ⟨hD.len.trans h.len,fun i hi=>?_,fun i j hi hj=>?_⟩
 ·show t.cl.getD i default<t.cnt
  by_cases hx:inR X (B.getD i default)
  ·exact (hD.rng _ _ (hin i hi hx)).2
  ·rw[hout i hx]
   have:=h.lt i hi
   have:=hD.cnt
   omega
 ·show t.cl.getD i default=t.cl.getD j default↔_
  rw[← h.iff i j hi hj]
  by_cases hx:inR X (B.getD i default)<;>by_cases hy:inR X (B.getD j default)
  ·have h1:=hin i hi hx
   have h2:=hin j hj hy
   constructor
   ·intro he
    rw[he] at h1
    exact ⟨hD.inj _ _ _ h1 h2,⟨fun _=>hy,fun _=>hx⟩⟩
   ·rintro ⟨he,_⟩
    rw[he,h2] at h1
    exact (Option.some.inj h1).symm
  ·have h1:=hD.rng _ _ (hin i hi hx)
   have h2:=h.lt j hj
   rw[hout j hy]
   exact ⟨fun he=>by omega,fun he=>absurd (he.2.1 hx) hy⟩
  ·have h1:=hD.rng _ _ (hin j hj hy)
   have h2:=h.lt i hi
   rw[hout i hx]
   exact ⟨fun he=>by omega,fun he=>absurd (he.2.2 hy) hx⟩
  ·rw[hout i hx,hout j hy]
   exact ⟨fun he=>⟨he,⟨fun h=>absurd h hx,fun h=>absurd h hy⟩⟩,fun he=>he.1⟩
theorem Lab.congr {n:Nat}{R R':Nat→Nat→Prop}{s:List Int × Int}(h:Lab n R s) (hR:∀ i j,R i j↔R' i j):Lab n R' s:=⟨h.len,h.lt,fun i j hi hj=>(h.iff i j hi hj).trans (hR i j)⟩
theorem rep0' {n a:Nat}:(List.replicate n (0:Int)).getD a default=0:=by
 simp only[List.getD_eq_getElem?_getD,List.getElem?_replicate]
 split<;>rfl
theorem Lab.divK {B:List Int}(hB:B.Pairwise (· < ·)) {S:List (List Rg)}(hS:∀ X∈S,Canon X):∀ k,k≤S.length→Lab B.length (fun i j=>∀ X∈S.take k,(inR X (B.getD i default)↔inR X (B.getD j default))) (divK B (List.replicate B.length 0,1) S k)
 | 0,_=>⟨List.length_replicate,fun i _=>by show (List.replicate B.length (0:Int)).getD i default<1;rw[rep0'];decide,fun i j _ _=>⟨fun _ X hX=>by simp at hX,fun _=>by show (List.replicate B.length (0:Int)).getD i default=(List.replicate B.length (0:Int)).getD j default;rw[rep0',rep0']⟩⟩
 | k+1,hk=>by
  rw[divK_succ hk]
  have hg:S.getD k default=S[k]:=by simp[List.getD_eq_getElem?_getD,show k<S.length by omega]
  refine ((Lab.divK hB hS k (by omega)).div hB (X:=S.getD k default) (hS _ (getD_mem' (by omega)))).congr fun i j=>?_
  rw[List.take_succ_eq_append_getElem (show k<S.length by omega),← hg]
  simp only[List.mem_append,List.mem_cons,List.not_mem_nil,or_false]
  constructor
  ·rintro ⟨h1,h2⟩ X (hX|rfl)
   ·exact h1 X hX
   ·exact h2
  ·exact fun h=>⟨fun X hX=>h X (.inl hX),h _ (.inr rfl)⟩
theorem cls_lab {S:List (List Rg)}(hS:∀ X∈S,okS X):Lab (begF S).length (fun i j=>∀ X∈S,(inR X ((begF S).getD i default)↔inR X ((begF S).getD j default))) (Go.Proofs.divK (begF S) (List.replicate (begF S).length 0,1) S S.length):=by
 have:=Lab.divK (begF_spec hS).1 (S:=S) (fun X hX=>okS_canon (hS X hX)) S.length (Nat.le_refl _)
 rw[List.take_length] at this
 exact this
end Go.Proofs
namespace Go.Proofs
open Go Go.Sx
variable {mx:Int}{pb:Bool}
theorem colK_all {cl:List Int}{c:Int}:∀ {n:Nat},c∈colK cl n↔∃ i,i<n∧cl.getD i default=c
 | 0=>⟨fun h=>by simp[colK] at h,fun ⟨i,h,_⟩=>absurd h (Nat.not_lt_zero _)⟩
 | n+1=>by
  have ih:c∈colK cl n↔_:=colK_all (n:=n)
  have h1:(∃ i,i<n+1∧cl.getD i default=c)↔(∃ i,i<n∧cl.getD i default=c)∨cl.getD n default=c:=by
   constructor
   ·rintro ⟨i,hi,he⟩
    by_cases e:i=n
    ·subst e;exact .inr he
    ·exact .inl ⟨i,by omega,he⟩
   ·rintro (⟨i,hi,he⟩|he)
    ·exact ⟨i,by omega,he⟩
    ·exact ⟨n,by omega,he⟩
  rw[h1,← ih]
  by_cases hm:cl.getD n default∈colK cl n
  ·rw[colK_mem hm]
   exact ⟨.inl,fun h=>by
    rcases h with h|h
    ·exact h
    ·rw[← h];exact hm⟩
  ·rw[colK_new hm,List.mem_append,List.mem_singleton]
   exact ⟨fun h=>h.imp id Eq.symm,fun h=>h.imp id Eq.symm⟩
theorem ivs_mem {bs cl:List Int}{c:Int}{r:Rg}:∀ {n:Nat},r∈ivs bs cl c n↔∃ i,i<n∧cl.getD i default=c∧r=ivI bs i
 | 0=>⟨fun h=>by simp[ivs] at h,fun ⟨i,h,_⟩=>absurd h (Nat.not_lt_zero _)⟩
 | n+1=>by
  have ih:r∈ivs bs cl c n↔_:=ivs_mem (n:=n)
  have h1:(∃ i,i<n+1∧cl.getD i default=c∧r=ivI bs i)↔(∃ i,i<n∧cl.getD i default=c∧r=ivI bs i)∨(cl.getD n default=c∧r=ivI bs n):=by
   constructor
   ·rintro ⟨i,hi,he⟩
    by_cases e:i=n
    ·subst e;exact .inr he
    ·exact .inl ⟨i,by omega,he⟩
   ·rintro (⟨i,hi,he⟩|he)
    ·exact ⟨i,by omega,he⟩
    ·exact ⟨n,by omega,he⟩
  rw[h1,← ih]
  by_cases hc:cl.getD n default=c
  ·rw[ivs_y hc,List.mem_append,List.mem_singleton]
   exact ⟨fun h=>h.imp id fun h=>⟨hc,h⟩,fun h=>h.imp id fun h=>h.2⟩
  ·rw[ivs_n hc]
   exact ⟨.inl,fun h=>by
    rcases h with h|h
    ·exact h
    ·exact absurd h.1 hc⟩
theorem colK_fst {cl:List Int}:∀ (n k k':Nat),k<k'→k'<(colK cl n).length→∃ i,i<n∧cl.getD i default=(colK cl n).getD k default∧∀ j,j<n→cl.getD j default=(colK cl n).getD k' default→i<j
 | 0,k,k',_,h=>absurd h (by simp[colK])
 | n+1,k,k',hk,hk'=>by
  by_cases hm:cl.getD n default∈colK cl n
  ·rw[colK_mem hm] at hk' ⊢
   obtain ⟨i,h1,h2,h3⟩:=colK_fst n k k' hk hk'
   refine ⟨i,by omega,h2,fun j hj he=>?_⟩
   by_cases e:j=n
   ·omega
   ·exact h3 j (by omega) he
  ·rw[colK_new hm] at hk' ⊢
   rw[List.length_append,List.length_singleton] at hk'
   have g:∀ a,a<(colK cl n).length→(colK cl n++[cl.getD n default]).getD a default=(colK cl n).getD a default:=fun a ha=>by rw[getD_snoc,if_pos ha]
   rw[g k (by omega)]
   by_cases hl:k'<(colK cl n).length
   ·rw[g k' hl]
    obtain ⟨i,h1,h2,h3⟩:=colK_fst n k k' hk hl
    refine ⟨i,by omega,h2,fun j hj he=>?_⟩
    by_cases e:j=n
    ·omega
    ·exact h3 j (by omega) he
   ·have e:k'=(colK cl n).length:=by omega
    subst e
    rw[getD_snoc,if_neg (Nat.lt_irrefl _),if_pos rfl]
    obtain ⟨i,h1,h2⟩:=colK_all.1 (getD_mem' hk)
    refine ⟨i,by omega,h2,fun j hj he=>?_⟩
    by_cases e:j=n
    ·omega
    ·exact absurd (colK_all.2 ⟨j,by omega,he⟩) hm
def hdR (X:List Rg):Int:=(X.getD 0 default).1
theorem hd_in {X:List Rg}(h:okS X):(0≤hdR X∧hdR X≤1114111)∧inR X (hdR X):=by
 have hC:=okS_canon h
 have hp:0<X.length:=by have:=h.2;omega
 have hm:X.getD 0 default∈X:=getD_mem' hp
 have:=hC.ok _ hm
 exact ⟨by unfold hdR;omega,_,hm,Int.le_refl _,by unfold hdR;omega⟩
theorem hd_le {X:List Rg}(h:okS X) {x:Int}(hx:inR X x):hdR X≤x:=by
 have hC:=okS_canon h
 obtain ⟨r,hr,h1,h2⟩:=hx
 obtain ⟨n,hn,rfl⟩:=List.getElem_of_mem hr
 have e:hdR X=(X[0]'(by omega)).1:=by unfold hdR;simp[List.getD_eq_getElem?_getD,show 0<X.length by omega]
 rw[e]
 rcases Nat.eq_zero_or_pos n with h0|h0
 ·subst h0;exact h1
 ·have:=List.pairwise_iff_getElem.1 hC.sep 0 n (by omega) hn h0
  have:=hC.ok _ (List.getElem_mem (show 0<X.length by omega))
  omega
structure Cls (S L:List (List Rg)):Prop where
 ok:∀ X∈L,okS X
 cov:∀ x:Int,0≤x∧x≤1114111→∃ X∈L,inR X x
 sig:∀ X∈L,∀ x y:Int,0≤x∧x≤1114111→0≤y∧y≤1114111→inR X x→(inR X y↔∀ Z∈S,(inR Z x↔inR Z y))
 asc:L.Pairwise fun X Y=>hdR X<hdR Y
theorem clsP_at {S:List (List Rg)}{X:List Rg}(hX:X∈clsP S):∃ c,(∃ i,i<(begF S).length∧(clsF S).getD i default=c)∧X=canon (ivs (begF S) (clsF S) c (begF S).length):=by
 unfold clsP colL at hX
 obtain ⟨c,hc,rfl⟩:=List.mem_map.1 hX
 exact ⟨c,colK_all.1 hc,rfl⟩
section
variable {S:List (List Rg)}(hS:∀ X∈S,okS X)
include hS
theorem iv_sameR {X:List Rg}(hX:X∈S) {i:Nat}{c:Int}(hc:0≤c∧c≤1114111) (hi:i<(begF S).length) (h1:(begF S).getD i default≤c) (h2:∀ j,i<j→j<(begF S).length→c<(begF S).getD j default):inR X c↔inR X ((begF S).getD i default):=by
 have h:=iv_same hS hX hc hi h1 h2
 have hb:=begF_bd hS hi
 rw[Bool.eq_iff_iff,hasB_iff,hasB_iff] at h
 exact ⟨fun hh=>(h.1 ⟨hc,hh⟩).2,fun hh=>(h.2 ⟨hb,hh⟩).2⟩
theorem cls_mem {c:Int}{x:Int}(hx:0≤x∧x≤1114111) {i:Nat}(hi:i<(begF S).length) (h1:(begF S).getD i default≤x) (h2:∀ j,i<j→j<(begF S).length→x<(begF S).getD j default):inR (canon (ivs (begF S) (clsF S) c (begF S).length)) x↔(clsF S).getD i default=c:=by
 rw[canon_mem]
 constructor
 ·rintro ⟨_,r,hr,h3,h4⟩
  obtain ⟨j,hj,hc,rfl⟩:=ivs_mem.1 hr
  obtain ⟨h5,h6⟩:=(iv_in hS hx.2 hj).1 ⟨h3,h4⟩
  rcases Nat.lt_trichotomy i j with h|h|h
  ·have:=h2 j h hj;omega
  ·subst h;exact hc
  ·have:=h6 i h hi;omega
 ·intro hc
  obtain ⟨h3,h4⟩:=(iv_in hS hx.2 hi).2 ⟨h1,h2⟩
  exact ⟨hx,_,ivs_mem.2 ⟨i,hi,hc,rfl⟩,h3,h4⟩
theorem self_at {i:Nat}(hi:i<(begF S).length):∀ j,i<j→j<(begF S).length→(begF S).getD i default<(begF S).getD j default:=fun _ hij hj=>asc_get (begF_spec hS).1 hij hj
theorem cls_ok {c:Int}(h:∃ i,i<(begF S).length∧(clsF S).getD i default=c):okS (canon (ivs (begF S) (clsF S) c (begF S).length)):=by
 obtain ⟨i,hi,hc⟩:=h
 refine ⟨(canon_of (canon_canon _) fun y=>⟨fun hy=>⟨((canon_mem _).1 hy).1,hy⟩,fun hy=>hy.2⟩).symm,fun h0=>?_⟩
 obtain ⟨r,hr,_⟩:=(cls_mem hS (begF_bd hS hi) hi (Int.le_refl _) (self_at hS hi)).2 hc
 rw[List.eq_nil_of_length_eq_zero h0] at hr
 simp at hr
theorem clsP_ok:Cls S (clsP S):=by
 have hL:=cls_lab hS
 refine ⟨fun X hX=>?_,fun x hx=>?_,fun X hX x y hx hy hin=>?_,?_⟩
 ·obtain ⟨c,hc,rfl⟩:=clsP_at hX
  exact cls_ok hS hc
 ·obtain ⟨i,hi,h1,h2⟩:=iv_at hS hx
  exact ⟨_,List.mem_map.2 ⟨_,colK_all.2 ⟨i,hi,rfl⟩,rfl⟩,(cls_mem hS hx hi h1 h2).2 rfl⟩
 ·obtain ⟨c,hc,rfl⟩:=clsP_at hX
  obtain ⟨i,hi,h1,h2⟩:=iv_at hS hx
  obtain ⟨j,hj,h3,h4⟩:=iv_at hS hy
  have e1:=(cls_mem hS hx hi h1 h2).1 hin
  rw[cls_mem hS hy hj h3 h4,← e1]
  have h5:(clsF S).getD i default=(clsF S).getD j default↔_:=hL.iff i j hi hj
  constructor
  ·intro he Z hZ
   rw[iv_sameR hS hZ hx hi h1 h2,iv_sameR hS hZ hy hj h3 h4]
   exact h5.1 he.symm Z hZ
  ·intro he
   exact (h5.2 fun Z hZ=>by
    rw[← iv_sameR hS hZ hx hi h1 h2,← iv_sameR hS hZ hy hj h3 h4]
    exact he Z hZ).symm
 ·unfold clsP colL
  rw[List.pairwise_map]
  rw[List.pairwise_iff_getElem]
  intro k k' hk hk' hkk
  obtain ⟨i,hi,h1,h2⟩:=colK_fst (cl:=clsF S) (begF S).length k k' hkk hk'
  have g1:(colK (clsF S) (begF S).length).getD k default=(colK (clsF S) (begF S).length)[k]:=by simp[List.getD_eq_getElem?_getD,hk]
  have g2:(colK (clsF S) (begF S).length).getD k' default=(colK (clsF S) (begF S).length)[k']:=by simp[List.getD_eq_getElem?_getD,hk']
  rw[g1] at h1
  rw[g2] at h2
  have o1:=cls_ok hS (colK_all.1 (List.getElem_mem hk))
  have o2:=cls_ok hS (colK_all.1 (List.getElem_mem hk'))
  have l1:=hd_le o1 ((cls_mem hS (begF_bd hS hi) hi (Int.le_refl _) (self_at hS hi)).2 h1)
  obtain ⟨c2,i2⟩:=hd_in o2
  obtain ⟨j,hj,h3,h4⟩:=iv_at hS c2
  have l2:=h2 j hj ((cls_mem hS c2 hj h3 h4).1 i2)
  have l3:=asc_get (begF_spec hS).1 l2 hj
  omega
end
theorem Cls.apart {S L:List (List Rg)}(h:Cls S L):L.Pairwise fun X Y=>∀ x:Int,¬(inR X x∧inR Y x):=by
 refine List.Pairwise.imp_of_mem ?_ h.asc
 rintro X Y hX hY hlt x ⟨h1,h2⟩
 have oX:=h.ok X hX
 have oY:=h.ok Y hY
 have cx:0≤x∧x≤1114111:=by
  obtain ⟨r,hr,h3,h4⟩:=h1
  have:=(okS_canon oX).ok r hr
  omega
 obtain ⟨c1,i1⟩:=hd_in oX
 have s1:=(h.sig X hX _ _ cx c1 h1).1 i1
 have i2:=(h.sig Y hY _ _ cx c1 h2).2 s1
 have:=hd_le oY i2
 omega
theorem Cls.alike {S L:List (List Rg)}(h:Cls S L) {a b:Int}(ha:0≤a∧a≤1114111) (hb:0≤b∧b≤1114111):(∀ X∈L,(inR X a↔inR X b))↔∀ Z∈S,(inR Z a↔inR Z b):=by
 obtain ⟨X,hX,hin⟩:=h.cov a ha
 constructor
 ·intro hh
  exact (h.sig X hX a b ha hb hin).1 ((hh X hX).1 hin)
 ·intro hh Y hY
  constructor
  ·intro hy
   exact (h.sig Y hY a b ha hb hy).2 hh
  ·intro hy
   exact (h.sig Y hY b a hb ha hy).2 fun Z hZ=>(hh Z hZ).symm
end Go.Proofs
