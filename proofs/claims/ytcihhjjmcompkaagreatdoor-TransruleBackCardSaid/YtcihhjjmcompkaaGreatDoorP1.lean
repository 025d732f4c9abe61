import Derived.Test.YtcihhjjmcompkaaGreatDoorE6
set_option linter.unusedVariables false
set_option linter.unusedSimpArgs false
namespace Go.Proofs
open Go Go.Sx
abbrev Rg:=Int × Int
def inR (l:List Rg) (c:Int):Prop:=∃ r∈l,r.1≤c∧c≤r.2
structure Canon (l:List Rg):Prop where
 ok:∀ r∈l,0≤r.1∧r.1≤r.2∧r.2≤1114111
 sep:l.Pairwise (fun r s=>r.2+1<s.1)
theorem zb9 {r:Rg}{l:List Rg}{c:Int}:inR (r::l) c↔(r.1≤c∧c≤r.2)∨inR l c:=by
 simp[inR]
theorem zfo {c:Int}:inR [] c↔False:=by simp[inR]
theorem zcb {l m:List Rg}{c:Int}:inR (l++m) c↔inR l c∨inR m c:=by
 simp only[inR,List.mem_append]
 constructor
 ·rintro ⟨r,h|h,h1⟩
  ·exact .inl ⟨r,h,h1⟩
  ·exact .inr ⟨r,h,h1⟩
 ·rintro (⟨r,h,h1⟩|⟨r,h,h1⟩)
  ·exact ⟨r,.inl h,h1⟩
  ·exact ⟨r,.inr h,h1⟩
theorem Canon.tail {r:Rg}{l:List Rg}(h:Canon (r::l)):Canon l:=⟨fun t ht=>h.ok t (by simp[ht]),(List.pairwise_cons.1 h.sep).2⟩
theorem Canon.nil:Canon []:=⟨fun r hr=>by simp at hr,List.Pairwise.nil⟩
theorem canon_lo {r s:Rg}{l m:List Rg}(hl:Canon (r::l)) (hm:Canon (s::m)) (h:∀ c,inR (r::l) c→inR (s::m) c):s.1≤r.1:=by
 obtain ⟨t,ht,h1,h2⟩:=h r.1 ⟨r,by simp,Int.le_refl _,(hl.ok r (by simp)).2.1⟩
 rcases List.mem_cons.1 ht with rfl|ht
 ·exact h1
 ·have:=(List.pairwise_cons.1 hm.sep).1 t ht
  have:=hm.ok s (by simp)
  omega
theorem canon_hi {r s:Rg}{l m:List Rg}(hl:Canon (r::l)) (hm:Canon (s::m)) (e:r.1=s.1) (h:∀ c,inR (s::m) c→inR (r::l) c):s.2≤r.2:=by
 rcases Int.lt_or_le r.2 s.2 with h3|h3
 ·exfalso
  have:=hl.ok r (by simp)
  obtain ⟨t,ht,h1,h2⟩:=h (r.2+1) ⟨s,by simp,by omega,by omega⟩
  rcases List.mem_cons.1 ht with rfl|ht
  ·omega
  ·have:=(List.pairwise_cons.1 hl.sep).1 t ht
   omega
 ·exact h3
theorem canon_in {r:Rg}{l m:List Rg}(hl:Canon (r::l)) (h:∀ c,inR (r::l) c→inR (r::m) c) {c:Int}(hc:inR l c):inR m c:=by
 obtain ⟨t,ht,h1,h2⟩:=hc
 obtain ⟨u,hu,h3,h4⟩:=h c ⟨t,by simp[ht],h1,h2⟩
 rcases List.mem_cons.1 hu with rfl|hu
 ·have:=(List.pairwise_cons.1 hl.sep).1 t ht
  omega
 ·exact ⟨u,hu,h3,h4⟩
theorem zee:∀ {l m:List Rg},Canon l→Canon m→(∀ c,inR l c↔inR m c)→l=m
 | [],[],_,_,_=>rfl
 | [],s::m,_,hm,h=>by
  obtain ⟨t,ht,_⟩:=(h s.1).2 ⟨s,by simp,Int.le_refl _,(hm.ok s (by simp)).2.1⟩
  simp at ht
 | r::l,[],hl,_,h=>by
  obtain ⟨t,ht,_⟩:=(h r.1).1 ⟨r,by simp,Int.le_refl _,(hl.ok r (by simp)).2.1⟩
  simp at ht
 | r::l,s::m,hl,hm,h=>by
  have e1:r.1=s.1:=by
   have a:=canon_lo hl hm fun c=>(h c).1
   have b:=canon_lo hm hl fun c=>(h c).2
   omega
  have e2:r.2=s.2:=by
   have a:=canon_hi hl hm e1 fun c=>(h c).2
   have b:=canon_hi hm hl e1.symm fun c=>(h c).1
   omega
  have e:r=s:=Prod.ext e1 e2
  subst e
  rw[zee hl.tail hm.tail fun c=>⟨canon_in hl fun c=>(h c).1,canon_in hm fun c=>(h c).2⟩]
def ins:Rg→List Rg→List Rg
 | r,[]=>[r]
 | r,s::t=>if r.2+1<s.1 then r::s::t else if s.2+1<r.1 then s::ins r t else ins (min r.1 s.1,max r.2 s.2) t
theorem ins_lo {b:Int}:∀ {l:List Rg}{r:Rg},b<r.1→(∀ e∈l,b<e.1)→∀ e∈ins r l,b<e.1
 | [],r,h,_,e,he=>by simp[ins] at he;subst he;exact h
 | s::t,r,h,hl,e,he=>by
  have hs:=hl s (by simp)
  simp only[ins] at he
  split at he
  ·rcases List.mem_cons.1 he with rfl|he
   ·exact h
   ·exact hl e he
  ·split at he
   ·rcases List.mem_cons.1 he with rfl|he
    ·exact hs
    ·exact ins_lo h (fun e he=>hl e (by simp[he])) e he
   ·exact ins_lo (by show b<min r.1 s.1;omega) (fun e he=>hl e (by simp[he])) e he
theorem ins_canon:∀ {l:List Rg}{r:Rg},(0≤r.1∧r.1≤r.2∧r.2≤1114111)→Canon l→Canon (ins r l)
 | [],r,h,_=>⟨fun t ht=>by simp[ins] at ht;subst ht;exact h,by simp[ins]⟩
 | s::t,r,h,hl=>by
  have hs:=hl.ok s (by simp)
  have hp:=List.pairwise_cons.1 hl.sep
  simp only[ins]
  split
  ·rename_i h1
   refine ⟨fun u hu=>?_,List.pairwise_cons.2 ⟨fun u hu=>?_,hl.sep⟩⟩
   ·rcases List.mem_cons.1 hu with rfl|hu
    ·exact h
    ·exact hl.ok u hu
   ·rcases List.mem_cons.1 hu with rfl|hu
    ·exact h1
    ·have:=hp.1 u hu;omega
  ·split
   ·rename_i h1
    have hi:=ins_canon h hl.tail
    refine ⟨fun u hu=>?_,List.pairwise_cons.2 ⟨fun u hu=>?_,hi.sep⟩⟩
    ·rcases List.mem_cons.1 hu with rfl|hu
     ·exact hs
     ·exact hi.ok u hu
    ·exact ins_lo h1 hp.1 u hu
   ·exact ins_canon (by show 0≤min r.1 s.1∧min r.1 s.1≤max r.2 s.2∧max r.2 s.2≤1114111;omega) hl.tail
theorem ins_mem {c:Int}:∀ {l:List Rg}{r:Rg},r.1≤r.2→(∀ s∈l,s.1≤s.2)→(inR (ins r l) c↔(r.1≤c∧c≤r.2)∨inR l c)
 | [],r,_,_=>by simp[ins,inR]
 | s::t,r,h,hl=>by
  have hs:=hl s (by simp)
  have ht:∀ s∈t,s.1≤s.2:=fun u hu=>hl u (by simp[hu])
  simp only[ins]
  split
  ·rw[zb9]
  ·split
   ·rw[zb9,ins_mem h ht,zb9]
    constructor
    ·rintro (h1|h1|h1)
     ·exact .inr (.inl h1)
     ·exact .inl h1
     ·exact .inr (.inr h1)
    ·rintro (h1|h1|h1)
     ·exact .inr (.inl h1)
     ·exact .inl h1
     ·exact .inr (.inr h1)
   ·rw[ins_mem (by show min r.1 s.1≤max r.2 s.2;omega) ht,zb9,← or_assoc]
    refine or_congr_left ?_
    show (min r.1 s.1≤c∧c≤max r.2 s.2)↔_
    omega
def zha (r:Rg):Rg:=(max r.1 0,min r.2 1114111)
def canon:List Rg→List Rg
 | []=>[]
 | r::l=>if (zha r).1≤(zha r).2 then ins (zha r) (canon l) else canon l
theorem za8:∀ (l:List Rg),Canon (canon l)
 | []=>Canon.nil
 | r::l=>by
  simp only[canon]
  split
  ·rename_i h
   exact ins_canon (by simp only[zha] at h ⊢;omega) (za8 l)
  ·exact za8 l
theorem zfa {c:Int}:∀ (l:List Rg),inR (canon l) c↔(0≤c∧c≤1114111)∧inR l c
 | []=>by simp[canon,inR]
 | r::l=>by
  simp only[canon]
  split
  ·rename_i h
   rw[ins_mem h (fun s hs=>((za8 l).ok s hs).2.1),zfa l,zb9]
   simp only[zha]
   constructor
   ·rintro (h1|h1)
    ·exact ⟨by omega,.inl (by omega)⟩
    ·exact ⟨h1.1,.inr h1.2⟩
   ·rintro ⟨h1,h2|h2⟩
    ·exact .inl (by omega)
    ·exact .inr ⟨h1,h2⟩
  ·rename_i h
   rw[zfa l,zb9]
   simp only[zha] at h
   constructor
   ·rintro ⟨h1,h2⟩;exact ⟨h1,.inr h2⟩
   ·rintro ⟨h1,h2|h2⟩
    ·exfalso;omega
    ·exact ⟨h1,h2⟩
theorem canon_of {l out:List Rg}(h:Canon out) (hm:∀ c,inR out c↔(0≤c∧c≤1114111)∧inR l c):out=canon l :=
 zee h (za8 l) fun c=>by rw[hm,zfa]
end Go.Proofs
namespace Go.Proofs
open Go Go.Sx
def zf8 (l:List Rg) (c:Int):Bool:=decide (0≤c∧c≤1114111)&&l.any fun r=>decide (r.1≤c)&&decide (c≤r.2)
theorem zdc {l:List Rg}{c:Int}:zf8 l c=true↔(0≤c∧c≤1114111)∧inR l c:=by
 simp[zf8,inR]
def zhi:List Int→Int→List Int
 | [],n=>[n]
 | x::l,n=>if x≥n then (if x>n then n::x::l else x::l) else x::zhi l n
theorem zdz {x n:Int}:∀ {l:List Int},x∈zhi l n↔x=n∨x∈l
 | []=>by simp[zhi]
 | y::l=>by
  simp only[zhi]
  split
  ·split
   ·simp
   ·have:y=n:=by omega
    subst this;simp
  ·rw[List.mem_cons,zdz,List.mem_cons]
   constructor
   ·rintro (h|h|h)
    ·exact .inr (.inl h)
    ·exact .inl h
    ·exact .inr (.inr h)
   ·rintro (h|h|h)
    ·exact .inr (.inl h)
    ·exact .inl h
    ·exact .inr (.inr h)
theorem zev {n:Int}:∀ {l:List Int},l.Pairwise (· < ·)→(zhi l n).Pairwise (· < ·)
 | [],_=>by simp[zhi]
 | y::l,h=>by
  have hp:=List.pairwise_cons.1 h
  simp only[zhi]
  split
  ·split
   ·refine List.pairwise_cons.2 ⟨fun z hz=>?_,h⟩
    rcases List.mem_cons.1 hz with rfl|hz
    ·omega
    ·have:=hp.1 z hz;omega
   ·exact h
  ·refine List.pairwise_cons.2 ⟨fun z hz=>?_,zev hp.2⟩
   rcases zdz.1 hz with rfl|hz
   ·omega
   ·exact hp.1 z hz
def stepL (l:List Int) (r:Rg):List Int :=
 if 0≤r.2∧r.2<1114111 then zhi (if 0≤r.1∧r.1≤1114111 then zhi l r.1 else l) (r.2+1) else (if 0≤r.1∧r.1≤1114111 then zhi l r.1 else l)
def cutsK (l:List Int) (rs:List Rg):Nat→List Int
 | 0=>l
 | k+1=>stepL (cutsK l rs k) (rs.getD k default)
def zis (l:List Int) (rs:List Rg):List Int:=zhi (cutsK l rs rs.length) 0
theorem ze5 {x:Int}{l:List Int}{r:Rg}:x∈stepL l r↔(0≤r.2∧r.2<1114111∧x=r.2+1)∨(0≤r.1∧r.1≤1114111∧x=r.1)∨x∈l:=by
 unfold stepL
 split<;>split<;>rename_i h1 h2<;>(try simp only[zdz])
 ·constructor
  ·rintro (h|h|h)
   ·exact .inl ⟨h1.1,h1.2,h⟩
   ·exact .inr (.inl ⟨h2.1,h2.2,h⟩)
   ·exact .inr (.inr h)
  ·rintro (h|h|h)
   ·exact .inl h.2.2
   ·exact .inr (.inl h.2.2)
   ·exact .inr (.inr h)
 ·constructor
  ·rintro (h|h)
   ·exact .inl ⟨h1.1,h1.2,h⟩
   ·exact .inr (.inr h)
  ·rintro (h|h|h)
   ·exact .inl h.2.2
   ·exact absurd ⟨h.1,h.2.1⟩ h2
   ·exact .inr h
 ·constructor
  ·rintro (h|h)
   ·exact .inr (.inl ⟨h2.1,h2.2,h⟩)
   ·exact .inr (.inr h)
  ·rintro (h|h|h)
   ·exact absurd ⟨h.1,h.2.1⟩ h1
   ·exact .inl h.2.2
   ·exact .inr h
 ·constructor
  ·exact fun h=>.inr (.inr h)
  ·rintro (h|h|h)
   ·exact absurd ⟨h.1,h.2.1⟩ h1
   ·exact absurd ⟨h.1,h.2.1⟩ h2
   ·exact h
theorem stepL_asc {l:List Int}{r:Rg}(h:l.Pairwise (· < ·)):(stepL l r).Pairwise (· < ·):=by
 unfold stepL
 split<;>split
 ·exact zev (zev h)
 ·exact zev h
 ·exact zev h
 ·exact h
theorem cutsK_asc {l:List Int}{rs:List Rg}(h:l.Pairwise (· < ·)):∀ k,(cutsK l rs k).Pairwise (· < ·)
 | 0=>h
 | k+1=>stepL_asc (cutsK_asc h k)
theorem cutsK_old {l:List Int}{rs:List Rg}{x:Int}(h:x∈l):∀ k,x∈cutsK l rs k
 | 0=>h
 | k+1=>ze5.2 (.inr (.inr (cutsK_old h k)))
theorem cutsK_at {l:List Int}{rs:List Rg}{x:Int}{j:Nat}(hx:x∈stepL [] (rs.getD j default)):∀ k,j<k→x∈cutsK l rs k
 | 0,h=>by omega
 | k+1,h=>by
  by_cases hj:j=k
  ·subst hj
   rw[cutsK,ze5]
   rcases ze5.1 hx with h1|h1|h1
   ·exact .inl h1
   ·exact .inr (.inl h1)
   ·simp at h1
  ·exact ze5.2 (.inr (.inr (cutsK_at hx k (by omega))))
theorem cutsK_ok {l:List Int}{rs:List Rg}(h:∀ x∈l,0≤x∧x≤1114111):∀ k,∀ x∈cutsK l rs k,0≤x∧x≤1114111
 | 0,x,hx=>h x hx
 | k+1,x,hx=>by
  rcases ze5.1 hx with h1|h1|h1
  ·omega
  ·omega
  ·exact cutsK_ok h k x h1
theorem cutsL_asc {l:List Int}{rs:List Rg}(h:l.Pairwise (· < ·)):(zis l rs).Pairwise (· < ·):=zev (cutsK_asc h _)
theorem cutsL_ok {l:List Int}{rs:List Rg}(h:∀ x∈l,0≤x∧x≤1114111):∀ x∈zis l rs,0≤x∧x≤1114111:=by
 intro x hx
 rcases zdz.1 hx with h1|h1
 ·omega
 ·exact cutsK_ok h _ x h1
theorem cutsL_old {l:List Int}{rs:List Rg}{x:Int}(h:x∈l):x∈zis l rs:=zdz.2 (.inr (cutsK_old h _))
theorem cutsL_zero {l:List Int}{rs:List Rg}:(0:Int)∈zis l rs:=zdz.2 (.inl rfl)
theorem cutsL_at {l:List Int}{rs:List Rg}{r:Rg}(hr:r∈rs) {x:Int}(hx:x∈stepL [] r):x∈zis l rs:=by
 obtain ⟨j,hj,rfl⟩:=List.getElem_of_mem hr
 refine zdz.2 (.inr (cutsK_at (j:=j) ?_ _ hj))
 simpa[List.getD_eq_getElem?_getD,hj] using hx
theorem has_const {rs:List Rg}{s t:Int}(h0:0≤s) (ht:t≤1114111) (hcut:∀ r∈rs,∀ x∈stepL [] r,¬(s<x∧x≤t)) {c:Int}(hc:s≤c∧c≤t):zf8 rs c=zf8 rs s:=by
 rw[Bool.eq_iff_iff,zdc,zdc]
 have key:∀ r∈rs,(r.1≤c∧c≤r.2)↔(r.1≤s∧s≤r.2):=by
  intro r hr
  have h1:0≤r.1→r.1≤1114111→¬(s<r.1∧r.1≤t):=fun a b=>hcut r hr r.1 (ze5.2 (.inr (.inl ⟨a,b,rfl⟩)))
  have h2:0≤r.2→r.2<1114111→¬(s<r.2+1∧r.2+1≤t):=fun a b=>hcut r hr (r.2+1) (ze5.2 (.inl ⟨a,b,rfl⟩))
  omega
 constructor
 ·rintro ⟨_,r,hr,h1⟩;exact ⟨by omega,r,hr,(key r hr).1 h1⟩
 ·rintro ⟨_,r,hr,h1⟩;exact ⟨by omega,r,hr,(key r hr).2 h1⟩
def segHi (cs:List Int) (i:Nat):Int:=if i+1<cs.length then cs.getD (i+1) default - 1 else 1114111
def setHi (out:List Rg) (hi:Int):List Rg:=out.set (out.length - 1) ((out.getD (out.length - 1) default).1,hi)
def combS (keep:Int→Bool) (c hi:Int) (s:List Rg × Bool):List Rg × Bool :=
 if keep c then (if s.2 then (setHi s.1 hi,true) else (s.1++[(c,hi)],true)) else (s.1,false)
def combK (keep:Int→Bool) (cs:List Int):Nat→List Rg × Bool
 | 0=>([],false)
 | k+1=>combS keep (cs.getD k default) (segHi cs k) (combK keep cs k)
theorem setHi_last (init:List Rg) (r:Rg) (hi:Int):setHi (init++[r]) hi=init++[(r.1,hi)]:=by
 unfold setHi
 simp[List.set_append_right,List.getD_eq_getElem?_getD]
structure CombInv (keep:Int→Bool) (b:Int) (s:List Rg × Bool):Prop where
 canon:Canon s.1
 mem:∀ c,inR s.1 c↔(0≤c∧c<b)∧keep c=true
 opn:s.2=true→∃ init lo,s.1=init++[(lo,b - 1)]
 sht:s.2=false→∀ r∈s.1,r.2+1<b
theorem Canon.snoc {l:List Rg}{r:Rg}(h:Canon l) (hr:0≤r.1∧r.1≤r.2∧r.2≤1114111) (hs:∀ t∈l,t.2+1<r.1):Canon (l++[r]):=by
 refine ⟨fun t ht=>?_,List.pairwise_append.2 ⟨h.sep,List.pairwise_singleton _ _,fun a ha b hb=>?_⟩⟩
 ·rcases List.mem_append.1 ht with ht|ht
  ·exact h.ok t ht
  ·simp at ht;subst ht;exact hr
 ·simp at hb;subst hb;exact hs a ha
theorem comb_step {keep:Int→Bool}{b hi:Int}{s:List Rg × Bool}(h:CombInv keep b s) (h0:0≤b) (h1:b≤hi) (h2:hi≤1114111) (hk:∀ c,b≤c∧c≤hi→keep c=keep b):CombInv keep (hi+1) (combS keep b hi s):=by
 obtain ⟨out,op⟩:=s
 have split:∀ c,(0≤c∧c<hi+1)↔(0≤c∧c<b)∨(b≤c∧c≤hi):=fun c=>by omega
 unfold combS
 cases hb:keep b with
 | true =>
  simp only[if_true]
  cases op with
  | true =>
   obtain ⟨init,lo,he⟩:=h.opn rfl
   have he:out=init++[(lo,b - 1)]:=he
   subst he
   have hc:=h.canon
   have hl:=hc.ok (lo,b - 1) (by simp)
   have hp:=List.pairwise_append.1 hc.sep
   simp only[if_true,setHi_last]
   refine ⟨?_,fun c=>?_,fun _=>⟨init,lo,by simp⟩,fun hf=>by simp at hf⟩
   ·exact Canon.snoc ⟨fun t ht=>hc.ok t (by simp[ht]),hp.1⟩ (by simp only at hl ⊢;omega) (fun t ht=>hp.2.2 t ht (lo,b - 1) (by simp))
   ·have hm:=h.mem c
    simp only[zcb,zb9,zfo,or_false] at hm ⊢
    rw[split]
    by_cases hcc:b≤c∧c≤hi
    ·have:=hk c hcc
     exact iff_of_true (.inr ⟨by simp only at hl;omega,hcc.2⟩) ⟨.inr hcc,by rw[this,hb]⟩
    ·have e:(lo≤c∧c≤hi)↔(lo≤c∧c≤b - 1):=by simp only at hl;omega
     rw[e,hm];simp only[hcc,or_false]
  | false =>
   have hs:=h.sht rfl
   refine ⟨?_,fun c=>?_,fun _=>⟨out,b,by simp⟩,fun hf=>by simp at hf⟩
   ·exact Canon.snoc h.canon ⟨h0,h1,h2⟩ hs
   ·have hm:=h.mem c
    simp only[zcb,zb9,zfo,or_false,Bool.false_eq_true,if_false] at hm ⊢
    rw[split,hm]
    by_cases hcc:b≤c∧c≤hi
    ·have:=hk c hcc
     simp only[this,hb,hcc,and_true,or_true]
    ·simp only[hcc,or_false]
 | false =>
  simp only[Bool.false_eq_true,if_false]
  refine ⟨h.canon,fun c=>?_,fun hf=>by simp at hf,fun _ r hr=>?_⟩
  ·rw[split,h.mem c]
   by_cases hcc:b≤c∧c≤hi
   ·have:=hk c hcc
    simp[this,hb]
   ·simp only[hcc,or_false]
  ·cases op with
   | true =>
    obtain ⟨init,lo,he⟩:=h.opn rfl
    have he:out=init++[(lo,b - 1)]:=he
    subst he
    have hp:=List.pairwise_append.1 h.canon.sep
    have hl:=h.canon.ok (lo,b - 1) (by simp)
    have hr:r∈init++[(lo,b - 1)]:=hr
    rcases List.mem_append.1 hr with hr|hr
    ·have:=hp.2.2 r hr (lo,b - 1) (by simp)
     simp only at this hl;omega
    ·simp at hr;subst hr;simp only;omega
   | false=>have:=h.sht rfl r hr;omega
theorem comb_zero (keep:Int→Bool):CombInv keep 0 ([],false):=
 ⟨Canon.nil,fun c=>by simp only[zfo,false_iff];omega,fun h=>by simp at h,fun _ r hr=>by simp at hr⟩
def cutAt (cs:List Int) (k:Nat):Int:=if k<cs.length then cs.getD k default else 1114112
theorem asc_getD {cs:List Int}(h:cs.Pairwise (· < ·)) {i j:Nat}(hij:i<j) (hj:j<cs.length):cs.getD i default<cs.getD j default:=by
 have:=List.pairwise_iff_getElem.1 h i j (by omega) hj hij
 simpa[List.getD_eq_getElem?_getD,show i<cs.length by omega,hj] using this
theorem zd5 {α:Type} [Inhabited α] {l:List α}{k:Nat}(h:k<l.length):l.getD k default∈l:=by
 simp[List.getD_eq_getElem?_getD,h]
theorem asc_zero {cs:List Int}(h:cs.Pairwise (· < ·)) (hok:∀ x∈cs,0≤x) (h0:(0:Int)∈cs):cs.getD 0 default=0:=by
 obtain ⟨j,hj,he⟩:=List.getElem_of_mem h0
 rcases Nat.eq_zero_or_pos j with rfl|hp
 ·simpa[List.getD_eq_getElem?_getD,hj] using he
 ·have h1:=asc_getD h hp hj
  have h2:=hok _ (zd5 (show 0<cs.length by omega))
  have h3:cs.getD j default=0:=by simpa[List.getD_eq_getElem?_getD,hj] using he
  omega
theorem comb_inv {keep:Int→Bool}{cs:List Int}(hasc:cs.Pairwise (· < ·)) (hok:∀ x∈cs,0≤x∧x≤1114111) (h0:(0:Int)∈cs)
  (hk:∀ s t:Int,0≤s→t≤1114111→(∀ x∈cs,¬(s<x∧x≤t))→∀ c,s≤c∧c≤t→keep c=keep s):∀ k,k≤cs.length→CombInv keep (cutAt cs k) (combK keep cs k)
 | 0,_=>by
  have hpos:0<cs.length:=List.length_pos_of_mem h0
  have:cutAt cs 0=0:=by rw[cutAt,if_pos hpos];exact asc_zero hasc (fun x hx=>(hok x hx).1) h0
  rw[this];exact comb_zero keep
 | k+1,hkl=>by
  have ih:=comb_inv hasc hok h0 hk k (by omega)
  have hk1:k<cs.length:=by omega
  rw[cutAt,if_pos hk1] at ih
  have hb:=hok _ (zd5 hk1)
  have e:cutAt cs (k+1)=segHi cs k+1:=by
   unfold cutAt segHi
   split<;>omega
  have hle:cs.getD k default≤segHi cs k∧segHi cs k≤1114111:=by
   unfold segHi
   split
   ·rename_i h1
    have:=asc_getD hasc (show k<k+1 by omega) h1
    have:=hok _ (zd5 h1)
    omega
   ·omega
  rw[e,combK]
  refine comb_step ih hb.1 hle.1 hle.2 (hk _ _ hb.1 hle.2 fun x hx hh=>?_)
  obtain ⟨j,hj,he⟩:=List.getElem_of_mem hx
  have he:cs.getD j default=x:=by simpa[List.getD_eq_getElem?_getD,hj] using he
  rcases Nat.lt_trichotomy j (k+1) with h1|h1|h1
  ·rcases Nat.lt_or_ge j k with h2|h2
   ·have:=asc_getD hasc h2 hk1;omega
   ·have:j=k:=by omega
    subst this;omega
  ·subst h1
   rw[segHi,if_pos hj] at hh;omega
  ·have h2:=asc_getD hasc h1 hj
   rw[segHi,if_pos (by omega)] at hh;omega
def zf7 (op:Int) (x y:Bool):Bool:=if op=1 then (x||y) else if op=2 then (x&&y) else (x && !y)
def zbg (a b:List Rg) (op:Int):List Rg :=
 (combK (fun c=>zf7 op (zf8 a c) (zf8 b c)) (zis (zis [] a) b) (zis (zis [] a) b).length).1
theorem ze8 (a b:List Rg) (op:Int):Canon (zbg a b op)∧∀ c,inR (zbg a b op) c↔(0≤c∧c≤1114111)∧zf7 op (zf8 a c) (zf8 b c)=true:=by
 have h:=comb_inv (keep:=fun c=>zf7 op (zf8 a c) (zf8 b c)) (cs:=zis (zis [] a) b) (cutsL_asc (cutsL_asc List.Pairwise.nil)) (cutsL_ok (cutsL_ok (fun x hx=>by simp at hx))) cutsL_zero
  (fun s t h0 ht hc c hcc=>by
   show zf7 op (zf8 a c) (zf8 b c)=zf7 op (zf8 a s) (zf8 b s)
   rw[has_const h0 ht (rs:=a) (fun r hr x hx=>hc x (cutsL_old (cutsL_at hr hx))) hcc,has_const h0 ht (rs:=b) (fun r hr x hx=>hc x (cutsL_at hr hx)) hcc]) _ (Nat.le_refl _)
 have e:cutAt (zis (zis [] a) b) (zis (zis [] a) b).length=1114112:=by simp[cutAt]
 rw[e] at h
 refine ⟨h.canon,fun c=>?_⟩
 have:=h.mem c
 unfold zbg
 rw[this]
 constructor
 ·rintro ⟨h1,h2⟩;exact ⟨by omega,h2⟩
 ·rintro ⟨h1,h2⟩;exact ⟨by omega,h2⟩
end Go.Proofs
namespace Go.Proofs
open Go Go.Sx
section
variable {α:Type} [Inhabited α]
theorem getD_set {L:List α}{i j:Nat}{x:α}(hi:i<L.length):(L.set i x).getD j default=if i=j then x else L.getD j default:=by
 simp only[List.getD_eq_getElem?_getD,List.getElem?_set]
 split
 ·rename_i h;subst h;simp[hi]
 ·rfl
variable (lt:α→α→Bool)
def AscTo (L:List α) (i:Nat):Prop:=∀ p q,p<q→q<i→lt (L.getD q default) (L.getD p default)=false
variable {lt}
end
def zb3 {α:Type} [Inhabited α] (e sz:Nat) (enc:α→Nat→D) (l:List α):Own:=.row e sz l.length fun i j=>enc (l.getD i default) j
section
variable {α:Type} [Inhabited α] {ρ:List Nat}{e sz:Nat}{enc:α→Nat→D}
theorem zar {l:List α}:zgh ρ (zb3 e sz enc l) (zb3 e sz enc l):=⟨rfl,rfl,rfl,fun _ _ _ _=>zab _⟩
theorem own_eq {l m:List α}(h:l=m):zgh ρ (zb3 e sz enc l) (zb3 e sz enc m):=h ▸ zar
theorem zcr {f:Nat→Nat→D}:zgh ρ (.row e sz 0 f) (zb3 e sz enc ([]:List α)):=⟨rfl,rfl,rfl,fun a ha=>by omega⟩
theorem getD_snoc (l:List α) (x:α) (i:Nat):(l++[x]).getD i default=if i<l.length then l.getD i default else if i=l.length then x else default:=by
 simp only[List.getD_eq_getElem?_getD]
 by_cases h:i<l.length
 ·rw[if_pos h,List.getElem?_append_left h]
 ·rw[if_neg h,List.getElem?_append_right (by omega)]
  by_cases h1:i=l.length
  ·subst h1;simp
  ·rw[if_neg h1]
   have:i - l.length≠0:=by omega
   simp[this]
theorem zb1 {l:List α}{x:α}{g:Nat→Nat→D}(hg:∀ j,j<sz→Ent (g 0 j) (enc x j)):zgh ρ (.row e sz (l.length+1) (catF l.length (fun i j=>enc (l.getD i default) j) g)) (zb3 e sz enc (l++[x])):=by
 refine ⟨rfl,rfl,by simp,fun a ha j hj=>?_⟩
 show Ent _ (enc ((l++[x]).getD a default) j)
 unfold catF
 rw[getD_snoc]
 split
 ·exact zab _
 ·have:a=l.length:=by omega
  subst this
  simp only[Nat.sub_self,if_true]
  exact hg j hj
theorem own_set {l:List α}{a off:Nat}{cs:List D}{x:α}(hx:∀ j,j<sz→Ent (if off≤j then (match cs[j - off]? with|some d=>d|none=>enc (l.getD a default) j) else enc (l.getD a default) j) (enc x j)) (ha:a<l.length):
  zgh ρ (.row e sz l.length (updF (fun i j=>enc (l.getD i default) j) a off cs)) (zb3 e sz enc (l.set a x)):=by
 refine ⟨rfl,rfl,by simp,fun b hb j hj=>?_⟩
 show Ent _ (enc ((l.set a x).getD b default) j)
 rw[getD_set ha]
 unfold updF
 by_cases h:b=a
 ·subst h;rw[if_pos rfl,if_pos rfl];exact hx j hj
 ·rw[if_neg h,if_neg (fun e=>h e.symm)];exact zab _
end
end Go.Proofs
namespace Go.Proofs
open Go Go.Sx
theorem ins_len:∀ {l:List Rg}{r:Rg},(ins r l).length≤l.length+1
 | [],r=>by simp[ins]
 | s::t,r=>by
  simp only[ins]
  split
  ·simp
  ·split
   ·have:=ins_len (l:=t) (r:=r);simp;omega
   ·have:=ins_len (l:=t) (r:=(min r.1 s.1,max r.2 s.2));simp;omega
theorem zbh:∀ (l:List Rg),(canon l).length≤l.length
 | []=>by simp[canon]
 | r::l=>by
  have h1:=zbh l
  have h2:=ins_len (l:=canon l) (r:=zha r)
  simp only[canon]
  split<;>simp<;>omega
end Go.Proofs
namespace Go.Proofs
open Go Go.Sx
structure Ch where
 what:ByteArray
 lo:Int
 hi:Int
 old:ByteArray
 new:ByteArray
instance:Inhabited Ch:=⟨⟨⟨#[]⟩,0,0,⟨#[]⟩,⟨#[]⟩⟩⟩
def lastC (out:List Ch):Ch:=out.getD (out.length - 1) default
def joinsC (out:List Ch) (lo:Int) (o n:ByteArray):Prop:=0<out.length∧(lastC out).hi+1=lo∧(lastC out).old=o∧(lastC out).new=n
instance (out:List Ch) (lo:Int) (o n:ByteArray):Decidable (joinsC out lo o n):=inferInstanceAs (Decidable (_∧_))
end Go.Proofs
