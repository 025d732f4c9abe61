import Derived.Test.YtnimkdbpoeondaaGreatDoorBz
set_option linter.all false
namespace Go.Proofs
open Go Go.Sx
variable {l:List Int}{c:Int}{x:Int}
abbrev Rg:=Int × Int
def inR (l:List Rg) (c:Int):Prop:=∃ r∈l,r.1<=c/\c<=r.2
structure Canon (l:List Rg):Prop where
 ok:∀ r∈l,0<=r.1/\r.1<=r.2/\r.2<=1114111
 sep:l.Pairwise (fun r s=>r.2+1<s.1)
theorem yw {r:Rg}{l:List Rg}:inR (r::l) c↔(r.1<=c/\c<=r.2)\/inR l c:=by
 simp[inR]
theorem vu:inR [] c↔False:=by simp[inR]
theorem yB {l m:List Rg}:inR (l++m) c↔inR l c\/inR m c:=by
 simp only[inR,List.mem_append];constructor
 ·rintro ⟨r,h|h,h1⟩
  ·exact .inl ⟨r,h,h1⟩
  ·exact .inr ⟨r,h,h1⟩
 ·rintro (⟨r,h,h1⟩|⟨r,h,h1⟩)
  ·exact ⟨r,.inl h,h1⟩
  ·exact ⟨r,.inr h,h1⟩
theorem Canon.tail {r:Rg}{l:List Rg}(h:Canon (r::l)):Canon l:=⟨fun t ht=>h.ok t (by simp[ht]),(List.pairwise_cons.1 h.sep).2⟩
theorem Canon.nil:Canon []:=⟨fun r hr=>by simp at hr,List.Pairwise.nil⟩
theorem canon_lo {r s:Rg}{l m:List Rg}(hl:Canon (r::l)) (hm:Canon (s::m)) (h:∀ c,inR (r::l) c->inR (s::m) c):s.1<=r.1:=by
 obtain ⟨t,ht,h1,h2⟩:=h r.1 ⟨r,by simp,Int.le_refl _,(hl.ok r (by simp)).2.1⟩
 rcases List.mem_cons.1 ht with rfl|ht
 ·exact h1
 ·have:=(List.pairwise_cons.1 hm.sep).1 t ht;have:=hm.ok s (by simp)
  omega
theorem canon_hi {r s:Rg}{l m:List Rg}(hl:Canon (r::l)) (hm:Canon (s::m)) (e:r.1=s.1) (h:∀ c,inR (s::m) c->inR (r::l) c):s.2<=r.2:=by
 rcases Int.lt_or_le r.2 s.2 with h3|h3
 ·exfalso;have:=hl.ok r (by simp)
  obtain ⟨t,ht,h1,h2⟩:=h (r.2+1) ⟨s,by simp,by omega,by omega⟩
  rcases List.mem_cons.1 ht with rfl|ht
  ·omega
  ·have:=(List.pairwise_cons.1 hl.sep).1 t ht;omega
 ·exact h3
theorem canon_in {r:Rg}{l m:List Rg}(hl:Canon (r::l)) (h:∀ c,inR (r::l) c->inR (r::m) c) (hc:inR l c):inR m c:=by
 obtain ⟨t,ht,h1,h2⟩:=hc;obtain ⟨u,hu,h3,h4⟩:=h c ⟨t,by simp[ht],h1,h2⟩
 rcases List.mem_cons.1 hu with rfl|hu
 ·have:=(List.pairwise_cons.1 hl.sep).1 t ht;omega
 ·exact ⟨u,hu,h3,h4⟩
theorem xC:∀ {l m:List Rg},Canon l->Canon m->(∀ c,inR l c↔inR m c)->l=m
 | [],[],_,_,_=>rfl
 | [],s::m,_,hm,h=>by
  obtain ⟨t,ht,_⟩:=(h s.1).2 ⟨s,by simp,Int.le_refl _,(hm.ok s (by simp)).2.1⟩
  simp at ht
 | r::l,[],hl,_,h=>by
  obtain ⟨t,ht,_⟩:=(h r.1).1 ⟨r,by simp,Int.le_refl _,(hl.ok r (by simp)).2.1⟩
  simp at ht
 | r::l,s::m,hl,hm,h=>by
  have e1:r.1=s.1:=by
   have a:=canon_lo hl hm fun c=>(h c).1;have b:=canon_lo hm hl fun c=>(h c).2;omega
  have e2:r.2=s.2:=by
   have a:=canon_hi hl hm e1 fun c=>(h c).2;have b:=canon_hi hm hl e1.symm fun c=>(h c).1;omega
  have e:r=s:=Prod.ext e1 e2;subst e;rw[xC hl.tail hm.tail fun c=>⟨canon_in hl fun c=>(h c).1,canon_in hm fun c=>(h c).2⟩]
def ins:Rg->List Rg->List Rg
 | r,[]=>[r]
 | r,s::t=>if r.2+1<s.1 then r::s::t else if s.2+1<r.1 then s::ins r t else ins (min r.1 s.1,max r.2 s.2) t
theorem ins_lo {b:Int}:∀ {l:List Rg}{r:Rg},b<r.1->(∀ e∈l,b<e.1)->∀ e∈ins r l,b<e.1
 | [],r,h,_,e,he=>by simp[ins] at he;subst he;exact h
 | s::t,r,h,hl,e,he=>by
  have hs:=hl s (by simp)
  simp only[ins] at he;split at he
  ·rcases List.mem_cons.1 he with rfl|he
   ·exact h
   ·exact hl e he
  ·split at he
   ·rcases List.mem_cons.1 he with rfl|he
    ·exact hs
    ·exact ins_lo h (fun e he=>hl e (by simp[he])) e he
   ·exact ins_lo (by show b<min r.1 s.1;omega) (fun e he=>hl e (by simp[he])) e he
theorem zfu:∀ {l:List Rg}{r:Rg},(0<=r.1/\r.1<=r.2/\r.2<=1114111)->Canon l->Canon (ins r l)
 | [],r,h,_=>⟨fun t ht=>by simp[ins] at ht;subst ht;exact h,by simp[ins]⟩
 | s::t,r,h,hl=>by
  have hs:=hl.ok s (by simp)
  have hp:=List.pairwise_cons.1 hl.sep;simp only[ins];split
  ·rename_i h1;refine ⟨fun u hu=>?_,List.pairwise_cons.2 ⟨fun u hu=>?_,hl.sep⟩⟩
   ·rcases List.mem_cons.1 hu with rfl|hu
    ·exact h
    ·exact hl.ok u hu
   ·rcases List.mem_cons.1 hu with rfl|hu
    ·exact h1
    ·have:=hp.1 u hu;omega
  ·split
   ·rename_i h1;have hi:=zfu h hl.tail;refine ⟨fun u hu=>?_,List.pairwise_cons.2 ⟨fun u hu=>?_,hi.sep⟩⟩
    ·rcases List.mem_cons.1 hu with rfl|hu
     ·exact hs
     ·exact hi.ok u hu
    ·exact ins_lo h1 hp.1 u hu
   ·exact zfu (by show 0<=min r.1 s.1/\min r.1 s.1<=max r.2 s.2/\max r.2 s.2<=1114111;omega) hl.tail
theorem znu {c:Int}:∀ {l:List Rg}{r:Rg},r.1<=r.2->(∀ s∈l,s.1<=s.2)->(inR (ins r l) c↔(r.1<=c/\c<=r.2)\/inR l c)
 | [],r,_,_=>by simp[ins,inR]
 | s::t,r,h,hl=>by
  have hs:=hl s (by simp)
  have ht:∀ s∈t,s.1<=s.2:=fun u hu=>hl u (by simp[hu])
  simp only[ins];split
  ·rw[yw]
  ·split
   ·rw[yw,znu h ht,yw];constructor
    ·rintro (h1|h1|h1)
     ·exact .inr (.inl h1)
     ·exact .inl h1
     ·exact .inr (.inr h1)
    ·rintro (h1|h1|h1)
     ·exact .inr (.inl h1)
     ·exact .inl h1
     ·exact .inr (.inr h1)
   ·rw[znu (by show min r.1 s.1<=max r.2 s.2;omega) ht,yw,<- or_assoc];refine or_congr_left ?_;show (min r.1 s.1<=c/\c<=max r.2 s.2)↔_;omega
def zan (r:Rg):Rg:=(max r.1 0,min r.2 1114111)
def canon:List Rg->List Rg
 | []=>[]
 | r::l=>if (zan r).1<=(zan r).2 then ins (zan r) (canon l) else canon l
theorem zO:∀ (l:List Rg),Canon (canon l)
 | []=>Canon.nil
 | r::l=>by
  simp only[canon];split
  ·rename_i h;exact zfu (by simp only[zan] at h ⊢;omega) (zO l)
  ·exact zO l
theorem xM {c:Int}:∀ (l:List Rg),inR (canon l) c↔(0<=c/\c<=1114111)/\inR l c
 | []=>by simp[canon,inR]
 | r::l=>by
  simp only[canon];split
  ·rename_i h;rw[znu h (fun s hs=>((zO l).ok s hs).2.1),xM l,yw];simp only[zan];constructor
   ·rintro (h1|h1)
    ·exact ⟨by omega,.inl (by omega)⟩
    ·exact ⟨h1.1,.inr h1.2⟩
   ·rintro ⟨h1,h2|h2⟩
    ·exact .inl (by omega)
    ·exact .inr ⟨h1,h2⟩
  ·rename_i h;rw[xM l,yw];simp only[zan] at h;constructor
   ·rintro ⟨h1,h2⟩;exact ⟨h1,.inr h2⟩
   ·rintro ⟨h1,h2|h2⟩
    ·exfalso;omega
    ·exact ⟨h1,h2⟩
theorem zj4 {l out:List Rg}(h:Canon out) (hm:∀ c,inR out c↔(0<=c/\c<=1114111)/\inR l c):out=canon l :=
 xC h (zO l) fun c=>by rw[hm,xM]
def yr (l:List Rg) (c:Int):Bool:=decide (0<=c/\c<=1114111)&&l.any fun r=>decide (r.1<=c)&&decide (c<=r.2)
theorem yd {l:List Rg}:yr l c=true↔(0<=c/\c<=1114111)/\inR l c:=by
 simp[yr,inR]
def zZ:List Int->Int->List Int
 | [],n=>[n]
 | x::l,n=>if x>=n then (if x>n then n::x::l else x::l) else x::zZ l n
theorem ub {x n:Int}:∀ {l:List Int},x∈zZ l n↔x=n\/x∈l
 | []=>by simp[zZ]
 | y::l=>by
  simp only[zZ];split
  ·split
   ·simp
   ·have:y=n:=by omega
    subst this;simp
  ·rw[List.mem_cons,ub,List.mem_cons];constructor
   ·rintro (h|h|h)
    ·exact .inr (.inl h)
    ·exact .inl h
    ·exact .inr (.inr h)
   ·rintro (h|h|h)
    ·exact .inr (.inl h)
    ·exact .inl h
    ·exact .inr (.inr h)
theorem uL {n:Int}:∀ {l:List Int},l.Pairwise (· < ·)->(zZ l n).Pairwise (· < ·)
 | [],_=>by simp[zZ]
 | y::l,h=>by
  have hp:=List.pairwise_cons.1 h;simp only[zZ];split
  ·split
   ·refine List.pairwise_cons.2 ⟨fun z hz=>?_,h⟩
    rcases List.mem_cons.1 hz with rfl|hz
    ·omega
    ·have:=hp.1 z hz;omega
   ·exact h
  ·refine List.pairwise_cons.2 ⟨fun z hz=>?_,uL hp.2⟩
   rcases ub.1 hz with rfl|hz
   ·omega
   ·exact hp.1 z hz
theorem uK {n:Int}:∀ {l:List Int},(zZ l n).length<=l.length+1
 | []=>by simp[zZ]
 | y::l=>by
  simp only[zZ];split
  ·split<;>simp
  ·have:=uK (n:=n) (l:=l)
   simp;omega
def ze6 (l:List Int) (r:Rg):List Int :=
 if 0<=r.2/\r.2<1114111 then zZ (if 0<=r.1/\r.1<=1114111 then zZ l r.1 else l) (r.2+1) else (if 0<=r.1/\r.1<=1114111 then zZ l r.1 else l)
def xN (l:List Int) (rs:List Rg):Nat->List Int
 | 0=>l
 | k+1=>ze6 (xN l rs k) (rs.getD k default)
def xm (l:List Int) (rs:List Rg):List Int:=zZ (xN l rs rs.length) 0
theorem uW {r:Rg}:x∈ze6 l r↔(0<=r.2/\r.2<1114111/\x=r.2+1)\/(0<=r.1/\r.1<=1114111/\x=r.1)\/x∈l:=by
 unfold ze6;split<;>split<;>rename_i h1 h2<;>(try simp only[ub])
 ·constructor
  ·rintro (h|h|h)
   ·exact .inl ⟨h1.1,h1.2,h⟩
   ·exact .inr (.inl ⟨h2.1,h2.2,h⟩)
   ·exact .inr (.inr h)
  ·rintro (h|h|h)
   ·exact .inl h.2.2
   ·exact .inr (.inl h.2.2)
   ·exact .inr (.inr h)
 ·constructor
  ·rintro (h|h)
   ·exact .inl ⟨h1.1,h1.2,h⟩
   ·exact .inr (.inr h)
  ·rintro (h|h|h)
   ·exact .inl h.2.2
   ·exact absurd ⟨h.1,h.2.1⟩ h2
   ·exact .inr h
 ·constructor
  ·rintro (h|h)
   ·exact .inr (.inl ⟨h2.1,h2.2,h⟩)
   ·exact .inr (.inr h)
  ·rintro (h|h|h)
   ·exact absurd ⟨h.1,h.2.1⟩ h1
   ·exact .inl h.2.2
   ·exact .inr h
 ·constructor
  ·exact fun h=>.inr (.inr h)
  ·rintro (h|h|h)
   ·exact absurd ⟨h.1,h.2.1⟩ h1
   ·exact absurd ⟨h.1,h.2.1⟩ h2
   ·exact h
theorem stepL_asc {r:Rg}(h:l.Pairwise (· < ·)):(ze6 l r).Pairwise (· < ·):=by
 unfold ze6;split<;>split
 ·exact uL (uL h)
 ·exact uL h
 ·exact uL h
 ·exact h
theorem stepL_len {r:Rg}:(ze6 l r).length<=l.length+2:=by
 unfold ze6;have h1:=uK (n:=r.1) (l:=l)
 have h2:=uK (n:=r.2+1) (l:=l)
 have h3:=uK (n:=r.2+1) (l:=zZ l r.1)
 split<;>split<;>omega
theorem zmg {l:List Int}{rs:List Rg}(h:l.Pairwise (· < ·)):∀ k,(xN l rs k).Pairwise (· < ·)
 | 0=>h
 | k+1=>stepL_asc (zmg h k)
theorem zgf {l:List Int}{rs:List Rg}:∀ k,(xN l rs k).length<=l.length+2*k
 | 0=>by simp[xN]
 | k+1=>by
  have h1:=zgf (l:=l) (rs:=rs) k;have h2:=stepL_len (l:=xN l rs k) (r:=rs.getD k default)
  simp only[xN];omega
theorem zmf {l:List Int}{rs:List Rg}{x:Int}(h:x∈l):∀ k,x∈xN l rs k
 | 0=>h
 | k+1=>uW.2 (.inr (.inr (zmf h k)))
theorem cutsK_at {l:List Int}{rs:List Rg}{x:Int}{j:Nat}(hx:x∈ze6 [] (rs.getD j default)):∀ k,j<k->x∈xN l rs k
 | 0,h=>by omega
 | k+1,h=>by
  by_cases hj:j=k
  ·subst hj;rw[xN,uW];rcases uW.1 hx with h1|h1|h1
   ·exact .inl h1
   ·exact .inr (.inl h1)
   ·simp at h1
  ·exact uW.2 (.inr (.inr (cutsK_at hx k (by omega))))
theorem cutsK_ok {l:List Int}{rs:List Rg}(h:∀ x∈l,0<=x/\x<=1114111):∀ k,∀ x∈xN l rs k,0<=x/\x<=1114111
 | 0,x,hx=>h x hx
 | k+1,x,hx=>by
  rcases uW.1 hx with h1|h1|h1
  ·omega
  ·omega
  ·exact cutsK_ok h k x h1
theorem zme {rs:List Rg}(h:l.Pairwise (· < ·)):(xm l rs).Pairwise (· < ·):=uL (zmg h _)
theorem zey {rs:List Rg}(h:∀ x∈l,0<=x/\x<=1114111):∀ x∈xm l rs,0<=x/\x<=1114111:=by
 intro x hx;rcases ub.1 hx with h1|h1
 ·omega
 ·exact cutsK_ok h _ x h1
theorem zmd {rs:List Rg}:(xm l rs).length<=l.length+2*rs.length+1:=by
 have h1:=zgf (l:=l) (rs:=rs) rs.length;have h2:=uK (n:=0) (l:=xN l rs rs.length)
 unfold xm;omega
theorem cutsL_old {rs:List Rg}(h:x∈l):x∈xm l rs:=ub.2 (.inr (zmf h _))
theorem cutsL_zero {rs:List Rg}:(0:Int)∈xm l rs:=ub.2 (.inl rfl)
theorem cutsL_at {rs:List Rg}{r:Rg}(hr:r∈rs) (hx:x∈ze6 [] r):x∈xm l rs:=by
 obtain ⟨j,hj,rfl⟩:=List.getElem_of_mem hr;refine ub.2 (.inr (cutsK_at (j:=j) ?_ _ hj))
 simpa[List.getD_eq_getElem?_getD,hj] using hx
theorem zlm {rs:List Rg}{s t:Int}(h0:0<=s) (ht:t<=1114111) (hcut:∀ r∈rs,∀ x∈ze6 [] r,¬(s<x/\x<=t)) (hc:s<=c/\c<=t):yr rs c=yr rs s:=by
 rw[Bool.eq_iff_iff,yd,yd];have key:∀ r∈rs,(r.1<=c/\c<=r.2)↔(r.1<=s/\s<=r.2):=by
  intro r hr;have h1:0<=r.1->r.1<=1114111->¬(s<r.1/\r.1<=t):=fun a b=>hcut r hr r.1 (uW.2 (.inr (.inl ⟨a,b,rfl⟩)))
  have h2:0<=r.2->r.2<1114111->¬(s<r.2+1/\r.2+1<=t):=fun a b=>hcut r hr (r.2+1) (uW.2 (.inl ⟨a,b,rfl⟩))
  omega
 constructor
 ·rintro ⟨_,r,hr,h1⟩;exact ⟨by omega,r,hr,(key r hr).1 h1⟩
 ·rintro ⟨_,r,hr,h1⟩;exact ⟨by omega,r,hr,(key r hr).2 h1⟩
def zd5 (cs:List Int) (i:Nat):Int:=if i+1<cs.length then cs.getD (i+1) default - 1 else 1114111
def zij (out:List Rg) (hi:Int):List Rg:=out.set (out.length - 1) ((out.getD (out.length - 1) default).1,hi)
def zgg (keep:Int->Bool) (c hi:Int) (s:List Rg × Bool):List Rg × Bool :=
 if keep c then (if s.2 then (zij s.1 hi,true) else (s.1++[(c,hi)],true)) else (s.1,false)
def zad (keep:Int->Bool) (cs:List Int):Nat->List Rg × Bool
 | 0=>([],false)
 | k+1=>zgg keep (cs.getD k default) (zd5 cs k) (zad keep cs k)
theorem setHi_last (init:List Rg) (r:Rg) (hi:Int):zij (init++[r]) hi=init++[(r.1,hi)]:=by
 unfold zij;simp[List.set_append_right,List.getD_eq_getElem?_getD]
structure CombInv (keep:Int->Bool) (b:Int) (s:List Rg × Bool):Prop where
 canon:Canon s.1
 mem:∀ c,inR s.1 c↔(0<=c/\c<b)/\keep c=true
 opn:s.2=true->∃ init lo,s.1=init++[(lo,b - 1)]
 sht:s.2=false->∀ r∈s.1,r.2+1<b
theorem Canon.snoc {l:List Rg}{r:Rg}(h:Canon l) (hr:0<=r.1/\r.1<=r.2/\r.2<=1114111) (hs:∀ t∈l,t.2+1<r.1):Canon (l++[r]):=by
 refine ⟨fun t ht=>?_,List.pairwise_append.2 ⟨h.sep,List.pairwise_singleton _ _,fun a ha b hb=>?_⟩⟩
 ·rcases List.mem_append.1 ht with ht|ht
  ·exact h.ok t ht
  ·simp at ht;subst ht;exact hr
 ·simp at hb;subst hb;exact hs a ha
theorem comb_step {keep:Int->Bool}{b hi:Int}{s:List Rg × Bool}(h:CombInv keep b s) (h0:0<=b) (h1:b<=hi) (h2:hi<=1114111) (hk:∀ c,b<=c/\c<=hi->keep c=keep b):CombInv keep (hi+1) (zgg keep b hi s):=by
 obtain ⟨out,op⟩:=s;have split:∀ c,(0<=c/\c<hi+1)↔(0<=c/\c<b)\/(b<=c/\c<=hi):=fun c=>by omega
 unfold zgg;cases hb:keep b with
 | true =>
  simp only[if_true];cases op with
  | true =>
   obtain ⟨init,lo,he⟩:=h.opn rfl;have he:out=init++[(lo,b - 1)]:=he;subst he;have hc:=h.canon;have hl:=hc.ok (lo,b - 1) (by simp)
   have hp:=List.pairwise_append.1 hc.sep;simp only[if_true,setHi_last];refine ⟨?_,fun c=>?_,fun _=>⟨init,lo,by simp⟩,fun hf=>by simp at hf⟩
   ·exact Canon.snoc ⟨fun t ht=>hc.ok t (by simp[ht]),hp.1⟩ (by simp only at hl ⊢;omega) (fun t ht=>hp.2.2 t ht (lo,b - 1) (by simp))
   ·have hm:=h.mem c;simp only[yB,yw,vu,or_false] at hm ⊢;rw[split];by_cases hcc:b<=c/\c<=hi
    ·have:=hk c hcc;exact iff_of_true (.inr ⟨by simp only at hl;omega,hcc.2⟩) ⟨.inr hcc,by rw[this,hb]⟩
    ·have e:(lo<=c/\c<=hi)↔(lo<=c/\c<=b - 1):=by simp only at hl;omega
     rw[e,hm];simp only[hcc,or_false]
  | false =>
   have hs:=h.sht rfl;refine ⟨?_,fun c=>?_,fun _=>⟨out,b,by simp⟩,fun hf=>by simp at hf⟩
   ·exact Canon.snoc h.canon ⟨h0,h1,h2⟩ hs
   ·have hm:=h.mem c;simp only[yB,yw,vu,or_false,Bool.false_eq_true,if_false] at hm ⊢;rw[split,hm];by_cases hcc:b<=c/\c<=hi
    ·have:=hk c hcc;simp only[this,hb,hcc,and_true,or_true]
    ·simp only[hcc,or_false]
 | false =>
  simp only[Bool.false_eq_true,if_false];refine ⟨h.canon,fun c=>?_,fun hf=>by simp at hf,fun _ r hr=>?_⟩
  ·rw[split,h.mem c];by_cases hcc:b<=c/\c<=hi
   ·have:=hk c hcc;simp[this,hb]
   ·simp only[hcc,or_false]
  ·cases op with
   | true =>
    obtain ⟨init,lo,he⟩:=h.opn rfl;have he:out=init++[(lo,b - 1)]:=he;subst he;have hp:=List.pairwise_append.1 h.canon.sep;have hl:=h.canon.ok (lo,b - 1) (by simp)
    have hr:r∈init++[(lo,b - 1)]:=hr;rcases List.mem_append.1 hr with hr|hr
    ·have:=hp.2.2 r hr (lo,b - 1) (by simp)
     simp only at this hl;omega
    ·simp at hr;subst hr;simp only;omega
   | false=>have:=h.sht rfl r hr;omega
theorem comb_zero (keep:Int->Bool):CombInv keep 0 ([],false):=
 ⟨Canon.nil,fun c=>by simp only[vu,false_iff];omega,fun h=>by simp at h,fun _ r hr=>by simp at hr⟩
def zmh (cs:List Int) (k:Nat):Int:=if k<cs.length then cs.getD k default else 1114112
theorem ze3 {cs:List Int}(h:cs.Pairwise (· < ·)) {i j:Nat}(hij:i<j) (hj:j<cs.length):cs.getD i default<cs.getD j default:=by
 have:=List.pairwise_iff_getElem.1 h i j (by omega) hj hij;simpa[List.getD_eq_getElem?_getD,show i<cs.length by omega,hj] using this
theorem xw {α:Type} [Inhabited α] {l:List α}{k:Nat}(h:k<l.length):l.getD k default∈l:=by
 simp[List.getD_eq_getElem?_getD,h]
theorem asc_zero {cs:List Int}(h:cs.Pairwise (· < ·)) (hok:∀ x∈cs,0<=x) (h0:(0:Int)∈cs):cs.getD 0 default=0:=by
 obtain ⟨j,hj,he⟩:=List.getElem_of_mem h0;rcases Nat.eq_zero_or_pos j with rfl|hp
 ·simpa[List.getD_eq_getElem?_getD,hj] using he
 ·have h1:=ze3 h hp hj;have h2:=hok _ (xw (show 0<cs.length by omega))
  have h3:cs.getD j default=0:=by simpa[List.getD_eq_getElem?_getD,hj] using he
  omega
theorem comb_inv {keep:Int->Bool}{cs:List Int}(hasc:cs.Pairwise (· < ·)) (hok:∀ x∈cs,0<=x/\x<=1114111) (h0:(0:Int)∈cs)
  (hk:∀ s t:Int,0<=s->t<=1114111->(∀ x∈cs,¬(s<x/\x<=t))->∀ c,s<=c/\c<=t->keep c=keep s):∀ k,k<=cs.length->CombInv keep (zmh cs k) (zad keep cs k)
 | 0,_=>by
  have hpos:0<cs.length:=List.length_pos_of_mem h0;have:zmh cs 0=0:=by rw[zmh,if_pos hpos];exact asc_zero hasc (fun x hx=>(hok x hx).1) h0
  rw[this];exact comb_zero keep
 | k+1,hkl=>by
  have ih:=comb_inv hasc hok h0 hk k (by omega)
  have hk1:k<cs.length:=by omega
  rw[zmh,if_pos hk1] at ih;have hb:=hok _ (xw hk1)
  have e:zmh cs (k+1)=zd5 cs k+1:=by
   unfold zmh zd5;split<;>omega
  have hle:cs.getD k default<=zd5 cs k/\zd5 cs k<=1114111:=by
   unfold zd5;split
   ·rename_i h1;have:=ze3 hasc (show k<k+1 by omega) h1;have:=hok _ (xw h1)
    omega
   ·omega
  rw[e,zad];refine comb_step ih hb.1 hle.1 hle.2 (hk _ _ hb.1 hle.2 fun x hx hh=>?_)
  obtain ⟨j,hj,he⟩:=List.getElem_of_mem hx;have he:cs.getD j default=x:=by simpa[List.getD_eq_getElem?_getD,hj] using he
  rcases Nat.lt_trichotomy j (k+1) with h1|h1|h1
  ·rcases Nat.lt_or_ge j k with h2|h2
   ·have:=ze3 hasc h2 hk1;omega
   ·have:j=k:=by omega
    subst this;omega
  ·subst h1;rw[zd5,if_pos hj] at hh;omega
  ·have h2:=ze3 hasc h1 hj;rw[zd5,if_pos (by omega)] at hh;omega
def zX (op:Int) (x y:Bool):Bool:=if op=1 then (x||y) else if op=2 then (x&&y) else (x && !y)
def zr (a b:List Rg) (op:Int):List Rg :=
 (zad (fun c=>zX op (yr a c) (yr b c)) (xm (xm [] a) b) (xm (xm [] a) b).length).1
theorem yN (a b:List Rg) (op:Int):Canon (zr a b op)/\∀ c,inR (zr a b op) c↔(0<=c/\c<=1114111)/\zX op (yr a c) (yr b c)=true:=by
 have h:=comb_inv (keep:=fun c=>zX op (yr a c) (yr b c)) (cs:=xm (xm [] a) b) (zme (zme List.Pairwise.nil)) (zey (zey (fun x hx=>by simp at hx))) cutsL_zero
  (fun s t h0 ht hc c hcc=>by
   show zX op (yr a c) (yr b c)=zX op (yr a s) (yr b s)
   rw[zlm h0 ht (rs:=a) (fun r hr x hx=>hc x (cutsL_old (cutsL_at hr hx))) hcc,zlm h0 ht (rs:=b) (fun r hr x hx=>hc x (cutsL_at hr hx)) hcc]) _ (Nat.le_refl _)
 have e:zmh (xm (xm [] a) b) (xm (xm [] a) b).length=1114112:=by simp[zmh]
 rw[e] at h;refine ⟨h.canon,fun c=>?_⟩
 have:=h.mem c;unfold zr;rw[this];constructor
 ·rintro ⟨h1,h2⟩;exact ⟨by omega,h2⟩
 ·rintro ⟨h1,h2⟩;exact ⟨by omega,h2⟩
theorem zon (a:List Rg):zr a [] 1=canon a:=by
 obtain ⟨h1,h2⟩:=yN a [] 1;refine zj4 h1 fun c=>?_;rw[h2];constructor
 ·rintro ⟨h3,h4⟩
  refine ⟨h3,?_⟩
  have:yr a c=true:=by
   have e:yr [] c=false:=by simp[yr]
   simpa[zX,e] using h4
  exact (yd.1 this).2
 ·rintro ⟨h3,h4⟩
  refine ⟨h3,?_⟩
  have:yr a c=true:=yd.2 ⟨h3,h4⟩
  simp[zX,this]
section
variable {α:Type} [Inhabited α]
theorem getD_set {L:List α}{i j:Nat}{x:α}(hi:i<L.length):(L.set i x).getD j default=if i=j then x else L.getD j default:=by
 simp only[List.getD_eq_getElem?_getD,List.getElem?_set];split
 ·rename_i h;subst h;simp[hi]
 ·rfl
variable (lt:α->α->Bool)
def AscTo (L:List α) (i:Nat):Prop:=∀ p q,p<q->q<i->lt (L.getD q default) (L.getD p default)=false
variable {lt}
end
def zG {α:Type} [Inhabited α] (e sz:Nat) (enc:α->Nat->D) (l:List α):Own:=.row e sz l.length fun i j=>enc (l.getD i default) j
section
variable {α:Type} [Inhabited α] {ρ:List Nat}{e sz:Nat}{enc:α->Nat->D}
theorem own_refl {l:List α}:xP ρ (zG e sz enc l) (zG e sz enc l):=⟨rfl,rfl,rfl,fun _ _ _ _=>eE⟩
theorem own_eq {l m:List α}(h:l=m):xP ρ (zG e sz enc l) (zG e sz enc m):=h ▸ own_refl
theorem yg {f:Nat->Nat->D}:xP ρ (.row e sz 0 f) (zG e sz enc ([]:List α)):=⟨rfl,rfl,rfl,fun a ha=>by omega⟩
theorem vH (l:List α) (x:α) (i:Nat):(l++[x]).getD i default=if i<l.length then l.getD i default else if i=l.length then x else default:=by
 simp only[List.getD_eq_getElem?_getD];by_cases h:i<l.length
 ·rw[if_pos h,List.getElem?_append_left h]
 ·rw[if_neg h,List.getElem?_append_right (by omega)];by_cases h1:i=l.length
  ·subst h1;simp
  ·rw[if_neg h1];have:i - l.length≠0:=by omega
   simp[this]
theorem zF {l:List α}{x:α}{g:Nat->Nat->D}(hg:∀ j,j<sz->Ent (g 0 j) (enc x j)):xP ρ (.row e sz (l.length+1) (zgi l.length (fun i j=>enc (l.getD i default) j) g)) (zG e sz enc (l++[x])):=by
 refine ⟨rfl,rfl,by simp,fun a ha j hj=>?_⟩
 show Ent _ (enc ((l++[x]).getD a default) j)
 unfold zgi;rw[vH];split
 ·exact eE
 ·have:a=l.length:=by omega
  subst this;simp only[Nat.sub_self,if_true];exact hg j hj
theorem zni {l:List α}{a off:Nat}{cs:List D}{x:α}(hx:∀ j,j<sz->Ent (if off<=j then (match cs[j - off]? with|some d=>d|none=>enc (l.getD a default) j) else enc (l.getD a default) j) (enc x j)) (ha:a<l.length):
  xP ρ (.row e sz l.length (updF (fun i j=>enc (l.getD i default) j) a off cs)) (zG e sz enc (l.set a x)):=by
 refine ⟨rfl,rfl,by simp,fun b hb j hj=>?_⟩
 show Ent _ (enc ((l.set a x).getD b default) j)
 rw[getD_set ha];unfold updF;by_cases h:b=a
 ·subst h;rw[if_pos rfl,if_pos rfl];exact hx j hj
 ·rw[if_neg h,if_neg (fun e=>h e.symm)];exact eE
end
end Go.Proofs
namespace Go.Proofs
open Go Go.Sx
variable {α:Type}{k:Nat}{P out:List Rg}
theorem znv:∀ {l:List Rg}{r:Rg},(ins r l).length<=l.length+1
 | [],r=>by simp[ins]
 | s::t,r=>by
  simp only[ins];split
  ·simp
  ·split
   ·have:=znv (l:=t) (r:=r);simp;omega
   ·have:=znv (l:=t) (r:=(min r.1 s.1,max r.2 s.2));simp;omega
theorem zK:∀ (l:List Rg),(canon l).length<=l.length
 | []=>by simp[canon]
 | r::l=>by
  have h1:=zK l;have h2:=znv (l:=canon l) (r:=zan r)
  simp only[canon];split<;>simp<;>omega
structure Ch where
 what:ByteArray
 lo:Int
 hi:Int
 old:ByteArray
 new:ByteArray
instance:Inhabited Ch:=⟨⟨⟨#[]⟩,0,0,⟨#[]⟩,⟨#[]⟩⟩⟩
def lastC (out:List Ch):Ch:=out.getD (out.length - 1) default
def joinsC (out:List Ch) (lo:Int) (o n:ByteArray):Prop:=0<out.length/\(lastC out).hi+1=lo/\(lastC out).old=o/\(lastC out).new=n
instance (out:List Ch) (lo:Int) (o n:ByteArray):Decidable (joinsC out lo o n):=inferInstanceAs (Decidable (_/\_))
def zke:D:=.v (.slice none 0 0)
theorem StLe.two {tm tm':List (Nat × D)}{ow ow':List Own}(h1:renT [0,1] tm tm') (h2:renO [0,1] ow [0,1] ow'):StLe 2 ⟨tm,ow,[]⟩ ⟨tm',ow',[]⟩ :=
 zq [0,1] h1 h2 (by decide) (by decide) (by simp)
theorem uJ {j:Nat}:((j:Int) - 1).toNat=j - 1:=by omega
theorem own_app2 [Inhabited α] {ρ:List Nat}{e sz:Nat}{enc:α->Nat->D}{l:List α}{x y:α}{g1 g2:Nat->Nat->D}(h1:∀ j,j<sz->Ent (g1 0 j) (enc x j)) (h2:∀ j,j<sz->Ent (g2 0 j) (enc y j)):
  xP ρ (.row e sz (l.length+1+1) (zgi (l.length+1) (zgi l.length (fun i j=>enc (l.getD i default) j) g1) g2)) (zG e sz enc (l++[x]++[y])):=by
 refine ⟨rfl,rfl,by simp,fun a ha j hj=>?_⟩
 show Ent _ (enc ((l++[x]++[y]).getD a default) j)
 rw[vH,List.length_append,List.length_singleton];unfold zgi;by_cases h3:a<l.length+1
 ·rw[if_pos h3,if_pos h3,vH];by_cases h4:a<l.length
  ·rw[if_pos h4,if_pos h4];exact eE
  ·have:a=l.length:=by omega
   subst this;rw[if_neg h4,if_neg h4,if_pos rfl,Nat.sub_self];exact h1 j hj
 ·have:a=l.length+1:=by omega
  subst this;rw[if_neg h3,if_neg h3,if_pos rfl,Nat.sub_self];exact h2 j hj
theorem ent_app [Inhabited α] {sz:Nat}{enc:α->Nat->D}{l:List α}{x:α}{g:Nat->Nat->D}(hg:∀ j,j<sz->Ent (g 0 j) (enc x j)):Ent (.sl sz (l.length+1) (zgi l.length (fun i j=>enc (l.getD i default) j) g)) (slD sz enc (l++[x])):=by
 obtain ⟨_,_,h1,h2⟩:=zF (ρ:=[]) (e:=0) (l:=l) (x:=x) hg;exact Ent.sl h1 h2
theorem zjw [Inhabited α] {l:List α}(h:k<l.length):l.drop k=l.getD k default::l.drop (k+1):=by
 rw[List.drop_eq_getElem_cons h];simp[List.getD_eq_getElem?_getD,h]
theorem take_at [Inhabited α] {l:List α}(hk:k<l.length):l.take (k+1)=l.take k++[l.getD k default]:=by
 rw[List.take_add_one];simp[List.getD_eq_getElem?_getD,hk]
theorem bif_dec {p q:Prop} [Decidable p] [Decidable q]:(bif decide p then decide q else false)=true↔p/\q:=by
 by_cases h:p<;>simp[h]
theorem bif_no {p q:Prop} [Decidable p] [Decidable q]:(bif decide p then decide q else false)=false↔¬(p/\q):=by
 by_cases h:p<;>simp[h]
theorem znm {p:Nat->Prop}(h:∀ j,j<k->p j) (hk:p k):∀ j,j<k+1->p j:=fun j hj=>by
 by_cases e:j=k
 ·subst e;exact hk
 ·exact h j (by omega)
theorem zdk [Inhabited α] {l m:List α}(h:l.length=m.length) (hd:∀ j,j<l.length->l.getD j default=m.getD j default):l=m:=by
 refine List.ext_getElem h fun i h1 h2=>?_;have:=hd i h1;simpa[List.getD_eq_getElem?_getD,h1,h2] using this
theorem own_appL [Inhabited α] {ρ:List Nat}{e sz:Nat}{enc:α->Nat->D}{l m:List α}:xP ρ (.row e sz (l.length+m.length) (zgi l.length (fun i j=>enc (l.getD i default) j) fun i j=>enc (m.getD i default) j)) (zG e sz enc (l++m)):=by
 refine ⟨rfl,rfl,by simp,fun a ha j hj=>Ent.of_eq ?_⟩
 show zgi _ _ _ a j=enc ((l++m).getD a default) j;unfold zgi;by_cases h:a<l.length
 ·rw[if_pos h];simp only[List.getD_eq_getElem?_getD];rw[List.getElem?_append_left h]
 ·rw[if_neg h];simp only[List.getD_eq_getElem?_getD];rw[List.getElem?_append_right (by omega)]
def flatL {α:Type}(sz:Nat) (enc:α->Nat->D) (l:List α):List D:=l.flatMap fun a=>(List.range sz).map (enc a)
theorem zlz {α:Type} [Inhabited α] {sz:Nat}{enc:α->Nat->D}:∀ {l:List α}{i j:Nat},i<l.length->j<sz->(flatL sz enc l)[i*sz+j]?=some (enc (l.getD i default) j)
 | [],i,j,h,_=>by simp at h
 | a::l,0,j,_,hj=>by
  have:flatL sz enc (a::l)=(List.range sz).map (enc a)++flatL sz enc l:=rfl;rw[this,List.getElem?_append_left (by simpa using hj)];simp[hj]
 | a::l,i+1,j,h,hj=>by
  have ih:=zlz (enc:=enc) (l:=l) (i:=i) (j:=j) (by simpa using h) hj;have:flatL sz enc (a::l)=(List.range sz).map (enc a)++flatL sz enc l:=rfl;rw[this,List.getElem?_append_right (by simp;rw[Nat.add_mul];omega)];have e:(i+1)*sz+j - ((List.range sz).map (enc a)).length=i*sz+j:=by simp;rw[Nat.add_mul];omega
  rw[e,ih];rfl
theorem ue [Inhabited α] {sz n:Nat}{enc:α->Nat->D}{cs:List D}{l:List α}(hn:n=l.length) (hc:cs=flatL sz enc l):Ent (.sl sz n fun i j=>(cs[i*sz+j]?).getD .junk) (slD sz enc l):=by
 subst hn hc;refine Ent.sl rfl fun i hi j hj=>Ent.of_eq ?_;rw[zlz hi hj];rfl
variable {mx:Int}{pb:Bool}
def rgD (r:Rg):Nat->D
 | 0=>.v (.int .i64 r.1)
 | 1=>.v (.int .i64 r.2)
 | _=>.junk
def xE (l:List Rg):D:=slD 2 rgD l
def rgC (a b:Rg):Int:=if zoq a.1 b.1=0 then zoq a.2 b.2 else zoq a.1 b.1
def rgLt (a b:Rg):Bool:=decide (rgC a b<0)
theorem zis {a b:Rg}:rgLt a b=true↔a.1<b.1\/(a.1=b.1/\a.2<b.2):=by
 unfold rgLt rgC zoq;simp only[decide_eq_true_eq];split<;>split<;>(try split)<;>omega
theorem rgLt_no {a b:Rg}:rgLt a b=false↔b.1<a.1\/(a.1=b.1/\b.2<=a.2):=by
 rw[<- Bool.not_eq_true,zis];omega
def vJ (l:List Rg):Nat->List Rg
 | 0=>[]
 | k+1=>if (zan (l.getD k default)).1<=(zan (l.getD k default)).2 then vJ l k++[zan (l.getD k default)] else vJ l k
theorem zmo (l:List Rg):∀ k,(vJ l k).length<=k
 | 0=>by simp[vJ]
 | k+1=>by
  have:=zmo l k;simp only[vJ];split
  ·simp;omega
  ·omega
theorem zj2 (l:List Rg):∀ k,∀ r∈vJ l k,0<=r.1/\r.1<=r.2/\r.2<=1114111
 | 0,r,h=>by simp[vJ] at h
 | k+1,r,h=>by
  simp only[vJ] at h;split at h
  ·rename_i h1;rcases List.mem_append.1 h with h|h
   ·exact zj2 l k r h
   ·rw[List.mem_singleton.1 h];simp only[zan] at h1 ⊢;omega
  ·exact zj2 l k r h
theorem zmn (l:List Rg) (c:Int):∀ k,k<=l.length->(inR (vJ l k) c↔(0<=c/\c<=1114111)/\inR (l.take k) c)
 | 0,_=>by simp[vJ,inR]
 | k+1,hk=>by
  have ih:=zmn l c k (by omega)
  have e:l.take (k+1)=l.take k++[l.getD k default]:=by
   rw[List.take_add_one];simp[List.getD_eq_getElem?_getD,show k<l.length by omega]
  rw[e,yB,yw];simp only[vJ,vu,or_false];split
  ·rename_i h1;rw[yB,ih,yw];simp only[vu,or_false,zan];constructor
   ·rintro (h|h)
    ·exact ⟨h.1,.inl h.2⟩
    ·exact ⟨by omega,.inr (by omega)⟩
   ·rintro ⟨h,h2|h2⟩
    ·exact .inl ⟨h,h2⟩
    ·exact .inr (by omega)
  ·rename_i h1;rw[ih];simp only[zan] at h1;constructor
   ·rintro ⟨h,h2⟩;exact ⟨h,.inl h2⟩
   ·rintro ⟨h,h2|h2⟩
    ·exact ⟨h,h2⟩
    ·exfalso;omega
structure MrgInv (P:List Rg) (k:Nat) (out:List Rg):Prop where
 canon:Canon out
 mem:∀ c,inR out c↔inR (P.take k) c
 lo:∀ r∈out,∀ j,k<=j->j<P.length->r.1<=(P.getD j default).1
theorem zkp {P:List Rg}(hk:k<P.length):P.take (k+1)=P.take k++[P.getD k default]:=by
 rw[List.take_add_one];simp[List.getD_eq_getElem?_getD,hk]
theorem mrg_app (h:MrgInv P k out) (hk:k<P.length) (hok:∀ r∈P,0<=r.1/\r.1<=r.2/\r.2<=1114111) (hs:∀ p q,p<q->q<P.length->(P.getD p default).1<=(P.getD q default).1)
  (hc:¬(out.length>0/\(P.getD k default).1<=(out.getD (out.length - 1) default).2+1)):MrgInv P (k+1) (out++[P.getD k default]):=by
 have hr:=hok _ (xw hk)
 refine ⟨Canon.snoc h.canon hr fun t ht=>?_,fun c=>?_,fun r hr' j hj hjl=>?_⟩
 ·have hpos:0<out.length:=List.length_pos_of_mem ht;have hlast:(out.getD (out.length - 1) default).2+1<(P.getD k default).1:=by
   rcases Int.lt_or_le ((out.getD (out.length - 1) default).2+1) ((P.getD k default).1) with h1|h1
   ·exact h1
   ·exact absurd ⟨hpos,h1⟩ hc
  obtain ⟨i,hi,rfl⟩:=List.getElem_of_mem ht;rcases Nat.lt_or_ge i (out.length - 1) with h1|h1
  ·have h2:=List.pairwise_iff_getElem.1 h.canon.sep i (out.length - 1) hi (by omega) h1;have h3:=h.canon.ok _ (List.getElem_mem (show out.length - 1<out.length by omega))
   have e:out.getD (out.length - 1) default=out[out.length - 1]'(by omega):=by simp[List.getD_eq_getElem?_getD,show out.length - 1<out.length by omega]
   rw[e] at hlast;omega
  ·have e:out.getD (out.length - 1) default=out[i]:=by
    have:i=out.length - 1:=by omega
    subst this;simp[List.getD_eq_getElem?_getD,hi]
   rw[e] at hlast;exact hlast
 ·rw[yB,h.mem c,zkp hk,yB]
 ·rcases List.mem_append.1 hr' with h1|h1
  ·exact h.lo r h1 j (by omega) hjl
  ·rw[List.mem_singleton.1 h1];exact hs k j (by omega) hjl
theorem mrg_set (h:MrgInv P k out) (hk:k<P.length) (hok:∀ r∈P,0<=r.1/\r.1<=r.2/\r.2<=1114111)
  (hpos:0<out.length) (hc:(P.getD k default).1<=(out.getD (out.length - 1) default).2+1):
  MrgInv P (k+1) (out.set (out.length - 1) ((out.getD (out.length - 1) default).1,max (out.getD (out.length - 1) default).2 (P.getD k default).2)):=by
 obtain ⟨init,x,rfl⟩:∃ init x,out=init++[x]:=⟨out.dropLast,out.getLast (by intro e;simp[e] at hpos),(List.dropLast_concat_getLast _).symm⟩
 have ex:(init++[x]).getD ((init++[x]).length - 1) default=x:=by simp[List.getD_eq_getElem?_getD]
 rw[ex] at hc ⊢;have es:(init++[x]).set ((init++[x]).length - 1) (x.1,max x.2 (P.getD k default).2)=init++[(x.1,max x.2 (P.getD k default).2)]:=by simp[List.set_append_right]
 rw[es];have hr:=hok _ (xw hk)
 have hx:=h.canon.ok x (by simp)
 have hp:=List.pairwise_append.1 h.canon.sep;have hlo:=h.lo x (by simp) k (Nat.le_refl _) hk;refine ⟨Canon.snoc ⟨fun t ht=>h.canon.ok t (by simp[ht]),hp.1⟩ (by simp only;omega) (fun t ht=>hp.2.2 t ht x (by simp)),fun c=>?_,fun r hr' j hj hjl=>?_⟩
 ·have hm:=h.mem c;rw[yB] at hm;rw[zkp hk,yB,yB,<- hm,yw,yw,yw];simp only[vu,or_false,or_assoc];refine or_congr_right ?_;omega
 ·rcases List.mem_append.1 hr' with h1|h1
  ·exact h.lo r (by simp[h1]) j (by omega) hjl
  ·rw[List.mem_singleton.1 h1];exact h.lo x (by simp) j (by omega) hjl
theorem inR_perm {l m:List Rg}(h:l.Perm m) (c:Int):inR l c↔inR m c:=by
 unfold inR;constructor
 ·rintro ⟨r,hr,h1⟩;exact ⟨r,h.mem_iff.1 hr,h1⟩
 ·rintro ⟨r,hr,h1⟩;exact ⟨r,h.mem_iff.2 hr,h1⟩
end Go.Proofs
