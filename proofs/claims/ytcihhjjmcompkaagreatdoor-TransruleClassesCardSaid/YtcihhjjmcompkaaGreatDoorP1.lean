import Derived.Test.YtcihhjjmcompkaaGreatDoorE6
set_option linter.unusedVariables false
set_option linter.unusedSimpArgs false
namespace Go.Proofs
open Go Go.Sx
abbrev Rg:=Int × Int
def inR (l:List Rg) (c:Int):Prop:=∃ r∈l,r.1≤c∧c≤r.2
structure Canon (l:List Rg):Prop where
 ok:∀ r∈l,0≤r.1∧r.1≤r.2∧r.2≤1114111
 sep:l.Pairwise (fun r s=>r.2+1<s.1)
theorem inR_cons {r:Rg}{l:List Rg}{c:Int}:inR (r::l) c↔(r.1≤c∧c≤r.2)∨inR l c:=by
 simp[inR]
theorem inR_nil {c:Int}:inR [] c↔False:=by simp[inR]
theorem inR_append {l m:List Rg}{c:Int}:inR (l++m) c↔inR l c∨inR m c:=by
 simp only[inR,List.mem_append]
 constructor
 ·rintro ⟨r,h|h,h1⟩
  ·exact .inl ⟨r,h,h1⟩
  ·exact .inr ⟨r,h,h1⟩
 ·rintro (⟨r,h,h1⟩|⟨r,h,h1⟩)
  ·exact ⟨r,.inl h,h1⟩
  ·exact ⟨r,.inr h,h1⟩
theorem Canon.tail {r:Rg}{l:List Rg}(h:Canon (r::l)):Canon l:=⟨fun t ht=>h.ok t (by simp[ht]),(List.pairwise_cons.1 h.sep).2⟩
theorem Canon.nil:Canon []:=⟨fun r hr=>by simp at hr,List.Pairwise.nil⟩
theorem canon_lo {r s:Rg}{l m:List Rg}(hl:Canon (r::l)) (hm:Canon (s::m)) (h:∀ c,inR (r::l) c→inR (s::m) c):s.1≤r.1:=by
 obtain ⟨t,ht,h1,h2⟩:=h r.1 ⟨r,by simp,Int.le_refl _,(hl.ok r (by simp)).2.1⟩
 rcases List.mem_cons.1 ht with rfl|ht
 ·exact h1
 ·have:=(List.pairwise_cons.1 hm.sep).1 t ht
  have:=hm.ok s (by simp)
  omega
theorem canon_hi {r s:Rg}{l m:List Rg}(hl:Canon (r::l)) (hm:Canon (s::m)) (e:r.1=s.1) (h:∀ c,inR (s::m) c→inR (r::l) c):s.2≤r.2:=by
 rcases Int.lt_or_le r.2 s.2 with h3|h3
 ·exfalso
  have:=hl.ok r (by simp)
  obtain ⟨t,ht,h1,h2⟩:=h (r.2+1) ⟨s,by simp,by omega,by omega⟩
  rcases List.mem_cons.1 ht with rfl|ht
  ·omega
  ·have:=(List.pairwise_cons.1 hl.sep).1 t ht
   omega
 ·exact h3
theorem canon_in {r:Rg}{l m:List Rg}(hl:Canon (r::l)) (h:∀ c,inR (r::l) c→inR (r::m) c) {c:Int}(hc:inR l c):inR m c:=by
 obtain ⟨t,ht,h1,h2⟩:=hc
 obtain ⟨u,hu,h3,h4⟩:=h c ⟨t,by simp[ht],h1,h2⟩
 rcases List.mem_cons.1 hu with rfl|hu
 ·have:=(List.pairwise_cons.1 hl.sep).1 t ht
  omega
 ·exact ⟨u,hu,h3,h4⟩
theorem canon_unique:∀ {l m:List Rg},Canon l→Canon m→(∀ c,inR l c↔inR m c)→l=m
 | [],[],_,_,_=>rfl
 | [],s::m,_,hm,h=>by
  obtain ⟨t,ht,_⟩:=(h s.1).2 ⟨s,by simp,Int.le_refl _,(hm.ok s (by simp)).2.1⟩
  simp at ht
 | r::l,[],hl,_,h=>by
  obtain ⟨t,ht,_⟩:=(h r.1).1 ⟨r,by simp,Int.le_refl _,(hl.ok r (by simp)).2.1⟩
  simp at ht
 | r::l,s::m,hl,hm,h=>by
  have e1:r.1=s.1:=by
   have a:=canon_lo hl hm fun c=>(h c).1
   have b:=canon_lo hm hl fun c=>(h c).2
   omega
  have e2:r.2=s.2:=by
   have a:=canon_hi hl hm e1 fun c=>(h c).2
   have b:=canon_hi hm hl e1.symm fun c=>(h c).1
   omega
  have e:r=s:=Prod.ext e1 e2
  subst e
  rw[canon_unique hl.tail hm.tail fun c=>⟨canon_in hl fun c=>(h c).1,canon_in hm fun c=>(h c).2⟩]
def ins:Rg→List Rg→List Rg
 | r,[]=>[r]
 | r,s::t=>if r.2+1<s.1 then r::s::t else if s.2+1<r.1 then s::ins r t else ins (min r.1 s.1,max r.2 s.2) t
theorem ins_lo {b:Int}:∀ {l:List Rg}{r:Rg},b<r.1→(∀ e∈l,b<e.1)→∀ e∈ins r l,b<e.1
 | [],r,h,_,e,he=>by simp[ins] at he;subst he;exact h
 | s::t,r,h,hl,e,he=>by
  have hs:=hl s (by simp)
  simp only[ins] at he
  split at he
  ·rcases List.mem_cons.1 he with rfl|he
   ·exact h
   ·exact hl e he
  ·split at he
   ·rcases List.mem_cons.1 he with rfl|he
    ·exact hs
    ·exact ins_lo h (fun e he=>hl e (by simp[he])) e he
   ·exact ins_lo (by show b<min r.1 s.1;omega) (fun e he=>hl e (by simp[he])) e he
theorem ins_canon:∀ {l:List Rg}{r:Rg},(0≤r.1∧r.1≤r.2∧r.2≤1114111)→Canon l→Canon (ins r l)
 | [],r,h,_=>⟨fun t ht=>by simp[ins] at ht;subst ht;exact h,by simp[ins]⟩
 | s::t,r,h,hl=>by
  have hs:=hl.ok s (by simp)
  have hp:=List.pairwise_cons.1 hl.sep
  simp only[ins]
  split
  ·rename_i h1
   refine ⟨fun u hu=>?_,List.pairwise_cons.2 ⟨fun u hu=>?_,hl.sep⟩⟩
   ·rcases List.mem_cons.1 hu with rfl|hu
    ·exact h
    ·exact hl.ok u hu
   ·rcases List.mem_cons.1 hu with rfl|hu
    ·exact h1
    ·have:=hp.1 u hu;omega
  ·split
   ·rename_i h1
    have hi:=ins_canon h hl.tail
    refine ⟨fun u hu=>?_,List.pairwise_cons.2 ⟨fun u hu=>?_,hi.sep⟩⟩
    ·rcases List.mem_cons.1 hu with rfl|hu
     ·exact hs
     ·exact hi.ok u hu
    ·exact ins_lo h1 hp.1 u hu
   ·exact ins_canon (by show 0≤min r.1 s.1∧min r.1 s.1≤max r.2 s.2∧max r.2 s.2≤1114111;omega) hl.tail
theorem ins_mem {c:Int}:∀ {l:List Rg}{r:Rg},r.1≤r.2→(∀ s∈l,s.1≤s.2)→(inR (ins r l) c↔(r.1≤c∧c≤r.2)∨inR l c)
 | [],r,_,_=>by simp[ins,inR]
 | s::t,r,h,hl=>by
  have hs:=hl s (by simp)
  have ht:∀ s∈t,s.1≤s.2:=fun u hu=>hl u (by simp[hu])
  simp only[ins]
  split
  ·rw[inR_cons]
  ·split
   ·rw[inR_cons,ins_mem h ht,inR_cons]
    constructor
    ·rintro (h1|h1|h1)
     ·exact .inr (.inl h1)
     ·exact .inl h1
     ·exact .inr (.inr h1)
    ·rintro (h1|h1|h1)
     ·exact .inr (.inl h1)
     ·exact .inl h1
     ·exact .inr (.inr h1)
   ·rw[ins_mem (by show min r.1 s.1≤max r.2 s.2;omega) ht,inR_cons,← or_assoc]
    refine or_congr_left ?_
    show (min r.1 s.1≤c∧c≤max r.2 s.2)↔_
    omega
def clipR (r:Rg):Rg:=(max r.1 0,min r.2 1114111)
def canon:List Rg→List Rg
 | []=>[]
 | r::l=>if (clipR r).1≤(clipR r).2 then ins (clipR r) (canon l) else canon l
theorem canon_canon:∀ (l:List Rg),Canon (canon l)
 | []=>Canon.nil
 | r::l=>by
  simp only[canon]
  split
  ·rename_i h
   exact ins_canon (by simp only[clipR] at h ⊢;omega) (canon_canon l)
  ·exact canon_canon l
theorem canon_mem {c:Int}:∀ (l:List Rg),inR (canon l) c↔(0≤c∧c≤1114111)∧inR l c
 | []=>by simp[canon,inR]
 | r::l=>by
  simp only[canon]
  split
  ·rename_i h
   rw[ins_mem h (fun s hs=>((canon_canon l).ok s hs).2.1),canon_mem l,inR_cons]
   simp only[clipR]
   constructor
   ·rintro (h1|h1)
    ·exact ⟨by omega,.inl (by omega)⟩
    ·exact ⟨h1.1,.inr h1.2⟩
   ·rintro ⟨h1,h2|h2⟩
    ·exact .inl (by omega)
    ·exact .inr ⟨h1,h2⟩
  ·rename_i h
   rw[canon_mem l,inR_cons]
   simp only[clipR] at h
   constructor
   ·rintro ⟨h1,h2⟩;exact ⟨h1,.inr h2⟩
   ·rintro ⟨h1,h2|h2⟩
    ·exfalso;omega
    ·exact ⟨h1,h2⟩
theorem canon_of {l out:List Rg}(h:Canon out) (hm:∀ c,inR out c↔(0≤c∧c≤1114111)∧inR l c):out=canon l :=
 canon_unique h (canon_canon l) fun c=>by rw[hm,canon_mem]
end Go.Proofs
namespace Go.Proofs
open Go Go.Sx
def hasB (l:List Rg) (c:Int):Bool:=decide (0≤c∧c≤1114111)&&l.any fun r=>decide (r.1≤c)&&decide (c≤r.2)
theorem hasB_iff {l:List Rg}{c:Int}:hasB l c=true↔(0≤c∧c≤1114111)∧inR l c:=by
 simp[hasB,inR]
def placeL:List Int→Int→List Int
 | [],n=>[n]
 | x::l,n=>if x≥n then (if x>n then n::x::l else x::l) else x::placeL l n
theorem mem_placeL {x n:Int}:∀ {l:List Int},x∈placeL l n↔x=n∨x∈l
 | []=>by simp[placeL]
 | y::l=>by
  simp only[placeL]
  split
  ·split
   ·simp
   ·have:y=n:=by omega
    subst this;simp
  ·rw[List.mem_cons,mem_placeL,List.mem_cons]
   constructor
   ·rintro (h|h|h)
    ·exact .inr (.inl h)
    ·exact .inl h
    ·exact .inr (.inr h)
   ·rintro (h|h|h)
    ·exact .inr (.inl h)
    ·exact .inl h
    ·exact .inr (.inr h)
theorem placeL_asc {n:Int}:∀ {l:List Int},l.Pairwise (· < ·)→(placeL l n).Pairwise (· < ·)
 | [],_=>by simp[placeL]
 | y::l,h=>by
  have hp:=List.pairwise_cons.1 h
  simp only[placeL]
  split
  ·split
   ·refine List.pairwise_cons.2 ⟨fun z hz=>?_,h⟩
    rcases List.mem_cons.1 hz with rfl|hz
    ·omega
    ·have:=hp.1 z hz;omega
   ·exact h
  ·refine List.pairwise_cons.2 ⟨fun z hz=>?_,placeL_asc hp.2⟩
   rcases mem_placeL.1 hz with rfl|hz
   ·omega
   ·exact hp.1 z hz
theorem placeL_len {n:Int}:∀ {l:List Int},(placeL l n).length≤l.length+1
 | []=>by simp[placeL]
 | y::l=>by
  simp only[placeL]
  split
  ·split<;>simp
  ·have:=placeL_len (n:=n) (l:=l)
   simp;omega
def stepL (l:List Int) (r:Rg):List Int :=
 if 0≤r.2∧r.2<1114111 then placeL (if 0≤r.1∧r.1≤1114111 then placeL l r.1 else l) (r.2+1) else (if 0≤r.1∧r.1≤1114111 then placeL l r.1 else l)
def cutsK (l:List Int) (rs:List Rg):Nat→List Int
 | 0=>l
 | k+1=>stepL (cutsK l rs k) (rs.getD k default)
def cutsL (l:List Int) (rs:List Rg):List Int:=placeL (cutsK l rs rs.length) 0
theorem mem_stepL {x:Int}{l:List Int}{r:Rg}:x∈stepL l r↔(0≤r.2∧r.2<1114111∧x=r.2+1)∨(0≤r.1∧r.1≤1114111∧x=r.1)∨x∈l:=by
 unfold stepL
 split<;>split<;>rename_i h1 h2<;>(try simp only[mem_placeL])
 ·constructor
  ·rintro (h|h|h)
   ·exact .inl ⟨h1.1,h1.2,h⟩
   ·exact .inr (.inl ⟨h2.1,h2.2,h⟩)
   ·exact .inr (.inr h)
  ·rintro (h|h|h)
   ·exact .inl h.2.2
   ·exact .inr (.inl h.2.2)
   ·exact .inr (.inr h)
 ·constructor
  ·rintro (h|h)
   ·exact .inl ⟨h1.1,h1.2,h⟩
   ·exact .inr (.inr h)
  ·rintro (h|h|h)
   ·exact .inl h.2.2
   ·exact absurd ⟨h.1,h.2.1⟩ h2
   ·exact .inr h
 ·constructor
  ·rintro (h|h)
   ·exact .inr (.inl ⟨h2.1,h2.2,h⟩)
   ·exact .inr (.inr h)
  ·rintro (h|h|h)
   ·exact absurd ⟨h.1,h.2.1⟩ h1
   ·exact .inl h.2.2
   ·exact .inr h
 ·constructor
  ·exact fun h=>.inr (.inr h)
  ·rintro (h|h|h)
   ·exact absurd ⟨h.1,h.2.1⟩ h1
   ·exact absurd ⟨h.1,h.2.1⟩ h2
   ·exact h
theorem stepL_asc {l:List Int}{r:Rg}(h:l.Pairwise (· < ·)):(stepL l r).Pairwise (· < ·):=by
 unfold stepL
 split<;>split
 ·exact placeL_asc (placeL_asc h)
 ·exact placeL_asc h
 ·exact placeL_asc h
 ·exact h
theorem stepL_len {l:List Int}{r:Rg}:(stepL l r).length≤l.length+2:=by
 unfold stepL
 have h1:=placeL_len (n:=r.1) (l:=l)
 have h2:=placeL_len (n:=r.2+1) (l:=l)
 have h3:=placeL_len (n:=r.2+1) (l:=placeL l r.1)
 split<;>split<;>omega
theorem cutsK_asc {l:List Int}{rs:List Rg}(h:l.Pairwise (· < ·)):∀ k,(cutsK l rs k).Pairwise (· < ·)
 | 0=>h
 | k+1=>stepL_asc (cutsK_asc h k)
theorem cutsK_len {l:List Int}{rs:List Rg}:∀ k,(cutsK l rs k).length≤l.length+2*k
 | 0=>by simp[cutsK]
 | k+1=>by
  have h1:=cutsK_len (l:=l) (rs:=rs) k
  have h2:=stepL_len (l:=cutsK l rs k) (r:=rs.getD k default)
  simp only[cutsK];omega
theorem cutsK_old {l:List Int}{rs:List Rg}{x:Int}(h:x∈l):∀ k,x∈cutsK l rs k
 | 0=>h
 | k+1=>mem_stepL.2 (.inr (.inr (cutsK_old h k)))
theorem cutsK_at {l:List Int}{rs:List Rg}{x:Int}{j:Nat}(hx:x∈stepL [] (rs.getD j default)):∀ k,j<k→x∈cutsK l rs k
 | 0,h=>by omega
 | k+1,h=>by
  by_cases hj:j=k
  ·subst hj
   rw[cutsK,mem_stepL]
   rcases mem_stepL.1 hx with h1|h1|h1
   ·exact .inl h1
   ·exact .inr (.inl h1)
   ·simp at h1
  ·exact mem_stepL.2 (.inr (.inr (cutsK_at hx k (by omega))))
theorem cutsK_ok {l:List Int}{rs:List Rg}(h:∀ x∈l,0≤x∧x≤1114111):∀ k,∀ x∈cutsK l rs k,0≤x∧x≤1114111
 | 0,x,hx=>h x hx
 | k+1,x,hx=>by
  rcases mem_stepL.1 hx with h1|h1|h1
  ·omega
  ·omega
  ·exact cutsK_ok h k x h1
theorem cutsL_asc {l:List Int}{rs:List Rg}(h:l.Pairwise (· < ·)):(cutsL l rs).Pairwise (· < ·):=placeL_asc (cutsK_asc h _)
theorem cutsL_ok {l:List Int}{rs:List Rg}(h:∀ x∈l,0≤x∧x≤1114111):∀ x∈cutsL l rs,0≤x∧x≤1114111:=by
 intro x hx
 rcases mem_placeL.1 hx with h1|h1
 ·omega
 ·exact cutsK_ok h _ x h1
theorem cutsL_len {l:List Int}{rs:List Rg}:(cutsL l rs).length≤l.length+2*rs.length+1:=by
 have h1:=cutsK_len (l:=l) (rs:=rs) rs.length
 have h2:=placeL_len (n:=0) (l:=cutsK l rs rs.length)
 unfold cutsL;omega
theorem cutsL_old {l:List Int}{rs:List Rg}{x:Int}(h:x∈l):x∈cutsL l rs:=mem_placeL.2 (.inr (cutsK_old h _))
theorem cutsL_zero {l:List Int}{rs:List Rg}:(0:Int)∈cutsL l rs:=mem_placeL.2 (.inl rfl)
theorem cutsL_at {l:List Int}{rs:List Rg}{r:Rg}(hr:r∈rs) {x:Int}(hx:x∈stepL [] r):x∈cutsL l rs:=by
 obtain ⟨j,hj,rfl⟩:=List.getElem_of_mem hr
 refine mem_placeL.2 (.inr (cutsK_at (j:=j) ?_ _ hj))
 simpa[List.getD_eq_getElem?_getD,hj] using hx
theorem has_const {rs:List Rg}{s t:Int}(h0:0≤s) (ht:t≤1114111) (hcut:∀ r∈rs,∀ x∈stepL [] r,¬(s<x∧x≤t)) {c:Int}(hc:s≤c∧c≤t):hasB rs c=hasB rs s:=by
 rw[Bool.eq_iff_iff,hasB_iff,hasB_iff]
 have key:∀ r∈rs,(r.1≤c∧c≤r.2)↔(r.1≤s∧s≤r.2):=by
  intro r hr
  have h1:0≤r.1→r.1≤1114111→¬(s<r.1∧r.1≤t):=fun a b=>hcut r hr r.1 (mem_stepL.2 (.inr (.inl ⟨a,b,rfl⟩)))
  have h2:0≤r.2→r.2<1114111→¬(s<r.2+1∧r.2+1≤t):=fun a b=>hcut r hr (r.2+1) (mem_stepL.2 (.inl ⟨a,b,rfl⟩))
  omega
 constructor
 ·rintro ⟨_,r,hr,h1⟩;exact ⟨by omega,r,hr,(key r hr).1 h1⟩
 ·rintro ⟨_,r,hr,h1⟩;exact ⟨by omega,r,hr,(key r hr).2 h1⟩
def segHi (cs:List Int) (i:Nat):Int:=if i+1<cs.length then cs.getD (i+1) default - 1 else 1114111
def setHi (out:List Rg) (hi:Int):List Rg:=out.set (out.length - 1) ((out.getD (out.length - 1) default).1,hi)
def combS (keep:Int→Bool) (c hi:Int) (s:List Rg × Bool):List Rg × Bool :=
 if keep c then (if s.2 then (setHi s.1 hi,true) else (s.1++[(c,hi)],true)) else (s.1,false)
def combK (keep:Int→Bool) (cs:List Int):Nat→List Rg × Bool
 | 0=>([],false)
 | k+1=>combS keep (cs.getD k default) (segHi cs k) (combK keep cs k)
theorem setHi_last (init:List Rg) (r:Rg) (hi:Int):setHi (init++[r]) hi=init++[(r.1,hi)]:=by
 unfold setHi
 simp[List.set_append_right,List.getD_eq_getElem?_getD]
structure CombInv (keep:Int→Bool) (b:Int) (s:List Rg × Bool):Prop where
 canon:Canon s.1
 mem:∀ c,inR s.1 c↔(0≤c∧c<b)∧keep c=true
 opn:s.2=true→∃ init lo,s.1=init++[(lo,b - 1)]
 sht:s.2=false→∀ r∈s.1,r.2+1<b
theorem Canon.snoc {l:List Rg}{r:Rg}(h:Canon l) (hr:0≤r.1∧r.1≤r.2∧r.2≤1114111) (hs:∀ t∈l,t.2+1<r.1):Canon (l++[r]):=by
 refine ⟨fun t ht=>?_,List.pairwise_append.2 ⟨h.sep,List.pairwise_singleton _ _,fun a ha b hb=>?_⟩⟩
 ·rcases List.mem_append.1 ht with ht|ht
  ·exact h.ok t ht
  ·simp at ht;subst ht;exact hr
 ·simp at hb;subst hb;exact hs a ha
theorem comb_step {keep:Int→Bool}{b hi:Int}{s:List Rg × Bool}(h:CombInv keep b s) (h0:0≤b) (h1:b≤hi) (h2:hi≤1114111) (hk:∀ c,b≤c∧c≤hi→keep c=keep b):CombInv keep (hi+1) (combS keep b hi s):=by
 obtain ⟨out,op⟩:=s
 have split:∀ c,(0≤c∧c<hi+1)↔(0≤c∧c<b)∨(b≤c∧c≤hi):=fun c=>by omega
 unfold combS
 cases hb:keep b with
 | true =>
  simp only[if_true]
  cases op with
  | true =>
   obtain ⟨init,lo,he⟩:=h.opn rfl
   have he:out=init++[(lo,b - 1)]:=he
   subst he
   have hc:=h.canon
   have hl:=hc.ok (lo,b - 1) (by simp)
   have hp:=List.pairwise_append.1 hc.sep
   simp only[if_true,setHi_last]
   refine ⟨?_,fun c=>?_,fun _=>⟨init,lo,by simp⟩,fun hf=>by simp at hf⟩
   ·exact Canon.snoc ⟨fun t ht=>hc.ok t (by simp[ht]),hp.1⟩ (by simp only at hl ⊢;omega) (fun t ht=>hp.2.2 t ht (lo,b - 1) (by simp))
   ·have hm:=h.mem c
    simp only[inR_append,inR_cons,inR_nil,or_false] at hm ⊢
    rw[split]
    by_cases hcc:b≤c∧c≤hi
    ·have:=hk c hcc
     exact iff_of_true (.inr ⟨by simp only at hl;omega,hcc.2⟩) ⟨.inr hcc,by rw[this,hb]⟩
    ·have e:(lo≤c∧c≤hi)↔(lo≤c∧c≤b - 1):=by simp only at hl;omega
     rw[e,hm];simp only[hcc,or_false]
  | false =>
   have hs:=h.sht rfl
   refine ⟨?_,fun c=>?_,fun _=>⟨out,b,by simp⟩,fun hf=>by simp at hf⟩
   ·exact Canon.snoc h.canon ⟨h0,h1,h2⟩ hs
   ·have hm:=h.mem c
    simp only[inR_append,inR_cons,inR_nil,or_false,Bool.false_eq_true,if_false] at hm ⊢
    rw[split,hm]
    by_cases hcc:b≤c∧c≤hi
    ·have:=hk c hcc
     simp only[this,hb,hcc,and_true,or_true]
    ·simp only[hcc,or_false]
 | false =>
  simp only[Bool.false_eq_true,if_false]
  refine ⟨h.canon,fun c=>?_,fun hf=>by simp at hf,fun _ r hr=>?_⟩
  ·rw[split,h.mem c]
   by_cases hcc:b≤c∧c≤hi
   ·have:=hk c hcc
    simp[this,hb]
   ·simp only[hcc,or_false]
  ·cases op with
   | true =>
    obtain ⟨init,lo,he⟩:=h.opn rfl
    have he:out=init++[(lo,b - 1)]:=he
    subst he
    have hp:=List.pairwise_append.1 h.canon.sep
    have hl:=h.canon.ok (lo,b - 1) (by simp)
    have hr:r∈init++[(lo,b - 1)]:=hr
    rcases List.mem_append.1 hr with hr|hr
    ·have:=hp.2.2 r hr (lo,b - 1) (by simp)
     simp only at this hl;omega
    ·simp at hr;subst hr;simp only;omega
   | false=>have:=h.sht rfl r hr;omega
theorem comb_zero (keep:Int→Bool):CombInv keep 0 ([],false):=
 ⟨Canon.nil,fun c=>by simp only[inR_nil,false_iff];omega,fun h=>by simp at h,fun _ r hr=>by simp at hr⟩
def cutAt (cs:List Int) (k:Nat):Int:=if k<cs.length then cs.getD k default else 1114112
theorem asc_getD {cs:List Int}(h:cs.Pairwise (· < ·)) {i j:Nat}(hij:i<j) (hj:j<cs.length):cs.getD i default<cs.getD j default:=by
 have:=List.pairwise_iff_getElem.1 h i j (by omega) hj hij
 simpa[List.getD_eq_getElem?_getD,show i<cs.length by omega,hj] using this
theorem getD_mem {α:Type} [Inhabited α] {l:List α}{k:Nat}(h:k<l.length):l.getD k default∈l:=by
 simp[List.getD_eq_getElem?_getD,h]
theorem asc_zero {cs:List Int}(h:cs.Pairwise (· < ·)) (hok:∀ x∈cs,0≤x) (h0:(0:Int)∈cs):cs.getD 0 default=0:=by
 obtain ⟨j,hj,he⟩:=List.getElem_of_mem h0
 rcases Nat.eq_zero_or_pos j with rfl|hp
 ·simpa[List.getD_eq_getElem?_getD,hj] using he
 ·have h1:=asc_getD h hp hj
  have h2:=hok _ (getD_mem (show 0<cs.length by omega))
  have h3:cs.getD j default=0:=by simpa[List.getD_eq_getElem?_getD,hj] using he
  omega
theorem comb_inv {keep:Int→Bool}{cs:List Int}(hasc:cs.Pairwise (· < ·)) (hok:∀ x∈cs,0≤x∧x≤1114111) (h0:(0:Int)∈cs)
  (hk:∀ s t:Int,0≤s→t≤1114111→(∀ x∈cs,¬(s<x∧x≤t))→∀ c,s≤c∧c≤t→keep c=keep s):∀ k,k≤cs.length→CombInv keep (cutAt cs k) (combK keep cs k)
 | 0,_=>by
  have hpos:0<cs.length:=List.length_pos_of_mem h0
  have:cutAt cs 0=0:=by rw[cutAt,if_pos hpos];exact asc_zero hasc (fun x hx=>(hok x hx).1) h0
  rw[this];exact comb_zero keep
 | k+1,hkl=>by
  have ih:=comb_inv hasc hok h0 hk k (by omega)
  have hk1:k<cs.length:=by omega
  rw[cutAt,if_pos hk1] at ih
  have hb:=hok _ (getD_mem hk1)
  have e:cutAt cs (k+1)=segHi cs k+1:=by
   unfold cutAt segHi
   split<;>omega
  have hle:cs.getD k default≤segHi cs k∧segHi cs k≤1114111:=by
   unfold segHi
   split
   ·rename_i h1
    have:=asc_getD hasc (show k<k+1 by omega) h1
    have:=hok _ (getD_mem h1)
    omega
   ·omega
  rw[e,combK]
  refine comb_step ih hb.1 hle.1 hle.2 (hk _ _ hb.1 hle.2 fun x hx hh=>?_)
  obtain ⟨j,hj,he⟩:=List.getElem_of_mem hx
  have he:cs.getD j default=x:=by simpa[List.getD_eq_getElem?_getD,hj] using he
  rcases Nat.lt_trichotomy j (k+1) with h1|h1|h1
  ·rcases Nat.lt_or_ge j k with h2|h2
   ·have:=asc_getD hasc h2 hk1;omega
   ·have:j=k:=by omega
    subst this;omega
  ·subst h1
   rw[segHi,if_pos hj] at hh;omega
  ·have h2:=asc_getD hasc h1 hj
   rw[segHi,if_pos (by omega)] at hh;omega
def keepsB (op:Int) (x y:Bool):Bool:=if op=1 then (x||y) else if op=2 then (x&&y) else (x && !y)
def combL (a b:List Rg) (op:Int):List Rg :=
 (combK (fun c=>keepsB op (hasB a c) (hasB b c)) (cutsL (cutsL [] a) b) (cutsL (cutsL [] a) b).length).1
theorem comb_spec (a b:List Rg) (op:Int):Canon (combL a b op)∧∀ c,inR (combL a b op) c↔(0≤c∧c≤1114111)∧keepsB op (hasB a c) (hasB b c)=true:=by
 have h:=comb_inv (keep:=fun c=>keepsB op (hasB a c) (hasB b c)) (cs:=cutsL (cutsL [] a) b) (cutsL_asc (cutsL_asc List.Pairwise.nil)) (cutsL_ok (cutsL_ok (fun x hx=>by simp at hx))) cutsL_zero
  (fun s t h0 ht hc c hcc=>by
   show keepsB op (hasB a c) (hasB b c)=keepsB op (hasB a s) (hasB b s)
   rw[has_const h0 ht (rs:=a) (fun r hr x hx=>hc x (cutsL_old (cutsL_at hr hx))) hcc,has_const h0 ht (rs:=b) (fun r hr x hx=>hc x (cutsL_at hr hx)) hcc]) _ (Nat.le_refl _)
 have e:cutAt (cutsL (cutsL [] a) b) (cutsL (cutsL [] a) b).length=1114112:=by simp[cutAt]
 rw[e] at h
 refine ⟨h.canon,fun c=>?_⟩
 have:=h.mem c
 unfold combL
 rw[this]
 constructor
 ·rintro ⟨h1,h2⟩;exact ⟨by omega,h2⟩
 ·rintro ⟨h1,h2⟩;exact ⟨by omega,h2⟩
theorem comb_or_nil (a:List Rg):combL a [] 1=canon a:=by
 obtain ⟨h1,h2⟩:=comb_spec a [] 1
 refine canon_of h1 fun c=>?_
 rw[h2]
 constructor
 ·rintro ⟨h3,h4⟩
  refine ⟨h3,?_⟩
  have:hasB a c=true:=by
   have e:hasB [] c=false:=by simp[hasB]
   simpa[keepsB,e] using h4
  exact (hasB_iff.1 this).2
 ·rintro ⟨h3,h4⟩
  refine ⟨h3,?_⟩
  have:hasB a c=true:=hasB_iff.2 ⟨h3,h4⟩
  simp[keepsB,this]
end Go.Proofs
namespace Go.Proofs
open Go Go.Sx
section
variable {α:Type} [Inhabited α]
def swp (L:List α) (j:Nat):List α:=(L.set (j+1) (L.getD j default)).set j (L.getD (j+1) default)
theorem getD_set {L:List α}{i j:Nat}{x:α}(hi:i<L.length):(L.set i x).getD j default=if i=j then x else L.getD j default:=by
 simp only[List.getD_eq_getElem?_getD,List.getElem?_set]
 split
 ·rename_i h;subst h;simp[hi]
 ·rfl
theorem swp_length {L:List α}{j:Nat}:(swp L j).length=L.length:=by simp[swp]
theorem swp_getD {L:List α}{j:Nat}(h:j+1<L.length) (i:Nat):(swp L j).getD i default=if i=j then L.getD (j+1) default else if i=j+1 then L.getD j default else L.getD i default:=by
 unfold swp
 rw[getD_set (by simp;omega),getD_set h]
 by_cases h1:i=j
 ·subst h1;simp
 ·by_cases h2:i=j+1
  ·subst h2;simp
  ·rw[if_neg (by omega),if_neg (by omega),if_neg h1,if_neg h2]
theorem swp_perm:∀ {L:List α}{j:Nat},j+1<L.length→(swp L j).Perm L
 | [],j,h=>by simp at h
 | [x],j,h=>by simp at h
 | x::y::L,0,_=>by simpa[swp] using List.Perm.swap x y L
 | x::y::L,j+1,h=>by
  have e:swp (x::y::L) (j+1)=x::swp (y::L) j:=by simp[swp,List.set]
  rw[e]
  exact (swp_perm (L:=y::L) (by simpa using h)).cons x
variable (lt:α→α→Bool)
def innerS (L:List α):Nat→List α
 | 0=>L
 | j+1=>if lt (L.getD (j+1) default) (L.getD j default) then innerS (swp L j) j else L
def outerS (L:List α):Nat→List α
 | 0=>L
 | k+1=>innerS lt (outerS L k) (k+1)
theorem innerS_length:∀ {j:Nat}{L:List α},(innerS lt L j).length=L.length
 | 0,L=>rfl
 | j+1,L=>by
  simp only[innerS]
  split
  ·rw[innerS_length,swp_length]
  ·rfl
theorem outerS_length {L:List α}:∀ {k:Nat},(outerS lt L k).length=L.length
 | 0=>rfl
 | k+1=>by rw[outerS,innerS_length,outerS_length]
theorem innerS_perm:∀ {j:Nat}{L:List α},j<L.length→(innerS lt L j).Perm L
 | 0,L,_=>List.Perm.refl _
 | j+1,L,h=>by
  simp only[innerS]
  split
  ·exact (innerS_perm (by rw[swp_length];omega)).trans (swp_perm h)
  ·exact List.Perm.refl _
theorem outerS_perm {L:List α}:∀ {k:Nat},k<L.length→(outerS lt L k).Perm L
 | 0,_=>List.Perm.refl _
 | k+1,h=>(innerS_perm lt (by rw[outerS_length];exact h)).trans (outerS_perm (by omega))
def AscTo (L:List α) (i:Nat):Prop:=∀ p q,p<q→q<i→lt (L.getD q default) (L.getD p default)=false
variable {lt}
theorem innerS_asc (hasym:∀ x y,lt x y=true→lt y x=false) (htr:∀ x y z,lt y x=false→lt z y=false→lt z x=false) {i:Nat}:∀ {j:Nat}{L:List α},j≤i→i<L.length →
  (∀ p q,p<q→q≤i→p≠j→q≠j→lt (L.getD q default) (L.getD p default)=false)→(∀ q,j<q→q≤i→lt (L.getD q default) (L.getD j default)=false)→AscTo lt (innerS lt L j) (i+1)
 | 0,L,_,hi,h1,h2=>by
  intro p q hpq hq
  simp only[innerS]
  by_cases hp:p=0
  ·subst hp;exact h2 q hpq (by omega)
  ·exact h1 p q hpq (by omega) hp (by omega)
 | j+1,L,hj,hi,h1,h2=>by
  simp only[innerS]
  split
  ·rename_i hlt
   refine innerS_asc hasym htr (by omega) (by rw[swp_length];exact hi) (fun p q hpq hq hp hq'=>?_) (fun q hjq hq=>?_)
   ·rw[swp_getD (by omega),swp_getD (by omega),if_neg hq',if_neg hp]
    by_cases a:q=j+1
    ·rw[if_pos a,if_neg (by omega)]
     exact h1 p j (by omega) (by omega) (by omega) (by omega)
    ·rw[if_neg a]
     by_cases b:p=j+1
     ·rw[if_pos b];exact h1 j q (by omega) hq (by omega) a
     ·rw[if_neg b];exact h1 p q hpq hq b a
   ·rw[swp_getD (by omega),swp_getD (by omega),if_neg (by omega),if_pos rfl]
    by_cases a:q=j+1
    ·rw[if_pos a];exact hasym _ _ hlt
    ·rw[if_neg a];exact h2 q (by omega) hq
  ·rename_i hlt
   have hlt:lt (L.getD (j+1) default) (L.getD j default)=false:=by simpa using hlt
   intro p q hpq hq
   by_cases a:q=j+1
   ·subst a
    by_cases b:p=j
    ·subst b;exact hlt
    ·exact htr _ _ _ (h1 p j (by omega) (by omega) (by omega) (by omega)) hlt
   ·by_cases b:p=j+1
    ·subst b;exact h2 q hpq (by omega)
    ·exact h1 p q hpq (by omega) b a
theorem outerS_asc (hasym:∀ x y,lt x y=true→lt y x=false) (htr:∀ x y z,lt y x=false→lt z y=false→lt z x=false) {L:List α}:∀ {k:Nat},k<L.length→AscTo lt (outerS lt L k) (k+1)
 | 0,_=>by intro p q h1 h2;omega
 | k+1,h=>by
  have ih:=outerS_asc hasym htr (L:=L) (k:=k) (by omega)
  exact innerS_asc hasym htr (Nat.le_refl _) (by rw[outerS_length];exact h) (fun p q hpq hq hp hq'=>ih p q hpq (by omega)) (fun q h1 h2=>by omega)
theorem innerS_id {L:List α}{i:Nat}(h:AscTo lt L (i+1)):innerS lt L i=L:=by
 cases i with
 | zero=>rfl
 | succ j=>simp only[innerS];rw[h j (j+1) (by omega) (by omega)];simp
end
def rowL {α:Type} [Inhabited α] (e sz:Nat) (enc:α→Nat→D) (l:List α):Own:=.row e sz l.length fun i j=>enc (l.getD i default) j
section
variable {α:Type} [Inhabited α] {ρ:List Nat}{e sz:Nat}{enc:α→Nat→D}
theorem own_refl {l:List α}:OwnRen ρ (rowL e sz enc l) (rowL e sz enc l):=⟨rfl,rfl,rfl,fun _ _ _ _=>Ent.refl _⟩
theorem own_eq {l m:List α}(h:l=m):OwnRen ρ (rowL e sz enc l) (rowL e sz enc m):=h ▸ own_refl
theorem own_nil {f:Nat→Nat→D}:OwnRen ρ (.row e sz 0 f) (rowL e sz enc ([]:List α)):=⟨rfl,rfl,rfl,fun a ha=>by omega⟩
theorem getD_snoc (l:List α) (x:α) (i:Nat):(l++[x]).getD i default=if i<l.length then l.getD i default else if i=l.length then x else default:=by
 simp only[List.getD_eq_getElem?_getD]
 by_cases h:i<l.length
 ·rw[if_pos h,List.getElem?_append_left h]
 ·rw[if_neg h,List.getElem?_append_right (by omega)]
  by_cases h1:i=l.length
  ·subst h1;simp
  ·rw[if_neg h1]
   have:i - l.length≠0:=by omega
   simp[this]
theorem own_app {l:List α}{x:α}{g:Nat→Nat→D}(hg:∀ j,j<sz→Ent (g 0 j) (enc x j)):OwnRen ρ (.row e sz (l.length+1) (catF l.length (fun i j=>enc (l.getD i default) j) g)) (rowL e sz enc (l++[x])):=by
 refine ⟨rfl,rfl,by simp,fun a ha j hj=>?_⟩
 show Ent _ (enc ((l++[x]).getD a default) j)
 unfold catF
 rw[getD_snoc]
 split
 ·exact Ent.refl _
 ·have:a=l.length:=by omega
  subst this
  simp only[Nat.sub_self,if_true]
  exact hg j hj
theorem own_set {l:List α}{a off:Nat}{cs:List D}{x:α}(hx:∀ j,j<sz→Ent (if off≤j then (match cs[j - off]? with|some d=>d|none=>enc (l.getD a default) j) else enc (l.getD a default) j) (enc x j)) (ha:a<l.length):
  OwnRen ρ (.row e sz l.length (updF (fun i j=>enc (l.getD i default) j) a off cs)) (rowL e sz enc (l.set a x)):=by
 refine ⟨rfl,rfl,by simp,fun b hb j hj=>?_⟩
 show Ent _ (enc ((l.set a x).getD b default) j)
 rw[getD_set ha]
 unfold updF
 by_cases h:b=a
 ·subst h;rw[if_pos rfl,if_pos rfl];exact hx j hj
 ·rw[if_neg h,if_neg (fun e=>h e.symm)];exact Ent.refl _
theorem ent_row {l:List α}:Ent (.sl sz l.length fun i j=>enc (l.getD i default) j) (.sl sz l.length fun i j=>enc (l.getD i default) j):=Ent.refl _
end
end Go.Proofs
namespace Go.Proofs
open Go Go.Sx
theorem ins_len:∀ {l:List Rg}{r:Rg},(ins r l).length≤l.length+1
 | [],r=>by simp[ins]
 | s::t,r=>by
  simp only[ins]
  split
  ·simp
  ·split
   ·have:=ins_len (l:=t) (r:=r);simp;omega
   ·have:=ins_len (l:=t) (r:=(min r.1 s.1,max r.2 s.2));simp;omega
theorem canon_len:∀ (l:List Rg),(canon l).length≤l.length
 | []=>by simp[canon]
 | r::l=>by
  have h1:=canon_len l
  have h2:=ins_len (l:=canon l) (r:=clipR r)
  simp only[canon]
  split<;>simp<;>omega
end Go.Proofs
namespace Go.Proofs
open Go Go.Sx
structure Ch where
 what:ByteArray
 lo:Int
 hi:Int
 old:ByteArray
 new:ByteArray
instance:Inhabited Ch:=⟨⟨⟨#[]⟩,0,0,⟨#[]⟩,⟨#[]⟩⟩⟩
def lastC (out:List Ch):Ch:=out.getD (out.length - 1) default
def withHi (x:Ch) (hi:Int):Ch:=⟨x.what,x.lo,hi,x.old,x.new⟩
def joinsC (out:List Ch) (lo:Int) (o n:ByteArray):Prop:=0<out.length∧(lastC out).hi+1=lo∧(lastC out).old=o∧(lastC out).new=n
instance (out:List Ch) (lo:Int) (o n:ByteArray):Decidable (joinsC out lo o n):=inferInstanceAs (Decidable (_∧_))
def addC (w:ByteArray) (out:List Ch) (lo hi:Int) (o n:ByteArray):List Ch :=
 if o=n then out else if joinsC out lo o n then out.set (out.length - 1) (withHi (lastC out) hi) else out++[⟨w,lo,hi,o,n⟩]
theorem lastC_snoc (out:List Ch) (x:Ch):lastC (out++[x])=x:=by
 simp[lastC,List.getD_eq_getElem?_getD]
theorem lastC_set {out:List Ch}(h:0<out.length) (x:Ch):lastC (out.set (out.length - 1) x)=x:=by
 have h1:out.length - 1<out.length:=by omega
 simp[lastC,List.getD_eq_getElem?_getD,h1]
theorem addC_ext (w:ByteArray) (out:List Ch) (lo m hi:Int) (o n:ByteArray):addC w (addC w out lo m o n) (m+1) hi o n=addC w out lo hi o n:=by
 by_cases h:o=n
 ·simp[addC,h]
 ·by_cases hj:joinsC out lo o n
  ·have e:addC w out lo m o n=out.set (out.length - 1) (withHi (lastC out) m):=by rw[addC,if_neg h,if_pos hj]
   have hj2:joinsC (out.set (out.length - 1) (withHi (lastC out) m)) (m+1) o n:=by
    refine ⟨by simpa using hj.1,?_,?_,?_⟩
    ·rw[lastC_set hj.1];rfl
    ·rw[lastC_set hj.1];exact hj.2.2.1
    ·rw[lastC_set hj.1];exact hj.2.2.2
   rw[e,addC,if_neg h,if_pos hj2,lastC_set hj.1,addC,if_neg h,if_pos hj,List.length_set,List.set_set]
   rfl
  ·have e:addC w out lo m o n=out++[⟨w,lo,m,o,n⟩]:=by rw[addC,if_neg h,if_neg hj]
   have hj2:joinsC (out++[⟨w,lo,m,o,n⟩]) (m+1) o n:=by
    refine ⟨by simp,?_,?_,?_⟩<;>rw[lastC_snoc]
   rw[e,addC,if_neg h,if_pos hj2,lastC_snoc,addC,if_neg h,if_neg hj]
   simp[List.set_append_right,withHi]
theorem addC_len (w:ByteArray) (out:List Ch) (lo hi:Int) (o n:ByteArray):(addC w out lo hi o n).length≤out.length+1:=by
 unfold addC
 split
 ·omega
 ·split<;>simp
def chU (w:ByteArray) (va vb:Int→ByteArray):Nat→List Ch
 | 0=>[]
 | k+1=>addC w (chU w va vb k) k k (va k) (vb k)
theorem chU_len (w:ByteArray) (va vb:Int→ByteArray):∀ k,(chU w va vb k).length≤k
 | 0=>Nat.le_refl _
 | k+1=>by
  have h1:=chU_len w va vb k
  have h2:=addC_len w (chU w va vb k) k k (va k) (vb k)
  simp only[chU];omega
theorem chU_seg {w:ByteArray}{va vb:Int→ByteArray}(lo:Nat):∀ k:Nat,(∀ c:Int,(lo:Int)≤c→c≤((lo+k:Nat):Int)→va c=va lo∧vb c=vb lo)→addC w (chU w va vb lo) lo ((lo+k:Nat):Int) (va lo) (vb lo)=chU w va vb (lo+k+1)
 | 0,_=>rfl
 | k+1,h=>by
  have ih:=chU_seg (w:=w) lo k (fun c h1 h2=>h c h1 (by omega))
  have hc:=h ((lo+(k+1):Nat):Int) (by omega) (by omega)
  show _=addC w (chU w va vb (lo+k+1)) ((lo+k+1:Nat):Int) ((lo+k+1:Nat):Int) (va ((lo+k+1:Nat):Int)) (vb ((lo+k+1:Nat):Int))
  have hc1:va ((lo+k+1:Nat):Int)=va lo:=hc.1
  have hc2:vb ((lo+k+1:Nat):Int)=vb lo:=hc.2
  rw[hc1,hc2,← ih]
  have e:((lo+k+1:Nat):Int)=((lo+k:Nat):Int)+1:=by omega
  rw[e,addC_ext]
  congr 1
def chB (w:ByteArray) (va vb:Int→ByteArray) (b:Int):List Ch:=chU w va vb b.toNat
theorem chB_seg {w:ByteArray}{va vb:Int→ByteArray}{lo hi:Int}(h0:0≤lo) (h1:lo≤hi) (hc:∀ c,lo≤c→c≤hi→va c=va lo∧vb c=vb lo):addC w (chB w va vb lo) lo hi (va lo) (vb lo)=chB w va vb (hi+1):=by
 obtain ⟨n,rfl⟩:∃ n:Nat,lo=n:=⟨lo.toNat,by omega⟩
 obtain ⟨k,rfl⟩:∃ k:Nat,hi=((n+k:Nat):Int):=⟨(hi - n).toNat,by omega⟩
 have:=chU_seg (w:=w) n k hc
 unfold chB
 rw[show (((n+k:Nat):Int)+1).toNat=n+k+1 from by omega,show ((n:Int)).toNat=n from by omega]
 exact this
theorem chB_zero (w:ByteArray) (va vb:Int→ByteArray):chB w va vb 0=[]:=rfl
theorem chB_len (w:ByteArray) (va vb:Int→ByteArray) {b:Int}(h:b≤1114112):(chB w va vb b).length≤1114112:=by
 have:=chU_len w va vb b.toNat
 unfold chB
 omega
theorem chU_same (w:ByteArray) (va:Int→ByteArray):∀ k,chU w va va k=[]
 | 0=>rfl
 | k+1=>by rw[chU,addC,if_pos rfl,chU_same w va k]
theorem chU_congr {w:ByteArray}{va vb va' vb':Int→ByteArray}:∀ {k:Nat},(∀ c:Int,0≤c→c<k→va c=va' c∧vb c=vb' c)→chU w va vb k=chU w va' vb' k
 | 0,_=>rfl
 | k+1,h=>by
  have h1:=h k (by omega) (by omega)
  rw[chU,chU,chU_congr (fun c h1 h2=>h c h1 (by omega)),h1.1,h1.2]
def swapC (x:Ch):Ch:=⟨x.what,x.lo,x.hi,x.new,x.old⟩
theorem swap_last {out:List Ch}(h:0<out.length):lastC (out.map swapC)=swapC (lastC out):=by
 have:out.length - 1<out.length:=by omega
 simp[lastC,List.getD_eq_getElem?_getD,this]
theorem addC_swap (w:ByteArray) (out:List Ch) (lo hi:Int) (o n:ByteArray):(addC w out lo hi o n).map swapC=addC w (out.map swapC) lo hi n o:=by
 by_cases h:o=n
 ·simp[addC,h]
 ·have h':¬n=o:=fun e=>h e.symm
  have hl:0<out.length→(lastC (out.map swapC))=swapC (lastC out):=swap_last
  by_cases hj:joinsC out lo o n
  ·have hj2:joinsC (out.map swapC) lo n o:=by
    refine ⟨by simpa using hj.1,?_,?_,?_⟩
    ·rw[hl hj.1];exact hj.2.1
    ·rw[hl hj.1];exact hj.2.2.2
    ·rw[hl hj.1];exact hj.2.2.1
   rw[addC,if_neg h,if_pos hj,addC,if_neg h',if_pos hj2,hl hj.1,List.map_set,List.length_map]
   rfl
  ·have hj2:¬joinsC (out.map swapC) lo n o:=fun hh=>by
    have h0:0<out.length:=by simpa using hh.1
    have h1:=hh.2
    rw[hl h0] at h1
    exact hj ⟨h0,h1.1,h1.2.2,h1.2.1⟩
   rw[addC,if_neg h,if_neg hj,addC,if_neg h',if_neg hj2,List.map_append]
   rfl
theorem chU_swap (w:ByteArray) (va vb:Int→ByteArray):∀ k,(chU w va vb k).map swapC=chU w vb va k
 | 0=>rfl
 | k+1=>by rw[chU,addC_swap,chU_swap w va vb k];rfl
structure ChInv (w:ByteArray) (va vb:Int→ByteArray) (k:Nat) (out:List Ch):Prop where
 each:∀ x∈out,x.what=w∧0≤x.lo∧x.lo≤x.hi∧x.hi<k∧x.old≠x.new∧∀ c,x.lo≤c→c≤x.hi→va c=x.old∧vb c=x.new
 sep:out.Pairwise (fun x y=>x.hi<y.lo)
 touch:∀ i,i+1<out.length→¬((out.getD i default).hi+1=(out.getD (i+1) default).lo∧(out.getD i default).old=(out.getD (i+1) default).old∧(out.getD i default).new=(out.getD (i+1) default).new)
 all:∀ c:Int,0≤c→c<k→va c≠vb c→∃ x∈out,x.lo≤c∧c≤x.hi
theorem getD_snoc_lt {α:Type}{d:α}{l:List α}{x:α}{i:Nat}(h:i<l.length):(l++[x]).getD i d=l.getD i d:=by
 simp[List.getD_eq_getElem?_getD,List.getElem?_append_left h]
theorem getD_snoc_eq {α:Type}{d:α}{l:List α}{x:α}:(l++[x]).getD l.length d=x:=by
 simp[List.getD_eq_getElem?_getD]
theorem snoc_of {α:Type}{l:List α}(h:0<l.length) (d:α):∃ init,l=init++[l.getD (l.length - 1) d]:=by
 refine ⟨l.dropLast,?_⟩
 have hne:l≠[]:=fun e=>by rw[e] at h;simp at h
 have:=List.dropLast_concat_getLast hne
 rw[List.getLast_eq_getElem] at this
 rw[List.getD_eq_getElem?_getD,List.getElem?_eq_getElem (by omega)]
 exact this.symm
theorem chU_inv (w:ByteArray) (va vb:Int→ByteArray):∀ k,ChInv w va vb k (chU w va vb k)
 | 0=>⟨fun x hx=>by simp[chU] at hx,List.Pairwise.nil,fun i hi=>by simp[chU] at hi,fun c h0 h1=>by omega⟩
 | k+1=>by
  have ih:=chU_inv w va vb k
  rw[chU]
  generalize chU w va vb k=out at ih ⊢
  have up:∀ x∈out,x.what=w∧0≤x.lo∧x.lo≤x.hi∧x.hi<((k+1:Nat):Int)∧x.old≠x.new∧∀ c,x.lo≤c→c≤x.hi→va c=x.old∧vb c=x.new:=fun x hx=>by
   obtain ⟨h1,h2,h3,h4,h5⟩:=ih.each x hx
   exact ⟨h1,h2,h3,by omega,h5⟩
  by_cases h:va k=vb k
  ·rw[addC,if_pos h]
   refine ⟨up,ih.sep,ih.touch,fun c h0 h1 hc=>?_⟩
   by_cases hk:c=k
   ·subst hk;exact absurd h hc
   ·exact ih.all c h0 (by omega) hc
  ·by_cases hj:joinsC out k (va k) (vb k)
   ·rw[addC,if_neg h,if_pos hj]
    obtain ⟨init,he⟩:=snoc_of hj.1 (default:Ch)
    have hjl:=hj.2
    change out=init++[lastC out] at he
    generalize lastC out=z at he hjl
    subst he
    have e:(init++[z]).set ((init++[z]).length - 1) (withHi z k)=init++[withHi z k]:=by simp[List.set_append_right]
    rw[e]
    have hz:=ih.each z (by simp)
    have hp:=List.pairwise_append.1 ih.sep
    refine ⟨fun x hx=>?_,List.pairwise_append.2 ⟨hp.1,List.pairwise_singleton _ _,fun a ha b hb=>?_⟩,fun i hi=>?_,fun c h0 h1 hc=>?_⟩
    ·rcases List.mem_append.1 hx with hx|hx
     ·exact up x (by simp[hx])
     ·simp at hx;subst hx
      obtain ⟨h1,h2,h3,h4,h5,h6⟩:=hz
      refine ⟨h1,h2,?_,?_,h5,fun c hc1 hc2=>?_⟩
      ·show z.lo≤(k:Int);omega
      ·show (k:Int)<_;omega
      ·have hc2:c≤(k:Int):=hc2
       by_cases hck:c=k
       ·subst hck;exact ⟨hjl.2.1.symm,hjl.2.2.symm⟩
       ·exact h6 c hc1 (by omega)
    ·simp at hb;subst hb;exact hp.2.2 a ha z (by simp)
    ·have hi:i+1<init.length+1:=by simpa using hi
     have ht:=ih.touch i (by simpa using hi)
     rcases Nat.lt_or_ge (i+1) init.length with h2|h2
     ·rw[getD_snoc_lt h2,getD_snoc_lt (by omega)] at ht ⊢
      exact ht
     ·have h3:i+1=init.length:=by omega
      rw[h3,getD_snoc_eq,getD_snoc_lt (by omega)] at ht ⊢
      exact ht
    ·by_cases hk:c=k
     ·subst hk
      exact ⟨withHi z k,by simp,by show z.lo≤_;omega,Int.le_refl _⟩
     ·obtain ⟨x,hx,h2,h3⟩:=ih.all c h0 (by omega) hc
      rcases List.mem_append.1 hx with hx|hx
      ·exact ⟨x,by simp[hx],h2,h3⟩
      ·simp at hx;subst hx
       exact ⟨withHi x k,by simp,h2,by show c≤(k:Int);omega⟩
   ·rw[addC,if_neg h,if_neg hj]
    refine ⟨fun x hx=>?_,List.pairwise_append.2 ⟨ih.sep,List.pairwise_singleton _ _,fun a ha b hb=>?_⟩,fun i hi=>?_,fun c h0 h1 hc=>?_⟩
    ·rcases List.mem_append.1 hx with hx|hx
     ·exact up x hx
     ·simp at hx;subst hx
      refine ⟨rfl,by show 0≤(k:Int);omega,Int.le_refl _,by show (k:Int)<_;omega,h,fun c h1 h2=>?_⟩
      have h1:(k:Int)≤c:=h1
      have h2:c≤(k:Int):=h2
      have:c=k:=by omega
      subst this;exact ⟨rfl,rfl⟩
    ·simp at hb;subst hb
     exact (ih.each a ha).2.2.2.1
    ·have hi:i+1<out.length+1:=by simpa using hi
     rcases Nat.lt_or_ge (i+1) out.length with h2|h2
     ·rw[getD_snoc_lt h2,getD_snoc_lt (by omega)]
      exact ih.touch i h2
     ·have h3:i+1=out.length:=by omega
      rw[h3,getD_snoc_eq,getD_snoc_lt (by omega)]
      intro hh
      refine hj ⟨by omega,?_⟩
      rw[lastC,show out.length - 1=i from by omega]
      exact hh
    ·by_cases hk:c=k
     ·subst hk
      exact ⟨_,List.mem_append_right _ (List.mem_singleton.2 rfl),Int.le_refl _,Int.le_refl _⟩
     ·obtain ⟨x,hx,h2,h3⟩:=ih.all c h0 (by omega) hc
      exact ⟨x,by simp[hx],h2,h3⟩
end Go.Proofs
