import Derived.Test.YtcihhjjmcompkaaGreatDoorYz
import Derived.Test.YtcihhjjmcompkaaGreatDoorXl6
import Derived.Test.YtcihhjjmcompkaaGreatDoorTxz
import Derived.Test.YtcihhjjmcompkaaGreatDoorY7z
import Derived.Test.YtcihhjjmcompkaaGreatDoorLz
set_option linter.unusedVariables false
set_option linter.unusedSimpArgs false
namespace Go.Proofs
open Go Go.Sx
variable {mx:Int}{pb:Bool}
theorem prs_tx2 {d:Db}{l:List Rg}(hd:SmD d) (hsz:(zca l).size≤65536):prs d (zca l)=(canon l,0,0):=by
 have h:OkS d (zca l):=⟨hd,hsz⟩
 have hC:=za8 l
 have hlen:=zbh l
 have hT:=setTx_L l
 have hsz2:(canon l).length<(zca l).size:=by
  have e1:(zca l).size=(zca l).data.toList.length:=rfl
  have e2:∀ C:List Rg,C.length≤(C.flatMap rgT).length:=fun C=>by
   induction C with
   | nil=>exact Nat.le_refl _
   | cons r C ih =>
    rw[List.flatMap_cons,List.length_append,List.length_cons]
    have:1≤(rgT r).length:=by
     obtain ⟨t,ht⟩:=ze7 r.1
     unfold rgT
     split
     ·rw[ht];simp
     ·rw[ht];simp
    omega
  have:=e2 (canon l)
  rw[e1,hT]
  simp only[List.length_cons,List.length_append]
  omega
 have hr0:rem (zeu d (zca l) h)=91::((canon l).flatMap rgT++[93]):=hT
 have hb0:=zig hr0 (by decide)
 obtain ⟨k0,e0,r0⟩:=zbv hr0
 have e0:pkV (zeu d (zca l) h).1=91:=e0
 obtain ⟨b,R,hbR,hb⟩:=flat_head (C:=canon l)
 have r0':=r0
 rw[hbR] at r0'
 have hb1:=zig r0' (by rcases hb with rfl|rfl<;>decide)
 obtain ⟨k1,e1,_⟩:=zbv r0'
 obtain ⟨q,g1,g2,g3⟩:=grpL_rd (run:=za5 16) (canon l) (f:=(zca l).size+1) (I:=[]) r0 (by omega) (fun r hr=>by
  have:=hC.ok r hr
  exact ⟨zbe.2 ⟨by omega,by omega⟩,zbe.2 ⟨by omega,by omega⟩,by omega⟩)
 have hgr:za5 17 (zeu d (zca l) h)=.ok (endG false [] ([]++canon l)) q:=by
  rw[runGrp_pos k0 (by rw[hb1,e1];rcases hb with rfl|rfl<;>decide),hb1]
  exact g1
 have he:endG false [] ([]++canon l)=canon l:=by
  rw[List.nil_append]
  unfold endG
  rw[if_neg (by decide),canon_id hC,or_nilL hC]
 rw[he] at hgr
 have hk:=rem_nil g2
 refine whole_prs (L:=canon l) (q:=q) ⟨by rw[hb0];exact e0,by rw[hb0];exact hgr,?_,by rw[hb0];exact zbs 17 _ _ _ e0 hgr⟩
 rw[blP_id (fun hh=>by omega),hk]
 rw[show q.1.s=zca l from g3.s]
def zd8 (p:RX):List UInt8:=p.1.s.data.toList.drop p.1.k
theorem zcq {p:RX}{b:UInt8}{r:List UInt8}(h:zd8 p=b::r):∃ hk:p.1.k<p.1.s.size,nxV p.1=b.toNat∧zd8 (zcg p hk)=r:=by
 have hk:p.1.k<p.1.s.data.toList.length:=by
  rcases Nat.lt_or_ge p.1.k p.1.s.data.toList.length with h1|h1
  ·exact h1
  ·unfold zd8 at h
   rw[List.drop_eq_nil_iff.2 h1] at h
   simp at h
 unfold zd8 at h
 rw[List.drop_eq_getElem_cons hk] at h
 injection h with h1 h2
 refine ⟨hk,?_,h2⟩
 rw[nxV_lt hk,zjp hk,h1]
theorem remR_nil {p:RX}(h:zd8 p=[]):¬p.1.k<p.1.s.size:=by
 have h1:p.1.s.data.toList.length≤p.1.k:=List.drop_eq_nil_iff.1 h
 have h3:p.1.s.size=p.1.s.data.toList.length:=rfl
 omega
theorem blR_no {p:RX}(h:¬(p.1.k<p.1.s.size∧bAt p.1.s p.1.k=32)):blR p=p:=Subtype.ext (by show p.1.at (blk p.1.s p.1.k)=p.1;rw[zet h];rfl)
theorem blR_rd {p:RX}{b:UInt8}{r:List UInt8}(h:zd8 p=b::r) (hb:b≠32):blR p=p:=by
 obtain ⟨hk,e,_⟩:=zcq h
 refine blR_no fun hh=>hb ?_
 rw[nxV_lt hk,hh.2] at e
 exact UInt8.toNat_inj.1 (by show b.toNat=32;omega)
theorem blR_sp {p:RX}{r:List UInt8}(h:zd8 p=32::r):∃ q,blR p=blR q∧zd8 q=r∧q.1.db=p.1.db∧q.1.s=p.1.s:=by
 obtain ⟨hk,e,hr⟩:=zcq h
 rw[nxV_lt hk] at e
 refine ⟨zcg p hk,?_,hr,rfl,rfl⟩
 refine Subtype.ext ?_
 show p.1.at (blk p.1.s p.1.k)=p.1.at (blk p.1.s (p.1.k+1))
 rw[zjn hk e]
theorem blR_nil {p:RX}(h:zd8 p=[]):blR p=p:=blR_no fun hh=>remR_nil h hh.1
theorem bAt_dr2 {s:ByteArray}{k:Nat}{b:UInt8}{r:List UInt8}(h:s.data.toList.drop k=b::r):k<s.size∧bAt s k=b.toNat∧s.data.toList.drop (k+1)=r:=by
 have hk:k<s.data.toList.length:=by
  rcases Nat.lt_or_ge k s.data.toList.length with h1|h1
  ·exact h1
  ·rw[List.drop_eq_nil_iff.2 h1] at h
   simp at h
 rw[List.drop_eq_getElem_cons hk] at h
 injection h with h1 h2
 exact ⟨hk,by rw[zjp hk,h1],h2⟩
theorem gr_plain {s:ByteArray}{d:Int}{r:List UInt8}:∀ (ds:List UInt8) {k:Nat},s.data.toList.drop k=ds++r→(∀ b∈ds,b≠92∧b≠91∧b≠93)→grE s k d=grE s (k+ds.length) d∧s.data.toList.drop (k+ds.length)=r
 | [],k,h,_=>⟨rfl,h⟩
 | b::ds,k,h,hb=>by
  rw[List.cons_append] at h
  obtain ⟨h1,h2,h3⟩:=bAt_dr2 h
  obtain ⟨n1,n2,n3⟩:=hb b (by simp)
  have c1:¬bAt s k=92:=fun e=>n1 (UInt8.toNat_inj.1 (by show b.toNat=92;omega))
  have c2:¬bAt s k=91:=fun e=>n2 (UInt8.toNat_inj.1 (by show b.toNat=91;omega))
  have c3:¬bAt s k=93:=fun e=>n3 (UInt8.toNat_inj.1 (by show b.toNat=93;omega))
  have ih:=gr_plain (d:=d) ds (k:=k+1) h3 (fun x hx=>hb x (by simp[hx]))
  rw[grE_else h1 c1 c2 c3]
  rw[show k+(b::ds).length=k+1+ds.length by simp only[List.length_cons];omega]
  exact ih
theorem dg_ok2 {b:UInt8}(h:zgj (b.toNat:Int)):b≠92∧b≠91∧b≠93:=by
 unfold zgj at h
 refine ⟨fun e=>?_,fun e=>?_,fun e=>?_⟩<;>subst e<;>revert h<;>decide
theorem gr_esc {s:ByteArray}{d:Int}{r:List UInt8}{c:Int}(hc:zbb c=true) {k:Nat}(h:s.data.toList.drop k=zhq c++r):grE s k d=grE s (k+(zhq c).length) d∧s.data.toList.drop (k+(zhq c).length)=r:=by
 obtain ⟨h1,_,_,_⟩:=shortX hc
 have e:zhq c=92::117::(123::(zc2 (zfp c)++[125])):=by unfold zhq;simp
 rw[e] at h ⊢
 obtain ⟨k1,b1,r1⟩:=bAt_dr2 h
 obtain ⟨k2,b2,r2⟩:=bAt_dr2 r1
 have g:=gr_plain (s:=s) (d:=d) (r:=r) (123::(zc2 (zfp c)++[125])) (k:=k+1+1) r2 (fun b hb=>by
  rcases List.mem_cons.1 hb with rfl|hb
  ·decide
  ·rcases List.mem_append.1 hb with hb|hb
   ·exact dg_ok2 (h1 b hb)
   ·obtain rfl:b=125:=by simpa using hb
    decide)
 rw[grE_esc k1 b1]
 rw[show k+(92::117::123::(zc2 (zfp c)++[125])).length=k+1+1+(123::(zc2 (zfp c)++[125])).length by simp only[List.length_cons];omega]
 exact g
theorem gr_rg {s:ByteArray}{d:Int}{r:List UInt8}{x:Rg}(h1:zbb x.1=true) (h2:zbb x.2=true) {k:Nat}(h:s.data.toList.drop k=rgT x++r):grE s k d=grE s (k+(rgT x).length) d∧s.data.toList.drop (k+(rgT x).length)=r:=by
 unfold rgT at h ⊢
 split at h
 ·rename_i hx
  rw[if_pos hx]
  exact gr_esc h1 h
 ·rename_i hx
  rw[if_neg hx]
  rw[List.append_assoc] at h
  obtain ⟨g1,g2⟩:=gr_esc (d:=d) h1 h
  obtain ⟨g3,g4⟩:=gr_plain (s:=s) (d:=d) [45] (r:=zhq x.2++r) g2 (by decide)
  obtain ⟨g5,g6⟩:=gr_esc (d:=d) h2 g4
  rw[g1,g3,g5]
  rw[show k+(zhq x.1++45::zhq x.2).length=k+(zhq x.1).length+[(45:UInt8)].length+(zhq x.2).length by simp only[List.length_append,List.length_cons,List.length_nil];omega]
  exact ⟨rfl,g6⟩
theorem gr_rgs {s:ByteArray}{r:List UInt8}:∀ (C:List Rg) {k:Nat},(∀ x∈C,zbb x.1=true∧zbb x.2=true)→s.data.toList.drop k=C.flatMap rgT++93::r→grE s k 1=(k+(C.flatMap rgT).length+1,true)
 | [],k,_,h=>by
  obtain ⟨h1,h2,h3⟩:=bAt_dr2 h
  exact grE_end h1 h2 rfl
 | x::C,k,hC,h=>by
  obtain ⟨v1,v2⟩:=hC x (by simp)
  rw[List.flatMap_cons,List.append_assoc] at h
  obtain ⟨g1,g2⟩:=gr_rg (d:=1) v1 v2 h
  rw[g1,gr_rgs C (fun y hy=>hC y (by simp[hy])) g2,List.flatMap_cons,List.length_append]
  refine Prod.ext ?_ rfl
  show k+(rgT x).length+(C.flatMap rgT).length+1=k+((rgT x).length+(C.flatMap rgT).length)+1
  omega
theorem gr_set {s:ByteArray}{r:List UInt8}{S:List Rg}{k:Nat}(h:s.data.toList.drop k=stL S++r):grE s k 0=(k+(stL S).length,true):=by
 have hC:=za8 S
 have e:stL S=91::((canon S).flatMap rgT++[93]):=setTx_L S
 rw[e] at h ⊢
 rw[List.cons_append,List.append_assoc] at h
 obtain ⟨h1,h2,h3⟩:=bAt_dr2 h
 rw[grE_opn h1 h2,show (0:Int)+1=1 from rfl,gr_rgs (canon S) (fun x hx=>by
  have:=hC.ok x hx
  exact ⟨zbe.2 ⟨by omega,by omega⟩,zbe.2 ⟨by omega,by omega⟩⟩) h3]
 simp only[List.length_cons,List.length_append,List.length_nil]
 rw[show k+1+((canon S).flatMap rgT).length+1=k+(((canon S).flatMap rgT).length+(0+1)+1) by omega]
theorem runGr_rd {p:RX}{S:List Rg}{r:List UInt8}(h:zd8 p=stL S++r):∃ q,zhf p ()=.ok (.v (.string (zca S))) q∧zd8 q=r∧q.1.db=p.1.db∧q.1.s=p.1.s:=by
 have hg:=gr_set h
 have hlen:p.1.k+(stL S).length≤p.1.s.size+1:=by have:=(zjb (s:=p.1.s) (p.1.s.size - p.1.k) p.1.k 0 p.2.2.1).2.1;unfold grE at hg;rw[hg] at this;exact this
 have hcut:zcd p.1.s p.1.k (p.1.k+(stL S).length)=zca S:=by
  have h1:(zcd p.1.s p.1.k (p.1.k+(stL S).length)).data.toList=stL S:=by
   show (p.1.s.data.toList.take (p.1.k+(stL S).length)).drop p.1.k=stL S
   rw[List.drop_take,show p.1.k+(stL S).length - p.1.k=(stL S).length by omega]
   have h':p.1.s.data.toList.drop p.1.k=stL S++r:=h
   rw[h',List.take_left]
  exact congrArg bl h1
 refine ⟨goR p (p.1.k+(stL S).length) hlen,?_,?_,rfl,rfl⟩
 ·rw[runGr_ok hg hlen,hcut]
 ·show p.1.s.data.toList.drop (p.1.k+(stL S).length)=r
  have h':p.1.s.data.toList.drop p.1.k=stL S++r:=h
  rw[← List.drop_drop,h',List.drop_left]
theorem esF_rd {r:List UInt8}:∀ (ds:List UInt8) {f:Nat}{p:RX}{c:Int}{n:Nat},zd8 p=ds++125::r→(∀ b∈ds,zgj (b.toNat:Int))→ds.length<f→n+ds.length≤6→0≤c→zg9 ds c≤1114111→(n=0→ds≠[])→∃ q,esF f p c n=.ok (.v (.int .i64 (zg9 ds c))) q∧zd8 q=r∧q.1.db=p.1.db∧q.1.s=p.1.s
 | [],0,p,c,n,_,_,h,_,_,_,_=>by simp at h
 | [],f+1,p,c,n,h,_,_,_,_,_,hn=>by
  obtain ⟨hk,e,hr⟩:=zcq h
  have e:nxV p.1=125:=e
  rw[esF,dif_pos e,if_neg (fun h0=>hn h0 rfl)]
  exact ⟨_,rfl,hr,rfl,rfl⟩
 | b::ds,0,p,c,n,_,_,h,_,_,_,_=>by simp at h
 | b::ds,f+1,p,c,n,h,hd,hf,hl,h0,hm,_=>by
  obtain ⟨hk,e,hr⟩:=zcq h
  have h1:=hd b (by simp)
  have h2:0≤dgI (b.toNat:Int):=by unfold zgj at h1;unfold dgI;split<;>omega
  have hd':∀ x∈ds,zgj (x.toNat:Int):=fun x hx=>hd x (by simp[hx])
  have h3:=foldX_le ds (c:=c*16+dgI b.toNat) hd' (by omega)
  have hm:zg9 ds (c*16+dgI b.toNat)≤1114111:=hm
  simp only[List.length_cons] at hf hl
  have hne:¬nxV p.1=125:=by rw[e];unfold zgj at h1;omega
  have hdg:zgj (nxV p.1):=by rw[e];exact h1
  have ec:c*16+dgI b.toNat=16*c+dgI (nxV p.1):=by rw[e];omega
  rw[ec] at hm h3
  obtain ⟨q,g1,g2,g3,g4⟩:=esF_rd ds (f:=f) (p:=zcg p (dgR_lt hdg)) (c:=16*c+dgI (nxV p.1)) (n:=n+1) hr hd' (by omega) (by omega) (by rw[e];omega) hm (by omega)
  refine ⟨q,?_,g2,g3,g4⟩
  rw[esF,dif_neg hne,dif_pos hdg,if_neg (by omega),g1]
  show OutR.ok (D.v (.int .i64 (zg9 ds _))) q=.ok (.v (.int .i64 (zg9 ds (c*16+dgI b.toNat)))) q
  rw[ec]
theorem tk1_rd {p:RX}{b:UInt8}{r:List UInt8}{f:RX→OutR}(h:zd8 p=b::r) (hb:b≠0):∃ q,tk1 p b.toNat f=f q∧zd8 q=r∧q.1.db=p.1.db∧q.1.s=p.1.s:=by
 obtain ⟨hk,e,hr⟩:=zcq h
 refine ⟨zcg p hk,?_,hr,rfl,rfl⟩
 unfold tk1
 rw[if_pos e,zii e (fun h0=>hb (UInt8.toNat_inj.1 (by show b.toNat=0;omega)))]
theorem runEs_rd {p:RX}{c:Int}{r:List UInt8}(hc:zbb c=true) (h:zd8 p=zhq c++r):∃ q,zg8 p ()=.ok (.v (.int .i64 c)) q∧zd8 q=r∧q.1.db=p.1.db∧q.1.s=p.1.s:=by
 obtain ⟨h1,h2,h3,h4⟩:=shortX hc
 have hv:=zbe.1 hc
 have e:zhq c++r=92::117::123::(zc2 (zfp c)++125::r):=by unfold zhq;simp
 rw[e] at h
 unfold zg8
 obtain ⟨q1,e1,r1,d1,s1⟩:=tk1_rd (f:=fun p=>tk1 p 117 fun p=>tk1 p 123 fun p=>esF 8 p 0 0) h (by decide)
 obtain ⟨q2,e2,r2,d2,s2⟩:=tk1_rd (f:=fun p=>tk1 p 123 fun p=>esF 8 p 0 0) r1 (by decide)
 obtain ⟨q3,e3,r3,d3,s3⟩:=tk1_rd (f:=fun p=>esF 8 p 0 0) r2 (by decide)
 obtain ⟨q4,e4,r4,d4,s4⟩:=esF_rd (zc2 (zfp c)) (f:=8) (c:=0) (n:=0) r3 h1 (by omega) (by omega) (by decide) (by rw[h2];exact hv.2) (fun _=>h4)
 rw[h2] at e4
 refine ⟨q4,?_,r4,d4.trans (d3.trans (d2.trans d1)),s4.trans (s3.trans (s2.trans s1))⟩
 exact (e1.trans (e2.trans (e3.trans e4)))
end Go.Proofs
namespace Go.Proofs
open Go Go.Sx
variable {mx:Int}{pb:Bool}
theorem zgu {α:Type} [Inhabited α] {l:List α}{i:Nat}(h:i<l.length):l.getD i default=l[i]:=by simp[List.getD_eq_getElem?_getD,h]
theorem stsL_take (L:List (List Rg)):∀ k,k≤L.length→stsL L k=(L.take k).flatMap stL
 | 0,_=>rfl
 | k+1,hk=>by
  rw[List.take_succ_eq_append_getElem hk,List.flatMap_append,List.flatMap_cons,List.flatMap_nil,List.append_nil,← stsL_take L k (by omega),← zgu hk]
  rfl
theorem stsL_all (L:List (List Rg)):stsL L L.length=L.flatMap stL:=by rw[stsL_take L _ (Nat.le_refl _),List.take_length]
theorem pcsL_take (L:List Rg):∀ k,k≤L.length→pcsL L k=(L.take k).flatMap pcL
 | 0,_=>rfl
 | k+1,hk=>by
  rw[List.take_succ_eq_append_getElem hk,List.flatMap_append,List.flatMap_cons,List.flatMap_nil,List.append_nil,← pcsL_take L k (by omega),← zgu hk]
  rfl
theorem pcsL_all (L:List Rg):pcsL L L.length=L.flatMap pcL:=by rw[pcsL_take L _ (Nat.le_refl _),List.take_length]
theorem rlsL_take (L:List Tl):∀ k,k≤L.length→rlsL L k=(L.take k).flatMap rlL
 | 0,_=>rfl
 | k+1,hk=>by
  rw[List.take_succ_eq_append_getElem hk,List.flatMap_append,List.flatMap_cons,List.flatMap_nil,List.append_nil,← rlsL_take L k (by omega),← zgu hk]
  rfl
theorem rlsL_all (L:List Tl):rlsL L L.length=L.flatMap rlL:=by rw[rlsL_take L _ (Nat.le_refl _),List.take_length]
theorem stL_head (S:List Rg):∃ t,stL S=91::t:=⟨_,setTx_L S⟩
theorem bcat_em (t:ByteArray):zbq (zbq emS t) emS=t:=by
 have:(zbq (zbq emS t) emS).data.toList=t.data.toList:=by show ([]++t.data.toList)++[]=_;simp
 exact congrArg bl this
noncomputable def elG (f:Nat) (x:RX) (L:List (List Rg)):OutS (List Rg):=
 if h:isL (nxV x.1) then elF f (zcg x (by unfold isL at h;exact (zh5 (p:=x.1) rfl (by omega)).1)) (L++[canon [(nxV x.1,nxV x.1)]])
 else if nxV x.1=91 then
  (match zhf x () with
  | .bad q=>.bad q
  | .ok d q=>xpL q (dS d) emS emS fun S q=>elF f q (L++[S]))
 else if nxV x.1=92∧hpB (zcd x.1.s x.1.k x.1.s.size) clsT=true then
  (match runCl x () with
  | .bad q=>.bad q
  | .ok d q=>xpL q (dS d) lbS rbS fun S q=>elF f q (L++[S]))
 else if nxV x.1=92 then
  (match zg8 x () with
  | .bad q=>.bad q
  | .ok d q=>elF f q (L++[canon [(dI d,dI d)]]))
 else .ok L x
theorem elF_G (f:Nat) (p:RX) (L:List (List Rg)):elF (f+1) p L=elG f (blR p) L:=by
 rw[elF]
 rfl
def Stp (b:UInt8):Prop:=b=123∨b=125∨b=62
theorem el_stop {f:Nat}{p:RX}{L:List (List Rg)}{b:UInt8}{r:List UInt8}(hb:Stp b) (h:zd8 (blR p)=b::r):elF (f+1) p L=.ok L (blR p):=by
 obtain ⟨hk,e,_⟩:=zcq h
 have hn:nxV (blR p).1=123∨nxV (blR p).1=125∨nxV (blR p).1=62:=by
  rcases hb with rfl|rfl|rfl
  ·exact .inl e
  ·exact .inr (.inl e)
  ·exact .inr (.inr e)
 rw[elF,dif_neg (by unfold isL;omega),if_neg (by omega),if_neg (fun hh=>by omega),if_neg (by omega)]
theorem el_rd {b:UInt8}{r:List UInt8}(hb:Stp b):∀ (M:List (List Rg)) {f:Nat}{p:RX}{L:List (List Rg)},(zd8 p=M.flatMap stL++32::b::r∨zd8 p=M.flatMap stL++b::r)→M.length<f→(∀ S∈M,canon S=S∧(zca S).size≤65536)→∃ q,elF f p L=.ok (L++M) q∧zd8 q=b::r∧q.1.db=p.1.db∧q.1.s=p.1.s
 | M,0,p,L,_,hf,_=>by omega
 | [],f+1,p,L,h,_,_=>by
  have hb2:b≠32:=by rcases hb with rfl|rfl|rfl<;>decide
  rcases h with h|h
  ·obtain ⟨q,e1,e2,e3,e4⟩:=blR_sp (show zd8 p=32::b::r from h)
   have e5:=blR_rd e2 hb2
   have e6:zd8 (blR p)=b::r:=by rw[e1,e5];exact e2
   refine ⟨blR p,by rw[List.append_nil];exact el_stop hb e6,e6,?_,?_⟩
   ·rw[e1,e5];exact e3
   ·rw[e1,e5];exact e4
  ·have e5:=blR_rd (show zd8 p=b::r from h) hb2
   have e6:zd8 (blR p)=b::r:=by rw[e5];exact h
   refine ⟨blR p,by rw[List.append_nil];exact el_stop hb e6,e6,?_,?_⟩
   ·rw[e5]
   ·rw[e5]
 | S::M,f+1,p,L,h,hf,hM=>by
  obtain ⟨hS1,hS2⟩:=hM S (by simp)
  obtain ⟨t,ht⟩:=stL_head S
  obtain ⟨R,h1,hR⟩:∃ R,zd8 p=stL S++R∧(R=M.flatMap stL++32::b::r∨R=M.flatMap stL++b::r):=by
   rcases h with h|h
   ·exact ⟨_,by rw[h,List.flatMap_cons,List.append_assoc],.inl rfl⟩
   ·exact ⟨_,by rw[h,List.flatMap_cons,List.append_assoc],.inr rfl⟩
  have h2:zd8 p=91::(t++R):=by rw[h1,ht];rfl
  have hbl:=blR_rd h2 (by decide)
  obtain ⟨hk,e,_⟩:=zcq h2
  have e:nxV p.1=91:=e
  obtain ⟨q,g1,g2,g3,g4⟩:=runGr_rd h1
  have hx:∀ F:List Rg→RX→OutS (List Rg),xpL q (zca S) emS emS F=F S q:=fun F=>by
   unfold xpL
   have hp:=prs_tx2 (d:=q.1.db) (l:=S) q.2.1 hS2
   rw[bcat_em,hp,if_pos rfl,hS1]
  obtain ⟨q2,g5,g6,g7,g8⟩:=el_rd hb M (f:=f) (p:=q) (L:=L++[S]) (by rw[g2];exact hR) (by simp at hf;omega) (fun x hx=>hM x (by simp[hx]))
  refine ⟨q2,?_,g6,g7.trans g3,g8.trans g4⟩
  have e':nxV (blR p).1=91:=by rw[hbl];exact e
  have g1':zhf (blR p) ()=.ok (.v (.string (zca S))) q:=by rw[hbl];exact g1
  rw[elF,dif_neg (by rw[e'];unfold isL;omega),if_pos e',g1']
  dsimp only
  rw[show dS (D.v (.string (zca S)))=zca S from rfl,hx,g5,List.append_assoc]
  rfl
def PcR (x:Rg):Prop:=(x.2=0∧zbb x.1=true)∨(x.1=0∧1≤x.2∧x.2≤8)
theorem pcL_ne {x:Rg}:∃ b t,pcL x=b::t∧(b=92∨b=36):=by
 unfold pcL
 split
 ·obtain ⟨t,ht⟩:=ze7 x.1
  exact ⟨92,_,ht,.inl rfl⟩
 ·exact ⟨36,_,rfl,.inr rfl⟩
theorem cp_byte {n:Int}(h1:1≤n) (h2:n≤8):((UInt8.ofNat (48+n).toNat).toNat:Int)=48+n:=by
 have:∀ i:Fin 9,((UInt8.ofNat (48+(i.1:Int)).toNat).toNat:Int)=48+(i.1:Int):=by decide
 have e:((n.toNat:Nat):Int)=n:=by omega
 have:=this ⟨n.toNat,by omega⟩
 simp only[e] at this
 exact this
theorem pc_rd:∀ (R:List Rg) {f:Nat}{p:RX}{L:List Rg},(zd8 p=R.flatMap pcL∨(zd8 p=32::R.flatMap pcL∧R≠[]))→R.length<f→(∀ x∈R,PcR x)→∃ q,pcF f p L=.ok (L++R) q
 | R,0,p,L,_,hf,_=>by omega
 | [],f+1,p,L,h,_,_=>by
  have h:zd8 p=[]:=by
   rcases h with h|⟨_,h⟩
   ·exact h
   ·exact absurd rfl h
  have hbl:=blR_nil h
  refine ⟨blR p,?_⟩
  rw[pcF,dif_neg (by rw[hbl];exact remR_nil h),List.append_nil]
 | x::R,f+1,p,L,h,hf,hR=>by
  obtain ⟨b,t,hbt,hb⟩:=pcL_ne (x:=x)
  have hb2:b≠32:=by rcases hb with rfl|rfl<;>decide
  obtain ⟨p',hbl,hrem⟩:∃ p':RX,blR p=p'∧zd8 p'=pcL x++R.flatMap pcL:=by
   rcases h with h|⟨h,_⟩
   ·have h':zd8 p=b::(t++R.flatMap pcL):=by rw[h,List.flatMap_cons,hbt];rfl
    exact ⟨p,blR_rd h' hb2,by rw[h,List.flatMap_cons]⟩
   ·obtain ⟨q,e1,e2,_,_⟩:=blR_sp h
    have h':zd8 q=b::(t++R.flatMap pcL):=by rw[e2,List.flatMap_cons,hbt];rfl
    exact ⟨q,by rw[e1];exact blR_rd h' hb2,by rw[e2,List.flatMap_cons]⟩
  subst hbl
  have next:∀ {q:RX},zd8 q=R.flatMap pcL→∃ q2,pcF f q (L++[x])=.ok (L++x::R) q2:=fun {q} hq=>by
   obtain ⟨q2,g⟩:=pc_rd R (f:=f) (p:=q) (L:=L++[x]) (.inl hq) (by simp at hf;omega) (fun y hy=>hR y (by simp[hy]))
   exact ⟨q2,by rw[g,List.append_assoc];rfl⟩
  rcases hR x (by simp) with ⟨h0,hv⟩|⟨h0,h1,h8⟩
  ·have hx:pcL x=zhq x.1:=if_pos h0
   rw[hx] at hrem
   obtain ⟨q,g1,g2,_,_⟩:=runEs_rd hv hrem
   obtain ⟨t2,ht2⟩:=ze7 x.1
   obtain ⟨hk,e,_⟩:=zcq (show zd8 (blR p)=92::((117::t2)++R.flatMap pcL) by rw[hrem,ht2];rfl)
   have e:nxV (blR p).1=92:=e
   obtain ⟨q2,g3⟩:=next g2
   refine ⟨q2,?_⟩
   rw[pcF,dif_pos hk,if_neg (by rw[e];unfold isL;omega),if_pos e,g1]
   dsimp only
   rw[show (dI (D.v (.int .i64 x.1)),(0:Int))=x from Prod.ext rfl h0.symm]
   exact g3
  ·have hx:pcL x=[36,UInt8.ofNat (48+x.2).toNat]:=if_neg (by omega)
   rw[hx] at hrem
   obtain ⟨hk,e,r1⟩:=zcq (show zd8 (blR p)=36::(UInt8.ofNat (48+x.2).toNat::R.flatMap pcL) from hrem)
   have e:nxV (blR p).1=36:=e
   obtain ⟨hk2,e2,r2⟩:=zcq r1
   rw[cp_byte h1 h8] at e2
   obtain ⟨q2,g3⟩:=next r2
   refine ⟨q2,?_⟩
   rw[pcF,dif_pos hk,if_neg (by rw[e];unfold isL;omega),if_neg (by omega),if_pos e,dif_pos (by omega)]
   rw[show ((0:Int),nxV (zcg (blR p) hk).1 - 48)=x from Prod.ext h0.symm (by show _ - 48=x.2;omega)]
   exact g3
def lnTx (x:Tl):List UInt8:=(if x.bef=[] then [] else x.bef.flatMap stL++[32])++123::32::(x.mat.flatMap stL++32::125::32::(x.aft.flatMap stL++32::62::(if x.res=[] then [] else 32::x.res.flatMap pcL)))
theorem rdEl {p:RX}{b:UInt8}{r:List UInt8}{M:List (List Rg)}(hb:Stp b) (h:zd8 p=M.flatMap stL++32::b::r∨zd8 p=M.flatMap stL++b::r∨zd8 p=32::(M.flatMap stL++32::b::r)) (hM:∀ S∈M,canon S=S∧(zca S).size≤65536):∃ q,zil p=.ok M q∧zd8 q=b::r∧q.1.db=p.1.db∧q.1.s=p.1.s:=by
 have hfl:M.length≤(M.flatMap stL).length:=by
  clear h hM
  induction M with
  | nil=>exact Nat.le_refl _
  | cons S M ih =>
   obtain ⟨t,ht⟩:=stL_head S
   rw[List.flatMap_cons,List.length_append,ht]
   simp only[List.length_cons]
   omega
 have hrl:(zd8 p).length≤p.1.s.size:=by
  show (p.1.s.data.toList.drop _).length≤p.1.s.data.toList.length
  rw[List.length_drop]
  omega
 have hlt:M.length<p.1.s.size+2:=by
  rcases h with h|h|h<;>rw[h] at hrl<;>simp only[List.length_append,List.length_cons] at hrl<;>omega
 rcases h with h|h|h
 ·exact el_rd hb M (L:=[]) (.inl h) hlt hM
 ·exact el_rd hb M (L:=[]) (.inr h) hlt hM
 ·-- a blank ahead
  obtain ⟨p2,e1,e2,e3,e4⟩:=blR_sp h
  obtain ⟨q,g1,g2,g3,g4⟩:=el_rd hb M (f:=p.1.s.size+2) (p:=p2) (L:=[]) (.inl e2) hlt hM
  refine ⟨q,?_,g2,g3.trans e3,g4.trans e4⟩
  have hsame:∀ n,elF (n+1) p []=elF (n+1) p2 []:=fun n=>by rw[elF_G,elF_G,e1]
  show elF (p.1.s.size+1+1) p []=_
  rw[hsame]
  exact g1
theorem tk_rd {p:RX}{b:UInt8}{r:List UInt8}(h:zd8 p=b::r) (hb:b≠0):nxV p.1=b.toNat∧zd8 (tkR p b.toNat)=r∧(tkR p b.toNat).1.db=p.1.db∧(tkR p b.toNat).1.s=p.1.s:=by
 obtain ⟨hk,e,hr⟩:=zcq h
 rw[zii e (fun h0=>hb (UInt8.toNat_inj.1 (by show b.toNat=0;omega)))]
 exact ⟨e,hr,rfl,rfl⟩
structure RdR (x:Tl):Prop where
 b:∀ S∈x.bef,canon S=S∧(zca S).size≤65536
 m:∀ S∈x.mat,canon S=S∧(zca S).size≤65536
 a:∀ S∈x.aft,canon S=S∧(zca S).size≤65536
 r:∀ y∈x.res,PcR y
theorem rul_rd {p:RX}{x:Tl}(hx:RdR x) (h:zd8 p=lnTx x):rulP p=some x:=by
 obtain ⟨r1,hr1⟩:∃ r1,r1=32::(x.mat.flatMap stL++32::125::32::(x.aft.flatMap stL++32::62::(if x.res=[] then [] else 32::x.res.flatMap pcL))):=⟨_,rfl⟩
 have h0:zd8 p=x.bef.flatMap stL++32::123::r1∨zd8 p=x.bef.flatMap stL++123::r1∨zd8 p=32::(x.bef.flatMap stL++32::123::r1):=by
  rw[h,hr1]
  unfold lnTx
  by_cases hb:x.bef=[]
  ·rw[if_pos hb,hb]
   exact .inr (.inl rfl)
  ·rw[if_neg hb,List.append_assoc]
   exact .inl rfl
 obtain ⟨q1,g1,g2,_,_⟩:=rdEl (.inl rfl) h0 hx.b
 obtain ⟨t1,t2,_,_⟩:=tk_rd g2 (by decide)
 have t1:nxV q1.1=123:=t1
 have t2:zd8 (tkR q1 123)=r1:=t2
 rw[hr1] at t2
 obtain ⟨q2,g3,g4,_,_⟩:=rdEl (.inr (.inl rfl)) (.inr (.inr t2)) hx.m
 obtain ⟨t3,t4,_,_⟩:=tk_rd g4 (by decide)
 have t3:nxV q2.1=125:=t3
 have t4:zd8 (tkR q2 125)=32::(x.aft.flatMap stL++32::62::(if x.res=[] then [] else 32::x.res.flatMap pcL)):=t4
 obtain ⟨q3,g5,g6,_,_⟩:=rdEl (.inr (.inr rfl)) (.inr (.inr t4)) hx.a
 obtain ⟨t5,t6,_,_⟩:=tk_rd g6 (by decide)
 have t5:nxV q3.1=62:=t5
 have t6:zd8 (tkR q3 62)=if x.res=[] then [] else 32::x.res.flatMap pcL:=t6
 have hrl:(zd8 (tkR q3 62)).length≤(tkR q3 62).1.s.size:=by
  show (List.drop _ _).length≤(tkR q3 62).1.s.data.toList.length
  rw[List.length_drop]
  omega
 have hfl:∀ R:List Rg,R.length≤(R.flatMap pcL).length:=fun R=>by
  induction R with
  | nil=>exact Nat.le_refl _
  | cons y R ih =>
   obtain ⟨b,t,ht,_⟩:=pcL_ne (x:=y)
   rw[List.flatMap_cons,List.length_append,ht]
   simp only[List.length_cons]
   omega
 have h7:zd8 (tkR q3 62)=x.res.flatMap pcL∨(zd8 (tkR q3 62)=32::x.res.flatMap pcL∧x.res≠[]):=by
  by_cases hr:x.res=[]
  ·rw[if_pos hr] at t6
   rw[t6,hr]
   exact .inl rfl
  ·rw[if_neg hr] at t6
   exact .inr ⟨t6,hr⟩
 have hlt:x.res.length<(tkR q3 62).1.s.size+2:=by
  have:=hfl x.res
  rcases h7 with h7|⟨h7,_⟩<;>rw[h7] at hrl
  ·omega
  ·simp only[List.length_cons] at hrl
   omega
 obtain ⟨q4,g7⟩:=pc_rd x.res (f:=(tkR q3 62).1.s.size+2) (L:=[]) h7 hlt hx.r
 unfold rulP
 rw[g1]
 dsimp only
 rw[if_pos t1,g3]
 dsimp only
 unfold aftP
 rw[if_pos t3,g5]
 dsimp only
 unfold finP
 rw[if_pos t5]
 unfold runPc
 rw[g7]
 rfl
end Go.Proofs
namespace Go.Proofs
open Go Go.Sx
variable {mx:Int}{pb:Bool}
def Okc (b:UInt8):Prop:=b≠10∧b≠35∧b≠32
instance (b:UInt8):Decidable (Okc b):=inferInstanceAs (Decidable (_∧_))
theorem okc_dg {b:UInt8}(h:zgj (b.toNat:Int)):Okc b:=by
 unfold zgj at h
 refine ⟨fun e=>?_,fun e=>?_,fun e=>?_⟩<;>subst e<;>revert h<;>decide
theorem okc_esc {c:Int}(hc:zbb c=true):∀ b∈zhq c,Okc b:=by
 obtain ⟨h1,_,_,_⟩:=shortX hc
 intro b hb
 unfold zhq at hb
 rcases List.mem_append.1 hb with hb|hb
 ·rcases List.mem_append.1 hb with hb|hb
  ·rcases (by simpa using hb:b=92∨b=117∨b=123) with rfl|rfl|rfl<;>decide
  ·exact okc_dg (h1 b hb)
 ·obtain rfl:b=125:=by simpa using hb
  decide
theorem okc_set (S:List Rg):∀ b∈stL S,Okc b:=by
 have hC:=za8 S
 intro b hb
 rw[show stL S=91::((canon S).flatMap rgT++[93]) from setTx_L S] at hb
 rcases List.mem_cons.1 hb with rfl|hb
 ·decide
 rcases List.mem_append.1 hb with hb|hb
 ·obtain ⟨x,hx,hb⟩:=List.mem_flatMap.1 hb
  have:=hC.ok x hx
  have v1:zbb x.1=true:=zbe.2 ⟨by omega,by omega⟩
  have v2:zbb x.2=true:=zbe.2 ⟨by omega,by omega⟩
  unfold rgT at hb
  split at hb
  ·exact okc_esc v1 b hb
  ·rcases List.mem_append.1 hb with hb|hb
   ·exact okc_esc v1 b hb
   ·rcases List.mem_cons.1 hb with rfl|hb
    ·decide
    ·exact okc_esc v2 b hb
 ·obtain rfl:b=93:=by simpa using hb
  decide
theorem okc_pc {x:Rg}(hx:PcR x):∀ b∈pcL x,Okc b:=by
 intro b hb
 rcases hx with ⟨h0,hv⟩|⟨h0,h1,h8⟩
 ·rw[show pcL x=zhq x.1 from if_pos h0] at hb
  exact okc_esc hv b hb
 ·rw[show pcL x=[36,UInt8.ofNat (48+x.2).toNat] from if_neg (by omega)] at hb
  rcases (by simpa using hb:b=36∨b=UInt8.ofNat (48+x.2).toNat) with rfl|rfl
  ·decide
  ·have e:=cp_byte h1 h8
   refine ⟨fun h=>?_,fun h=>?_,fun h=>?_⟩<;>rw[h] at e<;>revert e<;>simp<;>omega
def lnW (x:Tl):List UInt8:=hdL x++pcsL x.res x.res.length
theorem lnW_eq (x:Tl):lnW x=x.bef.flatMap stL++([32,123,32]++(x.mat.flatMap stL++([32,125,32]++(x.aft.flatMap stL++([32,62,32]++x.res.flatMap pcL))))):=by
 unfold lnW hdL
 rw[stsL_all,stsL_all,stsL_all,pcsL_all]
 simp only[List.append_assoc]
theorem lnW_T (x:Tl):lnW x=(if x.bef=[] then [32] else [])++lnTx x++(if x.res=[] then [32] else []):=by
 rw[lnW_eq]
 unfold lnTx
 by_cases hb:x.bef=[]<;>by_cases hr:x.res=[]
 ·rw[if_pos hb,if_pos hb,if_pos hr,if_pos hr,hb,hr];simp
 ·rw[if_pos hb,if_pos hb,if_neg hr,if_neg hr,hb];simp
 ·rw[if_neg hb,if_neg hb,if_pos hr,if_pos hr,hr];simp
 ·rw[if_neg hb,if_neg hb,if_neg hr,if_neg hr];simp
theorem lnW_ok {x:Tl}(hx:RdR x):∀ b∈lnW x,b≠10∧b≠35:=by
 have key:∀ {L:List (List Rg)}{b:UInt8},b∈L.flatMap stL→b≠10∧b≠35:=fun {L b} hb=>by
  obtain ⟨S,_,hS⟩:=List.mem_flatMap.1 hb
  have:=okc_set S b hS
  exact ⟨this.1,this.2.1⟩
 have k3:∀ {b c:UInt8},(c=123∨c=125∨c=62)→b∈([32,c,32]:List UInt8)→b≠10∧b≠35:=fun {b c} hc hb=>by
  rcases (by simpa using hb:b=32∨b=c∨b=32) with rfl|rfl|rfl
  ·decide
  ·rcases hc with rfl|rfl|rfl<;>decide
  ·decide
 intro b hb
 rw[lnW_eq] at hb
 rcases List.mem_append.1 hb with hb|hb
 ·exact key hb
 rcases List.mem_append.1 hb with hb|hb
 ·exact k3 (.inl rfl) hb
 rcases List.mem_append.1 hb with hb|hb
 ·exact key hb
 rcases List.mem_append.1 hb with hb|hb
 ·exact k3 (.inr (.inl rfl)) hb
 rcases List.mem_append.1 hb with hb|hb
 ·exact key hb
 rcases List.mem_append.1 hb with hb|hb
 ·exact k3 (.inr (.inr rfl)) hb
 obtain ⟨y,hy,hb⟩:=List.mem_flatMap.1 hb
 have:=okc_pc (hx.r y hy) b hb
 exact ⟨this.1,this.2.1⟩
theorem cutA_no {l:List UInt8}(h:∀ b∈l,b≠35):cutA (zea l) hash1=zea l:=by
 show zea (Lib.cut l [35]).1=_
 rw[cut_none (fun j _=>?_)]
 unfold Lib.occAt
 by_cases hjl:j<l.length
 ·rw[List.drop_eq_getElem_cons hjl]
  have hne:=h _ (List.getElem_mem hjl)
  simp only[List.isPrefixOf,Bool.and_true]
  exact beq_eq_false_iff_ne.2 fun e=>hne e.symm
 ·rw[List.drop_eq_nil_of_le (by omega)]
  rfl
theorem dw_sp (l:List UInt8):(32::l).dropWhile ([32].contains ·)=l.dropWhile ([32].contains ·):=List.dropWhile_cons_of_pos (by decide)
theorem dw_no {b:UInt8}(l:List UInt8) (h:b≠32):(b::l).dropWhile ([32].contains ·)=b::l:=List.dropWhile_cons_of_neg (by simpa using h)
theorem trim_eq {y a c:List UInt8}(ha:a=[]∨a=[32]) (hc:c=[]∨c=[32]) {b:UInt8}{t:List UInt8}(h1:y=b::t) (hb:b≠32) {b':UInt8}{t':List UInt8}(h2:y.reverse=b'::t') (hb':b'≠32):Lib.trimS (a++y++c) [32]=y:=by
 have e1:(a++y++c).reverse.dropWhile ([32].contains ·)=y.reverse++a.reverse:=by
  rw[List.reverse_append,List.reverse_append,h2]
  rcases hc with rfl|rfl
  ·exact dw_no _ hb'
  ·exact (dw_sp _).trans (dw_no _ hb')
 unfold Lib.trimS Lib.trimLeftS Lib.trimRightS
 rw[e1,List.reverse_append,List.reverse_reverse,List.reverse_reverse,h1]
 rcases ha with rfl|rfl
 ·exact dw_no _ hb
 ·exact (dw_sp _).trans (dw_no _ hb)
theorem lnTx_head (x:Tl):∃ b t,lnTx x=b::t∧b≠32:=by
 unfold lnTx
 by_cases hb:x.bef=[]
 ·rw[if_pos hb]
  exact ⟨_,_,rfl,by decide⟩
 ·rw[if_neg hb]
  cases hB:x.bef with
  | nil=>exact absurd hB hb
  | cons S L =>
   obtain ⟨t,ht⟩:=stL_head S
   rw[List.flatMap_cons,ht]
   exact ⟨91,_,rfl,by decide⟩
theorem lnTx_last {x:Tl}(hx:RdR x):∃ b t,(lnTx x).reverse=b::t∧b≠32:=by
 obtain ⟨Q,hQ⟩:∃ Q,lnTx x=Q++62::(if x.res=[] then [] else 32::x.res.flatMap pcL):=by
  refine ⟨(if x.bef=[] then [] else x.bef.flatMap stL++[32])++123::32::(x.mat.flatMap stL++32::125::32::(x.aft.flatMap stL++[32])),?_⟩
  unfold lnTx
  simp only[List.append_assoc,List.cons_append,List.nil_append]
 rw[hQ]
 by_cases hr:x.res=[]
 ·rw[if_pos hr]
  exact ⟨62,Q.reverse,by simp,by decide⟩
 ·rw[if_neg hr]
  have hall:∀ b∈x.res.flatMap pcL,b≠32:=fun b hb=>by
   obtain ⟨y,hy,hb⟩:=List.mem_flatMap.1 hb
   exact (okc_pc (hx.r y hy) b hb).2.2
  have hne:x.res.flatMap pcL≠[]:=by
   cases hR:x.res with
   | nil=>exact absurd hR hr
   | cons y R =>
    obtain ⟨b,t,ht,_⟩:=pcL_ne (x:=y)
    rw[List.flatMap_cons,ht]
    simp
  cases hP:(x.res.flatMap pcL).reverse with
  | nil=>exact absurd (by simpa using hP) hne
  | cons b t =>
   refine ⟨b,t++32::62::Q.reverse,?_,hall b (by rw[← List.mem_reverse,hP];simp)⟩
   rw[List.reverse_append,List.reverse_cons,List.reverse_cons,hP]
   simp
theorem nrm_ln {x:Tl}(hx:RdR x):nrmB (zea (lnW x))=zea (lnTx x):=by
 obtain ⟨b,t,h1,h2⟩:=lnTx_head x
 obtain ⟨b',t',h3,h4⟩:=lnTx_last hx
 unfold nrmB
 rw[cutA_no fun b hb=>(lnW_ok hx b hb).2]
 show zea (Lib.trimS (lnW x) [32])=_
 rw[lnW_T x,trim_eq (by split;exact .inr rfl;exact .inl rfl) (by split;exact .inr rfl;exact .inl rfl) h1 h2 h3 h4]
theorem ln_rd {d:Db}(hd:SmD d) {x:Tl}(hx:RdR x) (hz:(lnTx x).length≤65536):lnP d (zea (lnTx x))=some x:=by
 unfold lnP
 rw[dif_pos ⟨hd,hz⟩]
 exact rul_rd hx (by show (lnTx x).drop 0=lnTx x;rfl)
theorem chkE_app:∀ {A B:List Tl},chkE (A++B)=0→chkE A=0
 | [],_,_=>rfl
 | x::A,B,h=>by
  rw[List.cons_append,chkE] at h
  split at h
  ·rename_i h0
   rw[chkE,if_pos h0]
   exact chkE_app h
  ·rename_i h0;exact absurd h h0
theorem chkB_app {A B:List Tl}(h:ziu (A++B)=0):ziu A=0:=by
 obtain ⟨h1,h2⟩:=zjl h
 rw[List.length_append] at h1
 rw[show ziu A=chkE A from if_neg (by omega)]
 exact chkE_app h2
theorem stp_rd {d:Db}(hd:SmD d):∀ (l:List Tl) (i:Nat) (R:List Tl),(∀ x∈l,RdR x∧(lnTx x).length≤65536)→ziu (R++l)=0→zfu d ((l.map fun x=>zea (lnW x))++[zea []]) i R=(R++l,0,0)
 | [],i,R,_,_=>by
  show zfu d [zea []] i R=_
  rw[stp_blank nrm_nil,List.append_nil]
  rfl
 | x::l,i,R,hl,hc=>by
  obtain ⟨hx,hz⟩:=hl x (by simp)
  have e:R++x::l=(R++[x])++l:=by simp
  rw[e] at hc ⊢
  have hn:¬(nrmB (zea (lnW x))).size=0:=by
   rw[nrm_ln hx]
   obtain ⟨b,t,h1,_⟩:=lnTx_head x
   show ¬(lnTx x).length=0
   rw[h1]
   simp
  rw[List.map_cons,List.cons_append,zfu,if_neg hn,nrm_ln hx,ln_rd hd hx hz]
  dsimp only
  rw[if_pos (chkB_app hc)]
  exact stp_rd hd l (i+1) (R++[x]) (fun y hy=>hl y (by simp[hy])) hc
theorem spl_rd:∀ (l:List Tl),(∀ x∈l,RdR x)→zbr 10 (l.flatMap rlL)=(l.map lnW)++[[]]
 | [],_=>rfl
 | x::l,h=>by
  have hx:=h x (by simp)
  have e:(x::l).flatMap rlL=lnW x++10::l.flatMap rlL:=by
   rw[List.flatMap_cons]
   show (hdL x++pcsL x.res x.res.length++[10])++_=(hdL x++pcsL x.res x.res.length)++_
   rw[List.append_assoc]
   rfl
  rw[e,splitL_cut fun b hb=>(lnW_ok hx b hb).1,spl_rd l fun y hy=>h y (by simp[hy])]
  rfl
theorem len_flat {α:Type}{f:α→List UInt8}{x:α}:∀ {l:List α},x∈l→(f x).length≤(l.flatMap f).length
 | [],h=>by simp at h
 | y::l,h=>by
  rw[List.flatMap_cons,List.length_append]
  rcases List.mem_cons.1 h with rfl|h
  ·omega
  ·have:=len_flat (f:=f) h
   omega
theorem rl_parts (x:Tl):(x.bef.flatMap stL).length≤(rlL x).length∧(x.mat.flatMap stL).length≤(rlL x).length∧(x.aft.flatMap stL).length≤(rlL x).length∧(lnTx x).length≤(rlL x).length:=by
 have e:rlL x=lnW x++[10]:=rfl
 have h1:=congrArg List.length (lnW_eq x)
 have h2:=congrArg List.length (lnW_T x)
 rw[e,List.length_append]
 simp only[List.length_append] at h1 h2
 omega
theorem trP_back {d:Db}(hd:SmD d) {l:List Tl}(hc:ziu l=0) (hz:(rlsL l l.length).length≤65536):trP d (bl (rlsL l l.length))=(l,0,0):=by
 have hall:=zjk (zjl hc).2
 rw[rlsL_all] at hz ⊢
 have hR:∀ x∈l,RdR x∧(lnTx x).length≤65536:=by
  intro x hx
  obtain ⟨n,hn,rfl⟩:=List.getElem_of_mem hx
  have h1:=hall n hn
  rw[zgu hn] at h1
  have hs:=len_flat (f:=rlL) hx
  generalize l[n]=x at h1 hs hx
  obtain ⟨p1,p2,p3,p4⟩:=rl_parts x
  obtain ⟨z1,⟨z2,z3,z4⟩,z5⟩:=oneE_inv h1
  have key:∀ {L:List (List Rg)},rgtS L→(L.flatMap stL).length≤65536→∀ S∈L,canon S=S∧(zca S).size≤65536:=fun {L} h1 h2 S hS=>by
   refine ⟨(rgtS_mem.1 h1 S hS).1,?_⟩
   have:(stL S).length≤_:=len_flat (f:=stL) hS
   show (stL S).length≤_
   omega
  refine ⟨⟨key z2 (by omega),key z3 (by omega),key z4 (by omega),fun y hy=>?_⟩,by omega⟩
  obtain ⟨m,hm,rfl⟩:=List.getElem_of_mem hy
  have h2:=z5 m hm
  rw[zgu hm] at h2
  unfold pcOk at h2
  unfold szT at z1
  rcases h2 with h2|⟨e1,e2,e3⟩
  ·exact .inl h2
  ·exact .inr ⟨e1,e2,by omega⟩
 unfold trP
 rw[if_neg (show ¬65536<(bl (l.flatMap rlL)).size by rw[bl_size];omega)]
 have hsp:splB 10 (bl (l.flatMap rlL))=(l.map fun x=>zea (lnW x))++[zea []]:=by
  show (zbr 10 (l.flatMap rlL)).map zea=_
  rw[spl_rd l fun x hx=>(hR x hx).1,List.map_append,List.map_map]
  rfl
 rw[hsp]
 exact stp_rd hd l 0 [] hR hc
end Go.Proofs
namespace Go.Proofs
open Go Go.Sx
variable {mx:Int}{pb:Bool}
theorem clsS_end {w:ByteArray}{st:Int}{p q:PX}{L:List Rg}(h:clsS w st p=.ok L q):p.1.k<q.1.k∧bAt p.1.s (q.1.k - 1)=125:=by
 unfold clsS at h
 split at h
 ·simp at h
 ·rename_i d4 q4 he
  split at h
  ·simp at h
  ·rename_i hf
   simp at h
   obtain ⟨rfl,rfl⟩:=h
   obtain ⟨_,rfl,_⟩:=zfx hf
   obtain ⟨hk,e,rfl⟩:=zhg he
   rw[ze3 hk] at e
   exact ⟨Nat.lt_succ_self _,e⟩
theorem clsV_end {w:ByteArray}{st:Int}{p q:PX}{L:List Rg}(h:clsV w st p=.ok L q):p.1.k<q.1.k∧bAt p.1.s (q.1.k - 1)=125:=by
 unfold clsV at h
 split at h
 ·simp at h
 ·rename_i d q5 hf
  split at h
  ·simp at h
  ·rename_i d2 q6 hw
   split at h
   ·simp at h
   ·rename_i he
    split at h
    ·simp at h
     obtain ⟨rfl,rfl⟩:=h
     have m:=(runFnd_k hf).trans (zeq hw)
     obtain ⟨hk,e,rfl⟩:=zhg he
     rw[ze3 hk,m.s] at e
     exact ⟨Nat.lt_succ_of_le m.k,e⟩
    ·simp at h
theorem clsN_end {p q:PX}{L:List Rg}(h:clsN p=.ok L q):p.1.k<q.1.k∧bAt p.1.s (q.1.k - 1)=125:=by
 unfold clsN at h
 split at h
 ·simp at h
 ·rename_i d q3 hw
  have m:=zeq hw
  split at h
  ·rename_i h61
   obtain ⟨h1,h2⟩:=clsV_end h
   have h1:q3.1.k+1<q.1.k:=h1
   have h2:bAt q3.1.s (q.1.k - 1)=125:=h2
   rw[m.s] at h2
   exact ⟨by have:=m.k;omega,h2⟩
  ·obtain ⟨h1,h2⟩:=clsS_end h
   rw[m.s] at h2
   exact ⟨by have:=m.k;omega,h2⟩
theorem bAt_list {s:ByteArray}{k j:Nat}{l:List UInt8}(h:s.data.toList.drop k=l) (hj:j<l.length):bAt s (k+j)=(l[j]'hj).toNat:=by
 subst h
 rw[List.length_drop] at hj
 have hk:k+j<s.data.toList.length:=by omega
 rw[zjp hk,List.getElem_drop]
theorem cls_len {d:Db}{u:List UInt8}(hu:∀ b∈u,b≠125) (he:(prs d (bl (91::92::112::123::(u++[125,93])))).2.1=0):(prs d (bl (91::92::112::123::(u++[125,93])))).1.length≤18:=by
 generalize hS:bl (91::92::112::123::(u++[125,93]))=S at he ⊢
 by_cases h:OkS d S
 case neg=>rw[show prs d S=([],2,0) from dif_neg h];exact Nat.zero_le _
 obtain ⟨L,q,w,hp⟩:=prs_whole (h:=h) he
 rw[hp]
 show L.length≤18
 have hr0:rem (zeu d S h)=91::92::112::123::(u++[125,93]):=by subst hS;rfl
 have hb0:=zig hr0 (by decide)
 have hw:=w.r
 rw[hb0] at hw
 obtain ⟨k0,e0,r0⟩:=zbv hr0
 have hb1:=zig r0 (by decide)
 obtain ⟨k1,e1,r1⟩:=zbv r0
 have e1:pkV (adv (zeu d S h) k0).1=92:=e1
 rw[runGrp_pos k0 (by rw[hb1,e1];decide),hb1] at hw
 obtain ⟨k2,e2,r2⟩:=zbv r1
 have e2:pkV (adv (adv (zeu d S h) k0) k1).1=112:=e2
 obtain ⟨k3,e3,r3⟩:=zbv r2
 have e3:pkV (adv (adv (adv (zeu d S h) k0) k1) k2).1=123:=e3
 have hpre:pre2 (adv (zeu d S h) k0).1 92 112=true:=decide_eq_true (rem_2 r0)
 obtain ⟨f,hf⟩:∃ f,(zeu d S h).1.s.size+1=f+1:=⟨_,rfl⟩
 have e1':pkV (blP (adv (zeu d S h) k0)).1=92:=by rw[hb1];exact e1
 rw[hf,grpL,dif_neg (by rw[e1'];decide),dif_neg (by rw[e1'];decide),dif_neg (by rw[e1'];decide),if_neg (by rw[e1'];decide)] at hw
 have hitm:zdg (adv (zeu d S h) k0)=clsN (adv (adv (adv (adv (zeu d S h) k0) k1) k2) k3):=by
  unfold zdg
  rw[if_pos hpre]
  unfold zb0
  rw[dif_pos k1,show zb8 (adv (adv (zeu d S h) k0) k1) 112=.ok (.tu []) (adv (adv (adv (zeu d S h) k0) k1) k2) from dif_pos ⟨k2,e2⟩]
  dsimp only
  rw[show zb8 (adv (adv (adv (zeu d S h) k0) k1) k2) 123=.ok (.tu []) (adv (adv (adv (adv (zeu d S h) k0) k1) k2) k3) from dif_pos ⟨k3,e3⟩]
 rw[hb1,hitm] at hw
 split at hw
 ·exact nomatch hw
 ·rename_i L1 q1 hc
  obtain ⟨m1,l1,_⟩:=clsN_k hc
  obtain ⟨g1,g2⟩:=clsN_end hc
  have hq1:=q1.2.2.1
  generalize hp3:adv (adv (adv (adv (zeu d S h) k0) k1) k2) k3=p3 at hc m1 g1 g2 r3
  have r3':p3.1.s.data.toList.drop p3.1.k=u++[125,93]:=r3
  have hsz:p3.1.s.size=p3.1.k+u.length+2:=by
   have:=congrArg List.length r3'
   rw[List.length_drop,List.length_append] at this
   have h3:=p3.2.2.1
   have h4:p3.1.s.data.toList.length=p3.1.s.size:=rfl
   simp only[List.length_cons,List.length_nil] at this
   omega
  rw[m1.s] at hq1
  obtain ⟨j,hj⟩:∃ j,q1.1.k=p3.1.k+j+1:=⟨q1.1.k - p3.1.k - 1,by omega⟩
  have hjl:j<(u++[125,93]).length:=by simp only[List.length_append,List.length_cons,List.length_nil];omega
  have hb:=bAt_list r3' hjl
  rw[show q1.1.k - 1=p3.1.k+j by omega,hb] at g2
  have hju:j=u.length:=by
   rcases Nat.lt_trichotomy j u.length with e|e|e
   ·rw[List.getElem_append_left e] at g2
    refine absurd (UInt8.toNat_inj.1 ?_) (hu _ (List.getElem_mem e))
    show (u[j]).toNat=125
    omega
   ·exact e
   ·have e2:j=u.length+1:=by simp only[List.length_append,List.length_cons,List.length_nil] at hjl;omega
    subst e2
    rw[List.getElem_append_right (by omega)] at g2
    simp at g2
  have rq:rem q1=[93]:=by
   show q1.1.s.data.toList.drop q1.1.k=_
   rw[m1.s,hj,hju,Nat.add_assoc,← List.drop_drop,r3',← List.drop_drop,List.drop_left]
   rfl
  have hb2:=zig rq (by decide)
  obtain ⟨k9,e9,_⟩:=zbv rq
  have e9:pkV q1.1=93:=e9
  cases f with
  | zero=>rw[grpL] at hw;exact nomatch hw
  | succ f =>
   have e9':pkV (blP q1).1=93:=by rw[hb2];exact e9
   rw[grpL,dif_pos e9'] at hw
   injection hw with hw1 _
   have:=endG_len false [] ([]++L1)
   rw[← hw1]
   simp at this ⊢
   omega
theorem idx_spec {c:UInt8}:∀ (l:List UInt8) (i:Int),0≤i→0≤idxL l c i→∃ u r,l=u++c::r∧(∀ b∈u,b≠c)∧idxL l c i=i+u.length
 | [],i,_,h=>by simp[idxL] at h
 | b::l,i,hi,h=>by
  unfold idxL at h ⊢
  cases hb:(b==c) with
  | true =>
   obtain rfl:b=c:=by simpa using hb
   exact ⟨[],l,rfl,fun x hx=>absurd hx (by simp),by simp⟩
  | false =>
   rw[hb] at h
   obtain ⟨u,r,h1,h2,h3⟩:=idx_spec l (i+1) (by omega) h
   refine ⟨b::u,r,by rw[h1];rfl,fun x hx=>?_,?_⟩
   ·rcases List.mem_cons.1 hx with rfl|hx
    ·exact beq_eq_false_iff_ne.1 hb
    ·exact h2 x hx
   ·show idxL l c (i+1)=_
    rw[h3]
    simp only[List.length_cons]
    omega
theorem hp_take {s t:ByteArray}(h:hpB s t=true):s.data.toList.take t.size=t.data.toList:=by
 unfold hpB at h
 simp only[Bool.and_eq_true] at h
 have h2:zcd s 0 t.size=t := @of_decide_eq_true _ (baDec _ _) h.2
 have h3:=congrArg (fun x:ByteArray=>x.data.toList) h2
 exact h3
theorem cl_text {p q:RX}{d:D}(h:runCl p ()=.ok d q) (hp:hpB (zcd p.1.s p.1.k p.1.s.size) clsT=true):∃ u:List UInt8,(∀ b∈u,b≠125)∧dS d=bl (92::112::123::(u++[125]))∧q.1.k=p.1.k+u.length+4:=by
 unfold runCl at h
 split at h
 ·rename_i hc
  injection h with e1 e2
  subst e1
  subst e2
  have hdrop:(zcd p.1.s p.1.k p.1.s.size).data.toList=p.1.s.data.toList.drop p.1.k:=by
   show (p.1.s.data.toList.take p.1.s.data.toList.length).drop p.1.k=_
   rw[List.take_length]
  have ht:=hp_take hp
  rw[hdrop] at ht
  have ht:(p.1.s.data.toList.drop p.1.k).take 3=[92,112,123]:=ht
  have hi:idxL (p.1.s.data.toList.drop p.1.k) 125 0=clB p:=by rw[← hdrop];rfl
  obtain ⟨u,r,h1,h2,h3⟩:=idx_spec (c:=125) (p.1.s.data.toList.drop p.1.k) 0 (Int.le_refl _) (by rw[hi];exact hc.1)
  rw[hi] at h3
  have hn:(clB p).toNat=u.length:=by omega
  obtain ⟨u',rfl⟩:∃ u',u=92::112::123::u':=by
   rw[h1] at ht
   match u,h2,ht with
   | [],_,ht=>simp at ht
   | [a],_,ht=>simp at ht
   | [a,b],_,ht=>simp at ht
   | a::b::c::u',_,ht =>
    simp at ht
    obtain ⟨rfl,rfl,rfl⟩:=ht
    exact ⟨u',rfl⟩
  refine ⟨u',fun b hb=>h2 b (by simp[hb]),?_,?_⟩
  ·show zcd p.1.s p.1.k (p.1.k+(clB p).toNat+1)=_
   have tk:∀ (u r:List UInt8),(u++125::r).take (u.length+1)=u++[125]:=fun u r=>by
    induction u with
    | nil=>rfl
    | cons a u ih=>simp[ih]
   have:(zcd p.1.s p.1.k (p.1.k+(clB p).toNat+1)).data.toList=92::112::123::(u'++[125]):=by
    show (p.1.s.data.toList.take (p.1.k+(clB p).toNat+1)).drop p.1.k=_
    rw[List.drop_take,h1,hn,show p.1.k+(92::112::123::u').length+1 - p.1.k=(92::112::123::u').length+1 by omega]
    exact tk _ _
   exact congrArg bl this
  ·show p.1.k+(clB p).toNat+1=_
   rw[hn]
   simp only[List.length_cons]
   omega
 ·exact nomatch h
end Go.Proofs
namespace Go.Proofs
open Go Go.Sx
variable {mx:Int}{pb:Bool}
theorem prs_len3 {d:Db}{s:ByteArray}(h:(prs d s).2.1=0):(prs d s).1.length≤6*s.size:=by
 by_cases hS:OkS d s
 ·obtain ⟨L,q,w,hp⟩:=prs_whole (h:=hS) h
  rw[hp]
  have h1:=w.w.len
  have h2:=nbk_le (s:=s) q.1.k
  have h3:=zjo q
  have h4:=w.e
  have h5:(blP (zeu d s hS)).1.s=s:=rfl
  rw[h5] at h1
  show L.length≤_
  omega
 ·rw[show prs d s=([],2,0) from dif_neg hS] at h
  exact absurd h (by decide)
theorem grF_lt {s:ByteArray}:∀ (f k:Nat) (d:Int),(grF s f k d).2=true→k<(grF s f k d).1
 | 0,k,d,h=>Bool.noConfusion h
 | f+1,k,d,h=>by
  rw[grF] at h ⊢
  split at h
  ·rename_i hk
   rw[if_pos hk]
   split at h
   ·rename_i h1
    rw[if_pos h1]
    exact Nat.lt_of_le_of_lt (by omega) (grF_lt f (k+2) d h)
   ·rename_i h1
    rw[if_neg h1]
    split at h
    ·rename_i h2
     rw[if_pos h2]
     exact Nat.lt_of_le_of_lt (by omega) (grF_lt f (k+1) (d+1) h)
    ·rename_i h2
     rw[if_neg h2]
     split at h
     ·rename_i h3
      rw[if_pos h3]
      split at h
      ·rename_i h4
       rw[if_pos h4]
       exact Nat.lt_succ_self _
      ·rename_i h4
       rw[if_neg h4]
       exact Nat.lt_of_le_of_lt (by omega) (grF_lt f (k+1) (d - 1) h)
     ·rename_i h3
      rw[if_neg h3]
      exact Nat.lt_of_le_of_lt (by omega) (grF_lt f (k+1) d h)
  ·exact Bool.noConfusion h
theorem gr_text {p q:RX}{d:D}(h91:nxV p.1=91) (h:zhf p ()=.ok d q):(dS d).size≤q.1.k - p.1.k∧p.1.k+2≤q.1.k:=by
 unfold zhf at h
 split at h
 ·rename_i hg
  injection h with e1 e2
  subst e1
  subst e2
  obtain ⟨hk,hb⟩:=zh5 h91 (by decide)
  have hlt:p.1.k+1<(grE p.1.s p.1.k 0).1:=by
   rw[grE_opn hk hb] at hg ⊢
   exact grF_lt _ _ _ hg
  refine ⟨?_,hlt⟩
  show ((p.1.s.data.toList.take (grE p.1.s p.1.k 0).1).drop p.1.k).length≤(grE p.1.s p.1.k 0).1 - p.1.k
  rw[List.length_drop,List.length_take]
  omega
 ·exact nomatch h
theorem xp_len {t b a:ByteArray}{p q:RX}{f:Nat}{L M:List (List Rg)}{n:Nat}(hx:xpL p t b a (fun S q=>elF f q (L++[S]))=.ok M q)
  (hn:(prs p.1.db (zbq (zbq b t) a)).2.1=0→(prs p.1.db (zbq (zbq b t) a)).1.length≤n):∃ S,elF f p (L++[S])=.ok M q∧(stL S).length≤2+21*n:=by
 unfold xpL at hx
 split at hx
 ·rename_i h0
  refine ⟨_,hx,?_⟩
  have h1:=hn h0
  have h2:=stL_lenR (prs p.1.db (zbq (zbq b t) a)).1
  omega
 ·exact nomatch hx
theorem flat_snoc {α:Type}(f:α→List UInt8) (L:List α) (x:α):((L++[x]).flatMap f).length=(L.flatMap f).length+(f x).length:=by
 rw[List.flatMap_append,List.length_append,List.flatMap_cons,List.flatMap_nil,List.append_nil]
theorem elF_sz:∀ (f:Nat) {p q:RX}{L M:List (List Rg)},elF f p L=.ok M q→q.1.s=p.1.s∧(M.flatMap stL).length+127*p.1.k≤(L.flatMap stL).length+127*q.1.k
 | 0,p,q,L,M,h=>nomatch h
 | f+1,p,q,L,M,h=>by
  have hb:=blR_k p
  have key:∀ {r:RX}{S:List Rg},elF f r (L++[S])=.ok M q→r.1.s=p.1.s→(stL S).length+127*(blR p).1.k≤127*r.1.k→q.1.s=p.1.s∧(M.flatMap stL).length+127*p.1.k≤(L.flatMap stL).length+127*q.1.k:=fun {r S} hr hs hS=>by
   obtain ⟨g1,g⟩:=elF_sz f hr
   rw[flat_snoc] at g
   exact ⟨g1.trans hs,by omega⟩
  have sng:∀ c:Int,(stL (canon [(c,c)])).length≤127:=fun c=>by
   have h1:=stL_lenR (canon [(c,c)])
   have h2:=zbh [(c,c)]
   simp only[List.length_cons,List.length_nil] at h2
   omega
  rw[elF] at h
  split at h
  ·rename_i hl
   refine key h rfl ?_
   have:=sng (nxV (blR p).1)
   show _≤127*((blR p).1.k+1)
   omega
  ·split at h
   ·rename_i h91
    split at h
    ·exact nomatch h
    ·rename_i d r hg
     obtain ⟨g1,g2⟩:=gr_text h91 hg
     obtain ⟨S,hS,hl⟩:=xp_len (n:=6*(dS d).size) h (fun h0=>by
      have:=prs_len3 h0
      rw[bcat_em] at this ⊢
      exact this)
     refine key hS (runGr_goes h91 hg).1 ?_
     omega
   ·split at h
    ·rename_i h92
     split at h
     ·exact nomatch h
     ·rename_i d r hg
      obtain ⟨u,hu,hd,hk⟩:=cl_text hg h92.2
      have e:zbq (zbq lbS (dS d)) rbS=bl (91::92::112::123::(u++[125,93])):=by
       rw[hd]
       show bl (([91]++(92::112::123::(u++[125])))++[93])=_
       congr 1
       simp
      obtain ⟨S,hS,hl⟩:=xp_len (n:=18) h (fun h0=>by
       rw[e] at h0 ⊢
       exact cls_len hu h0)
      refine key hS (runCl_goes hg).1 ?_
      omega
    ·split at h
     ·split at h
      ·exact nomatch h
      ·rename_i d r hg
       obtain ⟨⟨hs,hlt⟩,_⟩:=zhw hg
       have:=sng (dI d)
       refine key h hs ?_
       omega
     ·injection h with h1 h2
      subst h1
      subst h2
      exact ⟨rfl,by omega⟩
theorem pcF_sz:∀ (f:Nat) {p q:RX}{L M:List Rg},pcF f p L=.ok M q→q.1.s=p.1.s∧(M.flatMap pcL).length+127*p.1.k≤(L.flatMap pcL).length+127*q.1.k
 | 0,p,q,L,M,h=>nomatch h
 | f+1,p,q,L,M,h=>by
  have hb:=blR_k p
  have key:∀ {r:RX}{y:Rg},pcF f r (L++[y])=.ok M q→r.1.s=p.1.s→(blR p).1.k<r.1.k→q.1.s=p.1.s∧(M.flatMap pcL).length+127*p.1.k≤(L.flatMap pcL).length+127*q.1.k:=fun {r y} hr hs hk=>by
   obtain ⟨g1,g⟩:=pcF_sz f hr
   have:=pcL_len y
   rw[flat_snoc] at g
   exact ⟨g1.trans hs,by omega⟩
  rw[pcF] at h
  split at h
  ·rename_i hk
   split at h
   ·exact key h rfl (Nat.lt_succ_self _)
   ·split at h
    ·split at h
     ·exact nomatch h
     ·rename_i d r hg
      obtain ⟨⟨hs,hlt⟩,_⟩:=zhw hg
      exact key h hs hlt
    ·split at h
     ·split at h
      ·exact key h rfl (by show _<(blR p).1.k+1+1;omega)
      ·exact nomatch h
     ·exact nomatch h
  ·injection h with h1 h2
   subst h1
   subst h2
   exact ⟨rfl,by omega⟩
theorem runEl_sz {p q:RX}{M:List (List Rg)}(h:zil p=.ok M q):q.1.s=p.1.s∧(M.flatMap stL).length+127*p.1.k≤127*q.1.k:=by
 have:=elF_sz _ h
 simpa using this
theorem runPc_sz {p q:RX}{M:List Rg}(h:runPc p=.ok M q):q.1.s=p.1.s∧(M.flatMap pcL).length+127*p.1.k≤127*q.1.k:=by
 have:=pcF_sz _ h
 simpa using this
theorem rlL_len3 (x:Tl):(rlL x).length=(x.bef.flatMap stL).length+(x.mat.flatMap stL).length+(x.aft.flatMap stL).length+(x.res.flatMap pcL).length+10:=by
 have h1:=congrArg List.length (lnW_eq x)
 show (lnW x++[10]).length=_
 rw[List.length_append,h1]
 simp only[List.length_append,List.length_cons,List.length_nil]
 omega
theorem tkR_adv {p:RX}{b:Int}(h:nxV p.1=b) (hb:b≠0):(tkR p b).1.s=p.1.s∧(tkR p b).1.k=p.1.k+1:=by rw[zii h hb];exact ⟨rfl,rfl⟩
theorem fin_sz {B M A:List (List Rg)}{p:RX}{y:Tl}(h:finP B M A p=some y):(rlL y).length+127*p.1.k≤(B.flatMap stL).length+(M.flatMap stL).length+(A.flatMap stL).length+127*(p.1.s.size+1):=by
 unfold finP at h
 split at h
 ·rename_i h62
  split at h
  ·exact nomatch h
  ·rename_i R r hr
   injection h with h1
   subst h1
   obtain ⟨k1,k2⟩:=tkR_adv h62 (by decide)
   obtain ⟨g1,g⟩:=runPc_sz hr
   have g2:=r.2.2.1
   rw[g1,k1] at g2
   rw[rlL_len3]
   dsimp only
   omega
 ·exact nomatch h
theorem aft_sz {B M:List (List Rg)}{p:RX}{y:Tl}(h:aftP B M p=some y):(rlL y).length+127*p.1.k≤(B.flatMap stL).length+(M.flatMap stL).length+127*(p.1.s.size+1):=by
 unfold aftP at h
 split at h
 ·rename_i h125
  split at h
  ·exact nomatch h
  ·rename_i A r hr
   obtain ⟨k1,k2⟩:=tkR_adv h125 (by decide)
   obtain ⟨g1,g⟩:=runEl_sz hr
   have:=fin_sz h
   rw[g1,k1] at this
   omega
 ·have:=fin_sz h
  simp only[List.flatMap_nil,List.length_nil] at this
  omega
theorem rul_sz {p:RX}{y:Tl}(h:rulP p=some y):(rlL y).length+127*p.1.k≤127*(p.1.s.size+1):=by
 unfold rulP at h
 split at h
 ·exact nomatch h
 ·rename_i M q hM
  obtain ⟨g1,g⟩:=runEl_sz hM
  split at h
  ·rename_i h123
   split at h
   ·exact nomatch h
   ·rename_i M' r hr
    obtain ⟨k1,k2⟩:=tkR_adv h123 (by decide)
    obtain ⟨g3,g4⟩:=runEl_sz hr
    have:=aft_sz h
    rw[g3,k1,g1] at this
    omega
  ·have:=aft_sz h
   rw[g1] at this
   simp only[List.flatMap_nil,List.length_nil] at this
   omega
theorem ln_sz {d:Db}{l:ByteArray}{y:Tl}(h:lnP d l=some y):(rlL y).length≤127*(l.size+1):=by
 unfold lnP at h
 split at h
 ·have:=rul_sz h
  dsimp only at this
  omega
 ·exact nomatch h
def szS:List ByteArray→Nat
 | []=>0
 | l::ls=>l.size+1+szS ls
theorem stp_sz {d:Db}:∀ (ls:List ByteArray) (i:Nat) (R:List Tl),(zfu d ls i R).2.1=0→((zfu d ls i R).1.flatMap rlL).length≤(R.flatMap rlL).length+127*szS ls
 | [],i,R,_=>Nat.le_refl _
 | l::ls,i,R,h=>by
  rw[zfu] at h ⊢
  have e:szS (l::ls)=l.size+1+szS ls:=rfl
  split at h
  ·rename_i h0
   rw[if_pos h0]
   have:=stp_sz ls (i+1) R h
   omega
  ·rename_i h0
   rw[if_neg h0]
   cases hx:lnP d (nrmB l) with
   | none=>rw[hx] at h;exact absurd (show (3:Int)=0 from h) (by decide)
   | some x =>
    rw[hx] at h
    dsimp only at h ⊢
    split at h
    ·rename_i hc
     rw[if_pos hc]
     have g:=stp_sz ls (i+1) (R++[x]) h
     rw[flat_snoc] at g
     have g2:=ln_sz hx
     have g3:=nrm_size l
     omega
    ·rename_i hc
     exact absurd h hc
theorem spl_szL {c:UInt8}:∀ (l:List UInt8),szS ((zbr c l).map zea)=l.length+1
 | []=>rfl
 | b::l=>by
  have ih:=spl_szL (c:=c) l
  rw[zbr]
  split
  ·show 0+1+szS _=_
   rw[ih]
   simp only[List.length_cons]
   omega
  ·cases hs:zbr c l with
   | nil=>exact absurd hs (splitL_ne c l)
   | cons x xs =>
    rw[hs] at ih
    show (x.length+1)+1+szS _=_
    have ih:x.length+1+szS (xs.map zea)=l.length+1:=ih
    simp only[List.length_cons]
    omega
theorem stp_chk {d:Db}:∀ (ls:List ByteArray) (i:Nat) (R:List Tl),(zfu d ls i R).2.1=0→ziu R=0→ziu (zfu d ls i R).1=0
 | [],i,R,_,h=>h
 | l::ls,i,R,h,hR=>by
  rw[zfu] at h ⊢
  split at h
  ·rename_i h0
   rw[if_pos h0]
   exact stp_chk ls (i+1) R h hR
  ·rename_i h0
   rw[if_neg h0]
   cases hx:lnP d (nrmB l) with
   | none=>rw[hx] at h;exact absurd (show (3:Int)=0 from h) (by decide)
   | some x =>
    rw[hx] at h
    dsimp only at h ⊢
    split at h
    ·rename_i hc
     rw[if_pos hc]
     exact stp_chk ls (i+1) (R++[x]) h hc
    ·rename_i hc
     exact absurd h hc
theorem stp_bad {d:Db}:∀ (ls:List ByteArray) (i:Nat) (R:List Tl),(zfu d ls i R).2.1≠0→(zfu d ls i R).1=[]∧1≤(zfu d ls i R).2.2
 | [],i,R,h=>absurd rfl h
 | l::ls,i,R,h=>by
  have k1:(1:Int)≤((i+1:Nat):Int):=by omega
  rw[zfu] at h ⊢
  split at h
  ·rename_i h0
   rw[if_pos h0]
   exact stp_bad ls (i+1) R h
  ·rename_i h0
   rw[if_neg h0]
   cases hx:lnP d (nrmB l) with
   | none=>exact ⟨rfl,k1⟩
   | some x =>
    rw[hx] at h
    dsimp only at h ⊢
    split at h
    ·rename_i hc
     rw[if_pos hc]
     exact stp_bad ls (i+1) (R++[x]) h
    ·rename_i hc
     rw[if_neg hc]
     exact ⟨rfl,k1⟩
theorem stp_ok0 {d:Db}:∀ (ls:List ByteArray) (i:Nat) (R:List Tl),(zfu d ls i R).2.1=0→(zfu d ls i R).2.2=0:=fun ls i R h=>(stp_shift ls i R).2 h
theorem chkB_nil:ziu []=0:=if_neg (by decide)
theorem trP_again {d d':Db}(hd':SmD d') {s:ByteArray}(hs:s.size≤500) (h:(trP d s).2.1=0):(trP d s).2.2=0∧ziu (trP d s).1=0∧trP d' (bl (rlsL (trP d s).1 (trP d s).1.length))=((trP d s).1,0,0):=by
 have e:trP d s=zfu d (splB 10 s) 0 []:=if_neg (by omega)
 rw[e] at h ⊢
 have hc:=stp_chk _ _ _ h chkB_nil
 refine ⟨stp_ok0 _ _ _ h,hc,trP_back hd' hc ?_⟩
 have hz:=stp_sz _ _ _ h
 have hl:szS (splB 10 s)=s.size+1:=spl_szL s.data.toList
 rw[rlsL_all]
 simp only[List.flatMap_nil,List.length_nil] at hz
 omega
theorem trP_bad {d:Db}{s:ByteArray}(hs:s.size≤500) (h:(trP d s).2.1≠0):(trP d s).1=[]∧1≤(trP d s).2.2:=by
 have e:trP d s=zfu d (splB 10 s) 0 []:=if_neg (by omega)
 rw[e] at h ⊢
 exact stp_bad _ _ _ h
end Go.Proofs
