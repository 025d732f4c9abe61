import Derived.Test.YtcihhjjmcompkaaGreatDoorL50d
import Derived.Test.YtcihhjjmcompkaaGreatDoorDr2
set_option linter.unusedVariables false
set_option linter.unusedSimpArgs false
set_option linter.unusedSectionVars false
namespace Go.Proofs
open Go Go.Sx
variable {mx:Int}{pb:Bool}
theorem asc_eqR:∀ {L M:List (List Rg)},L.Pairwise (fun X Y=>hdR X<hdR Y)→M.Pairwise (fun X Y=>hdR X<hdR Y)→(∀ X,X∈L↔X∈M)→L=M
 | [],[],_,_,_=>rfl
 | [],y::m,_,_,h=>absurd ((h y).2 (List.mem_cons_self ..)) (by simp)
 | x::l,[],_,_,h=>absurd ((h x).1 (List.mem_cons_self ..)) (by simp)
 | x::l,y::m,hl,hm,h=>by
  have hl:=List.pairwise_cons.1 hl
  have hm:=List.pairwise_cons.1 hm
  have e:x=y:=by
   rcases List.mem_cons.1 ((h x).1 (List.mem_cons_self ..)) with h1|h1
   ·exact h1
   ·rcases List.mem_cons.1 ((h y).2 (List.mem_cons_self ..)) with h2|h2
    ·exact h2.symm
    ·have:=hl.1 y h2
     have:=hm.1 x h1
     omega
  subst e
  rw[asc_eqR hl.2 hm.2 fun z=>?_]
  constructor
  ·intro hz
   rcases List.mem_cons.1 ((h z).1 (List.mem_cons_of_mem _ hz)) with rfl|h1
   ·have:=hl.1 _ hz;omega
   ·exact h1
  ·intro hz
   rcases List.mem_cons.1 ((h z).2 (List.mem_cons_of_mem _ hz)) with rfl|h1
   ·have:=hm.1 _ hz;omega
   ·exact h1
theorem inR_cp {X:List Rg}(h:okS X) {x:Int}(hx:inR X x):0≤x∧x≤1114111:=by
 obtain ⟨r,hr,h1,h2⟩:=hx
 have:=(okS_canon h).ok r hr
 omega
theorem Cls.sub {S L L':List (List Rg)}(h:Cls S L) (h':Cls S L') {X:List Rg}(hX:X∈L):X∈L':=by
 have oX:=h.ok X hX
 obtain ⟨c1,i1⟩:=hd_in oX
 obtain ⟨Y,hY,i2⟩:=h'.cov _ c1
 have oY:=h'.ok Y hY
 have e:X=Y:=canon_unique (okS_canon oX) (okS_canon oY) fun z=>by
  by_cases hz:0≤z∧z≤1114111
  ·rw[h.sig X hX _ z c1 hz i1,h'.sig Y hY _ z c1 hz i2]
  ·exact ⟨fun hh=>absurd (inR_cp oX hh) hz,fun hh=>absurd (inR_cp oY hh) hz⟩
 rw[e]
 exact hY
theorem Cls.uniq {S L L':List (List Rg)}(h:Cls S L) (h':Cls S L'):L=L':=asc_eqR h.asc h'.asc fun _=>⟨h.sub h',h'.sub h⟩
def sg (S:List (List Rg)) (a b:Int):Prop:=∀ Z∈S,(inR Z a↔inR Z b)
theorem sg.sy {S:List (List Rg)}{a b:Int}(h:sg S a b):sg S b a:=fun Z hZ=>(h Z hZ).symm
theorem sg.tr {S:List (List Rg)}{a b c:Int}(h:sg S a b) (k:sg S b c):sg S a c:=fun Z hZ=>(h Z hZ).trans (k Z hZ)
def PI (C:List Int) (i:Nat) (z:Int):Prop:=∃ m,m<i∧m<C.length∧(ivI C m).1≤z∧z≤(ivI C m).2
structure RInv (S:List (List Rg)) (C:List Int) (i:Nat) (K:List (List Rg)):Prop where
 ok:∀ m,m<K.length→okS (K.getD m default)
 inn:∀ m,m<K.length→∀ z,inR (K.getD m default) z→PI C i z
 mem:∀ m,m<K.length→∀ z,PI C i z→(inR (K.getD m default) z↔sg S (hdR (K.getD m default)) z)
 cov:∀ z,PI C i z→∃ m,m<K.length∧inR (K.getD m default) z
 asc:∀ m m',m<m'→m'<K.length→hdR (K.getD m default)<hdR (K.getD m' default)
section
variable {S:List (List Rg)}(hS:∀ X∈S,okS X)
include hS
theorem PI_succ {i:Nat}(hi:i<(begF S).length) {z:Int}:PI (begF S) (i+1) z↔PI (begF S) i z∨((ivI (begF S) i).1≤z∧z≤(ivI (begF S) i).2):=by
 constructor
 ·rintro ⟨m,hm,h1,h2⟩
  by_cases e:m=i
  ·subst e;exact .inr h2
  ·exact .inl ⟨m,by omega,h1,h2⟩
 ·rintro (⟨m,hm,h1,h2⟩|h)
  ·exact ⟨m,by omega,h1,h2⟩
  ·exact ⟨i,by omega,hi,h⟩
theorem iv_cp {m:Nat}(hm:m<(begF S).length) {z:Int}(h:(ivI (begF S) m).1≤z∧z≤(ivI (begF S) m).2):0≤z∧z≤1114111:=by
 have hb:∀ x∈begF S,0≤x∧x≤1114111:=fun x hx=>by
  obtain ⟨n,hn,rfl⟩:=List.getElem_of_mem hx
  have:=begF_bd hS hn
  simpa[List.getD_eq_getElem?_getD,hn] using this
 have:=ivI_ok (begF_spec hS).1 hb hm
 omega
theorem PI_cp {i:Nat}{z:Int}(h:PI (begF S) i z):0≤z∧z≤1114111:=by
 obtain ⟨m,_,h1,h2⟩:=h
 exact iv_cp hS h1 h2
theorem PI_lt {i:Nat}(hi:i<(begF S).length) {z:Int}(h:PI (begF S) i z):z<(begF S).getD i default:=by
 obtain ⟨m,hm,h1,h2⟩:=h
 exact ((iv_in hS (iv_cp hS h1 h2).2 h1).1 h2).2 i hm hi
theorem iv_sg {i:Nat}(hi:i<(begF S).length) {z:Int}(h:(ivI (begF S) i).1≤z∧z≤(ivI (begF S) i).2):sg S ((begF S).getD i default) z:=fun Z hZ=>by
 have hc:=iv_cp hS hi h
 obtain ⟨h1,h2⟩:=(iv_in hS hc.2 hi).1 h
 exact (iv_sameR hS hZ hc hi h1 h2).symm
theorem iv_self {i:Nat}(hi:i<(begF S).length):(ivI (begF S) i).1≤(begF S).getD i default∧(begF S).getD i default≤(ivI (begF S) i).2:=by
 have hb:∀ x∈begF S,0≤x∧x≤1114111:=fun x hx=>by
  obtain ⟨n,hn,rfl⟩:=List.getElem_of_mem hx
  have:=begF_bd hS hn
  simpa[List.getD_eq_getElem?_getD,hn] using this
 have:=ivI_ok (begF_spec hS).1 hb hi
 have e:(ivI (begF S) i).1=(begF S).getD i default:=rfl
 omega
theorem sam_sg {a b:Int}(ha:0≤a∧a≤1114111) (hb:0≤b∧b≤1114111):samB S a b=true↔sg S a b:=samB_iff ha hb
theorem fnd_spec {x:Int}:∀ {K:List (List Rg)},(∀ m,m<fndK S x K→¬samB S (hdR (K.getD m default)) x=true)∧(fndK S x K<K.length→samB S (hdR (K.getD (fndK S x K) default)) x=true)
 | []=>⟨fun m hm=>absurd hm (Nat.not_lt_zero _),fun h=>absurd h (Nat.not_lt_zero _)⟩
 | Y::K=>by
  obtain ⟨h1,h2⟩:=fnd_spec (x:=x) (K:=K)
  by_cases h:samB S (hdR Y) x=true
  ·have e:fndK S x (Y::K)=0:=if_pos h
   rw[e]
   exact ⟨fun m hm=>absurd hm (Nat.not_lt_zero _),fun _=>h⟩
  ·have e:fndK S x (Y::K)=fndK S x K+1:=if_neg h
   rw[e]
   refine ⟨fun m hm=>?_,fun hh=>?_⟩
   ·match m,hm with
    | 0,_=>exact h
    | m+1,hm=>exact h1 m (by omega)
   ·exact h2 (by simp only[List.length_cons] at hh;omega)
theorem RInv.zero:RInv S (begF S) 0 []:=⟨fun m hm=>absurd hm (Nat.not_lt_zero _),fun m hm=>absurd hm (Nat.not_lt_zero _),fun m hm=>absurd hm (Nat.not_lt_zero _),fun z hz=>by obtain ⟨m,hm,_⟩:=hz;exact absurd hm (Nat.not_lt_zero _),fun m m' _ hm=>absurd hm (Nat.not_lt_zero _)⟩
theorem RInv.step {i:Nat}(hi:i<(begF S).length) {K:List (List Rg)}(h:RInv S (begF S) i K):RInv S (begF S) (i+1) (stpK S (begF S) K i):=by
 obtain ⟨b,hb⟩:∃ b,b=(begF S).getD i default:=⟨_,rfl⟩
 obtain ⟨r,hr⟩:∃ r,r=ivI (begF S) i:=⟨_,rfl⟩
 have hself:=iv_self hS hi
 have hsg:∀ z,r.1≤z∧z≤r.2→sg S b z:=fun z hz=>by
  rw[hr] at hz
  rw[hb]
  exact iv_sg hS hi hz
 have hlt:∀ z,PI (begF S) i z→z<b:=fun z hz=>by rw[hb];exact PI_lt hS hi hz
 have hPI:∀ z,PI (begF S) (i+1) z↔PI (begF S) i z∨(r.1≤z∧z≤r.2):=fun z=>by rw[hr];exact PI_succ hS hi
 have hcp:∀ z,r.1≤z∧z≤r.2→0≤z∧z≤1114111:=fun z hz=>by
  rw[hr] at hz
  exact iv_cp hS hi hz
 have hr1:r.1=b:=by rw[hr,hb];rfl
 rw[← hb,← hr] at hself
 have hbc:=hcp b hself
 have hdm:∀ m,m<K.length→inR (K.getD m default) (hdR (K.getD m default)):=fun m hm=>(hd_in (h.ok m hm)).2
 have hdc:∀ m,m<K.length→0≤hdR (K.getD m default)∧hdR (K.getD m default)≤1114111:=fun m hm=>(hd_in (h.ok m hm)).1
 have hdP:∀ m,m<K.length→PI (begF S) i (hdR (K.getD m default)):=fun m hm=>h.inn m hm _ (hdm m hm)
 have happ:∀ (X:List Rg) z,inR (canon (X++[r])) z↔(0≤z∧z≤1114111)∧(inR X z∨(r.1≤z∧z≤r.2)):=fun X z=>by
  rw[canon_mem,inR_append]
  have:inR [r] z↔r.1≤z∧z≤r.2:=by simp[inR]
  rw[this]
 have hok:∀ X:List Rg,okS (canon (X++[r])):=fun X=>okS_app ⟨by omega,by omega,(hcp r.2 ⟨by omega,Int.le_refl _⟩).2⟩
 obtain ⟨f1,f2⟩:=fnd_spec hS (x:=b) (K:=K)
 unfold stpK
 rw[← hb,← hr]
 by_cases hf:fndK S b K=K.length
 ·rw[if_pos hf]
  have hno:∀ m,m<K.length→¬sg S (hdR (K.getD m default)) b:=fun m hm hh=>f1 m (by omega) ((sam_sg hS (hdc m hm) hbc).2 hh)
  have g1:∀ m,m<K.length→(K++[canon [r]]).getD m default=K.getD m default:=fun m hm=>by rw[getD_snoc,if_pos hm]
  have g2:(K++[canon [r]]).getD K.length default=canon [r]:=by rw[getD_snoc,if_neg (Nat.lt_irrefl _),if_pos rfl]
  have hin:∀ z,inR (canon [r]) z↔(0≤z∧z≤1114111)∧(r.1≤z∧z≤r.2):=fun z=>by
   have:=happ [] z
   rw[List.nil_append] at this
   rw[this]
   simp[inR]
  have hokn:okS (canon [r]):=hok []
  obtain ⟨hn1,hn2⟩:=hd_in hokn
  have hn3:=((hin _).1 hn2).2
  have cs:∀ m,m<(K++[canon [r]]).length→m<K.length∨m=K.length:=fun m hm=>by rw[List.length_append,List.length_singleton] at hm;omega
  refine ⟨fun m hm=>?_,fun m hm z hz=>?_,fun m hm z hz=>?_,fun z hz=>?_,fun m m' hmm hm=>?_⟩
  ·rcases cs m hm with hm|rfl
   ·rw[g1 m hm];exact h.ok m hm
   ·rw[g2];exact hokn
  ·rw[hPI]
   rcases cs m hm with hm|rfl
   ·rw[g1 m hm] at hz;exact .inl (h.inn m hm z hz)
   ·rw[g2] at hz;exact .inr ((hin z).1 hz).2
  ·rcases cs m hm with hm|rfl
   ·rw[g1 m hm]
    rcases (hPI z).1 hz with hz|hz
    ·exact h.mem m hm z hz
    ·constructor
     ·intro hh
      have:=hlt z (h.inn m hm z hh)
      omega
     ·intro hh
      exact absurd (hh.tr (hsg z hz).sy) (hno m hm)
   ·rw[g2]
    rcases (hPI z).1 hz with hz|hz
    ·constructor
     ·intro hh
      have:=((hin z).1 hh).2
      have:=hlt z hz
      omega
     ·intro hh
      obtain ⟨m,hm,hmz⟩:=h.cov z hz
      have k1:=(h.mem m hm z hz).1 hmz
      exact absurd ((k1.tr hh.sy).tr (hsg _ hn3).sy) (hno m hm)
    ·exact ⟨fun _=>(hsg _ hn3).sy.tr (hsg z hz),fun _=>(hin z).2 ⟨hcp z hz,hz⟩⟩
  ·rcases (hPI z).1 hz with hz|hz
   ·obtain ⟨m,hm,hmz⟩:=h.cov z hz
    exact ⟨m,by rw[List.length_append];omega,by rw[g1 m hm];exact hmz⟩
   ·exact ⟨K.length,by rw[List.length_append,List.length_singleton];omega,by rw[g2];exact (hin z).2 ⟨hcp z hz,hz⟩⟩
  ·rcases cs m' hm with hm'|rfl
   ·rw[g1 m (by omega),g1 m' hm'];exact h.asc m m' hmm hm'
   ·rw[g1 m hmm,g2]
    have:=hlt _ (hdP m hmm)
    omega
 ·rw[if_neg hf]
  have hjl:fndK S b K<K.length:=by have:=fnd_le S b K;omega
  obtain ⟨j,hj⟩:∃ j,j=fndK S b K:=⟨_,rfl⟩
  rw[← hj] at hjl f2 ⊢
  have hjb:sg S (hdR (K.getD j default)) b:=(sam_sg hS (hdc j hjl) hbc).1 (f2 hjl)
  obtain ⟨Y,hY⟩:∃ Y,Y=canon (K.getD j default++[r]):=⟨_,rfl⟩
  rw[← hY]
  have hYo:okS Y:=by rw[hY];exact hok _
  have hYi:∀ z,inR Y z↔(0≤z∧z≤1114111)∧(inR (K.getD j default) z∨(r.1≤z∧z≤r.2)):=fun z=>by rw[hY];exact happ _ z
  have hYh:hdR Y=hdR (K.getD j default):=by
   have k1:=hd_le hYo ((hYi _).2 ⟨hdc j hjl,.inl (hdm j hjl)⟩)
   obtain ⟨k2,k3⟩:=hd_in hYo
   rcases ((hYi _).1 k3).2 with k4|k4
   ·have:=hd_le (h.ok j hjl) k4
    omega
   ·have:=hlt _ (hdP j hjl)
    omega
  have g1:∀ m,m≠j→(K.set j Y).getD m default=K.getD m default:=fun m hm=>setG_ne hm
  have g2:(K.set j Y).getD j default=Y:=setG_eq hjl
  have gh:∀ m,hdR ((K.set j Y).getD m default)=hdR (K.getD m default):=fun m=>by
   by_cases e:m=j
   ·subst e;rw[g2,hYh]
   ·rw[g1 m e]
  refine ⟨fun m hm=>?_,fun m hm z hz=>?_,fun m hm z hz=>?_,fun z hz=>?_,fun m m' hmm hm=>?_⟩
  ·rw[List.length_set] at hm
   by_cases e:m=j
   ·subst e;rw[g2];exact hYo
   ·rw[g1 m e];exact h.ok m hm
  ·rw[List.length_set] at hm
   rw[hPI]
   by_cases e:m=j
   ·subst e
    rw[g2] at hz
    exact ((hYi z).1 hz).2.imp (fun hh=>h.inn m hm z hh) id
   ·rw[g1 m e] at hz;exact .inl (h.inn m hm z hz)
  ·rw[List.length_set] at hm
   rw[gh m]
   by_cases e:m=j
   ·subst e
    rw[g2,hYi]
    rcases (hPI z).1 hz with hz|hz
    ·rw[← h.mem m hm z hz]
     constructor
     ·rintro ⟨_,hh|hh⟩
      ·exact hh
      ·have:=hlt z hz;omega
     ·exact fun hh=>⟨PI_cp hS hz,.inl hh⟩
    ·exact ⟨fun _=>hjb.tr (hsg z hz),fun _=>⟨hcp z hz,.inr hz⟩⟩
   ·rw[g1 m e]
    rcases (hPI z).1 hz with hz|hz
    ·exact h.mem m hm z hz
    ·constructor
     ·intro hh
      have:=hlt z (h.inn m hm z hh)
      omega
     ·intro hh
      exfalso
      have k1:sg S (hdR (K.getD m default)) (hdR (K.getD j default)):=(hh.tr (hsg z hz).sy).tr hjb.sy
      have k2:=(h.mem m hm _ (hdP j hjl)).2 k1
      have k3:=(h.mem j hjl _ (hdP m hm)).2 k1.sy
      have k4:=hd_le (h.ok m hm) k2
      have k5:=hd_le (h.ok j hjl) k3
      rcases Nat.lt_or_ge m j with k6|k6
      ·have:=h.asc m j k6 hjl;omega
      ·have:=h.asc j m (by omega) hm;omega
  ·rcases (hPI z).1 hz with hz|hz
   ·obtain ⟨m,hm,hmz⟩:=h.cov z hz
    refine ⟨m,by rw[List.length_set];exact hm,?_⟩
    by_cases e:m=j
    ·subst e;rw[g2];exact (hYi z).2 ⟨PI_cp hS hz,.inl hmz⟩
    ·rw[g1 m e];exact hmz
   ·exact ⟨j,by rw[List.length_set];exact hjl,by rw[g2];exact (hYi z).2 ⟨hcp z hz,.inr hz⟩⟩
  ·rw[List.length_set] at hm
   rw[gh m,gh m']
   exact h.asc m m' hmm hm
theorem refK_inv:∀ i,i≤(begF S).length→RInv S (begF S) i (refK S (begF S) i)
 | 0,_=>RInv.zero hS
 | i+1,hi=>(refK_inv i (by omega)).step hS (by omega)
theorem refK_cls:Cls S (refK S (begF S) (begF S).length):=by
 have h:=refK_inv hS _ (Nat.le_refl _)
 obtain ⟨K,hK⟩:∃ K,K=refK S (begF S) (begF S).length:=⟨_,rfl⟩
 rw[← hK] at h ⊢
 have hP:∀ z:Int,0≤z∧z≤1114111→PI (begF S) (begF S).length z:=fun z hz=>by
  obtain ⟨i,hi,h1,h2⟩:=iv_at hS hz
  exact ⟨i,hi,hi,(iv_in hS hz.2 hi).2 ⟨h1,h2⟩⟩
 have g:∀ i (hi:i<K.length),K.getD i default=K[i]:=fun i hi=>by simp[List.getD_eq_getElem?_getD,hi]
 refine ⟨fun X hX=>?_,fun x hx=>?_,fun X hX x y hx hy hin=>?_,?_⟩
 ·obtain ⟨n,hn,rfl⟩:=List.getElem_of_mem hX
  rw[← g n hn];exact h.ok n hn
 ·obtain ⟨m,hm,hz⟩:=h.cov x (hP x hx)
  exact ⟨_,getD_mem' hm,hz⟩
 ·obtain ⟨n,hn,rfl⟩:=List.getElem_of_mem hX
  rw[← g n hn] at hin ⊢
  have k1:=(h.mem n hn x (hP x hx)).1 hin
  rw[h.mem n hn y (hP y hy)]
  exact ⟨fun k2=>k1.sy.tr k2,fun k2=>k1.tr k2⟩
 ·rw[List.pairwise_iff_getElem]
  intro i j hi hj hij
  rw[← g i hi,← g j hj]
  exact h.asc i j hij hj
end
theorem refP_eq {l:List Tl}(hl:smL l):refP l=clsP (setsOf l):=by
 have hS:∀ X∈setsOf l,okS X:=fun X hX=>(sets_ok rfl hl X hX).1
 unfold refP
 rw[cutQ_beg hS]
 exact (refK_cls hS).uniq (clsP_ok hS)
end Go.Proofs
