import Derived.Test.YtcihhjjmcompkaaGreatDoorC2
import Derived.Test.YtcihhjjmcompkaaGreatDoorEa
import Derived.Test.YtcihhjjmcompkaaGreatDoorP1
import Derived.Test.YtcihhjjmcompkaaGreatDoorQz
set_option linter.unusedVariables false
set_option linter.unusedSimpArgs false
namespace Go.Proofs
open Go Go.Sx
variable {mx:Int}{pb:Bool}
structure NotInv (A:List Rg) (lo:Int) (out:List Rg):Prop where
 pos:0≤lo
 le:lo≤1114112
 mem:∀ c,inR out c↔0≤c∧c<lo∧¬inR A c
 each:∀ r∈out,0≤r.1∧r.1≤r.2∧r.2<lo
 asc:out.Pairwise (fun x y=>x.1<y.1)
def bndN (A:List Rg) (lo:Int) (i:Nat) (out:List Rg):Prop:=out.length≤i∨(out.length≤i+1∧i<A.length∧(A.getD i default).1≤lo)∨(lo=1114112∧out.length≤A.length+1)
structure CurInv (A:List Rg) (lo:Int) (i:Nat):Prop where
 le:i≤A.length
 bef:∀ k,k<i→(A.getD k default).2<lo
theorem notInv_zero (A:List Rg):NotInv A 0 []:=⟨Int.le_refl _,by decide,fun c=>by rw[inR_nil];exact ⟨fun h=>h.elim,fun h=>by omega⟩,fun r hr=>by simp at hr,List.Pairwise.nil⟩
theorem inR_getD {A:List Rg}{c:Int}:inR A c↔∃ k,k<A.length∧(A.getD k default).1≤c∧c≤(A.getD k default).2:=by
 constructor
 ·rintro ⟨r,hr,h⟩
  obtain ⟨k,hk,rfl⟩:=List.getElem_of_mem hr
  refine ⟨k,hk,?_⟩
  rw[List.getD_eq_getElem?_getD,List.getElem?_eq_getElem hk]
  exact h
 ·rintro ⟨k,hk,h⟩
  exact ⟨_,getD_mem hk,h⟩
theorem canon_apart {A:List Rg}(h:Canon A) {j k:Nat}(hjk:j<k) (hk:k<A.length):(A.getD j default).2+1<(A.getD k default).1:=by
 have:=List.pairwise_iff_getElem.1 h.sep j k (by omega) hk hjk
 rw[List.getD_eq_getElem?_getD,List.getD_eq_getElem?_getD,List.getElem?_eq_getElem (show j<A.length by omega),List.getElem?_eq_getElem hk]
 exact this
theorem canon_rg {A:List Rg}(h:Canon A) {k:Nat}(hk:k<A.length):0≤(A.getD k default).1∧(A.getD k default).1≤(A.getD k default).2∧(A.getD k default).2≤1114111:=h.ok _ (getD_mem hk)
theorem not_more {A:List Rg}{lo hi:Int}{out:List Rg}(h:NotInv A lo out) (h1:lo≤hi) (h2:hi≤1114111) (hn:∀ c,lo≤c→c≤hi→¬inR A c):NotInv A (hi+1) (out++[(lo,hi)]):=by
 have h0:=h.pos
 refine ⟨by omega,by omega,fun c=>?_,fun r hr=>?_,?_⟩
 ·rw[inR_append,h.mem,inR_cons]
  constructor
  ·rintro (⟨h3,h4,h5⟩|h3|h3)
   ·exact ⟨h3,by omega,h5⟩
   ·have h3:lo≤c∧c≤hi:=h3
    exact ⟨by omega,by omega,hn c h3.1 h3.2⟩
   ·exact (inR_nil.1 h3).elim
  ·rintro ⟨h3,h4,h5⟩
   by_cases h6:c<lo
   ·exact .inl ⟨h3,h6,h5⟩
   ·exact .inr (.inl (show lo≤c∧c≤hi by omega))
 ·rcases List.mem_append.1 hr with hr|hr
  ·have:=h.each r hr;omega
  ·simp at hr;subst hr
   show 0≤lo∧lo≤hi∧hi<hi+1
   omega
 ·refine List.pairwise_append.2 ⟨h.asc,List.pairwise_singleton _ _,fun r hr s hs=>?_⟩
  simp at hs;subst hs
  have:=h.each r hr
  show r.1<lo
  omega
theorem not_skip {A:List Rg}{lo hi:Int}{out:List Rg}(h:NotInv A lo out) (h1:lo≤hi) (h2:hi≤1114111) (hn:∀ c,lo≤c→c≤hi→inR A c):NotInv A (hi+1) out:=by
 have h0:=h.pos
 refine ⟨by omega,by omega,fun c=>?_,fun r hr=>?_,h.asc⟩
 ·rw[h.mem]
  constructor
  ·rintro ⟨h3,h4,h5⟩;exact ⟨h3,by omega,h5⟩
  ·rintro ⟨h3,h4,h5⟩
   refine ⟨h3,?_,h5⟩
   refine Classical.byContradiction fun h6=>h5 (hn c (by omega) (by omega))
 ·have:=h.each r hr;omega
theorem gap_out {A:List Rg}(hA:Canon A) {lo:Int}{i:Nat}(hc:CurInv A lo i) {c:Int}(hlo:lo≤c) (hi:i<A.length→c<(A.getD i default).1):¬inR A c:=by
 rw[inR_getD]
 rintro ⟨k,hk,h1,h2⟩
 by_cases hki:k<i
 ·have:=hc.bef k hki;omega
 ·by_cases he:k=i
  ·subst he;have:=hi hk;omega
  ·have h3:=hi (by omega)
   have h4:=canon_apart hA (show i<k by omega) hk
   have h5:=canon_rg hA (show i<A.length by omega)
   omega
theorem cur_next {A:List Rg}{lo:Int}{i:Nat}(hc:CurInv A lo i) (hi:i<A.length) (h:(A.getD i default).2<lo):CurInv A lo (i+1):=⟨hi,fun k hk=>by
 by_cases e:k=i
 ·subst e;exact h
 ·exact hc.bef k (by omega)⟩
theorem cur_mono {A:List Rg}{lo lo':Int}{i:Nat}(hc:CurInv A lo i) (h:lo≤lo'):CurInv A lo' i:=⟨hc.le,fun k hk=>by have:=hc.bef k hk;omega⟩
theorem bnd_next {A:List Rg}{lo:Int}{i:Nat}{out:List Rg}(h:bndN A lo i out) (hlo:lo≤1114111):bndN A lo (i+1) out:=by
 unfold bndN at *
 rcases h with h|h|h
 ·exact .inl (by omega)
 ·exact .inl (by omega)
 ·omega
theorem bnd_gap {A:List Rg}{lo:Int}{i:Nat}{out:List Rg}(h:bndN A lo i out) (hlo:lo≤1114111) (hi:i<A.length→lo<(A.getD i default).1):out.length≤i:=by
 unfold bndN at h
 rcases h with h|⟨h1,h2,h3⟩|h
 ·exact h
 ·have:=hi h2;omega
 ·omega
theorem not_done {a out:List Rg}(h:NotInv (canon a) 1114112 out):canon out=combL [(0,1114111)] a 3:=by
 obtain ⟨h1,h2⟩:=comb_spec [(0,1114111)] a 3
 refine canon_unique (canon_canon out) h1 fun c=>?_
 rw[canon_mem,h.mem,h2,canon_mem]
 have hf:hasB [(0,1114111)] c=true↔0≤c∧c≤1114111:=by
  rw[hasB_iff,inR_cons]
  constructor
  ·exact fun h=>h.1
  ·exact fun h=>⟨h,.inl h⟩
 constructor
 ·rintro ⟨hb,_,_,hn⟩
  refine ⟨hb,?_⟩
  have h3:hasB a c=false:=by
   rw[← Bool.not_eq_true,hasB_iff]
   exact hn
  rw[hf.2 hb,h3];rfl
 ·rintro ⟨hb,hk⟩
  refine ⟨hb,hb.1,by omega,fun hin=>?_⟩
  rw[hf.2 hb,hasB_iff.2 hin] at hk
  exact absurd hk (by decide)
theorem not_mkOk {A out:List Rg}{lo:Int}(_:NotInv A lo out) (hl:out.length<4194304):mkOk out:=⟨hl,.inr (.inr trivial)⟩
end Go.Proofs
namespace Go.Proofs
open Go Go.Sx
variable {mx:Int}{pb:Bool}
noncomputable def cCur:Code:=(Tryz.f196.body).getD .skip
noncomputable def cCur1:Code:=(Tryz.f242.body).getD .skip
noncomputable def cNot1:Code:=(Tryz.f145.body).getD .skip
noncomputable def Γcu:Ctx:=fun f=>match f with
 | 50=>some (.pure ctMake)
 | _=>none
theorem Γcu_ok:CtxOk Tryz.prog (GlT mx pb) Γcu:=by
 intro f h hh
 simp only[Γcu] at hh
 split at hh<;>simp at hh<;>subst hh
 ·exact cpMake_ok
noncomputable def Γco (mx:Int) (pb:Bool):Ctx:=fun f=>match f with
 | 50=>some (.pure ctMake)
 | 196=>some (.gen (inlW true Γcu Tryz.T (GlT mx pb) Tryz.f196 cCur))
 | 242=>some (.gen (inlW true Γ0 Tryz.T (GlT mx pb) Tryz.f242 cCur1))
 | 145=>some (.gen (inlW true Γ0 Tryz.T (GlT mx pb) Tryz.f145 cNot1))
 | _=>none
theorem Γco_ok:CtxOk Tryz.prog (GlT mx pb) (Γco mx pb):=by
 intro f h hh
 simp only[Γco] at hh
 split at hh<;>simp at hh<;>subst hh
 ·exact cpMake_ok
 ·exact soundT_inlW Γcu_ok Tryz.T_ok Tryz.mixed Tryz.func196 rfl (by kernel_rfl)
 ·exact soundT_inlW Γ0_ok Tryz.T_ok Tryz.mixed Tryz.func242 rfl (by kernel_rfl)
 ·exact soundT_inlW Γ0_ok Tryz.T_ok Tryz.mixed Tryz.func145 rfl (by kernel_rfl)
def ctCmbN:Ct:={ ι:=List Rg,inp:=fun a=>[setD a,.ag [nilV],.fn 145 []],out:=fun a=>setD (combL [(0,1114111)] a 3),pre:=fun a=>mkOk a∧a.length≤500000 }
def owCu (A:List Rg) (i:Nat) (out:List Rg):List Own:=[.cells 24 [nilV],.cells 22 [rgsD A],.cells 3 [.v (.int .i64 i)],.cells 22 [rgsD []],.cells 3 [.v (.int .i64 0)],rowL 82 2 rgD out]
def sCu (A:List Rg) (lo:Int) (i:Nat) (out:List Rg):St:=⟨[(2,.fn 145 []),(6,.own 0 0),(7,.fn 242 [.own 2 0,.own 1 0]),(8,.fn 242 [.own 4 0,.own 3 0]),(9,.row 5),(10,.v (.int .i64 lo))],owCu A i out,[]⟩
def sCi (A:List Rg) (lo:Int) (i:Nat) (out:List Rg):St:=⟨[(0,.v (.int .i64 lo)),(1,.own 2 0),(2,.own 1 0)],owCu A i out,[]⟩
theorem StLe.m6 {tm tm':List (Nat × D)}{ow ow':List Own}(h1:renT [0,1,2,3,4,5] tm tm') (h2:renO [0,1,2,3,4,5] ow [0,1,2,3,4,5] ow'):StLe 6 ⟨tm,ow,[]⟩ ⟨tm',ow',[]⟩:=StLe.renm [0,1,2,3,4,5] h1 h2 (by decide) (by decide) (by simp)
set_option maxHeartbeats 4000000 in
theorem cmbN_ok:Sound Tryz.prog (GlT mx pb) 142 ctCmbN:=by
 refine sound_by (cc:=true) Γco_ok Tryz.T_ok Tryz.mixed Tryz.func142 rfl (by kernel_rfl) (fun _=>rfl) (fun _ _=>by show 3≤51;decide) ?_
 rintro (a:List Rg) ⟨(hm:mkOk a),(hl:a.length≤500000)⟩
 have p1:ctMake.pre a:=hm
 refine gO ?_
 refine .inr ⟨.stage [0,2] (.alt 1 [2] (.stage [] (.alt 3 [] (.done [4,5]) .nil)) .nil),by decide +kernel,?_⟩
 refine And.intro rfl (And.intro rfl ?_)
 repeat' (first|refine gl ?_|(first|refine br ?_ ?_|refine brF ?_ ?_)<;>intro q_<;>try simp only[nz] at q_)
 refine And.intro rfl ?_
 repeat' (first|refine gl ?_|(first|refine br ?_ ?_|refine brF ?_ ?_)<;>intro q_<;>try simp only[nz] at q_)
 refine ⟨[],EntL.cons Ent.nil (EntL.refl []),⟨by decide,.inl (by decide)⟩,?_⟩
 repeat' (first|refine gl ?_|(first|refine br ?_ ?_|refine brF ?_ ?_)<;>intro q_<;>try simp only[nz] at q_)
 refine And.intro rfl (And.intro rfl ?_)
 repeat' (first|refine gl ?_|(first|refine br ?_ ?_|refine brF ?_ ?_)<;>intro q_<;>try simp only[nz] at q_)
 simp only[setOwn,goneO,rowL,retD,nr,ns,Nat.reduceAdd,Nat.zero_add,reduceIte]
 have hA:=canon_canon a
 have hAl:=canon_len a
 refine ⟨0,Int × Nat × List Rg,fun|(lo,i,out)=>sCu (canon a) lo i out,fun|(lo,i,out)=>NotInv (canon a) lo out∧CurInv (canon a) lo i∧bndN (canon a) lo i out,fun x=>(1114112 - x.1).toNat,fun _=>Nat.zero_le _,⟨(0,0,[]),⟨notInv_zero _,⟨Nat.zero_le _,fun k hk=>by omega⟩,.inl (Nat.le_refl _)⟩,StLe.trans (StLe.nilRow (t:=9) 82 2 (fun _ _=>.junk) rfl) (StLe.ren [2,4,5,7,8,9] tmS ⟨⟨rfl,EntL.refl _,rfl⟩,⟨rfl,EntL.refl _,rfl⟩,⟨rfl,EntL.refl _,rfl⟩,⟨rfl,EntL.refl _,rfl⟩,⟨rfl,EntL.refl _,rfl⟩,own_nil,trivial⟩ (by decide))⟩,?_⟩
 rintro ⟨lo,i,out⟩ ⟨hN,hC,hB⟩
 generalize hAe:canon a=A at hA hAl hN hC hB ⊢
 have hp:=hN.pos
 have hle:=hN.le
 by_cases hlo:lo≤1114111
 ·repeat' (first|refine gl ?_|(first|refine br ?_ ?_|refine brF ?_ ?_)<;>intro q_<;>try simp only[nz] at q_)
  refine ⟨0,Nat,fun i=>sCi A lo i out,fun i=>CurInv A lo i∧bndN A lo i out,fun i=>A.length - i,fun _=>(by show 6≤6;decide),⟨i,⟨hC,hB⟩,StLe.m6 tmS ⟨⟨rfl,EntL.refl _,rfl⟩,⟨rfl,EntL.refl _,rfl⟩,⟨rfl,EntL.refl _,rfl⟩,⟨rfl,EntL.refl _,rfl⟩,⟨rfl,EntL.refl _,rfl⟩,own_refl,trivial⟩⟩,?_⟩
  clear hC hB
  rintro k ⟨(hC:CurInv A lo k),(hB:bndN A lo k out)⟩
  have hi:=hC.le
  by_cases hil:k<A.length
  ·obtain ⟨h1,h2,h3⟩:=canon_rg hA hil
   by_cases hh:(A.getD ((k:Int)).toNat default).2<lo
   ·repeat' (first|refine gl ?_|(first|refine br ?_ ?_|refine brF ?_ ?_)<;>intro q_<;>try simp only[nz] at q_)
    exact ⟨k+1,⟨cur_next hC hil hh,bnd_next hB hlo⟩,(by show A.length - (k+1)<A.length - k;omega),StLe.m6 tmS ⟨⟨rfl,EntL.refl _,rfl⟩,⟨rfl,EntL.refl _,rfl⟩,⟨rfl,EntL.cons (Ent.int (by omega)) (EntL.refl []),rfl⟩,⟨rfl,EntL.refl _,rfl⟩,⟨rfl,EntL.refl _,rfl⟩,own_refl,trivial⟩⟩
   ·have hh0:¬(A.getD k default).2<lo:=hh
    by_cases hg:lo<(A.getD ((k:Int)).toNat default).1
    ·have hg0:lo<(A.getD k default).1:=hg
     have hb:=bnd_gap hB hlo (fun _=>hg0)
     have hn:=not_more hN (show lo≤(A.getD k default).1 - 1 by omega) (by omega) (fun c c1 c2=>gap_out hA hC c1 (fun _=>by omega))
     rw[Int.sub_add_cancel] at hn
     have hm:min ((A.getD ((k:Int)).toNat default).1 - 1) 1114111=(A.getD k default).1 - 1:=by
      show min ((A.getD k default).1 - 1) 1114111=_
      omega
     have hol:out.length≤500000:=by omega
     repeat' (first|refine gl ?_|(first|refine br ?_ ?_|refine brF ?_ ?_)<;>intro q_<;>try simp only[nz] at q_)
     refine ⟨2,?_⟩
     repeat' (first|refine gl ?_|(first|refine br ?_ ?_|refine brF ?_ ?_)<;>intro q_<;>try simp only[nz] at q_)
     exact ⟨((A.getD k default).1,k,out++[(lo,(A.getD k default).1 - 1)]),⟨hn,cur_mono hC (by omega),.inr (.inl ⟨by simp;omega,hil,Int.le_refl _⟩)⟩,(by show (1114112 - (A.getD k default).1).toNat<(1114112 - lo).toNat;omega),StLe.ren [0,1,2,3,4,6] tmS ⟨⟨rfl,EntL.refl _,rfl⟩,⟨rfl,EntL.refl _,rfl⟩,⟨rfl,EntL.refl _,rfl⟩,⟨rfl,EntL.refl _,rfl⟩,⟨rfl,EntL.refl _,rfl⟩,own_app (x:=(lo,(A.getD k default).1 - 1)) (fun j hj=>match j,hj with|0,_=>Ent.refl _|1,_=>Ent.of_eq (congrArg (fun z=>D.v (.int .i64 z)) hm)),trivial⟩ (by decide)⟩
    ·have hg0:¬lo<(A.getD k default).1:=hg
     repeat' (first|refine gl ?_|(first|refine br ?_ ?_|refine brF ?_ ?_)<;>intro q_<;>try simp only[nz] at q_)
     refine ⟨2,?_⟩
     repeat' (first|refine gl ?_|(first|refine br ?_ ?_|refine brF ?_ ?_)<;>intro q_<;>try simp only[nz] at q_)
     refine ⟨((A.getD k default).2+1,k,out),⟨not_skip hN (by omega) (by omega) (fun c c1 c2=>inR_getD.2 ⟨k,hil,by omega,by omega⟩),cur_mono hC (by omega),?_⟩,(by show (1114112 - ((A.getD k default).2+1)).toNat<(1114112 - lo).toNat;omega),?_⟩
     ·rcases hB with h|⟨h4,h5,h6⟩|h
      ·exact .inl h
      ·exact .inr (.inl ⟨h4,h5,by omega⟩)
      ·omega
     ·exact StLe.ren [0,1,2,3,4,5] tmS ⟨⟨rfl,EntL.refl _,rfl⟩,⟨rfl,EntL.refl _,rfl⟩,⟨rfl,EntL.refl _,rfl⟩,⟨rfl,EntL.refl _,rfl⟩,⟨rfl,EntL.refl _,rfl⟩,own_refl,trivial⟩ (by decide)
  ·have hk:k=A.length:=by omega
   have hb:=bnd_gap hB hlo (fun h=>absurd h hil)
   have hn:=not_more hN hlo (Int.le_refl _) (fun c c1 c2=>gap_out hA hC c1 (fun h=>absurd h hil))
   have hol:out.length≤500000:=by omega
   repeat' (first|refine gl ?_|(first|refine br ?_ ?_|refine brF ?_ ?_)<;>intro q_<;>try simp only[nz] at q_)
   refine ⟨2,?_⟩
   repeat' (first|refine gl ?_|(first|refine br ?_ ?_|refine brF ?_ ?_)<;>intro q_<;>try simp only[nz] at q_)
   exact ⟨(1114112,k,out++[(lo,1114111)]),⟨hn,cur_mono hC (by omega),.inr (.inr ⟨rfl,by simp;omega⟩)⟩,(by show ((1114112:Int) - 1114112).toNat<(1114112 - lo).toNat;omega),StLe.ren [0,1,2,3,4,6] tmS ⟨⟨rfl,EntL.refl _,rfl⟩,⟨rfl,EntL.refl _,rfl⟩,⟨rfl,EntL.refl _,rfl⟩,⟨rfl,EntL.refl _,rfl⟩,⟨rfl,EntL.refl _,rfl⟩,own_app (x:=(lo,1114111)) (fun j hj=>match j,hj with|0,_=>Ent.refl _|1,_=>Ent.of_eq (congrArg (fun z=>D.v (.int .i64 z)) (show min (1114111:Int) 1114111=1114111 by decide))),trivial⟩ (by decide)⟩
 ·have hlo2:lo=1114112:=by omega
  have hol:out.length<4194304:=by
   rcases hB with h|⟨h4,h5,h6⟩|h
   ·have:=hC.le;omega
   ·omega
   ·omega
  have p2:ctMake.pre out:=not_mkOk hN hol
  have e:=not_done (a:=a) (out:=out) (by rw[hAe,← hlo2];exact hN)
  repeat' (first|refine gl ?_|(first|refine br ?_ ?_|refine brF ?_ ?_)<;>intro q_<;>try simp only[nz] at q_)
  refine EntR.of rfl ?_
  show Ent (setD (canon out)) (setD _)
  rw[e]
  exact Ent.refl _
end Go.Proofs
namespace Go.Proofs
open Go Go.Sx
variable {mx:Int}{pb:Bool}
theorem asc_mk {l:List Rg}(_:∀ r∈l,0≤r.1∧r.2≤1114111) (_:l.Pairwise (fun x y=>x.1<y.1)) (hl:l.length<65536):mkOk l:=⟨by omega,.inr (.inr trivial)⟩
theorem canon_mk {l:List Rg}(hl:l.length<65536):mkOk (canon l):=by
 have h:=canon_canon l
 have h2:=canon_len l
 refine asc_mk (fun r hr=>⟨(h.ok r hr).1,(h.ok r hr).2.2⟩) ?_ (by omega)
 refine List.Pairwise.imp_of_mem (fun {x y} hx hy hxy=>?_) h.sep
 have:=h.ok x hx
 have hxy:x.2+1<y.1:=hxy
 omega
def selB (v:Int) (s:Sp):Bool:=decide (v=0)||decide (s.val=v)
theorem selB_iff {v:Int}{s:Sp}:selB v s=true↔v=0∨s.val=v:=by simp[selB]
def valS (v:Int) (l:List Sp):List Rg:=(l.filter (selB v)).map fun s=>(s.lo,s.hi)
theorem valS_take {v:Int}{l:List Sp}{k:Nat}(hk:k<l.length):valS v (l.take (k+1))=if selB v (l.getD k default)=true then valS v (l.take k)++[((l.getD k default).lo,(l.getD k default).hi)] else valS v (l.take k):=by
 have e:l.getD k default=l[k]:=by simp[List.getD_eq_getElem?_getD,hk]
 rw[List.take_succ_eq_append_getElem hk,e]
 unfold valS
 rw[List.filter_append,List.map_append]
 by_cases h:selB v l[k]=true
 ·rw[if_pos h,List.filter_cons_of_pos h];rfl
 ·rw[if_neg h,List.filter_cons_of_neg h];simp
theorem valS_len (v:Int) (l:List Sp):(valS v l).length≤l.length:=by
 unfold valS
 rw[List.length_map]
 exact List.length_filter_le _ _
theorem cnt_asc (p:Pr):∀ j,j<(cntP p).spans.length→∀ i,i<j→((cntP p).spans.getD i default).hi<((cntP p).spans.getD j default).lo
 | 0,_,i,hi=>by omega
 | j+1,hj,i,hi=>by
  have h1:=(cnt_ok2 p (j+1) hj).2 (by omega)
  rw[show j+1 - 1=j by omega] at h1
  have h1:=h1.1
  by_cases e:i=j
  ·subst e;exact h1
  ·have h2:=cnt_asc p j (by omega) i (by omega)
   have h3:=(cnt_ok2 p j (by omega)).1.2.1
   omega
theorem cnt_pair (p:Pr):(cntP p).spans.Pairwise (fun x y=>x.hi<y.lo):=by
 rw[List.pairwise_iff_getElem]
 intro i j hi hj hij
 have:=cnt_asc p j hj i hij
 rw[List.getD_eq_getElem?_getD,List.getD_eq_getElem?_getD,List.getElem?_eq_getElem hi,List.getElem?_eq_getElem hj] at this
 exact this
theorem cnt_in (p:Pr):∀ s∈(cntP p).spans,spIn (cntP p).names.length s:=fun s hs=>by
 obtain ⟨i,hi,rfl⟩:=List.getElem_of_mem hs
 have:=(cnt_ok2 p i hi).1
 rw[List.getD_eq_getElem?_getD,List.getElem?_eq_getElem hi] at this
 exact this
theorem valS_mk (p:Pr) (v:Int) (hl:(cntP p).spans.length<65536):mkOk (valS v (cntP p).spans):=by
 refine asc_mk (fun r hr=>?_) ?_ (Nat.lt_of_le_of_lt (valS_len _ _) hl)
 ·obtain ⟨s,hs,rfl⟩:=List.mem_map.1 hr
  have:=cnt_in p s (List.mem_filter.1 hs).1
  exact ⟨this.1,this.2.2.1⟩
 ·unfold valS
  rw[List.pairwise_map]
  refine List.Pairwise.imp_of_mem (fun {x y} hx hy hxy=>?_) ((cnt_pair p).filter _)
  have:=(cnt_in p x (List.mem_filter.1 hx).1).2.1
  show x.lo<y.lo
  omega
noncomputable def setV (p:Pr) (v:Int):List Rg:=if v=0 then combL [(0,1114111)] (canon (valS v (cntP p).spans)) 3 else canon (valS v (cntP p).spans)
theorem inR_valS {v:Int}{l:List Sp}{c:Int}:inR (valS v l) c↔∃ s∈l,(v=0∨s.val=v)∧s.lo≤c∧c≤s.hi:=by
 constructor
 ·rintro ⟨r,hr,h⟩
  obtain ⟨s,hs,rfl⟩:=List.mem_map.1 hr
  obtain ⟨h1,h2⟩:=List.mem_filter.1 hs
  exact ⟨s,h1,selB_iff.1 h2,h⟩
 ·rintro ⟨s,h1,h2,h⟩
  exact ⟨(s.lo,s.hi),List.mem_map.2 ⟨s,List.mem_filter.2 ⟨h1,selB_iff.2 h2⟩,rfl⟩,h⟩
theorem getV_spec (p:Pr) (c:Int):(∃ s∈(cntP p).spans,s.lo≤c∧c≤s.hi∧getV p c=s.val)∨((∀ s∈(cntP p).spans,¬(s.lo≤c∧c≤s.hi))∧getV p c=0):=by
 unfold getV valL
 cases h:(cntP p).spans.find? (fun s=>decide (s.lo≤c∧c≤s.hi)) with
 | none =>
  refine .inr ⟨fun s hs hh=>?_,rfl⟩
  have:=List.find?_eq_none.1 h s hs
  simp at this
  omega
 | some s =>
  have h1:=List.find?_some h
  simp at h1
  exact .inl ⟨s,List.mem_of_find?_eq_some h,h1.1,h1.2,rfl⟩
theorem span_one (p:Pr) {s t:Sp}{c:Int}(hs:s∈(cntP p).spans) (ht:t∈(cntP p).spans) (h1:s.lo≤c∧c≤s.hi) (h2:t.lo≤c∧c≤t.hi):s=t:=by
 obtain ⟨i,hi,rfl⟩:=List.getElem_of_mem hs
 obtain ⟨j,hj,rfl⟩:=List.getElem_of_mem ht
 have hp:=List.pairwise_iff_getElem.1 (cnt_pair p)
 by_cases e:i=j
 ·subst e;rfl
 ·exfalso
  rcases Nat.lt_or_gt_of_ne e with h|h
  ·have:=hp i j hi hj h;omega
  ·have:=hp j i hj hi h;omega
theorem setV_has (p:Pr) (v:Int) {c:Int}(h0:0≤c) (h1:c≤1114111):hasB (setV p v) c=true↔getV p c=v:=by
 have hm:hasB (canon (valS v (cntP p).spans)) c=true↔∃ s∈(cntP p).spans,(v=0∨s.val=v)∧s.lo≤c∧c≤s.hi:=by
  rw[hasB_iff,canon_mem,inR_valS]
  exact ⟨fun h=>h.2.2,fun h=>⟨⟨h0,h1⟩,⟨h0,h1⟩,h⟩⟩
 have hf:hasB [(0,1114111)] c=true:=hasB_iff.2 ⟨⟨h0,h1⟩,inR_cons.2 (.inl ⟨h0,h1⟩)⟩
 unfold setV
 by_cases hv:v=0
 ·rw[if_pos hv,hasB_iff,(comb_spec _ _ _).2,hf]
  have hk:keepsB 3 true (hasB (canon (valS v (cntP p).spans)) c)=true↔¬hasB (canon (valS v (cntP p).spans)) c=true:=by
   cases hasB (canon (valS v (cntP p).spans)) c<;>simp[keepsB]
  rw[hk,hm]
  constructor
  ·rintro ⟨_,_,hn⟩
   rcases getV_spec p c with ⟨s,hs,h2,h3,h4⟩|⟨_,h4⟩
   ·exact absurd ⟨s,hs,.inl hv,h2,h3⟩ hn
   ·rw[h4,hv]
  ·intro hg
   refine ⟨⟨h0,h1⟩,⟨h0,h1⟩,?_⟩
   rintro ⟨s,hs,_,h2,h3⟩
   rcases getV_spec p c with ⟨t,ht,h4,h5,h6⟩|⟨hn,_⟩
   ·have:=(cnt_in p t ht).2.2.2.1
    omega
   ·exact hn s hs ⟨h2,h3⟩
 ·rw[if_neg hv,hm]
  constructor
  ·rintro ⟨s,hs,h2,h3,h4⟩
   rcases getV_spec p c with ⟨t,ht,h5,h6,h7⟩|⟨hn,_⟩
   ·have:=span_one p hs ht ⟨h3,h4⟩ ⟨h5,h6⟩
    subst this
    rw[h7]
    exact h2.resolve_left hv
   ·exact absurd ⟨h3,h4⟩ (hn s hs)
  ·intro hg
   rcases getV_spec p c with ⟨t,ht,h5,h6,h7⟩|⟨_,h7⟩
   ·exact ⟨t,ht,.inr (by rw[← h7,hg]),h5,h6⟩
   ·exact absurd (by rw[← hg,h7]) hv
theorem setV_canon (p:Pr) (v:Int):Canon (setV p v):=by
 unfold setV
 split
 ·exact (comb_spec _ _ _).1
 ·exact canon_canon _
theorem sets_apart (p:Pr) {v w:Int}(h:¬v=w):combL (setV p v) (setV p w) 2=[]:=by
 obtain ⟨h1,h2⟩:=comb_spec (setV p v) (setV p w) 2
 refine canon_unique h1 Canon.nil fun c=>?_
 rw[h2,inR_nil]
 constructor
 ·rintro ⟨hb,hk⟩
  have e:∀ x y,keepsB 2 x y=(x&&y):=fun x y=>by simp[keepsB]
  rw[e,Bool.and_eq_true] at hk
  have e1:=(setV_has p v hb.1 hb.2).1 hk.1
  have e2:=(setV_has p w hb.1 hb.2).1 hk.2
  exact h (e1.symm.trans e2)
 ·exact fun h=>h.elim
end Go.Proofs
namespace Go.Proofs
open Go Go.Sx
variable {mx:Int}{pb:Bool}
def ctNotS:Ct:={ ι:=List Rg,inp:=fun a=>[setD a],out:=fun a=>setD (combL [(0,1114111)] a 3),pre:=fun a=>mkOk a∧a.length≤10000 }
noncomputable def Γno (mx:Int) (pb:Bool):Ctx:=fun f=>match f with
 | 142=>some (.pure ctCmbN)
 | _=>none
theorem Γno_ok:CtxOk Tryz.prog (GlT mx pb) (Γno mx pb):=by
 intro f h hh
 simp only[Γno] at hh
 split at hh<;>simp at hh<;>subst hh
 ·exact cmbN_ok
set_option maxHeartbeats 1000000 in
theorem pNotS_ok:Sound Tryz.prog (GlT mx pb) 101 ctNotS:=by
 refine sound_by (cc:=true) Γno_ok Tryz.T_ok Tryz.mixed Tryz.func101 rfl (by kernel_rfl) (fun _=>rfl) (fun _ _=>by show 1≤6;decide) ?_
 rintro (a:List Rg) ⟨(hm:mkOk a),(hl:a.length≤10000)⟩
 have p1:ctCmbN.pre a:=⟨hm,by omega⟩
 repeat' (first|refine gl ?_|(first|refine br ?_ ?_|refine brF ?_ ?_)<;>intro q_<;>try simp only[nz] at q_)
 exact EntR.of rfl (Ent.refl _)
def ctMns:Ct:={ ι:=List Rg × List Rg,inp:=fun x=>[setD x.1,setD x.2],out:=fun x=>setD (combL x.1 x.2 3),pre:=fun x=>x.1.length≤10000∧x.2.length≤10000 }
noncomputable def Γmn:Ctx:=fun f=>match f with
 | 59=>some (.pure ctComb)
 | _=>none
theorem Γmn_ok:CtxOk Tryz.prog (GlT mx pb) Γmn:=by
 intro f h hh
 simp only[Γmn] at hh
 split at hh<;>simp at hh<;>subst hh
 ·exact comb_ok
theorem rMns_ok:Sound Tryz.prog (GlT mx pb) 26 ctMns:=by
 refine sound_by (cc:=true) Γmn_ok Tryz.T_ok Tryz.mixed Tryz.func26 rfl (by kernel_rfl) (fun _=>rfl) (fun _ _=>by show 2≤8;decide) ?_
 rintro ⟨(a:List Rg),(b:List Rg)⟩ ⟨(ha:a.length≤10000),(hb:b.length≤10000)⟩
 refine gA ?_
 refine ⟨(a,b,3),EntL.refl _,⟨ha,hb⟩,?_⟩
 refine gA ?_
 exact EntR.of rfl (Ent.refl _)
def ctAndS:Ct:={ ι:=List Rg × List Rg,inp:=fun x=>[setD x.1,setD x.2],out:=fun x=>setD (combL x.1 x.2 2),pre:=fun x=>x.1.length≤10000∧x.2.length≤10000 }
theorem rAnd_ok:Sound Tryz.prog (GlT mx pb) 25 ctAndS:=by
 refine sound_by (cc:=true) Γmn_ok Tryz.T_ok Tryz.mixed Tryz.func25 rfl (by kernel_rfl) (fun _=>rfl) (fun _ _=>by show 2≤8;decide) ?_
 rintro ⟨(a:List Rg),(b:List Rg)⟩ ⟨(ha:a.length≤10000),(hb:b.length≤10000)⟩
 refine gA ?_
 refine ⟨(a,b,2),EntL.refl _,⟨ha,hb⟩,?_⟩
 refine gA ?_
 exact EntR.of rfl (Ent.refl _)
noncomputable def Γrno:Ctx:=fun f=>match f with
 | 26=>some (.pure ctMns)
 | _=>none
theorem Γrno_ok:CtxOk Tryz.prog (GlT mx pb) Γrno:=by
 intro f h hh
 simp only[Γrno] at hh
 split at hh<;>simp at hh<;>subst hh
 ·exact rMns_ok
theorem rNotS_ok:Sound Tryz.prog (GlT mx pb) 23 ctNotS:=by
 refine sound_by (cc:=true) Γrno_ok Tryz.T_ok Tryz.mixed Tryz.func23 rfl (by kernel_rfl) (fun _=>rfl) (fun _ _=>by show 1≤8;decide) ?_
 rintro (a:List Rg) ⟨(hm:mkOk a),(hl:a.length≤10000)⟩
 refine gA ?_
 refine ⟨([(0,1114111)],a),EntL.cons (Ent.ag (EntL.cons (ent_sl1 fun j hj=>?_) (EntL.refl _))) (EntL.refl _),⟨(by show 1≤10000;decide),hl⟩,?_⟩
 ·match j,hj with
  | 0,_=>exact Ent.refl _
  | 1,_=>exact Ent.refl _
 refine gA ?_
 exact EntR.of rfl (Ent.refl _)
noncomputable def ctSetV:Ct:={ ι:=Pr × Int,inp:=fun x=>[prA x.1,.v (.int .i64 x.2)],out:=fun x=>setD (setV x.1 x.2),pre:=fun x=>x.1.spans.length≤1000 }
theorem cnt_spl (p:Pr):(cntP p).spans.length≤p.spans.length:=by
 rcases Bool.eq_false_or_eq_true (validP p) with h|h
 ·rw[cntP_t h];exact Nat.le_refl _
 ·rw[cntP_f h];exact Nat.zero_le _
noncomputable def Γst (mx:Int) (pb:Bool):Ctx:=fun f=>match f with
 | 250=>some (.pure ctCnt)
 | 50=>some (.pure ctMake)
 | 101=>some (.pure ctNotS)
 | _=>none
theorem Γst_ok:CtxOk Tryz.prog (GlT mx pb) (Γst mx pb):=by
 intro f h hh
 simp only[Γst] at hh
 split at hh<;>simp at hh<;>subst hh
 ·exact pCnt_ok
 ·exact cpMake_ok
 ·exact pNotS_ok
set_option maxHeartbeats 4000000 in
theorem pSetV_ok:Sound Tryz.prog (GlT mx pb) 205 ctSetV:=by
 refine sound_by (cc:=true) Γst_ok Tryz.T_ok Tryz.mixed Tryz.func205 rfl (by kernel_rfl) (fun _=>rfl) (fun _ _=>by show 2≤40;decide) ?_
 rintro ⟨(p:Pr),(v:Int)⟩ (hp:p.spans.length≤1000)
 have p1:ctCnt.pre p:=Nat.le_trans hp (by decide)
 have hl:=cnt_spl p
 repeat' (first|refine gl ?_|(first|refine br ?_ ?_|refine brF ?_ ?_)<;>intro q_<;>try simp only[nz] at q_)
 refine ⟨0,Nat × List Rg,fun|(k,out)=>⟨[(1,.v (.int .i64 v)),(4,.own 0 0),(5,.row 1),(10,spsD (cntP p).spans),(11,.v (.int .i64 (cntP p).spans.length)),(12,.v (.int .i64 k))],[.cells 24 [nilV],rowL 82 2 rgD out],[]⟩,fun|(k,out)=>k≤(cntP p).spans.length∧out=valS v ((cntP p).spans.take k),fun x=>(cntP p).spans.length - x.1,fun _=>Nat.zero_le _,⟨(0,[]),⟨Nat.zero_le _,rfl⟩,StLe.trans (StLe.nilRow (t:=5) 82 2 (fun _ _=>.junk) rfl) (StLe.ren [1,2] tmS ⟨⟨rfl,EntL.refl _,rfl⟩,own_nil,trivial⟩ (by decide))⟩,?_⟩
 rintro ⟨k,out⟩ ⟨hk,ho⟩
 have hk:k≤(cntP p).spans.length:=hk
 have hmk:=valS_mk p v (by omega)
 have hset:setV p v=if v=0 then combL [(0,1114111)] (canon (valS v (cntP p).spans)) 3 else canon (valS v (cntP p).spans):=rfl
 generalize (cntP p).spans=S at hl hk ho hmk hset ⊢
 have hol:out.length≤k:=by
  rw[ho]
  have:=valS_len v (S.take k)
  simp at this;omega
 by_cases hlt:k<S.length
 ·have ht:=valS_take (v:=v) hlt
  rw[← ho] at ht
  by_cases hv:v=0
  ·have hs:selB v (S.getD k default)=true:=selB_iff.2 (.inl hv)
   rw[if_pos hs] at ht
   repeat' (first|refine gl ?_|(first|refine br ?_ ?_|refine brF ?_ ?_)<;>intro q_<;>try simp only[nz] at q_)
   exact ⟨(k+1,out++[((S.getD k default).lo,(S.getD k default).hi)]),⟨hlt,ht.symm⟩,(by show S.length - (k+1)<S.length - k;omega),StLe.ren [0,3] tmS ⟨⟨rfl,EntL.refl _,rfl⟩,own_app (x:=((S.getD k default).lo,(S.getD k default).hi)) (fun j hj=>match j,hj with|0,_=>Ent.refl _|1,_=>Ent.refl _),trivial⟩ (by decide)⟩
  ·by_cases hw:(S.getD ((k:Int)).toNat default).val=v
   ·have hs:selB v (S.getD k default)=true:=selB_iff.2 (.inr hw)
    rw[if_pos hs] at ht
    repeat' (first|refine gl ?_|(first|refine br ?_ ?_|refine brF ?_ ?_)<;>intro q_<;>try simp only[nz] at q_)
    exact ⟨(k+1,out++[((S.getD k default).lo,(S.getD k default).hi)]),⟨hlt,ht.symm⟩,(by show S.length - (k+1)<S.length - k;omega),StLe.ren [0,3] tmS ⟨⟨rfl,EntL.refl _,rfl⟩,own_app (x:=((S.getD k default).lo,(S.getD k default).hi)) (fun j hj=>match j,hj with|0,_=>Ent.refl _|1,_=>Ent.refl _),trivial⟩ (by decide)⟩
   ·have hs:¬selB v (S.getD k default)=true:=fun h=>(selB_iff.1 h).elim hv hw
    rw[if_neg hs] at ht
    repeat' (first|refine gl ?_|(first|refine br ?_ ?_|refine brF ?_ ?_)<;>intro q_<;>try simp only[nz] at q_)
    exact ⟨(k+1,out),⟨hlt,ht.symm⟩,(by show S.length - (k+1)<S.length - k;omega),StLe.ren [0,1] tmS ⟨⟨rfl,EntL.refl _,rfl⟩,own_refl,trivial⟩ (by decide)⟩
 ·have e:out=valS v S:=by rw[ho,List.take_of_length_le (by omega)]
  have p2:ctMake.pre out:=by rw[e];exact hmk
  have p3:ctNotS.pre (canon out):=⟨canon_mk (by omega),(by have:=canon_len out;omega)⟩
  by_cases hv:v=0
  ·repeat' (first|refine gl ?_|(first|refine br ?_ ?_|refine brF ?_ ?_)<;>intro q_<;>try simp only[nz] at q_)
   refine EntR.of rfl ?_
   show Ent (setD (combL [(0,1114111)] (canon out) 3)) (setD (setV p v))
   rw[hset,if_pos hv,e]
   exact Ent.refl _
  ·repeat' (first|refine gl ?_|(first|refine br ?_ ?_|refine brF ?_ ?_)<;>intro q_<;>try simp only[nz] at q_)
   refine EntR.of rfl ?_
   show Ent (setD (canon out)) (setD (setV p v))
   rw[hset,if_neg hv,e]
   exact Ent.refl _
noncomputable def Γrst:Ctx:=fun f=>match f with
 | 65=>some (.pure ctCnt)
 | 21=>some (.pure ctMakeR)
 | 23=>some (.pure ctNotS)
 | _=>none
theorem Γrst_ok:CtxOk Tryz.prog (GlT mx pb) Γrst:=by
 intro f h hh
 simp only[Γrst] at hh
 split at hh<;>simp at hh<;>subst hh
 ·exact rCnt_ok
 ·exact r2Make_ok
 ·exact rNotS_ok
set_option maxHeartbeats 4000000 in
theorem rSetV_ok:Sound Tryz.prog (GlT mx pb) 32 ctSetV:=by
 refine sound_by (cc:=true) Γrst_ok Tryz.T_ok Tryz.mixed Tryz.func32 rfl (by kernel_rfl) (fun _=>rfl) (fun _ _=>by show 2≤52;decide) ?_
 rintro ⟨(p:Pr),(v:Int)⟩ (hp:p.spans.length≤1000)
 have p1:ctCnt.pre p:=Nat.le_trans hp (by decide)
 have hl:=cnt_spl p
 repeat' (first|refine gl ?_|(first|refine br ?_ ?_|refine brF ?_ ?_)<;>intro q_<;>try simp only[nz] at q_)
 refine ⟨0,Nat × List Rg,fun|(k,out)=>⟨[(1,.v (.int .i64 v)),(4,.own 0 0),(5,.own 1 0),(6,.row 2),(7,.v (.int .i64 k))],[.cells 24 [nilV],.cells 38 [slD 1 strD (cntP p).names,spsD (cntP p).spans],rowL 82 2 rgD out],[]⟩,fun|(k,out)=>k≤(cntP p).spans.length∧out=valS v ((cntP p).spans.take k),fun x=>(cntP p).spans.length - x.1,fun _=>Nat.zero_le _,⟨(0,[]),⟨Nat.zero_le _,rfl⟩,StLe.trans (StLe.nilRow (t:=6) 82 2 (fun _ _=>.junk) rfl) (StLe.ren [1,2,3] tmS ⟨⟨rfl,EntL.refl _,rfl⟩,⟨rfl,EntL.refl _,rfl⟩,own_nil,trivial⟩ (by decide))⟩,?_⟩
 rintro ⟨k,out⟩ ⟨hk,ho⟩
 have hk:k≤(cntP p).spans.length:=hk
 have hmk:=valS_mk p v (by omega)
 have hset:setV p v=if v=0 then combL [(0,1114111)] (canon (valS v (cntP p).spans)) 3 else canon (valS v (cntP p).spans):=rfl
 generalize (cntP p).spans=S at hl hk ho hmk hset ⊢
 generalize (cntP p).names=Nm
 have hol:out.length≤k:=by
  rw[ho]
  have:=valS_len v (S.take k)
  simp at this;omega
 by_cases hlt:k<S.length
 ·have ht:=valS_take (v:=v) hlt
  rw[← ho] at ht
  by_cases hv:v=0
  ·have hs:selB v (S.getD k default)=true:=selB_iff.2 (.inl hv)
   rw[if_pos hs] at ht
   repeat' (first|refine gl ?_|(first|refine br ?_ ?_|refine brF ?_ ?_)<;>intro q_<;>try simp only[nz] at q_)
   exact ⟨(k+1,out++[((S.getD k default).lo,(S.getD k default).hi)]),⟨hlt,ht.symm⟩,(by show S.length - (k+1)<S.length - k;omega),StLe.ren [0,1,3] tmS ⟨⟨rfl,EntL.refl _,rfl⟩,⟨rfl,EntL.refl _,rfl⟩,own_app (x:=((S.getD k default).lo,(S.getD k default).hi)) (fun j hj=>match j,hj with|0,_=>Ent.refl _|1,_=>Ent.refl _),trivial⟩ (by decide)⟩
  ·by_cases hw:(S.getD ((k:Int)).toNat default).val=v
   ·have hs:selB v (S.getD k default)=true:=selB_iff.2 (.inr hw)
    rw[if_pos hs] at ht
    repeat' (first|refine gl ?_|(first|refine br ?_ ?_|refine brF ?_ ?_)<;>intro q_<;>try simp only[nz] at q_)
    exact ⟨(k+1,out++[((S.getD k default).lo,(S.getD k default).hi)]),⟨hlt,ht.symm⟩,(by show S.length - (k+1)<S.length - k;omega),StLe.ren [0,1,3] tmS ⟨⟨rfl,EntL.refl _,rfl⟩,⟨rfl,EntL.refl _,rfl⟩,own_app (x:=((S.getD k default).lo,(S.getD k default).hi)) (fun j hj=>match j,hj with|0,_=>Ent.refl _|1,_=>Ent.refl _),trivial⟩ (by decide)⟩
   ·have hs:¬selB v (S.getD k default)=true:=fun h=>(selB_iff.1 h).elim hv hw
    rw[if_neg hs] at ht
    repeat' (first|refine gl ?_|(first|refine br ?_ ?_|refine brF ?_ ?_)<;>intro q_<;>try simp only[nz] at q_)
    exact ⟨(k+1,out),⟨hlt,ht.symm⟩,(by show S.length - (k+1)<S.length - k;omega),StLe.ren [0,1,2] tmS ⟨⟨rfl,EntL.refl _,rfl⟩,⟨rfl,EntL.refl _,rfl⟩,own_refl,trivial⟩ (by decide)⟩
 ·have e:out=valS v S:=by rw[ho,List.take_of_length_le (by omega)]
  have p2:ctMakeR.pre out:=(by show out.length≤10000;omega)
  have p3:ctNotS.pre (canon out):=⟨canon_mk (by omega),(by have:=canon_len out;omega)⟩
  by_cases hv:v=0
  ·repeat' (first|refine gl ?_|(first|refine br ?_ ?_|refine brF ?_ ?_)<;>intro q_<;>try simp only[nz] at q_)
   refine EntR.of rfl ?_
   show Ent (setD (combL [(0,1114111)] (canon out) 3)) (setD (setV p v))
   rw[hset,if_pos hv,e]
   exact Ent.refl _
  ·repeat' (first|refine gl ?_|(first|refine br ?_ ?_|refine brF ?_ ?_)<;>intro q_<;>try simp only[nz] at q_)
   refine EntR.of rfl ?_
   show Ent (setD (canon out)) (setD (setV p v))
   rw[hset,if_neg hv,e]
   exact Ent.refl _
end Go.Proofs
namespace Go.Proofs
open Go Go.Sx
variable {mx:Int}{pb:Bool}
structure KInv (K:Int→Prop) (lo:Int) (out:List Rg):Prop where
 pos:0≤lo
 le:lo≤1114112
 mem:∀ c,inR out c↔0≤c∧c<lo∧K c
 each:∀ r∈out,0≤r.1∧r.1≤r.2∧r.2<lo
 asc:out.Pairwise (fun x y=>x.1<y.1)
theorem k_zero (K:Int→Prop):KInv K 0 []:=⟨Int.le_refl _,by decide,fun c=>by rw[inR_nil];exact ⟨fun h=>h.elim,fun h=>by omega⟩,fun r hr=>by simp at hr,List.Pairwise.nil⟩
theorem k_more {K:Int→Prop}{lo hi:Int}{out:List Rg}(h:KInv K lo out) (h1:lo≤hi) (h2:hi≤1114111) (hn:∀ c,lo≤c→c≤hi→K c):KInv K (hi+1) (out++[(lo,hi)]):=by
 have h0:=h.pos
 refine ⟨by omega,by omega,fun c=>?_,fun r hr=>?_,?_⟩
 ·rw[inR_append,h.mem,inR_cons]
  constructor
  ·rintro (⟨h3,h4,h5⟩|h3|h3)
   ·exact ⟨h3,by omega,h5⟩
   ·have h3:lo≤c∧c≤hi:=h3
    exact ⟨by omega,by omega,hn c h3.1 h3.2⟩
   ·exact (inR_nil.1 h3).elim
  ·rintro ⟨h3,h4,h5⟩
   by_cases h6:c<lo
   ·exact .inl ⟨h3,h6,h5⟩
   ·exact .inr (.inl (show lo≤c∧c≤hi by omega))
 ·rcases List.mem_append.1 hr with hr|hr
  ·have:=h.each r hr;omega
  ·simp at hr;subst hr
   show 0≤lo∧lo≤hi∧hi<hi+1
   omega
 ·refine List.pairwise_append.2 ⟨h.asc,List.pairwise_singleton _ _,fun r hr s hs=>?_⟩
  simp at hs;subst hs
  have:=h.each r hr
  show r.1<lo
  omega
theorem k_skip {K:Int→Prop}{lo hi:Int}{out:List Rg}(h:KInv K lo out) (h1:lo≤hi) (h2:hi≤1114111) (hn:∀ c,lo≤c→c≤hi→¬K c):KInv K (hi+1) out:=by
 have h0:=h.pos
 refine ⟨by omega,by omega,fun c=>?_,fun r hr=>?_,h.asc⟩
 ·rw[h.mem]
  constructor
  ·rintro ⟨h3,h4,h5⟩;exact ⟨h3,by omega,h5⟩
  ·rintro ⟨h3,h4,h5⟩
   refine ⟨h3,?_,h5⟩
   refine Classical.byContradiction fun h6=>hn c (by omega) (by omega) h5
 ·have:=h.each r hr;omega
def Kc (a b:List Rg) (op:Int) (c:Int):Prop:=keepsB op (hasB a c) (hasB b c)=true
def posn (A:List Rg) (lo:Int):Nat:=A.countP (fun r=>decide (r.1≤lo))+A.countP (fun r=>decide (r.2<lo))
theorem countP_more {α:Type}{p q:α→Bool}:∀ {l:List α},(∀ x∈l,p x=true→q x=true)→(∃ x∈l,q x=true∧p x=false)→l.countP p+1≤l.countP q
 | [],_,⟨x,hx,_⟩=>by simp at hx
 | y::l,h,⟨x,hx,h1,h2⟩=>by
  have hm:l.countP p≤l.countP q:=List.countP_mono_left fun z hz=>h z (List.mem_cons_of_mem _ hz)
  rw[List.countP_cons,List.countP_cons]
  by_cases e:q y=true∧p y=false
  ·rw[if_pos e.1,if_neg (by simp[e.2])]
   omega
  ·rcases List.mem_cons.1 hx with rfl|hx
   ·exact absurd ⟨h1,h2⟩ e
   ·have ih:=countP_more (l:=l) (fun z hz=>h z (List.mem_cons_of_mem _ hz)) ⟨x,hx,h1,h2⟩
    have hy:=h y List.mem_cons_self
    by_cases hp:p y=true
    ·rw[if_pos hp,if_pos (hy hp)];omega
    ·rw[if_neg hp];omega
theorem posn_mono {A:List Rg}{lo lo':Int}(h:lo≤lo'):posn A lo≤posn A lo':=by
 have h1:A.countP (fun r=>decide (r.1≤lo))≤A.countP (fun r=>decide (r.1≤lo')):=List.countP_mono_left fun r _ hr=>by simp at hr ⊢;omega
 have h2:A.countP (fun r=>decide (r.2<lo))≤A.countP (fun r=>decide (r.2<lo')):=List.countP_mono_left fun r _ hr=>by simp at hr ⊢;omega
 unfold posn;omega
theorem posn_lo {A:List Rg}{lo lo':Int}{r:Rg}(hr:r∈A) (h1:lo<r.1) (h2:r.1≤lo'):posn A lo+1≤posn A lo':=by
 have h3:A.countP (fun r=>decide (r.1≤lo))+1≤A.countP (fun r=>decide (r.1≤lo')):=countP_more (fun r _ hr=>by simp at hr ⊢;omega) ⟨r,hr,by simp;omega,by simp;omega⟩
 have h4:A.countP (fun r=>decide (r.2<lo))≤A.countP (fun r=>decide (r.2<lo')):=List.countP_mono_left fun r _ hr=>by simp at hr ⊢;omega
 unfold posn;omega
theorem posn_hi {A:List Rg}{lo lo':Int}{r:Rg}(hr:r∈A) (h0:lo≤lo') (h1:lo≤r.2) (h2:r.2<lo'):posn A lo+1≤posn A lo':=by
 have h3:A.countP (fun r=>decide (r.2<lo))+1≤A.countP (fun r=>decide (r.2<lo')):=countP_more (fun r _ hr=>by simp at hr ⊢;omega) ⟨r,hr,by simp;omega,by simp;omega⟩
 have h4:A.countP (fun r=>decide (r.1≤lo))≤A.countP (fun r=>decide (r.1≤lo')):=List.countP_mono_left fun r _ hr=>by simp at hr ⊢;omega
 unfold posn;omega
theorem posn_le (A:List Rg) (lo:Int):posn A lo≤2*A.length:=by
 have h1:=List.countP_le_length (p:=fun r:Rg=>decide (r.1≤lo)) (l:=A)
 have h2:=List.countP_le_length (p:=fun r:Rg=>decide (r.2<lo)) (l:=A)
 unfold posn;omega
structure SegA (A:List Rg) (lo:Int) (s:Bool) (e:Int):Prop where
 le:lo≤e
 max:e≤1114111
 same:∀ c,lo≤c→c≤e→(inR A c↔s=true)
 more:posn A lo+1≤posn A (e+1)∨e=1114111
theorem seg_end {A:List Rg}(hA:Canon A) {lo:Int}{i:Nat}(hc:CurInv A lo i) (hlo:lo≤1114111) (hi:¬i<A.length):SegA A lo false 1114111 :=
 ⟨hlo,Int.le_refl _,fun c c1 _=>⟨fun h=>absurd h (gap_out hA hc c1 (fun h=>absurd h hi)),fun h=>Bool.noConfusion h⟩,.inr rfl⟩
theorem seg_gap {A:List Rg}(hA:Canon A) {lo:Int}{i:Nat}(hc:CurInv A lo i) (hi:i<A.length) (h:lo<(A.getD i default).1):SegA A lo false ((A.getD i default).1 - 1):=by
 have hr:=canon_rg hA hi
 refine ⟨by omega,by omega,fun c c1 c2=>⟨fun h=>absurd h (gap_out hA hc c1 (fun _=>by omega)),fun h=>Bool.noConfusion h⟩,.inl (posn_lo (getD_mem hi) h (by omega))⟩
theorem seg_in {A:List Rg}(hA:Canon A) {lo:Int}{i:Nat}(hi:i<A.length) (h:¬lo<(A.getD i default).1) (h2:¬(A.getD i default).2<lo):SegA A lo true (A.getD i default).2:=by
 have hr:=canon_rg hA hi
 refine ⟨by omega,by omega,fun c c1 c2=>⟨fun _=>rfl,fun _=>inR_getD.2 ⟨i,hi,by omega,by omega⟩⟩,.inl (posn_hi (getD_mem hi) (by omega) (by omega) (by omega))⟩
def bndC (A B:List Rg) (lo:Int) (out:List Rg):Prop:=(lo≤1114111∧out.length≤posn A lo+posn B lo)∨(lo=1114112∧out.length≤2*A.length+2*B.length+1)
theorem bndC_zero (A B:List Rg):bndC A B 0 []:=.inl ⟨by decide,Nat.zero_le _⟩
theorem bndC_le {A B:List Rg}{lo:Int}{out:List Rg}(h:bndC A B lo out):out.length≤2*A.length+2*B.length+1:=by
 have h1:=posn_le A lo
 have h2:=posn_le B lo
 rcases h with h|h
 ·omega
 ·exact h.2
theorem bndC_step {A B:List Rg}{lo e f:Int}{s t:Bool}{out out':List Rg}(h:bndC A B lo out) (hlo:lo≤1114111) (ha:SegA A lo s e) (hb:SegA B lo t f) (ho:out'.length≤out.length+1):bndC A B (min e f+1) out':=by
 have h0:out.length≤posn A lo+posn B lo:=by
  rcases h with h|h
  ·exact h.2
  ·omega
 have a1:=ha.le
 have a2:=ha.max
 have b1:=hb.le
 have b2:=hb.max
 have p1:=posn_le A lo
 have p2:=posn_le B lo
 by_cases hm:min e f=1114111
 ·exact .inr ⟨by omega,by omega⟩
 ·refine .inl ⟨by omega,?_⟩
  have m1:=posn_mono (A:=A) (show lo≤min e f+1 by omega)
  have m2:=posn_mono (A:=B) (show lo≤min e f+1 by omega)
  by_cases he:min e f=e
  ·rcases ha.more with h3|h3
   ·rw[he] at m2 ⊢;omega
   ·omega
  ·have he:min e f=f:=by omega
   rcases hb.more with h3|h3
   ·rw[he] at m1 ⊢;omega
   ·omega
theorem hasB_canon {a:List Rg}{c:Int}:hasB a c=true↔inR (canon a) c:=by
 rw[hasB_iff,canon_mem]
theorem seg_has {a:List Rg}{lo e c:Int}{s:Bool}(h:SegA (canon a) lo s e) (c1:lo≤c) (c2:c≤e):hasB a c=s:=by
 have:=(hasB_canon (a:=a) (c:=c)).trans (h.same c c1 c2)
 cases hh:hasB a c<;>cases s<;>simp_all
theorem seg_keep {a b:List Rg}{op lo e f:Int}{s t:Bool}(ha:SegA (canon a) lo s e) (hb:SegA (canon b) lo t f):∀ c,lo≤c→c≤min e f→(Kc a b op c↔keepsB op s t=true):=by
 intro c c1 c2
 unfold Kc
 rw[seg_has ha c1 (by omega),seg_has hb c1 (by omega)]
theorem cmb_app {a b:List Rg}{op lo e f:Int}{s t:Bool}{out:List Rg}(h:KInv (Kc a b op) lo out) (ha:SegA (canon a) lo s e) (hb:SegA (canon b) lo t f) (hk:keepsB op s t=true):KInv (Kc a b op) (min e f+1) (out++[(lo,min e f)]):=by
 have a1:=ha.le
 have a2:=ha.max
 have b1:=hb.le
 exact k_more h (by omega) (by omega) fun c c1 c2=>(seg_keep ha hb c c1 c2).2 hk
theorem cmb_skip {a b:List Rg}{op lo e f:Int}{s t:Bool}{out:List Rg}(h:KInv (Kc a b op) lo out) (ha:SegA (canon a) lo s e) (hb:SegA (canon b) lo t f) (hk:keepsB op s t=false):KInv (Kc a b op) (min e f+1) out:=by
 have a1:=ha.le
 have a2:=ha.max
 have b1:=hb.le
 exact k_skip h (by omega) (by omega) fun c c1 c2 hh=>Bool.noConfusion (((seg_keep ha hb c c1 c2).1 hh).symm.trans hk)
theorem cmb_done {a b out:List Rg}{op:Int}(h:KInv (Kc a b op) 1114112 out):canon out=combL a b op:=by
 obtain ⟨h1,h2⟩:=comb_spec a b op
 refine canon_unique (canon_canon out) h1 fun c=>?_
 rw[canon_mem,h.mem,h2]
 constructor
 ·rintro ⟨hb,_,_,hn⟩
  exact ⟨hb,hn⟩
 ·rintro ⟨hb,hk⟩
  exact ⟨hb,hb.1,by omega,hk⟩
theorem k_mkOk {K:Int→Prop}{out:List Rg}{lo:Int}(_:KInv K lo out) (hl:out.length<4194304):mkOk out:=⟨hl,.inr (.inr trivial)⟩
end Go.Proofs
namespace Go.Proofs
open Go Go.Sx
variable {mx:Int}{pb:Bool}
def owC2 (A B:List Rg) (i j:Nat) (out:List Rg):List Own:=[.cells 24 [nilV],.cells 22 [rgsD A],.cells 3 [.v (.int .i64 i)],.cells 22 [rgsD B],.cells 3 [.v (.int .i64 j)],rowL 82 2 rgD out]
def sCa (A B:List Rg) (lo:Int) (i j:Nat) (out:List Rg):St:=⟨[(0,.v (.int .i64 lo)),(1,.own 2 0),(2,.own 1 0)],owC2 A B i j out,[]⟩
def sCb (A B:List Rg) (lo:Int) (i j:Nat) (out:List Rg):St:=⟨[(0,.v (.int .i64 lo)),(1,.own 4 0),(2,.own 3 0)],owC2 A B i j out,[]⟩
end Go.Proofs
