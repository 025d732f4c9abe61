import Derived.Test.YtcihhjjmcompkaaGreatDoorUz
import Derived.Test.YtcihhjjmcompkaaGreatDoorCm1
import Derived.Test.YtcihhjjmcompkaaGreatDoorCm2
set_option linter.unusedVariables false
set_option linter.unusedSimpArgs false
namespace Go.Proofs
open Go Go.Sx
variable {mx:Int}{pb:Bool}
noncomputable def cMinus1:Code:=(Tryz.f146.body).getD .skip
noncomputable def Γco3 (mx:Int) (pb:Bool):Ctx:=fun f=>match f with
 | 50=>some (.pure ctMake)
 | 196=>some (.gen (inlW true Γcu Tryz.T (GlT mx pb) Tryz.f196 cCur))
 | 242=>some (.gen (inlW true Γ0 Tryz.T (GlT mx pb) Tryz.f242 cCur1))
 | 146=>some (.gen (inlW true Γ0 Tryz.T (GlT mx pb) Tryz.f146 cMinus1))
 | _=>none
theorem Γco3_ok:CtxOk Tryz.prog (GlT mx pb) (Γco3 mx pb):=by
 intro f h hh
 simp only[Γco3] at hh
 split at hh<;>simp at hh<;>subst hh
 ·exact cpMake_ok
 ·exact soundT_inlW Γcu_ok Tryz.T_ok Tryz.mixed Tryz.func196 rfl (by kernel_rfl)
 ·exact soundT_inlW Γ0_ok Tryz.T_ok Tryz.mixed Tryz.func242 rfl (by kernel_rfl)
 ·exact soundT_inlW Γ0_ok Tryz.T_ok Tryz.mixed Tryz.func146 rfl (by kernel_rfl)
def ctCmb3:Ct:={ ι:=List Rg × List Rg,inp:=fun x=>[setD x.1,setD x.2,.fn 146 []],out:=fun x=>setD (combL x.1 x.2 3),pre:=fun x=>mkOk x.1∧x.1.length≤400000∧mkOk x.2∧x.2.length≤400000 }
def sC3 (A B:List Rg) (lo:Int) (i j:Nat) (out:List Rg):St:=⟨[(2,.fn 146 []),(6,.own 0 0),(7,.fn 242 [.own 2 0,.own 1 0]),(8,.fn 242 [.own 4 0,.own 3 0]),(9,.row 5),(10,.v (.int .i64 lo))],owC2 A B i j out,[]⟩
set_option maxHeartbeats 16000000 in
theorem cmb3_ok:Sound Tryz.prog (GlT mx pb) 142 ctCmb3:=by
 refine sound_by (cc:=true) Γco3_ok Tryz.T_ok Tryz.mixed Tryz.func142 rfl (by kernel_rfl) (fun _=>rfl) (fun _ _=>by show 3≤51;decide) ?_
 rintro ⟨(a:List Rg),(b:List Rg)⟩ ⟨(hm:mkOk a),(hl:a.length≤400000),(hm2:mkOk b),(hl2:b.length≤400000)⟩
 have p1:ctMake.pre a:=hm
 have p2:ctMake.pre b:=hm2
 refine gO ?_
 refine .inr ⟨.stage [0,2] (.alt 1 [2] (.stage [] (.alt 3 [] (.done [4,5]) .nil)) .nil),by decide +kernel,?_⟩
 refine And.intro rfl (And.intro rfl ?_)
 repeat' (first|refine gl ?_|(first|refine br ?_ ?_|refine brF ?_ ?_)<;>intro q_<;>try simp only[nz] at q_)
 refine And.intro rfl ?_
 repeat' (first|refine gl ?_|(first|refine br ?_ ?_|refine brF ?_ ?_)<;>intro q_<;>try simp only[nz] at q_)
 refine And.intro rfl (And.intro rfl ?_)
 repeat' (first|refine gl ?_|(first|refine br ?_ ?_|refine brF ?_ ?_)<;>intro q_<;>try simp only[nz] at q_)
 simp only[setOwn,goneO,rowL,retD,nr,ns,Nat.reduceAdd,Nat.zero_add,reduceIte]
 have hA:=canon_canon a
 have hAl:=canon_len a
 have hB:=canon_canon b
 have hBl:=canon_len b
 refine ⟨0,Int × Nat × Nat × List Rg,fun|(lo,i,j,out)=>sC3 (canon a) (canon b) lo i j out,fun|(lo,i,j,out)=>KInv (Kc a b 3) lo out∧CurInv (canon a) lo i∧CurInv (canon b) lo j∧bndC (canon a) (canon b) lo out,fun x=>(1114112 - x.1).toNat,fun _=>Nat.zero_le _,⟨(0,0,0,[]),⟨k_zero _,⟨Nat.zero_le _,fun k hk=>by omega⟩,⟨Nat.zero_le _,fun k hk=>by omega⟩,bndC_zero _ _⟩,StLe.trans (StLe.nilRow (t:=9) 82 2 (fun _ _=>.junk) rfl) (StLe.ren [2,4,5,7,8,9] tmS ⟨⟨rfl,EntL.refl _,rfl⟩,⟨rfl,EntL.refl _,rfl⟩,⟨rfl,EntL.refl _,rfl⟩,⟨rfl,EntL.refl _,rfl⟩,⟨rfl,EntL.refl _,rfl⟩,own_nil,trivial⟩ (by decide))⟩,?_⟩
 rintro ⟨lo,i,j,out⟩ ⟨hK,hCA0,hCB0,hBd⟩
 have hbl:=bndC_le hBd
 have hdone:=fun h=>cmb_done (a:=a) (b:=b) (op:=3) (out:=out) h
 by_cases hlo:lo≤1114111
 ·clear hdone
  generalize hAe:canon a=A at hA hAl hCA0 hBd hbl ⊢
  generalize hBe:canon b=B at hB hBl hCB0 hBd hbl ⊢
  have segA:∀ {s e},SegA A lo s e→SegA (canon a) lo s e:=fun h=>hAe ▸ h
  have segB:∀ {s e},SegA B lo s e→SegA (canon b) lo s e:=fun h=>hBe ▸ h
  have hp:=hK.pos
  have hle:=hK.le
  have hol:out.length≤2000000:=by omega
  repeat' (first|refine gl ?_|(first|refine br ?_ ?_|refine brF ?_ ?_)<;>intro q_<;>try simp only[nz] at q_)
  refine ⟨0,Nat,fun i=>sCa A B lo i j out,fun i=>CurInv A lo i,fun i=>A.length - i,fun _=>(by show 6≤6;decide),⟨i,hCA0,StLe.m6 tmS ⟨⟨rfl,EntL.refl _,rfl⟩,⟨rfl,EntL.refl _,rfl⟩,⟨rfl,EntL.refl _,rfl⟩,⟨rfl,EntL.refl _,rfl⟩,⟨rfl,EntL.refl _,rfl⟩,own_refl,trivial⟩⟩,?_⟩
  clear hCA0
  intro k (hCA:CurInv A lo k)
  have hi:=hCA.le
  by_cases hil:k<A.length
  ·obtain ⟨h1,h2,h3⟩:=canon_rg hA hil
   by_cases hh:(A.getD ((k:Int)).toNat default).2<lo
   ·repeat' (first|refine gl ?_|(first|refine br ?_ ?_|refine brF ?_ ?_)<;>intro q_<;>try simp only[nz] at q_)
    exact ⟨k+1,cur_next hCA hil hh,(by show A.length - (k+1)<A.length - k;omega),StLe.m6 tmS ⟨⟨rfl,EntL.refl _,rfl⟩,⟨rfl,EntL.refl _,rfl⟩,⟨rfl,EntL.cons (Ent.int (by omega)) (EntL.refl []),rfl⟩,⟨rfl,EntL.refl _,rfl⟩,⟨rfl,EntL.refl _,rfl⟩,own_refl,trivial⟩⟩
   ·have hh0:¬(A.getD k default).2<lo:=hh
    by_cases hg:lo<(A.getD ((k:Int)).toNat default).1
    ·have hg0:lo<(A.getD k default).1:=hg
     have hSA0:=seg_gap hA hCA hil hg0
     have hs1:=hSA0.le
     have hs2:=hSA0.max
     have hSA:=segA hSA0
     repeat' (first|refine gl ?_|(first|refine br ?_ ?_|refine brF ?_ ?_)<;>intro q_<;>try simp only[nz] at q_)
     refine ⟨0,Nat,fun j=>sCb A B lo k j out,fun j=>CurInv B lo j,fun j=>B.length - j,fun _=>(by show 6≤6;decide),⟨j,hCB0,StLe.m6 tmS ⟨⟨rfl,EntL.refl _,rfl⟩,⟨rfl,EntL.refl _,rfl⟩,⟨rfl,EntL.refl _,rfl⟩,⟨rfl,EntL.refl _,rfl⟩,⟨rfl,EntL.refl _,rfl⟩,own_refl,trivial⟩⟩,?_⟩
     clear hCB0
     intro k2 (hCB:CurInv B lo k2)
     have hi2:=hCB.le
     by_cases hil2:k2<B.length
     ·obtain ⟨g1,g2,g3⟩:=canon_rg hB hil2
      by_cases hh2:(B.getD ((k2:Int)).toNat default).2<lo
      ·repeat' (first|refine gl ?_|(first|refine br ?_ ?_|refine brF ?_ ?_)<;>intro q_<;>try simp only[nz] at q_)
       exact ⟨k2+1,cur_next hCB hil2 hh2,(by show B.length - (k2+1)<B.length - k2;omega),StLe.m6 tmS ⟨⟨rfl,EntL.refl _,rfl⟩,⟨rfl,EntL.refl _,rfl⟩,⟨rfl,EntL.refl _,rfl⟩,⟨rfl,EntL.refl _,rfl⟩,⟨rfl,EntL.cons (Ent.int (by omega)) (EntL.refl []),rfl⟩,own_refl,trivial⟩⟩
      ·have hh20:¬(B.getD k2 default).2<lo:=hh2
       by_cases hg2:lo<(B.getD ((k2:Int)).toNat default).1
       ·have hg20:lo<(B.getD k2 default).1:=hg2
        have hSB0:=seg_gap hB hCB hil2 hg20
        have ht1:=hSB0.le
        have ht2:=hSB0.max
        have hSB:=segB hSB0
        repeat' (first|refine gl ?_|(first|refine br ?_ ?_|refine brF ?_ ?_)<;>intro q_<;>try simp only[nz] at q_)
        exact ⟨(min ((A.getD k default).1 - 1) ((B.getD k2 default).1 - 1)+1,k,k2,out),⟨cmb_skip hK hSA hSB rfl,cur_mono hCA (by omega),cur_mono hCB (by omega),bndC_step hBd hlo hSA0 hSB0 (by simp)⟩,(by show ((1114112:Int) - (min ((A.getD k default).1 - 1) ((B.getD k2 default).1 - 1)+1)).toNat<((1114112:Int) - lo).toNat;omega),StLe.ren [0,1,2,3,4,5] tmS ⟨⟨rfl,EntL.refl _,rfl⟩,⟨rfl,EntL.refl _,rfl⟩,⟨rfl,EntL.refl _,rfl⟩,⟨rfl,EntL.refl _,rfl⟩,⟨rfl,EntL.refl _,rfl⟩,own_refl,trivial⟩ (by decide)⟩
       ·have hg20:¬lo<(B.getD k2 default).1:=hg2
        have hSB0:=seg_in hB hil2 hg20 hh20
        have ht1:=hSB0.le
        have ht2:=hSB0.max
        have hSB:=segB hSB0
        repeat' (first|refine gl ?_|(first|refine br ?_ ?_|refine brF ?_ ?_)<;>intro q_<;>try simp only[nz] at q_)
        exact ⟨(min ((A.getD k default).1 - 1) (B.getD k2 default).2+1,k,k2,out),⟨cmb_skip hK hSA hSB rfl,cur_mono hCA (by omega),cur_mono hCB (by omega),bndC_step hBd hlo hSA0 hSB0 (by simp)⟩,(by show ((1114112:Int) - (min ((A.getD k default).1 - 1) (B.getD k2 default).2+1)).toNat<((1114112:Int) - lo).toNat;omega),StLe.ren [0,1,2,3,4,5] tmS ⟨⟨rfl,EntL.refl _,rfl⟩,⟨rfl,EntL.refl _,rfl⟩,⟨rfl,EntL.refl _,rfl⟩,⟨rfl,EntL.refl _,rfl⟩,⟨rfl,EntL.refl _,rfl⟩,own_refl,trivial⟩ (by decide)⟩
     ·have hSB0:=seg_end hB hCB hlo hil2
      have hSB:=segB hSB0
      repeat' (first|refine gl ?_|(first|refine br ?_ ?_|refine brF ?_ ?_)<;>intro q_<;>try simp only[nz] at q_)
      exact ⟨(min ((A.getD k default).1 - 1) (1114111:Int)+1,k,k2,out),⟨cmb_skip hK hSA hSB rfl,cur_mono hCA (by omega),cur_mono hCB (by omega),bndC_step hBd hlo hSA0 hSB0 (by simp)⟩,(by show ((1114112:Int) - (min ((A.getD k default).1 - 1) (1114111:Int)+1)).toNat<((1114112:Int) - lo).toNat;omega),StLe.ren [0,1,2,3,4,5] tmS ⟨⟨rfl,EntL.refl _,rfl⟩,⟨rfl,EntL.refl _,rfl⟩,⟨rfl,EntL.refl _,rfl⟩,⟨rfl,EntL.refl _,rfl⟩,⟨rfl,EntL.refl _,rfl⟩,own_refl,trivial⟩ (by decide)⟩
    ·have hg0:¬lo<(A.getD k default).1:=hg
     have hSA0:=seg_in hA hil hg0 hh0
     have hs1:=hSA0.le
     have hs2:=hSA0.max
     have hSA:=segA hSA0
     repeat' (first|refine gl ?_|(first|refine br ?_ ?_|refine brF ?_ ?_)<;>intro q_<;>try simp only[nz] at q_)
     refine ⟨0,Nat,fun j=>sCb A B lo k j out,fun j=>CurInv B lo j,fun j=>B.length - j,fun _=>(by show 6≤6;decide),⟨j,hCB0,StLe.m6 tmS ⟨⟨rfl,EntL.refl _,rfl⟩,⟨rfl,EntL.refl _,rfl⟩,⟨rfl,EntL.refl _,rfl⟩,⟨rfl,EntL.refl _,rfl⟩,⟨rfl,EntL.refl _,rfl⟩,own_refl,trivial⟩⟩,?_⟩
     clear hCB0
     intro k2 (hCB:CurInv B lo k2)
     have hi2:=hCB.le
     by_cases hil2:k2<B.length
     ·obtain ⟨g1,g2,g3⟩:=canon_rg hB hil2
      by_cases hh2:(B.getD ((k2:Int)).toNat default).2<lo
      ·repeat' (first|refine gl ?_|(first|refine br ?_ ?_|refine brF ?_ ?_)<;>intro q_<;>try simp only[nz] at q_)
       exact ⟨k2+1,cur_next hCB hil2 hh2,(by show B.length - (k2+1)<B.length - k2;omega),StLe.m6 tmS ⟨⟨rfl,EntL.refl _,rfl⟩,⟨rfl,EntL.refl _,rfl⟩,⟨rfl,EntL.refl _,rfl⟩,⟨rfl,EntL.refl _,rfl⟩,⟨rfl,EntL.cons (Ent.int (by omega)) (EntL.refl []),rfl⟩,own_refl,trivial⟩⟩
      ·have hh20:¬(B.getD k2 default).2<lo:=hh2
       by_cases hg2:lo<(B.getD ((k2:Int)).toNat default).1
       ·have hg20:lo<(B.getD k2 default).1:=hg2
        have hSB0:=seg_gap hB hCB hil2 hg20
        have ht1:=hSB0.le
        have ht2:=hSB0.max
        have hSB:=segB hSB0
        repeat' (first|refine gl ?_|(first|refine br ?_ ?_|refine brF ?_ ?_)<;>intro q_<;>try simp only[nz] at q_)
        exact ⟨(min (A.getD k default).2 ((B.getD k2 default).1 - 1)+1,k,k2,out++[(lo,min (A.getD k default).2 ((B.getD k2 default).1 - 1))]),⟨cmb_app hK hSA hSB rfl,cur_mono hCA (by omega),cur_mono hCB (by omega),bndC_step hBd hlo hSA0 hSB0 (by simp)⟩,(by show ((1114112:Int) - (min (A.getD k default).2 ((B.getD k2 default).1 - 1)+1)).toNat<((1114112:Int) - lo).toNat;omega),StLe.ren [0,1,2,3,4,6] tmS ⟨⟨rfl,EntL.refl _,rfl⟩,⟨rfl,EntL.refl _,rfl⟩,⟨rfl,EntL.refl _,rfl⟩,⟨rfl,EntL.refl _,rfl⟩,⟨rfl,EntL.refl _,rfl⟩,own_app (x:=(lo,min (A.getD k default).2 ((B.getD k2 default).1 - 1))) (fun j hj=>match j,hj with|0,_=>Ent.refl _|1,_=>Ent.refl _),trivial⟩ (by decide)⟩
       ·have hg20:¬lo<(B.getD k2 default).1:=hg2
        have hSB0:=seg_in hB hil2 hg20 hh20
        have ht1:=hSB0.le
        have ht2:=hSB0.max
        have hSB:=segB hSB0
        repeat' (first|refine gl ?_|(first|refine br ?_ ?_|refine brF ?_ ?_)<;>intro q_<;>try simp only[nz] at q_)
        exact ⟨(min (A.getD k default).2 (B.getD k2 default).2+1,k,k2,out),⟨cmb_skip hK hSA hSB rfl,cur_mono hCA (by omega),cur_mono hCB (by omega),bndC_step hBd hlo hSA0 hSB0 (by simp)⟩,(by show ((1114112:Int) - (min (A.getD k default).2 (B.getD k2 default).2+1)).toNat<((1114112:Int) - lo).toNat;omega),StLe.ren [0,1,2,3,4,5] tmS ⟨⟨rfl,EntL.refl _,rfl⟩,⟨rfl,EntL.refl _,rfl⟩,⟨rfl,EntL.refl _,rfl⟩,⟨rfl,EntL.refl _,rfl⟩,⟨rfl,EntL.refl _,rfl⟩,own_refl,trivial⟩ (by decide)⟩
     ·have hSB0:=seg_end hB hCB hlo hil2
      have hSB:=segB hSB0
      repeat' (first|refine gl ?_|(first|refine br ?_ ?_|refine brF ?_ ?_)<;>intro q_<;>try simp only[nz] at q_)
      exact ⟨(min (A.getD k default).2 (1114111:Int)+1,k,k2,out++[(lo,min (A.getD k default).2 (1114111:Int))]),⟨cmb_app hK hSA hSB rfl,cur_mono hCA (by omega),cur_mono hCB (by omega),bndC_step hBd hlo hSA0 hSB0 (by simp)⟩,(by show ((1114112:Int) - (min (A.getD k default).2 (1114111:Int)+1)).toNat<((1114112:Int) - lo).toNat;omega),StLe.ren [0,1,2,3,4,6] tmS ⟨⟨rfl,EntL.refl _,rfl⟩,⟨rfl,EntL.refl _,rfl⟩,⟨rfl,EntL.refl _,rfl⟩,⟨rfl,EntL.refl _,rfl⟩,⟨rfl,EntL.refl _,rfl⟩,own_app (x:=(lo,min (A.getD k default).2 (1114111:Int))) (fun j hj=>match j,hj with|0,_=>Ent.refl _|1,_=>Ent.refl _),trivial⟩ (by decide)⟩
  ·have hSA0:=seg_end hA hCA hlo hil
   have hs1:=hSA0.le
   have hs2:=hSA0.max
   have hSA:=segA hSA0
   repeat' (first|refine gl ?_|(first|refine br ?_ ?_|refine brF ?_ ?_)<;>intro q_<;>try simp only[nz] at q_)
   refine ⟨0,Nat,fun j=>sCb A B lo k j out,fun j=>CurInv B lo j,fun j=>B.length - j,fun _=>(by show 6≤6;decide),⟨j,hCB0,StLe.m6 tmS ⟨⟨rfl,EntL.refl _,rfl⟩,⟨rfl,EntL.refl _,rfl⟩,⟨rfl,EntL.refl _,rfl⟩,⟨rfl,EntL.refl _,rfl⟩,⟨rfl,EntL.refl _,rfl⟩,own_refl,trivial⟩⟩,?_⟩
   clear hCB0
   intro k2 (hCB:CurInv B lo k2)
   have hi2:=hCB.le
   by_cases hil2:k2<B.length
   ·obtain ⟨g1,g2,g3⟩:=canon_rg hB hil2
    by_cases hh2:(B.getD ((k2:Int)).toNat default).2<lo
    ·repeat' (first|refine gl ?_|(first|refine br ?_ ?_|refine brF ?_ ?_)<;>intro q_<;>try simp only[nz] at q_)
     exact ⟨k2+1,cur_next hCB hil2 hh2,(by show B.length - (k2+1)<B.length - k2;omega),StLe.m6 tmS ⟨⟨rfl,EntL.refl _,rfl⟩,⟨rfl,EntL.refl _,rfl⟩,⟨rfl,EntL.refl _,rfl⟩,⟨rfl,EntL.refl _,rfl⟩,⟨rfl,EntL.cons (Ent.int (by omega)) (EntL.refl []),rfl⟩,own_refl,trivial⟩⟩
    ·have hh20:¬(B.getD k2 default).2<lo:=hh2
     by_cases hg2:lo<(B.getD ((k2:Int)).toNat default).1
     ·have hg20:lo<(B.getD k2 default).1:=hg2
      have hSB0:=seg_gap hB hCB hil2 hg20
      have ht1:=hSB0.le
      have ht2:=hSB0.max
      have hSB:=segB hSB0
      repeat' (first|refine gl ?_|(first|refine br ?_ ?_|refine brF ?_ ?_)<;>intro q_<;>try simp only[nz] at q_)
      exact ⟨(min (1114111:Int) ((B.getD k2 default).1 - 1)+1,k,k2,out),⟨cmb_skip hK hSA hSB rfl,cur_mono hCA (by omega),cur_mono hCB (by omega),bndC_step hBd hlo hSA0 hSB0 (by simp)⟩,(by show ((1114112:Int) - (min (1114111:Int) ((B.getD k2 default).1 - 1)+1)).toNat<((1114112:Int) - lo).toNat;omega),StLe.ren [0,1,2,3,4,5] tmS ⟨⟨rfl,EntL.refl _,rfl⟩,⟨rfl,EntL.refl _,rfl⟩,⟨rfl,EntL.refl _,rfl⟩,⟨rfl,EntL.refl _,rfl⟩,⟨rfl,EntL.refl _,rfl⟩,own_refl,trivial⟩ (by decide)⟩
     ·have hg20:¬lo<(B.getD k2 default).1:=hg2
      have hSB0:=seg_in hB hil2 hg20 hh20
      have ht1:=hSB0.le
      have ht2:=hSB0.max
      have hSB:=segB hSB0
      repeat' (first|refine gl ?_|(first|refine br ?_ ?_|refine brF ?_ ?_)<;>intro q_<;>try simp only[nz] at q_)
      exact ⟨(min (1114111:Int) (B.getD k2 default).2+1,k,k2,out),⟨cmb_skip hK hSA hSB rfl,cur_mono hCA (by omega),cur_mono hCB (by omega),bndC_step hBd hlo hSA0 hSB0 (by simp)⟩,(by show ((1114112:Int) - (min (1114111:Int) (B.getD k2 default).2+1)).toNat<((1114112:Int) - lo).toNat;omega),StLe.ren [0,1,2,3,4,5] tmS ⟨⟨rfl,EntL.refl _,rfl⟩,⟨rfl,EntL.refl _,rfl⟩,⟨rfl,EntL.refl _,rfl⟩,⟨rfl,EntL.refl _,rfl⟩,⟨rfl,EntL.refl _,rfl⟩,own_refl,trivial⟩ (by decide)⟩
   ·have hSB0:=seg_end hB hCB hlo hil2
    have hSB:=segB hSB0
    repeat' (first|refine gl ?_|(first|refine br ?_ ?_|refine brF ?_ ?_)<;>intro q_<;>try simp only[nz] at q_)
    exact ⟨(min (1114111:Int) (1114111:Int)+1,k,k2,out),⟨cmb_skip hK hSA hSB rfl,cur_mono hCA (by omega),cur_mono hCB (by omega),bndC_step hBd hlo hSA0 hSB0 (by simp)⟩,(by show ((1114112:Int) - (min (1114111:Int) (1114111:Int)+1)).toNat<((1114112:Int) - lo).toNat;omega),StLe.ren [0,1,2,3,4,5] tmS ⟨⟨rfl,EntL.refl _,rfl⟩,⟨rfl,EntL.refl _,rfl⟩,⟨rfl,EntL.refl _,rfl⟩,⟨rfl,EntL.refl _,rfl⟩,⟨rfl,EntL.refl _,rfl⟩,own_refl,trivial⟩ (by decide)⟩
 ·have hp:=hK.pos
  have hle:=hK.le
  have hlo2:lo=1114112:=by omega
  have hol:out.length<4194304:=by omega
  have p3:ctMake.pre out:=k_mkOk hK hol
  have e:=hdone (hlo2 ▸ hK)
  repeat' (first|refine gl ?_|(first|refine br ?_ ?_|refine brF ?_ ?_)<;>intro q_<;>try simp only[nz] at q_)
  refine EntR.of rfl ?_
  show Ent (setD (canon out)) (setD _)
  rw[e]
  exact Ent.refl _
end Go.Proofs
namespace Go.Proofs
open Go Go.Sx
variable {mx:Int}{pb:Bool}
def ctOrP:Ct:={ ι:=List Rg × List Rg,inp:=fun x=>[setD x.1,setD x.2],out:=fun x=>setD (combL x.1 x.2 1),pre:=fun x=>mkOk x.1∧x.1.length≤400000∧mkOk x.2∧x.2.length≤400000 }
def ctAndP:Ct:={ ι:=List Rg × List Rg,inp:=fun x=>[setD x.1,setD x.2],out:=fun x=>setD (combL x.1 x.2 2),pre:=fun x=>mkOk x.1∧x.1.length≤400000∧mkOk x.2∧x.2.length≤400000 }
def ctMinP:Ct:={ ι:=List Rg × List Rg,inp:=fun x=>[setD x.1,setD x.2],out:=fun x=>setD (combL x.1 x.2 3),pre:=fun x=>mkOk x.1∧x.1.length≤400000∧mkOk x.2∧x.2.length≤400000 }
def ctNotP:Ct:={ ι:=List Rg,inp:=fun a=>[setD a],out:=fun a=>setD (combL [(0,1114111)] a 3),pre:=fun a=>mkOk a∧a.length≤400000 }
noncomputable def Γor (mx:Int) (pb:Bool):Ctx:=fun f=>match f with
 | 142=>some (.pure ctCmb1)
 | _=>none
theorem Γor_ok:CtxOk Tryz.prog (GlT mx pb) (Γor mx pb):=by
 intro f h hh
 simp only[Γor] at hh
 split at hh<;>simp at hh<;>subst hh
 ·exact cmb1_ok
noncomputable def Γand (mx:Int) (pb:Bool):Ctx:=fun f=>match f with
 | 142=>some (.pure ctCmb2)
 | _=>none
theorem Γand_ok:CtxOk Tryz.prog (GlT mx pb) (Γand mx pb):=by
 intro f h hh
 simp only[Γand] at hh
 split at hh<;>simp at hh<;>subst hh
 ·exact cmb2_ok
noncomputable def Γmin (mx:Int) (pb:Bool):Ctx:=fun f=>match f with
 | 142=>some (.pure ctCmb3)
 | _=>none
theorem Γmin_ok:CtxOk Tryz.prog (GlT mx pb) (Γmin mx pb):=by
 intro f h hh
 simp only[Γmin] at hh
 split at hh<;>simp at hh<;>subst hh
 ·exact cmb3_ok
noncomputable def Γnot (mx:Int) (pb:Bool):Ctx:=fun f=>match f with
 | 142=>some (.pure ctCmbN)
 | _=>none
theorem Γnot_ok:CtxOk Tryz.prog (GlT mx pb) (Γnot mx pb):=by
 intro f h hh
 simp only[Γnot] at hh
 split at hh<;>simp at hh<;>subst hh
 ·exact cmbN_ok
set_option maxHeartbeats 1000000 in
theorem orP_ok:Sound Tryz.prog (GlT mx pb) 100 ctOrP:=by
 refine sound_by (cc:=true) Γor_ok Tryz.T_ok Tryz.mixed Tryz.func100 rfl (by kernel_rfl) (fun _=>rfl) (fun _ _=>by show 2≤8;decide) ?_
 rintro ⟨(a:List Rg),(b:List Rg)⟩ hp
 repeat' (first|refine gl ?_|(first|refine br ?_ ?_|refine brF ?_ ?_)<;>intro q_<;>try simp only[nz] at q_)
 exact EntR.of rfl (Ent.refl _)
set_option maxHeartbeats 1000000 in
theorem andP_ok:Sound Tryz.prog (GlT mx pb) 99 ctAndP:=by
 refine sound_by (cc:=true) Γand_ok Tryz.T_ok Tryz.mixed Tryz.func99 rfl (by kernel_rfl) (fun _=>rfl) (fun _ _=>by show 2≤8;decide) ?_
 rintro ⟨(a:List Rg),(b:List Rg)⟩ hp
 repeat' (first|refine gl ?_|(first|refine br ?_ ?_|refine brF ?_ ?_)<;>intro q_<;>try simp only[nz] at q_)
 exact EntR.of rfl (Ent.refl _)
set_option maxHeartbeats 1000000 in
theorem minP_ok:Sound Tryz.prog (GlT mx pb) 102 ctMinP:=by
 refine sound_by (cc:=true) Γmin_ok Tryz.T_ok Tryz.mixed Tryz.func102 rfl (by kernel_rfl) (fun _=>rfl) (fun _ _=>by show 2≤8;decide) ?_
 rintro ⟨(a:List Rg),(b:List Rg)⟩ hp
 repeat' (first|refine gl ?_|(first|refine br ?_ ?_|refine brF ?_ ?_)<;>intro q_<;>try simp only[nz] at q_)
 exact EntR.of rfl (Ent.refl _)
set_option maxHeartbeats 1000000 in
theorem notP_ok:Sound Tryz.prog (GlT mx pb) 101 ctNotP:=by
 refine sound_by (cc:=true) Γnot_ok Tryz.T_ok Tryz.mixed Tryz.func101 rfl (by kernel_rfl) (fun _=>rfl) (fun _ _=>by show 1≤6;decide) ?_
 intro (a:List Rg) hp
 repeat' (first|refine gl ?_|(first|refine br ?_ ?_|refine brF ?_ ?_)<;>intro q_<;>try simp only[nz] at q_)
 refine ⟨a,EntL.refl _,⟨hp.1,Nat.le_trans hp.2 (by decide)⟩,?_⟩
 repeat' (first|refine gl ?_|(first|refine br ?_ ?_|refine brF ?_ ?_)<;>intro q_<;>try simp only[nz] at q_)
 exact EntR.of rfl (Ent.refl _)
def rgsF (g:Nat→Nat→D):Nat→Nat→Option (List Rg)
 | 0,_=>some []
 | n+1,i=>match g i 0,g i 1 with
  | .v (.int .i64 a),.v (.int .i64 b)=>(match rgsF g n (i+1) with|some l=>some ((a,b)::l)|none=>none)
  | _,_=>none
theorem rgsF_len {g:Nat→Nat→D}:∀ {n i:Nat}{l:List Rg},rgsF g n i=some l→l.length=n
 | 0,i,l,h=>by simp[rgsF] at h;subst h;rfl
 | n+1,i,l,h=>by
  simp only[rgsF] at h
  split at h<;>try (simp at h;done)
  split at h<;>try (simp at h;done)
  rename_i l' hl
  simp at h;subst h
  rw[List.length_cons,rgsF_len hl]
theorem rgsF_get {g:Nat→Nat→D}:∀ {n i:Nat}{l:List Rg},rgsF g n i=some l→∀ k,k<n→∀ j,j<2→g (i+k) j=rgD (l.getD k default) j
 | 0,i,l,h,k,hk=>by omega
 | n+1,i,l,h,k,hk=>by
  simp only[rgsF] at h
  split at h<;>try (simp at h;done)
  rename_i a b h0 h1
  split at h<;>try (simp at h;done)
  rename_i l' hl
  simp at h;subst h
  match k with
  | 0 =>
   intro j hj
   match j,hj with
   | 0,_=>exact h0
   | 1,_=>exact h1
  | k+1 =>
   have:=rgsF_get hl k (by omega)
   rw[show i+1+k=i+(k+1) from by omega] at this
   exact this
def rgOf:D→Option (List Rg)
 | .sl 2 n g=>rgsF g n 0
 | .v (.slice none 0 0)=>some []
 | _=>none
theorem rgOf_ent {d:D}{l:List Rg}(h:rgOf d=some l):Ent d (rgsD l):=by
 unfold rgOf at h
 split at h<;>try (simp at h;done)
 ·rename_i n g
  refine Ent.sl (rgsF_len h).symm fun i hi j hj=>Ent.of_eq ?_
  have:=rgsF_get h i hi j hj
  rw[Nat.zero_add] at this
  exact this
 ·simp at h;subst h
  exact Ent.nil
theorem rgOf_pd {d:D}{l:List Rg}(h:rgOf d=some l):pd d=true:=by
 unfold rgOf at h
 split at h<;>first|rfl|simp at h
def setOf:D→Option (List Rg)
 | .ag [d]=>rgOf d
 | _=>none
theorem setOf_ent {d:D}{l:List Rg}(h:setOf d=some l):Ent d (setD l):=by
 unfold setOf at h
 split at h<;>try (simp at h;done)
 exact Ent.ag (EntL.cons (rgOf_ent h) (EntL.refl []))
theorem setOf_pd {d:D}{l:List Rg}(h:setOf d=some l):pd d=true:=by
 unfold setOf at h
 split at h<;>try (simp at h;done)
 simp[pd,pdL,rgOf_pd h]
def opG (op:Int):List D→Option D
 | [x,y]=>match setOf x,setOf y with
  | some a,some b=>if decide (a.length≤12)&&decide (b.length≤12) then some (setD (combL a b op)) else none
  | _,_=>none
 | _=>none
def notG:List D→Option D
 | [x]=>match setOf x with
  | some a=>if decide (a.length≤12) then some (setD (combL [(0,1114111)] a 3)) else none
  | _=>none
 | _=>none
theorem opG_pd {ι:Type}{x y:D}{a b:List Rg}(h:setOf x=some a) (k:setOf y=some b):∀ _:ι,pdL [x,y]=true:=fun _=>by simp[pdL,setOf_pd h,setOf_pd k]
theorem notG_pd {ι:Type}{x:D}{a:List Rg}(h:setOf x=some a):∀ _:ι,pdL [x]=true:=fun _=>by simp[pdL,setOf_pd h]
theorem mkOk12 {a:List Rg}(h:a.length≤12):mkOk a∧a.length≤400000:=⟨⟨by omega,.inl h⟩,by omega⟩
end Go.Proofs
