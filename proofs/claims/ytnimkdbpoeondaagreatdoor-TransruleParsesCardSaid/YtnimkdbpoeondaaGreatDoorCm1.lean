import Derived.Test.YtnimkdbpoeondaaGreatDoorUz
set_option linter.all false
set_option maxHeartbeats 4000000
namespace Go.Proofs
open Go Go.Sx
variable {mx:Int}{pb:Bool}
noncomputable def cOr1:Code:=(Tryz.f187.body).getD .skip
noncomputable def Γco1 (mx:Int) (pb:Bool):Ctx:=fun f=>match f with
 | 53=>some (.pure ctMake)
 | 200=>some (.gen (zds true Γcu Tryz.T (GlT mx pb) Tryz.f200 cCur))
 | 221=>some (.gen (zds true Γ0 Tryz.T (GlT mx pb) Tryz.f221 cCur1))
 | 187=>some (.gen (zds true Γ0 Tryz.T (GlT mx pb) Tryz.f187 cOr1))
 | _=>none
theorem Γco1_ok:CK mx pb (Γco1 mx pb):=by
 intro f h hh;simp only[Γco1] at hh;split at hh<;>simp at hh<;>subst hh
 ·exact yX
 ·exact si zic Tryz.func200
 ·exact si zH Tryz.func221
 ·exact si zH Tryz.func187
def ctCmb1:Ct:={ ι:=List Rg × List Rg,inp:=fun x=>[zR x.1,zR x.2,.fn 187 []],out:=fun x=>zR (zr x.1 x.2 1),pre:=fun x=>zbz x.1/\x.1.length<=400000/\zbz x.2/\x.2.length<=400000 }
def sC1 (A B:List Rg) (lo:Int) (i j:Nat) (out:List Rg):St:=⟨[(2,.fn 187 []),(6,.own 0 0),(7,.fn 221 [.own 2 0,.own 1 0]),(8,.fn 221 [.own 4 0,.own 3 0]),(9,.row 5),(10,.v (.int .i64 lo))],owC2 A B i j out,[]⟩
theorem cmb1_ok:SS mx pb 185 ctCmb1:=by
 refine sb (cc:=true) Γco1_ok Tryz.func185 ?_;rintro ⟨(a:List Rg),(b:List Rg)⟩ ⟨(hm:zbz a),(hl:a.length<=400000),(hm2:zbz b),(hl2:b.length<=400000)⟩
 have p1:ctMake.pre a:=hm;have p2:ctMake.pre b:=hm2;refine gO ?_;refine .inr ⟨.stage [0,2] (.alt 1 [2] (.stage [] (.alt 3 [] (.done [4,5]) .nil)) .nil),by decide +kernel,?_⟩
 refine And.intro rfl (And.intro rfl ?_)
 refine gl ?_;refine And.intro rfl ?_;refine gl ?_;refine And.intro rfl (And.intro rfl ?_)
 refine gl ?_;simp only[nq,zG,zW,nr,ns,Nat.reduceAdd,reduceIte];have hA:=zO a;have hAl:=zK a;have hB:=zO b;have hBl:=zK b;refine ⟨0,Int × Nat × Nat × List Rg,fun|(lo,i,j,out)=>sC1 (canon a) (canon b) lo i j out,fun|(lo,i,j,out)=>KInv (Kc a b 1) lo out/\CurInv (canon a) lo i/\CurInv (canon b) lo j/\bndC (canon a) (canon b) lo out,fun x=>(1114112 - x.1).toNat,fun _=>Nat.zero_le _,⟨(0,0,0,[]),⟨k_zero _,⟨Nat.zero_le _,fun k hk=>by omega⟩,⟨Nat.zero_le _,fun k hk=>by omega⟩,zgo _ _⟩,StLe.trans (StLe.nilRow (t:=9) 111 2 (fun _ _=>.junk) rfl) (StLe.ren [2,4,5,7,8,9] tmS ⟨eZ,eZ,eZ,eZ,eZ,yg,trivial⟩ (by decide))⟩,?_⟩
 rintro ⟨lo,i,j,out⟩ ⟨hK,hCA0,hCB0,hBd⟩
 have hbl:=zox hBd;have hdone:=fun h=>zj1 (a:=a) (b:=b) (op:=1) (out:=out) h;by_cases hlo:lo<=1114111
 ·clear hdone;generalize hAe:canon a=A at hA hAl hCA0 hBd hbl ⊢;generalize hBe:canon b=B at hB hBl hCB0 hBd hbl ⊢;have segA:∀ {s e},SegA A lo s e->SegA (canon a) lo s e:=fun h=>hAe ▸ h;have segB:∀ {s e},SegA B lo s e->SegA (canon b) lo s e:=fun h=>hBe ▸ h;have hp:=hK.pos;have hle:=hK.le;have hol:out.length<=2000000:=by omega
  refine gl ?_;refine ⟨0,Nat,fun i=>sCa A B lo i j out,fun i=>CurInv A lo i,fun i=>A.length - i,fun _=>(by show 6<=6;decide),⟨i,hCA0,sm⟩,?_⟩
  clear hCA0;intro k (hCA:CurInv A lo k)
  have hi:=hCA.le;by_cases hil:k<A.length
  ·obtain ⟨h1,h2,h3⟩:=yx hA hil;by_cases hh:(A.getD ((k:Int)).toNat default).2<lo
   ·refine gl ?_;exact ⟨k+1,xg hCA hil hh,(by show A.length - (k+1)<A.length - k;omega),StLe.m6 tmS ⟨eZ,eZ,⟨rfl,EntL.cons (Ent.int (by omega)) (EntL.refl []),rfl⟩,eZ,eZ,own_refl,trivial⟩⟩
   ·have hh0:¬(A.getD k default).2<lo:=hh;by_cases hg:lo<(A.getD ((k:Int)).toNat default).1
    ·have hg0:lo<(A.getD k default).1:=hg;have hSA0:=uu hA hCA hil hg0;have hs1:=hSA0.le;have hs2:=hSA0.max;have hSA:=segA hSA0;refine gl ?_;refine ⟨0,Nat,fun j=>sCb A B lo k j out,fun j=>CurInv B lo j,fun j=>B.length - j,fun _=>(by show 6<=6;decide),⟨j,hCB0,sm⟩,?_⟩
     clear hCB0;intro k2 (hCB:CurInv B lo k2)
     have hi2:=hCB.le;by_cases hil2:k2<B.length
     ·obtain ⟨g1,g2,g3⟩:=yx hB hil2;by_cases hh2:(B.getD ((k2:Int)).toNat default).2<lo
      ·refine gl ?_;exact ⟨k2+1,xg hCB hil2 hh2,(by show B.length - (k2+1)<B.length - k2;omega),StLe.m6 tmS ⟨eZ,eZ,eZ,eZ,⟨rfl,EntL.cons (Ent.int (by omega)) (EntL.refl []),rfl⟩,own_refl,trivial⟩⟩
      ·have hh20:¬(B.getD k2 default).2<lo:=hh2;by_cases hg2:lo<(B.getD ((k2:Int)).toNat default).1
       ·have hg20:lo<(B.getD k2 default).1:=hg2;have hSB0:=uu hB hCB hil2 hg20;have ht1:=hSB0.le;have ht2:=hSB0.max;have hSB:=segB hSB0;refine gl ?_;exact ⟨(min ((A.getD k default).1 - 1) ((B.getD k2 default).1 - 1)+1,k,k2,out),⟨yi hK hSA hSB rfl,zn hCA (by omega),zn hCB (by omega),zD hBd hlo hSA0 hSB0 (by simp)⟩,(by show ((1114112:Int) - (min ((A.getD k default).1 - 1) ((B.getD k2 default).1 - 1)+1)).toNat<((1114112:Int) - lo).toNat;omega),(sr [0,1,2,3,4,5])⟩
       ·have hg20:¬lo<(B.getD k2 default).1:=hg2;have hSB0:=zag hB hil2 hg20 hh20;have ht1:=hSB0.le;have ht2:=hSB0.max;have hSB:=segB hSB0;refine gl ?_;exact ⟨(min ((A.getD k default).1 - 1) (B.getD k2 default).2+1,k,k2,out++[(lo,min ((A.getD k default).1 - 1) (B.getD k2 default).2)]),⟨za8 hK hSA hSB rfl,zn hCA (by omega),zn hCB (by omega),zD hBd hlo hSA0 hSB0 (by simp)⟩,(by show ((1114112:Int) - (min ((A.getD k default).1 - 1) (B.getD k2 default).2+1)).toNat<((1114112:Int) - lo).toNat;omega),StLe.ren [0,1,2,3,4,6] tmS ⟨eZ,eZ,eZ,eZ,eZ,zF (x:=(lo,min ((A.getD k default).1 - 1) (B.getD k2 default).2)) (fun j hj=>match j,hj with|0,_=>eE|1,_=>eE),trivial⟩ (by decide)⟩
     ·have hSB0:=uv hB hCB hlo hil2;have hSB:=segB hSB0;refine gl ?_;exact ⟨(min ((A.getD k default).1 - 1) (1114111:Int)+1,k,k2,out),⟨yi hK hSA hSB rfl,zn hCA (by omega),zn hCB (by omega),zD hBd hlo hSA0 hSB0 (by simp)⟩,(by show ((1114112:Int) - (min ((A.getD k default).1 - 1) (1114111:Int)+1)).toNat<((1114112:Int) - lo).toNat;omega),(sr [0,1,2,3,4,5])⟩
    ·have hg0:¬lo<(A.getD k default).1:=hg;have hSA0:=zag hA hil hg0 hh0;have hs1:=hSA0.le;have hs2:=hSA0.max;have hSA:=segA hSA0;refine gl ?_;refine ⟨0,Nat,fun j=>sCb A B lo k j out,fun j=>CurInv B lo j,fun j=>B.length - j,fun _=>(by show 6<=6;decide),⟨j,hCB0,sm⟩,?_⟩
     clear hCB0;intro k2 (hCB:CurInv B lo k2)
     have hi2:=hCB.le;by_cases hil2:k2<B.length
     ·obtain ⟨g1,g2,g3⟩:=yx hB hil2;by_cases hh2:(B.getD ((k2:Int)).toNat default).2<lo
      ·refine gl ?_;exact ⟨k2+1,xg hCB hil2 hh2,(by show B.length - (k2+1)<B.length - k2;omega),StLe.m6 tmS ⟨eZ,eZ,eZ,eZ,⟨rfl,EntL.cons (Ent.int (by omega)) (EntL.refl []),rfl⟩,own_refl,trivial⟩⟩
      ·have hh20:¬(B.getD k2 default).2<lo:=hh2;by_cases hg2:lo<(B.getD ((k2:Int)).toNat default).1
       ·have hg20:lo<(B.getD k2 default).1:=hg2;have hSB0:=uu hB hCB hil2 hg20;have ht1:=hSB0.le;have ht2:=hSB0.max;have hSB:=segB hSB0;refine gl ?_;exact ⟨(min (A.getD k default).2 ((B.getD k2 default).1 - 1)+1,k,k2,out++[(lo,min (A.getD k default).2 ((B.getD k2 default).1 - 1))]),⟨za8 hK hSA hSB rfl,zn hCA (by omega),zn hCB (by omega),zD hBd hlo hSA0 hSB0 (by simp)⟩,(by show ((1114112:Int) - (min (A.getD k default).2 ((B.getD k2 default).1 - 1)+1)).toNat<((1114112:Int) - lo).toNat;omega),StLe.ren [0,1,2,3,4,6] tmS ⟨eZ,eZ,eZ,eZ,eZ,zF (x:=(lo,min (A.getD k default).2 ((B.getD k2 default).1 - 1))) (fun j hj=>match j,hj with|0,_=>eE|1,_=>eE),trivial⟩ (by decide)⟩
       ·have hg20:¬lo<(B.getD k2 default).1:=hg2;have hSB0:=zag hB hil2 hg20 hh20;have ht1:=hSB0.le;have ht2:=hSB0.max;have hSB:=segB hSB0;refine gl ?_;exact ⟨(min (A.getD k default).2 (B.getD k2 default).2+1,k,k2,out++[(lo,min (A.getD k default).2 (B.getD k2 default).2)]),⟨za8 hK hSA hSB rfl,zn hCA (by omega),zn hCB (by omega),zD hBd hlo hSA0 hSB0 (by simp)⟩,(by show ((1114112:Int) - (min (A.getD k default).2 (B.getD k2 default).2+1)).toNat<((1114112:Int) - lo).toNat;omega),StLe.ren [0,1,2,3,4,6] tmS ⟨eZ,eZ,eZ,eZ,eZ,zF (x:=(lo,min (A.getD k default).2 (B.getD k2 default).2)) (fun j hj=>match j,hj with|0,_=>eE|1,_=>eE),trivial⟩ (by decide)⟩
     ·have hSB0:=uv hB hCB hlo hil2;have hSB:=segB hSB0;refine gl ?_;exact ⟨(min (A.getD k default).2 (1114111:Int)+1,k,k2,out++[(lo,min (A.getD k default).2 (1114111:Int))]),⟨za8 hK hSA hSB rfl,zn hCA (by omega),zn hCB (by omega),zD hBd hlo hSA0 hSB0 (by simp)⟩,(by show ((1114112:Int) - (min (A.getD k default).2 (1114111:Int)+1)).toNat<((1114112:Int) - lo).toNat;omega),StLe.ren [0,1,2,3,4,6] tmS ⟨eZ,eZ,eZ,eZ,eZ,zF (x:=(lo,min (A.getD k default).2 (1114111:Int))) (fun j hj=>match j,hj with|0,_=>eE|1,_=>eE),trivial⟩ (by decide)⟩
  ·have hSA0:=uv hA hCA hlo hil;have hs1:=hSA0.le;have hs2:=hSA0.max;have hSA:=segA hSA0;refine gl ?_;refine ⟨0,Nat,fun j=>sCb A B lo k j out,fun j=>CurInv B lo j,fun j=>B.length - j,fun _=>(by show 6<=6;decide),⟨j,hCB0,sm⟩,?_⟩
   clear hCB0;intro k2 (hCB:CurInv B lo k2)
   have hi2:=hCB.le;by_cases hil2:k2<B.length
   ·obtain ⟨g1,g2,g3⟩:=yx hB hil2;by_cases hh2:(B.getD ((k2:Int)).toNat default).2<lo
    ·refine gl ?_;exact ⟨k2+1,xg hCB hil2 hh2,(by show B.length - (k2+1)<B.length - k2;omega),StLe.m6 tmS ⟨eZ,eZ,eZ,eZ,⟨rfl,EntL.cons (Ent.int (by omega)) (EntL.refl []),rfl⟩,own_refl,trivial⟩⟩
    ·have hh20:¬(B.getD k2 default).2<lo:=hh2;by_cases hg2:lo<(B.getD ((k2:Int)).toNat default).1
     ·have hg20:lo<(B.getD k2 default).1:=hg2;have hSB0:=uu hB hCB hil2 hg20;have ht1:=hSB0.le;have ht2:=hSB0.max;have hSB:=segB hSB0;refine gl ?_;exact ⟨(min (1114111:Int) ((B.getD k2 default).1 - 1)+1,k,k2,out),⟨yi hK hSA hSB rfl,zn hCA (by omega),zn hCB (by omega),zD hBd hlo hSA0 hSB0 (by simp)⟩,(by show ((1114112:Int) - (min (1114111:Int) ((B.getD k2 default).1 - 1)+1)).toNat<((1114112:Int) - lo).toNat;omega),(sr [0,1,2,3,4,5])⟩
     ·have hg20:¬lo<(B.getD k2 default).1:=hg2;have hSB0:=zag hB hil2 hg20 hh20;have ht1:=hSB0.le;have ht2:=hSB0.max;have hSB:=segB hSB0;refine gl ?_;exact ⟨(min (1114111:Int) (B.getD k2 default).2+1,k,k2,out++[(lo,min (1114111:Int) (B.getD k2 default).2)]),⟨za8 hK hSA hSB rfl,zn hCA (by omega),zn hCB (by omega),zD hBd hlo hSA0 hSB0 (by simp)⟩,(by show ((1114112:Int) - (min (1114111:Int) (B.getD k2 default).2+1)).toNat<((1114112:Int) - lo).toNat;omega),StLe.ren [0,1,2,3,4,6] tmS ⟨eZ,eZ,eZ,eZ,eZ,zF (x:=(lo,min (1114111:Int) (B.getD k2 default).2)) (fun j hj=>match j,hj with|0,_=>eE|1,_=>eE),trivial⟩ (by decide)⟩
   ·have hSB0:=uv hB hCB hlo hil2;have hSB:=segB hSB0;refine gl ?_;exact ⟨(min (1114111:Int) (1114111:Int)+1,k,k2,out),⟨yi hK hSA hSB rfl,zn hCA (by omega),zn hCB (by omega),zD hBd hlo hSA0 hSB0 (by simp)⟩,(by show ((1114112:Int) - (min (1114111:Int) (1114111:Int)+1)).toNat<((1114112:Int) - lo).toNat;omega),(sr [0,1,2,3,4,5])⟩
 ·have hp:=hK.pos;have hle:=hK.le;have hlo2:lo=1114112:=by omega
  have hol:out.length<4194304:=by omega
  have p3:ctMake.pre out:=k_mkOk hK hol;have e:=hdone (hlo2 ▸ hK)
  refine gl ?_;refine EntR.of rfl ?_;show Ent (zR (canon out)) (zR _)
  rw[e];exact eE
end Go.Proofs
