import Derived.Test.YtnimkdbpoeondaaGreatDoorZiz
import Derived.Test.YtnimkdbpoeondaaGreatDoorZpz
set_option linter.all false
set_option maxHeartbeats 4000000
namespace Go.Proofs
open Go Go.Sx
variable {mx:Int}{pb:Bool}
attribute [local irreducible] zbs zbi yf xD
theorem gGrp_ok:∀ n,n<=17->SQ mx pb 135 (ocGG n)
 | 0,_=>gGr_0 0 rfl
 | n+1,h=>gLoop_ok (by omega) (gOp_ok (gGrp_ok n (by omega)))
noncomputable def ctGp:Ct:={ ι:=Db × ByteArray,inp:=fun x=>[dbA x.1,.v (.string x.2)],out:=fun x=>.tu [zR (zcc x.1 x.2).1,.ag [.v (.int .i64 (zcc x.1 x.2).2.1),.v (.int .i64 (zcc x.1 x.2).2.2)]],pre:=fun x=>SmD x.1/\x.2.size<=1000 }
noncomputable def Γgt (mx:Int) (pb:Bool):Ctx:=fun f=>match f with
 | 137=>some (.obj ocGo)
 | 136=>some (.obj ocGf)
 | 134=>some (.obj ocGb)
 | 135=>some (.obj (ocGG 17))
 | 133=>some (.pure ctDbE)
 | _=>none
theorem Γgt_ok:CK mx pb (Γgt mx pb):=by
 intro f h hh;simp only[Γgt] at hh;split at hh<;>simp at hh<;>subst hh
 ·exact zlq
 ·exact zb2
 ·exact zlu
 ·exact gGrp_ok 17 (by decide)
 ·exact rDbE_ok
theorem gPar_ok:SS mx pb 109 ctGp:=by
 refine sb (cc:=true) Γgt_ok Tryz.func109 ?_;rintro ⟨db,s⟩ ⟨(hsm:SmD db),(hs:s.size<=1000)⟩
 have pd:ctDbE.pre db:=hsm;have ho:ctGp.out (db,s)=.tu [zR (gPaE (gPaR db s).1 (gPaQ s (gBl s (gPaR db s).2))).1,.ag [.v (.int .i64 (gPaE (gPaR db s).1 (gPaQ s (gBl s (gPaR db s).2))).2.1),.v (.int .i64 (gPaE (gPaR db s).1 (gPaQ s (gBl s (gPaR db s).2))).2.2)]]:=rfl;rw[ho];have k1:=(zlv (s:=s) (p:=⟨0,0,0⟩) (Nat.zero_le _)).2;have hR:gPaR db s=gGr db s 17 (gBl s ⟨0,0,0⟩):=rfl;generalize hp1:gBl s ⟨0,0,0⟩=p1 at hR k1;have hg:=uw hsm (s:=s) 17 p1 k1;obtain ⟨L,p2,h2⟩:∃ L p2,gGr db s 17 p1=(L,p2):=⟨_,_,rfl⟩
 have k2:=hg.mv.hi;rw[h2] at hR k2;rw[hR];dsimp only at k2 ⊢;clear hR hg;have k3:=(zlv k2).2;generalize hp3:gBl s p2=p3 at k3 ⊢
 repeat' first|refine gx ?_|refine bs ?_ ?_<;>intro q_
 all_goals first|(exfalso;omega)|skip
 refine .inr ⟨.stage [0,1,2,3,4,5] (.alt 6 [] (.done [7]) .nil),by decide +kernel,?_⟩
 refine xs1 ?_
 repeat' first|refine gx ?_|refine gy ?_|refine xc1 ?_ ?_|refine xs4 ?_ ?_|exact rfl
 all_goals (try refine ⟨db,eL,fun _=>pd,?_⟩)
 all_goals repeat' first|refine gx ?_|refine gy ?_|refine xc1 ?_ ?_|refine xs4 ?_ ?_|exact rfl
 repeat' first|refine gw ?_|refine bs ?_ ?_<;>intro q_
 refine ⟨(((db,s,⟨0,0,0⟩),(),(),p1):GI × Unit × Unit × Gz),obE (zg db s ⟨0,0,0⟩),eL,⟨⟨hsm,hs,Nat.zero_le _⟩,trivial,(by show ((),gBl s ⟨0,0,0⟩)=((),p1);rw[hp1])⟩,?_⟩
 clear hp1;simp only[nq,zG,zW,nr,ns,Nat.reduceAdd,reduceIte];refine gw ?_;refine ⟨(((db,s,p1),0,L,p2):GI × Int × List Rg × Gz),obE (zg db s p1),eL,⟨⟨hsm,hs,k1⟩,(by show (0:Int)=17 - ((17:Nat):Int);decide),h2⟩,?_⟩
 clear h2;simp only[nq,zG,zW,nr,ns,Nat.reduceAdd,reduceIte];refine gw ?_;refine ⟨(((db,s,p2),(),(),p3):GI × Unit × Unit × Gz),obE (zg db s p2),eL,⟨⟨hsm,hs,k2⟩,trivial,(by show ((),gBl s p2)=((),p3);rw[hp3])⟩,?_⟩
 clear hp3;simp only[nq,zG,zW,nr,ns,Nat.reduceAdd,reduceIte];by_cases hlt:(p3.k:Int)<s.size
 ·have hQ:gPaQ s p3=gFl p3 3 p3.k:=if_pos (show p3.k<s.size by omega)
  have he:¬(gFl p3 3 p3.k).e=0:=yq (by decide)
  have hE:gPaE L (gFl p3 3 p3.k)=([],(gFl p3 3 p3.k).e,(gFl p3 3 p3.k).a):=if_neg he;rw[hQ,hE]
  repeat' first|refine gw ?_|refine bs ?_ ?_<;>intro q_
  all_goals first|(exfalso;omega)|skip
  refine ⟨(((db,s,p3),(3,(p3.k:Int)),(),gFl p3 3 p3.k):GI × (Int × Int) × Unit × Gz),obE (zg db s p3),eL,⟨⟨hsm,hs,k3⟩,trivial,rfl⟩,?_⟩
  generalize gFl p3 3 p3.k=p4 at he ⊢;simp only[nq,zG,zW,nr,ns,Nat.reduceAdd,reduceIte];refine gw ?_;refine ⟨((db,s,p4):GI),obE (zg db s p4),eL,trivial,?_⟩
  rw[show ocGo.res ((db,s,p4):GI)=.inl (.v (.bool false)) from congrArg (fun b=>Sum.inl (D.v (.bool b))) (decide_eq_false he)];simp only[nq,zG,zW,nr,ns,Nat.reduceAdd,reduceIte]
  repeat' first|refine gx ?_|refine bs ?_ ?_<;>intro q_
  all_goals first|(exfalso;omega)|skip
  refine .inr ⟨.stage [0,1,2,3,4] (.alt 5 [1,2,3,4] (.stage [] (.alt 6 [] (.done []) .nil)) .nil),by decide +kernel,?_⟩
  refine xs1 ?_
  repeat' first|refine gx ?_|refine gy ?_|refine xc1 ?_ ?_|refine xs4 ?_ ?_|exact rfl
  exact EntR.of rfl (Ent.tu2 (Ent.ag (EntL.cons Ent.nil eL)) eE)
 ·have hQ:gPaQ s p3=p3:=if_neg (show ¬p3.k<s.size by omega)
  rw[hQ];by_cases he:p3.e=0
  ·have hE:gPaE L p3=(L,0,0):=if_pos he;rw[hE]
   repeat' first|refine gw ?_|refine bs ?_ ?_<;>intro q_
   all_goals first|(exfalso;omega)|skip
   refine ⟨((db,s,p3):GI),obE (zg db s p3),eL,trivial,?_⟩
   rw[show ocGo.res ((db,s,p3):GI)=.inl (.v (.bool true)) from congrArg (fun b=>Sum.inl (D.v (.bool b))) (decide_eq_true he)];simp only[nq,zG,zW,nr,ns,Nat.reduceAdd,reduceIte];refine gw ?_;exact EntR.of rfl (Ent.tu2 eE eE)
  ·have hE:gPaE L p3=([],p3.e,p3.a):=if_neg he;rw[hE]
   repeat' first|refine gw ?_|refine bs ?_ ?_<;>intro q_
   all_goals first|(exfalso;omega)|skip
   refine ⟨((db,s,p3):GI),obE (zg db s p3),eL,trivial,?_⟩
   rw[show ocGo.res ((db,s,p3):GI)=.inl (.v (.bool false)) from congrArg (fun b=>Sum.inl (D.v (.bool b))) (decide_eq_false he)];simp only[nq,zG,zW,nr,ns,Nat.reduceAdd,reduceIte]
   repeat' first|refine gx ?_|refine bs ?_ ?_<;>intro q_
   all_goals first|(exfalso;omega)|skip
   refine .inr ⟨.stage [0,1,2,3,4] (.alt 5 [1,2,3,4] (.stage [] (.alt 6 [] (.done []) .nil)) .nil),by decide +kernel,?_⟩
   refine xs1 ?_
   repeat' first|refine gx ?_|refine gy ?_|refine xc1 ?_ ?_|refine xs4 ?_ ?_|exact rfl
   exact EntR.of rfl (Ent.tu2 (Ent.ag (EntL.cons Ent.nil eL)) eE)
end Go.Proofs
namespace Go.Proofs
open Go Go.Sx
variable {mx:Int}{pb:Bool}
def ocFC:Oc:={ ι:=FX × Int × FSt,t:=74,before:=fun x=>fC x.1.1,inp:=fun _=>[],pre:=fun x=>vf x.1.1=(x.2.1,x.2.2),after:=fun x=>fC x.2.2,res:=fun x=>.inl (.v (.int .i64 x.2.1)) }
noncomputable def Γz2:Ctx:=fun f=>match f with
 | 48=>some (.obj ocFN)
 | 110=>some (.pure ctVal)
 | _=>none
theorem Γz2_ok:CK mx pb Γz2:=by
 intro f h hh;simp only[Γz2] at hh;split at hh<;>simp at hh<;>subst hh
 ·exact zNx_ok
 ·exact zVal_ok
theorem zCod_ok:SQ mx pb 79 ocFC:=by
 refine so (cc:=true) Γz2_ok Tryz.func79 (fun x=>fC_pd x.1) (fun _=>rfl) (fun x=>zh x.2.2) ?_;rintro ⟨⟨p,hp⟩,c,q⟩ (hx:vf p=(c,q))
 obtain ⟨h1,h2,h3⟩:=id hp;obtain ⟨db,s,k,bad⟩:=p;replace h2:k<=s.size+2:=h2;replace h3:s.size<=65536:=h3;by_cases hk:k<s.size/\isL (bAt s k)
 ·have hb:=uZ s k;have e:vf ⟨db,s,k,bad⟩=(bAt s k,⟨db,s,k+1,bad⟩):=if_pos hk;rw[e] at hx;obtain ⟨rfl,rfl⟩:=Prod.mk.inj hx;have hl:=hk.2;unfold isL at hl;have hki:=hk.1;have hT:((k:Int)).toNat=k:=Int.toNat_natCast k;dsimp only[ocFC];have hR:D.v (.int .i64 (IntKind.i64.wrap (bAt s ((k:Int)).toNat)))=D.v (.int .i64 (bAt s k)):=by rw[hT,yI ⟨by omega,by omega⟩]
  by_cases c1:bAt s k>=65
  ·by_cases c2:bAt s k<=90
   ·repeat' first|refine gw ?_|refine bs ?_ ?_<;>intro q_
    all_goals first|(exfalso;omega)|exact And.intro (zd hR rfl) (And.intro rfl (obE (zh ⟨db,s,k+1,bad⟩)))
   ·have c3:bAt s k>=97:=by omega
    have c4:bAt s k<=122:=by omega
    repeat' first|refine gw ?_|refine bs ?_ ?_<;>intro q_
    all_goals first|(exfalso;omega)|exact And.intro (zd hR rfl) (And.intro rfl (obE (zh ⟨db,s,k+1,bad⟩)))
  ·have c3:¬bAt s k>=97:=by omega
   have c5:bAt s k>=48:=by omega
   have c6:bAt s k<=57:=by omega
   repeat' first|refine gw ?_|refine bs ?_ ?_<;>intro q_
   all_goals first|(exfalso;omega)|exact And.intro (zd hR rfl) (And.intro rfl (obE (zh ⟨db,s,k+1,bad⟩)))
 ·have e:vf ⟨db,s,k,bad⟩=if nxB ⟨db,s,k,bad⟩ uTx=true then escF ⟨db,s,k,bad⟩ (hxG s (k+3) 0 0) else (-1,⟨db,s,k,bad⟩):=if_neg hk;rw[e] at hx;have hb:=uZ s k;have hT:((k:Int)).toNat=k:=Int.toNat_natCast k;have hl:k<s.size->¬isL (bAt s k):=fun h hh=>hk ⟨h,hh⟩
  unfold isL at hl;dsimp only[ocFC];by_cases hn:nxB ⟨db,s,k,bad⟩ uTx=true
  ·have hN:ocFN.res ((⟨⟨db,s,k,bad⟩,hp⟩,uTx):FX × ByteArray)=.inl (.v (.bool true)):=congrArg (fun b=>Sum.inl (D.v (.bool b))) hn;rw[if_pos hn] at hx;obtain ⟨hb0,hk3,h92,_,_⟩:=zi1.1 hn;replace hb0:bad=false:=hb0;replace hk3:k+3<=s.size:=hk3;replace h92:bAt s k=92:=h92;clear hl;subst hb0;have hki:(k:Int)<s.size:=by omega
   have c1:bAt s k>=65:=by omega
   have c2:¬bAt s k<=90:=by omega
   have c3:¬bAt s k>=97:=by omega
   have c4:bAt s k<=122:=by omega
   have c5:bAt s k>=48:=by omega
   have c6:¬bAt s k<=57:=by omega
   repeat' first|refine gw ?_|refine bs ?_ ?_<;>intro q_
   all_goals first|(exfalso;omega)|skip
   refine ⟨((⟨⟨db,s,k,false⟩,hp⟩,uTx):FX × ByteArray),obE (zh _),eL,(by show uTx.size<=100;decide),?_⟩
   rw[hN];refine gw ?_;refine ⟨0,Nat × Nat × Int,fun|(j,n,c0)=>⟨[(0,.own 0 0),(4,.v (.int .i64 n)),(5,.v (.int .i64 c0))],[.cells 74 (fC ⟨db,s,j,false⟩)],[]⟩,fun|(j,n,c0)=>j<=s.size/\n<=7/\0<=c0/\c0<16 ^ n/\hxG s j n c0=hxG s (k+3) 0 0,fun x=>7 - x.2.1,fun _=>Nat.le_refl _,⟨(k+3,0,0),⟨hk3,by omega,by omega,by decide,rfl⟩,yv (zh ⟨db,s,k+3,false⟩) rfl tmS⟩,?_⟩
   rintro ⟨j,n,c0⟩ ⟨(j1:j<=s.size),(j2:n<=7),(j3:0<=c0),(j4:c0<16 ^ n),(j5:hxG s j n c0=hxG s (k+3) 0 0)⟩
   have j6:(16:Int) ^ n<=268435456:=pw7 n j2;have hb':=uZ s j;have pv:ctVal.pre (bAt s j):=hb';have vb:=valV_bd (bAt s j)
   clear h92 hki hb hT c1 c2 c3 c4 c5 c6;by_cases e3:n<7/\j<s.size/\0<=xR (bAt s j)
   ·obtain ⟨e2,e1,e3⟩:=e3;have hy:=hxG_y (c:=c0) e2 ⟨e1,e3⟩
    repeat' first|refine gw ?_|refine bs ?_ ?_<;>intro q_
    all_goals first|(exfalso;omega)|exact ⟨(j+1,n+1,16*c0+xR (bAt s j)),⟨e1,e2,(by show 0<=16*c0+xR (bAt s j);omega),(by show 16*c0+xR (bAt s j)<16 ^ (n+1);rw[Int.pow_succ];omega),hy.symm.trans j5⟩,(by show 7 - (n+1)<7 - n;omega),yv (zh ⟨db,s,j+1,false⟩) rfl tmS⟩
   ·have hz:=hxG_n (s:=s) (k:=j) (n:=n) (c:=c0) e3;rw[<- j5,hz] at hx;obtain ⟨rfl,rfl⟩:=Prod.mk.inj hx;have okj:OkF ⟨db,s,j,false⟩:=⟨h1,(by show j<=s.size+2;omega),h3⟩
    by_cases f1:(n:Int)<1
    ·have hQ:escQ false n c0 (nxB ⟨db,s,j,false⟩ cTx)=true:=escQ_1 (by omega)
     repeat' first|refine gw ?_|refine bs ?_ ?_<;>intro q_
     all_goals first|(exfalso;omega)|exact And.intro (zd rfl rfl) (And.intro rfl (obE (zh ⟨db,s,j+1,true⟩) (fin_q hQ)))
    by_cases f2:(n:Int)>6
    ·have hQ:escQ false n c0 (nxB ⟨db,s,j,false⟩ cTx)=true:=escQ_2 (by omega)
     repeat' first|refine gw ?_|refine bs ?_ ?_<;>intro q_
     all_goals first|(exfalso;omega)|exact And.intro (zd rfl rfl) (And.intro rfl (obE (zh ⟨db,s,j+1,true⟩) (fin_q hQ)))
    by_cases f3:c0>1114111
    ·have hQ:escQ false n c0 (nxB ⟨db,s,j,false⟩ cTx)=true:=escQ_3 f3
     repeat' first|refine gw ?_|refine bs ?_ ?_<;>intro q_
     all_goals first|(exfalso;omega)|exact And.intro (zd rfl rfl) (And.intro rfl (obE (zh ⟨db,s,j+1,true⟩) (fin_q hQ)))
    have e4:j<s.size->¬0<=xR (bAt s j):=fun h hh=>e3 ⟨by omega,h,hh⟩
    cases hn3:nxB ⟨db,s,j,false⟩ cTx
    ·have hQ:escQ false n c0 (nxB ⟨db,s,j,false⟩ cTx)=true:=by rw[hn3];unfold escQ;simp
     have hN3:ocFN.res ((⟨⟨db,s,j,false⟩,okj⟩,cTx):FX × ByteArray)=.inl (.v (.bool false)):=congrArg (fun b=>Sum.inl (D.v (.bool b))) hn3;by_cases e5:j<s.size
     ·have e6:=e4 e5
      repeat' first|refine gw ?_|refine bs ?_ ?_<;>intro q_
      all_goals first|(exfalso;omega)|skip
      all_goals refine ⟨((⟨⟨db,s,j,false⟩,okj⟩,cTx):FX × ByteArray),obE (zh _),eL,(by show cTx.size<=100;decide),?_⟩
      all_goals rw[hN3]
      all_goals repeat' first|refine gw ?_|refine bs ?_ ?_<;>intro q_
      all_goals first|(exfalso;omega)|exact And.intro (zd rfl rfl) (And.intro rfl (obE (zh ⟨db,s,j+1,true⟩) (fin_q hQ)))
     ·repeat' first|refine gw ?_|refine bs ?_ ?_<;>intro q_
      all_goals first|(exfalso;omega)|skip
      all_goals refine ⟨((⟨⟨db,s,j,false⟩,okj⟩,cTx):FX × ByteArray),obE (zh _),eL,(by show cTx.size<=100;decide),?_⟩
      all_goals rw[hN3]
      all_goals repeat' first|refine gw ?_|refine bs ?_ ?_<;>intro q_
      all_goals first|(exfalso;omega)|exact And.intro (zd rfl rfl) (And.intro rfl (obE (zh ⟨db,s,j+1,true⟩) (fin_q hQ)))
    ·have hQ:escQ false n c0 (nxB ⟨db,s,j,false⟩ cTx)=false:=by
      rw[hn3];unfold escQ;rw[decide_eq_false (by omega),decide_eq_false (by omega),decide_eq_false f3];rfl
     have hN3:ocFN.res ((⟨⟨db,s,j,false⟩,okj⟩,cTx):FX × ByteArray)=.inl (.v (.bool true)):=congrArg (fun b=>Sum.inl (D.v (.bool b))) hn3;have e5:j<s.size:=(zea.1 hn3).2.1;have e6:=e4 e5
     repeat' first|refine gw ?_|refine bs ?_ ?_<;>intro q_
     all_goals first|(exfalso;omega)|skip
     all_goals refine ⟨((⟨⟨db,s,j,false⟩,okj⟩,cTx):FX × ByteArray),obE (zh _),eL,(by show cTx.size<=100;decide),?_⟩
     all_goals rw[hN3]
     all_goals repeat' first|refine gw ?_|refine bs ?_ ?_<;>intro q_
     all_goals first|(exfalso;omega)|exact And.intro (zd rfl rfl) (And.intro rfl (obE (zh ⟨db,s,j+1,false⟩) (fin_q hQ)))
  ·have hn2:nxB ⟨db,s,k,bad⟩ uTx=false:=by simpa using hn
   rw[if_neg hn] at hx;obtain ⟨rfl,rfl⟩:=Prod.mk.inj hx;have hN:ocFN.res ((⟨⟨db,s,k,bad⟩,hp⟩,uTx):FX × ByteArray)=.inl (.v (.bool false)):=congrArg (fun b=>Sum.inl (D.v (.bool b))) hn2;by_cases hki:(k:Int)<s.size
   ·have hl:=hl (by omega)
    rcases (by omega:bAt s k<48\/(58<=bAt s k/\bAt s k<=64)\/(91<=bAt s k/\bAt s k<=96)\/123<=bAt s k) with hr|hr|hr|hr
    ·have c1:¬bAt s k>=65:=by omega
     have c2:bAt s k<=90:=by omega
     have c3:¬bAt s k>=97:=by omega
     have c4:bAt s k<=122:=by omega
     have c5:¬bAt s k>=48:=by omega
     have c6:bAt s k<=57:=by omega
     repeat' first|refine gw ?_|refine bs ?_ ?_<;>intro q_
     all_goals first|(exfalso;omega)|skip
     all_goals refine ⟨((⟨⟨db,s,k,bad⟩,hp⟩,uTx):FX × ByteArray),obE (zh _),eL,(by show uTx.size<=100;decide),?_⟩
     all_goals rw[hN]
     all_goals repeat' first|refine gw ?_|refine bs ?_ ?_<;>intro q_
     all_goals exact And.intro (zd rfl rfl) (And.intro rfl (obE (zh ⟨db,s,k,bad⟩)))
    ·have c1:¬bAt s k>=65:=by omega
     have c2:bAt s k<=90:=by omega
     have c3:¬bAt s k>=97:=by omega
     have c4:bAt s k<=122:=by omega
     have c5:bAt s k>=48:=by omega
     have c6:¬bAt s k<=57:=by omega
     repeat' first|refine gw ?_|refine bs ?_ ?_<;>intro q_
     all_goals first|(exfalso;omega)|skip
     all_goals refine ⟨((⟨⟨db,s,k,bad⟩,hp⟩,uTx):FX × ByteArray),obE (zh _),eL,(by show uTx.size<=100;decide),?_⟩
     all_goals rw[hN]
     all_goals repeat' first|refine gw ?_|refine bs ?_ ?_<;>intro q_
     all_goals exact And.intro (zd rfl rfl) (And.intro rfl (obE (zh ⟨db,s,k,bad⟩)))
    ·have c1:bAt s k>=65:=by omega
     have c2:¬bAt s k<=90:=by omega
     have c3:¬bAt s k>=97:=by omega
     have c4:bAt s k<=122:=by omega
     have c5:bAt s k>=48:=by omega
     have c6:¬bAt s k<=57:=by omega
     repeat' first|refine gw ?_|refine bs ?_ ?_<;>intro q_
     all_goals first|(exfalso;omega)|skip
     all_goals refine ⟨((⟨⟨db,s,k,bad⟩,hp⟩,uTx):FX × ByteArray),obE (zh _),eL,(by show uTx.size<=100;decide),?_⟩
     all_goals rw[hN]
     all_goals repeat' first|refine gw ?_|refine bs ?_ ?_<;>intro q_
     all_goals exact And.intro (zd rfl rfl) (And.intro rfl (obE (zh ⟨db,s,k,bad⟩)))
    ·have c1:bAt s k>=65:=by omega
     have c2:¬bAt s k<=90:=by omega
     have c3:bAt s k>=97:=by omega
     have c4:¬bAt s k<=122:=by omega
     have c5:bAt s k>=48:=by omega
     have c6:¬bAt s k<=57:=by omega
     repeat' first|refine gw ?_|refine bs ?_ ?_<;>intro q_
     all_goals first|(exfalso;omega)|skip
     all_goals refine ⟨((⟨⟨db,s,k,bad⟩,hp⟩,uTx):FX × ByteArray),obE (zh _),eL,(by show uTx.size<=100;decide),?_⟩
     all_goals rw[hN]
     all_goals repeat' first|refine gw ?_|refine bs ?_ ?_<;>intro q_
     all_goals exact And.intro (zd rfl rfl) (And.intro rfl (obE (zh ⟨db,s,k,bad⟩)))
   ·repeat' first|refine gw ?_|refine bs ?_ ?_<;>intro q_
    all_goals first|(exfalso;omega)|skip
    all_goals refine ⟨((⟨⟨db,s,k,bad⟩,hp⟩,uTx):FX × ByteArray),obE (zh _),eL,(by show uTx.size<=100;decide),?_⟩
    all_goals rw[hN]
    all_goals repeat' first|refine gw ?_|refine bs ?_ ?_<;>intro q_
    all_goals exact And.intro (zd rfl rfl) (And.intro rfl (obE (zh ⟨db,s,k,bad⟩)))
def ocH (B:Type) (f:B->D) (run:FSt->B × FSt):Oc:={ ι:=FSt × B × FSt,t:=74,before:=fun x=>fC x.1,inp:=fun _=>[],pre:=fun x=>HOk x.1/\run x.1=x.2,after:=fun x=>fC x.2.2,res:=fun x=>.inl (f x.2.1) }
attribute [local irreducible] zbs zbi yf xD
theorem zoj {p:FSt}(h:p.s.size<=990) (cl:Bool):(zbj p cl).size<=1000:=by
 have hm:min (enG p.s 0 p.k) p.s.size<=p.s.size:=Nat.min_le_right _ _;have h1:(zN p.s p.k (min (enG p.s 0 p.k) p.s.size)).size<=p.s.size:=by
  show ((p.s.data.toList.take _).drop _).length<=p.s.data.toList.length;rw[List.length_drop,List.length_take];omega
 cases cl
 ·show (zN p.s p.k (min (enG p.s 0 p.k) p.s.size)).size<=1000;omega
 ·have:(yt (yt lbS (zN p.s p.k (min (enG p.s 0 p.k) p.s.size))) rbS).size=(zN p.s p.k (min (enG p.s 0 p.k) p.s.size)).size+2:=by
   show ((91::(zN p.s p.k (min (enG p.s 0 p.k) p.s.size)).data.toList)++[93]).length=(zN p.s p.k (min (enG p.s 0 p.k) p.s.size)).data.toList.length+2;simp
  show (yt (yt lbS (zN p.s p.k (min (enG p.s 0 p.k) p.s.size))) rbS).size<=1000;omega
theorem cat_sz (x y:ByteArray):(yt x y).size=x.size+y.size:=by
 show (x.data.toList++y.data.toList).length=x.data.toList.length+y.data.toList.length;exact List.length_append
noncomputable def ocFL:Oc:=ocH (List Rg × Bool) (fun x=>.tu [zR x.1,.v (.bool x.2)]) zaa
noncomputable def Γz3 (mx:Int) (pb:Bool):Ctx:=fun f=>match f with
 | 48=>some (.obj ocFN)
 | 79=>some (.obj ocFC)
 | 108=>some (.obj ocFE)
 | 109=>some (.pure ctGp)
 | 107=>some (.pure ctMakeR)
 | _=>none
theorem Γz3_ok:CK mx pb (Γz3 mx pb):=by
 intro f h hh;simp only[Γz3] at hh;split at hh<;>simp at hh<;>subst hh
 ·exact zNx_ok
 ·exact zCod_ok
 ·exact zEnd_ok
 ·exact gPar_ok
 ·exact zaw
theorem zEle_ok:SQ mx pb 78 ocFL:=by
 refine so (cc:=true) Γz3_ok Tryz.func78 (fun x=>zh x.1) (fun _=>rfl) (fun x=>zh x.2.2) ?_;rintro ⟨⟨db,s,k,bad⟩,⟨L,b⟩,q⟩ ⟨hp,hr⟩
 replace hr:zaa ⟨db,s,k,bad⟩=((L,b),q):=hr;have okx:OkF ⟨db,s,k,bad⟩:=hp.xk;obtain ⟨h1,h2,h3⟩:=id hp;replace h1:SmD db:=h1;replace h2:k<=s.size+1:=h2;replace h3:s.size<=990:=h3;unfold zaa at hr;cases bad
 ·rw[if_neg (show ¬(⟨db,s,k,false⟩:FSt).bad=true from fun h=>Bool.noConfusion h)] at hr;refine gw ?_;cases hlb:nxB ⟨db,s,k,false⟩ lbS
  ·refine ⟨((⟨⟨db,s,k,false⟩,okx⟩,lbS):FX × ByteArray),obE (zh _),eL,(by show (lbS:ByteArray).size<=100;decide),?_⟩
   rw[show ocFN.res ((⟨⟨db,s,k,false⟩,okx⟩,lbS):FX × ByteArray)=.inl (.v (.bool false)) from congrArg (fun b=>Sum.inl (D.v (.bool b))) (by first|assumption|simpa using ‹_›)];refine gw ?_;cases hcl:nxB ⟨db,s,k,false⟩ zcf
   ·refine ⟨((⟨⟨db,s,k,false⟩,okx⟩,zcf):FX × ByteArray),obE (zh _),eL,(by show (zcf:ByteArray).size<=100;decide),?_⟩
    rw[show ocFN.res ((⟨⟨db,s,k,false⟩,okx⟩,zcf):FX × ByteArray)=.inl (.v (.bool false)) from congrArg (fun b=>Sum.inl (D.v (.bool b))) (by first|assumption|simpa using ‹_›)];rw[if_pos ⟨hlb,hcl⟩] at hr;obtain ⟨c,q1,hc⟩:∃ c q1,vf ⟨db,s,k,false⟩=(c,q1):=⟨_,_,rfl⟩
    rw[hc] at hr;unfold eleC at hr;refine gw ?_;refine ⟨((⟨⟨db,s,k,false⟩,okx⟩,c,q1):FX × Int × FSt),obE (zh _),eL,hc,?_⟩
    clear hc;simp only[nq,zG,zW,nr,ns,Nat.reduceAdd,reduceIte];by_cases c0:c<0
    ·rw[if_pos (.inl c0)] at hr;obtain ⟨hr1,rfl⟩:=Prod.mk.inj hr;obtain ⟨rfl,rfl⟩:=Prod.mk.inj hr1
     repeat' first|refine gw ?_|refine bs ?_ ?_<;>intro q_
     all_goals first|(exfalso;omega)|exact And.intro (EntR.of rfl (Ent.tu2 (Ent.ag (EntL.cons Ent.nil eL)) eE)) (And.intro rfl (obE (zh q1)))
    ·obtain ⟨qd,qs,qk,qb⟩:=q1;cases qb
     ·rw[if_neg (fun h=>h.elim c0 fun h=>Bool.noConfusion h)] at hr;obtain ⟨hr1,rfl⟩:=Prod.mk.inj hr;obtain ⟨rfl,rfl⟩:=Prod.mk.inj hr1
      repeat' first|refine gw ?_|refine bs ?_ ?_<;>intro q_
      all_goals first|(exfalso;omega)|skip
      refine ⟨[(c,c)],EntL.cons (ue rfl rfl) (EntL.refl []),(by show 1<=10000;decide),?_⟩
      refine gw ?_;exact And.intro (EntR.of rfl (Ent.tu2 eE eE)) (And.intro rfl (obE (zh ⟨qd,qs,qk,false⟩)))
     ·rw[if_pos (.inr rfl)] at hr;obtain ⟨hr1,rfl⟩:=Prod.mk.inj hr;obtain ⟨rfl,rfl⟩:=Prod.mk.inj hr1
      repeat' first|refine gw ?_|refine bs ?_ ?_<;>intro q_
      all_goals first|(exfalso;omega)|exact And.intro (EntR.of rfl (Ent.tu2 (Ent.ag (EntL.cons Ent.nil eL)) eE)) (And.intro rfl (obE (zh ⟨qd,qs,qk,true⟩)))
   ·refine ⟨((⟨⟨db,s,k,false⟩,okx⟩,zcf):FX × ByteArray),obE (zh _),eL,(by show (zcf:ByteArray).size<=100;decide),?_⟩
    rw[show ocFN.res ((⟨⟨db,s,k,false⟩,okx⟩,zcf):FX × ByteArray)=.inl (.v (.bool true)) from congrArg (fun b=>Sum.inl (D.v (.bool b))) (by first|assumption|simpa using ‹_›)];rw[if_neg (fun h=>by rw[hcl] at h;exact Bool.noConfusion h.2),hcl] at hr;have hks:k<s.size:=by have:k+3<=s.size:=(zi1.1 hcl).2.1;omega
    refine gw ?_;refine ⟨((⟨⟨db,s,k,false⟩,okx⟩,zcf):FX × ByteArray),obE (zh _),eL,(by show (zcf:ByteArray).size<=100;decide),?_⟩
    rw[show ocFN.res ((⟨⟨db,s,k,false⟩,okx⟩,zcf):FX × ByteArray)=.inl (.v (.bool true)) from congrArg (fun b=>Sum.inl (D.v (.bool b))) (by first|assumption|simpa using ‹_›)];refine gw ?_;refine ⟨(⟨⟨db,s,k,false⟩,okx⟩:FX),obE (zh _),eL,trivial,?_⟩
    obtain ⟨L1,e1,a1,hg⟩:∃ L1 e1 a1,zcc db (zbj ⟨db,s,k,false⟩ true)=(L1,e1,a1):=⟨_,_,_,rfl⟩
    have ho:ctGp.out (db,zbj ⟨db,s,k,false⟩ true)=.tu [zR L1,.ag [.v (.int .i64 e1),.v (.int .i64 a1)]]:=by
     show D.tu [zR (zcc db (zbj ⟨db,s,k,false⟩ true)).1,.ag [.v (.int .i64 (zcc db (zbj ⟨db,s,k,false⟩ true)).2.1),.v (.int .i64 (zcc db (zbj ⟨db,s,k,false⟩ true)).2.2)]]=_;rw[hg]
    rw[hg] at hr;have hsz:(zbj ⟨db,s,k,false⟩ true).size<=1000:=zoj h3 _;have hkE:k<=min (enG s 0 k) s.size:=by
     have:=enG_lt (s:=s) (d:=0) hks;omega
    have hkS:min (enG s 0 k) s.size<=s.size:=Nat.min_le_right _ _;have hmE:zbj ⟨db,s,k,false⟩ true=yt (yt lbS (zN s k (min (enG s 0 k) s.size))) rbS:=rfl;unfold zkg at hr;dsimp only at hr;rw[hmE] at ho hsz;clear hg hmE;obtain ⟨m,hm⟩:∃ m,min (enG s 0 k) s.size=m:=⟨_,rfl⟩
    rw[hm] at hr ho hsz hkE hkS;rw[show ocFE.res (⟨⟨db,s,k,false⟩,okx⟩:FX)=.inl (.v (.int .i64 ((m:Nat):Int))) from by show Sum.inl (D.v (.int .i64 ((min (enG s 0 k) s.size:Nat):Int)))=_;rw[hm]];simp only[nq,zG,zW,nr,ns,Nat.reduceAdd,reduceIte]
    repeat' first|refine gw ?_|refine bs ?_ ?_<;>intro q_
    all_goals first|(exfalso;omega)|skip
    have hz1:=cat_sz (yt lbS (zN s k m)) rbS;have hz2:=cat_sz lbS (zN s k m)
    have hz3:lbS.size=1:=rfl;have hz4:rbS.size=1:=rfl;refine ⟨(by show lbS.size+(zN s k m).size<=9223372036854775807;omega),(by show (yt lbS (zN s k m)).size+rbS.size<=9223372036854775807;omega),?_⟩
    refine gw ?_;refine ⟨((db,yt (yt lbS (zN s k m)) rbS):Db × ByteArray),eL,⟨h1,hsz⟩,?_⟩
    rw[ho];simp only[nq,zG,zW,nr,ns,Nat.reduceAdd,reduceIte];by_cases he:e1=0
    ·rw[if_pos he] at hr;subst he;obtain ⟨hr1,rfl⟩:=Prod.mk.inj hr;obtain ⟨rfl,rfl⟩:=Prod.mk.inj hr1
     repeat' first|refine gx ?_|refine bs ?_ ?_<;>intro q_
     all_goals first|(exfalso;omega)|skip
     refine .inr ⟨.stage [0,1,2,3,4,5] (.alt 6 [1,2,3,4,5] (.done [7]) .nil),by decide +kernel,?_⟩
     refine xs1 ?_
     repeat' first|refine gx ?_|refine gy ?_|refine xc1 ?_ ?_|refine xs4 ?_ ?_|exact rfl
     all_goals exact And.intro (EntR.of rfl (Ent.tu2 eE eE)) (And.intro rfl (obE (zh ⟨db,s,m,false⟩)))
    ·rw[if_neg he] at hr;have hx:(e1 != 0)=true:=by simpa using he
     obtain ⟨hr1,rfl⟩:=Prod.mk.inj hr;obtain ⟨rfl,rfl⟩:=Prod.mk.inj hr1
     repeat' first|refine gx ?_|refine bs ?_ ?_<;>intro q_
     all_goals first|(exfalso;omega)|skip
     refine .inr ⟨.stage [0,1,2,3,4,5] (.alt 6 [1,2,3,4,5] (.done [7]) .nil),by decide +kernel,?_⟩
     refine xs1 ?_
     repeat' first|refine gx ?_|refine gy ?_|refine xc1 ?_ ?_|refine xs4 ?_ ?_|exact rfl
     all_goals exact And.intro (EntR.of rfl (Ent.tu2 eE (Ent.of_eq (by show D.v (.bool (!(e1 != 0)))=D.v (.bool false);rw[hx];rfl)))) (And.intro rfl (obE (zh ⟨db,s,m,e1 != 0⟩) (by show fC ⟨db,s,m,e1 != 0⟩=fC ⟨db,s,m,true⟩;rw[hx])))
  ·refine ⟨((⟨⟨db,s,k,false⟩,okx⟩,lbS):FX × ByteArray),obE (zh _),eL,(by show (lbS:ByteArray).size<=100;decide),?_⟩
   rw[show ocFN.res ((⟨⟨db,s,k,false⟩,okx⟩,lbS):FX × ByteArray)=.inl (.v (.bool true)) from congrArg (fun b=>Sum.inl (D.v (.bool b))) (by first|assumption|simpa using ‹_›)];have hks:k<s.size:=(zea.1 hlb).2.1;have hcl:nxB ⟨db,s,k,false⟩ zcf=false:=by
    cases hh:nxB ⟨db,s,k,false⟩ zcf with
    | false=>rfl
    | true =>
     have a1:bAt s k=91:=(zea.1 hlb).2.2;have a2:bAt s k=92:=(zi1.1 hh).2.2.1;rw[a1] at a2;exact absurd a2 (by decide)
   rw[if_neg (fun h=>by rw[hlb] at h;exact Bool.noConfusion h.1),hcl] at hr;refine gw ?_;refine ⟨((⟨⟨db,s,k,false⟩,okx⟩,zcf):FX × ByteArray),obE (zh _),eL,(by show (zcf:ByteArray).size<=100;decide),?_⟩
   rw[show ocFN.res ((⟨⟨db,s,k,false⟩,okx⟩,zcf):FX × ByteArray)=.inl (.v (.bool false)) from congrArg (fun b=>Sum.inl (D.v (.bool b))) (by first|assumption|simpa using ‹_›)];refine gw ?_;refine ⟨(⟨⟨db,s,k,false⟩,okx⟩:FX),obE (zh _),eL,trivial,?_⟩
   obtain ⟨L1,e1,a1,hg⟩:∃ L1 e1 a1,zcc db (zbj ⟨db,s,k,false⟩ false)=(L1,e1,a1):=⟨_,_,_,rfl⟩
   have ho:ctGp.out (db,zbj ⟨db,s,k,false⟩ false)=.tu [zR L1,.ag [.v (.int .i64 e1),.v (.int .i64 a1)]]:=by
    show D.tu [zR (zcc db (zbj ⟨db,s,k,false⟩ false)).1,.ag [.v (.int .i64 (zcc db (zbj ⟨db,s,k,false⟩ false)).2.1),.v (.int .i64 (zcc db (zbj ⟨db,s,k,false⟩ false)).2.2)]]=_;rw[hg]
   rw[hg] at hr;have hsz:(zbj ⟨db,s,k,false⟩ false).size<=1000:=zoj h3 _;have hkE:k<=min (enG s 0 k) s.size:=by
    have:=enG_lt (s:=s) (d:=0) hks;omega
   have hkS:min (enG s 0 k) s.size<=s.size:=Nat.min_le_right _ _;have hmE:zbj ⟨db,s,k,false⟩ false=zN s k (min (enG s 0 k) s.size):=rfl;unfold zkg at hr;dsimp only at hr;rw[hmE] at ho hsz;clear hg hmE;obtain ⟨m,hm⟩:∃ m,min (enG s 0 k) s.size=m:=⟨_,rfl⟩
   rw[hm] at hr ho hsz hkE hkS;rw[show ocFE.res (⟨⟨db,s,k,false⟩,okx⟩:FX)=.inl (.v (.int .i64 ((m:Nat):Int))) from by show Sum.inl (D.v (.int .i64 ((min (enG s 0 k) s.size:Nat):Int)))=_;rw[hm]];simp only[nq,zG,zW,nr,ns,Nat.reduceAdd,reduceIte]
   repeat' first|refine gw ?_|refine bs ?_ ?_<;>intro q_
   all_goals first|(exfalso;omega)|skip
   refine ⟨((db,zN s k m):Db × ByteArray),eL,⟨h1,hsz⟩,?_⟩
   rw[ho];simp only[nq,zG,zW,nr,ns,Nat.reduceAdd,reduceIte];by_cases he:e1=0
   ·rw[if_pos he] at hr;subst he;obtain ⟨hr1,rfl⟩:=Prod.mk.inj hr;obtain ⟨rfl,rfl⟩:=Prod.mk.inj hr1
    repeat' first|refine gx ?_|refine bs ?_ ?_<;>intro q_
    all_goals first|(exfalso;omega)|skip
    refine .inr ⟨.stage [0,1,2,3,4,5] (.alt 6 [1,2,3,4,5] (.done [7]) .nil),by decide +kernel,?_⟩
    refine xs1 ?_
    repeat' first|refine gx ?_|refine gy ?_|refine xc1 ?_ ?_|refine xs4 ?_ ?_|exact rfl
    all_goals exact And.intro (EntR.of rfl (Ent.tu2 eE eE)) (And.intro rfl (obE (zh ⟨db,s,m,false⟩)))
   ·rw[if_neg he] at hr;have hx:(e1 != 0)=true:=by simpa using he
    obtain ⟨hr1,rfl⟩:=Prod.mk.inj hr;obtain ⟨rfl,rfl⟩:=Prod.mk.inj hr1
    repeat' first|refine gx ?_|refine bs ?_ ?_<;>intro q_
    all_goals first|(exfalso;omega)|skip
    refine .inr ⟨.stage [0,1,2,3,4,5] (.alt 6 [1,2,3,4,5] (.done [7]) .nil),by decide +kernel,?_⟩
    refine xs1 ?_
    repeat' first|refine gx ?_|refine gy ?_|refine xc1 ?_ ?_|refine xs4 ?_ ?_|exact rfl
    all_goals exact And.intro (EntR.of rfl (Ent.tu2 eE (Ent.of_eq (by show D.v (.bool (!(e1 != 0)))=D.v (.bool false);rw[hx];rfl)))) (And.intro rfl (obE (zh ⟨db,s,m,e1 != 0⟩) (by show fC ⟨db,s,m,e1 != 0⟩=fC ⟨db,s,m,true⟩;rw[hx])))
 ·rw[if_pos (show (⟨db,s,k,true⟩:FSt).bad=true from rfl)] at hr;obtain ⟨hr1,rfl⟩:=Prod.mk.inj hr;obtain ⟨rfl,rfl⟩:=Prod.mk.inj hr1
  repeat' first|refine gw ?_|refine bs ?_ ?_<;>intro q_
  all_goals first|(exfalso;omega)|exact And.intro (EntR.of rfl (Ent.tu2 (Ent.ag (EntL.cons Ent.nil eL)) eE)) (And.intro rfl (obE (zh ⟨db,s,k,true⟩)))
end Go.Proofs
