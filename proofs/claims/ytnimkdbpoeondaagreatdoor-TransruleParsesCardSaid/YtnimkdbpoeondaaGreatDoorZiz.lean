import Derived.Test.YtnimkdbpoeondaaGreatDoorZhz
set_option linter.all false
set_option maxHeartbeats 4000000
namespace Go.Proofs
open Go Go.Sx
variable {mx:Int}{pb:Bool}
def ctOrG:Ct:={ ι:=List Rg × List Rg,inp:=fun x=>[zR x.1,zR x.2],out:=fun x=>zR (zr x.1 x.2 1),pre:=fun x=>x.1.length<=10000/\x.2.length<=10000 }
noncomputable def Γrog:Ctx:=fun f=>match f with
 | 132=>some (.pure ctComb)
 | _=>none
theorem Γrog_ok:CK mx pb Γrog:=by
 intro f h hh;simp only[Γrog] at hh;split at hh<;>simp at hh<;>subst hh
 ·exact zoo
theorem rOrG_ok:SS mx pb 172 ctOrG:=by
 refine sb (cc:=true) Γrog_ok Tryz.func172 ?_;rintro ⟨(a:List Rg),(b:List Rg)⟩ ⟨(ha:a.length<=10000),(hb:b.length<=10000)⟩
 refine gA ?_;refine ⟨(a,b,1),eL,⟨ha,hb⟩,?_⟩
 refine gA ?_;exact eR
attribute [local irreducible] zbs zbi yf xD
noncomputable def Γgz:Ctx:=fun f=>match f with
 | 137=>some (.obj ocGo)
 | 166=>some (.obj ocGn)
 | 136=>some (.obj ocGf)
 | 134=>some (.obj ocGb)
 | 167=>some (.obj ocGw)
 | _=>none
theorem Γgz_ok:CK mx pb Γgz:=by
 intro f h hh;simp only[Γgz] at hh;split at hh<;>simp at hh<;>subst hh
 ·exact zlq
 ·exact zb1
 ·exact zb2
 ·exact zlu
 ·exact zhw
noncomputable def sGp (db:Db) (s:ByteArray) (d:Int) (neg:Bool) (q:Gz) (S:List Rg):St:=⟨[(0,.own 0 0),(1,.v (.int .i64 d)),(4,.own 1 0),(5,.v (.bool neg)),(6,.own 2 0)],[.cells 182 (gX db s q),.cells 31 [zke],.cells 31 [xE S]],[]⟩
theorem mlA:∀ i,i<1->([0,1,2]:List Nat)[i]?=some i:=fun i hi=>by
 have:i=0:=by omega
 subst this;rfl
theorem own_nilS {ρ:List Nat}:xP ρ (.cells 31 [zke]) (.cells 31 [xE []]):=⟨rfl,EntL.cons Ent.nil eL,rfl⟩
theorem zct {ρ:List Nat}{S:List Rg}:xP ρ (.cells 31 [xE S]) (.cells 31 [xE S]):=eZ
theorem gGr_0 (n:Nat) (hn:n=0):SQ mx pb 135 (ocGG n):=by
 refine so (cc:=true) Γgz_ok Tryz.func135 (fun x=>zg x.1.1 x.1.2.1 x.1.2.2) (fun _=>rfl) (fun x=>zg x.1.1 x.1.2.1 x.2.2.2) ?_;rintro ⟨⟨db,s,p⟩,d,L,q⟩ ⟨⟨hsm,hs,hk⟩,hd,hr⟩
 replace hsm:SmD db:=hsm;replace hs:s.size<=1000:=hs;replace hk:p.k<=s.size:=hk;replace hd:d=17 - n:=hd;have hd:d=17:=by omega
 subst hn;replace hr:(([]:List Rg),gFl p 13 p.k)=(L,q):=hr;obtain ⟨rfl,rfl⟩:=Prod.mk.inj hr;have he:¬(gFl p 13 p.k).e=0:=yq (by decide)
 have hk1:(gFl p 13 p.k).k<=s.size:=by rw[zn2];exact hk
 repeat' first|refine gw ?_|refine bs ?_ ?_<;>intro q_
 all_goals first|(exfalso;omega)|skip
 refine ⟨(((db,s,p),(13,(p.k:Int)),(),gFl p 13 p.k):GI × (Int × Int) × Unit × Gz),obE (zg db s p),eL,⟨⟨hsm,hs,hk⟩,trivial,rfl⟩,?_⟩
 generalize gFl p 13 p.k=p1 at he hk1 ⊢;have hw:∀ b:Int,b≠0->((),gWt s p1 b)=((),p1):=fun b hb=>by rw[zlp he hb]
 have hnx:ocGn.res ((db,s,p1):GI)=.inl (.v (.int .u8 0)):=by show Sum.inl (D.v (.int .u8 (gNx s p1)))=_;rw[gNx_e he]
 have hok:ocGo.res ((db,s,p1):GI)=.inl (.v (.bool false)):=by show Sum.inl (D.v (.bool (decide (p1.e=0))))=_;rw[decide_eq_false he]
 refine gw ?_;refine ⟨(((db,s,p1),91,(),p1):GI × Int × Unit × Gz),obE (zg db s p1),eL,⟨⟨hsm,hs,hk1⟩,(by show (0:Int)<91/\(91:Int)<=255;decide),hw 91 (by decide)⟩,?_⟩
 refine gw ?_;refine ⟨(((db,s,p1),(),(),p1):GI × Unit × Unit × Gz),obE (zg db s p1),eL,⟨⟨hsm,hs,hk1⟩,trivial,(by show ((),gBl s p1)=((),p1);rw[zn4 he])⟩,?_⟩
 refine gw ?_;refine ⟨((db,s,p1):GI),obE (zg db s p1),eL,hs,?_⟩
 rw[hnx];refine gw ?_;refine ⟨0,Unit,fun _=>sGp db s d false p1 [],fun _=>True,fun _=>0,fun _=>(by show 1<=3;decide),⟨(),trivial,zq [0,1,2] tmS ⟨zak (zg db s p1),yS,own_nilS,trivial⟩ (by decide) mlA (by simp)⟩,?_⟩
 rintro ⟨⟩ _;dsimp only;unfold sGp;refine gw ?_;refine ⟨((db,s,p1):GI),obE (zg db s p1),eL,trivial,?_⟩
 rw[hok]
 repeat' first|refine gw ?_|refine bs ?_ ?_<;>intro q_
 all_goals first|(exfalso;omega)|skip
 refine ⟨(((db,s,p1),93,(),p1):GI × Int × Unit × Gz),obE (zg db s p1),eL,⟨⟨hsm,hs,hk1⟩,(by show (0:Int)<93/\(93:Int)<=255;decide),hw 93 (by decide)⟩,?_⟩
 refine gw ?_;exact And.intro (zd rfl rfl) (And.intro rfl (obE (zg db s p1)))
noncomputable def Γgy (mx:Int) (pb:Bool) (n:Nat):Ctx:=fun f=>match f with
 | 137=>some (.obj ocGo)
 | 166=>some (.obj ocGn)
 | 136=>some (.obj ocGf)
 | 134=>some (.obj ocGb)
 | 167=>some (.obj ocGw)
 | 171=>some (.obj ocGl)
 | 173=>some (.obj ocGp)
 | 169=>some (.obj (ocGO n))
 | 168=>some (.pure ctAndS)
 | 170=>some (.pure ctMns)
 | 172=>some (.pure ctOrG)
 | 174=>some (.pure ctNotS)
 | _=>none
theorem Γgy_ok {n:Nat}(hO:SQ mx pb 169 (ocGO n)):CK mx pb (Γgy mx pb n):=by
 intro f h hh;simp only[Γgy] at hh;split at hh<;>simp at hh<;>subst hh
 ·exact zlq
 ·exact zb1
 ·exact zb2
 ·exact zlu
 ·exact zhw
 ·exact gCl_ok
 ·exact gPr_ok
 ·exact hO
 ·exact rAnd_ok
 ·exact rMns_ok
 ·exact rOrG_ok
 ·exact rNotS_ok
end Go.Proofs
namespace Go.Proofs
open Go Go.Sx
variable {mx:Int}{pb:Bool}
attribute [local irreducible] zbs zbi yf xD
theorem gLoop_ok {n:Nat}(hn:n<=16) (hO:SQ mx pb 169 (ocGO n)):SQ mx pb 135 (ocGG (n+1)):=by
 refine so (cc:=true) (Γgy_ok hO) Tryz.func135 (fun x=>zg x.1.1 x.1.2.1 x.1.2.2) (fun _=>rfl) (fun x=>zg x.1.1 x.1.2.1 x.2.2.2) ?_;rintro ⟨⟨db,s,p⟩,d,L,q⟩ ⟨⟨hsm,hs,hk⟩,hd,hr⟩
 replace hsm:SmD db:=hsm;replace hs:s.size<=1000:=hs;replace hk:p.k<=s.size:=hk;replace hd:d=17 - ((n+1:Nat):Int):=hd;replace hr:gBd db s (gGr db s n) (gBl s (gWt s p 91))=(L,q):=hr;have hz:=gBd_at (s:=s) hk;have k1:=(zg0 (s:=s) (p:=p) (b:=91) (by decide) hk).2;generalize hp1:gWt s p 91=p1 at hr hz k1;have k2:=(zlv k1).2;generalize hp2:gBl s p1=p2 at hr hz k2
 repeat' first|refine gw ?_|refine bs ?_ ?_<;>intro q_
 all_goals first|(exfalso;omega)|skip
 refine ⟨(((db,s,p),91,(),p1):GI × Int × Unit × Gz),obE (zg db s (p)),eL,⟨⟨hsm,hs,hk⟩,(by show (0:Int)<91/\(91:Int)<=255;decide),(by show ((),gWt s (p) 91)=((),p1);rw[hp1])⟩,?_⟩
 clear hp1;refine gw ?_;refine ⟨(((db,s,p1),(),(),p2):GI × Unit × Unit × Gz),obE (zg db s p1),eL,⟨⟨hsm,hs,k1⟩,trivial,(by show ((),gBl s p1)=((),p2);rw[hp2])⟩,?_⟩
 clear hp2;refine gw ?_;refine ⟨((db,s,p2):GI),obE (zg db s (p2)),eL,hs,?_⟩
 unfold gBd at hr;by_cases h94:gNx s p2=94
 case' pos =>
  rw[if_pos h94] at hr;obtain ⟨_,e1,_⟩:=uX h94 (by decide)
  have hz3:GAt s p (gBl s (gAd p2)) []:=by
   have h7:=GM.ad (s:=s) (p:=p2) (by rw[h94];decide)
   have h8:=h7.trans (GM.bl h7.hi)
   have:=h8.lo;exact ⟨hz.mv.trans h8,fun e=>by have:=hz.l0 (h8.st e);omega,by have:=hz.l1;omega⟩
  repeat' first|refine gw ?_|refine bs ?_ ?_<;>intro q_
  all_goals first|(exfalso;omega)|skip
  refine ⟨(((db,s,gAd p2),(),(),gBl s (gAd p2)):GI × Unit × Unit × Gz),obE (zg db s (gAd p2)),eL,⟨⟨hsm,hs,e1⟩,trivial,rfl⟩,?_⟩
  generalize gBl s (gAd p2)=p3 at hr hz3 ⊢;refine gw ?_;obtain ⟨S9,q9,h9⟩:∃ S9 q9,gLp db s (gGr db s n) (p3) []=(S9,q9):=⟨_,_,rfl⟩
  rw[h9] at hr
 case' neg =>
  rw[if_neg h94] at hr
  repeat' first|refine gw ?_|refine bs ?_ ?_<;>intro q_
  all_goals first|(exfalso;omega)|skip
  have hz3:=hz;obtain ⟨S9,q9,h9⟩:∃ S9 q9,gLp db s (gGr db s n) (p2) []=(S9,q9):=⟨_,_,rfl⟩
  rw[h9] at hr
 all_goals
  refine ⟨0,Gz × List Rg,fun|(q1,S)=>sGp db s d (gNx s p2==94) q1 S,fun|(q1,S)=>GAt s p q1 S/\gLp db s (gGr db s n) q1 S=(S9,q9),fun x=>gMu s x.1,fun _=>(by show 1<=3;decide),⟨(_,[]),⟨hz3,h9⟩,zq [0,1,2] tmS ⟨zak (zg db s _),yS,own_nilS,trivial⟩ (by decide) mlA (by simp)⟩,?_⟩
  clear h9;rintro ⟨q1,S⟩ ⟨(hat:GAt s p q1 S),(hrun:gLp db s (gGr db s n) q1 S=(S9,q9))⟩
  dsimp only;unfold sGp;have hq1:=hat.mv.hi;by_cases hc:q1.e=0/\¬gNx s q1=93
  ·obtain ⟨he,h93⟩:=hc;have hb:=zlr s q1;refine gw ?_;refine ⟨((db,s,q1):GI),obE (zg db s q1),eL,trivial,?_⟩
   repeat' first|refine gw ?_|refine bs ?_ ?_<;>intro q_
   all_goals first|(exfalso;omega)|skip
   refine ⟨((db,s,q1):GI),obE (zg db s q1),eL,hs,?_⟩
   repeat' first|refine gw ?_|refine bs ?_ ?_<;>intro q_
   all_goals first|(exfalso;omega)|skip
   refine ⟨((db,s,q1):GI),obE (zg db s q1),eL,hs,?_⟩
   by_cases h38:gNx s q1=38
   ·obtain ⟨_,e1,_⟩:=uX h38 (by decide)
    have hgst:gSt db s (gGr db s n) q1 S=(zr S (gOp db s (gGr db s n) (gAd q1)).1 2,(gOp db s (gGr db s n) (gAd q1)).2):=by
     unfold gSt;rw[if_pos h38]
    have hgr:GR s (gAd q1) (gOp db s (gGr db s n) (gAd q1)):=znz hsm (uw hsm n) (p:=gAd q1) e1;obtain ⟨L1,q2,hop⟩:∃ L1 q2,gOp db s (gGr db s n) (gAd q1)=(L1,q2):=⟨_,_,rfl⟩
    have hmv:=hgr.mv.hi;have hL1:=hgr.bound hs;rw[hop] at hgst hmv hL1;dsimp only at hgst hmv hL1;have hnx:=zls hsm (uw hsm n) hat ⟨he,h93⟩
    have hat2:=(zfx hsm (uw hsm n) hat he).1.bl;have hmu:=zfy hsm (uw hsm n) hat he;rw[hgst] at hnx hat2 hmu;dsimp only at hnx hat2 hmu;have hS6:=hat.bound hs
    repeat' first|refine gx ?_|refine bs ?_ ?_<;>intro q_
    all_goals first|(exfalso;omega)|skip
    refine .inr ⟨.stage [0,1,2,3] (.alt 4 [0] (.stage [5] (.alt 6 [] (.done []) .nil)) .nil),by decide +kernel,?_⟩
    refine xs1 ?_
    repeat' first|refine gx ?_|refine gy ?_|refine xc1 ?_ ?_|refine xs4 ?_ ?_|exact rfl
    refine ⟨(((db,s,gAd q1),d+1,L1,q2):GI × Int × List Rg × Gz),obE (zg db s (gAd q1)),eL,⟨⟨hsm,hs,e1⟩,(by show d+1=17 - (n:Int);omega),hop⟩,?_⟩
    have pz:ctAndS.pre (S,L1):=⟨by show S.length<=10000;omega,by show L1.length<=10000;omega⟩
    try simp only[zj,xb,zG,zW,nr,ns,Nat.reduceAdd,Nat.zero_add,reduceIte]
    repeat' first|refine gx ?_|refine gy ?_|refine xc1 ?_ ?_|refine xs4 ?_ ?_|exact rfl
    all_goals (try refine ⟨((S,L1):List Rg × List Rg),eL,fun _=>pz,?_⟩)
    try simp only[zj,xb,zG,zW,nr,ns,Nat.reduceAdd,Nat.zero_add,reduceIte]
    repeat' first|refine gx ?_|refine gy ?_|refine xc1 ?_ ?_|refine xs4 ?_ ?_|exact rfl
    repeat' first|refine gw ?_|refine bs ?_ ?_<;>intro q_
    refine ⟨(((db,s,q2),(),(),gBl s q2):GI × Unit × Unit × Gz),obE (zg db s q2),eL,⟨⟨hsm,hs,hmv⟩,trivial,rfl⟩,?_⟩
    try simp only[zj,xb,zG,zW,nr,ns,Nat.reduceAdd,Nat.zero_add,reduceIte]
    refine gw ?_;exact ⟨(gBl s q2,zr S L1 2),⟨hat2,hnx.symm.trans hrun⟩,hmu,zq [0,1,2] tmS ⟨zak (zg db s (gBl s q2)),yS,zct,trivial⟩ (by decide) mlA (by simp)⟩
   ·by_cases h45:gNx s q1=45
    ·obtain ⟨_,e1,_⟩:=uX h45 (by decide)
     have hw1:=(zg0 (s:=s) (p:=gAd q1) (b:=45) (by decide) e1).2
     repeat' first|refine gw ?_|refine bs ?_ ?_<;>intro q_
     all_goals first|(exfalso;omega)|skip
     refine ⟨((db,s,q1):GI),obE (zg db s q1),eL,hs,?_⟩
     repeat' first|refine gw ?_|refine bs ?_ ?_<;>intro q_
     all_goals first|(exfalso;omega)|skip
     refine ⟨(((db,s,gAd q1),45,(),gWt s (gAd q1) 45):GI × Int × Unit × Gz),obE (zg db s (gAd q1)),eL,⟨⟨hsm,hs,e1⟩,(by show (0:Int)<45/\(45:Int)<=255;decide),rfl⟩,?_⟩
     have hgst:gSt db s (gGr db s n) q1 S=(zr S (gOp db s (gGr db s n) (gWt s (gAd q1) 45)).1 3,(gOp db s (gGr db s n) (gWt s (gAd q1) 45)).2):=by
      unfold gSt;rw[if_neg h38,if_pos h45]
     have hgr:GR s (gWt s (gAd q1) 45) (gOp db s (gGr db s n) (gWt s (gAd q1) 45)):=znz hsm (uw hsm n) (p:=gWt s (gAd q1) 45) hw1;obtain ⟨L1,q2,hop⟩:∃ L1 q2,gOp db s (gGr db s n) (gWt s (gAd q1) 45)=(L1,q2):=⟨_,_,rfl⟩
     have hmv:=hgr.mv.hi;have hL1:=hgr.bound hs;rw[hop] at hgst hmv hL1;dsimp only at hgst hmv hL1;have hnx:=zls hsm (uw hsm n) hat ⟨he,h93⟩
     have hat2:=(zfx hsm (uw hsm n) hat he).1.bl;have hmu:=zfy hsm (uw hsm n) hat he;rw[hgst] at hnx hat2 hmu;dsimp only at hnx hat2 hmu;have hS6:=hat.bound hs
     repeat' first|refine gx ?_|refine bs ?_ ?_<;>intro q_
     all_goals first|(exfalso;omega)|skip
     refine .inr ⟨.stage [0,1,2,3] (.alt 4 [0] (.stage [5] (.alt 6 [] (.done []) .nil)) .nil),by decide +kernel,?_⟩
     refine xs1 ?_
     repeat' first|refine gx ?_|refine gy ?_|refine xc1 ?_ ?_|refine xs4 ?_ ?_|exact rfl
     refine ⟨(((db,s,gWt s (gAd q1) 45),d+1,L1,q2):GI × Int × List Rg × Gz),obE (zg db s (gWt s (gAd q1) 45)),eL,⟨⟨hsm,hs,hw1⟩,(by show d+1=17 - (n:Int);omega),hop⟩,?_⟩
     have pz:ctMns.pre (S,L1):=⟨by show S.length<=10000;omega,by show L1.length<=10000;omega⟩
     try simp only[zj,xb,zG,zW,nr,ns,Nat.reduceAdd,Nat.zero_add,reduceIte]
     repeat' first|refine gx ?_|refine gy ?_|refine xc1 ?_ ?_|refine xs4 ?_ ?_|exact rfl
     all_goals (try refine ⟨((S,L1):List Rg × List Rg),eL,fun _=>pz,?_⟩)
     try simp only[zj,xb,zG,zW,nr,ns,Nat.reduceAdd,Nat.zero_add,reduceIte]
     repeat' first|refine gx ?_|refine gy ?_|refine xc1 ?_ ?_|refine xs4 ?_ ?_|exact rfl
     repeat' first|refine gw ?_|refine bs ?_ ?_<;>intro q_
     refine ⟨(((db,s,q2),(),(),gBl s q2):GI × Unit × Unit × Gz),obE (zg db s q2),eL,⟨⟨hsm,hs,hmv⟩,trivial,rfl⟩,?_⟩
     try simp only[zj,xb,zG,zW,nr,ns,Nat.reduceAdd,Nat.zero_add,reduceIte]
     refine gw ?_;exact ⟨(gBl s q2,zr S L1 3),⟨hat2,hnx.symm.trans hrun⟩,hmu,zq [0,1,2] tmS ⟨zak (zg db s (gBl s q2)),yS,zct,trivial⟩ (by decide) mlA (by simp)⟩
    ·repeat' first|refine gw ?_|refine bs ?_ ?_<;>intro q_
     all_goals first|(exfalso;omega)|skip
     refine ⟨((db,s,q1):GI),obE (zg db s q1),eL,hs,?_⟩
     repeat' first|refine gw ?_|refine bs ?_ ?_<;>intro q_
     all_goals first|(exfalso;omega)|skip
     refine ⟨((db,s,q1):GI),obE (zg db s q1),eL,hs,?_⟩
     by_cases h91:gNx s q1=91
     ·simp only[nq,zG,zW,nr,ns,Nat.reduceAdd,reduceIte];have hgst:gSt db s (gGr db s n) q1 S=(zr S (gOp db s (gGr db s n) (q1)).1 1,(gOp db s (gGr db s n) (q1)).2):=by
       unfold gSt;rw[if_neg h38,if_neg h45,if_pos (.inl h91)]
      have hgr:GR s (q1) (gOp db s (gGr db s n) (q1)):=znz hsm (uw hsm n) (p:=q1) hq1;obtain ⟨L1,q2,hop⟩:∃ L1 q2,gOp db s (gGr db s n) (q1)=(L1,q2):=⟨_,_,rfl⟩
      have hmv:=hgr.mv.hi;have hL1:=hgr.bound hs;rw[hop] at hgst hmv hL1;dsimp only at hgst hmv hL1;have hnx:=zls hsm (uw hsm n) hat ⟨he,h93⟩
      have hat2:=(zfx hsm (uw hsm n) hat he).1.bl;have hmu:=zfy hsm (uw hsm n) hat he;rw[hgst] at hnx hat2 hmu;dsimp only at hnx hat2 hmu;have hS6:=hat.bound hs
      repeat' first|refine gx ?_|refine bs ?_ ?_<;>intro q_
      all_goals first|(exfalso;omega)|skip
      refine .inr ⟨.stage [0,1,2,3] (.alt 4 [0] (.stage [5] (.alt 6 [] (.done []) .nil)) .nil),by decide +kernel,?_⟩
      refine xs1 ?_
      repeat' first|refine gx ?_|refine gy ?_|refine xc1 ?_ ?_|refine xs4 ?_ ?_|exact rfl
      refine ⟨(((db,s,q1),d+1,L1,q2):GI × Int × List Rg × Gz),obE (zg db s (q1)),eL,⟨⟨hsm,hs,hq1⟩,(by show d+1=17 - (n:Int);omega),hop⟩,?_⟩
      have pz:ctOrG.pre (S,L1):=⟨by show S.length<=10000;omega,by show L1.length<=10000;omega⟩
      try simp only[zj,xb,zG,zW,nr,ns,Nat.reduceAdd,Nat.zero_add,reduceIte]
      repeat' first|refine gx ?_|refine gy ?_|refine xc1 ?_ ?_|refine xs4 ?_ ?_|exact rfl
      all_goals (try refine ⟨((S,L1):List Rg × List Rg),eL,fun _=>pz,?_⟩)
      try simp only[zj,xb,zG,zW,nr,ns,Nat.reduceAdd,Nat.zero_add,reduceIte]
      repeat' first|refine gx ?_|refine gy ?_|refine xc1 ?_ ?_|refine xs4 ?_ ?_|exact rfl
      repeat' first|refine gw ?_|refine bs ?_ ?_<;>intro q_
      refine ⟨(((db,s,q2),(),(),gBl s q2):GI × Unit × Unit × Gz),obE (zg db s q2),eL,⟨⟨hsm,hs,hmv⟩,trivial,rfl⟩,?_⟩
      try simp only[zj,xb,zG,zW,nr,ns,Nat.reduceAdd,Nat.zero_add,reduceIte]
      refine gw ?_;exact ⟨(gBl s q2,zr S L1 1),⟨hat2,hnx.symm.trans hrun⟩,hmu,zq [0,1,2] tmS ⟨zak (zg db s (gBl s q2)),yS,zct,trivial⟩ (by decide) mlA (by simp)⟩
     ·repeat' first|refine gw ?_|refine bs ?_ ?_<;>intro q_
      all_goals first|(exfalso;omega)|skip
      refine ⟨((db,s,q1):GI),obE (zg db s q1),eL,⟨hs,hq1⟩,?_⟩
      cases hcl:gCl s q1
      ·have ho:ocGl.res ((db,s,q1):GI)=.inl (.v (.bool false)):=congrArg (fun x=>Sum.inl (D.v (.bool x))) hcl;rw[ho];have hgst:gSt db s (gGr db s n) q1 S=(zr S (gPr s q1).1 1,(gPr s q1).2):=by
        unfold gSt;rw[if_neg h38,if_neg h45,if_neg fun h=>h.elim h91 fun h=>by rw[hcl] at h;exact Bool.noConfusion h]
       have hgr:GR s (q1) (gPr s q1):=GR.pr (s:=s) (p:=q1) hq1;obtain ⟨L1,q2,hop⟩:∃ L1 q2,gPr s q1=(L1,q2):=⟨_,_,rfl⟩
       have hmv:=hgr.mv.hi;have hL1:=hgr.bound hs;rw[hop] at hgst hmv hL1;dsimp only at hgst hmv hL1;have hnx:=zls hsm (uw hsm n) hat ⟨he,h93⟩
       have hat2:=(zfx hsm (uw hsm n) hat he).1.bl;have hmu:=zfy hsm (uw hsm n) hat he;rw[hgst] at hnx hat2 hmu;dsimp only at hnx hat2 hmu;have hS6:=hat.bound hs
       repeat' first|refine gx ?_|refine bs ?_ ?_<;>intro q_
       all_goals first|(exfalso;omega)|skip
       refine .inr ⟨.stage [0,1] (.alt 2 [0] (.stage [3] (.alt 4 [] (.done []) .nil)) .nil),by decide +kernel,?_⟩
       refine xs1 ?_
       repeat' first|refine gx ?_|refine gy ?_|refine xc1 ?_ ?_|refine xs4 ?_ ?_|exact rfl
       refine ⟨(((db,s,q1),(),L1,q2):GI × Unit × List Rg × Gz),obE (zg db s (q1)),eL,⟨⟨hsm,hs,hq1⟩,trivial,hop⟩,?_⟩
       have pz:ctOrG.pre (S,L1):=⟨by show S.length<=10000;omega,by show L1.length<=10000;omega⟩
       try simp only[zj,xb,zG,zW,nr,ns,Nat.reduceAdd,Nat.zero_add,reduceIte]
       repeat' first|refine gx ?_|refine gy ?_|refine xc1 ?_ ?_|refine xs4 ?_ ?_|exact rfl
       all_goals (try refine ⟨((S,L1):List Rg × List Rg),eL,fun _=>pz,?_⟩)
       try simp only[zj,xb,zG,zW,nr,ns,Nat.reduceAdd,Nat.zero_add,reduceIte]
       repeat' first|refine gx ?_|refine gy ?_|refine xc1 ?_ ?_|refine xs4 ?_ ?_|exact rfl
       repeat' first|refine gw ?_|refine bs ?_ ?_<;>intro q_
       refine ⟨(((db,s,q2),(),(),gBl s q2):GI × Unit × Unit × Gz),obE (zg db s q2),eL,⟨⟨hsm,hs,hmv⟩,trivial,rfl⟩,?_⟩
       try simp only[zj,xb,zG,zW,nr,ns,Nat.reduceAdd,Nat.zero_add,reduceIte]
       refine gw ?_;exact ⟨(gBl s q2,zr S L1 1),⟨hat2,hnx.symm.trans hrun⟩,hmu,zq [0,1,2] tmS ⟨zak (zg db s (gBl s q2)),yS,zct,trivial⟩ (by decide) mlA (by simp)⟩
      ·have ho:ocGl.res ((db,s,q1):GI)=.inl (.v (.bool true)):=congrArg (fun x=>Sum.inl (D.v (.bool x))) hcl;rw[ho];have hgst:gSt db s (gGr db s n) q1 S=(zr S (gOp db s (gGr db s n) (q1)).1 1,(gOp db s (gGr db s n) (q1)).2):=by
        unfold gSt;rw[if_neg h38,if_neg h45,if_pos (.inr hcl)]
       have hgr:GR s (q1) (gOp db s (gGr db s n) (q1)):=znz hsm (uw hsm n) (p:=q1) hq1;obtain ⟨L1,q2,hop⟩:∃ L1 q2,gOp db s (gGr db s n) (q1)=(L1,q2):=⟨_,_,rfl⟩
       have hmv:=hgr.mv.hi;have hL1:=hgr.bound hs;rw[hop] at hgst hmv hL1;dsimp only at hgst hmv hL1;have hnx:=zls hsm (uw hsm n) hat ⟨he,h93⟩
       have hat2:=(zfx hsm (uw hsm n) hat he).1.bl;have hmu:=zfy hsm (uw hsm n) hat he;rw[hgst] at hnx hat2 hmu;dsimp only at hnx hat2 hmu;have hS6:=hat.bound hs
       repeat' first|refine gx ?_|refine bs ?_ ?_<;>intro q_
       all_goals first|(exfalso;omega)|skip
       refine .inr ⟨.stage [0,1,2,3] (.alt 4 [0] (.stage [5] (.alt 6 [] (.done []) .nil)) .nil),by decide +kernel,?_⟩
       refine xs1 ?_
       repeat' first|refine gx ?_|refine gy ?_|refine xc1 ?_ ?_|refine xs4 ?_ ?_|exact rfl
       refine ⟨(((db,s,q1),d+1,L1,q2):GI × Int × List Rg × Gz),obE (zg db s (q1)),eL,⟨⟨hsm,hs,hq1⟩,(by show d+1=17 - (n:Int);omega),hop⟩,?_⟩
       have pz:ctOrG.pre (S,L1):=⟨by show S.length<=10000;omega,by show L1.length<=10000;omega⟩
       try simp only[zj,xb,zG,zW,nr,ns,Nat.reduceAdd,Nat.zero_add,reduceIte]
       repeat' first|refine gx ?_|refine gy ?_|refine xc1 ?_ ?_|refine xs4 ?_ ?_|exact rfl
       all_goals (try refine ⟨((S,L1):List Rg × List Rg),eL,fun _=>pz,?_⟩)
       try simp only[zj,xb,zG,zW,nr,ns,Nat.reduceAdd,Nat.zero_add,reduceIte]
       repeat' first|refine gx ?_|refine gy ?_|refine xc1 ?_ ?_|refine xs4 ?_ ?_|exact rfl
       repeat' first|refine gw ?_|refine bs ?_ ?_<;>intro q_
       refine ⟨(((db,s,q2),(),(),gBl s q2):GI × Unit × Unit × Gz),obE (zg db s q2),eL,⟨⟨hsm,hs,hmv⟩,trivial,rfl⟩,?_⟩
       try simp only[zj,xb,zG,zW,nr,ns,Nat.reduceAdd,Nat.zero_add,reduceIte]
       refine gw ?_;exact ⟨(gBl s q2,zr S L1 1),⟨hat2,hnx.symm.trans hrun⟩,hmu,zq [0,1,2] tmS ⟨zak (zg db s (gBl s q2)),yS,zct,trivial⟩ (by decide) mlA (by simp)⟩
  ·have hen:=gLp_n (db:=db) (s:=s) (run:=gGr db s n) (S:=S) hc;rw[hen] at hrun;obtain ⟨rfl,rfl⟩:=Prod.mk.inj hrun;have hS6:=hat.bound hs;have hw2:gWt s q1 93=q:=congrArg Prod.snd hr;have hl2:=congrArg Prod.fst hr;have pn:ctNotS.pre S:=⟨⟨by omega,.inr (.inr trivial)⟩,by omega⟩
   by_cases he:q1.e=0
   ·have h93:gNx s q1=93:=Classical.byContradiction fun h=>hc ⟨he,h⟩
    refine gw ?_;refine ⟨((db,s,q1):GI),obE (zg db s q1),eL,trivial,?_⟩
    repeat' first|refine gw ?_|refine bs ?_ ?_<;>intro q_
    all_goals first|(exfalso;omega)|skip
    refine ⟨((db,s,q1):GI),obE (zg db s q1),eL,hs,?_⟩
    repeat' first|refine gw ?_|refine bs ?_ ?_<;>intro q_
    all_goals first|(exfalso;omega)|skip
    refine ⟨(((db,s,q1),93,(),q):GI × Int × Unit × Gz),obE (zg db s (q1)),eL,⟨⟨hsm,hs,hq1⟩,(by show (0:Int)<93/\(93:Int)<=255;decide),(by show ((),gWt s (q1) 93)=((),q);rw[hw2])⟩,?_⟩
    refine gw ?_;exact And.intro (zd (congrArg zR hl2) rfl) (And.intro rfl (obE (zg db s q)))
   ·refine gw ?_;refine ⟨((db,s,q1):GI),obE (zg db s q1),eL,trivial,?_⟩
    repeat' first|refine gw ?_|refine bs ?_ ?_<;>intro q_
    all_goals first|(exfalso;omega)|skip
    refine ⟨(((db,s,q1),93,(),q):GI × Int × Unit × Gz),obE (zg db s (q1)),eL,⟨⟨hsm,hs,hq1⟩,(by show (0:Int)<93/\(93:Int)<=255;decide),(by show ((),gWt s (q1) 93)=((),q);rw[hw2])⟩,?_⟩
    refine gw ?_;exact And.intro (zd (congrArg zR hl2) rfl) (And.intro rfl (obE (zg db s q)))
end Go.Proofs
