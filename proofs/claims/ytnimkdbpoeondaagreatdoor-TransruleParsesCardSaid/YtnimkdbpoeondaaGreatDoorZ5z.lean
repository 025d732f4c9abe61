import Derived.Test.YtnimkdbpoeondaaGreatDoorZvz
set_option linter.all false
set_option maxHeartbeats 4000000
namespace Go.Proofs
open Go Go.Sx
variable {mx:Int}{pb:Bool}
def bg9 (L:List (List Rg)):Prop:=L.length<=1000/\∀ i,i<L.length->(L.getD i default).length<=7000
def bgT9 (x:Tl):Prop:=bg9 x.bef/\bg9 x.mat/\bg9 x.aft/\x.res.length<=1000
def bgL9 (l:List Tl):Prop:=l.length<=1000/\∀ i,i<l.length->bgT9 (l.getD i default)
noncomputable def ctRgB:Ct:={ ctRgt with pre:=bg9 }
noncomputable def ctOnB:Ct:={ ctOneE with pre:=bgT9 }
def ctV9:Ct:={ ι:=List Rg,inp:=fun l=>[zR l],out:=fun l=>.v (.bool (decide (canon l=l))),pre:=fun l=>l.length<=7000 }
noncomputable def Γv9:Ctx:=fun f=>match f with
 | 107=>some (.pure ctMakeR)
 | 51=>some (.pure ctSameS)
 | _=>none
theorem Γv9_ok:CK mx pb Γv9:=by
 intro f h hh;simp only[Γv9] at hh;split at hh<;>simp at hh<;>subst hh
 ·exact zaw
 ·exact zfk
theorem rV9_ok:SS mx pb 111 ctV9:=by
 refine sb (cc:=true) Γv9_ok Tryz.func111 ?_;intro (l:List Rg) (hl:l.length<=7000)
 have p1:ctMakeR.pre l:=(by show l.length<=10000;omega)
 have hc:=zK l;have p2:ctSameS.pre (l,canon l):=⟨(by show l.length<=1000000;omega),(by show (canon l).length<=1000000;omega)⟩
 refine gl ?_;refine ze ?_;rw[decide_eq_decide];exact ⟨Eq.symm,Eq.symm⟩
noncomputable def Γv51:Ctx:=fun f=>match f with
 | 111=>some (.pure ctV9)
 | _=>none
theorem Γv51_ok:CK mx pb Γv51:=by
 intro f h hh;simp only[Γv51] at hh;split at hh<;>simp at hh<;>subst hh
 ·exact rV9_ok
theorem rRgB_ok:SS mx pb 80 ctRgB:=by
 refine sb (cc:=true) Γv51_ok Tryz.func80 ?_;intro (L:List (List Rg)) (hL:bg9 L)
 refine gl ?_;refine ⟨0,Nat,fun k=>⟨[(0,zb6 L),(3,.v (.int .i64 k))],[],[]⟩,fun k=>k<=L.length/\∀ j,j<k->okS (L.getD j default),fun k=>L.length - k,fun _=>Nat.zero_le _,⟨0,⟨Nat.zero_le _,fun j hj=>by omega⟩,StLe.ren [] tmS trivial (by decide)⟩,?_⟩
 rintro k ⟨hk,hd⟩
 by_cases hlt:k<L.length
 ·have p1:ctV9.pre (L.getD k default):=hL.2 k hlt;have h10:=hL.1
  repeat' first|refine gl ?_|refine bs ?_ ?_<;>intro q_
  ·exact ze (rgtB_f fun h=>(h k hlt).2 (by omega))
  ·exact ⟨k+1,⟨by omega,zo hd ⟨by assumption,by omega⟩⟩,(by show L.length - (k+1)<L.length - k;omega),StLe.ren [] tmS trivial (by decide)⟩
  ·exact ze (rgtB_f fun h=>q_ (h k hlt).1)
 ·refine gl ?_;exact ze (rgtB_t fun i hi=>hd i (by omega))
noncomputable def Γo51:Ctx:=fun f=>match f with
 | 80=>some (.pure ctRgB)
 | 81=>some (.pure ctValid)
 | _=>none
theorem Γo51_ok:CK mx pb Γo51:=by
 intro f h hh;simp only[Γo51] at hh;split at hh<;>simp at hh<;>subst hh
 ·exact rRgB_ok
 ·exact zcm
theorem rOnB_ok:SS mx pb 50 ctOnB:=by
 refine sb (cc:=true) Γo51_ok Tryz.func50 ?_;rintro (x:Tl) ⟨h1,h2,h3,h4⟩
 have b1:=h1.1;have b2:=h2.1;have b3:=h3.1;have p1:ctRgB.pre x.bef:=h1;have p2:ctRgB.pre x.mat:=h2;have p3:ctRgB.pre x.aft:=h3
 repeat' first|refine gl ?_|refine bs ?_ ?_<;>intro q_
 all_goals first
  | exact zf (zld fun h=>by unfold szT at h;omega).symm
  | exact zf (zfo (show szT x by unfold szT;omega) fun h=>by have e1:=zbc.2 h.1;have e2:=zbc.2 h.2.1;have e3:=zbc.2 h.2.2;simp_all).symm
  | skip
 have hz:szT x:=by unfold szT;omega
 have hs:zm7 x:=⟨zbc.1 (by assumption),zbc.1 (by assumption),zbc.1 (by assumption)⟩
 refine ⟨0,Nat,fun k=>⟨[(1,.own 0 0),(3,.v (.int .i64 k))],[.cells 59 [tlD x 0,tlD x 1,tlD x 2,tlD x 3]],[]⟩,fun k=>k<=x.res.length/\∀ j,j<k->pcOk x.mat.length (x.res.getD j default),fun k=>x.res.length - k,fun _=>Nat.zero_le _,⟨0,⟨Nat.zero_le _,fun j hj=>by omega⟩,(sr [0])⟩,?_⟩
 rintro k ⟨hk,hd⟩
 by_cases hlt:k<x.res.length
 ·repeat' first|refine gl ?_|refine bs ?_ ?_<;>intro q_
  all_goals first
   | exact zf (zhk hz hs fun h=>by
     have:=h k hlt;unfold pcOk at this;rcases this with ⟨e1,e2⟩|⟨e1,e2,e3⟩<;>first|omega|simp_all).symm
   | exact ⟨k+1,⟨by omega,zo hd (by unfold pcOk;first|exact .inl ⟨by assumption,by assumption⟩|exact .inr ⟨by assumption,by omega,by omega⟩)⟩,(by show x.res.length - (k+1)<x.res.length - k;omega),(sr [0])⟩
 ·refine gl ?_;exact zf (oneE_ok hz hs fun i hi=>hd i (by omega)).symm
noncomputable def Γk51:Ctx:=fun f=>match f with
 | 50=>some (.pure ctOnB)
 | _=>none
theorem Γk51_ok:CK mx pb Γk51:=by
 intro f h hh;simp only[Γk51] at hh;split at hh<;>simp at hh<;>subst hh
 ·exact rOnB_ok
theorem wnz {p q:Prop}(k:q) (h:p:=by simp only[zs,Int.toNat_natCast,Go.Sx.Src.len,bcat_size',lit_size,List.length_cons,List.length_nil];omega):p/\q:=⟨h,k⟩
attribute [local irreducible] zbs zbi yf xD
theorem ml03:∀ i,i<1->([0,3]:List Nat)[i]?=some i:=fun i hi=>by
 have:i=0:=by omega
 subst this;rfl
noncomputable def ocFS:Oc:=ocH (List (List Rg)) zb6 zec
noncomputable def Γz4 (mx:Int) (pb:Bool):Ctx:=fun f=>match f with
 | 22=>some (.obj ocFB)
 | 78=>some (.obj ocFL)
 | _=>none
theorem Γz4_ok:CK mx pb (Γz4 mx pb):=by
 intro f h hh;simp only[Γz4] at hh;split at hh<;>simp at hh<;>subst hh
 ·exact zBl_ok
 ·exact zEle_ok
structure EsIn (p0:FSt) (R:List (List Rg) × FSt) (f:Nat) (q:FSt) (L:List (List Rg)):Prop where
 ok:HOk q
 fuel:q.s.size+3<=f+q.k
 len:L.length<=q.k
 run:zoi f q L=R
def sEs (q:FSt) (L:List (List Rg)):St:=⟨[(0,.own 0 0),(3,.row 1)],[.cells 74 (fC q),zG 31 1 stD L],[]⟩
theorem zEls_ok:SQ mx pb 47 ocFS:=by
 refine so (cc:=true) Γz4_ok Tryz.func47 (fun x=>zh x.1) (fun _=>rfl) (fun x=>zh x.2.2) ?_;rintro ⟨p,L0,q0⟩ ⟨hp,hr⟩
 replace hr:zoi (p.s.size+3) p []=(L0,q0):=hr;replace hp:HOk p:=hp;refine gw ?_;refine ⟨0,Nat × FSt × List (List Rg),fun|(f,q,L)=>sEs q L,fun|(f,q,L)=>EsIn p (L0,q0) f q L,fun x=>x.1,fun _=>(by show 1<=2;decide),⟨(p.s.size+3,p,[]),⟨hp,by omega,Nat.zero_le _,hr⟩,StLe.trans (StLe.nilRow (t:=3) 31 1 (fun _ _=>.junk) rfl) (zq [0,1] tmS ⟨zak (zh p),yg,trivial⟩ (by decide) ml2 (by simp))⟩,?_⟩
 clear hr hp;rintro ⟨f,q,L⟩ hin;replace hin:EsIn p (L0,q0) f q L:=hin;obtain ⟨hq,hfu,hln,hrun⟩:=id hin;dsimp only;unfold sEs;obtain ⟨db,s,k,bad⟩:=q;have h2:k<=s.size+1:=hq.2.1;have h3:s.size<=990:=hq.2.2;replace hfu:s.size+3<=f+k:=hfu;replace hln:L.length<=k:=hln;cases f with
 | zero=>exact absurd hfu (by omega)
 | succ f =>
 rw[zoi] at hrun;cases bad
 ·rw[if_neg (show ¬(⟨db,s,k,false⟩:FSt).bad=true from fun h=>Bool.noConfusion h)] at hrun;obtain ⟨hb1,hb2⟩:=bl0_h hq;obtain ⟨he1,he2,he3,he4,he5⟩:=eleF_h hb1;obtain ⟨S,b,q1,he⟩:∃ S b q1,zaa (bl0 ⟨db,s,k,false⟩)=((S,b),q1):=⟨_,_,_,rfl⟩
  rw[he] at hrun he1 he2 he4 he5;dsimp only at hrun he1 he2 he4 he5
  repeat' first|refine gw ?_|refine bs ?_ ?_<;>intro q_
  all_goals first|(exfalso;omega)|skip
  refine ⟨(⟨⟨db,s,k,false⟩,hq.xk⟩:FX),obE (zh _),eL,trivial,?_⟩
  try simp only[zj,xb,zG,zW,nr,ns,Nat.reduceAdd,Nat.zero_add,reduceIte]
  refine gw ?_;refine ⟨((bl0 ⟨db,s,k,false⟩,(S,b),q1):FSt × (List Rg × Bool) × FSt),obE (zh _),eL,⟨hb1,he⟩,?_⟩
  try simp only[zj,xb,zG,zW,nr,ns,Nat.reduceAdd,Nat.zero_add,reduceIte]
  have hk1:k<=(bl0 ⟨db,s,k,false⟩).k:=hb2;have hs1:q1.s=s:=he2;cases b
  ·rw[if_neg (show ¬false=true from fun h=>Bool.noConfusion h)] at hrun;obtain ⟨rfl,rfl⟩:=Prod.mk.inj hrun
   repeat' first|refine gw ?_|refine bs ?_ ?_<;>intro q_
   all_goals first|(exfalso;omega)|exact And.intro (EntR.of rfl eE) (And.intro rfl (obE (zh q1)))
  ·rw[if_pos rfl] at hrun;have hk2:=he5 rfl
   repeat' first|refine gw ?_|refine bs ?_ ?_<;>intro q_
   all_goals try refine wnz (wnz ?_)
   all_goals repeat' first|refine gw ?_|refine bs ?_ ?_<;>intro q_
   all_goals first|(exfalso;omega)|exact ⟨(f,q1,L++[S]),⟨he1,(by show q1.s.size+3<=f+q1.k;rw[hs1];omega),(by rw[List.length_append];show L.length+1<=q1.k;omega),hrun⟩,(by show f<f+1;omega),zq [0,3] tmS ⟨zak (zh q1),zF (x:=S) (fun j hj=>match j,hj with|0,_=>eE),trivial⟩ (by decide) ml03 (by simp)⟩
 ·rw[if_pos (show (⟨db,s,k,true⟩:FSt).bad=true from rfl)] at hrun;obtain ⟨rfl,rfl⟩:=Prod.mk.inj hrun
  repeat' first|refine gw ?_|refine bs ?_ ?_<;>intro q_
  all_goals first|(exfalso;omega)|exact And.intro (EntR.of rfl eE) (And.intro rfl (obE (zh ⟨db,s,k,true⟩)))
end Go.Proofs
namespace Go.Proofs
open Go Go.Sx
variable {mx:Int}{pb:Bool}
attribute [local irreducible] zbs zbi yf xD
def ocFP:Oc:=ocH (List Rg) xE pcsR
noncomputable def Γz5:Ctx:=fun f=>match f with
 | 22=>some (.obj ocFB)
 | 48=>some (.obj ocFN)
 | 79=>some (.obj ocFC)
 | _=>none
theorem Γz5_ok:CK mx pb Γz5:=by
 intro f h hh;simp only[Γz5] at hh;split at hh<;>simp at hh<;>subst hh
 ·exact zBl_ok
 ·exact zNx_ok
 ·exact zCod_ok
structure PsIn (R:List Rg × FSt) (f:Nat) (q:FSt) (L:List Rg):Prop where
 ok:HOk q
 fuel:q.s.size+3<=f+q.k
 len:L.length<=q.k
 run:zbq f q L=R
def sPs (q:FSt) (L:List Rg):St:=⟨[(0,.own 0 0),(3,.row 1)],[.cells 74 (fC q),zG 61 2 rgD L],[]⟩
theorem zPcs_ok:SQ mx pb 49 ocFP:=by
 refine so (cc:=true) Γz5_ok Tryz.func49 (fun x=>zh x.1) (fun _=>rfl) (fun x=>zh x.2.2) ?_;rintro ⟨p,L0,q0⟩ ⟨hp,hr⟩
 replace hr:zbq (p.s.size+3) p []=(L0,q0):=hr;replace hp:HOk p:=hp;refine gw ?_;refine ⟨0,Nat × FSt × List Rg,fun|(f,q,L)=>sPs q L,fun|(f,q,L)=>PsIn (L0,q0) f q L,fun x=>x.1,fun _=>(by show 1<=2;decide),⟨(p.s.size+3,p,[]),⟨hp,by omega,Nat.zero_le _,hr⟩,StLe.trans (StLe.nilRow (t:=3) 61 2 (fun _ _=>.junk) rfl) (zq [0,1] tmS ⟨zak (zh p),yg,trivial⟩ (by decide) ml2 (by simp))⟩,?_⟩
 clear hr hp;rintro ⟨f,q,L⟩ hin;replace hin:PsIn (L0,q0) f q L:=hin;obtain ⟨hq,hfu,hln,hrun⟩:=id hin;dsimp only;unfold sPs;obtain ⟨db,s,k,bad⟩:=q;have h2:k<=s.size+1:=hq.2.1;have h3:s.size<=990:=hq.2.2;replace hfu:s.size+3<=f+k:=hfu;replace hln:L.length<=k:=hln;cases f with
 | zero=>exact absurd hfu (by omega)
 | succ f =>
 rw[zbq] at hrun;cases bad
 ·rw[if_neg (show ¬(⟨db,s,k,false⟩:FSt).bad=true from fun h=>Bool.noConfusion h)] at hrun;obtain ⟨hb1,hb2⟩:=bl0_h hq
  repeat' first|refine gw ?_|refine bs ?_ ?_<;>intro q_
  all_goals first|(exfalso;omega)|skip
  refine ⟨(⟨⟨db,s,k,false⟩,hq.xk⟩:FX),obE (zh _),eL,trivial,?_⟩
  try simp only[zj,xb,zG,zW,nr,ns,Nat.reduceAdd,Nat.zero_add,reduceIte]
  have e0:bl0 ⟨db,s,k,false⟩=⟨db,s,blk s k,false⟩:=rfl;rw[e0] at hrun hb1 hb2;replace hb2:k<=blk s k:=hb2;have hk1:blk s k<=s.size+1:=hb1.2.1;have okx:OkF ⟨db,s,blk s k,false⟩:=hb1.xk
  try simp only[zj,xb,zG,zW,nr,ns,Nat.reduceAdd,Nat.zero_add,reduceIte]
  repeat' first|refine gw ?_|refine bs ?_ ?_<;>intro q_
  all_goals first|(exfalso;omega)|skip
  cases hn:nxB ⟨db,s,blk s k,false⟩ dlT
  ·refine ⟨((⟨⟨db,s,blk s k,false⟩,okx⟩,dlT):FX × ByteArray),obE (zh _),eL,(by show dlT.size<=100;decide),?_⟩
   rw[show ocFN.res ((⟨⟨db,s,blk s k,false⟩,okx⟩,dlT):FX × ByteArray)=.inl (.v (.bool false)) from congrArg (fun b=>Sum.inl (D.v (.bool b))) hn];rw[if_neg (by rw[hn];exact fun h=>Bool.noConfusion h)] at hrun;obtain ⟨a1,a2,a3,a4,a5,a6⟩:=codF_h hb1;obtain ⟨c,q1,hc⟩:∃ c q1,vf ⟨db,s,blk s k,false⟩=(c,q1):=⟨_,_,rfl⟩
   rw[hc] at hrun a1 a2 a4 a6;dsimp only at hrun a1 a2 a4 a6
   try simp only[zj,xb,zG,zW,nr,ns,Nat.reduceAdd,Nat.zero_add,reduceIte]
   refine gw ?_;refine ⟨((⟨⟨db,s,blk s k,false⟩,okx⟩,c,q1):FX × Int × FSt),obE (zh _),eL,hc,?_⟩
   clear hc
   try simp only[zj,xb,zG,zW,nr,ns,Nat.reduceAdd,Nat.zero_add,reduceIte]
   by_cases c0:c<0
   ·rw[if_pos c0] at hrun;obtain ⟨rfl,rfl⟩:=Prod.mk.inj hrun
    repeat' first|refine gw ?_|refine bs ?_ ?_<;>intro q_
    all_goals first|(exfalso;omega)|exact And.intro (EntR.of rfl eE) (And.intro rfl (obE (zh q1)))
   ·rw[if_neg c0] at hrun;have hk2:=a6 (by omega)
    have hs1:q1.s=s:=a2
    repeat' first|refine gw ?_|refine bs ?_ ?_<;>intro q_
    all_goals try refine wnz (wnz ?_)
    all_goals repeat' first|refine gw ?_|refine bs ?_ ?_<;>intro q_
    all_goals first|(exfalso;omega)|exact ⟨(f,q1,L++[(c,0)]),⟨a1,(by show q1.s.size+3<=f+q1.k;rw[hs1];omega),(by rw[List.length_append];show L.length+1<=q1.k;omega),hrun⟩,(by show f<f+1;omega),zq [0,2] tmS ⟨zak (zh q1),zF (x:=(c,0)) (fun j hj=>match j,hj with|0,_=>eE|1,_=>eE),trivial⟩ (by decide) ml3 (by simp)⟩
  ·refine ⟨((⟨⟨db,s,blk s k,false⟩,okx⟩,dlT):FX × ByteArray),obE (zh _),eL,(by show dlT.size<=100;decide),?_⟩
   rw[show ocFN.res ((⟨⟨db,s,blk s k,false⟩,okx⟩,dlT):FX × ByteArray)=.inl (.v (.bool true)) from congrArg (fun b=>Sum.inl (D.v (.bool b))) hn];rw[if_pos hn] at hrun;have hjs:(blk s k)<s.size:=(zea.1 hn).2.1;have hb:=uZ s ((blk s k)+1)
   have hT:(((blk s k):Int)+1).toNat=(blk s k)+1:=by omega
   obtain ⟨v,hv⟩:∃ v,pcN ⟨db,s,blk s k,false⟩=v:=⟨_,rfl⟩
   have hD:pcD ⟨db,s,blk s k,false⟩=⟨db,s,blk s k+2,decide (v<1\/8<v)⟩:=by rw[<- hv];rfl
   rw[hD,hv] at hrun;have hOK:∀ b,HOk ⟨db,s,blk s k+2,b⟩:=fun b=>⟨hb1.1,by show (blk s k)+2<=s.size+1;omega,h3⟩
   have hfit:v = -1\/(-48<=v/\v<=207):=by
    rw[<- hv];unfold pcN;split
    ·exact .inr (by show -48<=bAt s ((blk s k)+1) - 48/\bAt s ((blk s k)+1) - 48<=207;omega)
    ·exact .inl rfl
   by_cases hl:((blk s k):Int)+1<s.size
   ·have hv2:bAt s ((blk s k)+1) - 48=v:=by rw[<- hv];exact (if_pos (show (blk s k)+1<s.size by omega)).symm
    have hw:IntKind.i64.wrap (bAt s (((blk s k):Int)+1).toNat) - 48=v:=by rw[hT,yI ⟨by omega,by omega⟩];exact hv2
    have hf:zs (IntKind.i64.wrap (bAt s (((blk s k:Nat):Int)+1).toNat) - 48):=by rw[hw];unfold zs;omega
    by_cases c1:IntKind.i64.wrap (bAt s (((blk s k:Nat):Int)+1).toNat) - 48<1
    ·have hd:decide (v<1\/8<v)=true:=decide_eq_true (.inl (by omega))
     rw[hd] at hrun
     repeat' first|refine gw ?_|refine bs ?_ ?_<;>intro q_
     all_goals try refine wnz (wnz ?_)
     all_goals repeat' first|refine gw ?_|refine bs ?_ ?_<;>intro q_
     all_goals first|(exfalso;omega)|exact ⟨(f,⟨db,s,blk s k+2,true⟩,L++[(0,v)]),⟨hOK true,(by show s.size+3<=f+(blk s k+2);omega),(by rw[List.length_append];show L.length+1<=blk s k+2;omega),hrun⟩,(by show f<f+1;omega),zq [0,2] tmS ⟨zak (zh ⟨db,s,blk s k+2,true⟩),zF (x:=((0:Int),v)) (fun j hj=>match j,hj with|0,_=>eE|1,_=>Ent.of_eq (congrArg (fun x=>D.v (.int .i64 x)) hw)),trivial⟩ (by decide) ml3 (by simp)⟩
    by_cases c2:IntKind.i64.wrap (bAt s (((blk s k:Nat):Int)+1).toNat) - 48>8
    ·have hd:decide (v<1\/8<v)=true:=decide_eq_true (.inr (by omega))
     rw[hd] at hrun
     repeat' first|refine gw ?_|refine bs ?_ ?_<;>intro q_
     all_goals try refine wnz (wnz ?_)
     all_goals repeat' first|refine gw ?_|refine bs ?_ ?_<;>intro q_
     all_goals first|(exfalso;omega)|exact ⟨(f,⟨db,s,blk s k+2,true⟩,L++[(0,v)]),⟨hOK true,(by show s.size+3<=f+(blk s k+2);omega),(by rw[List.length_append];show L.length+1<=blk s k+2;omega),hrun⟩,(by show f<f+1;omega),zq [0,2] tmS ⟨zak (zh ⟨db,s,blk s k+2,true⟩) (by first|rfl|exact congrArg (fun b=>fC ⟨db,s,blk s k+2,b⟩) (decide_eq_true c2)),zF (x:=((0:Int),v)) (fun j hj=>match j,hj with|0,_=>eE|1,_=>Ent.of_eq (congrArg (fun x=>D.v (.int .i64 x)) hw)),trivial⟩ (by decide) ml3 (by simp)⟩
    have hd:decide (v<1\/8<v)=false:=decide_eq_false (by omega)
    rw[hd] at hrun
    repeat' first|refine gw ?_|refine bs ?_ ?_<;>intro q_
    all_goals try refine wnz (wnz ?_)
    all_goals repeat' first|refine gw ?_|refine bs ?_ ?_<;>intro q_
    all_goals first|(exfalso;omega)|exact ⟨(f,⟨db,s,blk s k+2,false⟩,L++[(0,v)]),⟨hOK false,(by show s.size+3<=f+(blk s k+2);omega),(by rw[List.length_append];show L.length+1<=blk s k+2;omega),hrun⟩,(by show f<f+1;omega),zq [0,2] tmS ⟨zak (zh ⟨db,s,blk s k+2,false⟩) (by first|rfl|exact congrArg (fun b=>fC ⟨db,s,blk s k+2,b⟩) (decide_eq_false c2)),zF (x:=((0:Int),v)) (fun j hj=>match j,hj with|0,_=>eE|1,_=>Ent.of_eq (congrArg (fun x=>D.v (.int .i64 x)) hw)),trivial⟩ (by decide) ml3 (by simp)⟩
   ·have hv2:v = -1:=by rw[<- hv];exact if_neg (show ¬(blk s k)+1<s.size by omega)
    subst hv2
    try simp only[zj,xb,zG,zW,nr,ns,Nat.reduceAdd,Nat.zero_add,reduceIte]
    repeat' first|refine gw ?_|refine bs ?_ ?_<;>intro q_
    all_goals try refine wnz (wnz ?_)
    all_goals repeat' first|refine gw ?_|refine bs ?_ ?_<;>intro q_
    all_goals first|(exfalso;omega)|exact ⟨(f,⟨db,s,blk s k+2,true⟩,L++[(0,-1)]),⟨hOK true,by show s.size+3<=f+((blk s k)+2);omega,by rw[List.length_append];show L.length+1<=(blk s k)+2;omega,hrun⟩,(by show f<f+1;omega),zq [0,2] tmS ⟨zak (zh ⟨db,s,blk s k+2,true⟩),zF (x:=((0:Int),(-1:Int))) (fun j hj=>match j,hj with|0,_=>eE|1,_=>eE),trivial⟩ (by decide) ml3 (by simp)⟩
 ·rw[if_pos (show (⟨db,s,k,true⟩:FSt).bad=true from rfl)] at hrun;obtain ⟨rfl,rfl⟩:=Prod.mk.inj hrun
  repeat' first|refine gw ?_|refine bs ?_ ?_<;>intro q_
  all_goals first|(exfalso;omega)|exact And.intro (EntR.of rfl eE) (And.intro rfl (obE (zh ⟨db,s,k,true⟩)))
end Go.Proofs
namespace Go.Proofs
open Go Go.Sx
variable {p:FSt}
variable {mx:Int}{pb:Bool}
attribute [local irreducible] zbs zbi yf xD
def sh7 (L:List (List Rg)):Prop:=∀ S∈L,S.length<=7000
theorem gPar_len {d:Db}{s:ByteArray}(hd:SmD d) (hs:s.size<=1000):(zcc d s).1.length<=7000:=by
 have h1:=(uw hd (s:=s) 17 (gBl s ⟨0,0,0⟩) (zlv (p:=⟨0,0,0⟩) (Nat.zero_le _)).2).bound hs;have h2:(gPaR d s).1.length<=6017:=h1;unfold zcc gPaE;split
 ·show (gPaR d s).1.length<=7000;omega
 ·exact Nat.zero_le _
theorem eleF_len (h:HOk p):(zaa p).1.1.length<=7000:=by
 unfold zaa;split
 ·exact Nat.zero_le _
 ·split
  ·unfold eleC;split
   ·exact Nat.zero_le _
   ·exact Nat.le_trans (zK _) (by show 1<=7000;decide)
  ·have h1:=gPar_len (s:=zbj p (nxB p zcf)) h.1 (zoj h.2.2 _)
   unfold zkg;split
   ·exact h1
   ·exact h1
structure ElsH (p:FSt) (r:List (List Rg) × FSt):Prop where
 ok:HOk r.2
 s:r.2.s=p.s
 db:r.2.db=p.db
 k:p.k<=r.2.k
 len:r.1.length<=r.2.k
 sh:sh7 r.1
theorem elsF_h:∀ (f:Nat) (p:FSt) (L:List (List Rg)),HOk p->L.length<=p.k->sh7 L->ElsH p (zoi f p L)
 | 0,p,L,h,hl,hs=>⟨h,rfl,rfl,Nat.le_refl _,hl,hs⟩
 | f+1,p,L,h,hl,hs=>by
  rw[zoi];split
  ·exact ⟨h,rfl,rfl,Nat.le_refl _,hl,hs⟩
  ·obtain ⟨b1,b2⟩:=bl0_h h;obtain ⟨e1,e2,e3,e4,e5⟩:=eleF_h b1;split
   ·rename_i ht;have g:=elsF_h f (zaa (bl0 p)).2 (L++[(zaa (bl0 p)).1.1]) e1 (by rw[List.length_append];show L.length+1<=_;have:=e5 ht;omega) (fun S hS=>by
     rcases List.mem_append.1 hS with hS|hS
     ·exact hs S hS
     ·rw[List.mem_singleton.1 hS];exact eleF_len b1)
    exact ⟨g.ok,g.s.trans e2,g.db.trans e3,by have:=g.k;omega,g.len,g.sh⟩
   ·exact ⟨e1,e2,e3,by show p.k<=(zaa (bl0 p)).2.k;omega,by show L.length<=(zaa (bl0 p)).2.k;omega,hs⟩
theorem elsR_h (h:HOk p):ElsH p (zec p):=elsF_h _ p [] h (Nat.zero_le _) (fun S hS=>by simp at hS)
structure PcsH (p:FSt) (r:List Rg × FSt):Prop where
 ok:HOk r.2
 s:r.2.s=p.s
 db:r.2.db=p.db
 len:r.1.length<=r.2.k
theorem pcsF_h:∀ (f:Nat) (p:FSt) (L:List Rg),HOk p->L.length<=p.k->PcsH p (zbq f p L)
 | 0,p,L,h,hl=>⟨h,rfl,rfl,hl⟩
 | f+1,p,L,h,hl=>by
  rw[zbq];split
  ·exact ⟨h,rfl,rfl,hl⟩
  ·obtain ⟨b1,b2⟩:=bl0_h h;split
   ·rename_i hn;have hk:(bl0 p).k<(bl0 p).s.size:=(zea.1 hn).2.1;have g:=pcsF_h f (pcD (bl0 p)) (L++[(0,pcN (bl0 p))]) ⟨b1.1,(by show (bl0 p).k+2<=(bl0 p).s.size+1;omega),b1.2.2⟩ (by rw[List.length_append];show L.length+1<=(bl0 p).k+2;omega)
    exact ⟨g.ok,g.s,g.db,g.len⟩
   ·obtain ⟨a1,a2,a3,a4,a5,a6⟩:=codF_h b1;split
    ·exact ⟨a1,a2,a3,by show L.length<=(vf (bl0 p)).2.k;omega⟩
    ·rename_i hc;have g:=pcsF_h f (vf (bl0 p)).2 (L++[((vf (bl0 p)).1,0)]) a1 (by rw[List.length_append];show L.length+1<=_;have:=a6 (by omega);omega)
     exact ⟨g.ok,g.s.trans a2,g.db.trans a3,g.len⟩
theorem pcsR_h (h:HOk p):PcsH p (pcsR p):=pcsF_h _ p [] h (Nat.zero_le _)
theorem at_h {b:UInt8}(h:HOk p) (hn:nxB p ⟨#[b]⟩=true):HOk (p.at (p.k+1)):=⟨h.1,(by have:=(zea.1 hn).2.1;show p.k+1<=p.s.size+1;omega),h.2.2⟩
noncomputable def ocFR:Oc:=ocH Tl tlA rulF
noncomputable def Γz6 (mx:Int) (pb:Bool):Ctx:=fun f=>match f with
 | 47=>some (.obj ocFS)
 | 48=>some (.obj ocFN)
 | 49=>some (.obj ocFP)
 | _=>none
theorem Γz6_ok:CK mx pb (Γz6 mx pb):=by
 intro f h hh;simp only[Γz6] at hh;split at hh<;>simp at hh<;>subst hh
 ·exact zEls_ok
 ·exact zNx_ok
 ·exact zPcs_ok
theorem zl9 {b m a r:D}{B M A:List (List Rg)}{R:List Rg}(hb:Ent b (zb6 B)) (hm:Ent m (zb6 M)) (ha:Ent a (zb6 A)) (hr:Ent r (xE R)):Ent (.ag [b,m,a,r]) (tlA ⟨B,M,A,R⟩):=Ent.ag (EntL.cons hb (EntL.cons hm (EntL.cons ha (EntL.cons hr (EntL.refl [])))))
theorem zRul_ok:SQ mx pb 23 ocFR:=by
 refine so (cc:=true) Γz6_ok Tryz.func23 (fun x=>zh x.1) (fun _=>rfl) (fun x=>zh x.2.2) ?_;rintro ⟨p,x,q⟩ ⟨hp,hr⟩
 replace hp:HOk p:=hp;replace hr:rulF p=(x,q):=hr;have h1:=elsR_h hp;obtain ⟨M1,p1,he1⟩:∃ M1 p1,zec p=(M1,p1):=⟨_,_,rfl⟩
 unfold rulF at hr;rw[he1] at hr h1;have ok1:HOk p1:=h1.ok;dsimp only at hr;obtain ⟨B,M,P,hr2,hP,hcs⟩:∃ B M P,rulA B M P=(x,q)/\HOk P/\((nxB p1 opT=true/\B=M1/\zec (p1.at (p1.k+1))=(M,P))\/(nxB p1 opT=false/\B=[]/\M=M1/\P=p1)):=by
  cases hn:nxB p1 opT
  ·rw[hn,if_neg (fun h=>Bool.noConfusion h)] at hr;exact ⟨[],M1,p1,hr,ok1,.inr ⟨rfl,rfl,rfl,rfl⟩⟩
  ·rw[hn,if_pos rfl] at hr;exact ⟨M1,_,_,hr,(elsR_h (at_h ok1 hn)).ok,.inl ⟨rfl,rfl,rfl⟩⟩
 unfold rulA at hr2;obtain ⟨A,Q,hr3,hQ,hcs2⟩:∃ A Q,rulE B M A Q=(x,q)/\HOk Q/\((nxB P clT=true/\zec (P.at (P.k+1))=(A,Q))\/(nxB P clT=false/\A=[]/\Q=P)):=by
  cases hn:nxB P clT
  ·rw[hn,if_neg (fun h=>Bool.noConfusion h)] at hr2;exact ⟨[],P,hr2,hP,.inr ⟨rfl,rfl,rfl⟩⟩
  ·rw[hn,if_pos rfl] at hr2;exact ⟨_,_,hr2,(elsR_h (at_h hP hn)).ok,.inl ⟨rfl,rfl⟩⟩
 clear hr hr2 h1;have kb1:p1.k<=991:=by have:=ok1.2.1;have:=ok1.2.2;omega
 have kbP:P.k<=991:=by have:=hP.2.1;have:=hP.2.2;omega
 obtain ⟨qd,qs,qk,qb⟩:=Q;have kq:qk<=qs.size+1:=hQ.2.1;have ks:qs.size<=990:=hQ.2.2;have hout:(qb=true/\x=⟨B,M,A,[]⟩/\q=⟨qd,qs,qk+1,true⟩)\/(qb=false/\nxB ⟨qd,qs,qk,false⟩ gtT=false/\x=⟨B,M,A,[]⟩/\q=⟨qd,qs,qk+1,true⟩)\/(qb=false/\nxB ⟨qd,qs,qk,false⟩ gtT=true/\∃ R fd fs fk fb,pcsR ⟨qd,qs,qk+1,false⟩=(R,⟨fd,fs,fk,fb⟩)/\x=⟨B,M,A,R⟩/\q=⟨qd,qs,fk,fb||decide (¬fk=qs.size)⟩):=by
  unfold rulE at hr3;cases qb
  ·cases hg:nxB ⟨qd,qs,qk,false⟩ gtT
   ·rw[if_pos (.inr hg)] at hr3;obtain ⟨e1,e2⟩:=Prod.mk.inj hr3;exact .inr (.inl ⟨rfl,rfl,e1.symm,e2.symm⟩)
   ·rw[if_neg (fun h=>h.elim (fun h=>Bool.noConfusion h) fun h=>by rw[hg] at h;exact Bool.noConfusion h)] at hr3;obtain ⟨e1,e2⟩:=Prod.mk.inj hr3;exact .inr (.inr ⟨rfl,rfl,(pcsR ⟨qd,qs,qk+1,false⟩).1,(pcsR ⟨qd,qs,qk+1,false⟩).2.db,(pcsR ⟨qd,qs,qk+1,false⟩).2.s,(pcsR ⟨qd,qs,qk+1,false⟩).2.k,(pcsR ⟨qd,qs,qk+1,false⟩).2.bad,rfl,e1.symm,e2.symm⟩)
  ·rw[if_pos (.inl rfl)] at hr3;obtain ⟨e1,e2⟩:=Prod.mk.inj hr3;exact .inl ⟨rfl,e1.symm,e2.symm⟩
 clear hr3;have okq:OkF ⟨qd,qs,qk,qb⟩:=hQ.xk;rcases hout with ⟨rfl,rfl,rfl⟩|⟨rfl,hg,rfl,rfl⟩|⟨rfl,hg,R,fd,fs,fk,fb,hpc,rfl,rfl⟩
 all_goals repeat' first|refine gw ?_|refine bs ?_ ?_<;>intro q_
 all_goals refine ⟨((p,M1,p1):FSt × List (List Rg) × FSt),obE (zh p),eL,⟨hp,he1⟩,?_⟩
 all_goals clear he1
 all_goals repeat' first|refine gw ?_|refine bs ?_ ?_<;>intro q_
 all_goals refine ⟨((⟨p1,ok1.xk⟩,opT):FX × ByteArray),obE (zh p1),eL,(by show opT.size<=100;decide),?_⟩
 all_goals rw[show ocFN.res ((⟨p1,ok1.xk⟩,opT):FX × ByteArray)=.inl (.v (.bool (nxB p1 opT))) from rfl]
 all_goals rcases hcs with ⟨hn,rfl,he2⟩|⟨hn,rfl,rfl,rfl⟩
 all_goals rw[hn]
 all_goals repeat' first|refine gw ?_|refine bs ?_ ?_<;>intro q_
 all_goals first
  | (refine ⟨((p1.at (p1.k+1),M,P):FSt × List (List Rg) × FSt),obE (zh (p1.at (p1.k+1))),eL,⟨at_h ok1 hn,he2⟩,?_⟩;clear he2)
  | skip
 all_goals try simp only[zj,xb,zG,zW,nr,ns,Nat.reduceAdd,Nat.zero_add,reduceIte]
 all_goals repeat' first|refine gw ?_|refine bs ?_ ?_<;>intro q_
 all_goals first|(exfalso;omega)|skip
 all_goals refine ⟨((⟨P,hP.xk⟩,clT):FX × ByteArray),obE (zh P),eL,(by show clT.size<=100;decide),?_⟩
 all_goals rw[show ocFN.res ((⟨P,hP.xk⟩,clT):FX × ByteArray)=.inl (.v (.bool (nxB P clT))) from rfl]
 all_goals rcases hcs2 with ⟨hn2,he3⟩|⟨hn2,rfl,rfl⟩
 all_goals rw[hn2]
 all_goals repeat' first|refine gx ?_|refine bs ?_ ?_<;>intro q_
 all_goals first|(exfalso;omega)|skip
 all_goals first
  | (refine ⟨((P.at (P.k+1),A,(⟨qd,qs,qk,_⟩:FSt)):FSt × List (List Rg) × FSt),obE (zh (P.at (P.k+1))),eL,⟨at_h hP hn2,he3⟩,?_⟩;clear he3)
  | skip
 all_goals try simp only[zj,xb,zG,zW,nr,ns,Nat.reduceAdd,Nat.zero_add,reduceIte]
 iterate 4
  ·repeat' first|refine gx ?_|refine bs ?_ ?_<;>intro q_
   all_goals first|(exfalso;omega)|skip
   all_goals refine .inr ⟨.stage [0,1,2,3,4,5,6,7,8,9,10,11,12,13,14,15,16,17,18] (.alt 19 [] (.done []) .nil),by decide +kernel,?_⟩
   all_goals refine xs1 ?_
   all_goals repeat' first|refine gx ?_|refine gy ?_|refine xc1 ?_ ?_|refine xs4 ?_ ?_|exact rfl
   all_goals repeat' first|refine gw ?_|refine bs ?_ ?_<;>intro q_
   all_goals exact And.intro (EntR.of rfl (zl9 (by first|exact eE|exact Ent.nil) eE (by first|exact eE|exact Ent.nil) (by first|exact eE|exact Ent.nil))) (And.intro rfl (obE (zh ⟨qd,qs,qk+1,true⟩)))
 iterate 4
  ·repeat' first|refine gw ?_|refine bs ?_ ?_<;>intro q_
   refine ⟨((⟨⟨qd,qs,qk,false⟩,okq⟩,gtT):FX × ByteArray),obE (zh ⟨qd,qs,qk,false⟩),eL,(by show gtT.size<=100;decide),?_⟩
   rw[show ocFN.res ((⟨⟨qd,qs,qk,false⟩,okq⟩,gtT):FX × ByteArray)=.inl (.v (.bool false)) from congrArg (fun b=>Sum.inl (D.v (.bool b))) hg]
   try simp only[zj,xb,zG,zW,nr,ns,Nat.reduceAdd,Nat.zero_add,reduceIte]
   repeat' first|refine gx ?_|refine bs ?_ ?_<;>intro q_
   all_goals first|(exfalso;omega)|skip
   all_goals refine .inr ⟨.stage [0,1,2,3,4,5,6,7,8,9,10,11,12,13,14,15,16,17,18] (.alt 19 [] (.done []) .nil),by decide +kernel,?_⟩
   all_goals refine xs1 ?_
   all_goals repeat' first|refine gx ?_|refine gy ?_|refine xc1 ?_ ?_|refine xs4 ?_ ?_|exact rfl
   all_goals repeat' first|refine gw ?_|refine bs ?_ ?_<;>intro q_
   all_goals exact And.intro (EntR.of rfl (zl9 (by first|exact eE|exact Ent.nil) eE (by first|exact eE|exact Ent.nil) (by first|exact eE|exact Ent.nil))) (And.intro rfl (obE (zh ⟨qd,qs,qk+1,true⟩)))
 iterate 4
  ·repeat' first|refine gw ?_|refine bs ?_ ?_<;>intro q_
   refine ⟨((⟨⟨qd,qs,qk,false⟩,okq⟩,gtT):FX × ByteArray),obE (zh ⟨qd,qs,qk,false⟩),eL,(by show gtT.size<=100;decide),?_⟩
   rw[show ocFN.res ((⟨⟨qd,qs,qk,false⟩,okq⟩,gtT):FX × ByteArray)=.inl (.v (.bool true)) from congrArg (fun b=>Sum.inl (D.v (.bool b))) hg]
   try simp only[zj,xb,zG,zW,nr,ns,Nat.reduceAdd,Nat.zero_add,reduceIte]
   refine gw ?_;refine ⟨((⟨qd,qs,qk+1,false⟩,R,⟨fd,fs,fk,fb⟩):FSt × List Rg × FSt),obE (zh ⟨qd,qs,qk+1,false⟩),eL,⟨at_h (p:=⟨qd,qs,qk,false⟩) hQ hg,hpc⟩,?_⟩
   have g:=pcsR_h (at_h (p:=⟨qd,qs,qk,false⟩) hQ hg)
   rw[show FSt.at ⟨qd,qs,qk,false⟩ ((⟨qd,qs,qk,false⟩:FSt).k+1)=⟨qd,qs,qk+1,false⟩ from rfl,hpc] at g;have g1:fs=qs:=g.s;have g2:fd=qd:=g.db;subst g1;subst g2;cases fb
   ·by_cases hf:fk=fs.size
    ·have hfi:(fk:Int)=fs.size:=by omega
     rw[decide_eq_false (show ¬¬fk=fs.size from fun h=>h hf)]
     repeat' first|refine gx ?_|refine bs ?_ ?_<;>intro q_
     all_goals first|(exfalso;omega)|skip
     all_goals refine .inr ⟨.stage [0,1,2,3,4,5,6,7,8,9,10,11,12,13,14,15,16,17,18] (.alt 19 [] (.done []) .nil),by decide +kernel,?_⟩
     all_goals refine xs1 ?_
     all_goals repeat' first|refine gx ?_|refine gy ?_|refine xc1 ?_ ?_|refine xs4 ?_ ?_|exact rfl
     all_goals repeat' first|refine gw ?_|refine bs ?_ ?_<;>intro q_
     all_goals exact And.intro (EntR.of rfl (zl9 (by first|exact eE|exact Ent.nil) eE (by first|exact eE|exact Ent.nil) eE)) (And.intro rfl (obE (zh ⟨fd,fs,fk,(fk:Int) != (fs.size:Int)⟩) (by show fC ⟨fd,fs,fk,(fk:Int) != (fs.size:Int)⟩=fC ⟨fd,fs,fk,false⟩;rw[show ((fk:Int) != (fs.size:Int))=false from by simp[hf]])))
    ·have hfi:¬(fk:Int)=fs.size:=by omega
     rw[decide_eq_true hf]
     repeat' first|refine gx ?_|refine bs ?_ ?_<;>intro q_
     all_goals first|(exfalso;omega)|skip
     all_goals refine .inr ⟨.stage [0,1,2,3,4,5,6,7,8,9,10,11,12,13,14,15,16,17,18] (.alt 19 [] (.done []) .nil),by decide +kernel,?_⟩
     all_goals refine xs1 ?_
     all_goals repeat' first|refine gx ?_|refine gy ?_|refine xc1 ?_ ?_|refine xs4 ?_ ?_|exact rfl
     all_goals repeat' first|refine gw ?_|refine bs ?_ ?_<;>intro q_
     all_goals exact And.intro (EntR.of rfl (zl9 (by first|exact eE|exact Ent.nil) eE (by first|exact eE|exact Ent.nil) eE)) (And.intro rfl (obE (zh ⟨fd,fs,fk,(fk:Int) != (fs.size:Int)⟩) (by show fC ⟨fd,fs,fk,(fk:Int) != (fs.size:Int)⟩=fC ⟨fd,fs,fk,true⟩;rw[show ((fk:Int) != (fs.size:Int))=true from by simpa using hfi])))
   ·repeat' first|refine gx ?_|refine bs ?_ ?_<;>intro q_
    all_goals first|(exfalso;omega)|skip
    all_goals refine .inr ⟨.stage [0,1,2,3,4,5,6,7,8,9,10,11,12,13,14,15,16,17,18] (.alt 19 [] (.done []) .nil),by decide +kernel,?_⟩
    all_goals refine xs1 ?_
    all_goals repeat' first|refine gx ?_|refine gy ?_|refine xc1 ?_ ?_|refine xs4 ?_ ?_|exact rfl
    all_goals repeat' first|refine gw ?_|refine bs ?_ ?_<;>intro q_
    all_goals exact And.intro (EntR.of rfl (zl9 (by first|exact eE|exact Ent.nil) eE (by first|exact eE|exact Ent.nil) eE)) (And.intro rfl (obE (zh ⟨fd,fs,fk,true⟩)))
end Go.Proofs
