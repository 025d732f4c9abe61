import Derived.Test.YtnimkdbpoeondaaGreatDoorZ5z
import Derived.Test.YtnimkdbpoeondaaGreatDoorY8z
set_option linter.all false
set_option maxHeartbeats 4000000
namespace Go.Proofs
open Go Go.Sx Go.RowKit
variable {p:FSt}
variable {mx:Int}{pb:Bool}
def ctCutR:Ct:={ ι:=ByteArray × UInt8,inp:=fun x=>[.v (.string x.1),.v (.int .u8 x.2.toNat)],out:=fun x=>slD 1 vg (zb8 x.2 x.1),pre:=fun x=>x.1.size<=1000000000 }
theorem rCutR_ok:SS mx pb 21 ctCutR:=by
 refine sb (cc:=true) zH Tryz.func21 ?_;rintro ⟨s,c⟩ hs;have hs:s.size<=1000000000:=hs;refine gw ?_;refine ⟨0,Nat × Nat × List ByteArray,fun|(k,f,o)=>⟨[(0,.v (.string s)),(1,.v (.int .u8 c.toNat)),(5,.row 0),(6,.v (.int .i64 f)),(7,.v (.int .i64 k))],[zG 9 1 vg o],[]⟩,fun|(k,f,o)=>k<=s.size/\f<=k/\o.length<=k/\(∀ j,f<=j->j<k->¬bAt s j=c.toNat)/\o++(ya c (s.data.toList.drop f)).map ve=zb8 c s,fun x=>s.size - x.1,fun _=>Nat.zero_le _,⟨(0,0,[]),⟨Nat.zero_le _,Nat.zero_le _,Nat.zero_le _,fun j _ hj=>by omega,rfl⟩,StLe.trans (StLe.nilRow (t:=5) 9 1 (fun _ _=>.junk) rfl) (StLe.ren [0] tmS ⟨yg,trivial⟩ (by decide))⟩,?_⟩
 rintro ⟨k,f,o⟩ ⟨hk,hf,hol,hn,ho⟩
 by_cases hlt:k<s.size
 ·repeat' first|refine gw ?_|refine bs ?_ ?_<;>intro q_
  all_goals try refine wnz (wnz ?_)
  all_goals repeat' first|refine gw ?_|refine bs ?_ ?_<;>intro q_
  ·exact ⟨(k+1,k+1,o++[zN s f k]),⟨by omega,by omega,by simp;omega,fun j h1 h2=>by omega,by rw[<- ho,zfb hf hlt hn q_,List.append_assoc];rfl⟩,(by show s.size - (k+1)<s.size - k;omega),StLe.ren [1] tmS ⟨zF (lt1 eE),trivial⟩ (by decide)⟩
  ·exact ⟨(k+1,f,o),⟨by omega,by omega,by omega,fun j h1 h2=>by
    by_cases hj:j=k
    ·subst hj;exact q_
    ·exact hn j h1 (by omega),ho⟩,(by show s.size - (k+1)<s.size - k;omega),(sr [0])⟩
 ·repeat' first|refine gw ?_|refine bs ?_ ?_<;>intro q_
  all_goals try refine wnz (wnz ?_)
  all_goals repeat' first|refine gw ?_|refine bs ?_ ?_<;>intro q_
  refine EntR.of rfl ?_;have e:zb8 c s=o++[zN s f s.size]:=by rw[<- ho,zik (fun j h1 h2=>hn j h1 (by omega)),bcut_suf];rfl
  show Ent _ (slD 1 vg (zb8 c s))
  rw[e];exact ent_app (lt1 eE)
open Go Go.Sx
attribute [local irreducible] zbs zbi yf xD
noncomputable def ctRT:Ct:={ ι:=Db × ByteArray,inp:=fun x=>[dbA x.1,.v (.string x.2)],out:=fun x=>.tu [tlsD (trP x.1 x.2).1,.ag [.v (.int .i64 (trP x.1 x.2).2.1),.v (.int .i64 (trP x.1 x.2).2.2)]],pre:=fun x=>SmD x.1/\(x.2.size<=500\/65536<x.2.size) }
theorem rt_out {d:Db}{s:ByteArray}{R:List Tl}{e a:Int}(h:trP d s=(R,e,a)):ctRT.out (d,s)=.tu [tlsD R,.ag [.v (.int .i64 e),.v (.int .i64 a)]]:=by
 show D.tu [tlsD (trP d s).1,.ag [.v (.int .i64 (trP d s).2.1),.v (.int .i64 (trP d s).2.2)]]=_;rw[h]
noncomputable def cRChk:Code:=(Tryz.f24.body).getD .skip
noncomputable def Γz7 (mx:Int) (pb:Bool):Ctx:=fun f=>match f with
 | 22=>some (.obj ocFB)
 | 23=>some (.obj ocFR)
 | 24=>some (.gen (zds true Γk51 Tryz.T (GlT mx pb) Tryz.f24 cRChk))
 | 21=>some (.pure ctCutR)
 | _=>none
theorem Γz7_ok:CK mx pb (Γz7 mx pb):=by
 intro f h hh;simp only[Γz7] at hh;split at hh<;>simp at hh<;>subst hh
 ·exact zBl_ok
 ·exact zRul_ok
 ·exact si Γk51_ok Tryz.func24
 ·exact rCutR_ok
theorem bg9_of {L:List (List Rg)}(h1:L.length<=1000) (h2:sh7 L):bg9 L:=⟨h1,fun i hi=>by
 rw[show L.getD i default=L[i] by simp[List.getD_eq_getElem?_getD,hi]];exact h2 _ (List.getElem_mem hi)⟩
theorem rulE_bg {B M A:List (List Rg)}(h:HOk p) (hB:bg9 B) (hM:bg9 M) (hA:bg9 A):bgT9 (rulE B M A p).1:=by
 unfold rulE;split
 ·exact ⟨hB,hM,hA,Nat.zero_le _⟩
 ·rename_i hn;have hg:nxB p gtT=true:=by
   cases hh:nxB p gtT with
   | true=>rfl
   | false=>exact absurd (.inr hh) hn
  have g:=pcsR_h (at_h h hg)
  have g1:=g.len;have g2:=g.ok.2.1;have g3:=g.ok.2.2;exact ⟨hB,hM,hA,by show (pcsR (p.at (p.k+1))).1.length<=1000;omega⟩
theorem bg9_nil:bg9 []:=⟨Nat.zero_le _,fun i hi=>absurd hi (Nat.not_lt_zero _)⟩
theorem els_bg (h:HOk p):bg9 (zec p).1/\HOk (zec p).2:=by
 have g:=elsR_h h;have g1:=g.len;have g2:=g.ok.2.1;have g3:=g.ok.2.2;exact ⟨bg9_of (by omega) g.sh,g.ok⟩
theorem rulA_bg {B M:List (List Rg)}(h:HOk p) (hB:bg9 B) (hM:bg9 M):bgT9 (rulA B M p).1:=by
 unfold rulA;split
 ·rename_i hn;obtain ⟨g1,g2⟩:=els_bg (at_h h hn)
  exact rulE_bg g2 hB hM g1
 ·exact rulE_bg h hB hM bg9_nil
theorem rulF_bg (h:HOk p):bgT9 (rulF p).1:=by
 obtain ⟨g1,g2⟩:=els_bg h;unfold rulF;split
 ·rename_i hn;obtain ⟨e1,e2⟩:=els_bg (at_h g2 hn)
  exact rulA_bg e2 g1 e1
 ·exact rulA_bg g2 bg9_nil g1
theorem bg9_snoc {R:List Tl}{x:Tl}(h:bgL9 R) (hR:R.length+1<=1000) (hx:bgT9 x):bgL9 (R++[x]):=by
 refine ⟨by rw[List.length_append];exact hR,fun i hi=>?_⟩
 rw[vH];by_cases h1:i<R.length
 ·rw[if_pos h1];exact h.2 i h1
 ·rw[if_neg h1,if_pos (by simp at hi;omega)];exact hx
theorem drop_cons {ls:List ByteArray}{i:Nat}(h:i<ls.length):ls.drop i=ls.getD i default::ls.drop (i+1):=by
 rw[List.drop_eq_getElem_cons h];congr 1;simp[List.getD_eq_getElem?_getD,h]
theorem m6i:∀ i,i<6->([0,1,2,3,4,5]:List Nat)[i]?=some i:=fun i hi=>by
 match i,hi with
 | 0,_=>rfl
 | 1,_=>rfl
 | 2,_=>rfl
 | 3,_=>rfl
 | 4,_=>rfl
 | 5,_=>rfl
structure RtIn (d:Db) (ls:List ByteArray) (F:List Tl × Int × Int) (i:Nat) (R:List Tl):Prop where
 le:i<=ls.length
 len:R.length<=i
 bg:bgL9 R
 run:prL d (ls.drop i) i R=F
def sRt (d:Db) (ls:List ByteArray) (i:Nat) (R:List Tl):St:=⟨[(2,.own 0 0),(5,.own 1 0),(6,.row 2),(7,slD 1 vg ls),(8,.v (.int .i64 i))],[.cells 39 (dbL d),.cells 45 [.v (.int .i64 0),.v (.int .i64 0)],zG 59 4 tlD R],[]⟩
theorem rtC_ok:SS mx pb 7 ctRT:=by
 refine sb (cc:=true) Γz7_ok Tryz.func7 ?_;rintro ⟨d,s⟩ ⟨(hd:SmD d),(hs:s.size<=500\/65536<s.size)⟩
 by_cases hbig:65536<s.size
 ·rw[rt_out (show trP d s=([],2,0) from if_pos hbig)]
  repeat' first|refine gw ?_|refine bs ?_ ?_<;>intro q_
  all_goals first|(exfalso;omega)|exact EntR.of rfl (Ent.tu2 Ent.nil eE)
 have hs5:s.size<=500:=by omega
 have hz:=splB_sz (s:=s)
 have hz2:∀ l∈zb8 10 s,l.size<=500:=fun l hl=>by
  obtain ⟨i,hi,rfl⟩:=List.getElem_of_mem hl;have:=hz.2 i hi;rw[show (zb8 10 s).getD i default=(zb8 10 s)[i] by simp[List.getD_eq_getElem?_getD,hi]] at this;omega
 have hT:trP d s=prL d (zb8 10 s) 0 []:=(if_neg hbig).trans (prL_eq hd (zb8 10 s) 0 [] fun l hl=>by have:=hz2 l hl;omega).symm;obtain ⟨FR,Fe,Fa,hF⟩:∃ FR Fe Fa,prL d (zb8 10 s) 0 []=(FR,Fe,Fa):=⟨_,_,_,rfl⟩
 rw[rt_out (hT.trans hF)];have pc:ctCutR.pre (s,10):=(by show s.size<=1000000000;omega)
 have hln:=hz.1;clear hz hT
 repeat' first|refine gw ?_|refine bs ?_ ?_<;>intro q_
 all_goals first|(exfalso;omega)|skip
 all_goals try (refine ⟨((s,10):ByteArray × UInt8),eL,pc,?_⟩)
 generalize hLs:zb8 10 s=ls at hz2 hF hln
 repeat' first|refine gw ?_|refine bs ?_ ?_<;>intro q_
 refine ⟨0,Nat × List Tl,fun|(i,R)=>sRt d ls i R,fun|(i,R)=>RtIn d ls (FR,Fe,Fa) i R,fun x=>ls.length - x.1,fun _=>Nat.zero_le _,⟨(0,[]),⟨Nat.zero_le _,Nat.zero_le _,⟨Nat.zero_le _,fun i hi=>absurd hi (Nat.not_lt_zero _)⟩,hF⟩,StLe.trans (StLe.nilRow (t:=6) 59 4 (fun _ _=>.junk) rfl) (StLe.ren [0,1,2] (by subst hLs;exact tmS) ⟨eZ,eZ,yg,trivial⟩ (by decide))⟩,?_⟩
 clear hF pc hLs;rintro ⟨i,R⟩ hin;replace hin:RtIn d ls (FR,Fe,Fa) i R:=hin;obtain ⟨hi,hR,hB,hrun⟩:=id hin;dsimp only;unfold sRt;have hil:ls.length<=501:=by omega
 by_cases hlt:i<ls.length
 case neg =>
  rw[List.drop_eq_nil_of_le (by omega)] at hrun;obtain ⟨rfl,h2⟩:=Prod.mk.inj hrun;obtain ⟨rfl,rfl⟩:=Prod.mk.inj h2
  repeat' first|refine gw ?_|refine bs ?_ ?_<;>intro q_
  all_goals first|(exfalso;omega)|exact EntR.of rfl (Ent.tu2 eE eE)
 have hl:(ls.getD i default).size<=500:=by
  rw[show ls.getD i default=ls[i] by simp[List.getD_eq_getElem?_getD,hlt]];exact hz2 _ (List.getElem_mem hlt)
 rw[drop_cons hlt,prL] at hrun;obtain ⟨hch,hcn⟩:=cut_hash (ls.getD i default)
 have hcs:=ze0 (ls.getD i default)
 have pl:ctCutR.pre (ls.getD i default,35):=(by show (ls.getD i default).size<=1000000000;omega)
 repeat' first|refine gx ?_|refine bs ?_ ?_<;>intro q_
 all_goals first|(exfalso;omega)|skip
 refine .inr ⟨.stage [0,1,2,3,4,5,6,7,8] (.alt 9 [] (.done [10]) .nil),by decide +kernel,?_⟩
 refine xs1 ?_
 repeat' first|refine gx ?_|refine gy ?_|refine xc1 ?_ ?_|refine xs4 ?_ ?_|exact rfl
 generalize vx (ls.getD i default) hash1=s1 at hch hcs hrun;have hs1:s1.size<=500:=by omega
 have ok0:OkF ⟨d,s1,0,false⟩:=⟨hd,Nat.zero_le _,by show s1.size<=65536;omega⟩
 refine ⟨(⟨⟨d,s1,0,false⟩,ok0⟩:FX),obE (zh ⟨d,(zb8 35 (ls.getD i default)).getD 0 default,0,false⟩) (by show fC ⟨d,(zb8 35 (ls.getD i default)).getD 0 default,0,false⟩=fC ⟨d,s1,0,false⟩;rw[hch]),eL,trivial,?_⟩
 try simp only[zj,xb,zG,zW,nr,ns,Nat.reduceAdd,Nat.zero_add,reduceIte]
 by_cases hb:blk s1 0=s1.size
 ·rw[if_pos hb] at hrun;have hbi:((blk s1 0:Nat):Int)=s1.size:=by omega
  repeat' first|refine gw ?_|refine bs ?_ ?_<;>intro q_
  all_goals first|(exfalso;omega)|exact ⟨(i+1,R),⟨hlt,(by show R.length<=i+1;omega),hB,hrun⟩,(by show ls.length - (i+1)<ls.length - i;omega),(sr [0,1,2])⟩
 ·rw[if_neg hb] at hrun;have hbi:¬((blk s1 0:Nat):Int)=s1.size:=by omega
  have hbk:=(zae (s:=s1) (s1.size - 0) 0 (Nat.zero_le _)).2;have hbk:blk s1 0<=s1.size:=hbk;have hH:HOk ⟨d,s1,blk s1 0,false⟩:=⟨hd,by show blk s1 0<=s1.size+1;omega,by show s1.size<=990;omega⟩
  have hxb:=rulF_bg hH;obtain ⟨x,q,hx⟩:∃ x q,rulF ⟨d,s1,blk s1 0,false⟩=(x,q):=⟨_,_,rfl⟩
  rw[hx] at hrun hxb;dsimp only at hrun hxb
  repeat' first|refine gw ?_|refine bs ?_ ?_<;>intro q_
  all_goals first|(exfalso;omega)|skip
  refine ⟨((⟨d,s1,blk s1 0,false⟩,x,q):FSt × Tl × FSt),obE (zh ⟨d,s1,blk s1 0,false⟩),eL,⟨hH,hx⟩,?_⟩
  clear hx
  try simp only[zj,xb,zG,zW,nr,ns,Nat.reduceAdd,Nat.zero_add,reduceIte]
  obtain ⟨qd,qs,qk,qb⟩:=q;cases qb
  ·rw[if_neg (show ¬(⟨qd,qs,qk,false⟩:FSt).bad=true from fun h=>Bool.noConfusion h)] at hrun;obtain ⟨Q,hQ⟩:∃ Q,R++[x]=Q:=⟨_,rfl⟩
   have hQl:Q.length=R.length+1:=by rw[<- hQ];simp
   have hBQ:bgL9 Q:=by rw[<- hQ];exact bg9_snoc hB (by omega) hxb
   rw[hQ] at hrun;refine gw ?_;refine And.intro (show R.length+1<=9223372036854775807 by omega) (And.intro (show (R.length+1)*96<=140737488355328 by omega) ?_)
   try simp only[zj,xb,zG,zW,nr,ns,Nat.reduceAdd,Nat.zero_add,reduceIte]
   repeat' first|refine gw ?_|refine bs ?_ ?_<;>intro q_
   ·have h200:200<Q.length:=by
     have q2:((R.length+1:Nat):Int)>200:=q_;omega
    rw[show chkB Q=2 from if_pos h200,if_neg (show ¬(2:Int)=0 by decide)] at hrun;obtain ⟨rfl,h2⟩:=Prod.mk.inj hrun;obtain ⟨rfl,rfl⟩:=Prod.mk.inj h2;exact EntR.of rfl (Ent.tu2 Ent.nil eE)
   have h200:¬200<Q.length:=by
    have q2:¬((R.length+1:Nat):Int)>200:=q_;omega
   rw[show chkB Q=chkE Q from if_neg h200] at hrun;refine ⟨0,Nat,fun j=>⟨[(0,.row 5),(3,.v (.int .i64 j))],[.cells 39 (dbL d),.cells 45 [.v (.int .i64 0),.v (.int .i64 0)],.gone,.cells 74 (fC ⟨qd,qs,qk,false⟩),.cells 59 [tlD x 0,tlD x 1,tlD x 2,tlD x 3],zG 59 4 tlD Q],[]⟩,fun j=>j<=Q.length/\∀ i,i<j->ziw (Q.getD i default)=0,fun j=>Q.length - j,fun _=>Nat.le_refl _,⟨0,⟨Nat.zero_le _,fun i hi=>absurd hi (Nat.not_lt_zero _)⟩,zq [0,1,2,3,4,5] tmS ⟨eZ,eZ,trivial,zak (zh ⟨qd,qs,qk,false⟩),eZ,(by rw[<- hQ];exact zF (x:=x) (fun j hj=>match j,hj with|0,_=>eE|1,_=>eE|2,_=>eE|3,_=>eE)),trivial⟩ (by decide) m6i (by simp)⟩,?_⟩
   rintro j ⟨hj,hz⟩
   by_cases hjl:j<Q.length
   ·have p1:ctOnB.pre (Q.getD j default):=hBQ.2 j hjl
    repeat' first|refine gw ?_|refine bs ?_ ?_<;>intro q_
    ·rw[zos hjl hz q_,if_neg q_] at hrun;obtain ⟨rfl,h2⟩:=Prod.mk.inj hrun;obtain ⟨rfl,rfl⟩:=Prod.mk.inj h2;exact EntR.of rfl (Ent.tu2 Ent.nil eE)
    ·exact ⟨j+1,⟨hjl,zo hz q_⟩,(by show Q.length - (j+1)<Q.length - j;omega),zq [0,1,2,3,4,5] tmS ⟨eZ,eZ,trivial,zak (zh ⟨qd,qs,qk,false⟩),eZ,own_refl,trivial⟩ (by decide) m6i (by simp)⟩
   ·have h0:chkE Q=0:=chkE_0 fun i hi=>hz i (by omega)
    rw[h0,if_pos rfl] at hrun;refine gw ?_;exact ⟨(i+1,Q),⟨hlt,(by show Q.length<=i+1;omega),hBQ,hrun⟩,(by show ls.length - (i+1)<ls.length - i;omega),(sr [0,1,5])⟩
  ·rw[if_pos (show (⟨qd,qs,qk,true⟩:FSt).bad=true from rfl)] at hrun;obtain ⟨rfl,h2⟩:=Prod.mk.inj hrun;obtain ⟨rfl,rfl⟩:=Prod.mk.inj h2
   repeat' first|refine gw ?_|refine bs ?_ ?_<;>intro q_
   all_goals first|(exfalso;omega)|exact EntR.of rfl (Ent.tu2 Ent.nil eE)
end Go.Proofs
namespace Go.Proofs
open Go Go.Sx
variable {mx:Int}{pb:Bool}
def ctLaw50P:Ct:={ ι:=Db × ByteArray,inp:=fun x=>[dbA x.1,.v (.string x.2)],out:=fun _=>.v (.bool true),pre:=fun x=>fitDb x.1 }
noncomputable def Γl50p (mx:Int):Ctx:=fun f=>match f with
 | 4=>some (.pure ctSmDb)
 | 6=>some (.pure ctTrP)
 | 7=>some (.pure ctRT)
 | 8=>some (.pure ctSmTl)
 | 5=>some (.pure ctAlive)
 | _=>none
theorem Γl50p_ok {mx:Int}:CtxOk Tryz.prog (GlT mx true) (Γl50p mx):=by
 intro f h hh;simp only[Γl50p] at hh;split at hh<;>simp at hh<;>subst hh
 ·exact rSmDb_ok
 ·exact trP_ok
 ·exact rtC_ok
 ·exact rSmTl_ok
 ·exact alive50_ok mx
theorem lawTP_ok {mx:Int}:Sound Tryz.prog (GlT mx true) 3 ctLaw50P:=by
 refine sb (cc:=true) Γl50p_ok Tryz.func3 ?_;rintro ⟨(d:Db),(s:ByteArray)⟩ (hf:fitDb d)
 have a0:ctAlive.pre ():=trivial;have a1:ctSmDb.pre d:=hf;by_cases hd:SmD d
 case neg =>
  have hsd:smDb d=false:=(zku hd).symm
  repeat' first|refine gl ?_|refine bs ?_ ?_<;>intro q_
  all_goals first|(exfalso;omega)|exact eR
 have hsd:smDb d=true:=smDb_iff.2 hd;by_cases hs:s.size<=500\/65536<s.size
 case neg =>
  have hg:(s.size:Int)>500:=by omega
  have hg2:(s.size:Int)<=65536:=by omega
  repeat' first|refine gl ?_|refine bs ?_ ?_<;>intro q_
  all_goals first|(exfalso;omega)|exact eR
 have hsi:¬((s.size:Int)>500/\(s.size:Int)<=65536):=by omega
 obtain ⟨R,e,a,hP⟩:∃ R e a,trP d s=(R,e,a):=⟨_,_,_,rfl⟩
 have pS:ctSmTl.pre R:=by have:=trP_bg (d:=d) (s:=s);rw[hP] at this;exact this
 have hdf:Unit->SmD d:=fun _=>hd;clear hd;rcases (by omega:¬(s.size:Int)>500\/((s.size:Int)>500/\¬(s.size:Int)<=65536)) with hg|⟨hg,hg2⟩
 all_goals repeat' first|refine gl ?_|refine bs ?_ ?_<;>intro q_
 all_goals first|(exfalso;omega)|skip
 all_goals refine ⟨((d,s):Db × ByteArray),eL,hdf (),?_⟩
 all_goals rw[zc7 hP]
 all_goals simp only[nq,zG,zW,nr,ns,Nat.reduceAdd,reduceIte]
 all_goals repeat' first|refine gl ?_|refine bs ?_ ?_<;>intro q_
 all_goals refine ⟨((d,s):Db × ByteArray),eL,⟨hdf (),hs⟩,?_⟩
 all_goals rw[rt_out hP]
 all_goals simp only[nq,zG,zW,nr,ns,Nat.reduceAdd,reduceIte]
 all_goals repeat' first|refine gl ?_|refine bs ?_ ?_<;>intro q_
 all_goals first
  | (exfalso;simp at q_;done)
  | (exfalso;rename_i q1;simp at q1;done)
  | exact eR
end Go.Proofs
