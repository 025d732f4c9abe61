import Derived.Test.YtnimkdbpoeondaaGreatDoorYz
import Derived.Test.YtnimkdbpoeondaaGreatDoorXz
set_option linter.all false
set_option maxHeartbeats 4000000
namespace Go.Proofs
open Go Go.Sx
variable {mx:Int}{pb:Bool}
attribute [local irreducible] zbs zbi yf xD
def ocGr:Oc:=ocR Unit (fun _=>[]) (fun p _=>nxV p.1=91) zbo
def Γy4:Ctx:=fun f=>match f with
 | 44=>some (.obj zay)
 | _=>none
theorem Γy4_ok:CK mx pb Γy4:=by
 intro f h hh;simp only[Γy4] at hh;split at hh<;>simp at hh<;>subst hh
 ·exact vO
theorem yGr_ok:SQ mx pb 71 ocGr:=by
 refine so (cc:=true) Γy4_ok Tryz.func71 (fun x=>zx x.1) (fun _=>rfl) (fun x=>zx x.2.2.st) ?_;rintro ⟨⟨p,hp⟩,a,o⟩ ⟨h91,ho⟩
 replace h91:nxV p=91:=h91;replace ho:zbo ⟨p,hp⟩ a=o:=ho;subst ho;obtain ⟨h1,h2,h3⟩:=id hp;obtain ⟨hk0,hb0⟩:=un h91 (by decide)
 refine gw ?_;refine ⟨0,Nat × Int,fun i=>⟨[(0,.own 0 0),(3,.v (.int .i64 p.k)),(4,.v (.int .i64 i.2))],[.cells 102 (rC (p.at i.1))],[]⟩,fun i=>p.k<=i.1/\i.1<=p.s.size+1/\((i.1=p.k/\i.2=0)\/(1<=i.2/\i.2<=i.1))/\grE p.s i.1 i.2=grE p.s p.k 0,fun i=>p.s.size+2 - i.1,fun _=>Nat.le_refl _,⟨(p.k,0),⟨Nat.le_refl _,h2,.inl ⟨rfl,rfl⟩,rfl⟩,yv (zcr (p.at p.k)) rfl tmS⟩,?_⟩
 rintro ⟨k,d⟩ ⟨hk1,hk2,hd,hrun⟩
 replace hk1:p.k<=k:=hk1;replace hk2:k<=p.s.size+1:=hk2;replace hd:(k=p.k/\d=0)\/(1<=d/\d<=k):=hd
 replace hrun:grE p.s k d=grE p.s p.k 0:=hrun;have hok:OkR (p.at k):=⟨h1,hk2,h3⟩
 have hkk:(p.at k).k=k:=rfl;have hks:(p.at k).s=p.s:=rfl;have hksz:(p.at k).s.size=p.s.size:=rfl;have hb91:k=p.k->bAt p.s k=91:=fun h=>by rw[h];exact hb0
 have hd1:¬bAt p.s k=91->1<=d:=fun h=>by
  by_cases e:k=p.k
  ·exact absurd (hb91 e) h
  ·omega
 repeat' first|refine gw ?_|refine bs ?_ ?_<;>intro q_
 all_goals first
  | (exfalso;omega)
  | (exfalso;have h:=hb91 (by omega);have q:bAt p.s k=92:=by assumption
     omega)
  | (exfalso;have h:=hb91 (by omega);have q:¬bAt p.s k=91:=by assumption
     exact q h)
  | exact ⟨(k+2,d),⟨(by show p.k<=k+2;omega),(by show k+2<=p.s.size+1;omega),(by show (k+2=p.k/\d=0)\/(1<=d/\d<=((k+2:Nat):Int));omega),(znx (by omega) (by assumption)).symm.trans hrun⟩,(by show p.s.size+2 - (k+2)<p.s.size+2 - k;omega),yv (zcr (p.at (k+2))) rfl tmS⟩
  | exact ⟨(k+1,d+1),⟨(by show p.k<=k+1;omega),(by show k+1<=p.s.size+1;omega),(by show (k+1=p.k/\d+1=0)\/(1<=d+1/\d+1<=((k+1:Nat):Int));omega),(zfw (by omega) (by assumption)).symm.trans hrun⟩,(by show p.s.size+2 - (k+1)<p.s.size+2 - k;omega),yv (zcr (p.at (k+1))) rfl tmS⟩
  | (have h1d:=hd1 (by assumption)
     exact ⟨(k+1,d - 1),⟨(by show p.k<=k+1;omega),(by show k+1<=p.s.size+1;omega),(by show (k+1=p.k/\d - 1=0)\/(1<=d - 1/\d - 1<=((k+1:Nat):Int));omega),(grE_cls (by omega) (by assumption) (by omega)).symm.trans hrun⟩,(by show p.s.size+2 - (k+1)<p.s.size+2 - k;omega),yv (zcr (p.at (k+1))) rfl tmS⟩)
  | exact ⟨(k+1,d),⟨(by show p.k<=k+1;omega),(by show k+1<=p.s.size+1;omega),(by show (k+1=p.k/\d=0)\/(1<=d/\d<=((k+1:Nat):Int));omega),(grE_else (by omega) (by assumption) (by assumption) (by assumption)).symm.trans hrun⟩,(by show p.s.size+2 - (k+1)<p.s.size+2 - k;omega),yv (zcr (p.at (k+1))) rfl tmS⟩
  | exact retR (q:=goR ⟨p,hp⟩ (k+1) (by show k+1<=p.s.size+1;omega)) rfl (zin (hrun.symm.trans (grE_end (by omega) (by assumption) (by omega))) (by show k+1<=p.s.size+1;omega)) (zd rfl rfl) rfl rfl
  | (refine ⟨(⟨p.at k,hok⟩:RX),obE (zx ⟨p.at k,hok⟩),eL,trivial,?_⟩
     exact zkd (q:=goR ⟨p,hp⟩ k hk2) rfl (zk2 (hrun.symm.trans (grE_out (by omega))) hk2) (zd rfl rfl) rfl rfl)
  | skip
end Go.Proofs
namespace Go.Proofs
open Go Go.Sx
variable {mx:Int}{pb:Bool}
attribute [local irreducible] zbs zbi yf xD
theorem idxL_ge (c:UInt8):∀ (l:List UInt8) (i:Int),0<=i->zjc l c i = -1\/(i<=zjc l c i/\zjc l c i<i+l.length)
 | [],i,_=>.inl rfl
 | b::l,i,h=>by
  unfold zjc;cases (b==c) with
  | true=>exact .inr ⟨Int.le_refl _,by simp;omega⟩
  | false =>
   rcases idxL_ge c l (i+1) (by omega) with e|⟨e1,e2⟩
   ·exact .inl e
   ·exact .inr ⟨by show i<=zjc l c (i+1);omega,by show zjc l c (i+1)<_;simp;omega⟩
def ocCl:Oc:=ocR Unit (fun _=>[]) (fun p _=>p.1.k<=p.1.s.size) zbp
def Γy5:Ctx:=fun f=>match f with
 | 44=>some (.obj zay)
 | 105=>some (.pure ctIx)
 | _=>none
theorem Γy5_ok:CK mx pb Γy5:=by
 intro f h hh;simp only[Γy5] at hh;split at hh<;>simp at hh<;>subst hh
 ·exact vO
 ·exact zm3
theorem yCl_ok:SQ mx pb 73 ocCl:=by
 refine so (cc:=true) Γy5_ok Tryz.func73 (fun x=>zx x.1) (fun _=>rfl) (fun x=>zx x.2.2.st) ?_;rintro ⟨⟨p,hp⟩,a,o⟩ ⟨hks,ho⟩
 replace hks:p.k<=p.s.size:=hks;replace ho:zbp ⟨p,hp⟩ a=o:=ho;subst ho;obtain ⟨h1,h2,h3⟩:=id hp;have pp:ctIx.pre (zN p.s p.k p.s.size,125):=trivial;have hr:=idxL_ge (125:Int).toNat.toUInt8 (zN p.s p.k p.s.size).data.toList 0 (Int.le_refl _)
 have hsz:=bcut_rest hks;have hi:zht (zN p.s p.k p.s.size) 125 = -1\/(0<=zht (zN p.s p.k p.s.size) 125/\zht (zN p.s p.k p.s.size) 125<p.s.size - p.k):=by
  rcases hr with e|⟨e1,e2⟩
  ·exact .inl e
  ·refine .inr ⟨e1,?_⟩
   have e3:(zN p.s p.k p.s.size).data.toList.length=p.s.size - p.k:=hsz;rw[e3] at e2;show zjc _ _ _<_;omega
 refine gw ?_;refine ⟨((zN p.s p.k p.s.size,125):ByteArray × Int),eL,(by first|exact trivial|exact fun _=>trivial),?_⟩
 have hcl:clB ⟨p,hp⟩=zht (zN p.s p.k p.s.size) 125:=rfl;rw[show ctIx.out (zN p.s p.k p.s.size,125)=.v (.int .i64 (zht (zN p.s p.k p.s.size) 125)) from rfl];clear hr pp;generalize zht (zN p.s p.k p.s.size) 125=iv at hi hcl ⊢;by_cases h0:0<=iv
 ·obtain ⟨n,rfl⟩:=Int.eq_ofNat_of_zero_le h0;have hn:¬(n:Int)+1=0:=by omega
  have hz:p.k+n+1<=p.s.size:=by omega
  have hr:=runCl_ok (p:=⟨p,hp⟩) (a:=a) hcl hz;refine gw ?_;refine retR (q:=goR ⟨p,hp⟩ (p.k+n+1) (by show p.k+n+1<=p.s.size+1;omega)) rfl hr (zd ?_ rfl) rfl rfl;show D.v (.string (zN p.s ((p.k:Int)+((n:Int)+1) - ((n:Int)+1)).toNat ((p.k:Int)+((n:Int)+1)).toNat))=D.v (.string (zN p.s p.k (p.k+n+1)))
  rw[show ((p.k:Int)+((n:Int)+1) - ((n:Int)+1)).toNat=p.k by omega,show ((p.k:Int)+((n:Int)+1)).toNat=p.k+n+1 by omega]
 ·have h1:iv+1=0:=by omega
  have hr:=runCl_bad (p:=⟨p,hp⟩) (a:=a) (by omega)
  refine gw ?_;refine ⟨(⟨p,hp⟩:RX),obE (zx ⟨p,hp⟩),eL,trivial,?_⟩
  exact zkd (q:=⟨p,hp⟩) rfl hr (zd rfl rfl) rfl rfl
theorem prs_outR {d:Db}{s:ByteArray}{L:List Rg}{e a:Int}(h:prs d s=(L,e,a)):ctPrs.out (d,s)=.tu [zR L,.ag [.v (.int .i64 e),.v (.int .i64 a)]]:=by
 show D.tu [zR (prs d s).1,.ag [.v (.int .i64 (prs d s).2.1),.v (.int .i64 (prs d s).2.2)]]=_;rw[h]
noncomputable def ocXp:Oc:=ocR (ByteArray × ByteArray × ByteArray) (fun x=>[.v (.string x.1),.v (.string x.2.1),.v (.string x.2.2)]) (fun p x=>x.1.size<=100000/\x.2.1.size<=10/\x.2.2.size<=10) zgw
noncomputable def Γy6 (mx:Int) (pb:Bool):Ctx:=fun f=>match f with
 | 44=>some (.obj zay)
 | 103=>some (.pure ctPrs)
 | _=>none
theorem Γy6_ok:CK mx pb (Γy6 mx pb):=by
 intro f h hh;simp only[Γy6] at hh;split at hh<;>simp at hh<;>subst hh
 ·exact vO
 ·exact prsC_ok
theorem yXp_ok:SQ mx pb 70 ocXp:=by
 refine so (cc:=true) Γy6_ok Tryz.func70 (fun x=>zx x.1) (fun _=>rfl) (fun x=>zx x.2.2.st) ?_;rintro ⟨⟨p,hp⟩,⟨t,b,e⟩,o⟩ ⟨⟨ht,hb,he⟩,ho⟩
 replace ht:t.size<=100000:=ht;replace hb:b.size<=10:=hb;replace he:e.size<=10:=he;replace ho:zgw ⟨p,hp⟩ (t,b,e)=o:=ho;subst ho;obtain ⟨h1,h2,h3⟩:=id hp;have hsz:(yt b t).size=b.size+t.size:=size_cat ..
 have hsd:Unit->SmD p.db:=fun _=>h1;clear h1;refine gw ?_;refine ⟨(p.db,yt (yt b t) e),eL,hsd (),?_⟩
 cases hq:prs p.db (yt (yt b t) e) with
 | mk L z =>
 obtain ⟨er,pl⟩:=z;rw[prs_outR hq];by_cases h0:er=0
 ·subst h0;have hr:zgw ⟨p,hp⟩ (t,b,e)=.ok (zR L) ⟨p,hp⟩:=by
   unfold zgw;dsimp only;rw[hq,if_pos rfl]
  refine gw ?_;exact retR (q:=⟨p,hp⟩) rfl hr (zd rfl rfl) rfl rfl
 ·have hr:zgw ⟨p,hp⟩ (t,b,e)=.bad ⟨p,hp⟩:=by
   unfold zgw;dsimp only;rw[hq,if_neg h0]
  refine gw ?_;refine ⟨(⟨p,hp⟩:RX),obE (zx ⟨p,hp⟩),eL,trivial,?_⟩
  exact zkd (q:=⟨p,hp⟩) rfl hr (zd rfl rfl) rfl rfl
end Go.Proofs
namespace Go.Proofs
open Go Go.Sx
variable {mx:Int}{pb:Bool}
def ocEs:Oc:=ocR Unit (fun _=>[]) (fun _ _=>True) vR
def Γy7:Ctx:=fun f=>match f with
 | 44=>some (.obj zay)
 | 67=>some (.obj ocNx)
 | 43=>some (.obj ocTk)
 | _=>none
theorem Γy7_ok:CK mx pb Γy7:=by
 intro f h hh;simp only[Γy7] at hh;split at hh<;>simp at hh<;>subst hh
 ·exact vO
 ·exact yNx_ok
 ·exact yTk_ok
theorem u8w {x:Int}(h:0<=x/\x<=255):IntKind.i64.wrap (IntKind.u8.wrap x)=x:=by
 rw[IntWalk.u8_in x h,yI ⟨by omega,by omega⟩]
theorem m1k:∀ i,i<1->([0]:List Nat)[i]?=some i:=fun i hi=>by
 have:i=0:=by omega
 subst this;rfl
theorem yEs_ok:SQ mx pb 74 ocEs:=by
 refine so (cc:=true) Γy7_ok Tryz.func74 (fun x=>zx x.1) (fun _=>rfl) (fun x=>zx x.2.2.st) ?_;rintro ⟨p,a,o⟩ ⟨_,ho⟩
 replace ho:vR p a=o:=ho;subst ho;refine gw ?_;refine ⟨5,?_⟩
 refine gw ?_;by_cases e1:nxV p.1=92
 case neg =>
  refine ⟨((p,92,false,p):RX × Int × Bool × RX),obE (zx p),eL,tk_n e1 (by decide),?_⟩
  refine gw ?_;refine ⟨(p:RX),obE (zx p),eL,trivial,?_⟩
  exact zkd (q:=p) rfl (by unfold vR tk1;rw[if_neg e1]) (zd rfl rfl) rfl rfl
 refine ⟨((p,92,true,yp p (ua e1 (by decide))):RX × Int × Bool × RX),obE (zx p),eL,tk_y e1 (by decide),?_⟩
 obtain ⟨p1,hp1⟩:∃ q,yp p (ua e1 (by decide))=q:=⟨_,rfl⟩
 have t1:tkR p 92=p1:=(zbn e1 (by decide)).trans hp1;rw[hp1];clear hp1;refine gw ?_;by_cases e2:nxV p1.1=117
 case neg =>
  refine ⟨((p1,117,false,p1):RX × Int × Bool × RX),obE (zx p1),eL,tk_n e2 (by decide),?_⟩
  refine gw ?_;refine ⟨(p1:RX),obE (zx p1),eL,trivial,?_⟩
  exact zkd (q:=p1) rfl (by unfold vR tk1;rw[if_pos e1,t1];(try dsimp only);rw[if_neg e2]) (zd rfl rfl) rfl rfl
 refine ⟨((p1,117,true,yp p1 (ua e2 (by decide))):RX × Int × Bool × RX),obE (zx p1),eL,tk_y e2 (by decide),?_⟩
 obtain ⟨p2,hp2⟩:∃ q,yp p1 (ua e2 (by decide))=q:=⟨_,rfl⟩
 have t2:tkR p1 117=p2:=(zbn e2 (by decide)).trans hp2;rw[hp2];clear hp2;refine gw ?_;by_cases e3:nxV p2.1=123
 case neg =>
  refine ⟨((p2,123,false,p2):RX × Int × Bool × RX),obE (zx p2),eL,tk_n e3 (by decide),?_⟩
  refine gw ?_;refine ⟨(p2:RX),obE (zx p2),eL,trivial,?_⟩
  exact zkd (q:=p2) rfl (by unfold vR tk1;rw[if_pos e1,t1];(try dsimp only);rw[if_pos e2,t2];(try dsimp only);rw[if_neg e3]) (zd rfl rfl) rfl rfl
 refine ⟨((p2,123,true,yp p2 (ua e3 (by decide))):RX × Int × Bool × RX),obE (zx p2),eL,tk_y e3 (by decide),?_⟩
 obtain ⟨p3,hp3⟩:∃ q,yp p2 (ua e3 (by decide))=q:=⟨_,rfl⟩
 have t3:tkR p2 123=p3:=(zbn e3 (by decide)).trans hp3;rw[hp3];clear hp3;refine gw ?_;have hrun0:esF 8 p3 0 0=vR p a:=by unfold vR tk1;rw[if_pos e1,t1];(try dsimp only);rw[if_pos e2,t2];(try dsimp only);rw[if_pos e3,t3]
 refine ⟨0,RX × Int × Nat,fun i=>⟨[(0,.own 0 0),(5,.v (.int .i64 i.2.1)),(6,.v (.int .i64 i.2.2))],[.cells 102 (rC i.1.1)],[]⟩,fun i=>0<=i.2.1/\i.2.1<=1114111/\i.2.2<=6/\esF (8 - i.2.2) i.1 i.2.1 i.2.2=vR p a,fun i=>7 - i.2.2,fun _=>Nat.le_refl _,⟨(p3,0,0),⟨(by show (0:Int)<=0;decide),(by show (0:Int)<=1114111;decide),(by show 0<=6;decide),hrun0⟩,zq [0] tmS ⟨zak (zx p3),trivial⟩ (by decide) m1k (by simp)⟩,?_⟩
 clear hrun0 t1 t2 t3 e1 e2 e3 p1 p2 p3;rintro ⟨q,c,n⟩ ⟨hc0,hc1,hn,hrun⟩
 replace hc0:0<=c:=hc0;replace hc1:c<=1114111:=hc1;replace hn:n<=6:=hn;replace hrun:esF (8 - n) q c n=vR p a:=hrun;obtain ⟨f,hf⟩:∃ f,8 - n=f+1:=⟨7 - n,by omega⟩
 rw[hf,esF] at hrun;have hb:=nxV_bd q.1;have k2:q.1.s.size<=65536:=q.2.2.2;refine gw ?_;by_cases h125:nxV q.1=125
 ·rw[dif_pos h125] at hrun;refine ⟨((q,125,true,yp q (ua h125 (by decide))):RX × Int × Bool × RX),obE (zx q),eL,tk_y h125 (by decide),?_⟩
  by_cases hn0:n=0
  ·subst hn0;rw[if_pos rfl] at hrun;refine gw ?_;refine ⟨(yp q (ua h125 (by decide)):RX),obE (zx (yp q (ua h125 (by decide)))),eL,trivial,?_⟩
   exact zkd (q:=yp q (ua h125 (by decide))) rfl hrun.symm (zd rfl rfl) rfl rfl
  ·rw[if_neg hn0] at hrun;have hn1:¬(n:Int)=0:=by omega
   refine gw ?_;exact retR (q:=yp q (ua h125 (by decide))) rfl hrun.symm (zd rfl rfl) rfl rfl
 rw[dif_neg h125] at hrun;refine ⟨((q,125,false,q):RX × Int × Bool × RX),obE (zx q),eL,tk_n h125 (by decide),?_⟩
 refine gw ?_;refine ⟨(q:RX),obE (zx q),eL,trivial,?_⟩
 by_cases hd:zap (nxV q.1)
 ·rw[dif_pos hd] at hrun;have hdd:=hd;unfold zap at hdd;have hk:=zgd hd;by_cases h57:nxV q.1<=57
  ·have hv:dgI (nxV q.1)=nxV q.1 - 48:=if_pos ⟨by omega,by omega⟩
   have hw:IntKind.i64.wrap (IntKind.u8.wrap (nxV q.1 - 48))=nxV q.1 - 48:=u8w ⟨by omega,by omega⟩
   rw[hv] at hrun
   repeat' first|refine gw ?_|refine bs ?_ ?_<;>intro q_
   all_goals first
    | (refine ⟨(q:RX),obE (zx q),eL,trivial,?_⟩
       exact zkd (q:=q) rfl (hrun.symm.trans (if_pos (by omega))) (zd rfl rfl) rfl rfl)
    | (rw[if_neg (by omega),<- hw] at hrun
       exact ⟨(yp q hk,16*c+IntKind.i64.wrap (IntKind.u8.wrap (nxV q.1 - 48)),n+1),⟨(by show 0<=16*c+IntKind.i64.wrap (IntKind.u8.wrap (nxV q.1 - 48));omega),(by show 16*c+IntKind.i64.wrap (IntKind.u8.wrap (nxV q.1 - 48))<=1114111;omega),(by show n+1<=6;omega),(by show esF (8 - (n+1)) _ _ _=_;rw[show 8 - (n+1)=f by omega];exact hrun)⟩,(by show 7 - (n+1)<7 - n;omega),yv (zx (yp q hk)) rfl tmS⟩)
  ·have hv:dgI (nxV q.1)=nxV q.1 - 65+10:=if_neg (by omega)
   have hw:IntKind.i64.wrap (IntKind.u8.wrap (nxV q.1 - 65))=nxV q.1 - 65:=u8w ⟨by omega,by omega⟩
   rw[hv] at hrun
   repeat' first|refine gw ?_|refine bs ?_ ?_<;>intro q_
   all_goals first
    | (refine ⟨(q:RX),obE (zx q),eL,trivial,?_⟩
       exact zkd (q:=q) rfl (hrun.symm.trans (if_pos (by omega))) (zd rfl rfl) rfl rfl)
    | (rw[if_neg (by omega),show 16*c+(nxV q.1 - 65+10)=16*c+IntKind.i64.wrap (IntKind.u8.wrap (nxV q.1 - 65))+10 by omega] at hrun
       exact ⟨(yp q hk,16*c+IntKind.i64.wrap (IntKind.u8.wrap (nxV q.1 - 65))+10,n+1),⟨(by show 0<=16*c+IntKind.i64.wrap (IntKind.u8.wrap (nxV q.1 - 65))+10;omega),(by show 16*c+IntKind.i64.wrap (IntKind.u8.wrap (nxV q.1 - 65))+10<=1114111;omega),(by show n+1<=6;omega),(by show esF (8 - (n+1)) _ _ _=_;rw[show 8 - (n+1)=f by omega];exact hrun)⟩,(by show 7 - (n+1)<7 - n;omega),yv (zx (yp q hk)) rfl tmS⟩)
 ·rw[dif_neg hd] at hrun;unfold zap at hd
  repeat' first|refine gw ?_|refine bs ?_ ?_<;>intro q_
  all_goals first
   | (exfalso;omega)
   | (refine ⟨(q:RX),obE (zx q),eL,trivial,?_⟩
      exact zkd (q:=q) rfl hrun.symm (zd rfl rfl) rfl rfl)
end Go.Proofs
