import Derived.Test.YtnimkdbpoeondaaGreatDoorZwz
set_option linter.all false
set_option maxHeartbeats 4000000
namespace Go.Proofs
open Go Go.Sx
variable {s:ByteArray}{c a:Int}{b:Int}
variable {mx:Int}{pb:Bool}
attribute [local irreducible] zbs zbi yf xD
structure Gz where
 k:Nat
 e:Int
 a:Int
noncomputable def gX (db:Db) (s:ByteArray) (p:Gz):List D:=dbX (dD db)++[.v (.bool (usB db)),.v (.string s),.v (.int .i64 p.k),.v (.int .i64 p.e),.v (.int .i64 p.a)]
theorem zg (db:Db) (s:ByteArray) (p:Gz):pdL (gX db s p)=true:=by
 simp[gX,dbX,pdL,pd,dD_pd]
def gNx (s:ByteArray) (p:Gz):Int:=if p.e=0/\p.k<s.size then bAt s p.k else 0
def gFl (p:Gz) (c a:Int):Gz:=if p.e=0 then ⟨p.k,c,a⟩ else p
def gAd (p:Gz):Gz:=⟨p.k+1,p.e,p.a⟩
def gBl (s:ByteArray) (p:Gz):Gz:=if p.e=0 then ⟨blk s p.k,p.e,p.a⟩ else p
def gWt (s:ByteArray) (p:Gz) (b:Int):Gz:=if gNx s p=b then gAd p else gFl p 3 p.k
abbrev GI:=Db × ByteArray × Gz
def GOk (i:GI):Prop:=SmD i.1/\i.2.1.size<=1000/\i.2.2.k<=i.2.1.size
noncomputable def ocG (A B:Type) (inpD:A->List D) (f:B->D) (pre:GI->A->Prop) (run:GI->A->B × Gz):Oc:={ ι:=GI × A × B × Gz,t:=182,before:=fun x=>gX x.1.1 x.1.2.1 x.1.2.2,inp:=fun x=>inpD x.2.1,pre:=fun x=>GOk x.1/\pre x.1 x.2.1/\run x.1 x.2.1=x.2.2,after:=fun x=>gX x.1.1 x.1.2.1 x.2.2.2,res:=fun x=>.inl (f x.2.2.1) }
theorem uX {p:Gz}(h:gNx s p=b) (hb:b≠0):p.e=0/\p.k<s.size/\bAt s p.k=b:=by
 unfold gNx at h;split at h
 ·rename_i hk;exact ⟨hk.1,hk.2,h⟩
 ·exact absurd h.symm hb
theorem zlr (s:ByteArray) (p:Gz):0<=gNx s p/\gNx s p<=255:=by
 unfold gNx;have:=uZ s p.k;split<;>omega
noncomputable def ocGo:Oc:={ ι:=GI,t:=182,before:=fun x=>gX x.1 x.2.1 x.2.2,inp:=fun _=>[],pre:=fun _=>True,after:=fun x=>gX x.1 x.2.1 x.2.2,res:=fun x=>.inl (.v (.bool (decide (x.2.2.e=0)))) }
theorem zlq:SQ mx pb 137 ocGo:=by
 refine so (cc:=true) zaq Tryz.func137 (fun x=>zg x.1 x.2.1 x.2.2) (fun _=>rfl) (fun x=>zg x.1 x.2.1 x.2.2) ?_;rintro ⟨db,s,p⟩ _;refine gw ?_;exact And.intro (zd rfl rfl) (And.intro rfl (obE (zg db s p)))
noncomputable def Γgk:Ctx:=fun f=>match f with
 | 137=>some (.obj ocGo)
 | _=>none
theorem Γgk_ok:CK mx pb Γgk:=by
 intro f h hh;simp only[Γgk] at hh;split at hh<;>simp at hh<;>subst hh
 ·exact zlq
noncomputable def ocGf:Oc:=ocG (Int × Int) Unit (fun x=>[.v (.int .i64 x.1),.v (.int .i64 x.2)]) (fun _=>.tu []) (fun _ _=>True) (fun i x=>((),gFl i.2.2 x.1 x.2))
theorem zb2:SQ mx pb 136 ocGf:=by
 refine so (cc:=true) Γgk_ok Tryz.func136 (fun x=>zg x.1.1 x.1.2.1 x.1.2.2) (fun _=>rfl) (fun x=>zg x.1.1 x.1.2.1 x.2.2.2) ?_;rintro ⟨⟨db,s,p⟩,⟨c,a⟩,u,q⟩ ⟨_,_,hr⟩
 replace hr:((),gFl p c a)=(u,q):=hr;obtain ⟨rfl,rfl⟩:=Prod.mk.inj hr;refine gw ?_;refine ⟨((db,s,p):GI),obE (zg db s p),eL,trivial,?_⟩
 by_cases he:p.e=0
 ·have hq:gFl p c a=⟨p.k,c,a⟩:=if_pos he
  repeat' first|refine gw ?_|refine bs ?_ ?_<;>intro q_
  all_goals first|(exfalso;omega)|exact And.intro (zd rfl rfl) (And.intro rfl (obE (zg db s ⟨p.k,c,a⟩) (by show _=gX db s (gFl p c a);rw[hq];rfl)))
 ·have hq:gFl p c a=p:=if_neg he
  repeat' first|refine gw ?_|refine bs ?_ ?_<;>intro q_
  all_goals first|(exfalso;omega)|exact And.intro (zd rfl rfl) (And.intro rfl (obE (zg db s p) (by show _=gX db s (gFl p c a);rw[hq];rfl)))
noncomputable def ocGn:Oc:={ ι:=GI,t:=182,before:=fun x=>gX x.1 x.2.1 x.2.2,inp:=fun _=>[],pre:=fun x=>x.2.1.size<=1000,after:=fun x=>gX x.1 x.2.1 x.2.2,res:=fun x=>.inl (.v (.int .u8 (gNx x.2.1 x.2.2))) }
theorem zb1:SQ mx pb 166 ocGn:=by
 refine so (cc:=true) Γgk_ok Tryz.func166 (fun x=>zg x.1 x.2.1 x.2.2) (fun _=>rfl) (fun x=>zg x.1 x.2.1 x.2.2) ?_;rintro ⟨db,s,p⟩ (hs:s.size<=1000)
 refine gx ?_;refine .inr ⟨.stage [0] (.alt 1 [] (.done [2,3,4,5,6,7,8,9,10,11,12,13,14]) .nil),by decide +kernel,?_⟩
 refine xs1 ?_
 repeat' first|refine gx ?_|refine gy ?_|refine xc1 ?_ ?_|refine xs4 ?_ ?_|exact rfl
 refine ⟨((db,s,p):GI),obE (zg db s p),eL,trivial,?_⟩
 by_cases he:p.e=0
 ·by_cases hk:p.k<s.size
  ·have hn:gNx s p=bAt s p.k:=if_pos ⟨he,hk⟩
   repeat' first|refine gx ?_|refine gy ?_|refine xc1 ?_ ?_|refine xs4 ?_ ?_|exact rfl
   repeat' first|refine gw ?_|refine bs ?_ ?_<;>intro q_
   all_goals first|(exfalso;omega)|exact And.intro (zd (by show D.v (.int .u8 (bAt s ((p.k:Int)).toNat))=D.v (.int .u8 (gNx s p));rw[hn,Int.toNat_natCast]) rfl) (And.intro rfl (obE (zg db s p)))
  ·have hn:gNx s p=0:=if_neg fun h=>hk h.2
   repeat' first|refine gx ?_|refine gy ?_|refine xc1 ?_ ?_|refine xs4 ?_ ?_|exact rfl
   repeat' first|refine gw ?_|refine bs ?_ ?_<;>intro q_
   all_goals first|(exfalso;omega)|exact And.intro (zd (by show D.v (.int .u8 0)=D.v (.int .u8 (gNx s p));rw[hn]) rfl) (And.intro rfl (obE (zg db s p)))
 ·have hn:gNx s p=0:=if_neg fun h=>he h.1
  repeat' first|refine gx ?_|refine gy ?_|refine xc1 ?_ ?_|refine xs4 ?_ ?_|exact rfl
  repeat' first|refine gw ?_|refine bs ?_ ?_<;>intro q_
  all_goals first|(exfalso;omega)|exact And.intro (zd (by show D.v (.int .u8 0)=D.v (.int .u8 (gNx s p));rw[hn]) rfl) (And.intro rfl (obE (zg db s p)))
noncomputable def Γgn:Ctx:=fun f=>match f with
 | 137=>some (.obj ocGo)
 | 166=>some (.obj ocGn)
 | 136=>some (.obj ocGf)
 | _=>none
theorem Γgn_ok:CK mx pb Γgn:=by
 intro f h hh;simp only[Γgn] at hh;split at hh<;>simp at hh<;>subst hh
 ·exact zlq
 ·exact zb1
 ·exact zb2
noncomputable def ocGb:Oc:=ocG Unit Unit (fun _=>[]) (fun _=>.tu []) (fun _ _=>True) (fun i _=>((),gBl i.2.1 i.2.2))
theorem zlu:SQ mx pb 134 ocGb:=by
 refine so (cc:=true) Γgn_ok Tryz.func134 (fun x=>zg x.1.1 x.1.2.1 x.1.2.2) (fun _=>rfl) (fun x=>zg x.1.1 x.1.2.1 x.2.2.2) ?_;rintro ⟨⟨db,s,p⟩,⟨⟩,u,q⟩ ⟨⟨hsm,hs,hk⟩,_,hr⟩
 replace hr:((),gBl s p)=(u,q):=hr;obtain ⟨rfl,rfl⟩:=Prod.mk.inj hr;replace hs:s.size<=1000:=hs;replace hk:p.k<=s.size:=hk;refine gw ?_;refine ⟨0,Nat,fun k=>⟨[(0,.own 0 0)],[.cells 182 (gX db s ⟨k,p.e,p.a⟩)],[]⟩,fun k=>p.k<=k/\k<=s.size/\(p.e=0->blk s k=blk s p.k)/\(¬p.e=0->k=p.k),fun k=>s.size - k,fun _=>Nat.le_refl _,⟨p.k,⟨Nat.le_refl _,hk,fun _=>rfl,fun _=>rfl⟩,yv (zg db s ⟨p.k,p.e,p.a⟩) rfl tmS⟩,?_⟩
 rintro k ⟨hk1,hk2,hk3,hk4⟩
 by_cases hb:gNx s ⟨k,p.e,p.a⟩=32
 ·obtain ⟨e0,e1,e2⟩:=uX hb (by decide)
  replace e0:p.e=0:=e0;replace e1:k<s.size:=e1;replace e2:bAt s k=32:=e2;refine gw ?_;refine ⟨((db,s,⟨k,p.e,p.a⟩):GI),obE (zg db s ⟨k,p.e,p.a⟩),eL,hs,?_⟩
  refine gw ?_;exact ⟨k+1,⟨by omega,by omega,fun h=>(uI e1 e2).trans (hk3 h),fun h=>absurd e0 h⟩,(by show s.size - (k+1)<s.size - k;omega),yv (zg db s ⟨k+1,p.e,p.a⟩) rfl tmS⟩
 ·have hq:gX db s ⟨k,p.e,p.a⟩=gX db s (gBl s p):=by
   by_cases he:p.e=0
   ·have e4:blk s k=k:=yz fun h=>hb ((if_pos (show p.e=0/\k<s.size from ⟨he,h.1⟩)).trans h.2)
    rw[show gBl s p=⟨blk s p.k,p.e,p.a⟩ from if_pos he,<- hk3 he,e4]
   ·rw[show gBl s p=p from if_neg he,hk4 he]
  refine gw ?_;refine ⟨((db,s,⟨k,p.e,p.a⟩):GI),obE (zg db s ⟨k,p.e,p.a⟩),eL,hs,?_⟩
  refine gw ?_;exact And.intro (zd rfl rfl) (And.intro rfl (obE (zg db s ⟨k,p.e,p.a⟩) hq))
noncomputable def ocGw:Oc:=ocG Int Unit (fun b=>[.v (.int .u8 b)]) (fun _=>.tu []) (fun _ b=>0<b/\b<=255) (fun i b=>((),gWt i.2.1 i.2.2 b))
theorem zhw:SQ mx pb 167 ocGw:=by
 refine so (cc:=true) Γgn_ok Tryz.func167 (fun x=>zg x.1.1 x.1.2.1 x.1.2.2) (fun _=>rfl) (fun x=>zg x.1.1 x.1.2.1 x.2.2.2) ?_;rintro ⟨⟨db,s,p⟩,b,u,q⟩ ⟨⟨hsm,hs,hk⟩,⟨(hb0:0<b),(hb1:b<=255)⟩,hr⟩
 replace hr:((),gWt s p b)=(u,q):=hr;obtain ⟨rfl,rfl⟩:=Prod.mk.inj hr;replace hs:s.size<=1000:=hs;replace hk:p.k<=s.size:=hk;refine gw ?_;refine ⟨((db,s,p):GI),obE (zg db s p),eL,hs,?_⟩
 by_cases h:gNx s p=b
 ·have hq:gWt s p b=gAd p:=if_pos h;obtain ⟨e0,e1,e2⟩:=uX h (by omega)
  repeat' first|refine gw ?_|refine bs ?_ ?_<;>intro q_
  all_goals first|(exfalso;omega)|exact And.intro (zd rfl rfl) (And.intro rfl (obE (zg db s (gAd p)) (by show _=gX db s (gWt s p b);rw[hq];rfl)))
 ·have hq:gWt s p b=gFl p 3 p.k:=if_neg h
  repeat' first|refine gw ?_|refine bs ?_ ?_<;>intro q_
  all_goals first|(exfalso;omega)|skip
  refine ⟨(((db,s,p),(3,(p.k:Int)),(),gFl p 3 p.k):GI × (Int × Int) × Unit × Gz),obE (zg db s p),eL,⟨⟨hsm,hs,hk⟩,trivial,rfl⟩,?_⟩
  refine gw ?_;exact And.intro (zd rfl rfl) (And.intro rfl (obE (zg db s (gFl p 3 p.k)) (by show _=gX db s (gWt s p b);rw[hq];rfl)))
theorem blk_le {k:Nat}(h:k<=s.size):k<=blk s k/\blk s k<=s.size:=zae _ _ h
theorem zn2 (p:Gz) (c a:Int):(gFl p c a).k=p.k:=by unfold gFl;split<;>rfl
theorem zg0 {p:Gz}(hb:b≠0) (h:p.k<=s.size):p.k<=(gWt s p b).k/\(gWt s p b).k<=s.size:=by
 unfold gWt;split
 ·rename_i hn;have:=(uX hn hb).2.1;exact ⟨Nat.le_succ _,this⟩
 ·rw[zn2];exact ⟨Nat.le_refl _,h⟩
theorem zlv {p:Gz}(h:p.k<=s.size):p.k<=(gBl s p).k/\(gBl s p).k<=s.size:=by
 unfold gBl;split
 ·exact blk_le h
 ·exact ⟨Nat.le_refl _,h⟩
structure GM (s:ByteArray) (p q:Gz):Prop where
 lo:p.k<=q.k
 hi:q.k<=s.size
 st:q.e=0->p.e=0
theorem GM.trans {p q r:Gz}(h:GM s p q) (h':GM s q r):GM s p r:=⟨Nat.le_trans h.lo h'.lo,h'.hi,fun e=>h.st (h'.st e)⟩
theorem GM.refl {p:Gz}(h:p.k<=s.size):GM s p p:=⟨Nat.le_refl _,h,id⟩
theorem GM.fl {p:Gz}(hc:¬c=0) (h:p.k<=s.size):GM s p (gFl p c a):=by
 unfold gFl;split
 ·exact ⟨Nat.le_refl _,h,fun e=>absurd e hc⟩
 ·exact GM.refl h
theorem GM.wt {p:Gz}(hb:b≠0) (h:p.k<=s.size):GM s p (gWt s p b):=by
 have h1:=zg0 hb h;refine ⟨h1.1,h1.2,fun e=>?_⟩
 unfold gWt at e;split at e
 ·exact e
 ·exact (GM.fl (s:=s) (by decide) h).st e
theorem GM.bl {p:Gz}(h:p.k<=s.size):GM s p (gBl s p):=by
 have h1:=zlv h;refine ⟨h1.1,h1.2,fun e=>?_⟩
 unfold gBl at e;split at e
 ·assumption
 ·exact e
theorem GM.ad {p:Gz}(h:gNx s p≠0):GM s p (gAd p):=⟨Nat.le_succ _,(uX rfl h).2.1,id⟩
theorem gNx_e {p:Gz}(h:¬p.e=0):gNx s p=0:=if_neg fun hh=>h hh.1
theorem gFl_e {p:Gz}(h:¬p.e=0):gFl p c a=p:=if_neg h
theorem zn4 {p:Gz}(h:¬p.e=0):gBl s p=p:=if_neg h
theorem zlp {p:Gz}(h:¬p.e=0) (hb:b≠0):gWt s p b=p:=by
 unfold gWt;rw[if_neg (by rw[gNx_e h];exact fun hh=>hb hh.symm),gFl_e h]
theorem yq {p:Gz}(hc:¬c=0):¬(gFl p c a).e=0:=by
 unfold gFl;split
 ·exact hc
 ·assumption
end Go.Proofs
namespace Go.Proofs
open Go Go.Sx
variable {s:ByteArray}{p:Gz}{b:Int}{n:Int}{c:Nat}{i:Nat}
variable {mx:Int}{pb:Bool}
def hsF (s:ByteArray) (b:Int):Nat->Nat->Bool
 | 0,_=>false
 | n+1,i=>if bAt s i=b then true else hsF s b n (i+1)
def hsB (s:ByteArray) (b:Int):Bool:=hsF s b s.size 0
theorem hsF_y (hi:i<s.size) (h:bAt s i=b):hsF s b (s.size - i) i=true:=by
 obtain ⟨n,hn⟩:∃ n,s.size - i=n+1:=⟨s.size - i - 1,by omega⟩
 rw[hn,hsF,if_pos h]
theorem hsF_n (hi:i<s.size) (h:¬bAt s i=b):hsF s b (s.size - i) i=hsF s b (s.size - (i+1)) (i+1):=by
 obtain ⟨n,hn⟩:∃ n,s.size - i=n+1:=⟨s.size - i - 1,by omega⟩
 rw[hn,hsF,if_neg h,show s.size - (i+1)=n by omega]
theorem hsF_o (hi:¬i<s.size):hsF s b (s.size - i) i=false:=by
 rw[show s.size - i=0 by omega];rfl
def ctHs:Ct:={ ι:=ByteArray × Int,inp:=fun x=>[.v (.string x.1),.v (.int .u8 x.2)],out:=fun x=>.v (.bool (hsB x.1 x.2)),pre:=fun x=>x.1.size<=1000 }
theorem zHs_ok:SS mx pb 238 ctHs:=by
 refine sb (cc:=true) zH Tryz.func238 ?_;rintro ⟨s,b⟩ (hs:s.size<=1000)
 refine gw ?_;refine ⟨0,Nat,fun i=>⟨[(0,.v (.string s)),(1,.v (.int .u8 b)),(5,.v (.int .i64 i))],[],[]⟩,fun i=>i<=s.size/\hsF s b (s.size - i) i=hsB s b,fun i=>s.size - i,fun _=>Nat.zero_le _,⟨0,⟨Nat.zero_le _,rfl⟩,StLe.ren [] tmS trivial (by decide)⟩,?_⟩
 rintro i ⟨hi,he⟩
 by_cases hl:i<s.size
 ·by_cases hb:bAt s i=b
  ·have hr:hsB s b=true:=he.symm.trans (hsF_y hl hb)
   repeat' first|refine gw ?_|refine bs ?_ ?_<;>intro q_
   all_goals first|(exfalso;omega)|exact zd (congrArg (fun x=>D.v (.bool x)) hr.symm) rfl
  ·have hr:=hsF_n hl hb
   repeat' first|refine gw ?_|refine bs ?_ ?_<;>intro q_
   all_goals first|(exfalso;omega)|exact ⟨i+1,⟨hl,hr.symm.trans he⟩,(by show s.size - (i+1)<s.size - i;omega),StLe.ren [] tmS trivial (by decide)⟩
 ·have hr:hsB s b=false:=he.symm.trans (hsF_o hl)
  repeat' first|refine gw ?_|refine bs ?_ ?_<;>intro q_
  all_goals first|(exfalso;omega)|exact zd (congrArg (fun x=>D.v (.bool x)) hr.symm) rfl
def spZ (b:Int):Bool:=hsB spcB b
def ctSp:Ct:={ ι:=Int,inp:=fun b=>[.v (.int .u8 b)],out:=fun b=>.v (.bool (spZ b)),pre:=fun _=>True }
noncomputable def Γgs:Ctx:=fun f=>match f with
 | 238=>some (.pure ctHs)
 | _=>none
theorem Γgs_ok:CK mx pb Γgs:=by
 intro f h hh;simp only[Γgs] at hh;split at hh<;>simp at hh<;>subst hh
 ·exact zHs_ok
theorem zSp_ok:SS mx pb 220 ctSp:=by
 refine sb (cc:=true) Γgs_ok Tryz.func220 ?_;intro (b:Int) _;have p1:ctHs.pre (spcB,b):=(by show spcB.size<=1000;decide)
 repeat' first|refine gw ?_|refine bs ?_ ?_<;>intro q_
 all_goals exact zd rfl rfl
def leB (b:Int):Bool:=decide (32<b/\b<127/\spZ b=false)
def ctLe:Ct:={ ι:=Int,inp:=fun b=>[.v (.int .u8 b)],out:=fun b=>.v (.bool (leB b)),pre:=fun b=>0<=b/\b<=255 }
noncomputable def Γgl:Ctx:=fun f=>match f with
 | 220=>some (.pure ctSp)
 | _=>none
theorem Γgl_ok:CK mx pb Γgl:=by
 intro f h hh;simp only[Γgl] at hh;split at hh<;>simp at hh<;>subst hh
 ·exact zSp_ok
theorem zLe_ok:SS mx pb 218 ctLe:=by
 refine sb (cc:=true) Γgl_ok Tryz.func218 ?_;rintro (b:Int) ⟨(h0:0<=b),(h1:b<=255)⟩
 have p1:ctSp.pre b:=trivial;by_cases c1:b>32
 ·by_cases c2:b<127
  ·cases hs:spZ b
   ·have hr:leB b=true:=decide_eq_true ⟨c1,c2,hs⟩
    have ho:ctSp.out b=.v (.bool false):=congrArg (fun x=>D.v (.bool x)) hs
    repeat' first|refine gw ?_|refine bs ?_ ?_<;>intro q_
    all_goals first|(exfalso;omega)|skip
    all_goals try (refine ⟨b,eL,fun _=>p1,?_⟩)
    all_goals try rw[ho]
    repeat' first|refine gw ?_|refine bs ?_ ?_<;>intro q_
    all_goals first|(exfalso;omega)|exact zd (by show D.v (.bool _)=D.v (.bool (leB b));rw[hr];first|done|rfl|(rw[hs];rfl)) rfl
   ·have hr:leB b=false:=decide_eq_false fun h=>by rw[hs] at h;exact Bool.noConfusion h.2.2
    have ho:ctSp.out b=.v (.bool true):=congrArg (fun x=>D.v (.bool x)) hs
    repeat' first|refine gw ?_|refine bs ?_ ?_<;>intro q_
    all_goals first|(exfalso;omega)|skip
    all_goals try (refine ⟨b,eL,fun _=>p1,?_⟩)
    all_goals try rw[ho]
    repeat' first|refine gw ?_|refine bs ?_ ?_<;>intro q_
    all_goals first|(exfalso;omega)|exact zd (by show D.v (.bool _)=D.v (.bool (leB b));rw[hr];first|done|rfl|(rw[hs];rfl)) rfl
  ·have hr:leB b=false:=decide_eq_false fun h=>c2 h.2.1
   repeat' first|refine gw ?_|refine bs ?_ ?_<;>intro q_
   all_goals first|(exfalso;omega)|exact zd (by show D.v (.bool _)=D.v (.bool (leB b));rw[hr];first|done|rfl|(rw[hs];rfl)) rfl
 ·have hr:leB b=false:=decide_eq_false fun h=>c1 h.1
  repeat' first|refine gw ?_|refine bs ?_ ?_<;>intro q_
  all_goals first|(exfalso;omega)|exact zd (by show D.v (.bool _)=D.v (.bool (leB b));rw[hr];first|done|rfl|(rw[hs];rfl)) rfl
def hxT:ByteArray:=⟨#[48,49,50,51,52,53,54,55,56,57,65,66,67,68,69,70]⟩
theorem hxT_at:∀ i:Fin 16,xR (bAt hxT i.1)=(i.1:Int):=by decide
theorem hxT_no (h:∀ j:Nat,j<16->¬bAt hxT j=b):xR b = -1:=by
 unfold xR;split
 ·rename_i hd;exfalso;obtain ⟨n,rfl⟩:∃ n:Nat,b=n+48:=⟨(b - 48).toNat,by omega⟩
  have e:∀ i:Fin 10,bAt hxT i.1=(i.1:Int)+48:=by decide
  exact h n (by omega) (e ⟨n,by omega⟩)
 ·split
  ·rename_i hd;exfalso;obtain ⟨n,rfl⟩:∃ n:Nat,b=n+65:=⟨(b - 65).toNat,by omega⟩
   have e:∀ i:Fin 6,bAt hxT (i.1+10)=(i.1:Int)+65:=by decide
   exact h (n+10) (by omega) (e ⟨n,by omega⟩)
  ·rfl
theorem valV_b2 (b:Int): -1<=xR b/\xR b<=15:=by
 unfold xR;split
 ·omega
 ·split<;>omega
def ctDg:Ct:={ ι:=Int,inp:=fun b=>[.v (.int .u8 b)],out:=fun b=>.v (.int .i64 (xR b)),pre:=fun _=>True }
theorem zDg_ok:SS mx pb 237 ctDg:=by
 refine sb (cc:=true) zH Tryz.func237 ?_;intro (b:Int) _;have hz:hxT.size=16:=rfl;refine gw ?_;refine ⟨0,Nat,fun i=>⟨[(0,.v (.int .u8 b)),(3,.v (.int .i64 i))],[],[]⟩,fun i=>i<=16/\∀ j:Nat,j<i->¬bAt hxT j=b,fun i=>16 - i,fun _=>Nat.zero_le _,⟨0,⟨Nat.zero_le _,fun j hj=>by omega⟩,StLe.ren [] tmS trivial (by decide)⟩,?_⟩
 rintro i ⟨hi,hn⟩
 replace hi:i<=16:=hi;by_cases hl:i<16
 ·by_cases hb:bAt hxT i=b
  ·have hr:xR b=(i:Int):=by rw[<- hb];exact hxT_at ⟨i,hl⟩
   repeat' first|refine gw ?_|refine bs ?_ ?_<;>intro q_
   all_goals first|(exfalso;omega)|exact zd (congrArg (fun x=>D.v (.int .i64 x)) hr.symm) rfl
  ·repeat' first|refine gw ?_|refine bs ?_ ?_<;>intro q_
   all_goals first|(exfalso;omega)|exact ⟨i+1,⟨hl,zo hn hb⟩,(by show 16 - (i+1)<16 - i;omega),StLe.ren [] tmS trivial (by decide)⟩
 ·have hr:xR b = -1:=hxT_no fun j hj=>hn j (by omega)
  repeat' first|refine gw ?_|refine bs ?_ ?_<;>intro q_
  all_goals first|(exfalso;omega)|exact zd (congrArg (fun x=>D.v (.int .i64 x)) hr.symm) rfl
def gNmE (s:ByteArray) (p:Gz) (n:Int) (c:Nat):Int × Gz:=(n,gWt s (if c=0 then gFl p 3 p.k else p) 125)
def gNmF (s:ByteArray):Nat->Gz->Int->Nat->Int × Gz
 | 0,p,n,c=>gNmE s p n c
 | f+1,p,n,c=>if 0<=xR (gNx s p) then (if 1114111<16*n+xR (gNx s p) then (0,gFl p 3 p.k) else gNmF s f (gAd p) (16*n+xR (gNx s p)) (c+1)) else gNmE s p n c
def gNmG (s:ByteArray) (p:Gz) (n:Int) (c:Nat):Int × Gz:=gNmF s (6 - c) p n c
def gNm (s:ByteArray) (p:Gz):Int × Gz:=gNmG s p 0 0
theorem gNm_y (hc:c<6) (h:0<=xR (gNx s p)) (hb:¬1114111<16*n+xR (gNx s p)):gNmG s p n c=gNmG s (gAd p) (16*n+xR (gNx s p)) (c+1):=by
 unfold gNmG;rw[show 6 - c=(6 - (c+1))+1 by omega,gNmF,if_pos h,if_neg hb]
theorem gNm_b (hc:c<6) (h:0<=xR (gNx s p)) (hb:1114111<16*n+xR (gNx s p)):gNmG s p n c=(0,gFl p 3 p.k):=by
 unfold gNmG;rw[show 6 - c=(6 - (c+1))+1 by omega,gNmF,if_pos h,if_pos hb]
theorem gNm_n (h:¬(c<6/\0<=xR (gNx s p))):gNmG s p n c=gNmE s p n c:=by
 unfold gNmG;cases hf:6 - c with
 | zero=>rfl
 | succ f=>rw[gNmF,if_neg fun hh=>h ⟨by omega,hh⟩]
theorem gNx_v (h:0<=xR (gNx s p)):p.e=0/\p.k<s.size:=by
 have h1:gNx s p≠0:=fun h0=>by rw[h0] at h;revert h;decide
 have:=uX (s:=s) (p:=p) rfl h1;exact ⟨this.1,this.2.1⟩
noncomputable def ocGm:Oc:=ocG Unit Int (fun _=>[]) (fun c=>.v (.int .i64 c)) (fun _ _=>True) (fun i _=>gNm i.2.1 i.2.2)
noncomputable def Γgm:Ctx:=fun f=>match f with
 | 166=>some (.obj ocGn)
 | 136=>some (.obj ocGf)
 | 167=>some (.obj ocGw)
 | 237=>some (.pure ctDg)
 | _=>none
theorem Γgm_ok:CK mx pb Γgm:=by
 intro f h hh;simp only[Γgm] at hh;split at hh<;>simp at hh<;>subst hh
 ·exact zb1
 ·exact zb2
 ·exact zhw
 ·exact zDg_ok
theorem gNm_ok:SQ mx pb 219 ocGm:=by
 refine so (cc:=true) Γgm_ok Tryz.func219 (fun x=>zg x.1.1 x.1.2.1 x.1.2.2) (fun _=>rfl) (fun x=>zg x.1.1 x.1.2.1 x.2.2.2) ?_;rintro ⟨⟨db,s,p⟩,⟨⟩,v,q⟩ ⟨⟨hsm,hs,hk⟩,_,hr⟩
 replace hs:s.size<=1000:=hs;replace hk:p.k<=s.size:=hk;replace hr:gNmG s p 0 0=(v,q):=hr;refine gw ?_;refine ⟨0,Gz × Int × Nat,fun|(p1,n,c)=>⟨[(0,.own 0 0),(3,.v (.int .i64 n)),(4,.v (.int .i64 c))],[.cells 182 (gX db s p1)],[]⟩,fun|(p1,n,c)=>p1.k<=s.size/\0<=n/\n<=1114111/\c<=6/\gNmG s p1 n c=(v,q),fun x=>6 - x.2.2,fun _=>Nat.le_refl _,⟨(p,0,0),⟨hk,by decide,by decide,by decide,hr⟩,yv (zg db s p) rfl tmS⟩,?_⟩
 rintro ⟨p1,n,c⟩ ⟨(j1:p1.k<=s.size),(j2:0<=n),(j3:n<=1114111),(j4:c<=6),(j5:gNmG s p1 n c=(v,q))⟩
 have vb:=valV_b2 (gNx s p1)
 by_cases c1:c<6
 ·by_cases c2:0<=xR (gNx s p1)
  ·obtain ⟨e0,e1⟩:=gNx_v c2;by_cases c3:16*n+xR (gNx s p1)>1114111
   ·have hb:=gNm_b (n:=n) c1 c2 (by omega)
    rw[hb] at j5;obtain ⟨rfl,rfl⟩:=Prod.mk.inj j5
    repeat' first|refine gw ?_|refine bs ?_ ?_<;>intro q_
    all_goals first|(exfalso;omega)|skip
    refine ⟨((db,s,p1):GI),obE (zg db s p1),eL,hs,?_⟩
    repeat' first|refine gw ?_|refine bs ?_ ?_<;>intro q_
    all_goals first|(exfalso;omega)|skip
    refine ⟨((db,s,p1):GI),obE (zg db s p1),eL,hs,?_⟩
    repeat' first|refine gw ?_|refine bs ?_ ?_<;>intro q_
    all_goals first|(exfalso;omega)|skip
    refine ⟨(((db,s,p1),(3,(p1.k:Int)),(),gFl p1 3 p1.k):GI × (Int × Int) × Unit × Gz),obE (zg db s p1),eL,⟨⟨hsm,hs,j1⟩,trivial,rfl⟩,?_⟩
    refine gw ?_;exact And.intro (zd rfl rfl) (And.intro rfl (obE (zg db s (gFl p1 3 p1.k))))
   ·have hy:=gNm_y (n:=n) c1 c2 (by omega)
    repeat' first|refine gw ?_|refine bs ?_ ?_<;>intro q_
    all_goals first|(exfalso;omega)|skip
    refine ⟨((db,s,p1):GI),obE (zg db s p1),eL,hs,?_⟩
    repeat' first|refine gw ?_|refine bs ?_ ?_<;>intro q_
    all_goals first|(exfalso;omega)|skip
    refine ⟨((db,s,p1):GI),obE (zg db s p1),eL,hs,?_⟩
    repeat' first|refine gw ?_|refine bs ?_ ?_<;>intro q_
    all_goals first|(exfalso;omega)|skip
    exact ⟨(gAd p1,16*n+xR (gNx s p1),c+1),⟨e1,(by show 0<=16*n+xR (gNx s p1);omega),(by show 16*n+xR (gNx s p1)<=1114111;omega),c1,hy.symm.trans j5⟩,(by show 6 - (c+1)<6 - c;omega),yv (zg db s (gAd p1)) rfl tmS⟩
  ·have hn:=gNm_n (s:=s) (p:=p1) (n:=n) (c:=c) fun h=>c2 h.2;rw[hn] at j5;unfold gNmE at j5;obtain ⟨rfl,j5⟩:=Prod.mk.inj j5
   repeat' first|refine gw ?_|refine bs ?_ ?_<;>intro q_
   all_goals first|(exfalso;omega)|skip
   refine ⟨((db,s,p1):GI),obE (zg db s p1),eL,hs,?_⟩
   by_cases c4:c=0
   ·rw[if_pos c4] at j5
    repeat' first|refine gw ?_|refine bs ?_ ?_<;>intro q_
    all_goals first|(exfalso;omega)|skip
    refine ⟨(((db,s,p1),(3,(p1.k:Int)),(),gFl p1 3 p1.k):GI × (Int × Int) × Unit × Gz),obE (zg db s p1),eL,⟨⟨hsm,hs,j1⟩,trivial,rfl⟩,?_⟩
    refine gw ?_;refine ⟨(((db,s,gFl p1 3 p1.k),125,(),q):GI × Int × Unit × Gz),obE (zg db s (gFl p1 3 p1.k)),eL,⟨⟨hsm,hs,by show (gFl p1 3 p1.k).k<=s.size;rw[zn2];exact j1⟩,(by show (0:Int)<125/\(125:Int)<=255;decide),congrArg (fun x=>((),x)) (Prod.mk.inj j5).2⟩,?_⟩
    refine gw ?_;exact And.intro (zd rfl rfl) (And.intro rfl (obE (zg db s q)))
   ·rw[if_neg c4] at j5;have c5:¬(c:Int)=0:=by omega
    repeat' first|refine gw ?_|refine bs ?_ ?_<;>intro q_
    all_goals first|(exfalso;omega)|skip
    refine ⟨(((db,s,p1),125,(),q):GI × Int × Unit × Gz),obE (zg db s p1),eL,⟨⟨hsm,hs,j1⟩,(by show (0:Int)<125/\(125:Int)<=255;decide),congrArg (fun x=>((),x)) (Prod.mk.inj j5).2⟩,?_⟩
    refine gw ?_;exact And.intro (zd rfl rfl) (And.intro rfl (obE (zg db s q)))
 ·have hn:=gNm_n (s:=s) (p:=p1) (n:=n) (c:=c) fun h=>c1 h.1;rw[hn] at j5;unfold gNmE at j5;obtain ⟨rfl,j5⟩:=Prod.mk.inj j5;rw[if_neg (by omega)] at j5;have c5:¬(c:Int)=0:=by omega
  repeat' first|refine gw ?_|refine bs ?_ ?_<;>intro q_
  all_goals first|(exfalso;omega)|skip
  refine ⟨(((db,s,p1),125,(),q):GI × Int × Unit × Gz),obE (zg db s p1),eL,⟨⟨hsm,hs,j1⟩,(by show (0:Int)<125/\(125:Int)<=255;decide),congrArg (fun x=>((),x)) (Prod.mk.inj j5).2⟩,?_⟩
  refine gw ?_;exact And.intro (zd rfl rfl) (And.intro rfl (obE (zg db s q)))
theorem gNmE_k (h:p.k<=s.size):GM s p (gNmE s p n c).2:=by
 have h1:GM s p (if c=0 then gFl p 3 p.k else p):=by
  split
  ·exact GM.fl (by decide) h
  ·exact GM.refl h
 exact h1.trans (GM.wt (by decide) h1.hi)
theorem gNmF_k {s:ByteArray}:∀ (f:Nat) {p:Gz}{n:Int}{c:Nat},p.k<=s.size->0<=n->n<=1114111->GM s p (gNmF s f p n c).2/\0<=(gNmF s f p n c).1/\(gNmF s f p n c).1<=1114111
 | 0,p,n,c,h,h0,h1=>⟨gNmE_k h,h0,h1⟩
 | f+1,p,n,c,h,h0,h1=>by
  rw[gNmF];split
  ·rename_i hv;split
   ·exact ⟨GM.fl (by decide) h,Int.le_refl 0,(by show (0:Int)<=1114111;decide)⟩
   ·have hn:gNx s p≠0:=fun h0=>by rw[h0] at hv;revert hv;decide
    obtain ⟨g1,g2⟩:=gNmF_k f (p:=gAd p) (n:=16*n+xR (gNx s p)) (c:=c+1) (gNx_v hv).2 (by omega) (by omega)
    exact ⟨(GM.ad hn).trans g1,g2⟩
  ·exact ⟨gNmE_k h,h0,h1⟩
theorem gNm_k (h:p.k<=s.size):GM s p (gNm s p).2/\0<=(gNm s p).1/\(gNm s p).1<=1114111:=gNmF_k 6 h (by decide) (by decide)
theorem gNm_e (h:¬p.e=0):(gNm s p).2=p:=by
 unfold gNm;rw[gNm_n fun hh=>h (gNx_v hh.2).1];show gWt s (if 0=0 then gFl p 3 p.k else p) 125=p;rw[if_pos rfl,gFl_e h,zlp h (by decide)]
attribute [local irreducible] zbs zbi yf xD
def gCl (s:ByteArray) (p:Gz):Bool:=decide (gNx s p=92/\p.k+1<s.size/\bAt s (p.k+1)=112)
noncomputable def ocGl:Oc:={ ι:=GI,t:=182,before:=fun x=>gX x.1 x.2.1 x.2.2,inp:=fun _=>[],pre:=fun x=>x.2.1.size<=1000/\x.2.2.k<=x.2.1.size,after:=fun x=>gX x.1 x.2.1 x.2.2,res:=fun x=>.inl (.v (.bool (gCl x.2.1 x.2.2))) }
noncomputable def Γgo:Ctx:=fun f=>match f with
 | 166=>some (.obj ocGn)
 | _=>none
theorem Γgo_ok:CK mx pb Γgo:=by
 intro f h hh;simp only[Γgo] at hh;split at hh<;>simp at hh<;>subst hh
 ·exact zb1
theorem gCl_ok:SQ mx pb 171 ocGl:=by
 refine so (cc:=true) Γgo_ok Tryz.func171 (fun x=>zg x.1 x.2.1 x.2.2) (fun _=>rfl) (fun x=>zg x.1 x.2.1 x.2.2) ?_;rintro ⟨db,s,p⟩ ⟨(hs:s.size<=1000),(hk:p.k<=s.size)⟩
 refine gx ?_;refine .inr ⟨.stage [0] (.alt 1 [] (.done [2,3,4,5,6,7,8,9,10,11,12,13,14,15,16,17,18,19,20,21,22,23,24,25,26,27,28,29]) .nil),by decide +kernel,?_⟩
 refine xs1 ?_
 repeat' first|refine gx ?_|refine gy ?_|refine xc1 ?_ ?_|refine xs4 ?_ ?_|exact rfl
 refine ⟨((db,s,p):GI),obE (zg db s p),eL,hs,?_⟩
 have hT:((p.k:Int)+1).toNat=p.k+1:=by omega
 by_cases c1:gNx s p=92
 ·by_cases c2:(p.k:Int)+1<s.size
  ·by_cases c3:bAt s (p.k+1)=112
   ·have hr:gCl s p=true:=decide_eq_true ⟨c1,by omega,c3⟩
    have c3':bAt s ((p.k:Int)+1).toNat=112:=by rw[hT];exact c3
    simp only[nq,zG,zW,nr,ns,Nat.reduceAdd,reduceIte]
    repeat' first|refine gx ?_|refine gy ?_|refine xc1 ?_ ?_|refine xs4 ?_ ?_|exact rfl
    repeat' first|refine gw ?_|refine bs ?_ ?_<;>intro q_
    all_goals first|(exfalso;omega)|exact And.intro (zd (by show D.v (.bool _)=D.v (.bool (gCl s p));rw[hr];simp[c3]) rfl) (And.intro rfl (obE (zg db s p)))
   ·have hr:gCl s p=false:=decide_eq_false fun h=>c3 h.2.2;have c3':¬bAt s ((p.k:Int)+1).toNat=112:=by rw[hT];exact c3
    simp only[nq,zG,zW,nr,ns,Nat.reduceAdd,reduceIte]
    repeat' first|refine gx ?_|refine gy ?_|refine xc1 ?_ ?_|refine xs4 ?_ ?_|exact rfl
    repeat' first|refine gw ?_|refine bs ?_ ?_<;>intro q_
    all_goals first|(exfalso;omega)|exact And.intro (zd (by show D.v (.bool _)=D.v (.bool (gCl s p));rw[hr];simp[c3]) rfl) (And.intro rfl (obE (zg db s p)))
  ·have hr:gCl s p=false:=decide_eq_false fun h=>c2 (by omega)
   simp only[nq,zG,zW,nr,ns,Nat.reduceAdd,reduceIte]
   repeat' first|refine gx ?_|refine gy ?_|refine xc1 ?_ ?_|refine xs4 ?_ ?_|exact rfl
   repeat' first|refine gw ?_|refine bs ?_ ?_<;>intro q_
   all_goals first|(exfalso;omega)|exact And.intro (zd (by show D.v (.bool _)=D.v (.bool (gCl s p));rw[hr]) rfl) (And.intro rfl (obE (zg db s p)))
 ·have hr:gCl s p=false:=decide_eq_false fun h=>c1 h.1;simp only[nq,zG,zW,nr,ns,Nat.reduceAdd,reduceIte]
  repeat' first|refine gx ?_|refine gy ?_|refine xc1 ?_ ?_|refine xs4 ?_ ?_|exact rfl
  repeat' first|refine gw ?_|refine bs ?_ ?_<;>intro q_
  all_goals first|(exfalso;omega)|exact And.intro (zd (by show D.v (.bool _)=D.v (.bool (gCl s p));rw[hr]) rfl) (And.intro rfl (obE (zg db s p)))
end Go.Proofs
namespace Go.Proofs
open Go Go.Sx
variable {s:ByteArray}{l:List ByteArray}{p:Gz}
variable {mx:Int}{pb:Bool}
def gCh2 (s:ByteArray) (p1:Gz):Int × Gz :=
 if gNx s p1=117 then gNm s (gWt s (gAd p1) 123)
 else if spZ (gNx s p1)=false/\¬gNx s p1=32 then (0,gFl p1 3 p1.k) else (gNx s p1,gAd p1)
def gCh (s:ByteArray) (p:Gz):Int × Gz:=if leB (gNx s p)=true then (gNx s p,gAd p) else gCh2 s (gWt s p 92)
theorem sp_nz {b:Int}(h:spZ b=true):b≠0:=fun h0=>by rw[h0] at h;revert h;decide
theorem gCh2_k (h:p.k<=s.size):GM s p (gCh2 s p).2/\0<=(gCh2 s p).1/\(gCh2 s p).1<=1114111:=by
 have hb:=zlr s p;unfold gCh2;split
 ·rename_i hu;have h1:=GM.ad (s:=s) (p:=p) (by omega)
  have h2:=h1.trans (GM.wt (b:=123) (by decide) h1.hi)
  obtain ⟨g1,g2⟩:=gNm_k h2.hi;exact ⟨h2.trans g1,g2⟩
 ·split
  ·exact ⟨GM.fl (by decide) h,Int.le_refl 0,(by show (0:Int)<=1114111;decide)⟩
  ·rename_i hn;have h0:gNx s p≠0:=fun h0=>hn ⟨by rw[h0];decide,by rw[h0];decide⟩
   exact ⟨GM.ad h0,hb.1,by show gNx s p<=_;omega⟩
theorem gCh_k (h:p.k<=s.size):GM s p (gCh s p).2/\0<=(gCh s p).1/\(gCh s p).1<=1114111:=by
 have hb:=zlr s p;unfold gCh;split
 ·rename_i hl;have h0:gNx s p≠0:=by
   have:=of_decide_eq_true hl;omega
  exact ⟨GM.ad h0,hb.1,by show gNx s p<=_;omega⟩
 ·have h1:=GM.wt (s:=s) (p:=p) (b:=92) (by decide) h;obtain ⟨g1,g2⟩:=gCh2_k h1.hi;exact ⟨h1.trans g1,g2⟩
theorem gCh2_lt (h:p.k<=s.size) (he:(gCh2 s p).2.e=0):p.k<(gCh2 s p).2.k:=by
 unfold gCh2 at he ⊢;split
 ·rename_i hu;rw[if_pos hu] at he;have h1:=GM.ad (s:=s) (p:=p) (by omega)
  have h2:=GM.wt (s:=s) (p:=gAd p) (b:=123) (by decide) h1.hi;have h3:=(gNm_k h2.hi).1;exact Nat.lt_of_lt_of_le (Nat.lt_succ_self p.k) (Nat.le_trans h2.lo h3.lo)
 ·rename_i hu;rw[if_neg hu] at he;split
  ·rename_i hn;rw[if_pos hn] at he;exact absurd he (yq (by decide))
  ·exact Nat.lt_succ_self _
theorem gCh_lt (h:p.k<=s.size) (he:(gCh s p).2.e=0):p.k<(gCh s p).2.k:=by
 unfold gCh at he ⊢;split
 ·exact Nat.lt_succ_self _
 ·rename_i hl;rw[if_neg hl] at he;have h1:=GM.wt (s:=s) (p:=p) (b:=92) (by decide) h;exact Nat.lt_of_le_of_lt h1.lo (gCh2_lt h1.hi he)
noncomputable def ocGc:Oc:=ocG Unit Int (fun _=>[]) (fun c=>.v (.int .i64 c)) (fun _ _=>True) (fun i _=>gCh i.2.1 i.2.2)
noncomputable def Γgc:Ctx:=fun f=>match f with
 | 166=>some (.obj ocGn)
 | 136=>some (.obj ocGf)
 | 167=>some (.obj ocGw)
 | 219=>some (.obj ocGm)
 | 218=>some (.pure ctLe)
 | 220=>some (.pure ctSp)
 | _=>none
theorem Γgc_ok:CK mx pb Γgc:=by
 intro f h hh;simp only[Γgc] at hh;split at hh<;>simp at hh<;>subst hh
 ·exact zb1
 ·exact zb2
 ·exact zhw
 ·exact gNm_ok
 ·exact zLe_ok
 ·exact zSp_ok
theorem gCh_ok:SQ mx pb 198 ocGc:=by
 refine so (cc:=true) Γgc_ok Tryz.func198 (fun x=>zg x.1.1 x.1.2.1 x.1.2.2) (fun _=>rfl) (fun x=>zg x.1.1 x.1.2.1 x.2.2.2) ?_;rintro ⟨⟨db,s,p⟩,⟨⟩,v,q⟩ ⟨⟨hsm,hs,hk⟩,_,hr⟩
 replace hs:s.size<=1000:=hs;replace hk:p.k<=s.size:=hk;replace hr:gCh s p=(v,q):=hr;have hb:=zlr s p;have q1:ctLe.pre (gNx s p):=hb;refine gw ?_;refine ⟨((db,s,p):GI),obE (zg db s p),eL,hs,?_⟩
 cases hl:leB (gNx s p)
 ·have ho:ctLe.out (gNx s p)=.v (.bool false):=congrArg (fun x=>D.v (.bool x)) hl;have hr2:gCh2 s (gWt s p 92)=(v,q):=by
   unfold gCh at hr;rw[if_neg (by rw[hl];decide)] at hr;exact hr
  have hk1:=(zg0 (s:=s) (p:=p) (b:=92) (by decide) hk).2;generalize hp1:gWt s p 92=p1 at hr2 hk1;refine gw ?_;refine ⟨(((db,s,p),92,(),p1):GI × Int × Unit × Gz),obE (zg db s p),eL,⟨⟨hsm,hs,hk⟩,(by show (0:Int)<92/\(92:Int)<=255;decide),(by show ((),gWt s p 92)=((),p1);rw[hp1])⟩,?_⟩
  refine gw ?_;refine ⟨((db,s,p1):GI),obE (zg db s p1),eL,hs,?_⟩
  unfold gCh2 at hr2;by_cases c1:gNx s p1=117
  ·rw[if_pos c1] at hr2;obtain ⟨e0,e1,e2⟩:=uX c1 (by decide)
   have hk2:=(zg0 (s:=s) (p:=gAd p1) (b:=123) (by decide) e1).2;generalize hp2:gWt s (gAd p1) 123=p2 at hr2 hk2
   repeat' first|refine gw ?_|refine bs ?_ ?_<;>intro q_
   all_goals first|(exfalso;omega)|skip
   refine ⟨(((db,s,gAd p1),123,(),p2):GI × Int × Unit × Gz),obE (zg db s (gAd p1)),eL,⟨⟨hsm,hs,e1⟩,(by show (0:Int)<123/\(123:Int)<=255;decide),(by show ((),gWt s (gAd p1) 123)=((),p2);rw[hp2])⟩,?_⟩
   refine gw ?_;refine ⟨(((db,s,p2),(),v,q):GI × Unit × Int × Gz),obE (zg db s p2),eL,⟨⟨hsm,hs,hk2⟩,trivial,hr2⟩,?_⟩
   refine gw ?_;exact And.intro (zd rfl rfl) (And.intro rfl (obE (zg db s q)))
  ·rw[if_neg c1] at hr2;have hb1:=zlr s p1;have q2:ctSp.pre (gNx s p1):=trivial;cases hsp:spZ (gNx s p1)
   ·have ho2:ctSp.out (gNx s p1)=.v (.bool false):=congrArg (fun x=>D.v (.bool x)) hsp;by_cases c2:gNx s p1=32
    ·rw[if_neg fun h=>h.2 c2] at hr2;obtain ⟨rfl,rfl⟩:=Prod.mk.inj hr2;obtain ⟨e0,e1,e2⟩:=uX c2 (by decide)
     have hw:IntKind.i64.wrap (gNx s p1)=gNx s p1:=yI ⟨by omega,by omega⟩
     repeat' first|refine gw ?_|refine bs ?_ ?_<;>intro q_
     all_goals first|(exfalso;omega)|skip
     all_goals try (refine ⟨gNx s p1,eL,fun _=>q2,?_⟩)
     all_goals try rw[ho2]
     repeat' first|refine gw ?_|refine bs ?_ ?_<;>intro q_
     all_goals first|(exfalso;omega)|exact And.intro (zd (congrArg (fun x=>D.v (.int .i64 x)) hw) rfl) (And.intro rfl (obE (zg db s (gAd p1))))
    ·rw[if_pos ⟨hsp,c2⟩] at hr2;obtain ⟨rfl,rfl⟩:=Prod.mk.inj hr2
     repeat' first|refine gw ?_|refine bs ?_ ?_<;>intro q_
     all_goals first|(exfalso;omega)|skip
     all_goals try (refine ⟨gNx s p1,eL,fun _=>q2,?_⟩)
     all_goals try rw[ho2]
     repeat' first|refine gw ?_|refine bs ?_ ?_<;>intro q_
     all_goals first|(exfalso;omega)|skip
     refine ⟨(((db,s,p1),(3,(p1.k:Int)),(),gFl p1 3 p1.k):GI × (Int × Int) × Unit × Gz),obE (zg db s p1),eL,⟨⟨hsm,hs,hk1⟩,trivial,rfl⟩,?_⟩
     refine gw ?_;exact And.intro (zd rfl rfl) (And.intro rfl (obE (zg db s (gFl p1 3 p1.k))))
   ·have ho2:ctSp.out (gNx s p1)=.v (.bool true):=congrArg (fun x=>D.v (.bool x)) hsp;rw[if_neg fun h=>by rw[hsp] at h;exact Bool.noConfusion h.1] at hr2;obtain ⟨rfl,rfl⟩:=Prod.mk.inj hr2;obtain ⟨e0,e1,e2⟩:=uX (s:=s) (p:=p1) rfl (sp_nz hsp)
    have hw:IntKind.i64.wrap (gNx s p1)=gNx s p1:=yI ⟨by omega,by omega⟩
    repeat' first|refine gw ?_|refine bs ?_ ?_<;>intro q_
    all_goals first|(exfalso;omega)|skip
    all_goals try (refine ⟨gNx s p1,eL,fun _=>q2,?_⟩)
    all_goals try rw[ho2]
    repeat' first|refine gw ?_|refine bs ?_ ?_<;>intro q_
    all_goals first|(exfalso;omega)|exact And.intro (zd (congrArg (fun x=>D.v (.int .i64 x)) hw) rfl) (And.intro rfl (obE (zg db s (gAd p1))))
 ·have ho:ctLe.out (gNx s p)=.v (.bool true):=congrArg (fun x=>D.v (.bool x)) hl;have hl':=of_decide_eq_true hl;obtain ⟨e0,e1,e2⟩:=uX (s:=s) (p:=p) rfl (by omega)
  have hw:IntKind.i64.wrap (gNx s p)=gNx s p:=yI ⟨by omega,by omega⟩
  unfold gCh at hr;rw[if_pos hl] at hr;obtain ⟨rfl,rfl⟩:=Prod.mk.inj hr
  repeat' first|refine gw ?_|refine bs ?_ ?_<;>intro q_
  all_goals first|(exfalso;omega)|exact And.intro (zd (congrArg (fun x=>D.v (.int .i64 x)) hw) rfl) (And.intro rfl (obE (zg db s (gAd p))))
def ctWb:Ct:={ ι:=Int,inp:=fun b=>[.v (.int .u8 b)],out:=fun b=>.v (.bool (decide (isW b))),pre:=fun _=>True }
theorem zWb_ok:SS mx pb 235 ctWb:=by
 refine sb (cc:=true) zH Tryz.func235 ?_;intro (b:Int) _;by_cases h:isW b
 ·have ht:ctWb.out b=.v (.bool true):=congrArg (fun x=>D.v (.bool x)) (decide_eq_true h)
  rw[ht];unfold isW at h
  repeat' first|refine gw ?_|refine bs ?_ ?_<;>intro q_
  all_goals first|(exfalso;omega)|exact zd rfl rfl|exact zd (congrArg (fun x=>D.v (.bool x)) (decide_eq_true (by omega))) rfl
 ·have ht:ctWb.out b=.v (.bool false):=congrArg (fun x=>D.v (.bool x)) (decide_eq_false h)
  rw[ht];unfold isW at h
  repeat' first|refine gw ?_|refine bs ?_ ?_<;>intro q_
  all_goals first|(exfalso;omega)|exact zd rfl rfl|exact zd (congrArg (fun x=>D.v (.bool x)) (decide_eq_false (by omega))) rfl
def zg1 (s:ByteArray) (p:Gz):Gz:=if p.e=0 then ⟨wdE s p.k,p.e,p.a⟩ else p
def gWdR (p q:Gz):Gz:=if q.k=p.k then gFl q 3 q.k else q
def gWd (s:ByteArray) (p:Gz):ByteArray × Gz:=(zN s p.k (zg1 s p).k,gWdR p (zg1 s p))
theorem gWdQ_k (h:p.k<=s.size):p.k<=(zg1 s p).k/\(zg1 s p).k<=s.size:=by
 unfold zg1;split
 ·exact ze4 _ _ h
 ·exact ⟨Nat.le_refl _,h⟩
theorem gWd_k (h:p.k<=s.size):GM s p (gWd s p).2:=by
 have h1:=gWdQ_k h;have h2:GM s p (zg1 s p):=⟨h1.1,h1.2,fun e=>by
  unfold zg1 at e;split at e
  ·assumption
  ·exact e⟩
 show GM s p (gWdR p (zg1 s p))
 unfold gWdR;split
 ·exact h2.trans (GM.fl (by decide) h2.hi)
 ·exact h2
theorem gWd_e (h:¬p.e=0):(gWd s p).2=p:=by
 show gWdR p (zg1 s p)=p;rw[show zg1 s p=p from if_neg h,show gWdR p p=gFl p 3 p.k from if_pos rfl,gFl_e h]
noncomputable def ocGd:Oc:=ocG Unit ByteArray (fun _=>[]) (fun w=>.v (.string w)) (fun _ _=>True) (fun i _=>gWd i.2.1 i.2.2)
noncomputable def Γgd:Ctx:=fun f=>match f with
 | 166=>some (.obj ocGn)
 | 136=>some (.obj ocGf)
 | 235=>some (.pure ctWb)
 | _=>none
theorem Γgd_ok:CK mx pb Γgd:=by
 intro f h hh;simp only[Γgd] at hh;split at hh<;>simp at hh<;>subst hh
 ·exact zb1
 ·exact zb2
 ·exact zWb_ok
theorem gWd_ok:SQ mx pb 214 ocGd:=by
 refine so (cc:=true) Γgd_ok Tryz.func214 (fun x=>zg x.1.1 x.1.2.1 x.1.2.2) (fun _=>rfl) (fun x=>zg x.1.1 x.1.2.1 x.2.2.2) ?_;rintro ⟨⟨db,s,p⟩,⟨⟩,v,q⟩ ⟨⟨hsm,hs,hk⟩,_,hr⟩
 replace hs:s.size<=1000:=hs;replace hk:p.k<=s.size:=hk;replace hr:gWd s p=(v,q):=hr;obtain ⟨rfl,rfl⟩:=Prod.mk.inj hr;refine gw ?_;refine ⟨0,Nat,fun k=>⟨[(0,.own 0 0),(3,.v (.int .i64 p.k))],[.cells 182 (gX db s ⟨k,p.e,p.a⟩)],[]⟩,fun k=>p.k<=k/\k<=s.size/\(p.e=0->wdE s k=wdE s p.k)/\(¬p.e=0->k=p.k),fun k=>s.size - k,fun _=>Nat.le_refl _,⟨p.k,⟨Nat.le_refl _,hk,fun _=>rfl,fun _=>rfl⟩,yv (zg db s ⟨p.k,p.e,p.a⟩) rfl tmS⟩,?_⟩
 rintro k ⟨hk1,hk2,hk3,hk4⟩
 have p1:ctWb.pre (gNx s ⟨k,p.e,p.a⟩):=trivial;refine gw ?_;refine ⟨((db,s,⟨k,p.e,p.a⟩):GI),obE (zg db s ⟨k,p.e,p.a⟩),eL,hs,?_⟩
 by_cases hw:isW (gNx s ⟨k,p.e,p.a⟩)
 ·have ho:ctWb.out (gNx s ⟨k,p.e,p.a⟩)=.v (.bool true):=congrArg (fun x=>D.v (.bool x)) (decide_eq_true hw)
  have hw':=hw;unfold isW at hw';obtain ⟨e0,e1,e2⟩:=uX (s:=s) (p:=⟨k,p.e,p.a⟩) rfl (by omega)
  replace e0:p.e=0:=e0;replace e1:k<s.size:=e1;have e4:isW (bAt s k):=by
   have e5:bAt s k=gNx s ⟨k,p.e,p.a⟩:=e2;rw[e5];exact hw
  repeat' first|refine gw ?_|refine bs ?_ ?_<;>intro q_
  repeat' first|refine gw ?_|refine bs ?_ ?_<;>intro q_
  all_goals first|(exfalso;omega)|exact ⟨k+1,⟨by omega,by omega,fun h=>(wdE_step e1 e4).trans (hk3 h),fun h=>absurd e0 h⟩,(by show s.size - (k+1)<s.size - k;omega),yv (zg db s ⟨k+1,p.e,p.a⟩) rfl tmS⟩
 ·have ho:ctWb.out (gNx s ⟨k,p.e,p.a⟩)=.v (.bool false):=congrArg (fun x=>D.v (.bool x)) (decide_eq_false hw)
  have hq:zg1 s p=⟨k,p.e,p.a⟩:=by
   by_cases he:p.e=0
   ·have e4:wdE s k=k:=wdE_stop fun h=>hw (by rw[show gNx s ⟨k,p.e,p.a⟩=bAt s k from if_pos ⟨he,h.1⟩];exact h.2)
    rw[show zg1 s p=⟨wdE s p.k,p.e,p.a⟩ from if_pos he,<- hk3 he,e4]
   ·rw[show zg1 s p=p from if_neg he,hk4 he]
  by_cases hz:k=p.k
  ·have hR:gX db s (gFl ⟨k,p.e,p.a⟩ 3 k)=gX db s (gWd s p).2:=by
    show _=gX db s (gWdR p (zg1 s p))
    rw[hq,show gWdR p ⟨k,p.e,p.a⟩=gFl ⟨k,p.e,p.a⟩ 3 k from if_pos hz]
   have hc:D.v (.string (zN s ((p.k:Int)).toNat (((gFl ⟨k,p.e,p.a⟩ 3 k).k:Int)).toNat))=D.v (.string (gWd s p).1):=by
    show _=D.v (.string (zN s p.k (zg1 s p).k))
    rw[hq,zn2,Int.toNat_natCast,Int.toNat_natCast]
   have hf:=zn2 ⟨k,p.e,p.a⟩ 3 k;have hzi:(k:Int)=p.k:=by omega
   replace hf:(gFl ⟨k,p.e,p.a⟩ 3 k).k=k:=hf
   repeat' first|refine gw ?_|refine bs ?_ ?_<;>intro q_
   all_goals first|(exfalso;omega)|skip
   refine ⟨(((db,s,⟨k,p.e,p.a⟩),(3,(k:Int)),(),gFl ⟨k,p.e,p.a⟩ 3 k):GI × (Int × Int) × Unit × Gz),obE (zg db s ⟨k,p.e,p.a⟩),eL,⟨⟨hsm,hs,hk2⟩,trivial,rfl⟩,?_⟩
   repeat' first|refine gw ?_|refine bs ?_ ?_<;>intro q_
   all_goals first|(exfalso;omega)|exact And.intro (zd hc rfl) (And.intro rfl (obE (zg db s (gFl ⟨k,p.e,p.a⟩ 3 k)) hR))
  ·have hR:gX db s ⟨k,p.e,p.a⟩=gX db s (gWd s p).2:=by
    show _=gX db s (gWdR p (zg1 s p))
    rw[hq,show gWdR p ⟨k,p.e,p.a⟩=⟨k,p.e,p.a⟩ from if_neg hz]
   have hc:D.v (.string (zN s ((p.k:Int)).toNat ((k:Int)).toNat))=D.v (.string (gWd s p).1):=by
    show _=D.v (.string (zN s p.k (zg1 s p).k))
    rw[hq,Int.toNat_natCast,Int.toNat_natCast]
   have hzi:¬(k:Int)=p.k:=by omega
   repeat' first|refine gw ?_|refine bs ?_ ?_<;>intro q_
   all_goals first|(exfalso;omega)|exact And.intro (zd hc rfl) (And.intro rfl (obE (zg db s ⟨k,p.e,p.a⟩) hR))
theorem gfst_y {k:Nat}(hk:k<l.length) (hn:∀ j,j<k->¬l.getD j default=s) (h:l.getD k default=s):ut l s=k:=by
 unfold ut;rw[List.findIdx_eq hk];refine ⟨yC.2 ?_,fun j hj=>?_⟩
 ·rw[<- h];simp[List.getD_eq_getElem?_getD,hk]
 ·have hjl:j<l.length:=Nat.lt_trans hj hk;have:=hn j hj;rw[show l.getD j default=l[j] by simp[List.getD_eq_getElem?_getD,hjl]] at this;rw[<- Bool.not_eq_true,yC];exact this
theorem gfst_n (hn:∀ j,j<l.length->¬l.getD j default=s):¬ut l s<l.length:=by
 intro h;unfold ut at h;have h1:=List.findIdx_getElem (w:=h)
 rw[yC] at h1;refine hn _ h (Eq.trans ?_ h1)
 simp[List.getD_eq_getElem?_getD,h]
noncomputable def prI (w:ByteArray):Int:=if ut prFl w<7 then (ut prFl w:Int) else -1
noncomputable def ctPi:Ct:={ ι:=ByteArray,inp:=fun w=>[.v (.string w)],out:=fun w=>.v (.int .i64 (prI w)),pre:=fun _=>True }
theorem prFl_at:∀ i:Fin 7,filesL.getD (i.1+1) default=prFl.getD i.1 default:=by decide
noncomputable def Γgp:Ctx:=fun f=>match f with
 | 12=>some (.pure za7)
 | _=>none
theorem Γgp_ok:CK mx pb Γgp:=by
 intro f h hh;simp only[Γgp] at hh;split at hh<;>simp at hh<;>subst hh
 ·exact zav
theorem zPi_ok:SS mx pb 215 ctPi:=by
 refine sb (cc:=true) Γgp_ok Tryz.func215 ?_;intro (w:ByteArray) _;have hlen:=uN;have hpl:prFl.length=7:=rfl;refine gl ?_;refine ⟨0,Nat,fun i=>⟨[(0,.v (.string w)),(3,.v (.int .i64 i))],[],[]⟩,fun i=>i<=7/\∀ j,j<i->¬prFl.getD j default=w,fun i=>7 - i,fun _=>Nat.zero_le _,⟨0,⟨Nat.zero_le _,fun j hj=>by omega⟩,StLe.ren [] tmS trivial (by decide)⟩,?_⟩
 rintro i ⟨hi,hn⟩
 replace hi:i<=7:=hi;by_cases hl:i<7
 ·have hT:((1:Int)+i).toNat=i+1:=by omega
  by_cases hb:prFl.getD i default=w
  ·have e:=gfst_y (l:=prFl) (s:=w) (by omega) hn hb;have hr:prI w=(i:Int):=by
    unfold prI;rw[e,if_pos hl]
   have hb':filesL.getD ((1:Int)+i).toNat default=w:=by rw[hT];exact (prFl_at ⟨i,hl⟩).trans hb
   repeat' first|refine gl ?_|refine bs ?_ ?_<;>intro q_
   all_goals first|(exfalso;omega)|exact zd (congrArg (fun x=>D.v (.int .i64 x)) hr.symm) rfl
  ·have hb':¬filesL.getD ((1:Int)+i).toNat default=w:=by rw[hT];exact fun h=>hb ((prFl_at ⟨i,hl⟩).symm.trans h)
   repeat' first|refine gl ?_|refine bs ?_ ?_<;>intro q_
   all_goals first|(exfalso;omega)|exact ⟨i+1,⟨hl,zo hn hb⟩,(by show 7 - (i+1)<7 - i;omega),StLe.ren [] tmS trivial (by decide)⟩
 ·have hr:prI w = -1:=if_neg fun h=>gfst_n (l:=prFl) (s:=w) (fun j hj=>hn j (by omega)) (by omega)
  repeat' first|refine gl ?_|refine bs ?_ ?_<;>intro q_
  all_goals first|(exfalso;omega)|exact zd (congrArg (fun x=>D.v (.int .i64 x)) hr.symm) rfl
end Go.Proofs
