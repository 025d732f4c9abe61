import Derived.Lib.Bytealg
import Derived.Test.YtnimkdbpoeondaaGreatDoorDgz
import Derived.Test.YtnimkdbpoeondaaGreatDoorE8
set_option linter.all false
set_option maxHeartbeats 4000000
namespace Go.Proofs
open Go Go.Sx
variable {s:ByteArray}{ow:List Own}{l l':List D}{k:Nat}{c:Int}{n:Nat}
variable {mx:Int}{pb:Bool}
def zjc:List UInt8->UInt8->Int->Int
 | [],_,_ => -1
 | b::l,c,k=>match b==c with|true=>k|false=>zjc l c (k+1)
def zht (s:ByteArray) (c:Int):Int:=zjc s.data.toList c.toNat.toUInt8 0
def idxG:List D->Option D
 | [.v (.string s),.v (.int .u8 c)]=>some (.v (.int .i64 (zht s c)))
 | _=>none
theorem two_args {M:Mem}{E:List Value}{x y:Value}{us:Array Value}(h:RepL M E [.v x,.v y] us.toList):us = #[x,y]:=by
 simp only[RepL,Rep] at h;obtain ⟨u,r,h1,rfl,v,r',rfl,rfl,rfl⟩:=h;apply Array.ext';simpa using h1
theorem idxL_eq (c:UInt8):∀ (l:List UInt8) (k:Int),0<=k->zjc l c k=if Lib.indexByte l c = -1 then -1 else Lib.indexByte l c+k
 | [],k,_=>by simp[zjc,Lib.indexByte]
 | b::l,k,hk=>by
  have ih:=idxL_eq c l (k+1) (by omega)
  have hge:=Lib.indexByte_ge l c;simp only[zjc,Lib.indexByte];by_cases hb:(b==c)=true
  ·simp only[hb,if_true];simp
  ·have hb':(b==c)=false:=by simpa using hb
   simp only[hb',Bool.false_eq_true,if_false];rw[ih];by_cases h1:Lib.indexByte l c = -1
   ·simp[h1]
   ·have h2:(Lib.indexByte l c == -1)=false:=by simpa using h1
    simp only[h1,h2,if_false,Bool.false_eq_true];have h3:¬(Lib.indexByte l c+1 = -1):=by omega
    simp only[h3,if_false];omega
theorem idxB_eq (s:ByteArray) (c:Int):Lib.indexByte s.data.toList c.toNat.toUInt8=zht s c:=by
 rw[zht,idxL_eq _ _ _ (Int.le_refl _)];split
 ·assumption
 ·omega
theorem idx_ok:zh9 Tryz.prog (GlT mx pb) 124 idxG:=by
 intro ds d hg M E us w _ _ hr;unfold idxG at hg;split at hg<;>simp at hg;rename_i s c;subst hg;have:=two_args hr;subst this;refine ⟨_,?_,zk _⟩
 have hf:Tryz.prog.funcs[124]?=some Tryz.f124:=by kernel_rfl
 have h1:(Tryz.f124.name == "runtime.NumGoroutine")=false:=by kernel_rfl
 have h2:Tryz.f124.body.isNone=true:=by kernel_rfl
 have h3:Extern.findNext Tryz.f124=none:=by kernel_rfl
 have h4:Extern.find Tryz.f124=some Extern.BytealgIndexByte.indexByte:=by kernel_rfl
 have h5:(Extern.BytealgIndexByte.indexByte #[.string s,.int .u8 c]).run Tryz.prog w=.ok (.int .i64 (zht s c)) w:=by rw[<- idxB_eq];exact Lib.run_indexByteString s c w
 have h6:∀ m,Sem.run Tryz.prog (Sem.mark m (Sem.pure ())) w=.ok () w:=fun _=>rfl;simp only[callFunc,Sem.run_bind,run_program,Result.andThen_ok,hf,h1,h2,h3,h4];simp[h5,h6,mark]
structure PSt where
 db:Db
 ch:Bool
 us:Bool
 s:ByteArray
 k:Nat
def PSt.at (p:PSt) (k:Nat):PSt:={ p with k:=k }
def dD (db:Db) (j:Nat):D:=(dbL db).getD j .junk
theorem dD_pd (db:Db):∀ j,pd (dD db j)=true
 | 0=>rfl|1=>rfl|2=>rfl|3=>rfl|4=>rfl|5=>rfl|6=>rfl|7=>rfl|8=>rfl|9=>rfl
 | 10=>rfl|11=>rfl|12=>rfl|13=>rfl|14=>rfl|15=>rfl|16=>rfl|17=>rfl|18=>rfl|19=>rfl
 | 20=>rfl|21=>rfl|22=>rfl|23=>rfl|24=>rfl|25=>rfl|26=>rfl|27=>rfl|28=>rfl|_+29=>rfl
def dbX (d:Nat->D):List D:=[d 0,d 1,d 2,d 3,d 4,d 5,d 6,d 7,d 8,d 9,d 10,d 11,d 12,d 13,d 14,d 15,d 16,d 17,d 18,d 19,d 20,d 21,d 22,d 23,d 24,d 25,d 26,d 27,d 28]
def pC (p:PSt):List D:=dbX (dD p.db)++[.v (.bool p.ch),.v (.bool p.us),.v (.string p.s),.v (.int .i64 p.k)]
noncomputable def usB (db:Db):Bool:=decide (dbE db=0)
def nbk (s:ByteArray):Nat->Nat
 | 0=>0
 | k+1=>nbk s k+(if bAt s k=32 then 0 else 1)
def DbOk (p:PSt):Prop:=SmD p.db/\(p.ch=true->p.us=usB p.db)
def OkP (p:PSt):Prop:=DbOk p/\p.k<=p.s.size/\p.s.size<=65536
abbrev PX:={ p:PSt // OkP p }
theorem zlb {p:PSt}(_:DbOk p):pdL (pC (p.at k))=true:=by
 simp[pC,dbX,pdL,pd,PSt.at,dD_pd]
theorem zm (p:PX):pdL (pC p.1)=true:=by
 simp[pC,dbX,pdL,pd,dD_pd]
def pkV (p:PSt):Int:=if p.k<p.s.size then bAt p.s p.k else -1
def zbx:Oc:={ ι:=PX,t:=176,before:=fun p=>pC p.1,inp:=fun _=>[],pre:=fun _=>True,after:=fun p=>pC p.1,res:=fun p=>.inl (.v (.int .i64 (pkV p.1))) }
def stopD (e a:Int):D:=.ifc 172 (.ag [.v (.int .i64 e),.v (.int .i64 a)])
def Γx0:Ctx:=fun _=>none
theorem zaq:CK mx pb Γx0:=fun f h hh=>by simp[Γx0] at hh
mutual
theorem resA_pd {ow:List Own}:∀ (d:D),pd d=true->zd8 ow d=d
 | .ag l,h=>by simp only[zd8];rw[zau l (by simpa[pd] using h)]
 | .tu l,h=>by simp only[zd8];rw[zau l (by simpa[pd] using h)]
 | .row i,h=>by simp[pd] at h
 | .v _,_=>rfl
 | .sl _ _ _,_=>rfl
 | .pt _ _,_=>rfl
 | .own _ _,_=>rfl
 | .rp _ _ _ _,_=>rfl
 | .fn _ _,_=>rfl
 | .ifc _ _,_=>rfl
 | .yl _,_=>rfl
 | .mp _,_=>rfl
 | .os _ _ _,_=>rfl
 | .sd _,_=>rfl
 | .junk,_=>rfl
theorem zau {ow:List Own}:∀ (l:List D),pdL l=true->zgs ow l=l
 | [],_=>rfl
 | d::l,h=>by
  simp only[pdL,Bool.and_eq_true] at h;simp only[zgs];rw[resA_pd d h.1,zau l h.2]
end
mutual
theorem renD_pd {ρ:List Nat}:∀ (d:D),pd d=true->zd9 ρ d=d
 | .ag l,h=>by simp only[zd9];rw[zcq l (by simpa[pd] using h)]
 | .tu l,h=>by simp only[zd9];rw[zcq l (by simpa[pd] using h)]
 | .fn g l,h=>by simp only[zd9];rw[zcq l (by simpa[pd] using h)]
 | .ifc t d,h=>by simp only[zd9];rw[renD_pd d (by simpa[pd] using h)]
 | .row i,h=>by simp[pd] at h
 | .own _ _,h=>by simp[pd] at h
 | .rp _ _ _ _,h=>by simp[pd] at h
 | .yl _,h=>by simp[pd] at h
 | .mp _,h=>by simp[pd] at h
 | .os _ _ _,h=>by simp[pd] at h
 | .sd _,h=>by simp[pd] at h
 | .v _,_=>rfl
 | .sl _ _ _,_=>rfl
 | .pt _ _,_=>rfl
 | .junk,_=>rfl
theorem zcq {ρ:List Nat}:∀ (l:List D),pdL l=true->zgx ρ l=l
 | [],_=>rfl
 | d::l,h=>by
  simp only[pdL,Bool.and_eq_true] at h;simp only[zgx];rw[renD_pd d h.1,zcq l h.2]
end
mutual
theorem inD_pd {m:Nat}:∀ (d:D),pd d=true->inD m d=true
 | .ag l,h=>by simp only[inD];exact zfv l (by simpa[pd] using h)
 | .tu l,h=>by simp only[inD];exact zfv l (by simpa[pd] using h)
 | .fn g l,h=>by simp only[inD];exact zfv l (by simpa[pd] using h)
 | .ifc t d,h=>by simp only[inD];exact inD_pd d (by simpa[pd] using h)
 | .row i,h=>by simp[pd] at h
 | .own _ _,h=>by simp[pd] at h
 | .rp _ _ _ _,h=>by simp[pd] at h
 | .yl _,h=>by simp[pd] at h
 | .mp _,h=>by simp[pd] at h
 | .os _ _ _,h=>by simp[pd] at h
 | .sd _,h=>by simp[pd] at h
 | .v _,_=>rfl
 | .sl _ _ _,_=>rfl
 | .pt _ _,_=>rfl
 | .junk,_=>rfl
theorem zfv {m:Nat}:∀ (l:List D),pdL l=true->inDL m l=true
 | [],_=>rfl
 | d::l,h=>by
  simp only[pdL,Bool.and_eq_true] at h;simp only[inDL,Bool.and_eq_true];exact ⟨inD_pd d h.1,zfv l h.2⟩
end
theorem obE (h:pdL l=true) (e:l=l':=by rfl):EntL (zgs ow l) l':=by subst e;rw[zau l h];exact eL
theorem zak {ρ:List Nat}{t:TypeId}(h:pdL l'=true) (e:l=l':=by rfl):xP ρ (.cells t l) (.cells t l'):=by
 subst e;exact ⟨rfl,by rw[zcq l h];exact eL,zfv l h⟩
theorem yv {t:TypeId}{tm tm':List (Nat × D)}(h:pdL l'=true) (e:l=l') (ht:renT [0] tm tm'):StLe 1 ⟨tm,[.cells t l],[]⟩ ⟨tm',[.cells t l'],[]⟩ :=
 zq [0] ht ⟨zak h e,trivial⟩ (by decide) (fun i hi=>by
  have:i=0:=by omega
  subst this;rfl) (fun i hi=>by simp at hi)
theorem uZ (s:ByteArray) (k:Nat):0<=bAt s k/\bAt s k<=255:=by
 unfold bAt;have:=UInt8.toNat_lt ((s.data.toList[k]?).getD 0)
 omega
theorem bAt_wr (s:ByteArray) (k:Nat):IntKind.i64.wrap (bAt s k)=bAt s k:=by
 have:=uZ s k;exact yI ⟨by omega,by omega⟩
theorem yE {p:PSt}(h:p.k<p.s.size):pkV p=bAt p.s p.k:=by unfold pkV;rw[if_pos h]
theorem pkV_ge {p:PSt}(h:¬p.k<p.s.size):pkV p = -1:=by unfold pkV;rw[if_neg h]
theorem uz:SQ mx pb 129 zbx:=by
 refine so (cc:=true) zaq Tryz.func129 zm (fun _=>rfl) zm ?_;rintro ⟨p,hp⟩ _;obtain ⟨h1,h2,h3⟩:=id hp
 repeat' first|refine gw ?_|refine bs ?_ ?_<;>intro q_
 ·refine And.intro (zd ?_ rfl) (And.intro rfl (obE (zm ⟨p,hp⟩)))
  show D.v (.int .i64 (IntKind.i64.wrap (bAt p.s ((p.k:Int)).toNat)))=D.v (.int .i64 (pkV p))
  rw[yE (by omega),Int.toNat_natCast,bAt_wr]
 ·refine And.intro (zd ?_ rfl) (And.intro rfl (obE (zm ⟨p,hp⟩)))
  show D.v (.int .i64 (-1))=D.v (.int .i64 (pkV p))
  rw[pkV_ge (by omega)]
theorem zI {p:PSt}{b:Int}(h:pkV p=b) (hb:0<=b):p.k<p.s.size/\bAt p.s p.k=b:=by
 unfold pkV at h;split at h
 ·rename_i hk;exact ⟨hk,h⟩
 ·omega
def zal:Oc:={ ι:=PX × Int × Int,t:=176,before:=fun x=>pC x.1.1,inp:=fun x=>[.v (.int .i64 x.2.1),.v (.int .i64 x.2.2)],pre:=fun _=>True,after:=fun x=>pC x.1.1,res:=fun x=>.inr (stopD x.2.1 x.2.2) }
theorem xF:SQ mx pb 130 zal:=by
 refine so (cc:=true) zaq Tryz.func130 (fun x=>zm x.1) (fun _=>rfl) (fun x=>zm x.1) ?_;rintro ⟨⟨p,hp⟩,e,a⟩ _;obtain ⟨h1,h2,h3⟩:=id hp;refine gw ?_;exact And.intro (zd rfl rfl) (And.intro rfl (obE (zm ⟨p,hp⟩)))
def Γxp:Ctx:=fun f=>match f with
 | 129=>some (.obj zbx)
 | 130=>some (.obj zal)
 | _=>none
theorem Γxp_ok:CK mx pb Γxp:=by
 intro f h hh;simp only[Γxp] at hh;split at hh<;>simp at hh<;>subst hh
 ·exact uz
 ·exact xF
def blkF (s:ByteArray):Nat->Nat->Nat
 | 0,k=>k
 | n+1,k=>if k<s.size/\bAt s k=32 then blkF s n (k+1) else k
def blk (s:ByteArray) (k:Nat):Nat:=blkF s (s.size - k) k
def zcu:Oc:={ ι:=PX,t:=176,before:=fun p=>pC p.1,inp:=fun _=>[],pre:=fun _=>True,after:=fun p=>pC (p.1.at (blk p.1.s p.1.k)),res:=fun p=>.inl (.tu []) }
theorem uI (h:k<s.size) (hb:bAt s k=32):blk s (k+1)=blk s k:=by
 unfold blk;rw[show s.size - k=(s.size - (k+1))+1 by omega,blkF,if_pos ⟨h,hb⟩]
theorem yz (h:¬(k<s.size/\bAt s k=32)):blk s k=k:=by
 unfold blk;cases s.size - k with
 | zero=>rfl
 | succ n=>rw[blkF,if_neg h]
theorem za9:SQ mx pb 128 zcu:=by
 refine so (cc:=true) Γxp_ok Tryz.func128 zm (fun _=>rfl) (fun p=>zlb p.2.1) ?_;rintro ⟨p,hp⟩ _;obtain ⟨h1,h2,h3⟩:=id hp;refine gw ?_;refine ⟨0,Nat,fun k=>⟨[(0,.own 0 0)],[.cells 176 (pC (p.at k))],[]⟩,fun k=>p.k<=k/\k<=p.s.size/\blk p.s k=blk p.s p.k,fun k=>p.s.size - k,fun _=>Nat.le_refl _,⟨p.k,⟨Nat.le_refl _,h2,rfl⟩,yv (zlb h1) rfl tmS⟩,?_⟩
 rintro k ⟨hk1,hk2,hk3⟩
 have hok:OkP (p.at k):=⟨h1,hk2,h3⟩
 have hkk:(p.at k).k=k:=rfl;by_cases hb:pkV (p.at k)=32
 ·obtain ⟨e1,e2⟩:=zI hb (by decide)
  have e3:k<p.s.size:=e1;refine gw ?_;refine ⟨(⟨p.at k,hok⟩:PX),obE (zm ⟨p.at k,hok⟩),eL,trivial,?_⟩
  refine gw ?_;exact ⟨k+1,⟨by omega,by omega,(uI e1 e2).trans hk3⟩,(by show p.s.size - (k+1)<p.s.size - k;omega),yv (zlb h1) rfl tmS⟩
 ·have e4:blk p.s k=k:=yz fun h=>hb (by rw[yE (p:=p.at k) h.1];exact h.2)
  refine gw ?_;refine ⟨(⟨p.at k,hok⟩:PX),obE (zm ⟨p.at k,hok⟩),eL,trivial,?_⟩
  refine gw ?_;exact And.intro (zd rfl rfl) (And.intro rfl (obE (zm ⟨p.at k,hok⟩) (by show pC (p.at k)=pC (p.at (blk p.s p.k));rw[<- hk3,e4])))
def Γxq:Ctx:=fun f=>match f with
 | 129=>some (.obj zbx)
 | 130=>some (.obj zal)
 | 128=>some (.obj zcu)
 | _=>none
theorem Γxq_ok:CK mx pb Γxq:=by
 intro f h hh;simp only[Γxq] at hh;split at hh<;>simp at hh<;>subst hh
 ·exact uz
 ·exact xF
 ·exact za9
inductive OutP where
 | ok (d:D) (q:PX)
 | bad (e a:Int) (q:PX)
abbrev OutP.st:OutP->PX
 | .ok _ q=>q
 | .bad _ _ q=>q
abbrev OutP.res:OutP->D ⊕ D
 | .ok d _=>.inl d
 | .bad e a _=>.inr (stopD e a)
def ocM (A:Type) (inpD:A->List D) (pre:PX->A->Prop) (run:PX->A->OutP):Oc:={ ι:=PX × A × OutP,t:=176,before:=fun x=>pC x.1.1,inp:=fun x=>inpD x.2.1,pre:=fun x=>pre x.1 x.2.1/\run x.1 x.2.1=x.2.2,after:=fun x=>pC x.2.2.st.1,res:=fun x=>x.2.2.res }
theorem retM {A:Type}{inpD:A->List D}{pre:PX->A->Prop}{run:PX->A->OutP}{p:PX}{a:A}{d d':D}{q:PX}{l:List D}(hr:run p a=.ok d' q) (h:EntR d d') (ho:ow[0]?=some (Own.cells 176 l)) (hl:l=pC q.1):retO (ocM A inpD pre run) (p,a,run p a) d ow:=by
 unfold retO;have h1:(ocM A inpD pre run).res (p,a,run p a)=.inl d':=by show (run p a).res=_;rw[hr]
 rw[h1];refine ⟨h,?_⟩
 unfold ObO;rw[ho];refine ⟨rfl,?_⟩
 show EntL (zgs ow l) (pC (run p a).st.1)
 rw[hr,hl,zau _ (zm q)];exact eL
theorem panM {A:Type}{inpD:A->List D}{pre:PX->A->Prop}{run:PX->A->OutP}{p:PX}{a:A}{d:D}{e n:Int}{q:PX}{l:List D}(hr:run p a=.bad e n q) (h:EntR d (stopD e n)) (ho:ow[0]?=some (Own.cells 176 l)) (hl:l=pC q.1):panO (ocM A inpD pre run) (p,a,run p a) ⟨[(0,d)],ow,[]⟩:=by
 unfold panO;dsimp only;have h1:(ocM A inpD pre run).res (p,a,run p a)=.inr (stopD e n):=by show (run p a).res=_;rw[hr]
 rw[h1];refine ⟨h,?_⟩
 unfold ObO;rw[ho];refine ⟨rfl,?_⟩
 show EntL (zgs ow l) (pC (run p a).st.1)
 rw[hr,hl,zau _ (zm q)];exact eL
def adv (p:PX) (h:p.1.k<p.1.s.size):PX:=⟨p.1.at (p.1.k+1),p.2.1,h,p.2.2.2⟩
def yc (p:PX) (b:Int):OutP:=if h:p.1.k<p.1.s.size/\pkV p.1=b then .ok (.tu []) (adv p h.1) else .bad 3 p.1.k p
def zi0:Oc:=ocM Int (fun b=>[.v (.int .i64 b)]) (fun _ b=>0<=b) yc
theorem zg8:SQ mx pb 201 zi0:=by
 refine so (cc:=true) Γxq_ok Tryz.func201 (fun x=>zm x.1) (fun _=>rfl) (fun x=>zm x.2.2.st) ?_;rintro ⟨⟨p,hp⟩,b,o⟩ ⟨hb0,ho⟩
 replace hb0:0<=b:=hb0;replace ho:yc ⟨p,hp⟩ b=o:=ho;subst ho;obtain ⟨h1,h2,h3⟩:=id hp;refine gw ?_;refine ⟨(⟨p,hp⟩:PX),obE (zm ⟨p,hp⟩),eL,trivial,?_⟩
 repeat' first|refine gw ?_|refine bs ?_ ?_<;>intro q_
 ·have hr:yc ⟨p,hp⟩ b=.bad 3 p.k ⟨p,hp⟩:=dif_neg fun h=>q_ h.2;refine ⟨((⟨p,hp⟩,3,(p.k:Int)):PX × Int × Int),obE (zm ⟨p,hp⟩),eL,trivial,?_⟩
  refine panM hr ?_ rfl rfl;exact zd rfl rfl
 ·obtain ⟨e1,e2⟩:=zI q_ hb0;have hr:yc ⟨p,hp⟩ b=.ok (.tu []) (adv ⟨p,hp⟩ e1):=dif_pos ⟨e1,q_⟩
  refine retM hr ?_ rfl rfl;exact zd rfl rfl
def dgI (b:Int):Int:=if 48<=b/\b<=57 then b - 48 else b - 65+10
def zap (b:Int):Prop:=(48<=b/\b<=57)\/(65<=b/\b<=70)
instance (b:Int):Decidable (zap b):=inferInstanceAs (Decidable (_\/_))
def zd0:Nat->PX->Int->Nat->OutP
 | 0,p,_,_=>.bad 3 p.1.k p
 | f+1,p,c,n =>
  if h:p.1.k<p.1.s.size/\zap (pkV p.1) then
   (if 1114111<c*16+dgI (pkV p.1)\/6<n+1 then .bad 3 p.1.k p else zd0 f (adv p h.1) (c*16+dgI (pkV p.1)) (n+1))
  else if n=0 then .bad 3 p.1.k p else .ok (.v (.int .i64 c)) p
def zhh (p:PX) (_:Unit):OutP:=zd0 7 p 0 0
def ocDig:Oc:=ocM Unit (fun _=>[]) (fun _ _=>True) zhh
theorem zgy {p:PSt}(h:zap (pkV p)):p.k<p.s.size:=by
 unfold zap at h;exact (zI (p:=p) rfl (by omega)).1
theorem zjx {p:PX}(h:¬zap (pkV p.1)) (hn:n<=6):zd0 (7 - n) p c n=if n=0 then .bad 3 p.1.k p else .ok (.v (.int .i64 c)) p:=by
 rw[show 7 - n=(6 - n)+1 by omega,zd0,dif_neg fun hh=>h hh.2]
theorem zjy {p:PX}(h:zap (pkV p.1)) (hn:n<=6) (hb:1114111<c*16+dgI (pkV p.1)\/6<n+1):zd0 (7 - n) p c n=.bad 3 p.1.k p:=by
 rw[show 7 - n=(6 - n)+1 by omega,zd0,dif_pos ⟨zgy h,h⟩,if_pos hb]
theorem dig_go {p:PX}(h:zap (pkV p.1)) (hn:n<=6) (hb:¬(1114111<c*16+dgI (pkV p.1)\/6<n+1)):zd0 (7 - n) p c n=zd0 (7 - (n+1)) (adv p (zgy h)) (c*16+dgI (pkV p.1)) (n+1):=by
 rw[show 7 - n=(6 - n)+1 by omega,zd0,dif_pos ⟨zgy h,h⟩,if_neg hb];rw[show 7 - (n+1)=6 - n by omega]
theorem xDig_ok:SQ mx pb 230 ocDig:=by
 refine so (cc:=true) Γxq_ok Tryz.func230 (fun x=>zm x.1) (fun _=>rfl) (fun x=>zm x.2.2.st) ?_;rintro ⟨p,a,o⟩ ⟨_,ho⟩
 replace ho:zhh p a=o:=ho;subst ho;refine gw ?_;refine ⟨0,PX × Int × Nat,fun i=>⟨[(0,.own 0 0),(3,.v (.int .i64 i.2.1)),(4,.v (.int .i64 i.2.2))],[.cells 176 (pC i.1.1)],[]⟩,fun i=>0<=i.2.1/\i.2.1<=1114111/\i.2.2<=6/\zd0 (7 - i.2.2) i.1 i.2.1 i.2.2=zhh p a,fun i=>7 - i.2.2,fun _=>Nat.le_refl _,⟨(p,0,0),⟨(by show (0:Int)<=0;decide),(by show (0:Int)<=1114111;decide),(by show 0<=6;decide),rfl⟩,yv (zm p) rfl tmS⟩,?_⟩
 rintro ⟨⟨q,hq⟩,c,n⟩ ⟨hc0,hc1,hn,hrun⟩
 replace hc0:0<=c:=hc0;replace hc1:c<=1114111:=hc1;replace hn:n<=6:=hn;replace hrun:zd0 (7 - n) ⟨q,hq⟩ c n=zhh p a:=hrun;obtain ⟨h1,h2,h3⟩:=id hq;refine gw ?_;refine ⟨(⟨q,hq⟩:PX),obE (zm ⟨q,hq⟩),eL,trivial,?_⟩
 have hpk : -1<=pkV q/\pkV q<=255:=by
  unfold pkV;have:=uZ q.s q.k;split<;>omega
 have e1:48<=pkV q/\pkV q<=57->dgI (pkV q)=pkV q - 48:=fun h=>if_pos h
 have e2:65<=pkV q->dgI (pkV q)=pkV q - 65+10:=fun h=>if_neg (by omega)
 have d1:48<=pkV q/\pkV q<=57->zap (pkV q):=fun h=>.inl h
 have d2:65<=pkV q/\pkV q<=70->zap (pkV q):=fun h=>.inr h
 repeat' first|refine gw ?_|refine bs ?_ ?_<;>intro q_
 all_goals first
  | (refine ⟨((⟨q,hq⟩,3,(q.k:Int)):PX × Int × Int),obE (zm ⟨q,hq⟩),eL,trivial,?_⟩
     refine panM (q:=⟨q,hq⟩) (hrun.symm.trans ?_) (zd rfl rfl) rfl rfl
     first
      | exact zjy (d1 (by omega)) hn (by show 1114111<c*16+dgI (pkV q)\/6<n+1;omega)
      | exact zjy (d2 (by omega)) hn (by show 1114111<c*16+dgI (pkV q)\/6<n+1;omega)
      | exact (zjx (by show ¬zap (pkV q);unfold zap;omega) hn).trans (if_pos (by omega)))
  | (refine retM (q:=⟨q,hq⟩) (hrun.symm.trans ((zjx (by show ¬zap (pkV q);unfold zap;omega) hn).trans (if_neg (by omega)))) (zd rfl rfl) rfl rfl)
  | skip
 ·have hd:=d1 (by omega)
  have hv:=e1 (by omega)
  refine ⟨(adv ⟨q,hq⟩ (zgy hd),c*16+dgI (pkV q),n+1),⟨(by show 0<=c*16+dgI (pkV q);omega),(by show c*16+dgI (pkV q)<=1114111;omega),(by show n+1<=6;omega),?_⟩,(by show 7 - (n+1)<7 - n;omega),yv (zm (adv ⟨q,hq⟩ (zgy hd))) rfl tmS⟩
  exact (dig_go hd hn (by show ¬(1114111<c*16+dgI (pkV q)\/6<n+1);omega)).symm.trans hrun
 ·have hd:=d2 (by omega)
  have hv:=e2 (by omega)
  refine ⟨(adv ⟨q,hq⟩ (zgy hd),c*16+dgI (pkV q),n+1),⟨(by show 0<=c*16+dgI (pkV q);omega),(by show c*16+dgI (pkV q)<=1114111;omega),(by show n+1<=6;omega),?_⟩,(by show 7 - (n+1)<7 - n;omega),yv (zm (adv ⟨q,hq⟩ (zgy hd))) rfl tmS⟩
  exact (dig_go hd hn (by show ¬(1114111<c*16+dgI (pkV q)\/6<n+1);omega)).symm.trans hrun
def Γixb:Ctx:=fun f=>match f with
 | 124=>some (.ext idxG)
 | _=>none
theorem Γixb_ok:CK mx pb Γixb:=by
 intro f h hh;simp only[Γixb] at hh;split at hh<;>simp at hh<;>subst hh;exact idx_ok
def ctIx:Ct:=⟨ByteArray × Int,fun x=>[.v (.string x.1),.v (.int .u8 x.2)],fun x=>.v (.int .i64 (zht x.1 x.2)),fun _=>True⟩
theorem slIx_ok:SS mx pb 96 ctIx:=by
 refine sb (cc:=true) Γixb_ok Tryz.func96 ?_;rintro ⟨s,c⟩ _
 repeat' first|refine gw ?_|refine bs ?_ ?_<;>intro q_
 all_goals exact zd rfl rfl
def Γiy:Ctx:=fun f=>match f with
 | 96=>some (.pure ctIx)
 | _=>none
theorem Γiy_ok:CK mx pb Γiy:=by
 intro f h hh;simp only[Γiy] at hh;split at hh<;>simp at hh<;>subst hh
 ·exact slIx_ok
theorem zm3:SS mx pb 105 ctIx:=by
 refine sb (cc:=true) Γiy_ok Tryz.func105 ?_;rintro ⟨s,c⟩ _;have pp:ctIx.pre (s,c):=trivial
 repeat' first|refine gw ?_|refine bs ?_ ?_<;>intro q_
 all_goals exact zd rfl rfl
def Γxe:Ctx:=fun f=>match f with
 | 129=>some (.obj zbx)
 | 130=>some (.obj zal)
 | 201=>some (.obj zi0)
 | 230=>some (.obj ocDig)
 | 105=>some (.pure ctIx)
 | _=>none
theorem Γxe_ok:CK mx pb Γxe:=by
 intro f h hh;simp only[Γxe] at hh;split at hh<;>simp at hh<;>subst hh
 ·exact uz
 ·exact xF
 ·exact zg8
 ·exact xDig_ok
 ·exact zm3
def spcB:ByteArray:=⟨#[91,93,94,45,38,92,123,125]⟩
def spI (b:Int):Int:=zht spcB (IntKind.u8.wrap b)
def yM (p:PX) (_:Unit):OutP :=
 if h:pkV p.1=117 then
  (match yc (adv p (zI h (by decide)).1) 123 with
  | .ok _ q=>(match zhh q () with
   | .ok c r=>(match yc r 125 with | .ok _ t=>.ok c t | .bad e a t=>.bad e a t)
   | .bad e a r=>.bad e a r)
  | .bad e a q=>.bad e a q)
 else if h:p.1.k<p.1.s.size/\(pkV p.1=32\/0<=spI (pkV p.1)) then .ok (.v (.int .i64 (pkV p.1))) (adv p h.1) else .bad 3 p.1.k p
def ocEsc:Oc:=ocM Unit (fun _=>[]) (fun _ _=>True) yM
theorem zol:∀ (f:Nat) {p:PX}{c:Int}{n:Nat}{d:D}{r:PX},zd0 f p c n=.ok d r->0<=c->c<=1114111->∃ v:Int,d=.v (.int .i64 v)/\0<=v/\v<=1114111
 | 0,p,c,n,d,r,h,_,_=>by simp[zd0] at h
 | f+1,p,c,n,d,r,h,h0,h1=>by
  rw[zd0] at h;split at h
  ·rename_i hd;split at h
   ·simp at h
   ·rename_i hb;refine zol f h ?_ (by omega)
    have:=hd.2;unfold zap at this;unfold dgI;split<;>omega
  ·split at h
   ·simp at h
   ·simp at h;exact ⟨c,h.1.symm,h0,h1⟩
theorem xEsc_ok:SQ mx pb 210 ocEsc:=by
 refine so (cc:=true) Γxe_ok Tryz.func210 (fun x=>zm x.1) (fun _=>rfl) (fun x=>zm x.2.2.st) ?_;rintro ⟨⟨p,hp⟩,a,o⟩ ⟨_,ho⟩
 replace ho:yM ⟨p,hp⟩ a=o:=ho;subst ho;obtain ⟨h1,h2,h3⟩:=id hp;have hpk : -1<=pkV p/\pkV p<=255:=by
  unfold pkV;have:=uZ p.s p.k;split<;>omega
 have px:ctIx.pre (spcB,IntKind.u8.wrap (pkV p)):=trivial;refine gw ?_;refine ⟨(⟨p,hp⟩:PX),obE (zm ⟨p,hp⟩),eL,trivial,?_⟩
 by_cases hu:pkV p=117
 ·obtain ⟨e1,_⟩:=zI hu (by decide)
  refine gw ?_;cases he:yc (adv ⟨p,hp⟩ e1) 123 with
  | bad e b q =>
   refine ⟨((adv ⟨p,hp⟩ e1,123,.bad e b q):PX × Int × OutP),obE (zm (adv ⟨p,hp⟩ e1)),eL,⟨(by show (0:Int)<=123;decide),he⟩,?_⟩
   have hr:yM ⟨p,hp⟩ a=.bad e b q:=by unfold yM;rw[dif_pos (show pkV (⟨p,hp⟩:PX).1=117 from hu),he]
   exact panM hr (zd rfl rfl) rfl rfl
  | ok d q =>
   refine ⟨((adv ⟨p,hp⟩ e1,123,.ok d q):PX × Int × OutP),obE (zm (adv ⟨p,hp⟩ e1)),eL,⟨(by show (0:Int)<=123;decide),he⟩,?_⟩
   refine gw ?_;cases hd:zhh q () with
   | bad e b r =>
    refine ⟨((q,(),.bad e b r):PX × Unit × OutP),obE (zm q),eL,⟨trivial,hd⟩,?_⟩
    have hr:yM ⟨p,hp⟩ a=.bad e b r:=by unfold yM;rw[dif_pos (show pkV (⟨p,hp⟩:PX).1=117 from hu),he];dsimp only;rw[hd]
    exact panM hr (zd rfl rfl) rfl rfl
   | ok c r =>
    obtain ⟨v,rfl,hv0,hv1⟩:=zol 7 hd (by decide) (by decide)
    refine ⟨((q,(),.ok (.v (.int .i64 v)) r):PX × Unit × OutP),obE (zm q),eL,⟨trivial,hd⟩,?_⟩
    refine gw ?_;cases hf:yc r 125 with
    | bad e b t =>
     refine ⟨((r,125,.bad e b t):PX × Int × OutP),obE (zm r),eL,⟨(by show (0:Int)<=125;decide),hf⟩,?_⟩
     have hr:yM ⟨p,hp⟩ a=.bad e b t:=by unfold yM;rw[dif_pos (show pkV (⟨p,hp⟩:PX).1=117 from hu),he];dsimp only;rw[hd];dsimp only;rw[hf]
     exact panM hr (zd rfl rfl) rfl rfl
    | ok d2 t =>
     refine ⟨((r,125,.ok d2 t):PX × Int × OutP),obE (zm r),eL,⟨(by show (0:Int)<=125;decide),hf⟩,?_⟩
     have hr:yM ⟨p,hp⟩ a=.ok (.v (.int .i64 v)) t:=by unfold yM;rw[dif_pos (show pkV (⟨p,hp⟩:PX).1=117 from hu),he];dsimp only;rw[hd];dsimp only;rw[hf]
     refine gw ?_;exact retM hr (zd rfl rfl) rfl rfl
 ·have hbad:¬(p.k<p.s.size/\(pkV p=32\/0<=spI (pkV p)))->yM ⟨p,hp⟩ a=.bad 3 p.k ⟨p,hp⟩:=fun h=>by
   unfold yM;rw[dif_neg (show ¬pkV (⟨p,hp⟩:PX).1=117 from hu),dif_neg (show ¬((⟨p,hp⟩:PX).1.k<(⟨p,hp⟩:PX).1.s.size/\(pkV (⟨p,hp⟩:PX).1=32\/0<=spI (pkV (⟨p,hp⟩:PX).1))) from h)]
  have hgo:∀ hk:p.k<p.s.size,(pkV p=32\/0<=spI (pkV p))->yM ⟨p,hp⟩ a=.ok (.v (.int .i64 (pkV p))) (adv ⟨p,hp⟩ hk):=fun hk h=>by
   unfold yM;rw[dif_neg (show ¬pkV (⟨p,hp⟩:PX).1=117 from hu),dif_pos (show ((⟨p,hp⟩:PX).1.k<(⟨p,hp⟩:PX).1.s.size/\(pkV (⟨p,hp⟩:PX).1=32\/0<=spI (pkV (⟨p,hp⟩:PX).1))) from ⟨hk,h⟩)]
  have hlt:0<=pkV p->p.k<p.s.size:=fun h=>(zI (p:=p) rfl h).1;have hge:p.k<p.s.size->0<=pkV p:=fun h=>by rw[yE h];exact (uZ _ _).1
  repeat' first|refine gw ?_|refine bs ?_ ?_<;>intro q_
  ·refine ⟨((spcB,IntKind.u8.wrap (pkV p)):ByteArray × Int),eL,trivial,?_⟩
   repeat' first|refine gw ?_|refine bs ?_ ?_<;>intro q_
   ·refine ⟨((⟨p,hp⟩,3,(p.k:Int)):PX × Int × Int),obE (zm ⟨p,hp⟩),eL,trivial,?_⟩
    exact panM (q:=⟨p,hp⟩) (hbad fun h=>by
     rcases h.2 with h|h
     ·omega
     ·have h':0<=zht spcB (IntKind.u8.wrap (pkV p)):=h;omega) (zd rfl rfl) rfl rfl
   ·have hk:=hlt (by omega)
    exact retM (hgo hk (.inr (by show 0<=zht spcB (IntKind.u8.wrap (pkV p));omega))) (zd rfl rfl) rfl rfl
  ·refine ⟨((⟨p,hp⟩,3,(p.k:Int)):PX × Int × Int),obE (zm ⟨p,hp⟩),eL,trivial,?_⟩
   exact panM (q:=⟨p,hp⟩) (hbad fun h=>by have:=hge h.1;omega) (zd rfl rfl) rfl rfl
  ·have hk:=hlt (by omega)
   exact retM (hgo hk (.inl (by assumption))) (zd rfl rfl) rfl rfl
theorem pkV_bd (p:PSt): -1<=pkV p/\pkV p<=255:=by
 unfold pkV;have:=uZ p.s p.k;split<;>omega
theorem zk3 {p:PX}{d:D}{r:PX}(h:yM p ()=.ok d r):∃ v:Int,d=.v (.int .i64 v)/\0<=v/\v<=1114111:=by
 unfold yM at h;split at h
 ·split at h
  ·split at h
   ·rename_i hd;split at h
    ·simp at h;rw[<- h.1];exact zol 7 hd (by decide) (by decide)
    ·simp at h
   ·simp at h
  ·simp at h
 ·split at h
  ·rename_i hk;simp at h;have h1:=(uZ p.1.s p.1.k)
   have h2:=yE hk.1;exact ⟨_,h.1.symm,by omega,by omega⟩
  ·simp at h
def yD (p:PX) (_:Unit):OutP :=
 if h:pkV p.1=92 then yM (adv p (zI h (by decide)).1) ()
 else if h:p.1.k<p.1.s.size/\33<=pkV p.1/\pkV p.1<=126/\spI (pkV p.1)<0 then .ok (.v (.int .i64 (pkV p.1))) (adv p h.1) else .bad 3 p.1.k p
theorem vA {p:PX}{d:D}{r:PX}(h:yD p ()=.ok d r):∃ v:Int,d=.v (.int .i64 v)/\0<=v/\v<=1114111:=by
 unfold yD at h;split at h
 ·exact zk3 h
 ·split at h
  ·rename_i hk;simp at h;exact ⟨_,h.1.symm,by omega,by omega⟩
  ·simp at h
def ocChr:Oc:=ocM Unit (fun _=>[]) (fun _ _=>True) yD
def Γxc:Ctx:=fun f=>match f with
 | 129=>some (.obj zbx)
 | 130=>some (.obj zal)
 | 210=>some (.obj ocEsc)
 | 105=>some (.pure ctIx)
 | _=>none
theorem Γxc_ok:CK mx pb Γxc:=by
 intro f h hh;simp only[Γxc] at hh;split at hh<;>simp at hh<;>subst hh
 ·exact uz
 ·exact xF
 ·exact xEsc_ok
 ·exact zm3
theorem xChr_ok:SQ mx pb 191 ocChr:=by
 refine so (cc:=true) Γxc_ok Tryz.func191 (fun x=>zm x.1) (fun _=>rfl) (fun x=>zm x.2.2.st) ?_;rintro ⟨⟨p,hp⟩,a,o⟩ ⟨_,ho⟩
 replace ho:yD ⟨p,hp⟩ a=o:=ho;subst ho;obtain ⟨h1,h2,h3⟩:=id hp;have hpk:=pkV_bd p;refine gw ?_;refine ⟨(⟨p,hp⟩:PX),obE (zm ⟨p,hp⟩),eL,trivial,?_⟩
 by_cases hu:pkV p=92
 ·obtain ⟨e1,_⟩:=zI hu (by decide)
  refine gw ?_;cases he:yM (adv ⟨p,hp⟩ e1) () with
  | bad e b q =>
   refine ⟨((adv ⟨p,hp⟩ e1,(),.bad e b q):PX × Unit × OutP),obE (zm (adv ⟨p,hp⟩ e1)),eL,⟨trivial,he⟩,?_⟩
   have hr:yD ⟨p,hp⟩ a=.bad e b q:=by unfold yD;rw[dif_pos (show pkV (⟨p,hp⟩:PX).1=92 from hu)];exact he
   exact panM hr (zd rfl rfl) rfl rfl
  | ok d q =>
   obtain ⟨v,rfl,hv0,hv1⟩:=zk3 he;refine ⟨((adv ⟨p,hp⟩ e1,(),.ok (.v (.int .i64 v)) q):PX × Unit × OutP),obE (zm (adv ⟨p,hp⟩ e1)),eL,⟨trivial,he⟩,?_⟩
   have hr:yD ⟨p,hp⟩ a=.ok (.v (.int .i64 v)) q:=by unfold yD;rw[dif_pos (show pkV (⟨p,hp⟩:PX).1=92 from hu)];exact he
   refine gw ?_;exact retM hr (zd rfl rfl) rfl rfl
 ·have hbad:¬(p.k<p.s.size/\33<=pkV p/\pkV p<=126/\spI (pkV p)<0)->yD ⟨p,hp⟩ a=.bad 3 p.k ⟨p,hp⟩:=fun h=>by
   unfold yD;rw[dif_neg (show ¬pkV (⟨p,hp⟩:PX).1=92 from hu)];exact dif_neg h
  have hgo:∀ hk:p.k<p.s.size,(33<=pkV p/\pkV p<=126/\spI (pkV p)<0)->yD ⟨p,hp⟩ a=.ok (.v (.int .i64 (pkV p))) (adv ⟨p,hp⟩ hk):=fun hk h=>by
   unfold yD;rw[dif_neg (show ¬pkV (⟨p,hp⟩:PX).1=92 from hu)];exact dif_pos ⟨hk,h⟩
  have hlt:0<=pkV p->p.k<p.s.size:=fun h=>(zI (p:=p) rfl h).1
  repeat' first|refine gw ?_|refine bs ?_ ?_<;>intro q_
  all_goals first
   | (refine ⟨((⟨p,hp⟩,3,(p.k:Int)):PX × Int × Int),obE (zm ⟨p,hp⟩),eL,trivial,?_⟩
      exact panM (q:=⟨p,hp⟩) (hbad fun h=>by omega) (zd rfl rfl) rfl rfl)
   | (refine ⟨((spcB,IntKind.u8.wrap (pkV p)):ByteArray × Int),eL,trivial,?_⟩
      repeat' first|refine gw ?_|refine bs ?_ ?_<;>intro q_
      ·refine ⟨((⟨p,hp⟩,3,(p.k:Int)):PX × Int × Int),obE (zm ⟨p,hp⟩),eL,trivial,?_⟩
       exact panM (q:=⟨p,hp⟩) (hbad fun h=>by
        have h':zht spcB (IntKind.u8.wrap (pkV p))<0:=h.2.2.2;omega) (zd rfl rfl) rfl rfl
      ·have hk:=hlt (by omega)
       exact retM (hgo hk ⟨by omega,by omega,by show zht spcB (IntKind.u8.wrap (pkV p))<0;omega⟩) (zd rfl rfl) rfl rfl)
def isW (b:Int):Prop:=(48<=b/\b<=57)\/(65<=b/\b<=90)\/(97<=b/\b<=122)\/b=95
instance (b:Int):Decidable (isW b):=inferInstanceAs (Decidable (_\/_))
def wdF (s:ByteArray):Nat->Nat->Nat
 | 0,k=>k
 | n+1,k=>if k<s.size/\isW (bAt s k) then wdF s n (k+1) else k
def wdE (s:ByteArray) (k:Nat):Nat:=wdF s (s.size - k) k
theorem wdE_step (h:k<s.size) (hb:isW (bAt s k)):wdE s (k+1)=wdE s k:=by
 unfold wdE;rw[show s.size - k=(s.size - (k+1))+1 by omega,wdF,if_pos ⟨h,hb⟩]
theorem wdE_stop (h:¬(k<s.size/\isW (bAt s k))):wdE s k=k:=by
 unfold wdE;cases s.size - k with
 | zero=>rfl
 | succ n=>rw[wdF,if_neg h]
theorem ze4 {s:ByteArray}:∀ (n k:Nat),k<=s.size->k<=wdF s n k/\wdF s n k<=s.size
 | 0,k,h=>⟨Nat.le_refl _,h⟩
 | n+1,k,h=>by
  rw[wdF];split
  ·rename_i hk;have:=ze4 n (k+1) hk.1;omega
  ·exact ⟨Nat.le_refl _,h⟩
def goTo (p:PX) (k:Nat) (h:k<=p.1.s.size):PX:=⟨p.1.at k,p.2.1,h,p.2.2.2⟩
def wdP (p:PX):PX:=goTo p (wdE p.1.s p.1.k) (ze4 _ _ p.2.2.1).2
def xp (p:PX) (_:Unit):OutP :=
 if wdE p.1.s p.1.k=p.1.k then .bad 3 p.1.k p else .ok (.tu [.v (.string (zN p.1.s p.1.k (wdE p.1.s p.1.k))),.v (.int .i64 p.1.k)]) (wdP p)
def ocWrd:Oc:=ocM Unit (fun _=>[]) (fun _ _=>True) xp
theorem xWrd_ok:SQ mx pb 202 ocWrd:=by
 refine so (cc:=true) Γxc_ok Tryz.func202 (fun x=>zm x.1) (fun _=>rfl) (fun x=>zm x.2.2.st) ?_;rintro ⟨⟨p,hp⟩,a,o⟩ ⟨_,ho⟩
 replace ho:xp ⟨p,hp⟩ a=o:=ho;subst ho;obtain ⟨h1,h2,h3⟩:=id hp;have hle:=ze4 (s:=p.s) (p.s.size - p.k) p.k h2;refine gw ?_;refine ⟨0,Nat,fun k=>⟨[(0,.own 0 0),(4,.v (.int .i64 p.k))],[.cells 176 (pC (p.at k))],[]⟩,fun k=>p.k<=k/\k<=p.s.size/\wdE p.s k=wdE p.s p.k,fun k=>p.s.size - k,fun _=>Nat.le_refl _,⟨p.k,⟨Nat.le_refl _,h2,rfl⟩,yv (zlb h1) rfl tmS⟩,?_⟩
 rintro k ⟨hk1,hk2,hk3⟩
 have hok:OkP (p.at k):=⟨h1,hk2,h3⟩
 have hkk:(p.at k).k=k:=rfl;have hks:(p.at k).s.size=p.s.size:=rfl;have hpk:=pkV_bd (p.at k)
 refine gw ?_;refine ⟨(⟨p.at k,hok⟩:PX),obE (zm ⟨p.at k,hok⟩),eL,trivial,?_⟩
 by_cases hw:isW (pkV (p.at k))
 ·have hw':=hw;unfold isW at hw';obtain ⟨e1,e2⟩:=zI (p:=p.at k) rfl (by omega)
  have e3:k<p.s.size:=e1;have e4:isW (bAt p.s k):=by
   have e5:bAt p.s k=pkV (p.at k):=e2;rw[e5];exact hw
  repeat' first|refine gw ?_|refine bs ?_ ?_<;>intro q_
  all_goals first|(exfalso;omega)|exact ⟨k+1,⟨by omega,by omega,(wdE_step e3 e4).trans hk3⟩,(by show p.s.size - (k+1)<p.s.size - k;omega),yv (zlb h1) rfl tmS⟩
 ·have hw':=hw;unfold isW at hw';have e4:wdE p.s k=k:=wdE_stop fun h=>hw (by rw[yE (p:=p.at k) h.1];exact h.2)
  have hb:wdE p.s p.k=k:=hk3.symm.trans e4;by_cases hz:k=p.k
  ·have hr:xp ⟨p,hp⟩ a=.bad 3 p.k ⟨p,hp⟩:=if_pos (hb.trans hz)
   subst hz
   repeat' first|refine gw ?_|refine bs ?_ ?_<;>intro q_
   all_goals first
    | (exfalso;omega)
    | (refine ⟨((⟨p.at p.k,hok⟩,3,(p.k:Int)):PX × Int × Int),obE (zm ⟨p.at p.k,hok⟩),eL,trivial,?_⟩
       exact panM (q:=⟨p,hp⟩) hr (zd rfl rfl) rfl rfl)
  ·have hr:xp ⟨p,hp⟩ a=.ok (.tu [.v (.string (zN p.s p.k k)),.v (.int .i64 p.k)]) (wdP ⟨p,hp⟩):=by
    unfold xp;rw[if_neg (show ¬wdE (⟨p,hp⟩:PX).1.s (⟨p,hp⟩:PX).1.k=(⟨p,hp⟩:PX).1.k from fun h=>hz (hb.symm.trans h))];show OutP.ok (.tu [.v (.string (zN p.s p.k (wdE p.s p.k))),.v (.int .i64 p.k)]) _=_;rw[hb]
   repeat' first|refine gw ?_|refine bs ?_ ?_<;>intro q_
   all_goals first
    | (exfalso;omega)
    | (refine retM (q:=wdP ⟨p,hp⟩) hr (zd rfl rfl) rfl (by show pC (p.at k)=pC (p.at (wdE p.s p.k));rw[hb]))
end Go.Proofs
