import Derived.Test.YtnimkdbpoeondaaGreatDoorLz
set_option linter.all false
set_option maxHeartbeats 4000000
namespace Go.Proofs
open Go Go.Sx
variable {s:ByteArray}{k:Nat}{b:Int}{d:Int}{a:Unit}
variable {mx:Int}{pb:Bool}
structure RSt where
 db:Db
 s:ByteArray
 k:Nat
def RSt.at (p:RSt) (k:Nat):RSt:={ p with k:=k }
def rC (p:RSt):List D:=dbX (dD p.db)++[.v (.string p.s),.v (.int .i64 p.k)]
def OkR (p:RSt):Prop:=SmD p.db/\p.k<=p.s.size+1/\p.s.size<=65536
abbrev RX:={ p:RSt // OkR p }
theorem zcr (p:RSt):pdL (rC p)=true:=by
 simp[rC,dbX,pdL,pd,dD_pd]
theorem zx (p:RX):pdL (rC p.1)=true:=zcr p.1
def nxV (p:RSt):Int:=if p.k<p.s.size then bAt p.s p.k else 0
theorem zaz {p:RSt}(h:p.k<p.s.size):nxV p=bAt p.s p.k:=by unfold nxV;rw[if_pos h]
theorem nxV_ge {p:RSt}(h:¬p.k<p.s.size):nxV p=0:=by unfold nxV;rw[if_neg h]
theorem nxV_bd (p:RSt):0<=nxV p/\nxV p<=255:=by
 unfold nxV;have:=uZ p.s p.k;split<;>omega
theorem un {p:RSt}(h:nxV p=b) (hb:b≠0):p.k<p.s.size/\bAt p.s p.k=b:=by
 unfold nxV at h;split at h
 ·rename_i hk;exact ⟨hk,h⟩
 ·omega
def ocNx:Oc:={ ι:=RX,t:=102,before:=fun p=>rC p.1,inp:=fun _=>[],pre:=fun _=>True,after:=fun p=>rC p.1,res:=fun p=>.inl (.v (.int .u8 (nxV p.1))) }
theorem yNx_ok:SQ mx pb 67 ocNx:=by
 refine so (cc:=true) zaq Tryz.func67 zx (fun _=>rfl) zx ?_;rintro ⟨p,hp⟩ _;obtain ⟨h1,h2,h3⟩:=id hp
 repeat' first|refine gw ?_|refine bs ?_ ?_<;>intro q_
 ·refine And.intro (zd ?_ rfl) (And.intro rfl (obE (zx ⟨p,hp⟩)))
  show D.v (.int .u8 0)=D.v (.int .u8 (nxV p))
  rw[nxV_ge (by omega)]
 ·refine And.intro (zd ?_ rfl) (And.intro rfl (obE (zx ⟨p,hp⟩)))
  show D.v (.int .u8 (bAt p.s ((p.k:Int)).toNat))=D.v (.int .u8 (nxV p))
  rw[zaz (by omega),Int.toNat_natCast]
def intI (k:Int):D:=.ifc 3 (.v (.int .i64 k))
def zay:Oc:={ ι:=RX,t:=102,before:=fun x=>rC x.1,inp:=fun _=>[],pre:=fun _=>True,after:=fun x=>rC x.1,res:=fun x=>.inr (intI x.1.k) }
theorem vO:SQ mx pb 44 zay:=by
 refine so (cc:=true) zaq Tryz.func44 zx (fun _=>rfl) zx ?_;rintro ⟨p,hp⟩ _;obtain ⟨h1,h2,h3⟩:=id hp;refine gw ?_;exact And.intro (zd rfl rfl) (And.intro rfl (obE (zx ⟨p,hp⟩)))
def yp (p:RX) (h:p.1.k<p.1.s.size):RX:=⟨p.1.at (p.1.k+1),p.2.1,(by show p.1.k+1<=p.1.s.size+1;omega),p.2.2.2⟩
def tkR (p:RX) (b:Int):RX:=if h:p.1.k<p.1.s.size/\nxV p.1=b then yp p h.1 else p
theorem zbn {p:RX}(h:nxV p.1=b) (hb:b≠0):tkR p b=yp p (un h hb).1:=dif_pos ⟨(un h hb).1,h⟩
theorem tkR_n {p:RX}(h:¬nxV p.1=b):tkR p b=p:=dif_neg fun hh=>h hh.2
def ocTk:Oc:={ ι:=RX × Int × Bool × RX,t:=102,before:=fun x=>rC x.1.1,inp:=fun x=>[.v (.int .u8 x.2.1)],pre:=fun x=>x.2.1≠0/\decide (nxV x.1.1=x.2.1)=x.2.2.1/\tkR x.1 x.2.1=x.2.2.2,after:=fun x=>rC x.2.2.2.1,res:=fun x=>.inl (.v (.bool x.2.2.1)) }
theorem tk_y {p:RX}(h:nxV p.1=b) (hb:b≠0):ocTk.pre ((p,b,true,yp p (un h hb).1):RX × Int × Bool × RX):=⟨hb,decide_eq_true h,zbn h hb⟩
theorem tk_n {p:RX}(h:¬nxV p.1=b) (hb:b≠0):ocTk.pre ((p,b,false,p):RX × Int × Bool × RX):=⟨hb,decide_eq_false h,tkR_n h⟩
def Γy1:Ctx:=fun f=>match f with
 | 67=>some (.obj ocNx)
 | 44=>some (.obj zay)
 | _=>none
theorem Γy1_ok:CK mx pb Γy1:=by
 intro f h hh;simp only[Γy1] at hh;split at hh<;>simp at hh<;>subst hh
 ·exact yNx_ok
 ·exact vO
theorem yTk_ok:SQ mx pb 43 ocTk:=by
 refine so (cc:=true) Γy1_ok Tryz.func43 (fun x=>zx x.1) (fun _=>rfl) (fun x=>zx x.2.2.2) ?_;rintro ⟨⟨p,hp⟩,b,c,q⟩ ⟨hb,hc,hq⟩
 replace hb:b≠0:=hb;replace hc:decide (nxV p=b)=c:=hc;replace hq:tkR ⟨p,hp⟩ b=q:=hq;subst hc;subst hq;obtain ⟨h1,h2,h3⟩:=id hp;refine gw ?_;refine ⟨(⟨p,hp⟩:RX),obE (zx ⟨p,hp⟩),eL,trivial,?_⟩
 by_cases hq:nxV p=b
 ·have e:=zbn (p:=⟨p,hp⟩) hq hb;obtain ⟨hk,_⟩:=un hq hb;refine gw ?_;exact And.intro (zd (by show D.v (.bool true)=D.v (.bool (decide (nxV p=b)));rw[decide_eq_true hq]) rfl) (And.intro rfl (obE (zx (yp ⟨p,hp⟩ hk)) (by show rC (yp ⟨p,hp⟩ hk).1=rC (tkR ⟨p,hp⟩ b).1;rw[e])))
 ·have e:=tkR_n (p:=⟨p,hp⟩) hq;refine gw ?_;exact And.intro (zd (by show D.v (.bool false)=D.v (.bool (decide (nxV p=b)));rw[decide_eq_false hq]) rfl) (And.intro rfl (obE (zx ⟨p,hp⟩) (by show rC p=rC (tkR ⟨p,hp⟩ b).1;rw[e])))
def blR (p:RX):RX:=⟨p.1.at (blk p.1.s p.1.k),p.2.1,(by
 show blk p.1.s p.1.k<=p.1.s.size+1
 by_cases h:p.1.k<=p.1.s.size
 ·have:=(zae (s:=p.1.s) (p.1.s.size - p.1.k) p.1.k h).2
  unfold blk
  omega
 ·have e:blk p.1.s p.1.k=p.1.k:=yz fun hh=>h (Nat.le_of_lt hh.1)
  rw[e]
  exact p.2.2.1),p.2.2.2⟩
def ocBlR:Oc:={ ι:=RX,t:=102,before:=fun p=>rC p.1,inp:=fun _=>[],pre:=fun _=>True,after:=fun p=>rC (blR p).1,res:=fun p=>.inl (.tu []) }
def Γy2:Ctx:=fun f=>match f with
 | 43=>some (.obj ocTk)
 | _=>none
theorem Γy2_ok:CK mx pb Γy2:=by
 intro f h hh;simp only[Γy2] at hh;split at hh<;>simp at hh<;>subst hh
 ·exact yTk_ok
theorem yBl_ok:SQ mx pb 66 ocBlR:=by
 refine so (cc:=true) Γy2_ok Tryz.func66 zx (fun _=>rfl) (fun p=>zx (blR p)) ?_;rintro ⟨p,hp⟩ _;obtain ⟨h1,h2,h3⟩:=id hp;refine gw ?_;refine ⟨0,Nat,fun k=>⟨[(0,.own 0 0)],[.cells 102 (rC (p.at k))],[]⟩,fun k=>p.k<=k/\k<=p.s.size+1/\blk p.s k=blk p.s p.k,fun k=>p.s.size+1 - k,fun _=>Nat.le_refl _,⟨p.k,⟨Nat.le_refl _,h2,rfl⟩,yv (zcr (p.at p.k)) rfl tmS⟩,?_⟩
 rintro k ⟨hk1,hk2,hk3⟩
 have hok:OkR (p.at k):=⟨h1,hk2,h3⟩
 have hkk:(p.at k).k=k:=rfl;by_cases hb:nxV (p.at k)=32
 ·obtain ⟨e1,e2⟩:=un hb (by decide)
  have e3:k<p.s.size:=e1;refine gw ?_;refine ⟨((⟨p.at k,hok⟩,32,true,yp ⟨p.at k,hok⟩ e1):RX × Int × Bool × RX),obE (zx ⟨p.at k,hok⟩),eL,tk_y (p:=⟨p.at k,hok⟩) hb (by decide),?_⟩
  refine gw ?_;exact ⟨k+1,⟨by omega,by omega,(uI e1 e2).trans hk3⟩,(by show p.s.size+1 - (k+1)<p.s.size+1 - k;omega),yv (zcr (p.at (k+1))) rfl tmS⟩
 ·have e4:blk p.s k=k:=yz fun h=>hb (by rw[zaz (p:=p.at k) h.1];exact h.2)
  refine gw ?_;refine ⟨((⟨p.at k,hok⟩,32,false,⟨p.at k,hok⟩):RX × Int × Bool × RX),obE (zx ⟨p.at k,hok⟩),eL,tk_n (p:=⟨p.at k,hok⟩) hb (by decide),?_⟩
  refine gw ?_;exact And.intro (zd rfl rfl) (And.intro rfl (obE (zcr (p.at k)) (by show rC (p.at k)=rC (p.at (blk p.s p.k));rw[<- hk3,e4])))
def isL (b:Int):Prop:=(65<=b/\b<=90)\/(97<=b/\b<=122)\/(48<=b/\b<=57)
instance (b:Int):Decidable (isL b):=inferInstanceAs (Decidable (_\/_))
def ctLet:Ct:={ ι:=Int,inp:=fun b=>[.v (.int .u8 b)],out:=fun b=>.v (.bool (decide (isL b))),pre:=fun _=>True }
theorem yLet_ok:SS mx pb 68 ctLet:=by
 refine sb (cc:=true) zH Tryz.func68 ?_;intro (b:Int) _;by_cases h:isL b
 ·have hh:isL b:=h;unfold isL at hh;have e:ctLet.out b=.v (.bool true):=congrArg (fun b=>D.v (.bool b)) (decide_eq_true h)
  rw[e]
  repeat' first|refine gw ?_|refine bs ?_ ?_<;>intro q_
  all_goals first|(exfalso;omega)|exact ze rfl|exact ze (decide_eq_true (by omega))|exact ze (decide_eq_false (by omega))
 ·have hh:¬isL b:=h;unfold isL at hh;have e:ctLet.out b=.v (.bool false):=congrArg (fun b=>D.v (.bool b)) (decide_eq_false h)
  rw[e]
  repeat' first|refine gw ?_|refine bs ?_ ?_<;>intro q_
  all_goals first|(exfalso;omega)|exact ze rfl|exact ze (decide_eq_true (by omega))|exact ze (decide_eq_false (by omega))
def ctSng:Ct:={ ι:=Int,inp:=fun c=>[.v (.int .i64 c)],out:=fun c=>zR (canon [(c,c)]),pre:=fun _=>True }
def Γy3:Ctx:=fun f=>match f with
 | 53=>some (.pure ctMake)
 | _=>none
theorem Γy3_ok:CK mx pb Γy3:=by
 intro f h hh;simp only[Γy3] at hh;split at hh<;>simp at hh<;>subst hh
 ·exact yX
theorem ySng_ok:SS mx pb 69 ctSng:=by
 refine sb (cc:=true) Γy3_ok Tryz.func69 ?_;intro (c:Int) _;have p1:ctMake.pre [(c,c)]:=⟨(by show 1<4194304;decide),.inr (.inr trivial)⟩
 refine gw ?_;refine ⟨[(c,c)],EntL.cons (ue rfl rfl) (EntL.refl []),p1,?_⟩
 refine gw ?_;exact eR
inductive OutR where
 | ok (d:D) (q:RX)
 | bad (q:RX)
abbrev OutR.st:OutR->RX
 | .ok _ q=>q
 | .bad q=>q
abbrev OutR.res:OutR->D ⊕ D
 | .ok d _=>.inl d
 | .bad q=>.inr (intI q.1.k)
def ocR (A:Type) (inpD:A->List D) (pre:RX->A->Prop) (run:RX->A->OutR):Oc:={ ι:=RX × A × OutR,t:=102,before:=fun x=>rC x.1.1,inp:=fun x=>inpD x.2.1,pre:=fun x=>pre x.1 x.2.1/\run x.1 x.2.1=x.2.2,after:=fun x=>rC x.2.2.st.1,res:=fun x=>x.2.2.res }
theorem retR {A:Type}{inpD:A->List D}{pre:RX->A->Prop}{run:RX->A->OutR}{x:RX × A × OutR}{p:RX}{a:A}{d d':D}{q:RX}{ow:List Own}{l:List D}(hx:x=(p,a,run p a)) (hr:run p a=.ok d' q) (h:EntR d d') (ho:ow[0]?=some (Own.cells 102 l)) (hl:l=rC q.1):retO (ocR A inpD pre run) x d ow:=by
 subst hx;unfold retO;have h1:(ocR A inpD pre run).res (p,a,run p a)=.inl d':=by show (run p a).res=_;rw[hr]
 rw[h1];refine ⟨h,?_⟩
 unfold ObO;rw[ho];refine ⟨rfl,?_⟩
 show EntL (zgs ow l) (rC (run p a).st.1)
 rw[hr,hl,zau _ (zx q)];exact eL
theorem zkd {A:Type}{inpD:A->List D}{pre:RX->A->Prop}{run:RX->A->OutR}{x:RX × A × OutR}{p:RX}{a:A}{d:D}{q:RX}{ow:List Own}{l:List D}(hx:x=(p,a,run p a)) (hr:run p a=.bad q) (h:EntR d (intI q.1.k)) (ho:ow[0]?=some (Own.cells 102 l)) (hl:l=rC q.1):panO (ocR A inpD pre run) x ⟨[(0,d)],ow,[]⟩:=by
 subst hx;unfold panO;dsimp only;have h1:(ocR A inpD pre run).res (p,a,run p a)=.inr (intI q.1.k):=by show (run p a).res=_;rw[hr]
 rw[h1];refine ⟨h,?_⟩
 unfold ObO;rw[ho];refine ⟨rfl,?_⟩
 show EntL (zgs ow l) (rC (run p a).st.1)
 rw[hr,hl,zau _ (zx q)];exact eL
def goR (p:RX) (k:Nat) (h:k<=p.1.s.size+1):RX:=⟨p.1.at k,p.2.1,h,p.2.2.2⟩
def grF (s:ByteArray):Nat->Nat->Int->Nat × Bool
 | 0,k,_=>(k,false)
 | f+1,k,d =>
  if k<s.size then
   (if bAt s k=92 then grF s f (k+2) d
   else if bAt s k=91 then grF s f (k+1) (d+1)
   else if bAt s k=93 then (if d - 1=0 then (k+1,true) else grF s f (k+1) (d - 1))
   else grF s f (k+1) d)
  else (k,false)
theorem zb0 {s:ByteArray}:∀ (f k:Nat) (d:Int),k<=s.size+1->k<=(grF s f k d).1/\(grF s f k d).1<=s.size+1/\((grF s f k d).2=true->(grF s f k d).1<=s.size)
 | 0,k,d,h=>⟨Nat.le_refl _,h,fun hh=>Bool.noConfusion hh⟩
 | f+1,k,d,h=>by
  rw[grF];split
  ·rename_i hk;split
   ·have:=zb0 (s:=s) f (k+2) d (by omega)
    exact ⟨by omega,this.2⟩
   ·split
    ·have:=zb0 (s:=s) f (k+1) (d+1) (by omega)
     exact ⟨by omega,this.2⟩
    ·split
     ·split
      ·exact ⟨Nat.le_succ _,by show k+1<=_;omega,fun _=>hk⟩
      ·have:=zb0 (s:=s) f (k+1) (d - 1) (by omega)
       exact ⟨by omega,this.2⟩
     ·have:=zb0 (s:=s) f (k+1) d (by omega)
      exact ⟨by omega,this.2⟩
  ·exact ⟨Nat.le_refl _,h,fun hh=>Bool.noConfusion hh⟩
def grE (s:ByteArray) (k:Nat) (d:Int):Nat × Bool:=grF s (s.size - k) k d
theorem vo {s:ByteArray}:∀ (f g k:Nat) (d:Int),s.size - k<=f->s.size - k<=g->grF s f k d=grF s g k d
 | 0,0,k,d,_,_=>rfl
 | 0,g+1,k,d,h,_=>by rw[grF,grF,if_neg (by omega)]
 | f+1,0,k,d,_,h=>by rw[grF,grF,if_neg (by omega)]
 | f+1,g+1,k,d,h1,h2=>by
  rw[grF,grF];rw[vo f g (k+2) d (by omega) (by omega),vo f g (k+1) (d+1) (by omega) (by omega),vo f g (k+1) (d - 1) (by omega) (by omega),vo f g (k+1) d (by omega) (by omega)]
theorem znx (h:k<s.size) (hb:bAt s k=92):grE s k d=grE s (k+2) d:=by
 unfold grE;obtain ⟨n,hn⟩:∃ n,s.size - k=n+1:=⟨s.size - k - 1,by omega⟩
 rw[hn,grF,if_pos h,if_pos hb];exact vo _ _ _ _ (by omega) (by omega)
theorem zfw (h:k<s.size) (hb:bAt s k=91):grE s k d=grE s (k+1) (d+1):=by
 unfold grE;obtain ⟨n,hn⟩:∃ n,s.size - k=n+1:=⟨s.size - k - 1,by omega⟩
 rw[hn,grF,if_pos h,if_neg (by omega),if_pos hb];exact vo _ _ _ _ (by omega) (by omega)
theorem grE_cls (h:k<s.size) (hb:bAt s k=93) (hd:d - 1≠0):grE s k d=grE s (k+1) (d - 1):=by
 unfold grE;obtain ⟨n,hn⟩:∃ n,s.size - k=n+1:=⟨s.size - k - 1,by omega⟩
 rw[hn,grF,if_pos h,if_neg (by omega),if_neg (by omega),if_pos hb,if_neg hd];exact vo _ _ _ _ (by omega) (by omega)
theorem grE_end (h:k<s.size) (hb:bAt s k=93) (hd:d - 1=0):grE s k d=(k+1,true):=by
 unfold grE;obtain ⟨n,hn⟩:∃ n,s.size - k=n+1:=⟨s.size - k - 1,by omega⟩
 rw[hn,grF,if_pos h,if_neg (by omega),if_neg (by omega),if_pos hb,if_pos hd]
theorem grE_else (h:k<s.size) (h1:¬bAt s k=92) (h2:¬bAt s k=91) (h3:¬bAt s k=93):grE s k d=grE s (k+1) d:=by
 unfold grE;obtain ⟨n,hn⟩:∃ n,s.size - k=n+1:=⟨s.size - k - 1,by omega⟩
 rw[hn,grF,if_pos h,if_neg h1,if_neg h2,if_neg h3];exact vo _ _ _ _ (by omega) (by omega)
theorem grE_out (h:¬k<s.size):grE s k d=(k,false):=by
 unfold grE;rw[show s.size - k=0 by omega];rfl
def zbo (p:RX) (_:Unit):OutR :=
 if (grE p.1.s p.1.k 0).2=true then .ok (.v (.string (zN p.1.s p.1.k (grE p.1.s p.1.k 0).1))) (goR p (grE p.1.s p.1.k 0).1 (zb0 _ _ _ p.2.2.1).2.1) else .bad (goR p (grE p.1.s p.1.k 0).1 (zb0 _ _ _ p.2.2.1).2.1)
theorem zin {p:RX}(h:grE p.1.s p.1.k 0=(k,true)) (hk:k<=p.1.s.size+1):zbo p a=.ok (.v (.string (zN p.1.s p.1.k k))) (goR p k hk):=by
 have h1:(grE p.1.s p.1.k 0).1=k:=by rw[h]
 unfold zbo;rw[if_pos (by rw[h])];subst h1;rfl
theorem zk2 {p:RX}(h:grE p.1.s p.1.k 0=(k,false)) (hk:k<=p.1.s.size+1):zbo p a=.bad (goR p k hk):=by
 have h1:(grE p.1.s p.1.k 0).1=k:=by rw[h]
 unfold zbo;rw[if_neg (by rw[h];exact Bool.false_ne_true)];subst h1;rfl
def clB (p:RX):Int:=zht (zN p.1.s p.1.k p.1.s.size) 125
theorem bcut_rest (h:k<=s.size):(zN s k s.size).size=s.size - k:=by
 show ((s.data.toList.take s.data.toList.length).drop k).length=_;rw[List.take_length,List.length_drop];rfl
def zbp (p:RX) (_:Unit):OutR :=
 if h:0<=clB p/\p.1.k+(clB p).toNat+1<=p.1.s.size then .ok (.v (.string (zN p.1.s p.1.k (p.1.k+(clB p).toNat+1)))) (goR p (p.1.k+(clB p).toNat+1) (by omega)) else .bad p
noncomputable def zgw (p:RX) (x:ByteArray × ByteArray × ByteArray):OutR :=
 if (prs p.1.db (yt (yt x.2.1 x.1) x.2.2)).2.1=0 then .ok (zR (prs p.1.db (yt (yt x.2.1 x.1) x.2.2)).1) p else .bad p
def tk1 (p:RX) (b:Int) (f:RX->OutR):OutR:=if nxV p.1=b then f (tkR p b) else .bad p
theorem zgd {p:RX}(h:zap (nxV p.1)):p.1.k<p.1.s.size:=by
 unfold zap at h;exact (un (p:=p.1) rfl (by omega)).1
theorem ua {p:RX}(h:nxV p.1=b) (hb:b≠0):p.1.k<p.1.s.size:=(un h hb).1
def esF:Nat->RX->Int->Nat->OutR
 | 0,p,_,_=>.bad p
 | f+1,p,c,n =>
  if h:nxV p.1=125 then (if n=0 then .bad (yp p (ua h (by decide))) else .ok (.v (.int .i64 c)) (yp p (ua h (by decide))))
  else if h:zap (nxV p.1) then (if 6<n+1\/1114111<16*c+dgI (nxV p.1) then .bad p else esF f (yp p (zgd h)) (16*c+dgI (nxV p.1)) (n+1))
  else .bad p
def vR (p:RX) (_:Unit):OutR:=tk1 p 92 fun p=>tk1 p 117 fun p=>tk1 p 123 fun p=>esF 8 p 0 0
inductive OutS (α:Type) where
 | ok (l:List α) (q:RX)
 | bad (q:RX)
def OutS.p {α:Type}(f:List α->D):OutS α->OutR
 | .ok l q=>.ok (f l) q
 | .bad q=>.bad q
def dS:D->ByteArray
 | .v (.string s)=>s
 | _=>⟨#[]⟩
def dL:D->List Rg
 | _=>[]
def zcf:ByteArray:=⟨#[92,112,123]⟩
def lbS:ByteArray:=⟨#[91]⟩
def rbS:ByteArray:=⟨#[93]⟩
def emS:ByteArray:=⟨#[]⟩
noncomputable def xpL (p:RX) (t b a:ByteArray) (f:List Rg->RX->OutS (List Rg)):OutS (List Rg):=
 if (prs p.1.db (yt (yt b t) a)).2.1=0 then f (prs p.1.db (yt (yt b t) a)).1 p else .bad p
noncomputable def elF:Nat->RX->List (List Rg)->OutS (List Rg)
 | 0,p,_=>.bad p
 | f+1,p0,L =>
  if h:isL (nxV (blR p0).1) then elF f (yp (blR p0) (by unfold isL at h;exact (un (p:=(blR p0).1) rfl (by omega)).1)) (L++[canon [(nxV (blR p0).1,nxV (blR p0).1)]])
  else if nxV (blR p0).1=91 then
   (match zbo (blR p0) () with
   | .bad q=>.bad q
   | .ok d q=>xpL q (dS d) emS emS fun S q=>elF f q (L++[S]))
  else if nxV (blR p0).1=92/\hpB (zN (blR p0).1.s (blR p0).1.k (blR p0).1.s.size) zcf=true then
   (match zbp (blR p0) () with
   | .bad q=>.bad q
   | .ok d q=>xpL q (dS d) lbS rbS fun S q=>elF f q (L++[S]))
  else if nxV (blR p0).1=92 then
   (match vR (blR p0) () with
   | .bad q=>.bad q
   | .ok d q=>elF f q (L++[canon [(dI d,dI d)]]))
  else .ok L (blR p0)
noncomputable def zat (p:RX):OutS (List Rg):=elF (p.1.s.size+2) p []
def pcF:Nat->RX->List Rg->OutS Rg
 | 0,p,_=>.bad p
 | f+1,p0,L =>
  if hk:(blR p0).1.k<(blR p0).1.s.size then
   (if isL (nxV (blR p0).1) then pcF f (yp (blR p0) hk) (L++[(nxV (blR p0).1,0)])
   else if nxV (blR p0).1=92 then
    (match vR (blR p0) () with
    | .bad q=>.bad q
    | .ok d q=>pcF f q (L++[(dI d,0)]))
   else if nxV (blR p0).1=36 then
    (if h:49<=nxV (yp (blR p0) hk).1/\nxV (yp (blR p0) hk).1<=56 then pcF f (yp (yp (blR p0) hk) ((un (p:=(yp (blR p0) hk).1) rfl (by omega)).1)) (L++[(0,nxV (yp (blR p0) hk).1 - 48)])
    else .bad (yp (blR p0) hk))
   else .bad (blR p0))
  else .ok L (blR p0)
def zfh (p:RX):OutS Rg:=pcF (p.1.s.size+2) p []
def finP (B M A:List (List Rg)) (p:RX):Option Tl:=if nxV p.1=62 then (match zfh (tkR p 62) with | .bad _=>none | .ok R _=>some ⟨B,M,A,R⟩) else none
noncomputable def aftP (B M:List (List Rg)) (p:RX):Option Tl:=if nxV p.1=125 then (match zat (tkR p 125) with | .bad _=>none | .ok A q=>finP B M A q) else finP B M [] p
noncomputable def rulP (p:RX):Option Tl :=
 match zat p with
 | .bad _=>none
 | .ok M p1=>if nxV p1.1=123 then (match zat (tkR p1 123) with | .bad _=>none | .ok M' q=>aftP M M' q) else aftP [] M p1
theorem blR_s (p:RX):(blR p).1.s=p.1.s:=rfl
theorem blR_k (p:RX):p.1.k<=(blR p).1.k:=by
 show p.1.k<=blk p.1.s p.1.k;by_cases h:p.1.k<=p.1.s.size
 ·exact (zae (s:=p.1.s) (p.1.s.size - p.1.k) p.1.k h).1
 ·rw[yz fun hh=>h (Nat.le_of_lt hh.1)];exact Nat.le_refl _
def GoesR (p q:RX):Prop:=q.1.s=p.1.s/\p.1.k<q.1.k
theorem runGr_goes {p q:RX}{d:D}(h91:nxV p.1=91) (h:zbo p ()=.ok d q):GoesR p q:=by
 unfold zbo at h;split at h
 ·injection h with _ h2;subst h2;refine ⟨rfl,?_⟩
  obtain ⟨hk,hb⟩:=un h91 (by decide)
  show p.1.k<(grE p.1.s p.1.k 0).1;rw[zfw hk hb];have:=(zb0 (s:=p.1.s) (p.1.s.size - (p.1.k+1)) (p.1.k+1) (0+1) (by omega)).1;exact this
 ·exact OutR.noConfusion h
theorem runCl_goes {p q:RX}{d:D}(h:zbp p ()=.ok d q):GoesR p q:=by
 unfold zbp at h;split at h
 ·injection h with _ h2;subst h2;exact ⟨rfl,by show p.1.k<p.1.k+_+1;omega⟩
 ·exact OutR.noConfusion h
theorem esF_goes:∀ (f:Nat) {p q:RX}{c:Int}{n:Nat}{d:D},esF f p c n=.ok d q->0<=c->c<=1114111->GoesR p q/\∃ v:Int,d=.v (.int .i64 v)/\0<=v/\v<=1114111
 | 0,p,q,c,n,d,h,_,_=>OutR.noConfusion h
 | f+1,p,q,c,n,d,h,h0,h1=>by
  rw[esF] at h;split at h
  ·split at h
   ·exact OutR.noConfusion h
   ·injection h with e1 e2;subst e2;exact ⟨⟨rfl,Nat.lt_succ_self _⟩,c,e1.symm,h0,h1⟩
  ·split at h
   ·rename_i hd;split at h
    ·exact OutR.noConfusion h
    ·have hv:0<=dgI (nxV p.1):=by unfold zap at hd;unfold dgI;split<;>omega
     obtain ⟨g,hv⟩:=esF_goes f h (by omega) (by omega)
     exact ⟨⟨g.1,Nat.lt_trans (Nat.lt_succ_self _) g.2⟩,hv⟩
   ·exact OutR.noConfusion h
theorem tkR_k (p:RX) (b:Int):(tkR p b).1.s=p.1.s/\p.1.k<=(tkR p b).1.k:=by
 unfold tkR;split
 ·exact ⟨rfl,Nat.le_succ _⟩
 ·exact ⟨rfl,Nat.le_refl _⟩
theorem zhg {p q:RX}{d:D}(h:vR p ()=.ok d q):GoesR p q/\∃ v:Int,d=.v (.int .i64 v)/\0<=v/\v<=1114111:=by
 unfold vR tk1 at h;split at h
 ·dsimp only at h;split at h
  ·split at h
   ·obtain ⟨g,hv⟩:=esF_goes 8 h (by decide) (by decide)
    have g1:=tkR_k p 92;have g2:=tkR_k (tkR p 92) 117;have g3:=tkR_k (tkR (tkR p 92) 117) 123;exact ⟨⟨g.1.trans (g3.1.trans (g2.1.trans g1.1)),by have:=g.2;omega⟩,hv⟩
   ·exact OutR.noConfusion h
  ·exact OutR.noConfusion h
 ·exact OutR.noConfusion h
theorem runGr_str {p q:RX}{d:D}(h:zbo p ()=.ok d q):∃ s:ByteArray,d=.v (.string s)/\s.size<=65536:=by
 unfold zbo at h;split at h
 ·rename_i hg;injection h with e1 _;refine ⟨_,e1.symm,?_⟩
  have h1:=(zb0 (s:=p.1.s) (p.1.s.size - p.1.k) p.1.k 0 p.2.2.1).2.2 hg;have h2:=p.2.2.2;have e:(zN p.1.s p.1.k (grE p.1.s p.1.k 0).1).size<=p.1.s.size:=by
   show ((p.1.s.data.toList.take _).drop _).length<=p.1.s.data.toList.length;rw[List.length_drop,List.length_take];omega
  omega
 ·exact OutR.noConfusion h
theorem runCl_str {p q:RX}{d:D}(h:zbp p ()=.ok d q):∃ s:ByteArray,d=.v (.string s)/\s.size<=65536:=by
 unfold zbp at h;split at h
 ·injection h with e1 _;refine ⟨_,e1.symm,?_⟩
  have h2:=p.2.2.2;have e:(zN p.1.s p.1.k (p.1.k+(clB p).toNat+1)).size<=p.1.s.size:=by
   show ((p.1.s.data.toList.take _).drop _).length<=p.1.s.data.toList.length;rw[List.length_drop,List.length_take];omega
  omega
 ·exact OutR.noConfusion h
theorem ml2:∀ i,i<1->([0,1]:List Nat)[i]?=some i:=fun i hi=>by
 have:i=0:=by omega
 subst this;rfl
theorem ml3:∀ i,i<1->([0,2]:List Nat)[i]?=some i:=fun i hi=>by
 have:i=0:=by omega
 subst this;rfl
theorem runCl_ok {p:RX}{n:Nat}(h:clB p=(n:Int)) (hk:p.1.k+n+1<=p.1.s.size):zbp p a=.ok (.v (.string (zN p.1.s p.1.k (p.1.k+n+1)))) (goR p (p.1.k+n+1) (by omega)):=by
 have e:(clB p).toNat=n:=by omega
 have h0:0<=clB p:=by omega
 subst e;exact dif_pos ⟨h0,hk⟩
theorem runCl_bad {p:RX}(h:clB p<0):zbp p a=.bad p:=dif_neg fun hh=>by omega
end Go.Proofs
