import Derived.Test.YtcihhjjmcompkaaGreatDoorX1
import Derived.Test.YtcihhjjmcompkaaGreatDoorSoz
import Derived.Test.YtcihhjjmcompkaaGreatDoorGc
import Derived.Test.YtcihhjjmcompkaaGreatDoorCvz
import Derived.Test.YtcihhjjmcompkaaGreatDoorLz
set_option linter.unusedVariables false
set_option linter.unusedSimpArgs false
namespace Go.Proofs
open Go Go.Sx
variable {mx:Int}{pb:Bool}
structure RSt where
 db:Db
 s:ByteArray
 k:Nat
def RSt.at (p:RSt) (k:Nat):RSt:={ p with k:=k }
def rC (p:RSt):List D:=dbX (dD p.db)++[.v (.string p.s),.v (.int .i64 p.k)]
def OkR (p:RSt):Prop:=SmD p.db∧p.k≤p.s.size+1∧p.s.size≤65536
abbrev RX:={ p:RSt // OkR p }
theorem zi5 (p:RSt):pdL (rC p)=true:=by
 simp[rC,dbX,pdL,pd,dD_pd]
theorem za0 (p:RX):pdL (rC p.1)=true:=zi5 p.1
def nxV (p:RSt):Int:=if p.k<p.s.size then bAt p.s p.k else 0
theorem nxV_lt {p:RSt}(h:p.k<p.s.size):nxV p=bAt p.s p.k:=by unfold nxV;rw[if_pos h]
theorem nxV_ge {p:RSt}(h:¬p.k<p.s.size):nxV p=0:=by unfold nxV;rw[if_neg h]
theorem nxV_bd (p:RSt):0≤nxV p∧nxV p≤255:=by
 unfold nxV
 have:=bAt_bd p.s p.k
 split<;>omega
theorem zh5 {p:RSt}{b:Int}(h:nxV p=b) (hb:b≠0):p.k<p.s.size∧bAt p.s p.k=b:=by
 unfold nxV at h
 split at h
 ·rename_i hk;exact ⟨hk,h⟩
 ·omega
def ocNx:Oc:={ ι:=RX,t:=164,before:=fun p=>rC p.1,inp:=fun _=>[],pre:=fun _=>True,after:=fun p=>rC p.1,res:=fun p=>.inl (.v (.int .u8 (nxV p.1))) }
set_option maxHeartbeats 2000000 in
theorem yNx_ok:zbt Tryz.prog (GlT mx pb) 162 ocNx:=by
 refine zbc (cc:=true) Γx0_ok Tryz.T_ok Tryz.mixed Tryz.func162 rfl (by kernel_rfl) za0 (fun _=>rfl) za0 (fun _ _=>by show 1≤_;decide) ?_
 rintro ⟨p,hp⟩ _
 obtain ⟨h1,h2,h3⟩:=id hp
 repeat' (first|refine gw ?_|(first|refine br ?_ ?_|refine brF ?_ ?_)<;>intro q_<;>try simp only[nz] at q_)
 ·refine And.intro (zaj ?_ rfl) (And.intro rfl (obE (za0 ⟨p,hp⟩)))
  show D.v (.int .u8 0)=D.v (.int .u8 (nxV p))
  rw[nxV_ge (by omega)]
 ·refine And.intro (zaj ?_ rfl) (And.intro rfl (obE (za0 ⟨p,hp⟩)))
  show D.v (.int .u8 (bAt p.s ((p.k:Int)).toNat))=D.v (.int .u8 (nxV p))
  rw[nxV_lt (by omega),Int.toNat_natCast]
def intI (k:Int):D:=.ifc 3 (.v (.int .i64 k))
def zhl:Oc:={ ι:=RX,t:=164,before:=fun x=>rC x.1,inp:=fun _=>[],pre:=fun _=>True,after:=fun x=>rC x.1,res:=fun x=>.inr (intI x.1.k) }
set_option maxHeartbeats 2000000 in
theorem zgk:zbt Tryz.prog (GlT mx pb) 123 zhl:=by
 refine zbc (cc:=true) Γx0_ok Tryz.T_ok Tryz.mixed Tryz.func123 rfl (by kernel_rfl) za0 (fun _=>rfl) za0 (fun _ _=>by show 1≤_;decide) ?_
 rintro ⟨p,hp⟩ _
 obtain ⟨h1,h2,h3⟩:=id hp
 repeat' (first|refine gw ?_|(first|refine br ?_ ?_|refine brF ?_ ?_)<;>intro q_<;>try simp only[nz] at q_)
 exact And.intro (zaj rfl rfl) (And.intro rfl (obE (za0 ⟨p,hp⟩)))
def zcg (p:RX) (h:p.1.k<p.1.s.size):RX:=⟨p.1.at (p.1.k+1),p.2.1,(by show p.1.k+1≤p.1.s.size+1;omega),p.2.2.2⟩
def tkR (p:RX) (b:Int):RX:=if h:p.1.k<p.1.s.size∧nxV p.1=b then zcg p h.1 else p
theorem zii {p:RX}{b:Int}(h:nxV p.1=b) (hb:b≠0):tkR p b=zcg p (zh5 h hb).1:=dif_pos ⟨(zh5 h hb).1,h⟩
theorem tkR_n {p:RX}{b:Int}(h:¬nxV p.1=b):tkR p b=p:=dif_neg fun hh=>h hh.2
def ocTk:Oc:={ ι:=RX × Int × Bool × RX,t:=164,before:=fun x=>rC x.1.1,inp:=fun x=>[.v (.int .u8 x.2.1)],pre:=fun x=>x.2.1≠0∧decide (nxV x.1.1=x.2.1)=x.2.2.1∧tkR x.1 x.2.1=x.2.2.2,after:=fun x=>rC x.2.2.2.1,res:=fun x=>.inl (.v (.bool x.2.2.1)) }
theorem tk_y {p:RX}{b:Int}(h:nxV p.1=b) (hb:b≠0):ocTk.pre ((p,b,true,zcg p (zh5 h hb).1):RX × Int × Bool × RX):=⟨hb,decide_eq_true h,zii h hb⟩
theorem tk_n {p:RX}{b:Int}(h:¬nxV p.1=b) (hb:b≠0):ocTk.pre ((p,b,false,p):RX × Int × Bool × RX):=⟨hb,decide_eq_false h,tkR_n h⟩
def Γy1:Ctx:=fun f=>match f with
 | 162=>some (.obj ocNx)
 | 123=>some (.obj zhl)
 | _=>none
theorem Γy1_ok:za1 Tryz.prog (GlT mx pb) Γy1:=by
 intro f h hh
 simp only[Γy1] at hh
 split at hh<;>simp at hh<;>subst hh
 ·exact yNx_ok
 ·exact zgk
set_option maxHeartbeats 2000000 in
theorem yTk_ok:zbt Tryz.prog (GlT mx pb) 122 ocTk:=by
 refine zbc (cc:=true) Γy1_ok Tryz.T_ok Tryz.mixed Tryz.func122 rfl (by kernel_rfl) (fun x=>za0 x.1) (fun _=>rfl) (fun x=>za0 x.2.2.2) (fun _ _=>by show 2≤_;decide) ?_
 rintro ⟨⟨p,hp⟩,b,c,q⟩ ⟨hb,hc,hq⟩
 replace hb:b≠0:=hb
 replace hc:decide (nxV p=b)=c:=hc
 replace hq:tkR ⟨p,hp⟩ b=q:=hq
 subst hc
 subst hq
 obtain ⟨h1,h2,h3⟩:=id hp
 repeat' (first|refine gw ?_|(first|refine br ?_ ?_|refine brF ?_ ?_)<;>intro q_<;>try simp only[nz] at q_)
 refine ⟨(⟨p,hp⟩:RX),obE (za0 ⟨p,hp⟩),zaa _,trivial,?_⟩
 by_cases hq:nxV p=b
 ·have e:=zii (p:=⟨p,hp⟩) hq hb
  obtain ⟨hk,_⟩:=zh5 hq hb
  repeat' (first|refine gw ?_|(first|refine br ?_ ?_|refine brF ?_ ?_)<;>intro q_<;>try simp only[nz] at q_)
  exact And.intro (zaj (by show D.v (.bool true)=D.v (.bool (decide (nxV p=b)));rw[decide_eq_true hq]) rfl) (And.intro rfl (obE (za0 (zcg ⟨p,hp⟩ hk)) (by show rC (zcg ⟨p,hp⟩ hk).1=rC (tkR ⟨p,hp⟩ b).1;rw[e])))
 ·have e:=tkR_n (p:=⟨p,hp⟩) hq
  repeat' (first|refine gw ?_|(first|refine br ?_ ?_|refine brF ?_ ?_)<;>intro q_<;>try simp only[nz] at q_)
  exact And.intro (zaj (by show D.v (.bool false)=D.v (.bool (decide (nxV p=b)));rw[decide_eq_false hq]) rfl) (And.intro rfl (obE (za0 ⟨p,hp⟩) (by show rC p=rC (tkR ⟨p,hp⟩ b).1;rw[e])))
def blR (p:RX):RX:=⟨p.1.at (blk p.1.s p.1.k),p.2.1,(by
 show blk p.1.s p.1.k≤p.1.s.size+1
 by_cases h:p.1.k≤p.1.s.size
 ·have:=(blkF_le (s:=p.1.s) (p.1.s.size - p.1.k) p.1.k h).2
  unfold blk
  omega
 ·have e:blk p.1.s p.1.k=p.1.k:=zet fun hh=>h (Nat.le_of_lt hh.1)
  rw[e]
  exact p.2.2.1),p.2.2.2⟩
def ocBlR:Oc:={ ι:=RX,t:=164,before:=fun p=>rC p.1,inp:=fun _=>[],pre:=fun _=>True,after:=fun p=>rC (blR p).1,res:=fun p=>.inl (.tu []) }
def Γy2:Ctx:=fun f=>match f with
 | 122=>some (.obj ocTk)
 | _=>none
theorem Γy2_ok:za1 Tryz.prog (GlT mx pb) Γy2:=by
 intro f h hh
 simp only[Γy2] at hh
 split at hh<;>simp at hh<;>subst hh
 ·exact yTk_ok
set_option maxHeartbeats 2000000 in
theorem yBl_ok:zbt Tryz.prog (GlT mx pb) 161 ocBlR:=by
 refine zbc (cc:=true) Γy2_ok Tryz.T_ok Tryz.mixed Tryz.func161 rfl (by kernel_rfl) za0 (fun _=>rfl) (fun p=>za0 (blR p)) (fun _ _=>by show 1≤_;decide) ?_
 rintro ⟨p,hp⟩ _
 obtain ⟨h1,h2,h3⟩:=id hp
 repeat' (first|refine gw ?_|(first|refine br ?_ ?_|refine brF ?_ ?_)<;>intro q_<;>try simp only[nz] at q_)
 refine ⟨0,Nat,fun k=>⟨[(0,.own 0 0)],[.cells 164 (rC (p.at k))],[]⟩,fun k=>p.k≤k∧k≤p.s.size+1∧blk p.s k=blk p.s p.k,fun k=>p.s.size+1 - k,fun _=>Nat.le_refl _,⟨p.k,⟨Nat.le_refl _,h2,rfl⟩,zfc (zi5 (p.at p.k)) rfl tmS⟩,?_⟩
 rintro k ⟨hk1,hk2,hk3⟩
 have hok:OkR (p.at k):=⟨h1,hk2,h3⟩
 have hkk:(p.at k).k=k:=rfl
 by_cases hb:nxV (p.at k)=32
 ·obtain ⟨e1,e2⟩:=zh5 hb (by decide)
  have e3:k<p.s.size:=e1
  repeat' (first|refine gw ?_|(first|refine br ?_ ?_|refine brF ?_ ?_)<;>intro q_<;>try simp only[nz] at q_)
  refine ⟨((⟨p.at k,hok⟩,32,true,zcg ⟨p.at k,hok⟩ e1):RX × Int × Bool × RX),obE (za0 ⟨p.at k,hok⟩),zaa _,tk_y (p:=⟨p.at k,hok⟩) hb (by decide),?_⟩
  repeat' (first|refine gw ?_|(first|refine br ?_ ?_|refine brF ?_ ?_)<;>intro q_<;>try simp only[nz] at q_)
  exact ⟨k+1,⟨by omega,by omega,(zjn e1 e2).trans hk3⟩,(by show p.s.size+1 - (k+1)<p.s.size+1 - k;omega),zfc (zi5 (p.at (k+1))) rfl tmS⟩
 ·have e4:blk p.s k=k:=zet fun h=>hb (by rw[nxV_lt (p:=p.at k) h.1];exact h.2)
  repeat' (first|refine gw ?_|(first|refine br ?_ ?_|refine brF ?_ ?_)<;>intro q_<;>try simp only[nz] at q_)
  refine ⟨((⟨p.at k,hok⟩,32,false,⟨p.at k,hok⟩):RX × Int × Bool × RX),obE (za0 ⟨p.at k,hok⟩),zaa _,tk_n (p:=⟨p.at k,hok⟩) hb (by decide),?_⟩
  repeat' (first|refine gw ?_|(first|refine br ?_ ?_|refine brF ?_ ?_)<;>intro q_<;>try simp only[nz] at q_)
  exact And.intro (zaj rfl rfl) (And.intro rfl (obE (zi5 (p.at k)) (by show rC (p.at k)=rC (p.at (blk p.s p.k));rw[← hk3,e4])))
def isL (b:Int):Prop:=(65≤b∧b≤90)∨(97≤b∧b≤122)∨(48≤b∧b≤57)
instance (b:Int):Decidable (isL b):=inferInstanceAs (Decidable (_∨_))
def ctLet:Ct:={ ι:=Int,inp:=fun b=>[.v (.int .u8 b)],out:=fun b=>.v (.bool (decide (isL b))),pre:=fun _=>True }
set_option maxHeartbeats 2000000 in
theorem yLet_ok:zay Tryz.prog (GlT mx pb) 163 ctLet:=by
 refine zah (cc:=true) zbj Tryz.T_ok Tryz.mixed Tryz.func163 rfl (by kernel_rfl) (fun _=>rfl) (fun _ _=>by show 1≤25;decide) ?_
 intro (b:Int) _
 by_cases h:isL b
 ·have hh:isL b:=h
  unfold isL at hh
  have e:ctLet.out b=.v (.bool true):=congrArg (fun b=>D.v (.bool b)) (decide_eq_true h)
  rw[e]
  repeat' (first|refine gw ?_|(first|refine br ?_ ?_|refine brF ?_ ?_)<;>intro q_<;>try simp only[nz] at q_)
  all_goals first|(exfalso;omega)|exact zag rfl|exact zag (decide_eq_true (by omega))|exact zag (decide_eq_false (by omega))
 ·have hh:¬isL b:=h
  unfold isL at hh
  have e:ctLet.out b=.v (.bool false):=congrArg (fun b=>D.v (.bool b)) (decide_eq_false h)
  rw[e]
  repeat' (first|refine gw ?_|(first|refine br ?_ ?_|refine brF ?_ ?_)<;>intro q_<;>try simp only[nz] at q_)
  all_goals first|(exfalso;omega)|exact zag rfl|exact zag (decide_eq_true (by omega))|exact zag (decide_eq_false (by omega))
def ctSng:Ct:={ ι:=Int,inp:=fun c=>[.v (.int .i64 c)],out:=fun c=>zbu (canon [(c,c)]),pre:=fun _=>True }
def Γy3:Ctx:=fun f=>match f with
 | 50=>some (.pure ctMake)
 | _=>none
theorem Γy3_ok:za1 Tryz.prog (GlT mx pb) Γy3:=by
 intro f h hh
 simp only[Γy3] at hh
 split at hh<;>simp at hh<;>subst hh
 ·exact zch
set_option maxHeartbeats 2000000 in
theorem ySng_ok:zay Tryz.prog (GlT mx pb) 164 ctSng:=by
 refine zah (cc:=true) Γy3_ok Tryz.T_ok Tryz.mixed Tryz.func164 rfl (by kernel_rfl) (fun _=>rfl) (fun _ _=>by show 1≤8;decide) ?_
 intro (c:Int) _
 have p1:ctMake.pre [(c,c)]:=⟨(by show 1<4194304;decide),.inr (.inr trivial)⟩
 repeat' (first|refine gw ?_|(first|refine br ?_ ?_|refine brF ?_ ?_)<;>intro q_<;>try simp only[nz] at q_)
 refine ⟨[(c,c)],EntL.cons (ent_lit rfl rfl) (zaa []),p1,?_⟩
 repeat' (first|refine gw ?_|(first|refine br ?_ ?_|refine brF ?_ ?_)<;>intro q_<;>try simp only[nz] at q_)
 exact EntR.of rfl (zab _)
end Go.Proofs
namespace Go.Proofs
open Go Go.Sx
variable {mx:Int}{pb:Bool}
inductive OutR where
 | ok (d:D) (q:RX)
 | bad (q:RX)
abbrev OutR.st:OutR→RX
 | .ok _ q=>q
 | .bad q=>q
abbrev OutR.res:OutR→D ⊕ D
 | .ok d _=>.inl d
 | .bad q=>.inr (intI q.1.k)
def ocR (A:Type) (inpD:A→List D) (pre:RX→A→Prop) (run:RX→A→OutR):Oc:={ ι:=RX × A × OutR,t:=164,before:=fun x=>rC x.1.1,inp:=fun x=>inpD x.2.1,pre:=fun x=>pre x.1 x.2.1∧run x.1 x.2.1=x.2.2,after:=fun x=>rC x.2.2.st.1,res:=fun x=>x.2.2.res }
theorem retR {A:Type}{inpD:A→List D}{pre:RX→A→Prop}{run:RX→A→OutR}{x:RX × A × OutR}{p:RX}{a:A}{d d':D}{q:RX}{ow:List Own}{l:List D}(hx:x=(p,a,run p a)) (hr:run p a=.ok d' q) (h:EntR d d') (ho:ow[0]?=some (Own.cells 164 l)) (hl:l=rC q.1):retO (ocR A inpD pre run) x d ow:=by
 subst hx
 unfold retO
 have h1:(ocR A inpD pre run).res (p,a,run p a)=.inl d':=by show (run p a).res=_;rw[hr]
 rw[h1]
 refine ⟨h,?_⟩
 unfold ObO
 rw[ho]
 refine ⟨rfl,?_⟩
 show EntL (resL ow l) (rC (run p a).st.1)
 rw[hr,hl,zhh _ (za0 q)]
 exact zaa _
theorem panR {A:Type}{inpD:A→List D}{pre:RX→A→Prop}{run:RX→A→OutR}{x:RX × A × OutR}{p:RX}{a:A}{d:D}{q:RX}{ow:List Own}{l:List D}(hx:x=(p,a,run p a)) (hr:run p a=.bad q) (h:EntR d (intI q.1.k)) (ho:ow[0]?=some (Own.cells 164 l)) (hl:l=rC q.1):panO (ocR A inpD pre run) x ⟨[(0,d)],ow,[]⟩:=by
 subst hx
 unfold panO
 dsimp only
 have h1:(ocR A inpD pre run).res (p,a,run p a)=.inr (intI q.1.k):=by show (run p a).res=_;rw[hr]
 rw[h1]
 refine ⟨h,?_⟩
 unfold ObO
 rw[ho]
 refine ⟨rfl,?_⟩
 show EntL (resL ow l) (rC (run p a).st.1)
 rw[hr,hl,zhh _ (za0 q)]
 exact zaa _
def goR (p:RX) (k:Nat) (h:k≤p.1.s.size+1):RX:=⟨p.1.at k,p.2.1,h,p.2.2.2⟩
def grF (s:ByteArray):Nat→Nat→Int→Nat × Bool
 | 0,k,_=>(k,false)
 | f+1,k,d =>
  if k<s.size then
   (if bAt s k=92 then grF s f (k+2) d
   else if bAt s k=91 then grF s f (k+1) (d+1)
   else if bAt s k=93 then (if d - 1=0 then (k+1,true) else grF s f (k+1) (d - 1))
   else grF s f (k+1) d)
  else (k,false)
theorem zjb {s:ByteArray}:∀ (f k:Nat) (d:Int),k≤s.size+1→k≤(grF s f k d).1∧(grF s f k d).1≤s.size+1∧((grF s f k d).2=true→(grF s f k d).1≤s.size)
 | 0,k,d,h=>⟨Nat.le_refl _,h,fun hh=>Bool.noConfusion hh⟩
 | f+1,k,d,h=>by
  rw[grF]
  split
  ·rename_i hk
   split
   ·have:=zjb (s:=s) f (k+2) d (by omega)
    exact ⟨by omega,this.2⟩
   ·split
    ·have:=zjb (s:=s) f (k+1) (d+1) (by omega)
     exact ⟨by omega,this.2⟩
    ·split
     ·split
      ·exact ⟨Nat.le_succ _,by show k+1≤_;omega,fun _=>hk⟩
      ·have:=zjb (s:=s) f (k+1) (d - 1) (by omega)
       exact ⟨by omega,this.2⟩
     ·have:=zjb (s:=s) f (k+1) d (by omega)
      exact ⟨by omega,this.2⟩
  ·exact ⟨Nat.le_refl _,h,fun hh=>Bool.noConfusion hh⟩
def grE (s:ByteArray) (k:Nat) (d:Int):Nat × Bool:=grF s (s.size - k) k d
theorem zfj {s:ByteArray}:∀ (f g k:Nat) (d:Int),s.size - k≤f→s.size - k≤g→grF s f k d=grF s g k d
 | 0,0,k,d,_,_=>rfl
 | 0,g+1,k,d,h,_=>by rw[grF,grF,if_neg (by omega)]
 | f+1,0,k,d,_,h=>by rw[grF,grF,if_neg (by omega)]
 | f+1,g+1,k,d,h1,h2=>by
  rw[grF,grF]
  rw[zfj f g (k+2) d (by omega) (by omega),zfj f g (k+1) (d+1) (by omega) (by omega),zfj f g (k+1) (d - 1) (by omega) (by omega),zfj f g (k+1) d (by omega) (by omega)]
theorem grE_esc {s:ByteArray}{k:Nat}{d:Int}(h:k<s.size) (hb:bAt s k=92):grE s k d=grE s (k+2) d:=by
 unfold grE
 obtain ⟨n,hn⟩:∃ n,s.size - k=n+1:=⟨s.size - k - 1,by omega⟩
 rw[hn,grF,if_pos h,if_pos hb]
 exact zfj _ _ _ _ (by omega) (by omega)
theorem grE_opn {s:ByteArray}{k:Nat}{d:Int}(h:k<s.size) (hb:bAt s k=91):grE s k d=grE s (k+1) (d+1):=by
 unfold grE
 obtain ⟨n,hn⟩:∃ n,s.size - k=n+1:=⟨s.size - k - 1,by omega⟩
 rw[hn,grF,if_pos h,if_neg (by omega),if_pos hb]
 exact zfj _ _ _ _ (by omega) (by omega)
theorem grE_cls {s:ByteArray}{k:Nat}{d:Int}(h:k<s.size) (hb:bAt s k=93) (hd:d - 1≠0):grE s k d=grE s (k+1) (d - 1):=by
 unfold grE
 obtain ⟨n,hn⟩:∃ n,s.size - k=n+1:=⟨s.size - k - 1,by omega⟩
 rw[hn,grF,if_pos h,if_neg (by omega),if_neg (by omega),if_pos hb,if_neg hd]
 exact zfj _ _ _ _ (by omega) (by omega)
theorem grE_end {s:ByteArray}{k:Nat}{d:Int}(h:k<s.size) (hb:bAt s k=93) (hd:d - 1=0):grE s k d=(k+1,true):=by
 unfold grE
 obtain ⟨n,hn⟩:∃ n,s.size - k=n+1:=⟨s.size - k - 1,by omega⟩
 rw[hn,grF,if_pos h,if_neg (by omega),if_neg (by omega),if_pos hb,if_pos hd]
theorem grE_else {s:ByteArray}{k:Nat}{d:Int}(h:k<s.size) (h1:¬bAt s k=92) (h2:¬bAt s k=91) (h3:¬bAt s k=93):grE s k d=grE s (k+1) d:=by
 unfold grE
 obtain ⟨n,hn⟩:∃ n,s.size - k=n+1:=⟨s.size - k - 1,by omega⟩
 rw[hn,grF,if_pos h,if_neg h1,if_neg h2,if_neg h3]
 exact zfj _ _ _ _ (by omega) (by omega)
theorem grE_out {s:ByteArray}{k:Nat}{d:Int}(h:¬k<s.size):grE s k d=(k,false):=by
 unfold grE
 rw[show s.size - k=0 by omega]
 rfl
def zhf (p:RX) (_:Unit):OutR :=
 if (grE p.1.s p.1.k 0).2=true then .ok (.v (.string (zcd p.1.s p.1.k (grE p.1.s p.1.k 0).1))) (goR p (grE p.1.s p.1.k 0).1 (zjb _ _ _ p.2.2.1).2.1) else .bad (goR p (grE p.1.s p.1.k 0).1 (zjb _ _ _ p.2.2.1).2.1)
theorem runGr_ok {p:RX}{a:Unit}{k:Nat}(h:grE p.1.s p.1.k 0=(k,true)) (hk:k≤p.1.s.size+1):zhf p a=.ok (.v (.string (zcd p.1.s p.1.k k))) (goR p k hk):=by
 have h1:(grE p.1.s p.1.k 0).1=k:=by rw[h]
 unfold zhf
 rw[if_pos (by rw[h])]
 subst h1
 rfl
theorem runGr_bad {p:RX}{a:Unit}{k:Nat}(h:grE p.1.s p.1.k 0=(k,false)) (hk:k≤p.1.s.size+1):zhf p a=.bad (goR p k hk):=by
 have h1:(grE p.1.s p.1.k 0).1=k:=by rw[h]
 unfold zhf
 rw[if_neg (by rw[h];exact Bool.false_ne_true)]
 subst h1
 rfl
def clB (p:RX):Int:=idxB (zcd p.1.s p.1.k p.1.s.size) 125
theorem bcut_rest {s:ByteArray}{k:Nat}(h:k≤s.size):(zcd s k s.size).size=s.size - k:=by
 show ((s.data.toList.take s.data.toList.length).drop k).length=_
 rw[List.take_length,List.length_drop]
 rfl
def runCl (p:RX) (_:Unit):OutR :=
 if h:0≤clB p∧p.1.k+(clB p).toNat+1≤p.1.s.size then .ok (.v (.string (zcd p.1.s p.1.k (p.1.k+(clB p).toNat+1)))) (goR p (p.1.k+(clB p).toNat+1) (by omega)) else .bad p
noncomputable def runXp (p:RX) (x:ByteArray × ByteArray × ByteArray):OutR :=
 if (prs p.1.db (zbq (zbq x.2.1 x.1) x.2.2)).2.1=0 then .ok (zbu (prs p.1.db (zbq (zbq x.2.1 x.1) x.2.2)).1) p else .bad p
def tk1 (p:RX) (b:Int) (f:RX→OutR):OutR:=if nxV p.1=b then f (tkR p b) else .bad p
theorem dgR_lt {p:RX}(h:zgj (nxV p.1)):p.1.k<p.1.s.size:=by
 unfold zgj at h
 exact (zh5 (p:=p.1) rfl (by omega)).1
theorem zdy {p:RX}{b:Int}(h:nxV p.1=b) (hb:b≠0):p.1.k<p.1.s.size:=(zh5 h hb).1
def esF:Nat→RX→Int→Nat→OutR
 | 0,p,_,_=>.bad p
 | f+1,p,c,n =>
  if h:nxV p.1=125 then (if n=0 then .bad (zcg p (zdy h (by decide))) else .ok (.v (.int .i64 c)) (zcg p (zdy h (by decide))))
  else if h:zgj (nxV p.1) then (if 6<n+1∨1114111<16*c+dgI (nxV p.1) then .bad p else esF f (zcg p (dgR_lt h)) (16*c+dgI (nxV p.1)) (n+1))
  else .bad p
def zg8 (p:RX) (_:Unit):OutR:=tk1 p 92 fun p=>tk1 p 117 fun p=>tk1 p 123 fun p=>esF 8 p 0 0
inductive OutS (α:Type) where
 | ok (l:List α) (q:RX)
 | bad (q:RX)
def OutS.p {α:Type}(f:List α→D):OutS α→OutR
 | .ok l q=>.ok (f l) q
 | .bad q=>.bad q
def dS:D→ByteArray
 | .v (.string s)=>s
 | _=>⟨#[]⟩
def dL:D→List Rg
 | _=>[]
def clsT:ByteArray:=⟨#[92,112,123]⟩
def lbS:ByteArray:=⟨#[91]⟩
def rbS:ByteArray:=⟨#[93]⟩
def emS:ByteArray:=⟨#[]⟩
noncomputable def xpL (p:RX) (t b a:ByteArray) (f:List Rg→RX→OutS (List Rg)):OutS (List Rg):=
 if (prs p.1.db (zbq (zbq b t) a)).2.1=0 then f (prs p.1.db (zbq (zbq b t) a)).1 p else .bad p
noncomputable def elF:Nat→RX→List (List Rg)→OutS (List Rg)
 | 0,p,_=>.bad p
 | f+1,p0,L =>
  if h:isL (nxV (blR p0).1) then elF f (zcg (blR p0) (by unfold isL at h;exact (zh5 (p:=(blR p0).1) rfl (by omega)).1)) (L++[canon [(nxV (blR p0).1,nxV (blR p0).1)]])
  else if nxV (blR p0).1=91 then
   (match zhf (blR p0) () with
   | .bad q=>.bad q
   | .ok d q=>xpL q (dS d) emS emS fun S q=>elF f q (L++[S]))
  else if nxV (blR p0).1=92∧hpB (zcd (blR p0).1.s (blR p0).1.k (blR p0).1.s.size) clsT=true then
   (match runCl (blR p0) () with
   | .bad q=>.bad q
   | .ok d q=>xpL q (dS d) lbS rbS fun S q=>elF f q (L++[S]))
  else if nxV (blR p0).1=92 then
   (match zg8 (blR p0) () with
   | .bad q=>.bad q
   | .ok d q=>elF f q (L++[canon [(dI d,dI d)]]))
  else .ok L (blR p0)
noncomputable def zil (p:RX):OutS (List Rg):=elF (p.1.s.size+2) p []
def pcF:Nat→RX→List Rg→OutS Rg
 | 0,p,_=>.bad p
 | f+1,p0,L =>
  if hk:(blR p0).1.k<(blR p0).1.s.size then
   (if isL (nxV (blR p0).1) then pcF f (zcg (blR p0) hk) (L++[(nxV (blR p0).1,0)])
   else if nxV (blR p0).1=92 then
    (match zg8 (blR p0) () with
    | .bad q=>.bad q
    | .ok d q=>pcF f q (L++[(dI d,0)]))
   else if nxV (blR p0).1=36 then
    (if h:49≤nxV (zcg (blR p0) hk).1∧nxV (zcg (blR p0) hk).1≤56 then pcF f (zcg (zcg (blR p0) hk) ((zh5 (p:=(zcg (blR p0) hk).1) rfl (by omega)).1)) (L++[(0,nxV (zcg (blR p0) hk).1 - 48)])
    else .bad (zcg (blR p0) hk))
   else .bad (blR p0))
  else .ok L (blR p0)
def runPc (p:RX):OutS Rg:=pcF (p.1.s.size+2) p []
def finP (B M A:List (List Rg)) (p:RX):Option Tl:=if nxV p.1=62 then (match runPc (tkR p 62) with | .bad _=>none | .ok R _=>some ⟨B,M,A,R⟩) else none
noncomputable def aftP (B M:List (List Rg)) (p:RX):Option Tl:=if nxV p.1=125 then (match zil (tkR p 125) with | .bad _=>none | .ok A q=>finP B M A q) else finP B M [] p
noncomputable def rulP (p:RX):Option Tl :=
 match zil p with
 | .bad _=>none
 | .ok M p1=>if nxV p1.1=123 then (match zil (tkR p1 123) with | .bad _=>none | .ok M' q=>aftP M M' q) else aftP [] M p1
end Go.Proofs
namespace Go.Proofs
open Go Go.Sx
variable {mx:Int}{pb:Bool}
theorem blR_s (p:RX):(blR p).1.s=p.1.s:=rfl
theorem blR_k (p:RX):p.1.k≤(blR p).1.k:=by
 show p.1.k≤blk p.1.s p.1.k
 by_cases h:p.1.k≤p.1.s.size
 ·exact (blkF_le (s:=p.1.s) (p.1.s.size - p.1.k) p.1.k h).1
 ·rw[zet fun hh=>h (Nat.le_of_lt hh.1)]
  exact Nat.le_refl _
def GoesR (p q:RX):Prop:=q.1.s=p.1.s∧p.1.k<q.1.k
theorem runGr_goes {p q:RX}{d:D}(h91:nxV p.1=91) (h:zhf p ()=.ok d q):GoesR p q:=by
 unfold zhf at h
 split at h
 ·injection h with _ h2
  subst h2
  refine ⟨rfl,?_⟩
  obtain ⟨hk,hb⟩:=zh5 h91 (by decide)
  show p.1.k<(grE p.1.s p.1.k 0).1
  rw[grE_opn hk hb]
  have:=(zjb (s:=p.1.s) (p.1.s.size - (p.1.k+1)) (p.1.k+1) (0+1) (by omega)).1
  exact this
 ·exact OutR.noConfusion h
theorem runCl_goes {p q:RX}{d:D}(h:runCl p ()=.ok d q):GoesR p q:=by
 unfold runCl at h
 split at h
 ·injection h with _ h2
  subst h2
  exact ⟨rfl,by show p.1.k<p.1.k+_+1;omega⟩
 ·exact OutR.noConfusion h
theorem esF_goes:∀ (f:Nat) {p q:RX}{c:Int}{n:Nat}{d:D},esF f p c n=.ok d q→0≤c→c≤1114111→GoesR p q∧∃ v:Int,d=.v (.int .i64 v)∧0≤v∧v≤1114111
 | 0,p,q,c,n,d,h,_,_=>OutR.noConfusion h
 | f+1,p,q,c,n,d,h,h0,h1=>by
  rw[esF] at h
  split at h
  ·split at h
   ·exact OutR.noConfusion h
   ·injection h with e1 e2
    subst e2
    exact ⟨⟨rfl,Nat.lt_succ_self _⟩,c,e1.symm,h0,h1⟩
  ·split at h
   ·rename_i hd
    split at h
    ·exact OutR.noConfusion h
    ·have hv:0≤dgI (nxV p.1):=by unfold zgj at hd;unfold dgI;split<;>omega
     obtain ⟨g,hv⟩:=esF_goes f h (by omega) (by omega)
     exact ⟨⟨g.1,Nat.lt_trans (Nat.lt_succ_self _) g.2⟩,hv⟩
   ·exact OutR.noConfusion h
theorem tkR_k (p:RX) (b:Int):(tkR p b).1.s=p.1.s∧p.1.k≤(tkR p b).1.k:=by
 unfold tkR
 split
 ·exact ⟨rfl,Nat.le_succ _⟩
 ·exact ⟨rfl,Nat.le_refl _⟩
theorem zhw {p q:RX}{d:D}(h:zg8 p ()=.ok d q):GoesR p q∧∃ v:Int,d=.v (.int .i64 v)∧0≤v∧v≤1114111:=by
 unfold zg8 tk1 at h
 split at h
 ·dsimp only at h
  split at h
  ·split at h
   ·obtain ⟨g,hv⟩:=esF_goes 8 h (by decide) (by decide)
    have g1:=tkR_k p 92
    have g2:=tkR_k (tkR p 92) 117
    have g3:=tkR_k (tkR (tkR p 92) 117) 123
    exact ⟨⟨g.1.trans (g3.1.trans (g2.1.trans g1.1)),by have:=g.2;omega⟩,hv⟩
   ·exact OutR.noConfusion h
  ·exact OutR.noConfusion h
 ·exact OutR.noConfusion h
theorem runGr_str {p q:RX}{d:D}(h:zhf p ()=.ok d q):∃ s:ByteArray,d=.v (.string s)∧s.size≤65536:=by
 unfold zhf at h
 split at h
 ·rename_i hg
  injection h with e1 _
  refine ⟨_,e1.symm,?_⟩
  have h1:=(zjb (s:=p.1.s) (p.1.s.size - p.1.k) p.1.k 0 p.2.2.1).2.2 hg
  have h2:=p.2.2.2
  have e:(zcd p.1.s p.1.k (grE p.1.s p.1.k 0).1).size≤p.1.s.size:=by
   show ((p.1.s.data.toList.take _).drop _).length≤p.1.s.data.toList.length
   rw[List.length_drop,List.length_take]
   omega
  omega
 ·exact OutR.noConfusion h
theorem runCl_str {p q:RX}{d:D}(h:runCl p ()=.ok d q):∃ s:ByteArray,d=.v (.string s)∧s.size≤65536:=by
 unfold runCl at h
 split at h
 ·injection h with e1 _
  refine ⟨_,e1.symm,?_⟩
  have h2:=p.2.2.2
  have e:(zcd p.1.s p.1.k (p.1.k+(clB p).toNat+1)).size≤p.1.s.size:=by
   show ((p.1.s.data.toList.take _).drop _).length≤p.1.s.data.toList.length
   rw[List.length_drop,List.length_take]
   omega
  omega
 ·exact OutR.noConfusion h
theorem ml2:∀ i,i<1→([0,1]:List Nat)[i]?=some i:=fun i hi=>by
 have:i=0:=by omega
 subst this;rfl
theorem ml3:∀ i,i<1→([0,2]:List Nat)[i]?=some i:=fun i hi=>by
 have:i=0:=by omega
 subst this;rfl
theorem runCl_ok {p:RX}{a:Unit}{n:Nat}(h:clB p=(n:Int)) (hk:p.1.k+n+1≤p.1.s.size):runCl p a=.ok (.v (.string (zcd p.1.s p.1.k (p.1.k+n+1)))) (goR p (p.1.k+n+1) (by omega)):=by
 have e:(clB p).toNat=n:=by omega
 have h0:0≤clB p:=by omega
 subst e
 exact dif_pos ⟨h0,hk⟩
theorem runCl_bad {p:RX}{a:Unit}(h:clB p<0):runCl p a=.bad p:=dif_neg fun hh=>by omega
end Go.Proofs
