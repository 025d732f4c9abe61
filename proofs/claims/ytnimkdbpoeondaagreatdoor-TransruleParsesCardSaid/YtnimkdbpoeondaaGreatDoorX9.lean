import Derived.Test.YtnimkdbpoeondaaGreatDoorX5
import Derived.Test.YtnimkdbpoeondaaGreatDoorCm3z
set_option linter.all false
set_option maxHeartbeats 4000000
namespace Go.Proofs
open Go Go.Sx
variable {n:Nat}
variable {mx:Int}{pb:Bool}
noncomputable def zgz (n:Nat):Oc:=ocL Int (fun d=>[.v (.int .i64 d)]) (fun p d=>pkV p.1=91/\d=17 - n) zR fun p _=>zB n p
noncomputable def ocOpd (n:Nat):Oc:=ocL Int (fun d=>[.v (.int .i64 d)]) (fun _ d=>d=16 - n) zR fun p _=>yA (zB n) p
noncomputable def Γod (mx:Int) (pb:Bool) (n:Nat):Ctx:=fun f=>match f with
 | 129=>some (.obj zbx)
 | 130=>some (.obj zal)
 | 190=>some (.obj ocCls)
 | 131=>some (.obj (zgz n))
 | _=>none
theorem Γod_ok (hG:SQ mx pb 131 (zgz n)):CK mx pb (Γod mx pb n):=by
 intro f h hh;simp only[Γod] at hh;split at hh<;>simp at hh<;>subst hh
 ·exact uz
 ·exact xF
 ·exact xCls_ok
 ·exact hG
theorem xOpd_ok (hn:n<=16) (hG:SQ mx pb 131 (zgz n)):SQ mx pb 159 (ocOpd n):=by
 refine so (cc:=true) (Γod_ok hG) Tryz.func159 (fun x=>zm x.1) (fun _=>rfl) (fun x=>zm x.2.2.st) ?_;rintro ⟨⟨p,hp⟩,d,o⟩ ⟨hd,ho⟩
 replace hd:d=16 - n:=hd;replace ho:(yA (zB n) ⟨p,hp⟩).p zR=o:=ho;subst ho;obtain ⟨hdb,h2,h3⟩:=id hp;refine gw ?_;refine ⟨(⟨p,hp⟩:PX),obE (zm ⟨p,hp⟩),eL,trivial,?_⟩
 by_cases h91:pkV p=91
 ·have hr:yA (zB n) ⟨p,hp⟩=zB n ⟨p,hp⟩:=if_pos h91;refine gw ?_;cases hg:zB n ⟨p,hp⟩ with
  | bad e b q =>
   refine ⟨((⟨p,hp⟩,d+1,.bad e b q):PX × Int × OutP),obE (zm ⟨p,hp⟩),eL,⟨⟨h91,by show d+1=17 - (n:Int);omega⟩,by show (zB n ⟨p,hp⟩).p zR=_;rw[hg];rfl⟩,?_⟩
   exact zdb (q:=q) rfl (hr.trans hg) (zd rfl rfl) rfl rfl
  | ok L q =>
   refine ⟨((⟨p,hp⟩,d+1,.ok (zR L) q):PX × Int × OutP),obE (zm ⟨p,hp⟩),eL,⟨⟨h91,by show d+1=17 - (n:Int);omega⟩,by show (zB n ⟨p,hp⟩).p zR=_;rw[hg];rfl⟩,?_⟩
   refine gw ?_;exact retL (q:=q) rfl (hr.trans hg) (zd rfl rfl) rfl rfl
 ·by_cases h92:pkV p=92
  ·have hr:yA (zB n) ⟨p,hp⟩=zV ⟨p,hp⟩:=(if_neg h91).trans (if_pos h92)
   refine gw ?_;cases hg:zV ⟨p,hp⟩ with
   | bad e b q =>
    refine ⟨((⟨p,hp⟩,(),.bad e b q):PX × Unit × OutP),obE (zm ⟨p,hp⟩),eL,⟨h92,by show (zV ⟨p,hp⟩).p zR=_;rw[hg];rfl⟩,?_⟩
    exact zdb (q:=q) rfl (hr.trans hg) (zd rfl rfl) rfl rfl
   | ok L q =>
    refine ⟨((⟨p,hp⟩,(),.ok (zR L) q):PX × Unit × OutP),obE (zm ⟨p,hp⟩),eL,⟨h92,by show (zV ⟨p,hp⟩).p zR=_;rw[hg];rfl⟩,?_⟩
    refine gw ?_;exact retL (q:=q) rfl (hr.trans hg) (zd rfl rfl) rfl rfl
  ·have hr:yA (zB n) ⟨p,hp⟩=.bad 3 p.k ⟨p,hp⟩:=(if_neg h91).trans (if_neg h92)
   refine gw ?_;refine ⟨((⟨p,hp⟩,3,(p.k:Int)):PX × Int × Int),obE (zm ⟨p,hp⟩),eL,trivial,?_⟩
   exact zdb (q:=⟨p,hp⟩) rfl hr (zd rfl rfl) rfl rfl
attribute [local irreducible] zbs zbi yf xD
def Γg0:Ctx:=fun f=>match f with
 | 130=>some (.obj zal)
 | _=>none
theorem Γg0_ok:CK mx pb Γg0:=by
 intro f h hh;simp only[Γg0] at hh;split at hh<;>simp at hh<;>subst hh
 ·exact xF
theorem xGrp_0 (n:Nat) (hn:n=0):SQ mx pb 131 (zgz n):=by
 refine so (cc:=true) Γg0_ok Tryz.func131 (fun x=>zm x.1) (fun _=>rfl) (fun x=>zm x.2.2.st) ?_;rintro ⟨⟨p,hp⟩,d,o⟩ ⟨⟨h91,hd⟩,ho⟩
 replace hd:d=17 - n:=hd;have hd:d=17:=by omega
 replace ho:(zB n ⟨p,hp⟩).p zR=o:=ho;subst ho;subst hd;obtain ⟨hdb,h2,h3⟩:=id hp;refine gw ?_;refine ⟨((⟨p,hp⟩,13,(p.k:Int)):PX × Int × Int),obE (zm ⟨p,hp⟩),eL,trivial,?_⟩
 have hr:zB n (⟨p,hp⟩:PX)=.bad 13 p.k ⟨p,hp⟩:=by rw[hn];rfl
 exact zdb (q:=⟨p,hp⟩) rfl hr (zd rfl rfl) rfl rfl
noncomputable def Γgr (mx:Int) (pb:Bool) (n:Nat):Ctx:=fun f=>match f with
 | 129=>some (.obj zbx)
 | 130=>some (.obj zal)
 | 128=>some (.obj zcu)
 | 160=>some (.obj ocItm)
 | 131=>some (.obj (zgz n))
 | 159=>some (.obj (ocOpd n))
 | 53=>some (.pure ctMake)
 | 156=>some (.pure ctOrP)
 | 155=>some (.pure ctAndP)
 | 158=>some (.pure ctMinP)
 | 157=>some (.pure ctNotP)
 | _=>none
theorem Γgr_ok (hG:SQ mx pb 131 (zgz n)) (hO:SQ mx pb 159 (ocOpd n)):CK mx pb (Γgr mx pb n):=by
 intro f h hh;simp only[Γgr] at hh;split at hh<;>simp at hh<;>subst hh
 ·exact uz
 ·exact xF
 ·exact za9
 ·exact xItm_ok
 ·exact hG
 ·exact hO
 ·exact yX
 ·exact orP_ok
 ·exact andP_ok
 ·exact minP_ok
 ·exact notP_ok
theorem uy {l:List Rg}(h:l.length<=4000000):zbz l:=⟨by omega,.inr (.inr trivial)⟩
theorem zeq {α:Type} [Inhabited α] {ρ:List Nat}{e sz:Nat}{enc:α->Nat->D}{l m:List α}:xP ρ (.row e sz (l.length+m.length) (zgi l.length (fun i j=>enc (l.getD i default) j) (fun i j=>enc (m.getD i default) j))) (zG e sz enc (l++m)):=by
 refine ⟨rfl,rfl,by simp,fun a ha j hj=>Ent.of_eq ?_⟩
 show zgi l.length _ _ a j=enc ((l++m).getD a default) j;unfold zgi;by_cases h:a<l.length
 ·rw[if_pos h];simp only[List.getD_eq_getElem?_getD,List.getElem?_append,if_pos h]
 ·rw[if_neg h];simp only[List.getD_eq_getElem?_getD,List.getElem?_append,if_neg h]
theorem m1i:∀ i,i<1->([0,1,2,3]:List Nat)[i]?=some i:=fun i hi=>by
 have:i=0:=by omega
 subst this;rfl
theorem m1j:∀ i,i<1->([0,1,2,4]:List Nat)[i]?=some i:=fun i hi=>by
 have:i=0:=by omega
 subst this;rfl
def isOp (q:PX):Bool:=decide (pkV (blP q).1=93\/pkV (blP q).1=45\/pkV (blP q).1=38)
def lastG (b:Bool) (I:List Rg):Own:=match b with
 | true=>.frozen 2 I.length fun i j=>rgD (I.getD i default) j
 | false=>zG 111 2 rgD I
theorem lastG_t (I:List Rg):lastG true I=.frozen 2 I.length fun i j=>rgD (I.getD i default) j:=rfl
theorem lastG_f (I:List Rg):lastG false I=zG 111 2 rgD I:=rfl
def tmG (d:Int) (neg:Bool):List (Nat × D):=[(0,.own 0 0),(1,.v (.int .i64 d)),(4,.own 1 0),(5,.v (.bool neg)),(6,.own 2 0),(7,.row 3)]
def owG (q:PX) (S:List Rg) (o:Own):List Own:=[.cells 176 (pC q.1),.cells 31 [zke],.cells 31 [xE S],o]
def sG (d:Int) (neg:Bool) (q:PX) (S I:List Rg):St:=⟨tmG d neg,owG q S (lastG (isOp q) I),[]⟩
theorem toG (d:Int) (neg:Bool) (q:PX) (S I:List Rg):StLe 1 ⟨tmG d neg,owG q S (zG 111 2 rgD I),[]⟩ (sG d neg q S I):=by
 unfold sG;cases isOp q with
 | true=>exact StLe.frz0 (r:=3) (e:=111) rfl
 | false=>exact StLe.refl _ _
structure GIn (n:Nat) (neg:Bool) (z:PX) (f:Nat) (q:PX) (S I:List Rg):Prop where
 at_:GrpAt z q S I
 fuel:q.1.s.size<f+q.1.k
 run:zdt (zB n) neg f q S I=zB (n+1) z
theorem xGrp_step (hn:n<=16) (hG:SQ mx pb 131 (zgz n)):SQ mx pb 131 (zgz (n+1)):=by
 refine soundO_by (cc:=true) (Γgr_ok hG (xOpd_ok hn hG)) Tryz.T_ok Tryz.mixed Tryz.func131 rfl (by kernel_rfl) (fun x=>zm x.1) (fun _=>rfl) (fun x=>zm x.2.2.st) (fun _ _=>by show 2<=_;decide) ?_;rintro ⟨⟨p,hp⟩,d,o⟩ ⟨⟨h91,hd⟩,ho⟩
 replace h91:pkV p=91:=h91;replace hd:d=17 - (n+1:Nat):=hd;have hd:d=16 - n:=by omega
 replace ho:(zB (n+1) ⟨p,hp⟩).p zR=o:=ho;subst ho;obtain ⟨hdb,h2,h3⟩:=id hp;obtain ⟨hk,hb⟩:=zI h91 (by decide)
 have hz:=znw (p:=⟨p,hp⟩) h91 hk
 repeat' first|refine gw ?_|refine bs ?_ ?_<;>intro q_
 ·exfalso;have h:d>16:=q_;omega
 refine ⟨(adv ⟨p,hp⟩ hk:PX),obE (zm (adv ⟨p,hp⟩ hk)),eL,trivial,?_⟩
 refine gw ?_;refine ⟨(blP (adv ⟨p,hp⟩ hk):PX),obE (zm (blP (adv ⟨p,hp⟩ hk))),eL,trivial,?_⟩
 have k1:(blP (adv ⟨p,hp⟩ hk)).1.k<=(blP (adv ⟨p,hp⟩ hk)).1.s.size:=(blP (adv ⟨p,hp⟩ hk)).2.2.1;have k2:(blP (adv ⟨p,hp⟩ hk)).1.s.size<=65536:=(blP (adv ⟨p,hp⟩ hk)).2.2.2;by_cases h94:pkV (blP (adv ⟨p,hp⟩ hk)).1=94
 case pos =>
  obtain ⟨k94,_⟩:=zI h94 (by decide)
  have hr0:zdt (zB n) true (p.s.size+1) (adv (blP (adv ⟨p,hp⟩ hk)) k94) [] []=zB (n+1) ⟨p,hp⟩:=by
   rw[zB,dif_pos (show (⟨p,hp⟩:PX).1.k<(⟨p,hp⟩:PX).1.s.size from hk),dif_pos h94]
  refine gw ?_;refine ⟨0,Nat × PX × List Rg × List Rg,fun|(f,q,S,I)=>sG d true q S I,fun|(f,q,S,I)=>GIn n true ⟨p,hp⟩ f q S I,fun x=>x.1,fun _=>(by show 1<=4;decide),⟨(p.s.size+1,adv (blP (adv ⟨p,hp⟩ hk)) k94,[],[]),⟨(hz.bl.adv k94),(by show p.s.size<p.s.size+1+_;omega),hr0⟩,StLe.trans (StLe.nilRow (t:=7) 111 2 (fun _ _=>.junk) rfl) (StLe.trans (zq [0,1,2,3] (tm':=tmG d true) (ow':=owG (adv (blP (adv ⟨p,hp⟩ hk)) k94) [] (zG 111 2 rgD [])) ⟨eE,rfl,eE,rfl,eE,rfl,Ent.v (congrArg Value.bool (decide_eq_true h94)),rfl,eE,rfl,eE,rfl,trivial⟩ ⟨zak (zm (adv (blP (adv ⟨p,hp⟩ hk)) k94)),eZ,⟨rfl,EntL.cons Ent.nil (EntL.refl []),rfl⟩,yg,trivial⟩ (by decide) m1i (by simp)) (toG d true (adv (blP (adv ⟨p,hp⟩ hk)) k94) [] []))⟩,?_⟩
  clear hr0;rintro ⟨f,q,S,I⟩ ⟨hat,hfu,hrun⟩
  have hbd:=hat.bound;have k3:q.1.k<=q.1.s.size:=q.2.2.1;have k4:(blP q).1.k<=(blP q).1.s.size:=(blP q).2.2.1;have k5:(blP q).1.s.size<=65536:=(blP q).2.2.2;have kb:=vM q;have l1:=zK I;have l2:=xL S (canon I) 1;have p1:ctMake.pre I:=uy (by omega)
  have p2:ctOrP.pre (S,canon I):=⟨uy (show S.length<=4000000 by omega),by show S.length<=400000;omega,uy (show (canon I).length<=4000000 by omega),by show (canon I).length<=400000;omega⟩
  have p3:ctNotP.pre (zr S (canon I) 1):=⟨uy (by omega),by omega⟩
  cases f with
  | zero=>exact absurd hfu (by omega)
  | succ f =>
  rcases Bool.eq_false_or_eq_true (isOp q) with hop|hop
  ·have eS:sG d true q S I=⟨tmG d true,owG q S (.frozen 2 I.length fun i j=>rgD (I.getD i default) j),[]⟩:=by unfold sG;rw[hop];rfl
   dsimp only;rw[eS];unfold tmG owG;refine gw ?_;refine ⟨(q:PX),obE (zm q),eL,trivial,?_⟩
   refine gw ?_;refine ⟨(blP q:PX),obE (zm (blP q)),eL,trivial,?_⟩
   rw[zdt] at hrun;by_cases h93:pkV (blP q).1=93
   ·obtain ⟨k93,_⟩:=zI h93 (by decide)
    rw[dif_pos h93] at hrun;refine gw ?_;exact retL (q:=adv (blP q) k93) rfl hrun.symm (zd rfl rfl) rfl rfl
   rw[dif_neg h93] at hrun;by_cases h45:pkV (blP q).1=45
   ·obtain ⟨k45,_⟩:=zI h45 (by decide)
    rw[dif_pos h45] at hrun;refine gw ?_;refine ⟨(adv (blP q) k45:PX),obE (zm (adv (blP q) k45)),eL,trivial,?_⟩
    have k6:(adv (blP q) k45).1.k<=(adv (blP q) k45).1.s.size:=(adv (blP q) k45).2.2.1;have k7:(adv (blP q) k45).1.s.size<=65536:=(adv (blP q) k45).2.2.2;by_cases h45b:pkV (adv (blP q) k45).1=45
    ·obtain ⟨k45b,_⟩:=zI h45b (by decide)
     rw[dif_pos h45b] at hrun;refine gw ?_;refine ⟨(adv (adv (blP q) k45) k45b:PX),obE (zm (adv (adv (blP q) k45) k45b)),eL,trivial,?_⟩
     simp only[nq,zG,zW,nr,ns,Nat.reduceAdd,reduceIte];refine gx ?_;refine .inr ⟨.stage [0,1,2,3,4,5,6] (.alt 7 [0] (.stage [] (.alt 8 [] (.stage [] (.alt 9 [] (.done []) .nil)) .nil)) .nil),by decide +kernel,?_⟩
     refine xs1 ?_
     repeat' first|refine gx ?_|refine gy ?_|refine xc1 ?_ ?_|refine xs4 ?_ ?_|exact rfl
     cases hop2:yA (zB n) (blP (adv (adv (blP q) k45) k45b)) with
     | bad e b r =>
      refine ⟨((blP (adv (adv (blP q) k45) k45b),d,.bad e b r):PX × Int × OutP),obE (zm (blP (adv (adv (blP q) k45) k45b))),eL,⟨hd,by show (yA (zB n) _).p zR=_;rw[hop2];rfl⟩,?_⟩
      exact zdb (q:=r) rfl (hrun.symm.trans (by rw[hop2])) (zd rfl rfl) rfl rfl
     | ok L r =>
      have w:=ye (zQ n) hop2;have wb:=w.bound;have wk:=w.k;have m1:=((Moved.adv (blP q) k45).trans ((Moved.adv _ k45b).trans (Moved.bl _))).k;have hf2:r.1.s.size<f+r.1.k:=by rw[w.s];show q.1.s.size<f+r.1.k;omega
      have p4:ctMinP.pre (zr S (canon I) 1,L):=⟨uy (show (zr S (canon I) 1).length<=4000000 by omega),by show (zr S (canon I) 1).length<=400000;omega,uy (show L.length<=4000000 by omega),by show L.length<=400000;omega⟩
      refine ⟨((blP (adv (adv (blP q) k45) k45b),d,.ok (zR L) r):PX × Int × OutP),obE (zm (blP (adv (adv (blP q) k45) k45b))),eL,⟨hd,by show (yA (zB n) _).p zR=_;rw[hop2];rfl⟩,?_⟩
      rw[hop2] at hrun
      repeat' first|refine gx ?_|refine gy ?_|refine xc1 ?_ ?_|refine xs4 ?_ ?_|exact rfl
      exact ⟨(f,r,zr (zr S (canon I) 1) L 3,[]),⟨GrpAt.op (((hat.bl.adv k45).adv k45b).bl) w 3,hf2,hrun⟩,(by show f<f+1;omega),StLe.trans (StLe.nilRow (t:=7) 111 2 (fun _ _=>.junk) rfl) (StLe.trans (zq [0,1,2,4] (tm':=tmG d true) (ow':=owG r (zr (zr S (canon I) 1) L 3) (zG 111 2 rgD [])) tmS ⟨zak (zm r),eZ,eZ,yg,trivial⟩ (by decide) m1j (by simp)) (toG d true r (zr (zr S (canon I) 1) L 3) []))⟩
    ·rw[dif_neg h45b] at hrun;refine gw ?_;refine ⟨((adv (blP q) k45,3,((adv (blP q) k45).1.k:Int)):PX × Int × Int),obE (zm (adv (blP q) k45)),eL,trivial,?_⟩
     exact zdb (q:=adv (blP q) k45) rfl hrun.symm (zd rfl rfl) rfl rfl
   rw[dif_neg h45] at hrun;have h38:pkV (blP q).1=38:=by have:=of_decide_eq_true hop;omega
   obtain ⟨k38,_⟩:=zI h38 (by decide)
   rw[dif_pos h38] at hrun;refine gw ?_;refine ⟨(adv (blP q) k38:PX),obE (zm (adv (blP q) k38)),eL,trivial,?_⟩
   simp only[nq,zG,zW,nr,ns,Nat.reduceAdd,reduceIte];refine gx ?_;refine .inr ⟨.stage [0,1,2,3,4,5,6] (.alt 7 [0] (.stage [] (.alt 8 [] (.stage [] (.alt 9 [] (.done []) .nil)) .nil)) .nil),by decide +kernel,?_⟩
   refine xs1 ?_
   repeat' first|refine gx ?_|refine gy ?_|refine xc1 ?_ ?_|refine xs4 ?_ ?_|exact rfl
   cases hop2:yA (zB n) (blP (adv (blP q) k38)) with
   | bad e b r =>
    refine ⟨((blP (adv (blP q) k38),d,.bad e b r):PX × Int × OutP),obE (zm (blP (adv (blP q) k38))),eL,⟨hd,by show (yA (zB n) _).p zR=_;rw[hop2];rfl⟩,?_⟩
    exact zdb (q:=r) rfl (hrun.symm.trans (by rw[hop2])) (zd rfl rfl) rfl rfl
   | ok L r =>
    have w:=ye (zQ n) hop2;have wb:=w.bound;have wk:=w.k;have m1:=((Moved.adv (blP q) k38).trans (Moved.bl _)).k;have hf2:r.1.s.size<f+r.1.k:=by rw[w.s];show q.1.s.size<f+r.1.k;omega
    have p4:ctAndP.pre (zr S (canon I) 1,L):=⟨uy (show (zr S (canon I) 1).length<=4000000 by omega),by show (zr S (canon I) 1).length<=400000;omega,uy (show L.length<=4000000 by omega),by show L.length<=400000;omega⟩
    refine ⟨((blP (adv (blP q) k38),d,.ok (zR L) r):PX × Int × OutP),obE (zm (blP (adv (blP q) k38))),eL,⟨hd,by show (yA (zB n) _).p zR=_;rw[hop2];rfl⟩,?_⟩
    rw[hop2] at hrun
    repeat' first|refine gx ?_|refine gy ?_|refine xc1 ?_ ?_|refine xs4 ?_ ?_|exact rfl
    exact ⟨(f,r,zr (zr S (canon I) 1) L 2,[]),⟨GrpAt.op ((hat.bl.adv k38).bl) w 2,hf2,hrun⟩,(by show f<f+1;omega),StLe.trans (StLe.nilRow (t:=7) 111 2 (fun _ _=>.junk) rfl) (StLe.trans (zq [0,1,2,4] (tm':=tmG d true) (ow':=owG r (zr (zr S (canon I) 1) L 2) (zG 111 2 rgD [])) tmS ⟨zak (zm r),eZ,eZ,yg,trivial⟩ (by decide) m1j (by simp)) (toG d true r (zr (zr S (canon I) 1) L 2) []))⟩
  ·have eS:sG d true q S I=⟨tmG d true,owG q S (zG 111 2 rgD I),[]⟩:=by unfold sG;rw[hop];rfl
   dsimp only;rw[eS];unfold tmG owG;have hop:=of_decide_eq_false hop;have h93:¬pkV (blP q).1=93:=fun h=>hop (.inl h)
   have h45:¬pkV (blP q).1=45:=fun h=>hop (.inr (.inl h))
   have h38:¬pkV (blP q).1=38:=fun h=>hop (.inr (.inr h))
   refine gw ?_;refine ⟨(q:PX),obE (zm q),eL,trivial,?_⟩
   refine gw ?_;refine ⟨(blP q:PX),obE (zm (blP q)),eL,trivial,?_⟩
   rw[zdt,dif_neg h93,dif_neg h45,dif_neg h38] at hrun;by_cases h91:pkV (blP q).1=91
   ·rw[if_pos h91] at hrun;refine gw ?_;cases hg:zB n (blP q) with
    | bad e b r =>
     refine ⟨((blP q,d+1,.bad e b r):PX × Int × OutP),obE (zm (blP q)),eL,⟨⟨h91,by show d+1=17 - (n:Int);omega⟩,by show (zB n _).p zR=_;rw[hg];rfl⟩,?_⟩
     exact zdb (q:=r) rfl (hrun.symm.trans (by rw[hg])) (zd rfl rfl) rfl rfl
    | ok L r =>
     have w:=zQ n _ _ _ h91 hg;have wb:=w.bound;have wk:=w.k;have hf2:r.1.s.size<f+r.1.k:=by rw[w.s];show q.1.s.size<f+r.1.k;omega
     refine ⟨((blP q,d+1,.ok (zR L) r):PX × Int × OutP),obE (zm (blP q)),eL,⟨⟨h91,by show d+1=17 - (n:Int);omega⟩,by show (zB n _).p zR=_;rw[hg];rfl⟩,?_⟩
     rw[hg] at hrun;refine gw ?_;exact ⟨(f,r,S,I++L),⟨hat.bl.add w,hf2,hrun⟩,(by show f<f+1;omega),StLe.trans (zq [0,1,2,4] (tm':=tmG d true) (ow':=owG r S (zG 111 2 rgD (I++L))) tmS ⟨zak (zm r),eZ,eZ,zeq,trivial⟩ (by decide) m1j (by simp)) (toG d true r S (I++L))⟩
   rw[if_neg h91] at hrun;refine gw ?_;cases hg:xh (blP q) with
   | bad e b r =>
    refine ⟨((blP q,(),.bad e b r):PX × Unit × OutP),obE (zm (blP q)),eL,⟨trivial,by show (xh _).p xE=_;rw[hg];rfl⟩,?_⟩
    exact zdb (q:=r) rfl (hrun.symm.trans (by rw[hg])) (zd rfl rfl) rfl rfl
   | ok L r =>
    have w:=xy hg;have wb:=w.bound;have wk:=w.k;have hf2:r.1.s.size<f+r.1.k:=by rw[w.s];show q.1.s.size<f+r.1.k;omega
    refine ⟨((blP q,(),.ok (xE L) r):PX × Unit × OutP),obE (zm (blP q)),eL,⟨trivial,by show (xh _).p xE=_;rw[hg];rfl⟩,?_⟩
    rw[hg] at hrun;refine gw ?_;exact ⟨(f,r,S,I++L),⟨hat.bl.add w,hf2,hrun⟩,(by show f<f+1;omega),StLe.trans (zq [0,1,2,4] (tm':=tmG d true) (ow':=owG r S (zG 111 2 rgD (I++L))) tmS ⟨zak (zm r),eZ,eZ,zeq,trivial⟩ (by decide) m1j (by simp)) (toG d true r S (I++L))⟩
 case neg =>
  have hr0:zdt (zB n) false (p.s.size+1) (blP (adv ⟨p,hp⟩ hk)) [] []=zB (n+1) ⟨p,hp⟩:=by
   rw[zB,dif_pos (show (⟨p,hp⟩:PX).1.k<(⟨p,hp⟩:PX).1.s.size from hk),dif_neg h94]
  refine gw ?_;refine ⟨0,Nat × PX × List Rg × List Rg,fun|(f,q,S,I)=>sG d false q S I,fun|(f,q,S,I)=>GIn n false ⟨p,hp⟩ f q S I,fun x=>x.1,fun _=>(by show 1<=4;decide),⟨(p.s.size+1,blP (adv ⟨p,hp⟩ hk),[],[]),⟨hz.bl,(by show p.s.size<p.s.size+1+_;omega),hr0⟩,StLe.trans (StLe.nilRow (t:=7) 111 2 (fun _ _=>.junk) rfl) (StLe.trans (zq [0,1,2,3] (tm':=tmG d false) (ow':=owG (blP (adv ⟨p,hp⟩ hk)) [] (zG 111 2 rgD [])) ⟨eE,rfl,eE,rfl,eE,rfl,Ent.v (congrArg Value.bool (decide_eq_false h94)),rfl,eE,rfl,eE,rfl,trivial⟩ ⟨zak (zm (blP (adv ⟨p,hp⟩ hk))),eZ,⟨rfl,EntL.cons Ent.nil (EntL.refl []),rfl⟩,yg,trivial⟩ (by decide) m1i (by simp)) (toG d false (blP (adv ⟨p,hp⟩ hk)) [] []))⟩,?_⟩
  clear hr0;rintro ⟨f,q,S,I⟩ ⟨hat,hfu,hrun⟩
  have hbd:=hat.bound;have k3:q.1.k<=q.1.s.size:=q.2.2.1;have k4:(blP q).1.k<=(blP q).1.s.size:=(blP q).2.2.1;have k5:(blP q).1.s.size<=65536:=(blP q).2.2.2;have kb:=vM q;have l1:=zK I;have l2:=xL S (canon I) 1;have p1:ctMake.pre I:=uy (by omega)
  have p2:ctOrP.pre (S,canon I):=⟨uy (show S.length<=4000000 by omega),by show S.length<=400000;omega,uy (show (canon I).length<=4000000 by omega),by show (canon I).length<=400000;omega⟩
  have p3:ctNotP.pre (zr S (canon I) 1):=⟨uy (by omega),by omega⟩
  cases f with
  | zero=>exact absurd hfu (by omega)
  | succ f =>
  rcases Bool.eq_false_or_eq_true (isOp q) with hop|hop
  ·have eS:sG d false q S I=⟨tmG d false,owG q S (.frozen 2 I.length fun i j=>rgD (I.getD i default) j),[]⟩:=by unfold sG;rw[hop];rfl
   dsimp only;rw[eS];unfold tmG owG;refine gw ?_;refine ⟨(q:PX),obE (zm q),eL,trivial,?_⟩
   refine gw ?_;refine ⟨(blP q:PX),obE (zm (blP q)),eL,trivial,?_⟩
   rw[zdt] at hrun;by_cases h93:pkV (blP q).1=93
   ·obtain ⟨k93,_⟩:=zI h93 (by decide)
    rw[dif_pos h93] at hrun;refine gw ?_;exact retL (q:=adv (blP q) k93) rfl hrun.symm (zd rfl rfl) rfl rfl
   rw[dif_neg h93] at hrun;by_cases h45:pkV (blP q).1=45
   ·obtain ⟨k45,_⟩:=zI h45 (by decide)
    rw[dif_pos h45] at hrun;refine gw ?_;refine ⟨(adv (blP q) k45:PX),obE (zm (adv (blP q) k45)),eL,trivial,?_⟩
    have k6:(adv (blP q) k45).1.k<=(adv (blP q) k45).1.s.size:=(adv (blP q) k45).2.2.1;have k7:(adv (blP q) k45).1.s.size<=65536:=(adv (blP q) k45).2.2.2;by_cases h45b:pkV (adv (blP q) k45).1=45
    ·obtain ⟨k45b,_⟩:=zI h45b (by decide)
     rw[dif_pos h45b] at hrun;refine gw ?_;refine ⟨(adv (adv (blP q) k45) k45b:PX),obE (zm (adv (adv (blP q) k45) k45b)),eL,trivial,?_⟩
     simp only[nq,zG,zW,nr,ns,Nat.reduceAdd,reduceIte];refine gx ?_;refine .inr ⟨.stage [0,1,2,3,4,5,6] (.alt 7 [0] (.stage [] (.alt 8 [] (.stage [] (.alt 9 [] (.done []) .nil)) .nil)) .nil),by decide +kernel,?_⟩
     refine xs1 ?_
     repeat' first|refine gx ?_|refine gy ?_|refine xc1 ?_ ?_|refine xs4 ?_ ?_|exact rfl
     cases hop2:yA (zB n) (blP (adv (adv (blP q) k45) k45b)) with
     | bad e b r =>
      refine ⟨((blP (adv (adv (blP q) k45) k45b),d,.bad e b r):PX × Int × OutP),obE (zm (blP (adv (adv (blP q) k45) k45b))),eL,⟨hd,by show (yA (zB n) _).p zR=_;rw[hop2];rfl⟩,?_⟩
      exact zdb (q:=r) rfl (hrun.symm.trans (by rw[hop2])) (zd rfl rfl) rfl rfl
     | ok L r =>
      have w:=ye (zQ n) hop2;have wb:=w.bound;have wk:=w.k;have m1:=((Moved.adv (blP q) k45).trans ((Moved.adv _ k45b).trans (Moved.bl _))).k;have hf2:r.1.s.size<f+r.1.k:=by rw[w.s];show q.1.s.size<f+r.1.k;omega
      have p4:ctMinP.pre (zr S (canon I) 1,L):=⟨uy (show (zr S (canon I) 1).length<=4000000 by omega),by show (zr S (canon I) 1).length<=400000;omega,uy (show L.length<=4000000 by omega),by show L.length<=400000;omega⟩
      refine ⟨((blP (adv (adv (blP q) k45) k45b),d,.ok (zR L) r):PX × Int × OutP),obE (zm (blP (adv (adv (blP q) k45) k45b))),eL,⟨hd,by show (yA (zB n) _).p zR=_;rw[hop2];rfl⟩,?_⟩
      rw[hop2] at hrun
      repeat' first|refine gx ?_|refine gy ?_|refine xc1 ?_ ?_|refine xs4 ?_ ?_|exact rfl
      exact ⟨(f,r,zr (zr S (canon I) 1) L 3,[]),⟨GrpAt.op (((hat.bl.adv k45).adv k45b).bl) w 3,hf2,hrun⟩,(by show f<f+1;omega),StLe.trans (StLe.nilRow (t:=7) 111 2 (fun _ _=>.junk) rfl) (StLe.trans (zq [0,1,2,4] (tm':=tmG d false) (ow':=owG r (zr (zr S (canon I) 1) L 3) (zG 111 2 rgD [])) tmS ⟨zak (zm r),eZ,eZ,yg,trivial⟩ (by decide) m1j (by simp)) (toG d false r (zr (zr S (canon I) 1) L 3) []))⟩
    ·rw[dif_neg h45b] at hrun;refine gw ?_;refine ⟨((adv (blP q) k45,3,((adv (blP q) k45).1.k:Int)):PX × Int × Int),obE (zm (adv (blP q) k45)),eL,trivial,?_⟩
     exact zdb (q:=adv (blP q) k45) rfl hrun.symm (zd rfl rfl) rfl rfl
   rw[dif_neg h45] at hrun;have h38:pkV (blP q).1=38:=by have:=of_decide_eq_true hop;omega
   obtain ⟨k38,_⟩:=zI h38 (by decide)
   rw[dif_pos h38] at hrun;refine gw ?_;refine ⟨(adv (blP q) k38:PX),obE (zm (adv (blP q) k38)),eL,trivial,?_⟩
   simp only[nq,zG,zW,nr,ns,Nat.reduceAdd,reduceIte];refine gx ?_;refine .inr ⟨.stage [0,1,2,3,4,5,6] (.alt 7 [0] (.stage [] (.alt 8 [] (.stage [] (.alt 9 [] (.done []) .nil)) .nil)) .nil),by decide +kernel,?_⟩
   refine xs1 ?_
   repeat' first|refine gx ?_|refine gy ?_|refine xc1 ?_ ?_|refine xs4 ?_ ?_|exact rfl
   cases hop2:yA (zB n) (blP (adv (blP q) k38)) with
   | bad e b r =>
    refine ⟨((blP (adv (blP q) k38),d,.bad e b r):PX × Int × OutP),obE (zm (blP (adv (blP q) k38))),eL,⟨hd,by show (yA (zB n) _).p zR=_;rw[hop2];rfl⟩,?_⟩
    exact zdb (q:=r) rfl (hrun.symm.trans (by rw[hop2])) (zd rfl rfl) rfl rfl
   | ok L r =>
    have w:=ye (zQ n) hop2;have wb:=w.bound;have wk:=w.k;have m1:=((Moved.adv (blP q) k38).trans (Moved.bl _)).k;have hf2:r.1.s.size<f+r.1.k:=by rw[w.s];show q.1.s.size<f+r.1.k;omega
    have p4:ctAndP.pre (zr S (canon I) 1,L):=⟨uy (show (zr S (canon I) 1).length<=4000000 by omega),by show (zr S (canon I) 1).length<=400000;omega,uy (show L.length<=4000000 by omega),by show L.length<=400000;omega⟩
    refine ⟨((blP (adv (blP q) k38),d,.ok (zR L) r):PX × Int × OutP),obE (zm (blP (adv (blP q) k38))),eL,⟨hd,by show (yA (zB n) _).p zR=_;rw[hop2];rfl⟩,?_⟩
    rw[hop2] at hrun
    repeat' first|refine gx ?_|refine gy ?_|refine xc1 ?_ ?_|refine xs4 ?_ ?_|exact rfl
    exact ⟨(f,r,zr (zr S (canon I) 1) L 2,[]),⟨GrpAt.op ((hat.bl.adv k38).bl) w 2,hf2,hrun⟩,(by show f<f+1;omega),StLe.trans (StLe.nilRow (t:=7) 111 2 (fun _ _=>.junk) rfl) (StLe.trans (zq [0,1,2,4] (tm':=tmG d false) (ow':=owG r (zr (zr S (canon I) 1) L 2) (zG 111 2 rgD [])) tmS ⟨zak (zm r),eZ,eZ,yg,trivial⟩ (by decide) m1j (by simp)) (toG d false r (zr (zr S (canon I) 1) L 2) []))⟩
  ·have eS:sG d false q S I=⟨tmG d false,owG q S (zG 111 2 rgD I),[]⟩:=by unfold sG;rw[hop];rfl
   dsimp only;rw[eS];unfold tmG owG;have hop:=of_decide_eq_false hop;have h93:¬pkV (blP q).1=93:=fun h=>hop (.inl h)
   have h45:¬pkV (blP q).1=45:=fun h=>hop (.inr (.inl h))
   have h38:¬pkV (blP q).1=38:=fun h=>hop (.inr (.inr h))
   refine gw ?_;refine ⟨(q:PX),obE (zm q),eL,trivial,?_⟩
   refine gw ?_;refine ⟨(blP q:PX),obE (zm (blP q)),eL,trivial,?_⟩
   rw[zdt,dif_neg h93,dif_neg h45,dif_neg h38] at hrun;by_cases h91:pkV (blP q).1=91
   ·rw[if_pos h91] at hrun;refine gw ?_;cases hg:zB n (blP q) with
    | bad e b r =>
     refine ⟨((blP q,d+1,.bad e b r):PX × Int × OutP),obE (zm (blP q)),eL,⟨⟨h91,by show d+1=17 - (n:Int);omega⟩,by show (zB n _).p zR=_;rw[hg];rfl⟩,?_⟩
     exact zdb (q:=r) rfl (hrun.symm.trans (by rw[hg])) (zd rfl rfl) rfl rfl
    | ok L r =>
     have w:=zQ n _ _ _ h91 hg;have wb:=w.bound;have wk:=w.k;have hf2:r.1.s.size<f+r.1.k:=by rw[w.s];show q.1.s.size<f+r.1.k;omega
     refine ⟨((blP q,d+1,.ok (zR L) r):PX × Int × OutP),obE (zm (blP q)),eL,⟨⟨h91,by show d+1=17 - (n:Int);omega⟩,by show (zB n _).p zR=_;rw[hg];rfl⟩,?_⟩
     rw[hg] at hrun;refine gw ?_;exact ⟨(f,r,S,I++L),⟨hat.bl.add w,hf2,hrun⟩,(by show f<f+1;omega),StLe.trans (zq [0,1,2,4] (tm':=tmG d false) (ow':=owG r S (zG 111 2 rgD (I++L))) tmS ⟨zak (zm r),eZ,eZ,zeq,trivial⟩ (by decide) m1j (by simp)) (toG d false r S (I++L))⟩
   rw[if_neg h91] at hrun;refine gw ?_;cases hg:xh (blP q) with
   | bad e b r =>
    refine ⟨((blP q,(),.bad e b r):PX × Unit × OutP),obE (zm (blP q)),eL,⟨trivial,by show (xh _).p xE=_;rw[hg];rfl⟩,?_⟩
    exact zdb (q:=r) rfl (hrun.symm.trans (by rw[hg])) (zd rfl rfl) rfl rfl
   | ok L r =>
    have w:=xy hg;have wb:=w.bound;have wk:=w.k;have hf2:r.1.s.size<f+r.1.k:=by rw[w.s];show q.1.s.size<f+r.1.k;omega
    refine ⟨((blP q,(),.ok (xE L) r):PX × Unit × OutP),obE (zm (blP q)),eL,⟨trivial,by show (xh _).p xE=_;rw[hg];rfl⟩,?_⟩
    rw[hg] at hrun;refine gw ?_;exact ⟨(f,r,S,I++L),⟨hat.bl.add w,hf2,hrun⟩,(by show f<f+1;omega),StLe.trans (zq [0,1,2,4] (tm':=tmG d false) (ow':=owG r S (zG 111 2 rgD (I++L))) tmS ⟨zak (zm r),eZ,eZ,zeq,trivial⟩ (by decide) m1j (by simp)) (toG d false r S (I++L))⟩
end Go.Proofs
