import Derived.Test.YtcihhjjmcompkaaGreatDoorX7
import Derived.Test.YtcihhjjmcompkaaGreatDoorCm3z
import Derived.Test.YtcihhjjmcompkaaGreatDoorX1
import Derived.Test.YtcihhjjmcompkaaGreatDoorXs
set_option linter.unusedVariables false
set_option linter.unusedSimpArgs false
namespace Go.Proofs
open Go Go.Sx
variable {mx:Int}{pb:Bool}
noncomputable def ocGrp (n:Nat):Oc:=ocL Int (fun d=>[.v (.int .i64 d)]) (fun p d=>pkV p.1=91∧d=17 - n) zbu fun p _=>za5 n p
noncomputable def ocOpd (n:Nat):Oc:=ocL Int (fun d=>[.v (.int .i64 d)]) (fun _ d=>d=16 - n) zbu fun p _=>zco (za5 n) p
noncomputable def Γod (mx:Int) (pb:Bool) (n:Nat):Ctx:=fun f=>match f with
 | 55=>some (.obj zid)
 | 56=>some (.obj zg5)
 | 147=>some (.obj ocCls)
 | 57=>some (.obj (ocGrp n))
 | _=>none
theorem Γod_ok {n:Nat}(hG:zbt Tryz.prog (GlT mx pb) 57 (ocGrp n)):za1 Tryz.prog (GlT mx pb) (Γod mx pb n):=by
 intro f h hh
 simp only[Γod] at hh
 split at hh<;>simp at hh<;>subst hh
 ·exact zek
 ·exact zdi
 ·exact xCls_ok
 ·exact hG
set_option maxHeartbeats 8000000 in
theorem xOpd_ok {n:Nat}(hn:n≤16) (hG:zbt Tryz.prog (GlT mx pb) 57 (ocGrp n)):zbt Tryz.prog (GlT mx pb) 103 (ocOpd n):=by
 refine zbc (cc:=true) (Γod_ok hG) Tryz.T_ok Tryz.mixed Tryz.func103 rfl (by kernel_rfl) (fun x=>zan x.1) (fun _=>rfl) (fun x=>zan x.2.2.st) (fun _ _=>by show 2≤_;decide) ?_
 rintro ⟨⟨p,hp⟩,d,o⟩ ⟨hd,ho⟩
 replace hd:d=16 - n:=hd
 replace ho:(zco (za5 n) ⟨p,hp⟩).p zbu=o:=ho
 subst ho
 obtain ⟨hdb,h2,h3⟩:=id hp
 repeat' (first|refine gw ?_|(first|refine br ?_ ?_|refine brF ?_ ?_)<;>intro q_<;>try simp only[nz] at q_)
 refine ⟨(⟨p,hp⟩:PX),obE (zan ⟨p,hp⟩),zaa _,trivial,?_⟩
 by_cases h91:pkV p=91
 ·have hr:zco (za5 n) ⟨p,hp⟩=za5 n ⟨p,hp⟩:=if_pos h91
  repeat' (first|refine gw ?_|(first|refine br ?_ ?_|refine brF ?_ ?_)<;>intro q_<;>try simp only[nz] at q_)
  cases hg:za5 n ⟨p,hp⟩ with
  | bad e b q =>
   refine ⟨((⟨p,hp⟩,d+1,.bad e b q):PX × Int × OutP),obE (zan ⟨p,hp⟩),zaa _,⟨⟨h91,by show d+1=17 - (n:Int);omega⟩,by show (za5 n ⟨p,hp⟩).p zbu=_;rw[hg];rfl⟩,?_⟩
   exact panL (q:=q) rfl (hr.trans hg) (zaj rfl rfl) rfl rfl
  | ok L q =>
   refine ⟨((⟨p,hp⟩,d+1,.ok (zbu L) q):PX × Int × OutP),obE (zan ⟨p,hp⟩),zaa _,⟨⟨h91,by show d+1=17 - (n:Int);omega⟩,by show (za5 n ⟨p,hp⟩).p zbu=_;rw[hg];rfl⟩,?_⟩
   repeat' (first|refine gw ?_|(first|refine br ?_ ?_|refine brF ?_ ?_)<;>intro q_<;>try simp only[nz] at q_)
   exact retL (q:=q) rfl (hr.trans hg) (zaj rfl rfl) rfl rfl
 ·by_cases h92:pkV p=92
  ·have hr:zco (za5 n) ⟨p,hp⟩=zb0 ⟨p,hp⟩:=(if_neg h91).trans (if_pos h92)
   repeat' (first|refine gw ?_|(first|refine br ?_ ?_|refine brF ?_ ?_)<;>intro q_<;>try simp only[nz] at q_)
   cases hg:zb0 ⟨p,hp⟩ with
   | bad e b q =>
    refine ⟨((⟨p,hp⟩,(),.bad e b q):PX × Unit × OutP),obE (zan ⟨p,hp⟩),zaa _,⟨h92,by show (zb0 ⟨p,hp⟩).p zbu=_;rw[hg];rfl⟩,?_⟩
    exact panL (q:=q) rfl (hr.trans hg) (zaj rfl rfl) rfl rfl
   | ok L q =>
    refine ⟨((⟨p,hp⟩,(),.ok (zbu L) q):PX × Unit × OutP),obE (zan ⟨p,hp⟩),zaa _,⟨h92,by show (zb0 ⟨p,hp⟩).p zbu=_;rw[hg];rfl⟩,?_⟩
    repeat' (first|refine gw ?_|(first|refine br ?_ ?_|refine brF ?_ ?_)<;>intro q_<;>try simp only[nz] at q_)
    exact retL (q:=q) rfl (hr.trans hg) (zaj rfl rfl) rfl rfl
  ·have hr:zco (za5 n) ⟨p,hp⟩=.bad 3 p.k ⟨p,hp⟩:=(if_neg h91).trans (if_neg h92)
   repeat' (first|refine gw ?_|(first|refine br ?_ ?_|refine brF ?_ ?_)<;>intro q_<;>try simp only[nz] at q_)
   refine ⟨((⟨p,hp⟩,3,(p.k:Int)):PX × Int × Int),obE (zan ⟨p,hp⟩),zaa _,trivial,?_⟩
   exact panL (q:=⟨p,hp⟩) rfl hr (zaj rfl rfl) rfl rfl
end Go.Proofs
namespace Go.Proofs
open Go Go.Sx
variable {mx:Int}{pb:Bool}
attribute [local irreducible] exPs exCk zcc zgw
def Γg0:Ctx:=fun f=>match f with
 | 56=>some (.obj zg5)
 | _=>none
theorem Γg0_ok:za1 Tryz.prog (GlT mx pb) Γg0:=by
 intro f h hh
 simp only[Γg0] at hh
 split at hh<;>simp at hh<;>subst hh
 ·exact zdi
set_option maxHeartbeats 4000000 in
theorem xGrp_0 (n:Nat) (hn:n=0):zbt Tryz.prog (GlT mx pb) 57 (ocGrp n):=by
 refine zbc (cc:=true) Γg0_ok Tryz.T_ok Tryz.mixed Tryz.func57 rfl (by kernel_rfl) (fun x=>zan x.1) (fun _=>rfl) (fun x=>zan x.2.2.st) (fun _ _=>by show 2≤_;decide) ?_
 rintro ⟨⟨p,hp⟩,d,o⟩ ⟨⟨h91,hd⟩,ho⟩
 replace hd:d=17 - n:=hd
 have hd:d=17:=by omega
 replace ho:(za5 n ⟨p,hp⟩).p zbu=o:=ho
 subst ho
 subst hd
 obtain ⟨hdb,h2,h3⟩:=id hp
 repeat' (first|refine gw ?_|(first|refine br ?_ ?_|refine brF ?_ ?_)<;>intro q_<;>try simp only[nz] at q_)
 refine ⟨((⟨p,hp⟩,13,(p.k:Int)):PX × Int × Int),obE (zan ⟨p,hp⟩),zaa _,trivial,?_⟩
 have hr:za5 n (⟨p,hp⟩:PX)=.bad 13 p.k ⟨p,hp⟩:=by rw[hn];rfl
 exact panL (q:=⟨p,hp⟩) rfl hr (zaj rfl rfl) rfl rfl
noncomputable def Γgr (mx:Int) (pb:Bool) (n:Nat):Ctx:=fun f=>match f with
 | 55=>some (.obj zid)
 | 56=>some (.obj zg5)
 | 54=>some (.obj zi7)
 | 104=>some (.obj ocItm)
 | 57=>some (.obj (ocGrp n))
 | 103=>some (.obj (ocOpd n))
 | 50=>some (.pure ctMake)
 | 100=>some (.pure ctOrP)
 | 99=>some (.pure ctAndP)
 | 102=>some (.pure ctMinP)
 | 101=>some (.pure ctNotP)
 | _=>none
theorem Γgr_ok {n:Nat}(hG:zbt Tryz.prog (GlT mx pb) 57 (ocGrp n)) (hO:zbt Tryz.prog (GlT mx pb) 103 (ocOpd n)):za1 Tryz.prog (GlT mx pb) (Γgr mx pb n):=by
 intro f h hh
 simp only[Γgr] at hh
 split at hh<;>simp at hh<;>subst hh
 ·exact zek
 ·exact zdi
 ·exact zht
 ·exact xItm_ok
 ·exact hG
 ·exact hO
 ·exact zch
 ·exact orP_ok
 ·exact andP_ok
 ·exact minP_ok
 ·exact notP_ok
theorem zej {l:List Rg}(h:l.length≤4000000):zim l:=⟨by omega,.inr (.inr trivial)⟩
theorem own_catL {α:Type} [Inhabited α] {ρ:List Nat}{e sz:Nat}{enc:α→Nat→D}{l m:List α}:zgh ρ (.row e sz (l.length+m.length) (catF l.length (fun i j=>enc (l.getD i default) j) (fun i j=>enc (m.getD i default) j))) (zb3 e sz enc (l++m)):=by
 refine ⟨rfl,rfl,by simp,fun a ha j hj=>Ent.of_eq ?_⟩
 show catF l.length _ _ a j=enc ((l++m).getD a default) j
 unfold catF
 by_cases h:a<l.length
 ·rw[if_pos h]
  simp only[List.getD_eq_getElem?_getD,List.getElem?_append,if_pos h]
 ·rw[if_neg h]
  simp only[List.getD_eq_getElem?_getD,List.getElem?_append,if_neg h]
theorem m1i:∀ i,i<1→([0,1,2,3]:List Nat)[i]?=some i:=fun i hi=>by
 have:i=0:=by omega
 subst this;rfl
theorem m1j:∀ i,i<1→([0,1,2,4]:List Nat)[i]?=some i:=fun i hi=>by
 have:i=0:=by omega
 subst this;rfl
def isOp (q:PX):Bool:=decide (pkV (blP q).1=93∨pkV (blP q).1=45∨pkV (blP q).1=38)
def lastG (b:Bool) (I:List Rg):Own:=match b with
 | true=>.frozen 2 I.length fun i j=>rgD (I.getD i default) j
 | false=>zb3 82 2 rgD I
theorem lastG_t (I:List Rg):lastG true I=.frozen 2 I.length fun i j=>rgD (I.getD i default) j:=rfl
theorem lastG_f (I:List Rg):lastG false I=zb3 82 2 rgD I:=rfl
def tmG (d:Int) (neg:Bool):List (Nat × D):=[(0,.own 0 0),(1,.v (.int .i64 d)),(4,.own 1 0),(5,.v (.bool neg)),(6,.own 2 0),(7,.row 3)]
def owG (q:PX) (S:List Rg) (o:Own):List Own:=[.cells 100 (pC q.1),.cells 24 [zgi],.cells 24 [zdu S],o]
def sG (d:Int) (neg:Bool) (q:PX) (S I:List Rg):St:=⟨tmG d neg,owG q S (lastG (isOp q) I),[]⟩
theorem toG (d:Int) (neg:Bool) (q:PX) (S I:List Rg):StLe 1 ⟨tmG d neg,owG q S (zb3 82 2 rgD I),[]⟩ (sG d neg q S I):=by
 unfold sG
 cases isOp q with
 | true=>exact StLe.frz0 (r:=3) (e:=82) rfl
 | false=>exact StLe.refl _ _
structure GIn (n:Nat) (neg:Bool) (z:PX) (f:Nat) (q:PX) (S I:List Rg):Prop where
 at_:GrpAt z q S I
 fuel:q.1.s.size<f+q.1.k
 run:grpL (za5 n) neg f q S I=za5 (n+1) z
set_option maxHeartbeats 16000000 in
theorem xGrp_step {n:Nat}(hn:n≤16) (hG:zbt Tryz.prog (GlT mx pb) 57 (ocGrp n)):zbt Tryz.prog (GlT mx pb) 57 (ocGrp (n+1)):=by
 refine zbc (cc:=true) (Γgr_ok hG (xOpd_ok hn hG)) Tryz.T_ok Tryz.mixed Tryz.func57 rfl (by kernel_rfl) (fun x=>zan x.1) (fun _=>rfl) (fun x=>zan x.2.2.st) (fun _ _=>by show 2≤_;decide) ?_
 rintro ⟨⟨p,hp⟩,d,o⟩ ⟨⟨h91,hd⟩,ho⟩
 replace h91:pkV p=91:=h91
 replace hd:d=17 - (n+1:Nat):=hd
 have hd:d=16 - n:=by omega
 replace ho:(za5 (n+1) ⟨p,hp⟩).p zbu=o:=ho
 subst ho
 obtain ⟨hdb,h2,h3⟩:=id hp
 obtain ⟨hk,hb⟩:=zbw h91 (by decide)
 have hz:=grp_at0 (p:=⟨p,hp⟩) h91 hk
 repeat' (first|refine gw ?_|(first|refine br ?_ ?_|refine brF ?_ ?_)<;>intro q_<;>try simp only[nz] at q_)
 ·exfalso
  have h:d>16:=q_
  omega
 refine ⟨(adv ⟨p,hp⟩ hk:PX),obE (zan (adv ⟨p,hp⟩ hk)),zaa _,trivial,?_⟩
 repeat' (first|refine gw ?_|(first|refine br ?_ ?_|refine brF ?_ ?_)<;>intro q_<;>try simp only[nz] at q_)
 refine ⟨(blP (adv ⟨p,hp⟩ hk):PX),obE (zan (blP (adv ⟨p,hp⟩ hk))),zaa _,trivial,?_⟩
 have k1:(blP (adv ⟨p,hp⟩ hk)).1.k≤(blP (adv ⟨p,hp⟩ hk)).1.s.size:=(blP (adv ⟨p,hp⟩ hk)).2.2.1
 have k2:(blP (adv ⟨p,hp⟩ hk)).1.s.size≤65536:=(blP (adv ⟨p,hp⟩ hk)).2.2.2
 by_cases h94:pkV (blP (adv ⟨p,hp⟩ hk)).1=94
 case pos =>
  obtain ⟨k94,_⟩:=zbw h94 (by decide)
  have hr0:grpL (za5 n) true (p.s.size+1) (adv (blP (adv ⟨p,hp⟩ hk)) k94) [] []=za5 (n+1) ⟨p,hp⟩:=by
   rw[za5,dif_pos (show (⟨p,hp⟩:PX).1.k<(⟨p,hp⟩:PX).1.s.size from hk),dif_pos h94]
  repeat' (first|refine gw ?_|(first|refine br ?_ ?_|refine brF ?_ ?_)<;>intro q_<;>try simp only[nz] at q_)
  refine ⟨0,Nat × PX × List Rg × List Rg,fun|(f,q,S,I)=>sG d true q S I,fun|(f,q,S,I)=>GIn n true ⟨p,hp⟩ f q S I,fun x=>x.1,fun _=>(by show 1≤4;decide),⟨(p.s.size+1,adv (blP (adv ⟨p,hp⟩ hk)) k94,[],[]),⟨(hz.bl.adv k94),(by show p.s.size<p.s.size+1+_;omega),hr0⟩,StLe.trans (StLe.nilRow (t:=7) 82 2 (fun _ _=>.junk) rfl) (StLe.trans (zaq [0,1,2,3] (tm':=tmG d true) (ow':=owG (adv (blP (adv ⟨p,hp⟩ hk)) k94) [] (zb3 82 2 rgD [])) ⟨zab _,rfl,zab _,rfl,zab _,rfl,Ent.v (congrArg Value.bool (decide_eq_true h94)),rfl,zab _,rfl,zab _,rfl,trivial⟩ ⟨oren (zan (adv (blP (adv ⟨p,hp⟩ hk)) k94)),⟨rfl,zaa _,rfl⟩,⟨rfl,EntL.cons Ent.nil (zaa []),rfl⟩,zcr,trivial⟩ (by decide) m1i (by simp)) (toG d true (adv (blP (adv ⟨p,hp⟩ hk)) k94) [] []))⟩,?_⟩
  clear hr0
  rintro ⟨f,q,S,I⟩ ⟨hat,hfu,hrun⟩
  have hbd:=hat.bound
  have k3:q.1.k≤q.1.s.size:=q.2.2.1
  have k4:(blP q).1.k≤(blP q).1.s.size:=(blP q).2.2.1
  have k5:(blP q).1.s.size≤65536:=(blP q).2.2.2
  have kb:=zjo q
  have l1:=zbh I
  have l2:=ze9 S (canon I) 1
  have p1:ctMake.pre I:=zej (by omega)
  have p2:ctOrP.pre (S,canon I):=⟨zej (show S.length≤4000000 by omega),by show S.length≤400000;omega,zej (show (canon I).length≤4000000 by omega),by show (canon I).length≤400000;omega⟩
  have p3:ctNotP.pre (zbg S (canon I) 1):=⟨zej (by omega),by omega⟩
  cases f with
  | zero=>exact absurd hfu (by omega)
  | succ f =>
  rcases Bool.eq_false_or_eq_true (isOp q) with hop|hop
  ·have eS:sG d true q S I=⟨tmG d true,owG q S (.frozen 2 I.length fun i j=>rgD (I.getD i default) j),[]⟩:=by unfold sG;rw[hop];rfl
   dsimp only
   rw[eS]
   unfold tmG owG
   repeat' (first|refine gw ?_|(first|refine br ?_ ?_|refine brF ?_ ?_)<;>intro q_<;>try simp only[nz] at q_)
   refine ⟨(q:PX),obE (zan q),zaa _,trivial,?_⟩
   repeat' (first|refine gw ?_|(first|refine br ?_ ?_|refine brF ?_ ?_)<;>intro q_<;>try simp only[nz] at q_)
   refine ⟨(blP q:PX),obE (zan (blP q)),zaa _,trivial,?_⟩
   rw[grpL] at hrun
   by_cases h93:pkV (blP q).1=93
   ·obtain ⟨k93,_⟩:=zbw h93 (by decide)
    rw[dif_pos h93] at hrun
    repeat' (first|refine gw ?_|(first|refine br ?_ ?_|refine brF ?_ ?_)<;>intro q_<;>try simp only[nz] at q_)
    exact retL (q:=adv (blP q) k93) rfl hrun.symm (zaj rfl rfl) rfl rfl
   rw[dif_neg h93] at hrun
   by_cases h45:pkV (blP q).1=45
   ·obtain ⟨k45,_⟩:=zbw h45 (by decide)
    rw[dif_pos h45] at hrun
    repeat' (first|refine gw ?_|(first|refine br ?_ ?_|refine brF ?_ ?_)<;>intro q_<;>try simp only[nz] at q_)
    refine ⟨(adv (blP q) k45:PX),obE (zan (adv (blP q) k45)),zaa _,trivial,?_⟩
    have k6:(adv (blP q) k45).1.k≤(adv (blP q) k45).1.s.size:=(adv (blP q) k45).2.2.1
    have k7:(adv (blP q) k45).1.s.size≤65536:=(adv (blP q) k45).2.2.2
    by_cases h45b:pkV (adv (blP q) k45).1=45
    ·obtain ⟨k45b,_⟩:=zbw h45b (by decide)
     rw[dif_pos h45b] at hrun
     repeat' (first|refine gw ?_|(first|refine br ?_ ?_|refine brF ?_ ?_)<;>intro q_<;>try simp only[nz] at q_)
     refine ⟨(adv (adv (blP q) k45) k45b:PX),obE (zan (adv (adv (blP q) k45) k45b)),zaa _,trivial,?_⟩
     simp only[zai,zbm,zb3,zc5,nr,ns,Nat.reduceAdd,Nat.zero_add,reduceIte]
     repeat' (first|refine gx ?_|(first|refine br ?_ ?_|refine brF ?_ ?_)<;>intro q_<;>try simp only[nz] at q_)
     refine .inr ⟨.stage [0,1,2,3,4,5,6] (.alt 7 [0] (.stage [] (.alt 8 [] (.stage [] (.alt 9 [] (.done []) .nil)) .nil)) .nil),by decide +kernel,?_⟩
     refine xs1 ?_
     repeat' (first|refine gx ?_|refine xp1 ?_|refine xp0 ?_|refine xc1 ?_ ?_|refine xc0 ?_|refine xs1 ?_|refine xs2 ?_|refine xs3 ?_|refine xs4 ?_ ?_|refine xa1 ?_|exact rfl)
     cases hop2:zco (za5 n) (blP (adv (adv (blP q) k45) k45b)) with
     | bad e b r =>
      refine ⟨((blP (adv (adv (blP q) k45) k45b),d,.bad e b r):PX × Int × OutP),obE (zan (blP (adv (adv (blP q) k45) k45b))),zaa _,⟨hd,by show (zco (za5 n) _).p zbu=_;rw[hop2];rfl⟩,?_⟩
      exact panL (q:=r) rfl (hrun.symm.trans (by rw[hop2])) (zaj rfl rfl) rfl rfl
     | ok L r =>
      have w:=zcn (zbs n) hop2
      have wb:=w.bound
      have wk:=w.k
      have m1:=((Moved.adv (blP q) k45).trans ((Moved.adv _ k45b).trans (Moved.bl _))).k
      have hf2:r.1.s.size<f+r.1.k:=by rw[w.s];show q.1.s.size<f+r.1.k;omega
      have p4:ctMinP.pre (zbg S (canon I) 1,L):=⟨zej (show (zbg S (canon I) 1).length≤4000000 by omega),by show (zbg S (canon I) 1).length≤400000;omega,zej (show L.length≤4000000 by omega),by show L.length≤400000;omega⟩
      refine ⟨((blP (adv (adv (blP q) k45) k45b),d,.ok (zbu L) r):PX × Int × OutP),obE (zan (blP (adv (adv (blP q) k45) k45b))),zaa _,⟨hd,by show (zco (za5 n) _).p zbu=_;rw[hop2];rfl⟩,?_⟩
      rw[hop2] at hrun
      repeat' (first|refine gx ?_|refine xp1 ?_|refine xp0 ?_|refine xc1 ?_ ?_|refine xc0 ?_|refine xs1 ?_|refine xs2 ?_|refine xs3 ?_|refine xs4 ?_ ?_|refine xa1 ?_|exact rfl)
      exact ⟨(f,r,zbg (zbg S (canon I) 1) L 3,[]),⟨GrpAt.op (((hat.bl.adv k45).adv k45b).bl) w 3,hf2,hrun⟩,(by show f<f+1;omega),StLe.trans (StLe.nilRow (t:=7) 82 2 (fun _ _=>.junk) rfl) (StLe.trans (zaq [0,1,2,4] (tm':=tmG d true) (ow':=owG r (zbg (zbg S (canon I) 1) L 3) (zb3 82 2 rgD [])) tmS ⟨oren (zan r),⟨rfl,zaa _,rfl⟩,⟨rfl,zaa _,rfl⟩,zcr,trivial⟩ (by decide) m1j (by simp)) (toG d true r (zbg (zbg S (canon I) 1) L 3) []))⟩
    ·rw[dif_neg h45b] at hrun
     repeat' (first|refine gw ?_|(first|refine br ?_ ?_|refine brF ?_ ?_)<;>intro q_<;>try simp only[nz] at q_)
     refine ⟨((adv (blP q) k45,3,((adv (blP q) k45).1.k:Int)):PX × Int × Int),obE (zan (adv (blP q) k45)),zaa _,trivial,?_⟩
     exact panL (q:=adv (blP q) k45) rfl hrun.symm (zaj rfl rfl) rfl rfl
   rw[dif_neg h45] at hrun
   have h38:pkV (blP q).1=38:=by have:=of_decide_eq_true hop;omega
   obtain ⟨k38,_⟩:=zbw h38 (by decide)
   rw[dif_pos h38] at hrun
   repeat' (first|refine gw ?_|(first|refine br ?_ ?_|refine brF ?_ ?_)<;>intro q_<;>try simp only[nz] at q_)
   refine ⟨(adv (blP q) k38:PX),obE (zan (adv (blP q) k38)),zaa _,trivial,?_⟩
   simp only[zai,zbm,zb3,zc5,nr,ns,Nat.reduceAdd,Nat.zero_add,reduceIte]
   repeat' (first|refine gx ?_|(first|refine br ?_ ?_|refine brF ?_ ?_)<;>intro q_<;>try simp only[nz] at q_)
   refine .inr ⟨.stage [0,1,2,3,4,5,6] (.alt 7 [0] (.stage [] (.alt 8 [] (.stage [] (.alt 9 [] (.done []) .nil)) .nil)) .nil),by decide +kernel,?_⟩
   refine xs1 ?_
   repeat' (first|refine gx ?_|refine xp1 ?_|refine xp0 ?_|refine xc1 ?_ ?_|refine xc0 ?_|refine xs1 ?_|refine xs2 ?_|refine xs3 ?_|refine xs4 ?_ ?_|refine xa1 ?_|exact rfl)
   cases hop2:zco (za5 n) (blP (adv (blP q) k38)) with
   | bad e b r =>
    refine ⟨((blP (adv (blP q) k38),d,.bad e b r):PX × Int × OutP),obE (zan (blP (adv (blP q) k38))),zaa _,⟨hd,by show (zco (za5 n) _).p zbu=_;rw[hop2];rfl⟩,?_⟩
    exact panL (q:=r) rfl (hrun.symm.trans (by rw[hop2])) (zaj rfl rfl) rfl rfl
   | ok L r =>
    have w:=zcn (zbs n) hop2
    have wb:=w.bound
    have wk:=w.k
    have m1:=((Moved.adv (blP q) k38).trans (Moved.bl _)).k
    have hf2:r.1.s.size<f+r.1.k:=by rw[w.s];show q.1.s.size<f+r.1.k;omega
    have p4:ctAndP.pre (zbg S (canon I) 1,L):=⟨zej (show (zbg S (canon I) 1).length≤4000000 by omega),by show (zbg S (canon I) 1).length≤400000;omega,zej (show L.length≤4000000 by omega),by show L.length≤400000;omega⟩
    refine ⟨((blP (adv (blP q) k38),d,.ok (zbu L) r):PX × Int × OutP),obE (zan (blP (adv (blP q) k38))),zaa _,⟨hd,by show (zco (za5 n) _).p zbu=_;rw[hop2];rfl⟩,?_⟩
    rw[hop2] at hrun
    repeat' (first|refine gx ?_|refine xp1 ?_|refine xp0 ?_|refine xc1 ?_ ?_|refine xc0 ?_|refine xs1 ?_|refine xs2 ?_|refine xs3 ?_|refine xs4 ?_ ?_|refine xa1 ?_|exact rfl)
    exact ⟨(f,r,zbg (zbg S (canon I) 1) L 2,[]),⟨GrpAt.op ((hat.bl.adv k38).bl) w 2,hf2,hrun⟩,(by show f<f+1;omega),StLe.trans (StLe.nilRow (t:=7) 82 2 (fun _ _=>.junk) rfl) (StLe.trans (zaq [0,1,2,4] (tm':=tmG d true) (ow':=owG r (zbg (zbg S (canon I) 1) L 2) (zb3 82 2 rgD [])) tmS ⟨oren (zan r),⟨rfl,zaa _,rfl⟩,⟨rfl,zaa _,rfl⟩,zcr,trivial⟩ (by decide) m1j (by simp)) (toG d true r (zbg (zbg S (canon I) 1) L 2) []))⟩
  ·have eS:sG d true q S I=⟨tmG d true,owG q S (zb3 82 2 rgD I),[]⟩:=by unfold sG;rw[hop];rfl
   dsimp only
   rw[eS]
   unfold tmG owG
   have hop:=of_decide_eq_false hop
   have h93:¬pkV (blP q).1=93:=fun h=>hop (.inl h)
   have h45:¬pkV (blP q).1=45:=fun h=>hop (.inr (.inl h))
   have h38:¬pkV (blP q).1=38:=fun h=>hop (.inr (.inr h))
   repeat' (first|refine gw ?_|(first|refine br ?_ ?_|refine brF ?_ ?_)<;>intro q_<;>try simp only[nz] at q_)
   refine ⟨(q:PX),obE (zan q),zaa _,trivial,?_⟩
   repeat' (first|refine gw ?_|(first|refine br ?_ ?_|refine brF ?_ ?_)<;>intro q_<;>try simp only[nz] at q_)
   refine ⟨(blP q:PX),obE (zan (blP q)),zaa _,trivial,?_⟩
   rw[grpL,dif_neg h93,dif_neg h45,dif_neg h38] at hrun
   by_cases h91:pkV (blP q).1=91
   ·rw[if_pos h91] at hrun
    repeat' (first|refine gw ?_|(first|refine br ?_ ?_|refine brF ?_ ?_)<;>intro q_<;>try simp only[nz] at q_)
    cases hg:za5 n (blP q) with
    | bad e b r =>
     refine ⟨((blP q,d+1,.bad e b r):PX × Int × OutP),obE (zan (blP q)),zaa _,⟨⟨h91,by show d+1=17 - (n:Int);omega⟩,by show (za5 n _).p zbu=_;rw[hg];rfl⟩,?_⟩
     exact panL (q:=r) rfl (hrun.symm.trans (by rw[hg])) (zaj rfl rfl) rfl rfl
    | ok L r =>
     have w:=zbs n _ _ _ h91 hg
     have wb:=w.bound
     have wk:=w.k
     have hf2:r.1.s.size<f+r.1.k:=by rw[w.s];show q.1.s.size<f+r.1.k;omega
     refine ⟨((blP q,d+1,.ok (zbu L) r):PX × Int × OutP),obE (zan (blP q)),zaa _,⟨⟨h91,by show d+1=17 - (n:Int);omega⟩,by show (za5 n _).p zbu=_;rw[hg];rfl⟩,?_⟩
     rw[hg] at hrun
     repeat' (first|refine gw ?_|(first|refine br ?_ ?_|refine brF ?_ ?_)<;>intro q_<;>try simp only[nz] at q_)
     exact ⟨(f,r,S,I++L),⟨hat.bl.add w,hf2,hrun⟩,(by show f<f+1;omega),StLe.trans (zaq [0,1,2,4] (tm':=tmG d true) (ow':=owG r S (zb3 82 2 rgD (I++L))) tmS ⟨oren (zan r),⟨rfl,zaa _,rfl⟩,⟨rfl,zaa _,rfl⟩,own_catL,trivial⟩ (by decide) m1j (by simp)) (toG d true r S (I++L))⟩
   rw[if_neg h91] at hrun
   repeat' (first|refine gw ?_|(first|refine br ?_ ?_|refine brF ?_ ?_)<;>intro q_<;>try simp only[nz] at q_)
   cases hg:zdg (blP q) with
   | bad e b r =>
    refine ⟨((blP q,(),.bad e b r):PX × Unit × OutP),obE (zan (blP q)),zaa _,⟨trivial,by show (zdg _).p zdu=_;rw[hg];rfl⟩,?_⟩
    exact panL (q:=r) rfl (hrun.symm.trans (by rw[hg])) (zaj rfl rfl) rfl rfl
   | ok L r =>
    have w:=zgn hg
    have wb:=w.bound
    have wk:=w.k
    have hf2:r.1.s.size<f+r.1.k:=by rw[w.s];show q.1.s.size<f+r.1.k;omega
    refine ⟨((blP q,(),.ok (zdu L) r):PX × Unit × OutP),obE (zan (blP q)),zaa _,⟨trivial,by show (zdg _).p zdu=_;rw[hg];rfl⟩,?_⟩
    rw[hg] at hrun
    repeat' (first|refine gw ?_|(first|refine br ?_ ?_|refine brF ?_ ?_)<;>intro q_<;>try simp only[nz] at q_)
    exact ⟨(f,r,S,I++L),⟨hat.bl.add w,hf2,hrun⟩,(by show f<f+1;omega),StLe.trans (zaq [0,1,2,4] (tm':=tmG d true) (ow':=owG r S (zb3 82 2 rgD (I++L))) tmS ⟨oren (zan r),⟨rfl,zaa _,rfl⟩,⟨rfl,zaa _,rfl⟩,own_catL,trivial⟩ (by decide) m1j (by simp)) (toG d true r S (I++L))⟩
 case neg =>
  have hr0:grpL (za5 n) false (p.s.size+1) (blP (adv ⟨p,hp⟩ hk)) [] []=za5 (n+1) ⟨p,hp⟩:=by
   rw[za5,dif_pos (show (⟨p,hp⟩:PX).1.k<(⟨p,hp⟩:PX).1.s.size from hk),dif_neg h94]
  repeat' (first|refine gw ?_|(first|refine br ?_ ?_|refine brF ?_ ?_)<;>intro q_<;>try simp only[nz] at q_)
  refine ⟨0,Nat × PX × List Rg × List Rg,fun|(f,q,S,I)=>sG d false q S I,fun|(f,q,S,I)=>GIn n false ⟨p,hp⟩ f q S I,fun x=>x.1,fun _=>(by show 1≤4;decide),⟨(p.s.size+1,blP (adv ⟨p,hp⟩ hk),[],[]),⟨hz.bl,(by show p.s.size<p.s.size+1+_;omega),hr0⟩,StLe.trans (StLe.nilRow (t:=7) 82 2 (fun _ _=>.junk) rfl) (StLe.trans (zaq [0,1,2,3] (tm':=tmG d false) (ow':=owG (blP (adv ⟨p,hp⟩ hk)) [] (zb3 82 2 rgD [])) ⟨zab _,rfl,zab _,rfl,zab _,rfl,Ent.v (congrArg Value.bool (decide_eq_false h94)),rfl,zab _,rfl,zab _,rfl,trivial⟩ ⟨oren (zan (blP (adv ⟨p,hp⟩ hk))),⟨rfl,zaa _,rfl⟩,⟨rfl,EntL.cons Ent.nil (zaa []),rfl⟩,zcr,trivial⟩ (by decide) m1i (by simp)) (toG d false (blP (adv ⟨p,hp⟩ hk)) [] []))⟩,?_⟩
  clear hr0
  rintro ⟨f,q,S,I⟩ ⟨hat,hfu,hrun⟩
  have hbd:=hat.bound
  have k3:q.1.k≤q.1.s.size:=q.2.2.1
  have k4:(blP q).1.k≤(blP q).1.s.size:=(blP q).2.2.1
  have k5:(blP q).1.s.size≤65536:=(blP q).2.2.2
  have kb:=zjo q
  have l1:=zbh I
  have l2:=ze9 S (canon I) 1
  have p1:ctMake.pre I:=zej (by omega)
  have p2:ctOrP.pre (S,canon I):=⟨zej (show S.length≤4000000 by omega),by show S.length≤400000;omega,zej (show (canon I).length≤4000000 by omega),by show (canon I).length≤400000;omega⟩
  have p3:ctNotP.pre (zbg S (canon I) 1):=⟨zej (by omega),by omega⟩
  cases f with
  | zero=>exact absurd hfu (by omega)
  | succ f =>
  rcases Bool.eq_false_or_eq_true (isOp q) with hop|hop
  ·have eS:sG d false q S I=⟨tmG d false,owG q S (.frozen 2 I.length fun i j=>rgD (I.getD i default) j),[]⟩:=by unfold sG;rw[hop];rfl
   dsimp only
   rw[eS]
   unfold tmG owG
   repeat' (first|refine gw ?_|(first|refine br ?_ ?_|refine brF ?_ ?_)<;>intro q_<;>try simp only[nz] at q_)
   refine ⟨(q:PX),obE (zan q),zaa _,trivial,?_⟩
   repeat' (first|refine gw ?_|(first|refine br ?_ ?_|refine brF ?_ ?_)<;>intro q_<;>try simp only[nz] at q_)
   refine ⟨(blP q:PX),obE (zan (blP q)),zaa _,trivial,?_⟩
   rw[grpL] at hrun
   by_cases h93:pkV (blP q).1=93
   ·obtain ⟨k93,_⟩:=zbw h93 (by decide)
    rw[dif_pos h93] at hrun
    repeat' (first|refine gw ?_|(first|refine br ?_ ?_|refine brF ?_ ?_)<;>intro q_<;>try simp only[nz] at q_)
    exact retL (q:=adv (blP q) k93) rfl hrun.symm (zaj rfl rfl) rfl rfl
   rw[dif_neg h93] at hrun
   by_cases h45:pkV (blP q).1=45
   ·obtain ⟨k45,_⟩:=zbw h45 (by decide)
    rw[dif_pos h45] at hrun
    repeat' (first|refine gw ?_|(first|refine br ?_ ?_|refine brF ?_ ?_)<;>intro q_<;>try simp only[nz] at q_)
    refine ⟨(adv (blP q) k45:PX),obE (zan (adv (blP q) k45)),zaa _,trivial,?_⟩
    have k6:(adv (blP q) k45).1.k≤(adv (blP q) k45).1.s.size:=(adv (blP q) k45).2.2.1
    have k7:(adv (blP q) k45).1.s.size≤65536:=(adv (blP q) k45).2.2.2
    by_cases h45b:pkV (adv (blP q) k45).1=45
    ·obtain ⟨k45b,_⟩:=zbw h45b (by decide)
     rw[dif_pos h45b] at hrun
     repeat' (first|refine gw ?_|(first|refine br ?_ ?_|refine brF ?_ ?_)<;>intro q_<;>try simp only[nz] at q_)
     refine ⟨(adv (adv (blP q) k45) k45b:PX),obE (zan (adv (adv (blP q) k45) k45b)),zaa _,trivial,?_⟩
     simp only[zai,zbm,zb3,zc5,nr,ns,Nat.reduceAdd,Nat.zero_add,reduceIte]
     repeat' (first|refine gx ?_|(first|refine br ?_ ?_|refine brF ?_ ?_)<;>intro q_<;>try simp only[nz] at q_)
     refine .inr ⟨.stage [0,1,2,3,4,5,6] (.alt 7 [0] (.stage [] (.alt 8 [] (.stage [] (.alt 9 [] (.done []) .nil)) .nil)) .nil),by decide +kernel,?_⟩
     refine xs1 ?_
     repeat' (first|refine gx ?_|refine xp1 ?_|refine xp0 ?_|refine xc1 ?_ ?_|refine xc0 ?_|refine xs1 ?_|refine xs2 ?_|refine xs3 ?_|refine xs4 ?_ ?_|refine xa1 ?_|exact rfl)
     cases hop2:zco (za5 n) (blP (adv (adv (blP q) k45) k45b)) with
     | bad e b r =>
      refine ⟨((blP (adv (adv (blP q) k45) k45b),d,.bad e b r):PX × Int × OutP),obE (zan (blP (adv (adv (blP q) k45) k45b))),zaa _,⟨hd,by show (zco (za5 n) _).p zbu=_;rw[hop2];rfl⟩,?_⟩
      exact panL (q:=r) rfl (hrun.symm.trans (by rw[hop2])) (zaj rfl rfl) rfl rfl
     | ok L r =>
      have w:=zcn (zbs n) hop2
      have wb:=w.bound
      have wk:=w.k
      have m1:=((Moved.adv (blP q) k45).trans ((Moved.adv _ k45b).trans (Moved.bl _))).k
      have hf2:r.1.s.size<f+r.1.k:=by rw[w.s];show q.1.s.size<f+r.1.k;omega
      have p4:ctMinP.pre (zbg S (canon I) 1,L):=⟨zej (show (zbg S (canon I) 1).length≤4000000 by omega),by show (zbg S (canon I) 1).length≤400000;omega,zej (show L.length≤4000000 by omega),by show L.length≤400000;omega⟩
      refine ⟨((blP (adv (adv (blP q) k45) k45b),d,.ok (zbu L) r):PX × Int × OutP),obE (zan (blP (adv (adv (blP q) k45) k45b))),zaa _,⟨hd,by show (zco (za5 n) _).p zbu=_;rw[hop2];rfl⟩,?_⟩
      rw[hop2] at hrun
      repeat' (first|refine gx ?_|refine xp1 ?_|refine xp0 ?_|refine xc1 ?_ ?_|refine xc0 ?_|refine xs1 ?_|refine xs2 ?_|refine xs3 ?_|refine xs4 ?_ ?_|refine xa1 ?_|exact rfl)
      exact ⟨(f,r,zbg (zbg S (canon I) 1) L 3,[]),⟨GrpAt.op (((hat.bl.adv k45).adv k45b).bl) w 3,hf2,hrun⟩,(by show f<f+1;omega),StLe.trans (StLe.nilRow (t:=7) 82 2 (fun _ _=>.junk) rfl) (StLe.trans (zaq [0,1,2,4] (tm':=tmG d false) (ow':=owG r (zbg (zbg S (canon I) 1) L 3) (zb3 82 2 rgD [])) tmS ⟨oren (zan r),⟨rfl,zaa _,rfl⟩,⟨rfl,zaa _,rfl⟩,zcr,trivial⟩ (by decide) m1j (by simp)) (toG d false r (zbg (zbg S (canon I) 1) L 3) []))⟩
    ·rw[dif_neg h45b] at hrun
     repeat' (first|refine gw ?_|(first|refine br ?_ ?_|refine brF ?_ ?_)<;>intro q_<;>try simp only[nz] at q_)
     refine ⟨((adv (blP q) k45,3,((adv (blP q) k45).1.k:Int)):PX × Int × Int),obE (zan (adv (blP q) k45)),zaa _,trivial,?_⟩
     exact panL (q:=adv (blP q) k45) rfl hrun.symm (zaj rfl rfl) rfl rfl
   rw[dif_neg h45] at hrun
   have h38:pkV (blP q).1=38:=by have:=of_decide_eq_true hop;omega
   obtain ⟨k38,_⟩:=zbw h38 (by decide)
   rw[dif_pos h38] at hrun
   repeat' (first|refine gw ?_|(first|refine br ?_ ?_|refine brF ?_ ?_)<;>intro q_<;>try simp only[nz] at q_)
   refine ⟨(adv (blP q) k38:PX),obE (zan (adv (blP q) k38)),zaa _,trivial,?_⟩
   simp only[zai,zbm,zb3,zc5,nr,ns,Nat.reduceAdd,Nat.zero_add,reduceIte]
   repeat' (first|refine gx ?_|(first|refine br ?_ ?_|refine brF ?_ ?_)<;>intro q_<;>try simp only[nz] at q_)
   refine .inr ⟨.stage [0,1,2,3,4,5,6] (.alt 7 [0] (.stage [] (.alt 8 [] (.stage [] (.alt 9 [] (.done []) .nil)) .nil)) .nil),by decide +kernel,?_⟩
   refine xs1 ?_
   repeat' (first|refine gx ?_|refine xp1 ?_|refine xp0 ?_|refine xc1 ?_ ?_|refine xc0 ?_|refine xs1 ?_|refine xs2 ?_|refine xs3 ?_|refine xs4 ?_ ?_|refine xa1 ?_|exact rfl)
   cases hop2:zco (za5 n) (blP (adv (blP q) k38)) with
   | bad e b r =>
    refine ⟨((blP (adv (blP q) k38),d,.bad e b r):PX × Int × OutP),obE (zan (blP (adv (blP q) k38))),zaa _,⟨hd,by show (zco (za5 n) _).p zbu=_;rw[hop2];rfl⟩,?_⟩
    exact panL (q:=r) rfl (hrun.symm.trans (by rw[hop2])) (zaj rfl rfl) rfl rfl
   | ok L r =>
    have w:=zcn (zbs n) hop2
    have wb:=w.bound
    have wk:=w.k
    have m1:=((Moved.adv (blP q) k38).trans (Moved.bl _)).k
    have hf2:r.1.s.size<f+r.1.k:=by rw[w.s];show q.1.s.size<f+r.1.k;omega
    have p4:ctAndP.pre (zbg S (canon I) 1,L):=⟨zej (show (zbg S (canon I) 1).length≤4000000 by omega),by show (zbg S (canon I) 1).length≤400000;omega,zej (show L.length≤4000000 by omega),by show L.length≤400000;omega⟩
    refine ⟨((blP (adv (blP q) k38),d,.ok (zbu L) r):PX × Int × OutP),obE (zan (blP (adv (blP q) k38))),zaa _,⟨hd,by show (zco (za5 n) _).p zbu=_;rw[hop2];rfl⟩,?_⟩
    rw[hop2] at hrun
    repeat' (first|refine gx ?_|refine xp1 ?_|refine xp0 ?_|refine xc1 ?_ ?_|refine xc0 ?_|refine xs1 ?_|refine xs2 ?_|refine xs3 ?_|refine xs4 ?_ ?_|refine xa1 ?_|exact rfl)
    exact ⟨(f,r,zbg (zbg S (canon I) 1) L 2,[]),⟨GrpAt.op ((hat.bl.adv k38).bl) w 2,hf2,hrun⟩,(by show f<f+1;omega),StLe.trans (StLe.nilRow (t:=7) 82 2 (fun _ _=>.junk) rfl) (StLe.trans (zaq [0,1,2,4] (tm':=tmG d false) (ow':=owG r (zbg (zbg S (canon I) 1) L 2) (zb3 82 2 rgD [])) tmS ⟨oren (zan r),⟨rfl,zaa _,rfl⟩,⟨rfl,zaa _,rfl⟩,zcr,trivial⟩ (by decide) m1j (by simp)) (toG d false r (zbg (zbg S (canon I) 1) L 2) []))⟩
  ·have eS:sG d false q S I=⟨tmG d false,owG q S (zb3 82 2 rgD I),[]⟩:=by unfold sG;rw[hop];rfl
   dsimp only
   rw[eS]
   unfold tmG owG
   have hop:=of_decide_eq_false hop
   have h93:¬pkV (blP q).1=93:=fun h=>hop (.inl h)
   have h45:¬pkV (blP q).1=45:=fun h=>hop (.inr (.inl h))
   have h38:¬pkV (blP q).1=38:=fun h=>hop (.inr (.inr h))
   repeat' (first|refine gw ?_|(first|refine br ?_ ?_|refine brF ?_ ?_)<;>intro q_<;>try simp only[nz] at q_)
   refine ⟨(q:PX),obE (zan q),zaa _,trivial,?_⟩
   repeat' (first|refine gw ?_|(first|refine br ?_ ?_|refine brF ?_ ?_)<;>intro q_<;>try simp only[nz] at q_)
   refine ⟨(blP q:PX),obE (zan (blP q)),zaa _,trivial,?_⟩
   rw[grpL,dif_neg h93,dif_neg h45,dif_neg h38] at hrun
   by_cases h91:pkV (blP q).1=91
   ·rw[if_pos h91] at hrun
    repeat' (first|refine gw ?_|(first|refine br ?_ ?_|refine brF ?_ ?_)<;>intro q_<;>try simp only[nz] at q_)
    cases hg:za5 n (blP q) with
    | bad e b r =>
     refine ⟨((blP q,d+1,.bad e b r):PX × Int × OutP),obE (zan (blP q)),zaa _,⟨⟨h91,by show d+1=17 - (n:Int);omega⟩,by show (za5 n _).p zbu=_;rw[hg];rfl⟩,?_⟩
     exact panL (q:=r) rfl (hrun.symm.trans (by rw[hg])) (zaj rfl rfl) rfl rfl
    | ok L r =>
     have w:=zbs n _ _ _ h91 hg
     have wb:=w.bound
     have wk:=w.k
     have hf2:r.1.s.size<f+r.1.k:=by rw[w.s];show q.1.s.size<f+r.1.k;omega
     refine ⟨((blP q,d+1,.ok (zbu L) r):PX × Int × OutP),obE (zan (blP q)),zaa _,⟨⟨h91,by show d+1=17 - (n:Int);omega⟩,by show (za5 n _).p zbu=_;rw[hg];rfl⟩,?_⟩
     rw[hg] at hrun
     repeat' (first|refine gw ?_|(first|refine br ?_ ?_|refine brF ?_ ?_)<;>intro q_<;>try simp only[nz] at q_)
     exact ⟨(f,r,S,I++L),⟨hat.bl.add w,hf2,hrun⟩,(by show f<f+1;omega),StLe.trans (zaq [0,1,2,4] (tm':=tmG d false) (ow':=owG r S (zb3 82 2 rgD (I++L))) tmS ⟨oren (zan r),⟨rfl,zaa _,rfl⟩,⟨rfl,zaa _,rfl⟩,own_catL,trivial⟩ (by decide) m1j (by simp)) (toG d false r S (I++L))⟩
   rw[if_neg h91] at hrun
   repeat' (first|refine gw ?_|(first|refine br ?_ ?_|refine brF ?_ ?_)<;>intro q_<;>try simp only[nz] at q_)
   cases hg:zdg (blP q) with
   | bad e b r =>
    refine ⟨((blP q,(),.bad e b r):PX × Unit × OutP),obE (zan (blP q)),zaa _,⟨trivial,by show (zdg _).p zdu=_;rw[hg];rfl⟩,?_⟩
    exact panL (q:=r) rfl (hrun.symm.trans (by rw[hg])) (zaj rfl rfl) rfl rfl
   | ok L r =>
    have w:=zgn hg
    have wb:=w.bound
    have wk:=w.k
    have hf2:r.1.s.size<f+r.1.k:=by rw[w.s];show q.1.s.size<f+r.1.k;omega
    refine ⟨((blP q,(),.ok (zdu L) r):PX × Unit × OutP),obE (zan (blP q)),zaa _,⟨trivial,by show (zdg _).p zdu=_;rw[hg];rfl⟩,?_⟩
    rw[hg] at hrun
    repeat' (first|refine gw ?_|(first|refine br ?_ ?_|refine brF ?_ ?_)<;>intro q_<;>try simp only[nz] at q_)
    exact ⟨(f,r,S,I++L),⟨hat.bl.add w,hf2,hrun⟩,(by show f<f+1;omega),StLe.trans (zaq [0,1,2,4] (tm':=tmG d false) (ow':=owG r S (zb3 82 2 rgD (I++L))) tmS ⟨oren (zan r),⟨rfl,zaa _,rfl⟩,⟨rfl,zaa _,rfl⟩,own_catL,trivial⟩ (by decide) m1j (by simp)) (toG d false r S (I++L))⟩
end Go.Proofs
