import Derived.Test.YtnimkdbpoeondaaGreatDoorX1
import Derived.Test.YtnimkdbpoeondaaGreatDoorXs
set_option linter.all false
set_option maxHeartbeats 4000000
namespace Go.Proofs
open Go Go.Sx
variable {l:List ByteArray}
variable {mx:Int}{pb:Bool}
def ctSetFl:Ct:={ ι:=Unit,inp:=fun _=>[],out:=fun _=>slD 1 vg setFl,pre:=fun _=>True }
theorem setFl_ok:SS mx pb 204 ctSetFl:=by
 refine sb (cc:=true) zH Tryz.func204 ?_;intro _ _;refine gl ?_;exact EntR.of rfl (ue rfl rfl)
def ctPrFl:Ct:={ ι:=Unit,inp:=fun _=>[],out:=fun _=>slD 1 vg prFl,pre:=fun _=>True }
theorem prFl_ok:SS mx pb 207 ctPrFl:=by
 refine sb (cc:=true) zH Tryz.func207 ?_;intro _ _;refine gl ?_;exact EntR.of rfl (ue rfl rfl)
noncomputable def ocFnd:Oc:=ocM (List ByteArray × ByteArray × Int) (fun x=>[slD 1 vg x.1,.v (.string x.2.1),.v (.int .i64 x.2.2)]) (fun _ x=>x.1.length<=100) ux
theorem fst_stop {s:ByteArray}{k:Nat}(hk:k<l.length) (hn:∀ j,j<k->¬l.getD j default=s) (h:l.getD k default=s):ut l s=k:=by
 unfold ut;rw[List.findIdx_eq hk];refine ⟨yC.2 ?_,fun j hj=>?_⟩
 ·rw[<- h];simp[List.getD_eq_getElem?_getD,hk]
 ·have hjl:j<l.length:=Nat.lt_trans hj hk;have:=hn j hj;rw[show l.getD j default=l[j] by simp[List.getD_eq_getElem?_getD,hjl]] at this;rw[<- Bool.not_eq_true,yC];exact this
theorem fst_none {s:ByteArray}(hn:∀ j,j<l.length->¬l.getD j default=s):¬ut l s<l.length:=by
 intro h;unfold ut at h;have h1:=List.findIdx_getElem (w:=h)
 rw[yC] at h1;refine hn _ h (Eq.trans ?_ h1)
 simp[List.getD_eq_getElem?_getD,h]
noncomputable def Γxf:Ctx:=fun f=>match f with
 | 222=>some (.pure ctDbE)
 | 130=>some (.obj zal)
 | _=>none
theorem Γxf_ok:CK mx pb Γxf:=by
 intro f h hh;simp only[Γxf] at hh;split at hh<;>simp at hh<;>subst hh
 ·exact pDbE_ok
 ·exact xF
theorem xFnd_ok:SQ mx pb 203 ocFnd:=by
 refine so (cc:=true) Γxf_ok Tryz.func203 (fun x=>zm x.1) (fun _=>rfl) (fun x=>zm x.2.2.st) ?_;rintro ⟨⟨⟨db,ch,us,s,k⟩,hp⟩,⟨fl,nm,st⟩,o⟩ ⟨hl,ho⟩
 replace hl:fl.length<=100:=hl;replace ho:ux ⟨⟨db,ch,us,s,k⟩,hp⟩ (fl,nm,st)=o:=ho;subst ho;obtain ⟨⟨hsm,hus⟩,h2,h3⟩:=id hp;have hsm:ctDbE.pre db:=hsm;have hus:ch=true->us=usB db:=hus;have hbad:¬(usB db=true/\ut fl nm<fl.length)->ux ⟨⟨db,ch,us,s,k⟩,hp⟩ (fl,nm,st)=.bad 6 st (ckd ⟨⟨db,ch,us,s,k⟩,hp⟩):=fun h=>if_neg h;have hgo:usB db=true/\ut fl nm<fl.length->ux ⟨⟨db,ch,us,s,k⟩,hp⟩ (fl,nm,st)=.ok (.v (.int .i64 (ut fl nm))) (ckd ⟨⟨db,ch,us,s,k⟩,hp⟩):=fun h=>if_pos h
 obtain ⟨u,hu⟩:∃ u,usB db=u:=⟨_,rfl⟩
 have hC:pC ⟨db,true,u,s,k⟩=pC (ckd ⟨⟨db,ch,us,s,k⟩,hp⟩).1:=by show _=pC ⟨db,true,usB db,s,k⟩;rw[hu]
 have hC2:pC ⟨db,true,usB db,s,k⟩=pC ⟨db,true,u,s,k⟩:=by rw[hu]
 have hpd:pdL (pC ⟨db,true,u,s,k⟩)=true:=by rw[hC];exact zm (ckd ⟨⟨db,ch,us,s,k⟩,hp⟩)
 have hX:OkP ⟨db,true,u,s,k⟩:=⟨⟨hsm,fun _=>hu.symm⟩,h2,h3⟩
 cases ch with
 | true =>
  obtain rfl:=hus rfl;refine gw ?_;refine ⟨0,Nat,fun i=>⟨[(0,.own 0 0),(2,.v (.string nm)),(3,.v (.int .i64 st)),(28,slD 1 vg fl),(29,.v (.int .i64 fl.length)),(30,.v (.int .i64 i))],[.cells 176 (pC ⟨db,true,u,s,k⟩)],[]⟩,fun i=>i<=fl.length/\(u=true->∀ j,j<i->¬fl.getD j default=nm),fun i=>fl.length - i,fun _=>Nat.le_refl _,⟨0,⟨Nat.zero_le _,fun _ j hj=>by omega⟩,yv hpd hC2 tmS⟩,?_⟩
  rintro i ⟨hi,hn⟩
  replace hi:i<=fl.length:=hi;by_cases hlt:i<fl.length
  ·cases u with
   | true =>
    repeat' first|refine gw ?_|refine bs ?_ ?_<;>intro q_
    ·have e:=fst_stop hlt (hn rfl) q_;exact retM (q:=ckd ⟨⟨db,true,usB db,s,k⟩,hp⟩) (hgo ⟨hu,by rw[e];exact hlt⟩) (zd (by rw[e];rfl) rfl) rfl hC
    ·exact ⟨i+1,⟨by omega,fun _=>zo (hn rfl) q_⟩,(by show fl.length - (i+1)<fl.length - i;omega),yv hpd rfl tmS⟩
   | false =>
    refine gw ?_;exact ⟨i+1,⟨by omega,fun h=>Bool.noConfusion h⟩,(by show fl.length - (i+1)<fl.length - i;omega),yv hpd rfl tmS⟩
  ·refine gw ?_;refine ⟨((⟨⟨db,true,u,s,k⟩,hX⟩,6,st):PX × Int × Int),obE (zm ⟨⟨db,true,u,s,k⟩,hX⟩),eL,trivial,?_⟩
   exact panM (q:=ckd ⟨⟨db,true,usB db,s,k⟩,hp⟩) (hbad fun h=>fst_none (fun j hj=>hn (hu.symm.trans h.1) j (by omega)) h.2) (zd rfl rfl) rfl hC
 | false =>
  refine gw ?_;refine ⟨0,Nat,fun i=>⟨[(0,.own 0 0),(2,.v (.string nm)),(3,.v (.int .i64 st)),(28,slD 1 vg fl),(29,.v (.int .i64 fl.length)),(30,.v (.int .i64 i))],[.cells 176 (pC ⟨db,true,u,s,k⟩)],[]⟩,fun i=>i<=fl.length/\(u=true->∀ j,j<i->¬fl.getD j default=nm),fun i=>fl.length - i,fun _=>Nat.le_refl _,⟨0,⟨Nat.zero_le _,fun _ j hj=>by omega⟩,yv hpd hC2 tmS⟩,?_⟩
  rintro i ⟨hi,hn⟩
  replace hi:i<=fl.length:=hi;by_cases hlt:i<fl.length
  ·cases u with
   | true =>
    repeat' first|refine gw ?_|refine bs ?_ ?_<;>intro q_
    ·have e:=fst_stop hlt (hn rfl) q_;exact retM (q:=ckd ⟨⟨db,false,us,s,k⟩,hp⟩) (hgo ⟨hu,by rw[e];exact hlt⟩) (zd (by rw[e];rfl) rfl) rfl hC
    ·exact ⟨i+1,⟨by omega,fun _=>zo (hn rfl) q_⟩,(by show fl.length - (i+1)<fl.length - i;omega),yv hpd rfl tmS⟩
   | false =>
    refine gw ?_;exact ⟨i+1,⟨by omega,fun h=>Bool.noConfusion h⟩,(by show fl.length - (i+1)<fl.length - i;omega),yv hpd rfl tmS⟩
  ·refine gw ?_;refine ⟨((⟨⟨db,true,u,s,k⟩,hX⟩,6,st):PX × Int × Int),obE (zm ⟨⟨db,true,u,s,k⟩,hX⟩),eL,trivial,?_⟩
   exact panM (q:=ckd ⟨⟨db,false,us,s,k⟩,hp⟩) (hbad fun h=>fst_none (fun j hj=>hn (hu.symm.trans h.1) j (by omega)) h.2) (zd rfl rfl) rfl hC
theorem hp_pre2 (p:PX) (a b:UInt8):hpB (zN p.1.s p.1.k p.1.s.size) ⟨#[a,b]⟩=zeo p.1 a.toNat b.toNat:=by
 obtain ⟨⟨db,ch,us,s,k⟩,hp⟩:=p;have hk:k<=s.data.toList.length:=hp.2.1;have hc:zN s k s.size=⟨⟨s.data.toList.drop k⟩⟩:=by
  show (⟨⟨(s.data.toList.take s.data.toList.length).drop k⟩⟩:ByteArray)=_;rw[List.take_length]
 show hpB (zN s k s.size) ⟨#[a,b]⟩=zeo ⟨db,ch,us,s,k⟩ a.toNat b.toNat;rw[hc];unfold hpB zeo;have hsz:(⟨⟨s.data.toList.drop k⟩⟩:ByteArray).size=s.size - k:=by show (s.data.toList.drop k).length=_;rw[List.length_drop];rfl
 have h2:(⟨#[a,b]⟩:ByteArray).size=2:=rfl;rw[hsz,h2];by_cases h:k+1<s.size
 ·have h1:k+1<s.data.toList.length:=h;have hd:s.data.toList.drop k=s.data.toList[k]::s.data.toList[k+1]::s.data.toList.drop (k+2):=by
   rw[List.drop_eq_getElem_cons (by omega),List.drop_eq_getElem_cons h1]
  have hcc:zN ⟨⟨s.data.toList.drop k⟩⟩ 0 2=⟨#[s.data.toList[k],s.data.toList[k+1]]⟩:=by
   rw[hd];rfl
  rw[hcc,decide_eq_true (show 2<=s.size - k by omega),Bool.true_and];have e0:bAt s k=(s.data.toList[k]).toNat:=by unfold bAt;rw[List.getElem?_eq_getElem (by omega)];rfl
  have e1:bAt s (k+1)=(s.data.toList[k+1]).toNat:=by unfold bAt;rw[List.getElem?_eq_getElem h1];rfl
  have key:eqB ⟨#[s.data.toList[k],s.data.toList[k+1]]⟩ ⟨#[a,b]⟩=true↔(s.data.toList[k]=a/\s.data.toList[k+1]=b):=by
   rw[yC];constructor
   ·intro hh;have:(#[s.data.toList[k],s.data.toList[k+1]]:Array UInt8) = #[a,b]:=congrArg ByteArray.data hh;simpa using this
   ·rintro ⟨h1,h2⟩;rw[h1,h2]
  have u8:∀ x y:UInt8,((x.toNat:Int)=y.toNat)↔x=y:=fun x y=>⟨fun hh=>UInt8.toNat_inj.1 (by omega),fun hh=>by rw[hh]⟩
  rw[Bool.eq_iff_iff,key,decide_eq_true_iff,e0,e1,u8,u8];exact ⟨fun hh=>⟨h,hh⟩,fun hh=>hh.2⟩
 ·rw[decide_eq_false (show ¬2<=s.size - k by omega),Bool.false_and,decide_eq_false (fun hh=>h hh.1)]
def ocL (A:Type) (inpD:A->List D) (pre:PX->A->Prop) (f:List Rg->D) (run:PX->A->OutL):Oc:=ocM A inpD pre fun p a=>(run p a).p f
noncomputable def ocCls:Oc:=ocL Unit (fun _=>[]) (fun p _=>pkV p.1=92) zR fun p _=>zV p
theorem zdb {A:Type}{inpD:A->List D}{pre:PX->A->Prop}{f:List Rg->D}{run:PX->A->OutL}{x:PX × A × OutP}{p:PX}{a:A}{d:D}{e n:Int}{q:PX}{ow:List Own}{l:List D}(hx:x=(p,a,(run p a).p f)) (hr:run p a=.bad e n q) (h:EntR d (stopD e n)) (ho:ow[0]?=some (Own.cells 176 l)) (hl:l=pC q.1):panO (ocL A inpD pre f run) x ⟨[(0,d)],ow,[]⟩:=by
 subst hx;exact panM (run:=fun p a=>(run p a).p f) (p:=p) (a:=a) (q:=q) (by show (run p a).p f=_;rw[hr];rfl) h ho hl
theorem retL {A:Type}{inpD:A->List D}{pre:PX->A->Prop}{f:List Rg->D}{run:PX->A->OutL}{x:PX × A × OutP}{p:PX}{a:A}{d:D}{L:List Rg}{q:PX}{ow:List Own}{l:List D}(hx:x=(p,a,(run p a).p f)) (hr:run p a=.ok L q) (h:EntR d (f L)) (ho:ow[0]?=some (Own.cells 176 l)) (hl:l=pC q.1):retO (ocL A inpD pre f run) x d ow:=by
 subst hx;exact retM (run:=fun p a=>(run p a).p f) (p:=p) (a:=a) (q:=q) (by show (run p a).p f=_;rw[hr];rfl) h ho hl
attribute [local irreducible] zbs zbi yf xD
noncomputable def Γxk (mx:Int) (pb:Bool):Ctx:=fun f=>match f with
 | 129=>some (.obj zbx)
 | 130=>some (.obj zal)
 | 201=>some (.obj zi0)
 | 202=>some (.obj ocWrd)
 | 203=>some (.obj ocFnd)
 | 204=>some (.pure ctSetFl)
 | 207=>some (.pure ctPrFl)
 | 205=>some (.pure ctDbSt)
 | 206=>some (.pure ctDbPr)
 | 208=>some (.pure ctFnd)
 | 209=>some (.pure ctSetV)
 | 53=>some (.pure ctMake)
 | _=>none
theorem Γxk_ok:CK mx pb (Γxk mx pb):=by
 intro f h hh;simp only[Γxk] at hh;split at hh<;>simp at hh<;>subst hh
 ·exact uz
 ·exact xF
 ·exact zg8
 ·exact xWrd_ok
 ·exact xFnd_ok
 ·exact setFl_ok
 ·exact prFl_ok
 ·exact pDbSt_ok
 ·exact pDbPr_ok
 ·exact pFind_ok
 ·exact pSetV_ok
 ·exact yX
theorem xCls_ok:SQ mx pb 190 ocCls:=by
 refine so (cc:=true) Γxk_ok Tryz.func190 (fun x=>zm x.1) (fun _=>rfl) (fun x=>zm x.2.2.st) ?_;rintro ⟨⟨p,hp⟩,a,o⟩ ⟨h92,ho⟩
 replace h92:pkV p=92:=h92;replace ho:(zV ⟨p,hp⟩).p zR=o:=ho;subst ho;obtain ⟨hk,_⟩:=zI h92 (by decide)
 obtain ⟨hdb,h2,h3⟩:=id hp;refine gw ?_;have hk':(⟨p,hp⟩:PX).1.k<(⟨p,hp⟩:PX).1.s.size:=hk;cases h1:yc (adv ⟨p,hp⟩ hk) 112 with
 | bad e b q =>
  refine ⟨((adv ⟨p,hp⟩ hk,112,.bad e b q):PX × Int × OutP),obE (zm (adv ⟨p,hp⟩ hk)),eL,⟨(by show (0:Int)<=112;decide),h1⟩,?_⟩
  have hr:zV ⟨p,hp⟩=.bad e b q:=by unfold zV;rw[dif_pos hk',h1]
  refine zdb (q:=q) rfl hr (zd rfl rfl) rfl rfl
 | ok d1 q1 =>
 refine ⟨((adv ⟨p,hp⟩ hk,112,.ok d1 q1):PX × Int × OutP),obE (zm (adv ⟨p,hp⟩ hk)),eL,⟨(by show (0:Int)<=112;decide),h1⟩,?_⟩
 refine gw ?_;cases h2:yc q1 123 with
 | bad e b q =>
  refine ⟨((q1,123,.bad e b q):PX × Int × OutP),obE (zm q1),eL,⟨(by show (0:Int)<=123;decide),h2⟩,?_⟩
  have hr:zV ⟨p,hp⟩=.bad e b q:=by unfold zV;rw[dif_pos hk',h1];dsimp only;rw[h2]
  refine zdb (q:=q) rfl hr (zd rfl rfl) rfl rfl
 | ok d2 q2 =>
 refine ⟨((q1,123,.ok d2 q2):PX × Int × OutP),obE (zm q1),eL,⟨(by show (0:Int)<=123;decide),h2⟩,?_⟩
 have hN:zV ⟨p,hp⟩=clsN q2:=by unfold zV;rw[dif_pos hk',h1];dsimp only;rw[h2]
 clear h1 h2 h92 hdb;refine gw ?_;cases hw:xp q2 () with
 | bad e b q =>
  refine ⟨((q2,(),.bad e b q):PX × Unit × OutP),obE (zm q2),eL,⟨trivial,hw⟩,?_⟩
  have hr:zV ⟨p,hp⟩=.bad e b q:=hN.trans (by unfold clsN;rw[hw])
  refine zdb (q:=q) rfl hr (zd rfl rfl) rfl rfl
 | ok d q3 =>
 obtain ⟨hne,hq3,rfl⟩:=zar hw;refine ⟨((q2,(),.ok _ q3):PX × Unit × OutP),obE (zm q2),eL,⟨trivial,hw⟩,?_⟩
 have b1:q3.1.k<=q3.1.s.size:=q3.2.2.1;have b2:q3.1.s.size<=65536:=q3.2.2.2;refine gw ?_;refine ⟨(q3:PX),obE (zm q3),eL,trivial,?_⟩
 by_cases h61:pkV q3.1=61
 ·obtain ⟨k61,_⟩:=zI h61 (by decide)
  have hV:zV ⟨p,hp⟩=clsV (zN q2.1.s q2.1.k (wdE q2.1.s q2.1.k)) q2.1.k (adv q3 k61):=hN.trans (by
   unfold clsN;rw[hw];dsimp only;rw[dif_pos h61];rfl)
  clear hN;refine gx ?_;refine .inr ⟨.stage [0,1,2,3,4,5,6,7] (.alt 8 [0,1,2,3] (.stage [9] (.alt 10 [0,1,2,3,9] (.stage [] (.alt 11 [] (.done []) .nil)) .nil)) (.alt 10 [0,1,2,3,4,5,6,7] (.stage [] (.alt 8 [0,1,2,3] (.stage [9] (.alt 11 [] (.done []) .nil)) .nil)) .nil)),by decide +kernel,?_⟩
  refine xs1 ?_
  repeat' first|refine gx ?_|refine gy ?_|refine xc1 ?_ ?_|refine xs4 ?_ ?_|exact rfl
  refine ⟨(),eL,fun _=>trivial,?_⟩
  repeat' first|refine gx ?_|refine gy ?_|refine xc1 ?_ ?_|refine xs4 ?_ ?_|exact rfl
  all_goals try (refine ⟨(),eL,fun _=>trivial,?_⟩)
  all_goals repeat' first|refine gx ?_|refine gy ?_|refine xc1 ?_ ?_|refine xs4 ?_ ?_|exact rfl
  all_goals
   cases h6:ux (adv q3 k61) (prFl,zN q2.1.s q2.1.k (wdE q2.1.s q2.1.k),q2.1.k) with
   | bad e b q =>
    refine ⟨((adv q3 k61,(prFl,zN q2.1.s q2.1.k (wdE q2.1.s q2.1.k),(q2.1.k:Int)),.bad e b q):PX × (List ByteArray × ByteArray × Int) × OutP),obE (zm (adv q3 k61)),eL,⟨(by show prFl.length<=100;decide),h6⟩,?_⟩
    have hr:zV ⟨p,hp⟩=.bad e b q:=hV.trans (by unfold clsV;rw[h6])
    exact zdb (q:=q) rfl hr (zd rfl rfl) rfl rfl
   | ok d6 q5 =>
   obtain ⟨rfl,rfl,hi⟩:=uS h6;have hi:ut prFl (zN q2.1.s q2.1.k (wdE q2.1.s q2.1.k))<7:=hi;refine ⟨((adv q3 k61,(prFl,zN q2.1.s q2.1.k (wdE q2.1.s q2.1.k),(q2.1.k:Int)),.ok _ (ckd (adv q3 k61))):PX × (List ByteArray × ByteArray × Int) × OutP),obE (zm (adv q3 k61)),eL,⟨(by show prFl.length<=100;decide),h6⟩,?_⟩
   have hU:clsV (zN q2.1.s q2.1.k (wdE q2.1.s q2.1.k)) q2.1.k (adv q3 k61)=(match xp (ckd (adv q3 k61)) () with
    | .bad e a q=>.bad e a q
    | .ok d2 q6 =>
     match yc q6 125 with
     | .bad e a q=>.bad e a q
     | .ok _ q7 =>
      if zn7 (ym (q3.1.db.prs (ut prFl (zN q2.1.s q2.1.k (wdE q2.1.s q2.1.k))))).names (dW d2)=true then .ok (setV (q3.1.db.prs (ut prFl (zN q2.1.s q2.1.k (wdE q2.1.s q2.1.k)))) (fndV (ym (q3.1.db.prs (ut prFl (zN q2.1.s q2.1.k (wdE q2.1.s q2.1.k))))).names (dW d2))) q7
      else .bad 6 (dN d2) q7):=by unfold clsV;rw[h6];rfl
   rw[hU] at hV;clear hU h6;generalize ut prFl (zN q2.1.s q2.1.k (wdE q2.1.s q2.1.k))=i at hi hV ⊢;have hl:=q3.2.1.1.prs i hi;have p1:ctDbPr.pre (q3.1.db,i):=⟨hi,by show (q3.1.db.prs i).names.length<=1000000;omega,by show (q3.1.db.prs i).spans.length<=1000000;omega⟩
   have p2:ctFnd.pre (q3.1.db.prs i,⟨#[]⟩):=by show (q3.1.db.prs i).spans.length<=1000000000;omega
   have p3:ctSetV.pre (q3.1.db.prs i,0):=by show (q3.1.db.prs i).spans.length<=1000;omega
   repeat' first|refine gx ?_|refine gy ?_|refine xc1 ?_ ?_|refine xs4 ?_ ?_|exact rfl
   simp only[nq,zG,zW,nr,ns,Nat.reduceAdd,reduceIte];cases hw2:xp (ckd (adv q3 k61)) () with
   | bad e b q =>
    refine ⟨((ckd (adv q3 k61),(),.bad e b q):PX × Unit × OutP),obE (zm (ckd (adv q3 k61))),eL,⟨trivial,hw2⟩,?_⟩
    have hr:zV ⟨p,hp⟩=.bad e b q:=hV.trans (by rw[hw2])
    exact zdb (q:=q) rfl hr (zd rfl rfl) rfl rfl
   | ok d7 q6 =>
   obtain ⟨_,_,rfl⟩:=zar hw2;refine ⟨((ckd (adv q3 k61),(),.ok _ q6):PX × Unit × OutP),obE (zm (ckd (adv q3 k61))),eL,⟨trivial,hw2⟩,?_⟩
   rw[hw2] at hV;dsimp only[dW,dN] at hV;generalize zN (ckd (adv q3 k61)).1.s (ckd (adv q3 k61)).1.k (wdE (ckd (adv q3 k61)).1.s (ckd (adv q3 k61)).1.k)=w2 at hV ⊢;generalize (ckd (adv q3 k61)).1.k=k2 at hV ⊢;refine gw ?_;simp only[nq,zG,zW,nr,ns,Nat.reduceAdd,reduceIte];cases h8:yc q6 125 with
   | bad e b q =>
    refine ⟨((q6,125,.bad e b q):PX × Int × OutP),obE (zm q6),eL,⟨(by show (0:Int)<=125;decide),h8⟩,?_⟩
    have hr:zV ⟨p,hp⟩=.bad e b q:=hV.trans (by rw[h8])
    exact zdb (q:=q) rfl hr (zd rfl rfl) rfl rfl
   | ok d8 q7 =>
   refine ⟨((q6,125,.ok d8 q7):PX × Int × OutP),obE (zm q6),eL,⟨(by show (0:Int)<=125;decide),h8⟩,?_⟩
   rw[h8] at hV;dsimp only at hV;have p4:ctFnd.pre (q3.1.db.prs i,w2):=p2;clear p2;cases hfb:zn7 (ym (q3.1.db.prs i)).names w2 with
   | true =>
    replace hV:=hV.trans (if_pos hfb)
    have p5:ctSetV.pre (q3.1.db.prs i,fndV (ym (q3.1.db.prs i)).names w2):=p3;clear p3;refine gw ?_;exact retL (q:=q7) rfl hV (zd rfl rfl) rfl rfl
   | false =>
    replace hV:=hV.trans (if_neg (by rw[hfb];decide))
    refine gw ?_;refine ⟨((q7,6,(k2:Int)):PX × Int × Int),obE (zm q7),eL,trivial,?_⟩
    exact zdb (q:=q7) rfl hV (zd rfl rfl) rfl rfl
 ·have hS:zV ⟨p,hp⟩=clsS (zN q2.1.s q2.1.k (wdE q2.1.s q2.1.k)) q2.1.k q3:=hN.trans (by
   unfold clsN;rw[hw];dsimp only;rw[dif_neg h61];rfl)
  clear hN;refine gw ?_;cases h5:yc q3 125 with
  | bad e b q =>
   refine ⟨((q3,125,.bad e b q):PX × Int × OutP),obE (zm q3),eL,⟨(by show (0:Int)<=125;decide),h5⟩,?_⟩
   have hr:zV ⟨p,hp⟩=.bad e b q:=hS.trans (by unfold clsS;rw[h5])
   exact zdb (q:=q) rfl hr (zd rfl rfl) rfl rfl
  | ok d5 q4 =>
  refine ⟨((q3,125,.ok d5 q4):PX × Int × OutP),obE (zm q3),eL,⟨(by show (0:Int)<=125;decide),h5⟩,?_⟩
  refine gl ?_;cases h6:ux q4 (setFl,zN q2.1.s q2.1.k (wdE q2.1.s q2.1.k),q2.1.k) with
  | bad e b q =>
   refine ⟨((q4,(setFl,zN q2.1.s q2.1.k (wdE q2.1.s q2.1.k),(q2.1.k:Int)),.bad e b q):PX × (List ByteArray × ByteArray × Int) × OutP),obE (zm q4),eL,⟨(by show setFl.length<=100;decide),h6⟩,?_⟩
   have hr:zV ⟨p,hp⟩=.bad e b q:=hS.trans (by unfold clsS;rw[h5];dsimp only;rw[h6])
   exact zdb (q:=q) rfl hr (zd rfl rfl) rfl rfl
  | ok d6 q5 =>
  obtain ⟨rfl,hq5,hi⟩:=uS h6;have hi:ut setFl (zN q2.1.s q2.1.k (wdE q2.1.s q2.1.k))<6:=hi;refine ⟨((q4,(setFl,zN q2.1.s q2.1.k (wdE q2.1.s q2.1.k),(q2.1.k:Int)),.ok _ q5):PX × (List ByteArray × ByteArray × Int) × OutP),obE (zm q4),eL,⟨(by show setFl.length<=100;decide),h6⟩,?_⟩
  have hr:zV ⟨p,hp⟩=.ok (canon (q5.1.db.sts (ut setFl (zN q2.1.s q2.1.k (wdE q2.1.s q2.1.k))))) q5:=hS.trans (by unfold clsS;rw[h5];dsimp only;rw[h6];rfl)
  clear hS;generalize ut setFl (zN q2.1.s q2.1.k (wdE q2.1.s q2.1.k))=i at hi hr ⊢;have hl:=q5.2.1.1.sts i hi;have p1:ctDbSt.pre (q5.1.db,i):=⟨hi,by show (q5.1.db.sts i).length<=1000000;omega⟩
  have p2:ctMake.pre (q5.1.db.sts i):=⟨by omega,.inl hl⟩
  refine gw ?_;exact retL (q:=q5) rfl hr (zd rfl rfl) rfl rfl
end Go.Proofs
namespace Go.Proofs
open Go Go.Sx
variable {mx:Int}{pb:Bool}
attribute [local irreducible] zbs zbi yf xD
noncomputable def ocItm:Oc:=ocL Unit (fun _=>[]) (fun _ _=>True) xE fun p _=>xh p
noncomputable def Γxi (mx:Int) (pb:Bool):Ctx:=fun f=>match f with
 | 129=>some (.obj zbx)
 | 130=>some (.obj zal)
 | 128=>some (.obj zcu)
 | 191=>some (.obj ocChr)
 | 190=>some (.obj ocCls)
 | 72=>some (.pure ctHP)
 | _=>none
theorem Γxi_ok:CK mx pb (Γxi mx pb):=by
 intro f h hh;simp only[Γxi] at hh;split at hh<;>simp at hh<;>subst hh
 ·exact uz
 ·exact xF
 ·exact za9
 ·exact xChr_ok
 ·exact xCls_ok
 ·exact stHP_ok
theorem obB (p:PX):pC (p.1.at (blk p.1.s p.1.k))=pC (blP p).1:=rfl
theorem xItm_ok:SQ mx pb 160 ocItm:=by
 refine so (cc:=true) Γxi_ok Tryz.func160 (fun x=>zm x.1) (fun _=>rfl) (fun x=>zm x.2.2.st) ?_;rintro ⟨⟨p,hp⟩,a,o⟩ ⟨_,ho⟩
 replace ho:(xh ⟨p,hp⟩).p xE=o:=ho;subst ho;obtain ⟨hdb,h2,h3⟩:=id hp;have e1:=hp_pre2 ⟨p,hp⟩ 92 112;replace e1:hpB (zN p.s p.k p.s.size) ⟨#[92,112]⟩=zeo p 92 112:=e1;refine gw ?_;refine ⟨((zN p.s p.k p.s.size,⟨#[92,112]⟩):ByteArray × ByteArray),eL,fun _=>trivial,?_⟩
 rw[show ctHP.out (zN p.s p.k p.s.size,⟨#[92,112]⟩)=.v (.bool (zeo p 92 112)) from congrArg (fun b=>D.v (.bool b)) e1];cases hb:zeo p 92 112 with
 | true =>
  have g:=zca hb;have h92:pkV p=92:=(yE (by omega)).trans g.2.1;have hr:xh ⟨p,hp⟩=zV ⟨p,hp⟩:=if_pos hb;refine gw ?_;cases hg:zV ⟨p,hp⟩ with
  | bad e b q =>
   refine ⟨((⟨p,hp⟩,(),.bad e b q):PX × Unit × OutP),obE (zm ⟨p,hp⟩),eL,⟨h92,by show (zV ⟨p,hp⟩).p zR=_;rw[hg];rfl⟩,?_⟩
   exact zdb (q:=q) rfl (hr.trans hg) (zd rfl rfl) rfl rfl
  | ok L q =>
   refine ⟨((⟨p,hp⟩,(),.ok (zR L) q):PX × Unit × OutP),obE (zm ⟨p,hp⟩),eL,⟨h92,by show (zV ⟨p,hp⟩).p zR=_;rw[hg];rfl⟩,?_⟩
   refine gw ?_;exact retL (q:=q) rfl (hr.trans hg) (zd rfl rfl) rfl rfl
 | false =>
  refine gw ?_;cases hc:yD ⟨p,hp⟩ () with
  | bad e b q =>
   refine ⟨((⟨p,hp⟩,(),.bad e b q):PX × Unit × OutP),obE (zm ⟨p,hp⟩),eL,⟨trivial,hc⟩,?_⟩
   have hr:xh ⟨p,hp⟩=.bad e b q:=(if_neg (show ¬zeo (⟨p,hp⟩:PX).1 92 112=true by show ¬zeo p 92 112=true;rw[hb];decide)).trans (by rw[hc])
   exact zdb (q:=q) rfl hr (zd rfl rfl) rfl rfl
  | ok d q =>
  obtain ⟨v,rfl,hv0,hv1⟩:=vA hc;have hr:xh ⟨p,hp⟩=itmC v (blP q):=(if_neg (show ¬zeo (⟨p,hp⟩:PX).1 92 112=true by show ¬zeo p 92 112=true;rw[hb];decide)).trans (by rw[hc];rfl)
  refine ⟨((⟨p,hp⟩,(),.ok (.v (.int .i64 v)) q):PX × Unit × OutP),obE (zm ⟨p,hp⟩),eL,⟨trivial,hc⟩,?_⟩
  refine gw ?_;refine ⟨(q:PX),obE (zm q),eL,trivial,?_⟩
  have e2:=hp_pre2 (blP q) 45 45;have k1:(blP q).1.k<=(blP q).1.s.size:=(blP q).2.2.1;have k2:(blP q).1.s.size<=65536:=(blP q).2.2.2;refine gx ?_;refine .inr ⟨.stage [0] (.alt 1 [] (.done [2,3,4,5,6,7,8,9,10,11,12,13,14]) .nil),by decide +kernel,?_⟩
  refine xs1 ?_
  repeat' first|refine gx ?_|refine gy ?_|refine xc1 ?_ ?_|refine xs4 ?_ ?_|exact rfl
  refine ⟨(blP q:PX),obE (zm (blP q)),eL,trivial,?_⟩
  by_cases h45:pkV (blP q).1=45
  ·have e2:hpB (zN (blP q).1.s (blP q).1.k (blP q).1.s.size) ⟨#[45,45]⟩=zeo (blP q).1 45 45:=e2;obtain ⟨k45,_⟩:=zI h45 (by decide)
   rcases Bool.eq_false_or_eq_true (zeo (blP q).1 45 45) with h4|h4
   ·have eo:ctHP.out (zN (blP q).1.s (blP q).1.k (blP q).1.s.size,⟨#[45,45]⟩)=.v (.bool true):=congrArg (fun b=>D.v (.bool b)) (e2.trans h4)
    have hI:itmC v (blP q)=.ok [(v,v)] (blP q):=dif_neg fun h=>by rw[h4] at h;exact Bool.noConfusion h.2
    repeat' first|refine gx ?_|refine gy ?_|refine xc1 ?_ ?_|refine xs4 ?_ ?_|exact rfl
    refine ⟨((zN (blP q).1.s (blP q).1.k (blP q).1.s.size,⟨#[45,45]⟩):ByteArray × ByteArray),eL,fun _=>trivial,?_⟩
    rw[eo]
    repeat' first|refine gx ?_|refine gy ?_|refine xc1 ?_ ?_|refine xs4 ?_ ?_|exact rfl
    ·exact retL (q:=blP q) rfl (hr.trans hI) (EntR.of rfl (zdl fun j hj=>match j,hj with|0,_=>eE|1,_=>eE)) rfl rfl
    ·refine ⟨((zN (blP q).1.s (blP q).1.k (blP q).1.s.size,⟨#[45,45]⟩):ByteArray × ByteArray),eL,fun _=>trivial,?_⟩
     rw[eo]
     repeat' first|refine gx ?_|refine gy ?_|refine xc1 ?_ ?_|refine xs4 ?_ ?_|exact rfl
   ·have eo:ctHP.out (zN (blP q).1.s (blP q).1.k (blP q).1.s.size,⟨#[45,45]⟩)=.v (.bool false):=congrArg (fun b=>D.v (.bool b)) (e2.trans h4)
    have hI:itmC v (blP q)=itmP v (blP (adv (blP q) k45)):=dif_pos ⟨h45,h4⟩
    replace hr:=hr.trans hI;clear hI
    repeat' first|refine gx ?_|refine gy ?_|refine xc1 ?_ ?_|refine xs4 ?_ ?_|exact rfl
    refine ⟨((zN (blP q).1.s (blP q).1.k (blP q).1.s.size,⟨#[45,45]⟩):ByteArray × ByteArray),eL,fun _=>trivial,?_⟩
    rw[eo]
    repeat' first|refine gx ?_|refine gy ?_|refine xc1 ?_ ?_|refine xs4 ?_ ?_|exact rfl
    ·refine ⟨(adv (blP q) k45:PX),obE (zm (adv (blP q) k45)),eL,trivial,?_⟩
     refine gw ?_;cases hc2:yD (blP (adv (blP q) k45)) () with
     | bad e b r =>
      refine ⟨((blP (adv (blP q) k45),(),.bad e b r):PX × Unit × OutP),obE (zm (blP (adv (blP q) k45))),eL,⟨trivial,hc2⟩,?_⟩
      exact zdb (q:=r) rfl (hr.trans (by unfold itmP;rw[hc2])) (zd rfl rfl) rfl rfl
     | ok d2 r =>
     obtain ⟨v2,rfl,hw0,hw1⟩:=vA hc2;refine ⟨((blP (adv (blP q) k45),(),.ok (.v (.int .i64 v2)) r):PX × Unit × OutP),obE (zm (blP (adv (blP q) k45))),eL,⟨trivial,hc2⟩,?_⟩
     have hI:itmP v (blP (adv (blP q) k45))=if v2<v then .bad 3 (blP (adv (blP q) k45)).1.k r else .ok [(v,v2)] r:=by unfold itmP;rw[hc2];rfl
     by_cases hlt:v2<v
     ·refine gw ?_;refine ⟨((r,3,((blP (adv (blP q) k45)).1.k:Int)):PX × Int × Int),obE (zm r),eL,trivial,?_⟩
      exact zdb (q:=r) rfl (hr.trans (hI.trans (if_pos hlt))) (zd rfl rfl) rfl rfl
     ·refine gw ?_;exact retL (q:=r) rfl (hr.trans (hI.trans (if_neg hlt))) (EntR.of rfl (zdl fun j hj=>match j,hj with|0,_=>eE|1,_=>eE)) rfl rfl
    ·refine ⟨((zN (blP q).1.s (blP q).1.k (blP q).1.s.size,⟨#[45,45]⟩):ByteArray × ByteArray),eL,fun _=>trivial,?_⟩
     rw[eo]
     repeat' first|refine gx ?_|refine gy ?_|refine xc1 ?_ ?_|refine xs4 ?_ ?_|exact rfl
  ·have hI:itmC v (blP q)=.ok [(v,v)] (blP q):=dif_neg fun h=>h45 h.1
   repeat' first|refine gx ?_|refine gy ?_|refine xc1 ?_ ?_|refine xs4 ?_ ?_|exact rfl
   exact retL (q:=blP q) rfl (hr.trans hI) (EntR.of rfl (zdl fun j hj=>match j,hj with|0,_=>eE|1,_=>eE)) rfl rfl
end Go.Proofs
