import Derived.Test.YtcihhjjmcompkaaGreatDoorX5
import Derived.Test.YtcihhjjmcompkaaGreatDoorXs
set_option linter.unusedVariables false
set_option linter.unusedSimpArgs false
namespace Go.Proofs
open Go Go.Sx
variable {mx:Int}{pb:Bool}
attribute [local irreducible] exPs exCk zcc zgw
noncomputable def Γxk (mx:Int) (pb:Bool):Ctx:=fun f=>match f with
 | 55=>some (.obj zid)
 | 56=>some (.obj zg5)
 | 197=>some (.obj ocExpect)
 | 198=>some (.obj ocWrd)
 | 199=>some (.obj ocFnd)
 | 200=>some (.pure ctSetFl)
 | 203=>some (.pure ctPrFl)
 | 201=>some (.pure ctDbSt)
 | 202=>some (.pure ctDbPr)
 | 204=>some (.pure ctFnd)
 | 205=>some (.pure ctSetV)
 | 50=>some (.pure ctMake)
 | _=>none
theorem Γxk_ok:za1 Tryz.prog (GlT mx pb) (Γxk mx pb):=by
 intro f h hh
 simp only[Γxk] at hh
 split at hh<;>simp at hh<;>subst hh
 ·exact zek
 ·exact zdi
 ·exact xExpect_ok
 ·exact xWrd_ok
 ·exact xFnd_ok
 ·exact setFl_ok
 ·exact prFl_ok
 ·exact pDbSt_ok
 ·exact pDbPr_ok
 ·exact pFind_ok
 ·exact pSetV_ok
 ·exact zch
set_option maxHeartbeats 8000000 in
theorem xCls_ok:zbt Tryz.prog (GlT mx pb) 147 ocCls:=by
 refine zbc (cc:=true) Γxk_ok Tryz.T_ok Tryz.mixed Tryz.func147 rfl (by kernel_rfl) (fun x=>zan x.1) (fun _=>rfl) (fun x=>zan x.2.2.st) (fun _ _=>by show 1≤_;decide) ?_
 rintro ⟨⟨p,hp⟩,a,o⟩ ⟨h92,ho⟩
 replace h92:pkV p=92:=h92
 replace ho:(zb0 ⟨p,hp⟩).p zbu=o:=ho
 subst ho
 obtain ⟨hk,_⟩:=zbw h92 (by decide)
 obtain ⟨hdb,h2,h3⟩:=id hp
 repeat' (first|refine gw ?_|(first|refine br ?_ ?_|refine brF ?_ ?_)<;>intro q_<;>try simp only[nz] at q_)
 have hk':(⟨p,hp⟩:PX).1.k<(⟨p,hp⟩:PX).1.s.size:=hk
 cases h1:zb8 (adv ⟨p,hp⟩ hk) 112 with
 | bad e b q =>
  refine ⟨((adv ⟨p,hp⟩ hk,112,.bad e b q):PX × Int × OutP),obE (zan (adv ⟨p,hp⟩ hk)),zaa _,⟨(by show (0:Int)≤112;decide),h1⟩,?_⟩
  have hr:zb0 ⟨p,hp⟩=.bad e b q:=by unfold zb0;rw[dif_pos hk',h1]
  refine panL (q:=q) rfl hr (zaj rfl rfl) rfl rfl
 | ok d1 q1 =>
 refine ⟨((adv ⟨p,hp⟩ hk,112,.ok d1 q1):PX × Int × OutP),obE (zan (adv ⟨p,hp⟩ hk)),zaa _,⟨(by show (0:Int)≤112;decide),h1⟩,?_⟩
 repeat' (first|refine gw ?_|(first|refine br ?_ ?_|refine brF ?_ ?_)<;>intro q_<;>try simp only[nz] at q_)
 cases h2:zb8 q1 123 with
 | bad e b q =>
  refine ⟨((q1,123,.bad e b q):PX × Int × OutP),obE (zan q1),zaa _,⟨(by show (0:Int)≤123;decide),h2⟩,?_⟩
  have hr:zb0 ⟨p,hp⟩=.bad e b q:=by unfold zb0;rw[dif_pos hk',h1];dsimp only;rw[h2]
  refine panL (q:=q) rfl hr (zaj rfl rfl) rfl rfl
 | ok d2 q2 =>
 refine ⟨((q1,123,.ok d2 q2):PX × Int × OutP),obE (zan q1),zaa _,⟨(by show (0:Int)≤123;decide),h2⟩,?_⟩
 have hN:zb0 ⟨p,hp⟩=clsN q2:=by unfold zb0;rw[dif_pos hk',h1];dsimp only;rw[h2]
 clear h1 h2 h92 hdb
 repeat' (first|refine gw ?_|(first|refine br ?_ ?_|refine brF ?_ ?_)<;>intro q_<;>try simp only[nz] at q_)
 cases hw:zei q2 () with
 | bad e b q =>
  refine ⟨((q2,(),.bad e b q):PX × Unit × OutP),obE (zan q2),zaa _,⟨trivial,hw⟩,?_⟩
  have hr:zb0 ⟨p,hp⟩=.bad e b q:=hN.trans (by unfold clsN;rw[hw])
  refine panL (q:=q) rfl hr (zaj rfl rfl) rfl rfl
 | ok d q3 =>
 obtain ⟨hne,hq3,rfl⟩:=zi2 hw
 refine ⟨((q2,(),.ok _ q3):PX × Unit × OutP),obE (zan q2),zaa _,⟨trivial,hw⟩,?_⟩
 have b1:q3.1.k≤q3.1.s.size:=q3.2.2.1
 have b2:q3.1.s.size≤65536:=q3.2.2.2
 repeat' (first|refine gw ?_|(first|refine br ?_ ?_|refine brF ?_ ?_)<;>intro q_<;>try simp only[nz] at q_)
 refine ⟨(q3:PX),obE (zan q3),zaa _,trivial,?_⟩
 by_cases h61:pkV q3.1=61
 ·obtain ⟨k61,_⟩:=zbw h61 (by decide)
  have hV:zb0 ⟨p,hp⟩=clsV (zcd q2.1.s q2.1.k (wdE q2.1.s q2.1.k)) q2.1.k (adv q3 k61):=hN.trans (by
   unfold clsN;rw[hw];dsimp only;rw[dif_pos h61];rfl)
  clear hN
  repeat' (first|refine gx ?_|(first|refine br ?_ ?_|refine brF ?_ ?_)<;>intro q_<;>try simp only[nz] at q_)
  refine .inr ⟨.stage [0,1,2,3,4,5,6,7] (.alt 8 [0,1,2,3] (.stage [9] (.alt 10 [0,1,2,3,9] (.stage [] (.alt 11 [] (.done []) .nil)) .nil)) (.alt 10 [0,1,2,3,4,5,6,7] (.stage [] (.alt 8 [0,1,2,3] (.stage [9] (.alt 11 [] (.done []) .nil)) .nil)) .nil)),by decide +kernel,?_⟩
  refine xs1 ?_
  repeat' (first|refine gx ?_|refine xp1 ?_|refine xp0 ?_|refine xc1 ?_ ?_|refine xc0 ?_|refine xs1 ?_|refine xs2 ?_|refine xs3 ?_|refine xs4 ?_ ?_|refine xa1 ?_|exact rfl)
  refine ⟨(),zaa _,fun _=>trivial,?_⟩
  repeat' (first|refine gx ?_|refine xp1 ?_|refine xp0 ?_|refine xc1 ?_ ?_|refine xc0 ?_|refine xs1 ?_|refine xs2 ?_|refine xs3 ?_|refine xs4 ?_ ?_|refine xa1 ?_|exact rfl)
  all_goals try (refine ⟨(),zaa _,fun _=>trivial,?_⟩)
  all_goals repeat' (first|refine gx ?_|refine xp1 ?_|refine xp0 ?_|refine xc1 ?_ ?_|refine xc0 ?_|refine xs1 ?_|refine xs2 ?_|refine xs3 ?_|refine xs4 ?_ ?_|refine xa1 ?_|exact rfl)
  all_goals
   cases h6:zfy (adv q3 k61) (prFl,zcd q2.1.s q2.1.k (wdE q2.1.s q2.1.k),q2.1.k) with
   | bad e b q =>
    refine ⟨((adv q3 k61,(prFl,zcd q2.1.s q2.1.k (wdE q2.1.s q2.1.k),(q2.1.k:Int)),.bad e b q):PX × (List ByteArray × ByteArray × Int) × OutP),obE (zan (adv q3 k61)),zaa _,⟨(by show prFl.length≤100;decide),h6⟩,?_⟩
    have hr:zb0 ⟨p,hp⟩=.bad e b q:=hV.trans (by unfold clsV;rw[h6])
    exact panL (q:=q) rfl hr (zaj rfl rfl) rfl rfl
   | ok d6 q5 =>
   obtain ⟨rfl,rfl,hi⟩:=zfx h6
   have hi:fstI prFl (zcd q2.1.s q2.1.k (wdE q2.1.s q2.1.k))<7:=hi
   refine ⟨((adv q3 k61,(prFl,zcd q2.1.s q2.1.k (wdE q2.1.s q2.1.k),(q2.1.k:Int)),.ok _ (ckd (adv q3 k61))):PX × (List ByteArray × ByteArray × Int) × OutP),obE (zan (adv q3 k61)),zaa _,⟨(by show prFl.length≤100;decide),h6⟩,?_⟩
   have hU:clsV (zcd q2.1.s q2.1.k (wdE q2.1.s q2.1.k)) q2.1.k (adv q3 k61)=(match zei (ckd (adv q3 k61)) () with
    | .bad e a q=>.bad e a q
    | .ok d2 q6 =>
     match zb8 q6 125 with
     | .bad e a q=>.bad e a q
     | .ok _ q7 =>
      if fndB (zc1 (q3.1.db.prs (fstI prFl (zcd q2.1.s q2.1.k (wdE q2.1.s q2.1.k))))).names (dW d2)=true then .ok (setV (q3.1.db.prs (fstI prFl (zcd q2.1.s q2.1.k (wdE q2.1.s q2.1.k)))) (fndV (zc1 (q3.1.db.prs (fstI prFl (zcd q2.1.s q2.1.k (wdE q2.1.s q2.1.k))))).names (dW d2))) q7
      else .bad 6 (dN d2) q7):=by unfold clsV;rw[h6];rfl
   rw[hU] at hV
   clear hU h6
   generalize fstI prFl (zcd q2.1.s q2.1.k (wdE q2.1.s q2.1.k))=i at hi hV ⊢
   have hl:=q3.2.1.1.prs i hi
   have p1:ctDbPr.pre (q3.1.db,i):=⟨hi,by show (q3.1.db.prs i).names.length≤1000000;omega,by show (q3.1.db.prs i).spans.length≤1000000;omega⟩
   have p2:ctFnd.pre (q3.1.db.prs i,⟨#[]⟩):=by show (q3.1.db.prs i).spans.length≤1000000000;omega
   have p3:ctSetV.pre (q3.1.db.prs i,0):=by show (q3.1.db.prs i).spans.length≤1000;omega
   repeat' (first|refine gx ?_|refine xp1 ?_|refine xp0 ?_|refine xc1 ?_ ?_|refine xc0 ?_|refine xs1 ?_|refine xs2 ?_|refine xs3 ?_|refine xs4 ?_ ?_|refine xa1 ?_|exact rfl)
   simp only[zai,zbm,zb3,zc5,nr,ns,Nat.reduceAdd,Nat.zero_add,reduceIte]
   cases hw2:zei (ckd (adv q3 k61)) () with
   | bad e b q =>
    refine ⟨((ckd (adv q3 k61),(),.bad e b q):PX × Unit × OutP),obE (zan (ckd (adv q3 k61))),zaa _,⟨trivial,hw2⟩,?_⟩
    have hr:zb0 ⟨p,hp⟩=.bad e b q:=hV.trans (by rw[hw2])
    exact panL (q:=q) rfl hr (zaj rfl rfl) rfl rfl
   | ok d7 q6 =>
   obtain ⟨_,_,rfl⟩:=zi2 hw2
   refine ⟨((ckd (adv q3 k61),(),.ok _ q6):PX × Unit × OutP),obE (zan (ckd (adv q3 k61))),zaa _,⟨trivial,hw2⟩,?_⟩
   rw[hw2] at hV
   dsimp only[dW,dN] at hV
   generalize zcd (ckd (adv q3 k61)).1.s (ckd (adv q3 k61)).1.k (wdE (ckd (adv q3 k61)).1.s (ckd (adv q3 k61)).1.k)=w2 at hV ⊢
   generalize (ckd (adv q3 k61)).1.k=k2 at hV ⊢
   repeat' (first|refine gw ?_|(first|refine br ?_ ?_|refine brF ?_ ?_)<;>intro q_<;>try simp only[nz] at q_)
   simp only[zai,zbm,zb3,zc5,nr,ns,Nat.reduceAdd,Nat.zero_add,reduceIte]
   cases h8:zb8 q6 125 with
   | bad e b q =>
    refine ⟨((q6,125,.bad e b q):PX × Int × OutP),obE (zan q6),zaa _,⟨(by show (0:Int)≤125;decide),h8⟩,?_⟩
    have hr:zb0 ⟨p,hp⟩=.bad e b q:=hV.trans (by rw[h8])
    exact panL (q:=q) rfl hr (zaj rfl rfl) rfl rfl
   | ok d8 q7 =>
   refine ⟨((q6,125,.ok d8 q7):PX × Int × OutP),obE (zan q6),zaa _,⟨(by show (0:Int)≤125;decide),h8⟩,?_⟩
   rw[h8] at hV
   dsimp only at hV
   have p4:ctFnd.pre (q3.1.db.prs i,w2):=p2
   clear p2
   cases hfb:fndB (zc1 (q3.1.db.prs i)).names w2 with
   | true =>
    replace hV:=hV.trans (if_pos hfb)
    have p5:ctSetV.pre (q3.1.db.prs i,fndV (zc1 (q3.1.db.prs i)).names w2):=p3
    clear p3
    repeat' (first|refine gw ?_|(first|refine br ?_ ?_|refine brF ?_ ?_)<;>intro q_<;>try simp only[nz] at q_)
    exact retL (q:=q7) rfl hV (zaj rfl rfl) rfl rfl
   | false =>
    replace hV:=hV.trans (if_neg (by rw[hfb];decide))
    repeat' (first|refine gw ?_|(first|refine br ?_ ?_|refine brF ?_ ?_)<;>intro q_<;>try simp only[nz] at q_)
    refine ⟨((q7,6,(k2:Int)):PX × Int × Int),obE (zan q7),zaa _,trivial,?_⟩
    exact panL (q:=q7) rfl hV (zaj rfl rfl) rfl rfl
 ·have hS:zb0 ⟨p,hp⟩=clsS (zcd q2.1.s q2.1.k (wdE q2.1.s q2.1.k)) q2.1.k q3:=hN.trans (by
   unfold clsN;rw[hw];dsimp only;rw[dif_neg h61];rfl)
  clear hN
  repeat' (first|refine gw ?_|(first|refine br ?_ ?_|refine brF ?_ ?_)<;>intro q_<;>try simp only[nz] at q_)
  cases h5:zb8 q3 125 with
  | bad e b q =>
   refine ⟨((q3,125,.bad e b q):PX × Int × OutP),obE (zan q3),zaa _,⟨(by show (0:Int)≤125;decide),h5⟩,?_⟩
   have hr:zb0 ⟨p,hp⟩=.bad e b q:=hS.trans (by unfold clsS;rw[h5])
   exact panL (q:=q) rfl hr (zaj rfl rfl) rfl rfl
  | ok d5 q4 =>
  refine ⟨((q3,125,.ok d5 q4):PX × Int × OutP),obE (zan q3),zaa _,⟨(by show (0:Int)≤125;decide),h5⟩,?_⟩
  repeat' (first|refine gl ?_|(first|refine br ?_ ?_|refine brF ?_ ?_)<;>intro q_<;>try simp only[nz] at q_)
  cases h6:zfy q4 (setFl,zcd q2.1.s q2.1.k (wdE q2.1.s q2.1.k),q2.1.k) with
  | bad e b q =>
   refine ⟨((q4,(setFl,zcd q2.1.s q2.1.k (wdE q2.1.s q2.1.k),(q2.1.k:Int)),.bad e b q):PX × (List ByteArray × ByteArray × Int) × OutP),obE (zan q4),zaa _,⟨(by show setFl.length≤100;decide),h6⟩,?_⟩
   have hr:zb0 ⟨p,hp⟩=.bad e b q:=hS.trans (by unfold clsS;rw[h5];dsimp only;rw[h6])
   exact panL (q:=q) rfl hr (zaj rfl rfl) rfl rfl
  | ok d6 q5 =>
  obtain ⟨rfl,hq5,hi⟩:=zfx h6
  have hi:fstI setFl (zcd q2.1.s q2.1.k (wdE q2.1.s q2.1.k))<6:=hi
  refine ⟨((q4,(setFl,zcd q2.1.s q2.1.k (wdE q2.1.s q2.1.k),(q2.1.k:Int)),.ok _ q5):PX × (List ByteArray × ByteArray × Int) × OutP),obE (zan q4),zaa _,⟨(by show setFl.length≤100;decide),h6⟩,?_⟩
  have hr:zb0 ⟨p,hp⟩=.ok (canon (q5.1.db.sts (fstI setFl (zcd q2.1.s q2.1.k (wdE q2.1.s q2.1.k))))) q5:=hS.trans (by unfold clsS;rw[h5];dsimp only;rw[h6];rfl)
  clear hS
  generalize fstI setFl (zcd q2.1.s q2.1.k (wdE q2.1.s q2.1.k))=i at hi hr ⊢
  have hl:=q5.2.1.1.sts i hi
  have p1:ctDbSt.pre (q5.1.db,i):=⟨hi,by show (q5.1.db.sts i).length≤1000000;omega⟩
  have p2:ctMake.pre (q5.1.db.sts i):=⟨by omega,.inl hl⟩
  repeat' (first|refine gw ?_|(first|refine br ?_ ?_|refine brF ?_ ?_)<;>intro q_<;>try simp only[nz] at q_)
  exact retL (q:=q5) rfl hr (zaj rfl rfl) rfl rfl
end Go.Proofs
namespace Go.Proofs
open Go Go.Sx
variable {mx:Int}{pb:Bool}
attribute [local irreducible] exPs exCk zcc zgw
noncomputable def ocItm:Oc:=ocL Unit (fun _=>[]) (fun _ _=>True) zdu fun p _=>zdg p
noncomputable def Γxi (mx:Int) (pb:Bool):Ctx:=fun f=>match f with
 | 55=>some (.obj zid)
 | 56=>some (.obj zg5)
 | 54=>some (.obj zi7)
 | 149=>some (.obj ocChr)
 | 147=>some (.obj ocCls)
 | 148=>some (.pure ctHP)
 | _=>none
theorem Γxi_ok:za1 Tryz.prog (GlT mx pb) (Γxi mx pb):=by
 intro f h hh
 simp only[Γxi] at hh
 split at hh<;>simp at hh<;>subst hh
 ·exact zek
 ·exact zdi
 ·exact zht
 ·exact xChr_ok
 ·exact xCls_ok
 ·exact stHP_ok
theorem obB (p:PX):pC (p.1.at (blk p.1.s p.1.k))=pC (blP p).1:=rfl
set_option maxHeartbeats 8000000 in
theorem xItm_ok:zbt Tryz.prog (GlT mx pb) 104 ocItm:=by
 refine zbc (cc:=true) Γxi_ok Tryz.T_ok Tryz.mixed Tryz.func104 rfl (by kernel_rfl) (fun x=>zan x.1) (fun _=>rfl) (fun x=>zan x.2.2.st) (fun _ _=>by show 1≤_;decide) ?_
 rintro ⟨⟨p,hp⟩,a,o⟩ ⟨_,ho⟩
 replace ho:(zdg ⟨p,hp⟩).p zdu=o:=ho
 subst ho
 obtain ⟨hdb,h2,h3⟩:=id hp
 have e1:=hp_pre2 ⟨p,hp⟩ 92 112
 replace e1:hpB (zcd p.s p.k p.s.size) ⟨#[92,112]⟩=pre2 p 92 112:=e1
 repeat' (first|refine gw ?_|(first|refine br ?_ ?_|refine brF ?_ ?_)<;>intro q_<;>try simp only[nz] at q_)
 refine ⟨((zcd p.s p.k p.s.size,⟨#[92,112]⟩):ByteArray × ByteArray),zaa _,fun _=>trivial,?_⟩
 rw[show ctHP.out (zcd p.s p.k p.s.size,⟨#[92,112]⟩)=.v (.bool (pre2 p 92 112)) from congrArg (fun b=>D.v (.bool b)) e1]
 cases hb:pre2 p 92 112 with
 | true =>
  have g:=pre2_at hb
  have h92:pkV p=92:=(ze3 (by omega)).trans g.2.1
  have hr:zdg ⟨p,hp⟩=zb0 ⟨p,hp⟩:=if_pos hb
  repeat' (first|refine gw ?_|(first|refine br ?_ ?_|refine brF ?_ ?_)<;>intro q_<;>try simp only[nz] at q_)
  cases hg:zb0 ⟨p,hp⟩ with
  | bad e b q =>
   refine ⟨((⟨p,hp⟩,(),.bad e b q):PX × Unit × OutP),obE (zan ⟨p,hp⟩),zaa _,⟨h92,by show (zb0 ⟨p,hp⟩).p zbu=_;rw[hg];rfl⟩,?_⟩
   exact panL (q:=q) rfl (hr.trans hg) (zaj rfl rfl) rfl rfl
  | ok L q =>
   refine ⟨((⟨p,hp⟩,(),.ok (zbu L) q):PX × Unit × OutP),obE (zan ⟨p,hp⟩),zaa _,⟨h92,by show (zb0 ⟨p,hp⟩).p zbu=_;rw[hg];rfl⟩,?_⟩
   repeat' (first|refine gw ?_|(first|refine br ?_ ?_|refine brF ?_ ?_)<;>intro q_<;>try simp only[nz] at q_)
   exact retL (q:=q) rfl (hr.trans hg) (zaj rfl rfl) rfl rfl
 | false =>
  repeat' (first|refine gw ?_|(first|refine br ?_ ?_|refine brF ?_ ?_)<;>intro q_<;>try simp only[nz] at q_)
  cases hc:zc3 ⟨p,hp⟩ () with
  | bad e b q =>
   refine ⟨((⟨p,hp⟩,(),.bad e b q):PX × Unit × OutP),obE (zan ⟨p,hp⟩),zaa _,⟨trivial,hc⟩,?_⟩
   have hr:zdg ⟨p,hp⟩=.bad e b q:=(if_neg (show ¬pre2 (⟨p,hp⟩:PX).1 92 112=true by show ¬pre2 p 92 112=true;rw[hb];decide)).trans (by rw[hc])
   exact panL (q:=q) rfl hr (zaj rfl rfl) rfl rfl
  | ok d q =>
  obtain ⟨v,rfl,hv0,hv1⟩:=zi3 hc
  have hr:zdg ⟨p,hp⟩=itmC v (blP q):=(if_neg (show ¬pre2 (⟨p,hp⟩:PX).1 92 112=true by show ¬pre2 p 92 112=true;rw[hb];decide)).trans (by rw[hc];rfl)
  refine ⟨((⟨p,hp⟩,(),.ok (.v (.int .i64 v)) q):PX × Unit × OutP),obE (zan ⟨p,hp⟩),zaa _,⟨trivial,hc⟩,?_⟩
  repeat' (first|refine gw ?_|(first|refine br ?_ ?_|refine brF ?_ ?_)<;>intro q_<;>try simp only[nz] at q_)
  refine ⟨(q:PX),obE (zan q),zaa _,trivial,?_⟩
  have e2:=hp_pre2 (blP q) 45 45
  have k1:(blP q).1.k≤(blP q).1.s.size:=(blP q).2.2.1
  have k2:(blP q).1.s.size≤65536:=(blP q).2.2.2
  repeat' (first|refine gx ?_|(first|refine br ?_ ?_|refine brF ?_ ?_)<;>intro q_<;>try simp only[nz] at q_)
  refine .inr ⟨.stage [0] (.alt 1 [] (.done [2,3,4,5,6,7,8,9,10,11,12,13,14]) .nil),by decide +kernel,?_⟩
  refine xs1 ?_
  repeat' (first|refine gx ?_|refine xp1 ?_|refine xp0 ?_|refine xc1 ?_ ?_|refine xc0 ?_|refine xs1 ?_|refine xs2 ?_|refine xs3 ?_|refine xs4 ?_ ?_|refine xa1 ?_|exact rfl)
  refine ⟨(blP q:PX),obE (zan (blP q)),zaa _,trivial,?_⟩
  by_cases h45:pkV (blP q).1=45
  ·have e2:hpB (zcd (blP q).1.s (blP q).1.k (blP q).1.s.size) ⟨#[45,45]⟩=pre2 (blP q).1 45 45:=e2
   obtain ⟨k45,_⟩:=zbw h45 (by decide)
   rcases Bool.eq_false_or_eq_true (pre2 (blP q).1 45 45) with h4|h4
   ·have eo:ctHP.out (zcd (blP q).1.s (blP q).1.k (blP q).1.s.size,⟨#[45,45]⟩)=.v (.bool true):=congrArg (fun b=>D.v (.bool b)) (e2.trans h4)
    have hI:itmC v (blP q)=.ok [(v,v)] (blP q):=dif_neg fun h=>by rw[h4] at h;exact Bool.noConfusion h.2
    repeat' (first|refine gx ?_|refine xp1 ?_|refine xp0 ?_|refine xc1 ?_ ?_|refine xc0 ?_|refine xs1 ?_|refine xs2 ?_|refine xs3 ?_|refine xs4 ?_ ?_|refine xa1 ?_|exact rfl)
    refine ⟨((zcd (blP q).1.s (blP q).1.k (blP q).1.s.size,⟨#[45,45]⟩):ByteArray × ByteArray),zaa _,fun _=>trivial,?_⟩
    rw[eo]
    repeat' (first|refine gx ?_|refine xp1 ?_|refine xp0 ?_|refine xc1 ?_ ?_|refine xc0 ?_|refine xs1 ?_|refine xs2 ?_|refine xs3 ?_|refine xs4 ?_ ?_|refine xa1 ?_|exact rfl)
    ·exact retL (q:=blP q) rfl (hr.trans hI) (EntR.of rfl (ent_sl1 fun j hj=>match j,hj with|0,_=>zab _|1,_=>zab _)) rfl rfl
    ·refine ⟨((zcd (blP q).1.s (blP q).1.k (blP q).1.s.size,⟨#[45,45]⟩):ByteArray × ByteArray),zaa _,fun _=>trivial,?_⟩
     rw[eo]
     repeat' (first|refine gx ?_|refine xp1 ?_|refine xp0 ?_|refine xc1 ?_ ?_|refine xc0 ?_|refine xs1 ?_|refine xs2 ?_|refine xs3 ?_|refine xs4 ?_ ?_|refine xa1 ?_|exact rfl)
   ·have eo:ctHP.out (zcd (blP q).1.s (blP q).1.k (blP q).1.s.size,⟨#[45,45]⟩)=.v (.bool false):=congrArg (fun b=>D.v (.bool b)) (e2.trans h4)
    have hI:itmC v (blP q)=itmP v (blP (adv (blP q) k45)):=dif_pos ⟨h45,h4⟩
    replace hr:=hr.trans hI
    clear hI
    repeat' (first|refine gx ?_|refine xp1 ?_|refine xp0 ?_|refine xc1 ?_ ?_|refine xc0 ?_|refine xs1 ?_|refine xs2 ?_|refine xs3 ?_|refine xs4 ?_ ?_|refine xa1 ?_|exact rfl)
    refine ⟨((zcd (blP q).1.s (blP q).1.k (blP q).1.s.size,⟨#[45,45]⟩):ByteArray × ByteArray),zaa _,fun _=>trivial,?_⟩
    rw[eo]
    repeat' (first|refine gx ?_|refine xp1 ?_|refine xp0 ?_|refine xc1 ?_ ?_|refine xc0 ?_|refine xs1 ?_|refine xs2 ?_|refine xs3 ?_|refine xs4 ?_ ?_|refine xa1 ?_|exact rfl)
    ·refine ⟨(adv (blP q) k45:PX),obE (zan (adv (blP q) k45)),zaa _,trivial,?_⟩
     repeat' (first|refine gw ?_|(first|refine br ?_ ?_|refine brF ?_ ?_)<;>intro q_<;>try simp only[nz] at q_)
     cases hc2:zc3 (blP (adv (blP q) k45)) () with
     | bad e b r =>
      refine ⟨((blP (adv (blP q) k45),(),.bad e b r):PX × Unit × OutP),obE (zan (blP (adv (blP q) k45))),zaa _,⟨trivial,hc2⟩,?_⟩
      exact panL (q:=r) rfl (hr.trans (by unfold itmP;rw[hc2])) (zaj rfl rfl) rfl rfl
     | ok d2 r =>
     obtain ⟨v2,rfl,hw0,hw1⟩:=zi3 hc2
     refine ⟨((blP (adv (blP q) k45),(),.ok (.v (.int .i64 v2)) r):PX × Unit × OutP),obE (zan (blP (adv (blP q) k45))),zaa _,⟨trivial,hc2⟩,?_⟩
     have hI:itmP v (blP (adv (blP q) k45))=if v2<v then .bad 3 (blP (adv (blP q) k45)).1.k r else .ok [(v,v2)] r:=by unfold itmP;rw[hc2];rfl
     by_cases hlt:v2<v
     ·repeat' (first|refine gw ?_|(first|refine br ?_ ?_|refine brF ?_ ?_)<;>intro q_<;>try simp only[nz] at q_)
      refine ⟨((r,3,((blP (adv (blP q) k45)).1.k:Int)):PX × Int × Int),obE (zan r),zaa _,trivial,?_⟩
      exact panL (q:=r) rfl (hr.trans (hI.trans (if_pos hlt))) (zaj rfl rfl) rfl rfl
     ·repeat' (first|refine gw ?_|(first|refine br ?_ ?_|refine brF ?_ ?_)<;>intro q_<;>try simp only[nz] at q_)
      exact retL (q:=r) rfl (hr.trans (hI.trans (if_neg hlt))) (EntR.of rfl (ent_sl1 fun j hj=>match j,hj with|0,_=>zab _|1,_=>zab _)) rfl rfl
    ·refine ⟨((zcd (blP q).1.s (blP q).1.k (blP q).1.s.size,⟨#[45,45]⟩):ByteArray × ByteArray),zaa _,fun _=>trivial,?_⟩
     rw[eo]
     repeat' (first|refine gx ?_|refine xp1 ?_|refine xp0 ?_|refine xc1 ?_ ?_|refine xc0 ?_|refine xs1 ?_|refine xs2 ?_|refine xs3 ?_|refine xs4 ?_ ?_|refine xa1 ?_|exact rfl)
  ·have hI:itmC v (blP q)=.ok [(v,v)] (blP q):=dif_neg fun h=>h45 h.1
   repeat' (first|refine gx ?_|refine xp1 ?_|refine xp0 ?_|refine xc1 ?_ ?_|refine xc0 ?_|refine xs1 ?_|refine xs2 ?_|refine xs3 ?_|refine xs4 ?_ ?_|refine xa1 ?_|exact rfl)
   exact retL (q:=blP q) rfl (hr.trans hI) (EntR.of rfl (ent_sl1 fun j hj=>match j,hj with|0,_=>zab _|1,_=>zab _)) rfl rfl
end Go.Proofs
