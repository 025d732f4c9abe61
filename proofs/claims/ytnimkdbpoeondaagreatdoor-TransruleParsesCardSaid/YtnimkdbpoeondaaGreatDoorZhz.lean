import Derived.Test.YtnimkdbpoeondaaGreatDoorZgz
set_option linter.all false
set_option maxHeartbeats 4000000
namespace Go.Proofs
open Go Go.Sx
variable {s:ByteArray}{p:Gz}{db:Db}{t:Nat}
variable {mx:Int}{pb:Bool}
noncomputable def gCs1 (db:Db) (w:ByteArray) (p4:Gz) (t:Nat):List Rg × Gz:=if yL w<0\/usB db=false then ([],gFl p4 6 t) else (db.sts (yL w).toNat,p4)
noncomputable def gCs3 (db:Db) (i:Int) (w2:ByteArray) (p6:Gz) (t:Nat):List Rg × Gz:=if zn7 (ym (db.prs i.toNat)).names w2=true then (setV (db.prs i.toNat) (fndV (ym (db.prs i.toNat)).names w2),p6) else ([],gFl p6 6 t)
noncomputable def gCs2 (db:Db) (s w:ByteArray) (p4:Gz) (t:Nat):List Rg × Gz:=if prI w<0\/usB db=false then ([],gFl p4 6 t) else gCs3 db (prI w) (gWd s p4).1 (gWt s (gWd s p4).2 125) p4.k
noncomputable def gCsN (db:Db) (s:ByteArray) (p2:Gz):List Rg × Gz:=if gNx s (gWd s p2).2=125 then gCs1 db (gWd s p2).1 (gAd (gWd s p2).2) p2.k else gCs2 db s (gWd s p2).1 (gWt s (gWd s p2).2 61) p2.k
noncomputable def gCs (db:Db) (s:ByteArray) (p:Gz):List Rg × Gz:=gCsN db s (gWt s ⟨p.k+2,p.e,p.a⟩ 123)
theorem zkw (w:ByteArray): -1<=yL w/\yL w<6:=by
 unfold yL
 repeat' split
 all_goals decide
theorem prI_bd (w:ByteArray): -1<=prI w/\prI w<7:=by
 unfold prI;split<;>omega
theorem gCs1_k {s w:ByteArray}(hd:SmD db) (h:p.k<=s.size):GM s p (gCs1 db w p t).2/\(gCs1 db w p t).1.length<=17:=by
 unfold gCs1;split
 ·exact ⟨GM.fl (by decide) h,Nat.zero_le _⟩
 ·have hb:=zkw w;exact ⟨GM.refl h,Nat.le_trans (hd.sts _ (by omega)) (by decide)⟩
theorem gCs3_k {s w:ByteArray}{i:Int}(hd:SmD db) (h0:0<=i) (h7:i<7) (h:p.k<=s.size):GM s p (gCs3 db i w p t).2/\(gCs3 db i w p t).1.length<=17:=by
 unfold gCs3;split
 ·have h2:=hd.prs i.toNat (by omega)
  exact ⟨GM.refl h,Nat.le_trans (setV_len _ _) (Nat.succ_le_succ h2.2)⟩
 ·exact ⟨GM.fl (by decide) h,Nat.zero_le _⟩
theorem gCs2_k {s w:ByteArray}(hd:SmD db) (h:p.k<=s.size):GM s p (gCs2 db s w p t).2/\(gCs2 db s w p t).1.length<=17:=by
 unfold gCs2;split
 ·exact ⟨GM.fl (by decide) h,Nat.zero_le _⟩
 ·rename_i hn;have hb:=prI_bd w;have h1:=gWd_k h;have h2:=h1.trans (GM.wt (b:=125) (by decide) h1.hi)
  obtain ⟨g1,g2⟩:=gCs3_k (w:=(gWd s p).1) (t:=p.k) hd (Int.not_lt.1 fun hh=>hn (.inl hh)) hb.2 h2.hi;exact ⟨h2.trans g1,g2⟩
theorem gCsN_k (hd:SmD db) (h:p.k<=s.size):GM s p (gCsN db s p).2/\(gCsN db s p).1.length<=17:=by
 have h2:=gWd_k h;unfold gCsN;split
 ·rename_i hn;have h3:=GM.ad (s:=s) (p:=(gWd s p).2) (by omega)
  obtain ⟨g1,g2⟩:=gCs1_k (w:=(gWd s p).1) (t:=p.k) hd h3.hi;exact ⟨h2.trans (h3.trans g1),g2⟩
 ·have h3:=GM.wt (s:=s) (p:=(gWd s p).2) (b:=61) (by decide) h2.hi;obtain ⟨g1,g2⟩:=gCs2_k (w:=(gWd s p).1) (t:=p.k) hd h3.hi;exact ⟨h2.trans (h3.trans g1),g2⟩
theorem gCs_k (hd:SmD db) (h:p.k+2<=s.size):GM s p (gCs db s p).2/\(gCs db s p).1.length<=17/\((gCs db s p).2.e=0->p.k+3<=(gCs db s p).2.k):=by
 have h1:=GM.wt (s:=s) (p:=⟨p.k+2,p.e,p.a⟩) (b:=123) (by decide) h;obtain ⟨g1,g2⟩:=gCsN_k hd h1.hi;have h0:GM s p ⟨p.k+2,p.e,p.a⟩:=⟨Nat.le_add_right _ _,h,id⟩
 refine ⟨h0.trans (h1.trans g1),g2,fun e=>?_⟩
 have e1:=g1.st e;have h3:=g1.lo;unfold gWt at e1 h3;split at e1
 ·rename_i hn;rw[if_pos hn] at h3;show p.k+3<=(gCsN db s (gWt s ⟨p.k+2,p.e,p.a⟩ 123)).2.k;unfold gWt;rw[if_pos hn];exact h3
 ·exact absurd e1 (yq (by decide))
noncomputable def ocGs:Oc:=ocG Unit (List Rg) (fun _=>[]) zR (fun i _=>gCl i.2.1 i.2.2=true) (fun i _=>gCs i.1 i.2.1 i.2.2)
noncomputable def Γga (mx:Int) (pb:Bool):Ctx:=fun f=>match f with
 | 166=>some (.obj ocGn)
 | 136=>some (.obj ocGf)
 | 167=>some (.obj ocGw)
 | 214=>some (.obj ocGd)
 | 215=>some (.pure ctPi)
 | 195=>some (.pure ctSetOf)
 | 11=>some (.pure ctSetI)
 | 9=>some (.pure ctPropI)
 | 216=>some (.pure ctFnd)
 | 217=>some (.pure ctSetV)
 | _=>none
theorem Γga_ok:CK mx pb (Γga mx pb):=by
 intro f h hh;simp only[Γga] at hh;split at hh<;>simp at hh<;>subst hh
 ·exact zb1
 ·exact zb2
 ·exact zhw
 ·exact gWd_ok
 ·exact zPi_ok
 ·exact zk6
 ·exact znf
 ·exact ziu
 ·exact rFind_ok
 ·exact rSetV_ok
theorem gCs_ok:SQ mx pb 197 ocGs:=by
 refine so (cc:=true) Γga_ok Tryz.func197 (fun x=>zg x.1.1 x.1.2.1 x.1.2.2) (fun _=>rfl) (fun x=>zg x.1.1 x.1.2.1 x.2.2.2) ?_;rintro ⟨⟨db,s,p⟩,⟨⟩,L,q⟩ ⟨⟨hsm,hs,hk⟩,hcl,hr⟩
 replace hsm:SmD db:=hsm;replace hs:s.size<=1000:=hs;replace hk:p.k<=s.size:=hk;replace hcl:gCl s p=true:=hcl;replace hr:gCsN db s (gWt s ⟨p.k+2,p.e,p.a⟩ 123)=(L,q):=hr;have hcl':=of_decide_eq_true hcl;have hk2:p.k+2<=s.size:=by omega
 have hk3:=(zg0 (s:=s) (p:=⟨p.k+2,p.e,p.a⟩) (b:=123) (by decide) hk2).2;generalize hp2:gWt s ⟨p.k+2,p.e,p.a⟩ 123=p2 at hr hk3;clear hcl';refine gw ?_;refine ⟨(((db,s,⟨p.k+2,p.e,p.a⟩),123,(),p2):GI × Int × Unit × Gz),obE (zg db s ⟨p.k+2,p.e,p.a⟩),eL,⟨⟨hsm,hs,hk2⟩,(by show (0:Int)<123/\(123:Int)<=255;decide),(by show ((),gWt s ⟨p.k+2,p.e,p.a⟩ 123)=((),p2);rw[hp2])⟩,?_⟩
 refine gw ?_;have hk4:=(gWd_k hk3).hi;unfold gCsN at hr;obtain ⟨w,p3,hw⟩:∃ w p3,gWd s p2=(w,p3):=⟨_,_,rfl⟩
 rw[hw] at hr hk4;replace hk4:p3.k<=s.size:=hk4;dsimp only at hr;refine ⟨(((db,s,p2),(),w,p3):GI × Unit × ByteArray × Gz),obE (zg db s p2),eL,⟨⟨hsm,hs,hk3⟩,trivial,hw⟩,?_⟩
 clear hw hp2;refine gw ?_;refine ⟨((db,s,p3):GI),obE (zg db s p3),eL,hs,?_⟩
 have hsb:=zkw w;have hpb:=prI_bd w;have s1:ctSetOf.pre w:=trivial;have s2:ctPi.pre w:=trivial;by_cases h125:gNx s p3=125
 ·rw[if_pos h125] at hr;obtain ⟨_,e1,_⟩:=uX h125 (by decide)
  unfold gCs1 at hr;by_cases c1:yL w<0
  ·rw[if_pos (.inl c1)] at hr;obtain ⟨rfl,rfl⟩:=Prod.mk.inj hr
   repeat' first|refine gw ?_|refine bs ?_ ?_<;>intro q_
   all_goals first|(exfalso;omega)|skip
   refine ⟨(((db,s,gAd p3),(6,(p2.k:Int)),(),gFl (gAd p3) 6 p2.k):GI × (Int × Int) × Unit × Gz),obE (zg db s (gAd p3)),eL,⟨⟨hsm,hs,e1⟩,trivial,rfl⟩,?_⟩
   refine gw ?_;exact And.intro (EntR.of rfl (Ent.ag (EntL.cons Ent.nil eL))) (And.intro rfl (obE (zg db s (gFl (gAd p3) 6 p2.k))))
  ·cases hu:usB db
   ·rw[if_pos (.inr hu)] at hr;obtain ⟨rfl,rfl⟩:=Prod.mk.inj hr
    repeat' first|refine gw ?_|refine bs ?_ ?_<;>intro q_
    all_goals first|(exfalso;omega)|skip
    refine ⟨(((db,s,gAd p3),(6,(p2.k:Int)),(),gFl (gAd p3) 6 p2.k):GI × (Int × Int) × Unit × Gz),obE (zg db s (gAd p3)),eL,⟨⟨hsm,hs,e1⟩,trivial,rfl⟩,?_⟩
    refine gw ?_;exact And.intro (EntR.of rfl (Ent.ag (EntL.cons Ent.nil eL))) (And.intro rfl (obE (zg db s (gFl (gAd p3) 6 p2.k))))
   ·rw[if_neg fun h=>h.elim c1 fun h=>by rw[hu] at h;exact Bool.noConfusion h] at hr;obtain ⟨rfl,rfl⟩:=Prod.mk.inj hr;have s3:ctSetI.pre (db,yL w):=(by show 0<=yL w/\yL w<6;omega)
    repeat' first|refine gw ?_|refine bs ?_ ?_<;>intro q_
    all_goals first|(exfalso;omega)|exact And.intro (zd rfl rfl) (And.intro rfl (obE (zg db s (gAd p3))))
 ·rw[if_neg h125] at hr;have hk5:=(zg0 (s:=s) (p:=p3) (b:=61) (by decide) hk4).2;generalize hp4:gWt s p3 61=p4 at hr hk5
  repeat' first|refine gw ?_|refine bs ?_ ?_<;>intro q_
  all_goals first|(exfalso;omega)|skip
  refine ⟨(((db,s,p3),61,(),p4):GI × Int × Unit × Gz),obE (zg db s p3),eL,⟨⟨hsm,hs,hk4⟩,(by show (0:Int)<61/\(61:Int)<=255;decide),(by show ((),gWt s p3 61)=((),p4);rw[hp4])⟩,?_⟩
  clear hp4;unfold gCs2 at hr;by_cases c1:prI w<0
  ·rw[if_pos (.inl c1)] at hr;obtain ⟨rfl,rfl⟩:=Prod.mk.inj hr
   repeat' first|refine gw ?_|refine bs ?_ ?_<;>intro q_
   all_goals first|(exfalso;omega)|skip
   refine ⟨(((db,s,p4),(6,(p2.k:Int)),(),gFl p4 6 p2.k):GI × (Int × Int) × Unit × Gz),obE (zg db s p4),eL,⟨⟨hsm,hs,hk5⟩,trivial,rfl⟩,?_⟩
   refine gw ?_;exact And.intro (EntR.of rfl (Ent.ag (EntL.cons Ent.nil eL))) (And.intro rfl (obE (zg db s (gFl p4 6 p2.k))))
  ·cases hu:usB db
   ·rw[if_pos (.inr hu)] at hr;obtain ⟨rfl,rfl⟩:=Prod.mk.inj hr
    repeat' first|refine gw ?_|refine bs ?_ ?_<;>intro q_
    all_goals first|(exfalso;omega)|skip
    refine ⟨(((db,s,p4),(6,(p2.k:Int)),(),gFl p4 6 p2.k):GI × (Int × Int) × Unit × Gz),obE (zg db s p4),eL,⟨⟨hsm,hs,hk5⟩,trivial,rfl⟩,?_⟩
    refine gw ?_;exact And.intro (EntR.of rfl (Ent.ag (EntL.cons Ent.nil eL))) (And.intro rfl (obE (zg db s (gFl p4 6 p2.k))))
   ·rw[if_neg fun h=>h.elim c1 fun h=>by rw[hu] at h;exact Bool.noConfusion h] at hr;have hk6:=(gWd_k hk5).hi;obtain ⟨w2,p5,hw2⟩:∃ w2 p5,gWd s p4=(w2,p5):=⟨_,_,rfl⟩
    rw[hw2] at hr hk6;replace hk6:p5.k<=s.size:=hk6;dsimp only at hr;have hk7:=(zg0 (s:=s) (p:=p5) (b:=125) (by decide) hk6).2;generalize hp6:gWt s p5 125=p6 at hr hk7
    repeat' first|refine gw ?_|refine bs ?_ ?_<;>intro q_
    all_goals first|(exfalso;omega)|skip
    refine ⟨(((db,s,p4),(),w2,p5):GI × Unit × ByteArray × Gz),obE (zg db s p4),eL,⟨⟨hsm,hs,hk5⟩,trivial,hw2⟩,?_⟩
    refine gw ?_;refine ⟨(((db,s,p5),125,(),p6):GI × Int × Unit × Gz),obE (zg db s p5),eL,⟨⟨hsm,hs,hk6⟩,(by show (0:Int)<125/\(125:Int)<=255;decide),(by show ((),gWt s p5 125)=((),p6);rw[hp6])⟩,?_⟩
    have t1:ctPropI.pre (db,prI w):=(by show 0<=prI w/\prI w<7;omega)
    have hl:=hsm.prs (prI w).toNat (by omega)
    have t2:ctFnd.pre (db.prs (prI w).toNat,w2):=by show (db.prs (prI w).toNat).spans.length<=1000000000;omega
    have t3:ctSetV.pre (db.prs (prI w).toNat,fndV (ym (db.prs (prI w).toNat)).names w2):=by show (db.prs (prI w).toNat).spans.length<=1000;omega
    clear hw2 hp6;unfold gCs3 at hr;cases hfb:zn7 (ym (db.prs (prI w).toNat)).names w2 with
    | true =>
     rw[if_pos hfb] at hr;obtain ⟨rfl,rfl⟩:=Prod.mk.inj hr;refine gw ?_;exact And.intro (zd rfl rfl) (And.intro rfl (obE (zg db s p6)))
    | false =>
     rw[if_neg (by rw[hfb];decide)] at hr;obtain ⟨rfl,rfl⟩:=Prod.mk.inj hr;refine gw ?_;refine ⟨(((db,s,p6),(6,(p4.k:Int)),(),gFl p6 6 p4.k):GI × (Int × Int) × Unit × Gz),obE (zg db s p6),eL,⟨⟨hsm,hs,hk7⟩,trivial,rfl⟩,?_⟩
     refine gw ?_;exact And.intro (EntR.of rfl (Ent.ag (EntL.cons Ent.nil eL))) (And.intro rfl (obE (zg db s (gFl p6 6 p4.k))))
attribute [local irreducible] zbs zbi yf xD
def gPr2 (s:ByteArray) (a:Int) (p3:Gz):List Rg × Gz:=(canon [(a,(gCh s p3).1)],if (gCh s p3).1<a then gFl (gCh s p3).2 3 p3.k else (gCh s p3).2)
def gDs (s:ByteArray) (p:Gz):Prop:=gNx s p=45/\¬(p.k+1<s.size/\bAt s (p.k+1)=45)
instance (s:ByteArray) (p:Gz):Decidable (gDs s p):=inferInstanceAs (Decidable (_/\_))
def gPr1 (s:ByteArray) (a:Int) (p2:Gz):List Rg × Gz:=if gDs s p2 then gPr2 s a (gBl s (gAd p2)) else (canon [(a,a)],p2)
def gPr (s:ByteArray) (p:Gz):List Rg × Gz:=gPr1 s (gCh s p).1 (gBl s (gCh s p).2)
theorem gPr2_k {a:Int}(h:p.k<=s.size):GM s p (gPr2 s a p).2:=by
 have h1:=(gCh_k h).1;show GM s p (if (gCh s p).1<a then gFl (gCh s p).2 3 p.k else (gCh s p).2)
 split
 ·exact h1.trans (GM.fl (by decide) h1.hi)
 ·exact h1
theorem gPr1_k {a:Int}(h:p.k<=s.size):GM s p (gPr1 s a p).2/\(gPr1 s a p).1.length<=1:=by
 unfold gPr1;split
 ·rename_i hd;have h1:=GM.ad (s:=s) (p:=p) (by rw[hd.1];decide)
  have h2:=h1.trans (GM.bl h1.hi)
  exact ⟨h2.trans (gPr2_k h2.hi),zK [(a,(gCh s (gBl s (gAd p))).1)]⟩
 ·exact ⟨GM.refl h,zK [(a,a)]⟩
theorem gPr_k (h:p.k<=s.size):GM s p (gPr s p).2/\(gPr s p).1.length<=1/\((gPr s p).2.e=0->p.k<(gPr s p).2.k):=by
 have h1:=(gCh_k h).1;have h2:=GM.bl h1.hi;obtain ⟨g1,g2⟩:=gPr1_k (a:=(gCh s p).1) h2.hi;exact ⟨h1.trans (h2.trans g1),g2,fun e=>Nat.lt_of_lt_of_le (gCh_lt h (h2.st (g1.st e))) (Nat.le_trans h2.lo g1.lo)⟩
noncomputable def ocGp:Oc:=ocG Unit (List Rg) (fun _=>[]) zR (fun _ _=>True) (fun i _=>gPr i.2.1 i.2.2)
noncomputable def Γgq:Ctx:=fun f=>match f with
 | 166=>some (.obj ocGn)
 | 136=>some (.obj ocGf)
 | 134=>some (.obj ocGb)
 | 198=>some (.obj ocGc)
 | 107=>some (.pure ctMakeR)
 | _=>none
theorem Γgq_ok:CK mx pb Γgq:=by
 intro f h hh;simp only[Γgq] at hh;split at hh<;>simp at hh<;>subst hh
 ·exact zb1
 ·exact zb2
 ·exact zlu
 ·exact gCh_ok
 ·exact zaw
theorem gPr_ok:SQ mx pb 173 ocGp:=by
 refine so (cc:=true) Γgq_ok Tryz.func173 (fun x=>zg x.1.1 x.1.2.1 x.1.2.2) (fun _=>rfl) (fun x=>zg x.1.1 x.1.2.1 x.2.2.2) ?_;rintro ⟨⟨db,s,p⟩,⟨⟩,L,q⟩ ⟨⟨hsm,hs,hk⟩,_,hr⟩
 replace hs:s.size<=1000:=hs;replace hk:p.k<=s.size:=hk;replace hr:gPr s p=(L,q):=hr;unfold gPr at hr;obtain ⟨k1,a0,a1⟩:=gCh_k hk;obtain ⟨a,p1,hc⟩:∃ a p1,gCh s p=(a,p1):=⟨_,_,rfl⟩
 rw[hc] at hr k1 a0 a1;dsimp only at hr k1 a0 a1;have k2:=GM.bl k1.hi;have k1h:=k1.hi;have k2h:=k2.hi;generalize hp2:gBl s p1=p2 at hr k2 k2h;clear k1 k2;refine gw ?_;refine ⟨(((db,s,p),(),a,p1):GI × Unit × Int × Gz),obE (zg db s p),eL,⟨⟨hsm,hs,hk⟩,trivial,hc⟩,?_⟩
 refine gw ?_;refine ⟨(((db,s,p1),(),(),p2):GI × Unit × Unit × Gz),obE (zg db s p1),eL,⟨⟨hsm,hs,k1h⟩,trivial,(by show ((),gBl s p1)=((),p2);rw[hp2])⟩,?_⟩
 clear hp2 hc;refine gx ?_;refine .inr ⟨.stage [0] (.alt 1 [] (.done [2,3,4,5,6,7,8,9,10,11,12,13,14,15,16,17,18,19,20,21,22,23,24,25,26,27,28]) .nil),by decide +kernel,?_⟩
 refine xs1 ?_
 repeat' first|refine gx ?_|refine gy ?_|refine xc1 ?_ ?_|refine xs4 ?_ ?_|exact rfl
 refine ⟨((db,s,p2):GI),obE (zg db s p2),eL,hs,?_⟩
 have hT:((p2.k:Int)+1).toNat=p2.k+1:=by omega
 unfold gPr1 at hr;by_cases c1:gNx s p2=45
 ·obtain ⟨_,e1,_⟩:=uX c1 (by decide)
  by_cases c2:(p2.k:Int)+1<s.size
  ·by_cases c3:bAt s (p2.k+1)=45
   ·have hd:¬gDs s p2:=fun h=>h.2 ⟨by omega,c3⟩
    rw[if_neg hd] at hr;obtain ⟨rfl,rfl⟩:=Prod.mk.inj hr;simp only[nq,zG,zW,nr,ns,Nat.reduceAdd,reduceIte]
    repeat' first|refine gx ?_|refine gy ?_|refine xc1 ?_ ?_|refine xs4 ?_ ?_|exact rfl
    repeat' first|refine gw ?_|refine bs ?_ ?_<;>intro q_
    all_goals first|(exfalso;omega)|skip
    all_goals refine ⟨[(a,a)],EntL.cons (ue rfl rfl) (EntL.refl []),(by show 1<=10000;decide),?_⟩
    all_goals repeat' first|refine gw ?_|refine bs ?_ ?_<;>intro q_
    all_goals exact And.intro (zd rfl rfl) (And.intro rfl (obE (zg db s p2)))
   ·have hd:gDs s p2:=⟨c1,fun h=>c3 h.2⟩
    rw[if_pos hd] at hr;unfold gPr2 at hr;have k3h:=(zlv (s:=s) (p:=gAd p2) e1).2;generalize hp3:gBl s (gAd p2)=p3 at hr k3h;obtain ⟨k4,b0,b1⟩:=gCh_k k3h;obtain ⟨b,p4,hc4⟩:∃ b p4,gCh s p3=(b,p4):=⟨_,_,rfl⟩
    rw[hc4] at hr k4 b0 b1;dsimp only at hr k4 b0 b1;have k4h:=k4.hi;clear k4;simp only[nq,zG,zW,nr,ns,Nat.reduceAdd,reduceIte]
    repeat' first|refine gx ?_|refine gy ?_|refine xc1 ?_ ?_|refine xs4 ?_ ?_|exact rfl
    repeat' first|refine gw ?_|refine bs ?_ ?_<;>intro q_
    all_goals first|(exfalso;omega)|skip
    refine ⟨(((db,s,gAd p2),(),(),p3):GI × Unit × Unit × Gz),obE (zg db s (gAd p2)),eL,⟨⟨hsm,hs,e1⟩,trivial,(by show ((),gBl s (gAd p2))=((),p3);rw[hp3])⟩,?_⟩
    clear hp3;simp only[nq,zG,zW,nr,ns,Nat.reduceAdd,reduceIte];refine gw ?_;refine ⟨(((db,s,p3),(),b,p4):GI × Unit × Int × Gz),obE (zg db s p3),eL,⟨⟨hsm,hs,k3h⟩,trivial,hc4⟩,?_⟩
    clear hc4;simp only[nq,zG,zW,nr,ns,Nat.reduceAdd,reduceIte];by_cases hl:b<a
    ·rw[if_pos hl] at hr;obtain ⟨rfl,rfl⟩:=Prod.mk.inj hr
     repeat' first|refine gw ?_|refine bs ?_ ?_<;>intro q_
     all_goals first|(exfalso;omega)|skip
     refine ⟨(((db,s,p4),(3,(p3.k:Int)),(),gFl p4 3 p3.k):GI × (Int × Int) × Unit × Gz),obE (zg db s p4),eL,⟨⟨hsm,hs,k4h⟩,trivial,rfl⟩,?_⟩
     refine gw ?_;refine ⟨[(a,b)],EntL.cons (ue rfl rfl) (EntL.refl []),(by show 1<=10000;decide),?_⟩
     refine gw ?_;exact And.intro (zd rfl rfl) (And.intro rfl (obE (zg db s (gFl p4 3 p3.k))))
    ·rw[if_neg hl] at hr;obtain ⟨rfl,rfl⟩:=Prod.mk.inj hr
     repeat' first|refine gw ?_|refine bs ?_ ?_<;>intro q_
     all_goals first|(exfalso;omega)|skip
     refine ⟨[(a,b)],EntL.cons (ue rfl rfl) (EntL.refl []),(by show 1<=10000;decide),?_⟩
     refine gw ?_;exact And.intro (zd rfl rfl) (And.intro rfl (obE (zg db s p4)))
  ·have hd:gDs s p2:=⟨c1,fun h=>c2 (by omega)⟩
   rw[if_pos hd] at hr;unfold gPr2 at hr;have k3h:=(zlv (s:=s) (p:=gAd p2) e1).2;generalize hp3:gBl s (gAd p2)=p3 at hr k3h;obtain ⟨k4,b0,b1⟩:=gCh_k k3h;obtain ⟨b,p4,hc4⟩:∃ b p4,gCh s p3=(b,p4):=⟨_,_,rfl⟩
   rw[hc4] at hr k4 b0 b1;dsimp only at hr k4 b0 b1;have k4h:=k4.hi;clear k4;simp only[nq,zG,zW,nr,ns,Nat.reduceAdd,reduceIte]
   repeat' first|refine gx ?_|refine gy ?_|refine xc1 ?_ ?_|refine xs4 ?_ ?_|exact rfl
   repeat' first|refine gw ?_|refine bs ?_ ?_<;>intro q_
   all_goals first|(exfalso;omega)|skip
   refine ⟨(((db,s,gAd p2),(),(),p3):GI × Unit × Unit × Gz),obE (zg db s (gAd p2)),eL,⟨⟨hsm,hs,e1⟩,trivial,(by show ((),gBl s (gAd p2))=((),p3);rw[hp3])⟩,?_⟩
   clear hp3;simp only[nq,zG,zW,nr,ns,Nat.reduceAdd,reduceIte];refine gw ?_;refine ⟨(((db,s,p3),(),b,p4):GI × Unit × Int × Gz),obE (zg db s p3),eL,⟨⟨hsm,hs,k3h⟩,trivial,hc4⟩,?_⟩
   clear hc4;simp only[nq,zG,zW,nr,ns,Nat.reduceAdd,reduceIte];by_cases hl:b<a
   ·rw[if_pos hl] at hr;obtain ⟨rfl,rfl⟩:=Prod.mk.inj hr
    repeat' first|refine gw ?_|refine bs ?_ ?_<;>intro q_
    all_goals first|(exfalso;omega)|skip
    refine ⟨(((db,s,p4),(3,(p3.k:Int)),(),gFl p4 3 p3.k):GI × (Int × Int) × Unit × Gz),obE (zg db s p4),eL,⟨⟨hsm,hs,k4h⟩,trivial,rfl⟩,?_⟩
    refine gw ?_;refine ⟨[(a,b)],EntL.cons (ue rfl rfl) (EntL.refl []),(by show 1<=10000;decide),?_⟩
    refine gw ?_;exact And.intro (zd rfl rfl) (And.intro rfl (obE (zg db s (gFl p4 3 p3.k))))
   ·rw[if_neg hl] at hr;obtain ⟨rfl,rfl⟩:=Prod.mk.inj hr
    repeat' first|refine gw ?_|refine bs ?_ ?_<;>intro q_
    all_goals first|(exfalso;omega)|skip
    refine ⟨[(a,b)],EntL.cons (ue rfl rfl) (EntL.refl []),(by show 1<=10000;decide),?_⟩
    refine gw ?_;exact And.intro (zd rfl rfl) (And.intro rfl (obE (zg db s p4)))
 ·have hd:¬gDs s p2:=fun h=>c1 h.1;rw[if_neg hd] at hr;obtain ⟨rfl,rfl⟩:=Prod.mk.inj hr;simp only[nq,zG,zW,nr,ns,Nat.reduceAdd,reduceIte]
  repeat' first|refine gx ?_|refine gy ?_|refine xc1 ?_ ?_|refine xs4 ?_ ?_|exact rfl
  repeat' first|refine gw ?_|refine bs ?_ ?_<;>intro q_
  all_goals first|(exfalso;omega)|skip
  all_goals refine ⟨[(a,a)],EntL.cons (ue rfl rfl) (EntL.refl []),(by show 1<=10000;decide),?_⟩
  all_goals repeat' first|refine gw ?_|refine bs ?_ ?_<;>intro q_
  all_goals exact And.intro (zd rfl rfl) (And.intro rfl (obE (zg db s p2)))
end Go.Proofs
namespace Go.Proofs
open Go Go.Sx
variable {s:ByteArray}{run:Gz->List Rg × Gz}{S:List Rg}{r:List Rg × Gz}{db:Db}{z p:Gz}
variable {mx:Int}{pb:Bool}
noncomputable def gOp1 (db:Db) (s:ByteArray) (run:Gz->List Rg × Gz) (p1:Gz):List Rg × Gz:=if gNx s p1=91 then run p1 else if gCl s p1=true then gCs db s p1 else ([],gFl (gWt s p1 92) 3 (gWt s p1 92).k)
noncomputable def gOp (db:Db) (s:ByteArray) (run:Gz->List Rg × Gz) (p:Gz):List Rg × Gz:=gOp1 db s run (gBl s p)
noncomputable def gSt (db:Db) (s:ByteArray) (run:Gz->List Rg × Gz) (p:Gz) (S:List Rg):List Rg × Gz :=
 if gNx s p=38 then (zr S (gOp db s run (gAd p)).1 2,(gOp db s run (gAd p)).2)
 else if gNx s p=45 then (zr S (gOp db s run (gWt s (gAd p) 45)).1 3,(gOp db s run (gWt s (gAd p) 45)).2)
 else if gNx s p=91\/gCl s p=true then (zr S (gOp db s run p).1 1,(gOp db s run p).2)
 else (zr S (gPr s p).1 1,(gPr s p).2)
noncomputable def zn1 (db:Db) (s:ByteArray) (run:Gz->List Rg × Gz):Nat->Gz->List Rg->List Rg × Gz
 | 0,p,S=>(S,p)
 | f+1,p,S=>if p.e=0/\¬gNx s p=93 then zn1 db s run f (gBl s (gSt db s run p S).2) (gSt db s run p S).1 else (S,p)
def gMu (s:ByteArray) (p:Gz):Nat:=if p.e=0 then s.size+1 - p.k else 0
noncomputable def gLp (db:Db) (s:ByteArray) (run:Gz->List Rg × Gz) (p:Gz) (S:List Rg):List Rg × Gz:=zn1 db s run (gMu s p) p S
noncomputable def gEn (s:ByteArray) (neg:Bool) (r:List Rg × Gz):List Rg × Gz:=(if neg=true then zr [(0,1114111)] r.1 3 else r.1,gWt s r.2 93)
noncomputable def gBd (db:Db) (s:ByteArray) (run:Gz->List Rg × Gz) (p1:Gz):List Rg × Gz:=if gNx s p1=94 then gEn s true (gLp db s run (gBl s (gAd p1)) []) else gEn s false (gLp db s run p1 [])
noncomputable def gGr (db:Db) (s:ByteArray):Nat->Gz->List Rg × Gz
 | 0,p=>([],gFl p 13 p.k)
 | n+1,p=>gBd db s (gGr db s n) (gBl s (gWt s p 91))
structure GR (s:ByteArray) (p:Gz) (r:List Rg × Gz):Prop where
 mv:GM s p r.2
 go:r.2.e=0->p.k<r.2.k
 l0:r.2.e=0->r.1.length+6*p.k<=6*r.2.k
 l1:r.1.length+6*p.k<=6*r.2.k+17
theorem GR.of {p q:Gz}(h:GM s p q) (g:GR s q r):GR s p r:=by
 have:=h.lo;exact ⟨h.trans g.mv,fun e=>Nat.lt_of_le_of_lt h.lo (g.go e),fun e=>by have:=g.l0 e;omega,by have:=g.l1;omega⟩
theorem GR.cs {p:Gz}(hd:SmD db) (h:gCl s p=true):GR s p (gCs db s p):=by
 have h1:=of_decide_eq_true h;obtain ⟨g1,g2,g3⟩:=gCs_k (p:=p) hd (s:=s) (by omega)
 have:=g1.lo;exact ⟨g1,fun e=>by have:=g3 e;omega,fun e=>by have:=g3 e;omega,by omega⟩
theorem GR.pr {p:Gz}(h:p.k<=s.size):GR s p (gPr s p):=by
 obtain ⟨g1,g2,g3⟩:=gPr_k h;have:=g1.lo;exact ⟨g1,g3,fun e=>by have:=g3 e;omega,by omega⟩
def RunG (s:ByteArray) (run:Gz->List Rg × Gz):Prop:=∀ p,p.k<=s.size->GR s p (run p)
theorem gOp1_r (hd:SmD db) (hr:RunG s run) {p:Gz}(h:p.k<=s.size):GR s p (gOp1 db s run p):=by
 unfold gOp1;split
 ·exact hr p h
 ·split
  ·exact GR.cs hd (by assumption)
  ·have h1:=GM.wt (s:=s) (p:=p) (b:=92) (by decide) h;have h2:=h1.trans (GM.fl (c:=3) (a:=(gWt s p 92).k) (by decide) h1.hi)
   have h3:¬(gFl (gWt s p 92) 3 (gWt s p 92).k).e=0:=yq (by decide)
   exact ⟨h2,fun e=>absurd e h3,fun e=>absurd e h3,by have:=h2.lo;show 0+6*p.k<=6*(gFl (gWt s p 92) 3 (gWt s p 92).k).k+17;omega⟩
theorem znz (hd:SmD db) (hr:RunG s run) {p:Gz}(h:p.k<=s.size):GR s p (gOp db s run p):=by
 have h1:=GM.bl (s:=s) (p:=p) h;exact GR.of h1 (gOp1_r hd hr h1.hi)
structure GAt (s:ByteArray) (z p:Gz) (S:List Rg):Prop where
 mv:GM s z p
 l0:p.e=0->S.length+1+6*z.k<=6*p.k
 l1:S.length+1+6*z.k<=6*p.k+17
theorem GAt.add {z p q:Gz}{op:Int}(h:GAt s z p S) (he:p.e=0) (hq:GM s p q) (g:GR s q r):GAt s z r.2 (zr S r.1 op):=by
 have h1:=xL S r.1 op;have h2:=h.l0 he;have h3:=hq.lo;exact ⟨h.mv.trans (hq.trans g.mv),fun e=>by have:=g.l0 e;omega,by have:=g.l1;omega⟩
theorem GAt.bl (h:GAt s z p S):GAt s z (gBl s p) S:=by
 have h1:=GM.bl (s:=s) (p:=p) h.mv.hi;have:=h1.lo;exact ⟨h.mv.trans h1,fun e=>by have:=h.l0 (h1.st e);omega,by have:=h.l1;omega⟩
theorem GAt.bound (h:GAt s z p S) (hs:s.size<=1000):S.length<=6017:=by
 have h1:=h.l1;have h2:=h.mv.hi;omega
theorem GR.bound {p:Gz}(h:GR s p r) (hs:s.size<=1000):r.1.length<=6017:=by
 have h1:=h.l1;have h2:=h.mv.hi;omega
theorem zfx (hd:SmD db) (hr:RunG s run) (h:GAt s z p S) (he:p.e=0):GAt s z (gSt db s run p S).2 (gSt db s run p S).1/\((gSt db s run p S).2.e=0->p.k<(gSt db s run p S).2.k):=by
 have key:∀ {q:Gz}{r:List Rg × Gz}(op:Int),gSt db s run p S=(zr S r.1 op,r.2)->GM s p q->GR s q r->GAt s z (gSt db s run p S).2 (gSt db s run p S).1/\((gSt db s run p S).2.e=0->p.k<(gSt db s run p S).2.k):=by
  intro q r op e hq g;rw[e];exact ⟨GAt.add (op:=op) h he hq g,fun e=>Nat.lt_of_le_of_lt hq.lo (g.go e)⟩
 by_cases h38:gNx s p=38
 ·have h1:=GM.ad (s:=s) (p:=p) (by rw[h38];decide)
  exact key 2 (by unfold gSt;rw[if_pos h38]) h1 (znz hd hr h1.hi)
 ·by_cases h45:gNx s p=45
  ·have h1:=GM.ad (s:=s) (p:=p) (by rw[h45];decide)
   have h3:=h1.trans (GM.wt (b:=45) (by decide) h1.hi)
   exact key 3 (by unfold gSt;rw[if_neg h38,if_pos h45]) h3 (znz hd hr h3.hi)
  ·by_cases hc:gNx s p=91\/gCl s p=true
   ·exact key 1 (by unfold gSt;rw[if_neg h38,if_neg h45,if_pos hc]) (GM.refl h.mv.hi) (znz hd hr h.mv.hi)
   ·exact key 1 (by unfold gSt;rw[if_neg h38,if_neg h45,if_neg hc]) (GM.refl h.mv.hi) (GR.pr h.mv.hi)
theorem gMu_lt {p q:Gz}(he:p.e=0) (hp:p.k<=s.size) (h:q.e=0->p.k<q.k):gMu s q<gMu s p:=by
 unfold gMu;rw[if_pos he];split
 ·rename_i h1;have:=h h1;omega
 ·omega
theorem zfy (hd:SmD db) (hr:RunG s run) (h:GAt s z p S) (he:p.e=0):gMu s (gBl s (gSt db s run p S).2)<gMu s p:=by
 obtain ⟨g1,g2⟩:=zfx hd hr h he;refine gMu_lt he h.mv.hi fun e=>?_;have h1:=GM.bl (s:=s) (p:=(gSt db s run p S).2) g1.mv.hi;exact Nat.lt_of_lt_of_le (g2 (h1.st e)) h1.lo
theorem zlt {db:Db}{s:ByteArray}{run:Gz->List Rg × Gz}(hd:SmD db) (hr:RunG s run) {z:Gz}:∀ (n m:Nat) (p:Gz) (S:List Rg),GAt s z p S->gMu s p<=n->gMu s p<=m->zn1 db s run n p S=zn1 db s run m p S
 | 0,0,_,_,_,_,_=>rfl
 | 0,m+1,p,S,h,hn,_=>by
  have he:¬p.e=0:=fun he=>by
   have h2:=h.mv.hi;unfold gMu at hn;rw[if_pos he] at hn;omega
  rw[zn1,zn1,if_neg fun hh=>he hh.1]
 | n+1,0,p,S,h,_,hn=>by
  have he:¬p.e=0:=fun he=>by
   have h2:=h.mv.hi;unfold gMu at hn;rw[if_pos he] at hn;omega
  rw[zn1,zn1,if_neg fun hh=>he hh.1]
 | n+1,m+1,p,S,h,h1,h2=>by
  rw[zn1,zn1];by_cases hc:p.e=0/\¬gNx s p=93
  ·have h3:=zfy hd hr h hc.1;rw[if_pos hc,if_pos hc];exact zlt hd hr n m _ _ (zfx hd hr h hc.1).1.bl (by omega) (by omega)
  ·rw[if_neg hc,if_neg hc]
theorem zls (hd:SmD db) (hr:RunG s run) (h:GAt s z p S) (hc:p.e=0/\¬gNx s p=93):gLp db s run p S=gLp db s run (gBl s (gSt db s run p S).2) (gSt db s run p S).1:=by
 have h3:=zfy hd hr h hc.1;unfold gLp;obtain ⟨n,hn⟩:∃ n,gMu s p=n+1:=⟨gMu s p - 1,by omega⟩
 rw[hn,zn1,if_pos hc];exact zlt hd hr _ _ _ _ (zfx hd hr h hc.1).1.bl (by omega) (Nat.le_refl _)
theorem gLp_n {p:Gz}(hc:¬(p.e=0/\¬gNx s p=93)):gLp db s run p S=(S,p):=by
 unfold gLp;cases gMu s p with
 | zero=>rfl
 | succ n=>rw[zn1,if_neg hc]
theorem gLpF_r {db:Db}{s:ByteArray}{run:Gz->List Rg × Gz}(hd:SmD db) (hr:RunG s run) {z:Gz}:∀ (n:Nat) (p:Gz) (S:List Rg),GAt s z p S->GAt s z (zn1 db s run n p S).2 (zn1 db s run n p S).1
 | 0,_,_,h=>h
 | n+1,p,S,h=>by
  rw[zn1];split
  ·rename_i hc;exact gLpF_r hd hr n _ _ (zfx hd hr h hc.1).1.bl
  ·exact h
theorem gEn_r {z:Gz}{neg:Bool}(h:GAt s z r.2 r.1):GR s z (gEn s neg r):=by
 have h1:=GM.wt (s:=s) (p:=r.2) (b:=93) (by decide) h.mv.hi;have h2:=h1.lo;have h3:(gEn s neg r).1.length<=r.1.length+1:=by
  show (if neg=true then zr [(0,1114111)] r.1 3 else r.1).length<=_;split
  ·have:=xL [(0,1114111)] r.1 3;simp only[List.length_cons,List.length_nil] at this;omega
  ·omega
 have h4:=h.l1;refine ⟨h.mv.trans h1,fun e=>?_,fun e=>?_,?_⟩
 ·have:=h.l0 (h1.st e)
  show z.k<(gWt s r.2 93).k;omega
 ·have:=h.l0 (h1.st e)
  show (gEn s neg r).1.length+6*z.k<=6*(gWt s r.2 93).k;omega
 ·show (gEn s neg r).1.length+6*z.k<=6*(gWt s r.2 93).k+17;omega
theorem gBd_at {z:Gz}(h:z.k<=s.size):GAt s z (gBl s (gWt s z 91)) []:=by
 have h1:=GM.wt (s:=s) (p:=z) (b:=91) (by decide) h;have h2:=GM.bl (s:=s) (p:=gWt s z 91) h1.hi;have h3:=h2.lo;have h4:=h1.lo;refine ⟨h1.trans h2,fun e=>?_,by show 0+1+6*z.k<=_;omega⟩
 have h5:=h2.st e;have h6:z.k+1<=(gWt s z 91).k:=by
  unfold gWt at h5 ⊢;split
  ·exact Nat.le_refl _
  ·rename_i hn;rw[if_neg hn] at h5;exact absurd h5 (yq (by decide))
 show 0+1+6*z.k<=_;omega
theorem gBd_r (hd:SmD db) (hr:RunG s run) (h:GAt s z p []):GR s z (gBd db s run p):=by
 unfold gBd;split
 ·rename_i hn;have h1:=GM.ad (s:=s) (p:=p) (by rw[hn];decide)
  have h2:=h1.trans (GM.bl h1.hi)
  have h3:GAt s z (gBl s (gAd p)) []:=by
   have:=h2.lo;exact ⟨h.mv.trans h2,fun e=>by have:=h.l0 (h2.st e);omega,by have:=h.l1;omega⟩
  exact gEn_r (gLpF_r hd hr _ _ _ h3)
 ·exact gEn_r (gLpF_r hd hr _ _ _ h)
theorem uw {db:Db}{s:ByteArray}(hd:SmD db):∀ n,RunG s (gGr db s n)
 | 0=>fun p h=>by
  have h1:=GM.fl (s:=s) (p:=p) (c:=13) (a:=p.k) (by decide) h;have h2:¬(gFl p 13 p.k).e=0:=yq (by decide)
  exact ⟨h1,fun e=>absurd e h2,fun e=>absurd e h2,by show 0+6*p.k<=6*(gFl p 13 p.k).k+17;rw[zn2];omega⟩
 | n+1=>fun p h=>gBd_r hd (uw hd n) (gBd_at h)
noncomputable def ocGG (n:Nat):Oc:=ocG Int (List Rg) (fun d=>[.v (.int .i64 d)]) zR (fun _ d=>d=17 - n) (fun i _=>gGr i.1 i.2.1 n i.2.2)
noncomputable def ocGO (n:Nat):Oc:=ocG Int (List Rg) (fun d=>[.v (.int .i64 d)]) zR (fun _ d=>d=17 - n) (fun i _=>gOp i.1 i.2.1 (gGr i.1 i.2.1 n) i.2.2)
noncomputable def Γgv (mx:Int) (pb:Bool) (n:Nat):Ctx:=fun f=>match f with
 | 166=>some (.obj ocGn)
 | 136=>some (.obj ocGf)
 | 134=>some (.obj ocGb)
 | 167=>some (.obj ocGw)
 | 171=>some (.obj ocGl)
 | 197=>some (.obj ocGs)
 | 135=>some (.obj (ocGG n))
 | _=>none
theorem Γgv_ok {n:Nat}(hG:SQ mx pb 135 (ocGG n)):CK mx pb (Γgv mx pb n):=by
 intro f h hh;simp only[Γgv] at hh;split at hh<;>simp at hh<;>subst hh
 ·exact zb1
 ·exact zb2
 ·exact zlu
 ·exact zhw
 ·exact gCl_ok
 ·exact gCs_ok
 ·exact hG
theorem gOp_ok {n:Nat}(hG:SQ mx pb 135 (ocGG n)):SQ mx pb 169 (ocGO n):=by
 refine so (cc:=true) (Γgv_ok hG) Tryz.func169 (fun x=>zg x.1.1 x.1.2.1 x.1.2.2) (fun _=>rfl) (fun x=>zg x.1.1 x.1.2.1 x.2.2.2) ?_;rintro ⟨⟨db,s,p⟩,d,L,q⟩ ⟨⟨hsm,hs,hk⟩,hd,hr⟩
 replace hsm:SmD db:=hsm;replace hs:s.size<=1000:=hs;replace hk:p.k<=s.size:=hk;replace hd:d=17 - n:=hd;replace hr:gOp1 db s (gGr db s n) (gBl s p)=(L,q):=hr;have hk1:=(zlv hk).2;generalize hp1:gBl s p=p1 at hr hk1;refine gw ?_;refine ⟨(((db,s,p),(),(),p1):GI × Unit × Unit × Gz),obE (zg db s p),eL,⟨⟨hsm,hs,hk⟩,trivial,(by show ((),gBl s p)=((),p1);rw[hp1])⟩,?_⟩
 clear hp1;refine gw ?_;refine ⟨((db,s,p1):GI),obE (zg db s p1),eL,hs,?_⟩
 unfold gOp1 at hr;by_cases h91:gNx s p1=91
 ·rw[if_pos h91] at hr
  repeat' first|refine gw ?_|refine bs ?_ ?_<;>intro q_
  all_goals first|(exfalso;omega)|skip
  refine ⟨(((db,s,p1),d,L,q):GI × Int × List Rg × Gz),obE (zg db s p1),eL,⟨⟨hsm,hs,hk1⟩,hd,hr⟩,?_⟩
  refine gw ?_;exact And.intro (zd rfl rfl) (And.intro rfl (obE (zg db s q)))
 ·rw[if_neg h91] at hr
  repeat' first|refine gw ?_|refine bs ?_ ?_<;>intro q_
  all_goals first|(exfalso;omega)|skip
  refine ⟨((db,s,p1):GI),obE (zg db s p1),eL,⟨hs,hk1⟩,?_⟩
  cases hc:gCl s p1
  ·rw[hc,if_neg (by decide)] at hr;obtain ⟨rfl,rfl⟩:=Prod.mk.inj hr;have ho:ocGl.res ((db,s,p1):GI)=.inl (.v (.bool false)):=congrArg (fun x=>Sum.inl (D.v (.bool x))) hc;rw[ho];have hk2:=(zg0 (s:=s) (p:=p1) (b:=92) (by decide) hk1).2;generalize hp2:gWt s p1 92=p2 at hk2 ⊢;refine gw ?_;refine ⟨(((db,s,p1),92,(),p2):GI × Int × Unit × Gz),obE (zg db s p1),eL,⟨⟨hsm,hs,hk1⟩,(by show (0:Int)<92/\(92:Int)<=255;decide),(by show ((),gWt s p1 92)=((),p2);rw[hp2])⟩,?_⟩
   refine gw ?_;refine ⟨(((db,s,p2),(3,(p2.k:Int)),(),gFl p2 3 p2.k):GI × (Int × Int) × Unit × Gz),obE (zg db s p2),eL,⟨⟨hsm,hs,hk2⟩,trivial,rfl⟩,?_⟩
   refine gw ?_;exact And.intro (EntR.of rfl (Ent.ag (EntL.cons Ent.nil eL))) (And.intro rfl (obE (zg db s (gFl p2 3 p2.k))))
  ·rw[hc,if_pos rfl] at hr;have ho:ocGl.res ((db,s,p1):GI)=.inl (.v (.bool true)):=congrArg (fun x=>Sum.inl (D.v (.bool x))) hc;rw[ho];refine gw ?_;refine ⟨(((db,s,p1),(),L,q):GI × Unit × List Rg × Gz),obE (zg db s p1),eL,⟨⟨hsm,hs,hk1⟩,hc,hr⟩,?_⟩
   refine gw ?_;exact And.intro (zd rfl rfl) (And.intro rfl (obE (zg db s q)))
end Go.Proofs
