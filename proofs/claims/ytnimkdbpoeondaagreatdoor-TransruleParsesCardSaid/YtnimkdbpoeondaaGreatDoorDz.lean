import Derived.Test.YtnimkdbpoeondaaGreatDoorQz
import Derived.Test.YtnimkdbpoeondaaGreatDoorMz
set_option linter.all false
set_option maxHeartbeats 4000000
namespace Go.Proofs
open Go Go.Sx
variable {mx:Int}{pb:Bool}
structure Db where
 maj:Int
 mnr:Int
 prs:Nat->Pr
 cls:List Sp
 sts:Nat->List Rg
 mps:Nat->List Mp
instance:Inhabited Db:=⟨⟨0,0,fun _=>default,[],fun _=>[],fun _=>[]⟩⟩
def dbL (d:Db):List D :=
 [.v (.int .i64 d.maj),.v (.int .i64 d.mnr),
  slD 1 vg (d.prs 0).names,zei (d.prs 0).spans,slD 1 vg (d.prs 1).names,zei (d.prs 1).spans,slD 1 vg (d.prs 2).names,zei (d.prs 2).spans,slD 1 vg (d.prs 3).names,zei (d.prs 3).spans,
  slD 1 vg (d.prs 4).names,zei (d.prs 4).spans,slD 1 vg (d.prs 5).names,zei (d.prs 5).spans,slD 1 vg (d.prs 6).names,zei (d.prs 6).spans,
  zei d.cls,za0 (d.mps 0),xE (d.sts 0),za0 (d.mps 1),za0 (d.mps 2),za0 (d.mps 3),za0 (d.mps 4),xE (d.sts 1),xE (d.sts 2),xE (d.sts 3),xE (d.sts 4),xE (d.sts 5),za0 (d.mps 5)]
def dbA (d:Db):D:=.ag (dbL d)
def filesL:List ByteArray:=[
 ⟨#[118,101,114,115,105,111,110]⟩,
 ⟨#[99,97,116,101,103,111,114,121]⟩,
 ⟨#[119,105,100,116,104]⟩,
 ⟨#[115,99,114,105,112,116]⟩,
 ⟨#[103,114,97,112,104,101,109,101]⟩,
 ⟨#[119,111,114,100]⟩,
 ⟨#[115,101,110,116,101,110,99,101]⟩,
 ⟨#[108,105,110,101]⟩,
 ⟨#[99,108,97,115,115,101,115]⟩,
 ⟨#[100,101,99,111,109,112,111,115,105,116,105,111,110]⟩,
 ⟨#[101,120,99,108,117,115,105,111,110,115]⟩,
 ⟨#[108,111,119,101,114]⟩,
 ⟨#[117,112,112,101,114]⟩,
 ⟨#[116,105,116,108,101]⟩,
 ⟨#[102,111,108,100]⟩,
 ⟨#[99,97,115,101,100]⟩,
 ⟨#[105,103,110,111,114,97,98,108,101]⟩,
 ⟨#[115,116,97,114,116]⟩,
 ⟨#[99,111,110,116,105,110,117,101]⟩,
 ⟨#[109,101,100,105,97,108]⟩,
 ⟨#[99,111,110,102,117,115,97,98,108,101]⟩]
inductive Pt where
 | pr (p:Pr)
 | cl (l:List Sp)
 | st (l:List Rg)
 | mp (l:List Mp)
def partOf (d:Db):Nat->Pt
 | 0=>.pr (d.prs 0)
 | 1=>.pr (d.prs 1)
 | 2=>.pr (d.prs 2)
 | 3=>.pr (d.prs 3)
 | 4=>.pr (d.prs 4)
 | 5=>.pr (d.prs 5)
 | 6=>.pr (d.prs 6)
 | 7=>.cl d.cls
 | 8=>.mp (d.mps 0)
 | 9=>.st (d.sts 0)
 | 10=>.mp (d.mps 1)
 | 11=>.mp (d.mps 2)
 | 12=>.mp (d.mps 3)
 | 13=>.mp (d.mps 4)
 | 14=>.st (d.sts 1)
 | 15=>.st (d.sts 2)
 | 16=>.st (d.sts 3)
 | 17=>.st (d.sts 4)
 | 18=>.st (d.sts 5)
 | _=>.mp (d.mps 5)
structure Pc where
 lo:Int
 hi:Int
 s:ByteArray
instance:Inhabited Pc:=⟨⟨0,0,⟨#[]⟩⟩⟩
def AscP:Int->List Pc->Prop
 | b,[]=>b<=1114112
 | b,p::ps=>b<=p.lo/\p.lo<=p.hi/\p.hi<=1114111/\AscP (p.hi+1) ps
theorem AscP.le:∀ {ps:List Pc}{b:Int},AscP b ps->b<=1114112
 | [],_,h=>h
 | p::ps,b,h=>by have h1:=h.1;have h2:=h.2.1;have h3:=h.2.2.1;omega
theorem AscP.mem:∀ {ps:List Pc}{b:Int}{q:Pc},AscP b ps->q∈ps->b<=q.lo/\q.lo<=q.hi/\q.hi<=1114111
 | [],_,_,_,h=>by simp at h
 | p::ps,b,q,h,hq=>by
  rcases List.mem_cons.1 hq with rfl|hq
  ·exact ⟨h.1,h.2.1,h.2.2.1⟩
  ·have:=AscP.mem h.2.2.2 hq;have h1:=h.1;have h2:=h.2.1;omega
def za7:Ct:={ ι:=Unit,inp:=fun _=>[],out:=fun _=>slD 1 vg filesL,pre:=fun _=>True }
theorem zav:SS mx pb 12 za7:=by
 refine sb (cc:=true) zH Tryz.func12 ?_;intro (u:Unit) _;refine gl ?_;exact EntR.of rfl (ue rfl rfl)
theorem pFiles_ok:SS mx pb 239 za7:=by
 refine sb (cc:=true) zH Tryz.func239 ?_;intro (u:Unit) _;refine gl ?_;exact EntR.of rfl (ue rfl rfl)
def ctPropI:Ct:={ ι:=Db × Int,inp:=fun x=>[dbA x.1,.v (.int .i64 x.2)],out:=fun x=>prA (x.1.prs x.2.toNat),pre:=fun x=>0<=x.2/\x.2<7 }
theorem ziu:SS mx pb 9 ctPropI:=by
 refine sb (cc:=true) zH Tryz.func9 ?_;rintro ⟨(d:Db),(i:Int)⟩ ⟨(h0:0<=i),(h7:i<7)⟩
 repeat' first|refine gl ?_|refine bs ?_ ?_<;>intro q_
 all_goals first
  | (exfalso;omega)
  | (subst q_;exact eR)
  | (obtain rfl:i=6:=by omega
     exact eR)
def ctSetI:Ct:={ ι:=Db × Int,inp:=fun x=>[dbA x.1,.v (.int .i64 x.2)],out:=fun x=>zR (x.1.sts x.2.toNat),pre:=fun x=>0<=x.2/\x.2<6 }
theorem znf:SS mx pb 11 ctSetI:=by
 refine sb (cc:=true) zH Tryz.func11 ?_;rintro ⟨(d:Db),(i:Int)⟩ ⟨(h0:0<=i),(h7:i<6)⟩
 repeat' first|refine gl ?_|refine bs ?_ ?_<;>intro q_
 all_goals first
  | (exfalso;omega)
  | (subst q_;exact eR)
  | (obtain rfl:i=5:=by omega
     exact eR)
def mapI (d:Db):Nat->List Mp
 | 9=>d.mps 0
 | 11=>d.mps 1
 | 12=>d.mps 2
 | 13=>d.mps 3
 | 14=>d.mps 4
 | _=>d.mps 5
theorem mapI_ex (d:Db) (k:Nat):∃ i,i<6/\mapI d k=d.mps i:=by
 unfold mapI;split
 ·exact ⟨0,by decide,rfl⟩
 ·exact ⟨1,by decide,rfl⟩
 ·exact ⟨2,by decide,rfl⟩
 ·exact ⟨3,by decide,rfl⟩
 ·exact ⟨4,by decide,rfl⟩
 ·exact ⟨5,by decide,rfl⟩
theorem mapI_all {d:Db}{p:List Mp->Prop}(h:∀ k,k<21->p (mapI d k)):∀ i,i<6->p (d.mps i):=fun i hi=>by
 match i,hi with
 | 0,_=>exact h 9 (by decide)
 | 1,_=>exact h 11 (by decide)
 | 2,_=>exact h 12 (by decide)
 | 3,_=>exact h 13 (by decide)
 | 4,_=>exact h 14 (by decide)
 | 5,_=>exact h 20 (by decide)
theorem uN:filesL.length=21:=rfl
def ctMapI:Ct:={ ι:=Db × Int,inp:=fun x=>[dbA x.1,.v (.int .i64 x.2)],out:=fun x=>za0 (mapI x.1 x.2.toNat),pre:=fun x=>0<=x.2/\x.2<21 }
def Γfl:Ctx:=fun f=>match f with
 | 12=>some (.pure za7)
 | _=>none
theorem Γfl_ok:CK mx pb Γfl:=by
 intro f h hh;simp only[Γfl] at hh;split at hh<;>simp at hh<;>subst hh
 ·exact zav
theorem rMapI_ok:SS mx pb 14 ctMapI:=by
 refine sb (cc:=true) Γfl_ok Tryz.func14 ?_;rintro ⟨(d:Db),(i:Int)⟩ ⟨(h0:0<=i),(h7:i<21)⟩
 obtain ⟨n,rfl⟩:∃ n:Nat,i=n:=⟨i.toNat,by omega⟩
 have hn:n<21:=by omega
 have hlen:=uN
 match n,hn with
 | 0,_ =>
  refine gl ?_;exact eR
 | 1,_ =>
  refine gl ?_;exact eR
 | 2,_ =>
  refine gl ?_;exact eR
 | 3,_ =>
  refine gl ?_;exact eR
 | 4,_ =>
  refine gl ?_;exact eR
 | 5,_ =>
  refine gl ?_;exact eR
 | 6,_ =>
  refine gl ?_;exact eR
 | 7,_ =>
  refine gl ?_;exact eR
 | 8,_ =>
  refine gl ?_;exact eR
 | 9,_ =>
  refine gl ?_;exact eR
 | 10,_ =>
  refine gl ?_;exact eR
 | 11,_ =>
  refine gl ?_;exact eR
 | 12,_ =>
  refine gl ?_;exact eR
 | 13,_ =>
  refine gl ?_;exact eR
 | 14,_ =>
  refine gl ?_;exact eR
 | 15,_ =>
  refine gl ?_;exact eR
 | 16,_ =>
  refine gl ?_;exact eR
 | 17,_ =>
  refine gl ?_;exact eR
 | 18,_ =>
  refine gl ?_;exact eR
 | 19,_ =>
  refine gl ?_;exact eR
 | 20,_ =>
  refine gl ?_;exact eR
structure SmD (d:Db):Prop where
 cls:d.cls.length<=16
 prs:∀ i,i<7->(d.prs i).names.length<=30/\(d.prs i).spans.length<=16
 sts:∀ i,i<6->(d.sts i).length<=12
 mps:∀ i,i<6->zck (d.mps i)=true
open Classical in
noncomputable def smDb (d:Db):Bool:=decide (SmD d)
theorem smDb_t {d:Db}(h:SmD d):true=smDb d:=(@decide_eq_true _ (Classical.propDecidable _) h).symm
theorem zku {d:Db}(h:¬SmD d):false=smDb d:=(@decide_eq_false _ (Classical.propDecidable _) h).symm
theorem smDb_iff {d:Db}:smDb d=true↔SmD d:=by
 unfold smDb;exact @decide_eq_true_iff _ (Classical.propDecidable _)
def fitDb (d:Db):Prop:=∀ i,(d.mps i).length<=9223372036854775807
noncomputable def ctSmDb:Ct:={ ι:=Db,inp:=fun d=>[dbA d],out:=fun d=>.v (.bool (smDb d)),pre:=fitDb }
noncomputable def Γsm:Ctx:=fun f=>match f with
 | 12=>some (.pure za7)
 | 9=>some (.pure ctPropI)
 | 11=>some (.pure ctSetI)
 | 14=>some (.pure ctMapI)
 | 10=>some (.pure ctSm2)
 | 13=>some (.pure ctSmall)
 | _=>none
theorem Γsm_ok:CK mx pb Γsm:=by
 intro f h hh;simp only[Γsm] at hh;split at hh<;>simp at hh<;>subst hh
 ·exact zav
 ·exact ziu
 ·exact znf
 ·exact rMapI_ok
 ·exact r2Small_ok
 ·exact rsmall_ok
theorem rSmDb_ok:SS mx pb 4 ctSmDb:=by
 refine sb (cc:=true) Γsm_ok Tryz.func4 ?_;intro (d:Db) (hd:fitDb d)
 repeat' first|refine gl ?_|refine bs ?_ ?_<;>intro q_
 ·exact ze (zku fun h=>by have:=h.cls;omega)
 have hcls:=q_;refine ⟨0,Nat,fun k=>⟨[(1,.own 0 0),(3,.v (.int .i64 k))],[.cells 39 (dbL d)],[]⟩,fun k=>k<=7/\∀ j,j<k->(d.prs j).names.length<=30/\(d.prs j).spans.length<=16,fun k=>7 - k,fun _=>Nat.zero_le _,⟨0,⟨Nat.zero_le _,fun j hj=>by omega⟩,(sr [0])⟩,?_⟩
 rintro k ⟨hk,hdk⟩
 by_cases hlt:k<7
 ·have p1:ctPropI.pre (d,(k:Int)):=⟨by show 0<=(k:Int);omega,by show (k:Int)<7;omega⟩
  repeat' first|refine gl ?_|refine bs ?_ ?_<;>intro q_
  all_goals first
   | exact ze (zku fun h=>by have:=h.prs k hlt;omega)
   | exact ⟨k+1,⟨by omega,zo hdk ⟨by omega,by omega⟩⟩,(by show 7 - (k+1)<7 - k;omega),(sr [0])⟩
 have e7:k=7:=by omega
 subst e7;refine gl ?_;refine ⟨0,Nat,fun k=>⟨[(1,.own 0 0),(5,.v (.int .i64 k))],[.cells 39 (dbL d)],[]⟩,fun k=>k<=6/\∀ j,j<k->(d.sts j).length<=12,fun k=>6 - k,fun _=>Nat.zero_le _,⟨0,⟨Nat.zero_le _,fun j hj=>by omega⟩,(sr [0])⟩,?_⟩
 rintro k ⟨hk,hds⟩
 by_cases hlt:k<6
 ·have p1:ctSetI.pre (d,(k:Int)):=⟨by show 0<=(k:Int);omega,by show (k:Int)<6;omega⟩
  repeat' first|refine gl ?_|refine bs ?_ ?_<;>intro q_
  all_goals first
   | exact ze (zku fun h=>by have:=h.sts k hlt;omega)
   | exact ⟨k+1,⟨by omega,zo hds (by omega)⟩,(by show 6 - (k+1)<6 - k;omega),(sr [0])⟩
 have e6:k=6:=by omega
 subst e6;refine gl ?_;refine ⟨0,Nat,fun k=>⟨[(1,.own 0 0),(6,.v (.int .i64 k))],[.cells 39 (dbL d)],[]⟩,fun k=>k<=21/\∀ j,j<k->zck (mapI d j)=true,fun k=>21 - k,fun _=>Nat.zero_le _,⟨0,⟨Nat.zero_le _,fun j hj=>by omega⟩,(sr [0])⟩,?_⟩
 rintro k ⟨hk,hdm⟩
 have hlen:=uN;by_cases hlt:k<21
 ·have p1:ctMapI.pre (d,(k:Int)):=⟨by show 0<=(k:Int);omega,by show (k:Int)<21;omega⟩
  have p2:ctSmall.pre (mapI d k):=by
   obtain ⟨i,_,e⟩:=mapI_ex d k;rw[e];exact hd i
  repeat' first|refine gl ?_|refine bs ?_ ?_<;>intro q_
  ·refine ze (zku fun h=>?_)
   obtain ⟨i,hi,e⟩:=mapI_ex d k;rw[e,h.mps i hi] at q_;exact Bool.noConfusion q_
  ·exact ⟨k+1,⟨by omega,zo hdm q_⟩,(by show 21 - (k+1)<21 - k;omega),(sr [0])⟩
 ·refine gl ?_;exact ze (smDb_t ⟨by omega,hdk,hds,mapI_all (p:=fun l=>zck l=true) fun j hj=>hdm j (by omega)⟩)
theorem cat0E {α:Type} [Inhabited α] {enc:α->Nat->D}(l:List α) (f:Nat->Nat->D) (i j:Nat):zgi 0 f (fun i j=>enc (l.getD i default) j) i j=enc (l.getD i default) j:=by simp[zgi]
def zac {α:Type} [Inhabited α] (sz:Nat) (enc:α->Nat->D):Ct:={ ι:=List α,inp:=fun l=>[slD sz enc l],out:=fun l=>slD sz enc l,pre:=fun l=>l.length<=1000000 }
theorem cloneS_ok:SS mx pb 226 (zac 1 vg):=by
 refine sb (cc:=true) zH Tryz.func226 ?_;intro (l:List ByteArray) (hl:l.length<=1000000)
 refine gA ?_;intro q hq;refine gA ?_;refine And.intro (fun h=>?_) (fun h=>?_)
 ·have hq:l.length=0:=hq (by simpa using h)
  have e:l=[]:=List.length_eq_zero_iff.1 hq;subst e;refine gA ?_;exact EntR.of rfl Ent.nil
 ·refine gA ?_;refine And.intro (show 0+l.length<=_ by omega) (And.intro (show (0+l.length)*16<=_ by omega) ?_)
  refine gA ?_;refine EntR.of rfl (Ent.sl (show 0+l.length=l.length by omega) fun i hi j hj=>Ent.of_eq ?_)
  show zgi 0 _ (fun i j=>vg (l.getD i default) j) i j=_;exact cat0E (enc:=vg) l _ i j
theorem clonePs_ok:SS mx pb 227 (zac 3 spD):=by
 refine sb (cc:=true) zH Tryz.func227 ?_;intro (l:List Sp) (hl:l.length<=1000000)
 refine gA ?_;intro q hq;refine gA ?_;refine And.intro (fun h=>?_) (fun h=>?_)
 ·have hq:l.length=0:=hq (by simpa using h)
  have e:l=[]:=List.length_eq_zero_iff.1 hq;subst e;refine gA ?_;exact EntR.of rfl Ent.nil
 ·refine gA ?_;refine And.intro (show 0+l.length<=_ by omega) (And.intro (show (0+l.length)*24<=_ by omega) ?_)
  refine gA ?_;refine EntR.of rfl (Ent.sl (show 0+l.length=l.length by omega) fun i hi j hj=>Ent.of_eq ?_)
  show zgi 0 _ (fun i j=>spD (l.getD i default) j) i j=_;exact cat0E (enc:=spD) l _ i j
theorem cloneR_ok:SS mx pb 224 (zac 2 rgD):=by
 refine sb (cc:=true) zH Tryz.func224 ?_;intro (l:List Rg) (hl:l.length<=1000000)
 refine gA ?_;intro q hq;refine gA ?_;refine And.intro (fun h=>?_) (fun h=>?_)
 ·have hq:l.length=0:=hq (by simpa using h)
  have e:l=[]:=List.length_eq_zero_iff.1 hq;subst e;refine gA ?_;exact EntR.of rfl Ent.nil
 ·refine gA ?_;refine And.intro (show 0+l.length<=_ by omega) (And.intro (show (0+l.length)*16<=_ by omega) ?_)
  refine gA ?_;refine EntR.of rfl (Ent.sl (show 0+l.length=l.length by omega) fun i hi j hj=>Ent.of_eq ?_)
  show zgi 0 _ (fun i j=>rgD (l.getD i default) j) i j=_;exact cat0E (enc:=rgD) l _ i j
noncomputable def cPAt:Code:=(Tryz.f225.body).getD .skip
noncomputable def cSAt:Code:=(Tryz.f223.body).getD .skip
noncomputable def Γdp (mx:Int) (pb:Bool):Ctx:=fun f=>match f with
 | 226=>some (.pure (zac 1 vg))
 | 227=>some (.pure (zac 3 spD))
 | 224=>some (.pure (zac 2 rgD))
 | 225=>some (.gen (zds true Γ0 Tryz.T (GlT mx pb) Tryz.f225 cPAt))
 | 223=>some (.gen (zds true Γ0 Tryz.T (GlT mx pb) Tryz.f223 cSAt))
 | _=>none
theorem Γdp_ok:CK mx pb (Γdp mx pb):=by
 intro f h hh;simp only[Γdp] at hh;split at hh<;>simp at hh<;>subst hh
 ·exact cloneS_ok
 ·exact clonePs_ok
 ·exact cloneR_ok
 ·exact si zH Tryz.func225
 ·exact si zH Tryz.func223
def ctDbPr:Ct:={ ι:=Db × Nat,inp:=fun x=>[dbA x.1,.v (.int .i64 x.2)],out:=fun x=>prA (x.1.prs x.2),pre:=fun x=>x.2<7/\(x.1.prs x.2).names.length<=1000000/\(x.1.prs x.2).spans.length<=1000000 }
theorem pDbPr_ok:SS mx pb 206 ctDbPr:=by
 refine sb (cc:=true) Γdp_ok Tryz.func206 ?_;rintro ⟨(d:Db),(k:Nat)⟩ ⟨hk,hn,hs⟩
 have p1:(zac 1 vg).pre (d.prs k).names:=hn;have p2:(zac 3 spD).pre (d.prs k).spans:=hs
 match k,hk with
 | 0,_ =>
  refine gl ?_;exact eR
 | 1,_ =>
  refine gl ?_;exact eR
 | 2,_ =>
  refine gl ?_;exact eR
 | 3,_ =>
  refine gl ?_;exact eR
 | 4,_ =>
  refine gl ?_;exact eR
 | 5,_ =>
  refine gl ?_;exact eR
 | 6,_ =>
  refine gl ?_;exact eR
 | k0+7,h=>exact absurd (show k0+7<7 from h) (by omega)
def ctDbSt:Ct:={ ι:=Db × Nat,inp:=fun x=>[dbA x.1,.v (.int .i64 x.2)],out:=fun x=>zR (x.1.sts x.2),pre:=fun x=>x.2<6/\(x.1.sts x.2).length<=1000000 }
theorem pDbSt_ok:SS mx pb 205 ctDbSt:=by
 refine sb (cc:=true) Γdp_ok Tryz.func205 ?_;rintro ⟨(d:Db),(k:Nat)⟩ ⟨hk,hs⟩
 have p1:(zac 2 rgD).pre (d.sts k):=hs
 match k,hk with
 | 0,_ =>
  refine gl ?_;exact eR
 | 1,_ =>
  refine gl ?_;exact eR
 | 2,_ =>
  refine gl ?_;exact eR
 | 3,_ =>
  refine gl ?_;exact eR
 | 4,_ =>
  refine gl ?_;exact eR
 | 5,_ =>
  refine gl ?_;exact eR
 | k0+6,h=>exact absurd (show k0+6<6 from h) (by omega)
end Go.Proofs
