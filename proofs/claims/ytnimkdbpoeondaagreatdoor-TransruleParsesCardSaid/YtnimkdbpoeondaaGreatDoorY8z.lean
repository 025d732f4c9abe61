import Derived.Test.YtnimkdbpoeondaaGreatDoorY3z
import Derived.Test.YtnimkdbpoeondaaGreatDoorY7z
import Derived.Test.YtnimkdbpoeondaaGreatDoorRz
set_option linter.all false
set_option maxHeartbeats 4000000
namespace Go.Proofs
open Go Go.Sx
variable {mx:Int}{pb:Bool}
attribute [local irreducible] zbs zbi yf xD
def tl0:Tl:=⟨[],[],[],[]⟩
noncomputable def lnT (d:Db) (s:ByteArray):Tl:=(lnP d s).getD tl0
noncomputable def lnE (d:Db) (s:ByteArray):Int:=match lnP d s with|some _=>0|none=>3
noncomputable def ctPd:Ct:={ ι:=Db × ByteArray,inp:=fun x=>[dbA x.1,.v (.string x.2)],out:=fun x=>.tu [tlA (lnT x.1 x.2),.v (.int .i64 (lnE x.1 x.2))],pre:=fun x=>SmD x.1/\x.2.size<=65536 }
theorem xZ {d:Db}{s:ByteArray}(h:lnP d s=none):ctPd.out (d,s)=.tu [tlA tl0,.v (.int .i64 3)]:=by
 show D.tu [tlA (lnT d s),.v (.int .i64 (lnE d s))]=_;unfold lnT lnE;rw[h];rfl
theorem zfl {d:Db}{s:ByteArray}{y:Tl}(h:lnP d s=some y):ctPd.out (d,s)=.tu [tlA y,.v (.int .i64 0)]:=by
 show D.tu [tlA (lnT d s),.v (.int .i64 (lnE d s))]=_;unfold lnT lnE;rw[h];rfl
abbrev TkI:=RX × Int × Bool × RX
abbrev ElI:=RX × Unit × OutR
theorem elP {α:Type}{o o':OutS α}{f:List α->D}(h:o=o'):o.p f=o'.p f:=by rw[h]
theorem zaj:Ent (.tu [.ag [zke,zke,zke,zke],.v (.int .i64 3)]) (.tu [tlA tl0,.v (.int .i64 3)]):=Ent.tu2 (Ent.ag (EntL.cons Ent.nil (EntL.cons Ent.nil (EntL.cons Ent.nil (EntL.cons Ent.nil (EntL.refl [])))))) eE
theorem pd_yes {B M A:List (List Rg)}{R:List Rg}{b a:D}(hb:Ent b (zb6 B)) (ha:Ent a (zb6 A)):Ent (.tu [.ag [b,zb6 M,a,xE R],.v (.int .i64 0)]) (.tu [tlA ⟨B,M,A,R⟩,.v (.int .i64 0)]):=Ent.tu2 (Ent.ag (EntL.cons hb (EntL.cons eE (EntL.cons ha (EntL.cons eE (EntL.refl [])))))) eE
noncomputable def Γpd (mx:Int) (pb:Bool):Ctx:=fun f=>match f with
 | 42=>some (.obj ocEl)
 | 45=>some (.obj ocPc)
 | 43=>some (.obj ocTk)
 | 44=>some (.obj zay)
 | 41=>some .recov
 | _=>none
theorem Γpd_ok:CK mx pb (Γpd mx pb):=by
 intro f h hh;simp only[Γpd] at hh;split at hh<;>simp at hh<;>subst hh
 ·exact yEl_ok
 ·exact yPc_ok
 ·exact yTk_ok
 ·exact vO
 ·exact quietR
theorem pd_ok:SS mx pb 19 ctPd:=by
 refine zkr (cc:=true) (m:=3) Γpd_ok Tryz.T_ok Tryz.mixed Tryz.func19 rfl (by kernel_rfl) (fun _=>rfl) (fun _ _=>by show 2<=_;decide) Tryz.func41 rfl rfl rfl (by decide) (by decide) ?_;rintro ⟨d,s⟩ ⟨hd,hs⟩
 replace hd:SmD d:=hd;replace hs:s.size<=65536:=hs;obtain ⟨p,hp⟩:∃ p:RX,(⟨⟨d,s,0⟩,hd,Nat.zero_le _,hs⟩:RX)=p:=⟨_,rfl⟩
 have hP:lnP d s=rulP p:=by rw[<- hp];exact dif_pos ⟨hd,hs⟩
 have hC:rC p.1=dbX (dD d)++[.v (.string s),.v (.int .i64 0)]:=by rw[<- hp];rfl
 clear hp;unfold rulP at hP;refine gw ?_;cases hE0:zat p with
 | bad r =>
  rw[hE0] at hP;refine ⟨((p,(),.bad r):ElI),obE (zx p) hC.symm,eL,⟨trivial,elP hE0⟩,?_⟩
  rw[xZ (hP)];refine And.intro rfl ?_;simp only[nq,zG,zW,nr,ns,Nat.reduceAdd,reduceIte];refine gw ?_;exact EntR.of rfl zaj
 | ok M p1 =>
 rw[hE0] at hP;dsimp only at hP;refine ⟨((p,(),.ok (zb6 M) p1):ElI),obE (zx p) hC.symm,eL,⟨trivial,elP hE0⟩,?_⟩
 clear hE0;simp only[nq,zG,zW,nr,ns,Nat.reduceAdd,reduceIte];refine gw ?_;by_cases h123:nxV p1.1=123
 case neg =>
  rw[if_neg h123] at hP;refine ⟨((p1,123,false,p1):TkI),obE (zx p1),eL,tk_n h123 (by decide),?_⟩
  simp only[nq,zG,zW,nr,ns,Nat.reduceAdd,reduceIte];refine gw ?_;unfold aftP at hP;by_cases h125:nxV p1.1=125
  case neg =>
   rw[if_neg h125] at hP;refine ⟨((p1,125,false,p1):TkI),obE (zx p1),eL,tk_n h125 (by decide),?_⟩
   simp only[nq,zG,zW,nr,ns,Nat.reduceAdd,reduceIte];refine gw ?_;unfold finP at hP;by_cases h62:nxV p1.1=62
   case neg =>
    rw[if_neg h62] at hP;refine ⟨((p1,62,false,p1):TkI),obE (zx p1),eL,tk_n h62 (by decide),?_⟩
    simp only[nq,zG,zW,nr,ns,Nat.reduceAdd,reduceIte];refine gw ?_;refine ⟨(p1:RX),obE (zx p1),eL,trivial,?_⟩
    rw[xZ (hP)];refine And.intro rfl ?_;simp only[nq,zG,zW,nr,ns,Nat.reduceAdd,reduceIte];refine gw ?_;exact EntR.of rfl zaj
   rw[if_pos h62] at hP;refine ⟨((p1,62,true,yp p1 (ua h62 (by decide))):TkI),obE (zx p1),eL,tk_y h62 (by decide),?_⟩
   obtain ⟨zf1,hzf1⟩:∃ q,yp p1 (ua h62 (by decide))=q:=⟨_,rfl⟩
   have tzf1:tkR p1 62=zf1:=(zbn h62 (by decide)).trans hzf1;rw[hzf1];clear hzf1;rw[tzf1] at hP;clear tzf1;simp only[nq,zG,zW,nr,ns,Nat.reduceAdd,reduceIte];refine gw ?_;cases hR:zfh zf1 with
   | bad r =>
    rw[hR] at hP;refine ⟨((zf1,(),.bad r):ElI),obE (zx zf1),eL,⟨trivial,elP hR⟩,?_⟩
    rw[xZ (hP)];refine And.intro rfl ?_;simp only[nq,zG,zW,nr,ns,Nat.reduceAdd,reduceIte];refine gw ?_;exact EntR.of rfl zaj
   | ok R r =>
   rw[hR] at hP;refine ⟨((zf1,(),.ok (xE R) r):ElI),obE (zx zf1),eL,⟨trivial,elP hR⟩,?_⟩
   rw[zfl hP];simp only[nq,zG,zW,nr,ns,Nat.reduceAdd,reduceIte];refine gw ?_;exact EntR.of rfl (pd_yes (Ent.nil) (Ent.nil))
  rw[if_pos h125] at hP;refine ⟨((p1,125,true,yp p1 (ua h125 (by decide))):TkI),obE (zx p1),eL,tk_y h125 (by decide),?_⟩
  obtain ⟨yn,hyn⟩:∃ q,yp p1 (ua h125 (by decide))=q:=⟨_,rfl⟩
  have tyn:tkR p1 125=yn:=(zbn h125 (by decide)).trans hyn;rw[hyn];clear hyn;rw[tyn] at hP;clear tyn;simp only[nq,zG,zW,nr,ns,Nat.reduceAdd,reduceIte];refine gw ?_;cases hEan:zat yn with
  | bad r =>
   rw[hEan] at hP;refine ⟨((yn,(),.bad r):ElI),obE (zx yn),eL,⟨trivial,elP hEan⟩,?_⟩
   rw[xZ (hP)];refine And.intro rfl ?_;simp only[nq,zG,zW,nr,ns,Nat.reduceAdd,reduceIte];refine gw ?_;exact EntR.of rfl zaj
  | ok A qn =>
  rw[hEan] at hP;dsimp only at hP;refine ⟨((yn,(),.ok (zb6 A) qn):ElI),obE (zx yn),eL,⟨trivial,elP hEan⟩,?_⟩
  clear hEan;simp only[nq,zG,zW,nr,ns,Nat.reduceAdd,reduceIte];refine gw ?_;unfold finP at hP;by_cases h62:nxV qn.1=62
  case neg =>
   rw[if_neg h62] at hP;refine ⟨((qn,62,false,qn):TkI),obE (zx qn),eL,tk_n h62 (by decide),?_⟩
   simp only[nq,zG,zW,nr,ns,Nat.reduceAdd,reduceIte];refine gw ?_;refine ⟨(qn:RX),obE (zx qn),eL,trivial,?_⟩
   rw[xZ (hP)];refine And.intro rfl ?_;simp only[nq,zG,zW,nr,ns,Nat.reduceAdd,reduceIte];refine gw ?_;exact EntR.of rfl zaj
  rw[if_pos h62] at hP;refine ⟨((qn,62,true,yp qn (ua h62 (by decide))):TkI),obE (zx qn),eL,tk_y h62 (by decide),?_⟩
  obtain ⟨zf2,hzf2⟩:∃ q,yp qn (ua h62 (by decide))=q:=⟨_,rfl⟩
  have tzf2:tkR qn 62=zf2:=(zbn h62 (by decide)).trans hzf2;rw[hzf2];clear hzf2;rw[tzf2] at hP;clear tzf2;simp only[nq,zG,zW,nr,ns,Nat.reduceAdd,reduceIte];refine gw ?_;cases hR:zfh zf2 with
  | bad r =>
   rw[hR] at hP;refine ⟨((zf2,(),.bad r):ElI),obE (zx zf2),eL,⟨trivial,elP hR⟩,?_⟩
   rw[xZ (hP)];refine And.intro rfl ?_;simp only[nq,zG,zW,nr,ns,Nat.reduceAdd,reduceIte];refine gw ?_;exact EntR.of rfl zaj
  | ok R r =>
  rw[hR] at hP;refine ⟨((zf2,(),.ok (xE R) r):ElI),obE (zx zf2),eL,⟨trivial,elP hR⟩,?_⟩
  rw[zfl hP];simp only[nq,zG,zW,nr,ns,Nat.reduceAdd,reduceIte];refine gw ?_;exact EntR.of rfl (pd_yes (Ent.nil) eE)
 rw[if_pos h123] at hP;refine ⟨((p1,123,true,yp p1 (ua h123 (by decide))):TkI),obE (zx p1),eL,tk_y h123 (by decide),?_⟩
 obtain ⟨x1,hx1⟩:∃ q,yp p1 (ua h123 (by decide))=q:=⟨_,rfl⟩
 have tx1:tkR p1 123=x1:=(zbn h123 (by decide)).trans hx1;rw[hx1];clear hx1;rw[tx1] at hP;clear tx1;simp only[nq,zG,zW,nr,ns,Nat.reduceAdd,reduceIte];refine gw ?_;cases hE1:zat x1 with
 | bad r =>
  rw[hE1] at hP;refine ⟨((x1,(),.bad r):ElI),obE (zx x1),eL,⟨trivial,elP hE1⟩,?_⟩
  rw[xZ (hP)];refine And.intro rfl ?_;simp only[nq,zG,zW,nr,ns,Nat.reduceAdd,reduceIte];refine gw ?_;exact EntR.of rfl zaj
 | ok M' p2 =>
 rw[hE1] at hP;dsimp only at hP;refine ⟨((x1,(),.ok (zb6 M') p2):ElI),obE (zx x1),eL,⟨trivial,elP hE1⟩,?_⟩
 clear hE1;simp only[nq,zG,zW,nr,ns,Nat.reduceAdd,reduceIte];refine gw ?_;unfold aftP at hP;by_cases h125:nxV p2.1=125
 case neg =>
  rw[if_neg h125] at hP;refine ⟨((p2,125,false,p2):TkI),obE (zx p2),eL,tk_n h125 (by decide),?_⟩
  simp only[nq,zG,zW,nr,ns,Nat.reduceAdd,reduceIte];refine gw ?_;unfold finP at hP;by_cases h62:nxV p2.1=62
  case neg =>
   rw[if_neg h62] at hP;refine ⟨((p2,62,false,p2):TkI),obE (zx p2),eL,tk_n h62 (by decide),?_⟩
   simp only[nq,zG,zW,nr,ns,Nat.reduceAdd,reduceIte];refine gw ?_;refine ⟨(p2:RX),obE (zx p2),eL,trivial,?_⟩
   rw[xZ (hP)];refine And.intro rfl ?_;simp only[nq,zG,zW,nr,ns,Nat.reduceAdd,reduceIte];refine gw ?_;exact EntR.of rfl zaj
  rw[if_pos h62] at hP;refine ⟨((p2,62,true,yp p2 (ua h62 (by decide))):TkI),obE (zx p2),eL,tk_y h62 (by decide),?_⟩
  obtain ⟨zf3,hzf3⟩:∃ q,yp p2 (ua h62 (by decide))=q:=⟨_,rfl⟩
  have tzf3:tkR p2 62=zf3:=(zbn h62 (by decide)).trans hzf3;rw[hzf3];clear hzf3;rw[tzf3] at hP;clear tzf3;simp only[nq,zG,zW,nr,ns,Nat.reduceAdd,reduceIte];refine gw ?_;cases hR:zfh zf3 with
  | bad r =>
   rw[hR] at hP;refine ⟨((zf3,(),.bad r):ElI),obE (zx zf3),eL,⟨trivial,elP hR⟩,?_⟩
   rw[xZ (hP)];refine And.intro rfl ?_;simp only[nq,zG,zW,nr,ns,Nat.reduceAdd,reduceIte];refine gw ?_;exact EntR.of rfl zaj
  | ok R r =>
  rw[hR] at hP;refine ⟨((zf3,(),.ok (xE R) r):ElI),obE (zx zf3),eL,⟨trivial,elP hR⟩,?_⟩
  rw[zfl hP];simp only[nq,zG,zW,nr,ns,Nat.reduceAdd,reduceIte];refine gw ?_;exact EntR.of rfl (pd_yes eE (Ent.nil))
 rw[if_pos h125] at hP;refine ⟨((p2,125,true,yp p2 (ua h125 (by decide))):TkI),obE (zx p2),eL,tk_y h125 (by decide),?_⟩
 obtain ⟨yy,hyy⟩:∃ q,yp p2 (ua h125 (by decide))=q:=⟨_,rfl⟩
 have tyy:tkR p2 125=yy:=(zbn h125 (by decide)).trans hyy;rw[hyy];clear hyy;rw[tyy] at hP;clear tyy;simp only[nq,zG,zW,nr,ns,Nat.reduceAdd,reduceIte];refine gw ?_;cases hEay:zat yy with
 | bad r =>
  rw[hEay] at hP;refine ⟨((yy,(),.bad r):ElI),obE (zx yy),eL,⟨trivial,elP hEay⟩,?_⟩
  rw[xZ (hP)];refine And.intro rfl ?_;simp only[nq,zG,zW,nr,ns,Nat.reduceAdd,reduceIte];refine gw ?_;exact EntR.of rfl zaj
 | ok A qy =>
 rw[hEay] at hP;dsimp only at hP;refine ⟨((yy,(),.ok (zb6 A) qy):ElI),obE (zx yy),eL,⟨trivial,elP hEay⟩,?_⟩
 clear hEay;simp only[nq,zG,zW,nr,ns,Nat.reduceAdd,reduceIte];refine gw ?_;unfold finP at hP;by_cases h62:nxV qy.1=62
 case neg =>
  rw[if_neg h62] at hP;refine ⟨((qy,62,false,qy):TkI),obE (zx qy),eL,tk_n h62 (by decide),?_⟩
  simp only[nq,zG,zW,nr,ns,Nat.reduceAdd,reduceIte];refine gw ?_;refine ⟨(qy:RX),obE (zx qy),eL,trivial,?_⟩
  rw[xZ (hP)];refine And.intro rfl ?_;simp only[nq,zG,zW,nr,ns,Nat.reduceAdd,reduceIte];refine gw ?_;exact EntR.of rfl zaj
 rw[if_pos h62] at hP;refine ⟨((qy,62,true,yp qy (ua h62 (by decide))):TkI),obE (zx qy),eL,tk_y h62 (by decide),?_⟩
 obtain ⟨zf4,hzf4⟩:∃ q,yp qy (ua h62 (by decide))=q:=⟨_,rfl⟩
 have tzf4:tkR qy 62=zf4:=(zbn h62 (by decide)).trans hzf4;rw[hzf4];clear hzf4;rw[tzf4] at hP;clear tzf4;simp only[nq,zG,zW,nr,ns,Nat.reduceAdd,reduceIte];refine gw ?_;cases hR:zfh zf4 with
 | bad r =>
  rw[hR] at hP;refine ⟨((zf4,(),.bad r):ElI),obE (zx zf4),eL,⟨trivial,elP hR⟩,?_⟩
  rw[xZ (hP)];refine And.intro rfl ?_;simp only[nq,zG,zW,nr,ns,Nat.reduceAdd,reduceIte];refine gw ?_;exact EntR.of rfl zaj
 | ok R r =>
 rw[hR] at hP;refine ⟨((zf4,(),.ok (xE R) r):ElI),obE (zx zf4),eL,⟨trivial,elP hR⟩,?_⟩
 rw[zfl hP];simp only[nq,zG,zW,nr,ns,Nat.reduceAdd,reduceIte];refine gw ?_;exact EntR.of rfl (pd_yes eE eE)
end Go.Proofs
namespace Go.Proofs
open Go Go.Sx
variable {s:ByteArray}{y:Tl}
variable {mx:Int}{pb:Bool}
attribute [local irreducible] zbs zbi yf xD
noncomputable def cTChk:Code:=(Tryz.f20.body).getD .skip
noncomputable def Γtk:Ctx:=fun f=>match f with
 | 46=>some (.pure ctOneB)
 | _=>none
theorem Γtk_ok:CK mx pb Γtk:=by
 intro f h hh;simp only[Γtk] at hh;split at hh<;>simp at hh<;>subst hh
 ·exact pOneB_ok
noncomputable def Γtp (mx:Int) (pb:Bool):Ctx:=fun f=>match f with
 | 16=>some (.pure (ze1 ⟨#[10]⟩ 10))
 | 17=>some (.pure ctCutS)
 | 18=>some (.pure ctTrim1)
 | 19=>some (.pure ctPd)
 | 20=>some (.gen (zds true Γtk Tryz.T (GlT mx pb) Tryz.f20 cTChk))
 | _=>none
theorem Γtp_ok:CK mx pb (Γtp mx pb):=by
 intro f h hh;simp only[Γtp] at hh;split at hh<;>simp at hh<;>subst hh
 ·exact (splitS_ok 10)
 ·exact cutS_ok
 ·exact trim1_ok
 ·exact pd_ok
 ·exact si Γtk_ok Tryz.func20
noncomputable def ctTrP:Ct:={ ι:=Db × ByteArray,inp:=fun x=>[dbA x.1,.v (.string x.2)],out:=fun x=>.tu [tlsD (trP x.1 x.2).1,.ag [.v (.int .i64 (trP x.1 x.2).2.1),.v (.int .i64 (trP x.1 x.2).2.2)]],pre:=fun x=>SmD x.1 }
theorem zc7 {d:Db}{R:List Tl}{e a:Int}(h:trP d s=(R,e,a)):ctTrP.out (d,s)=.tu [tlsD R,.ag [.v (.int .i64 e),.v (.int .i64 a)]]:=by
 show D.tu [tlsD (trP d s).1,.ag [.v (.int .i64 (trP d s).2.1),.v (.int .i64 (trP d s).2.2)]]=_;rw[h]
theorem zkq {c:UInt8}:∀ (l:List UInt8),(ya c l).length<=l.length+1/\∀ x∈ya c l,x.length<=l.length
 | []=>⟨Nat.le_refl _,fun x hx=>by simp[ya] at hx;subst hx;exact Nat.le_refl _⟩
 | b::l=>by
  obtain ⟨h1,h2⟩:=zkq (c:=c) l;rw[ya];split
  ·refine ⟨by simp;omega,fun x hx=>?_⟩
   rcases List.mem_cons.1 hx with rfl|hx
   ·exact Nat.zero_le _
   ·have:=h2 x hx;simp;omega
  ·cases hs:ya c l with
   | nil=>exact absurd hs (splitL_ne c l)
   | cons y ys =>
    rw[hs] at h1 h2;refine ⟨by simp at h1 ⊢;omega,fun x hx=>?_⟩
    rcases List.mem_cons.1 hx with rfl|hx
    ·have:=h2 y (by simp);simp;omega
    ·have:=h2 x (by simp[hx]);simp;omega
theorem splB_sz:(zb8 10 s).length<=s.size+1/\∀ k,k<(zb8 10 s).length->((zb8 10 s).getD k default).size<=s.size:=by
 obtain ⟨h1,h2⟩:=zkq (c:=10) s.data.toList;unfold zb8;refine ⟨by rw[List.length_map];exact h1,fun k hk=>?_⟩
 rw[List.length_map] at hk;have e:((ya 10 s.data.toList).map ve).getD k default=ve ((ya 10 s.data.toList)[k]):=by simp[List.getD_eq_getElem?_getD,hk]
 rw[e];exact h2 _ (List.getElem_mem hk)
theorem m5i:∀ i,i<5->([0,1,2,3,4]:List Nat)[i]?=some i:=fun i hi=>by
 match i,hi with
 | 0,_=>rfl
 | 1,_=>rfl
 | 2,_=>rfl
 | 3,_=>rfl
 | 4,_=>rfl
theorem bg_snoc {R:List Tl}{x:Tl}(h:bgL R) (hR:R.length<=200) (hx:bgT x):bgL (R++[x]):=by
 refine ⟨by rw[List.length_append];show R.length+1<=_;omega,fun i hi=>?_⟩
 rw[vH];by_cases h1:i<R.length
 ·rw[if_pos h1];exact h.2 i h1
 ·rw[if_neg h1,if_pos (by simp at hi;omega)];exact hx
theorem bg_sng (c:Int):(canon [(c,c)]).length<=500000:=by
 have:=zK [(c,c)]
 simp at this;omega
theorem prs_len2 {d:Db}(h:(prs d s).2.1=0):(prs d s).1.length<=500000:=by
 by_cases hS:OkS d s
 ·obtain ⟨L,q,w,hp⟩:=prs_whole (h:=hS) h;rw[hp];have h1:=w.w.len;have h2:=nbk_le (s:=s) q.1.k;have h3:=vM q;have h4:=w.e;have h5:(blP (yY d s hS)).1.s=s:=rfl;have h6:=hS.2;rw[h5] at h1;show L.length<=_;omega
 ·rw[show prs d s=([],2,0) from dif_neg hS] at h;exact absurd h (by decide)
theorem bgS_snoc {L:List (List Rg)}{S:List Rg}(h:∀ i,i<L.length->(L.getD i default).length<=500000) (hS:S.length<=500000):∀ i,i<(L++[S]).length->((L++[S]).getD i default).length<=500000:=by
 intro i hi;rw[vH];by_cases h1:i<L.length
 ·rw[if_pos h1];exact h i h1
 ·rw[if_neg h1,if_pos (by simp at hi;omega)];exact hS
theorem elF_bg:∀ (f:Nat) {p q:RX}{L M:List (List Rg)},elF f p L=.ok M q->(∀ i,i<L.length->(L.getD i default).length<=500000)->M.length<=L.length+f/\∀ i,i<M.length->(M.getD i default).length<=500000
 | 0,p,q,L,M,h,_=>nomatch h
 | f+1,p,q,L,M,h,hL=>by
  have key:∀ {r:RX}{S:List Rg},elF f r (L++[S])=.ok M q->S.length<=500000->M.length<=L.length+(f+1)/\∀ i,i<M.length->(M.getD i default).length<=500000:=by
   intro r S hr hS;obtain ⟨g1,g2⟩:=elF_bg f hr (bgS_snoc hL hS)
   rw[List.length_append] at g1;exact ⟨by simp at g1;omega,g2⟩
  have xkey:∀ {r:RX}{t b a:ByteArray},xpL r t b a (fun S q=>elF f q (L++[S]))=.ok M q->M.length<=L.length+(f+1)/\∀ i,i<M.length->(M.getD i default).length<=500000:=by
   intro r t b a hx;unfold xpL at hx;split at hx
   ·rename_i h0;exact key hx (prs_len2 h0)
   ·exact nomatch hx
  rw[elF] at h;split at h
  ·exact key h (bg_sng _)
  ·split at h
   ·split at h
    ·exact nomatch h
    ·exact xkey h
   ·split at h
    ·split at h
     ·exact nomatch h
     ·exact xkey h
    ·split at h
     ·split at h
      ·exact nomatch h
      ·exact key h (bg_sng _)
     ·injection h with h1 _;subst h1;exact ⟨by omega,hL⟩
theorem zej {p q:RX}{M:List (List Rg)}(h:zat p=.ok M q):bgS M:=by
 obtain ⟨g1,g2⟩:=elF_bg _ h (fun i hi=>absurd hi (Nat.not_lt_zero _))
 have:=p.2.2.2;simp at g1;exact ⟨by omega,g2⟩
theorem pcF_bg:∀ (f:Nat) {p q:RX}{L M:List Rg},pcF f p L=.ok M q->M.length<=L.length+f
 | 0,p,q,L,M,h=>nomatch h
 | f+1,p,q,L,M,h=>by
  have key:∀ {r:RX}{y:Rg},pcF f r (L++[y])=.ok M q->M.length<=L.length+(f+1):=by
   intro r y hr;have:=pcF_bg f hr;rw[List.length_append] at this;simp at this;omega
  rw[pcF] at h;split at h
  ·split at h
   ·exact key h
   ·split at h
    ·split at h
     ·exact nomatch h
     ·exact key h
    ·split at h
     ·split at h
      ·exact key h
      ·exact nomatch h
     ·exact nomatch h
  ·injection h with h1 _;subst h1;omega
theorem runPc_bg {p q:RX}{M:List Rg}(h:zfh p=.ok M q):M.length<=1000000:=by
 have:=pcF_bg _ h;have h2:=p.2.2.2;simp at this;omega
theorem bgS_nil:bgS []:=⟨Nat.zero_le _,fun i hi=>absurd hi (Nat.not_lt_zero _)⟩
theorem fin_bg {B M A:List (List Rg)}{p:RX}(h:finP B M A p=some y) (hB:bgS B) (hM:bgS M) (hA:bgS A):bgT y:=by
 unfold finP at h;split at h
 ·split at h
  ·exact nomatch h
  ·rename_i R r hr;injection h with h1;subst h1;exact ⟨hB,hM,hA,runPc_bg hr⟩
 ·exact nomatch h
theorem aft_bg {B M:List (List Rg)}{p:RX}(h:aftP B M p=some y) (hB:bgS B) (hM:bgS M):bgT y:=by
 unfold aftP at h;split at h
 ·split at h
  ·exact nomatch h
  ·rename_i A r hr;exact fin_bg h hB hM (zej hr)
 ·exact fin_bg h hB hM bgS_nil
theorem rul_bg {p:RX}(h:rulP p=some y):bgT y:=by
 unfold rulP at h;split at h
 ·exact nomatch h
 ·rename_i M p1 hM;split at h
  ·split at h
   ·exact nomatch h
   ·rename_i M' q hM';exact aft_bg h (zej hM) (zej hM')
  ·exact aft_bg h bgS_nil (zej hM)
theorem ln_bg {d:Db}(h:lnP d s=some y) (_:s.size<=65536):bgT y:=by
 unfold lnP at h;split at h
 ·exact rul_bg h
 ·exact nomatch h
theorem trP_ok:SS mx pb 6 ctTrP:=by
 refine sb (cc:=true) Γtp_ok Tryz.func6 ?_;rintro ⟨(d:Db),(s:ByteArray)⟩ (hd:SmD d)
 by_cases hs:65536<s.size
 ·have hg:(s.size:Int)>65536:=by omega
  rw[zc7 (show trP d s=([],2,0) from if_pos hs)];refine gw ?_;exact EntR.of rfl (Ent.tu2 Ent.nil eE)
 have hg:¬(s.size:Int)>65536:=by omega
 have hT:trP d s=stpP d (zb8 10 s) 0 []:=if_neg hs;obtain ⟨z1,z2⟩:=splB_sz (s:=s)
 have ps:(ze1 ⟨#[10]⟩ 10).pre s:=by show s.size<=1000000000;omega
 have hdf:Unit->SmD d:=fun _=>hd;clear hd;refine gw ?_;have ho:(ze1 ⟨#[10]⟩ 10).out s=slD 1 vg (zb8 10 s):=rfl;generalize hLs:zb8 10 s=Ls at hT z1 z2;refine ⟨0,Nat × List Tl,fun|(k,R)=>⟨[(2,.own 0 0),(5,.own 1 0),(6,.row 2),(16,slD 1 vg Ls),(17,.v (.int .i64 Ls.length)),(18,.v (.int .i64 k))],[.cells 39 (dbL d),.cells 45 [.v (.int .i64 0),.v (.int .i64 0)],zG 59 4 tlD R],[]⟩,fun|(k,R)=>k<=Ls.length/\R.length<=200/\bgL R/\stpP d (Ls.drop k) k R=stpP d Ls 0 [],fun x=>Ls.length - x.1,fun _=>Nat.zero_le _,⟨(0,[]),⟨Nat.zero_le _,Nat.zero_le _,⟨Nat.zero_le _,fun i hi=>absurd hi (Nat.not_lt_zero _)⟩,rfl⟩,StLe.trans (StLe.nilRow (t:=6) 59 4 (fun _ _=>.junk) rfl) (StLe.ren [0,1,2] (by subst hLs;exact tmS) ⟨eZ,eZ,yg,trivial⟩ (by decide))⟩,?_⟩
 rintro ⟨k,R⟩ ⟨hk,hR,hB,hrun⟩
 replace hk:k<=Ls.length:=hk;replace hR:R.length<=200:=hR;replace hB:bgL R:=hB;replace hrun:stpP d (Ls.drop k) k R=stpP d Ls 0 []:=hrun;rw[<- hT] at hrun;clear ho ps hLs;by_cases hlt:k<Ls.length
 case neg =>
  have e:k=Ls.length:=by omega
  rw[List.drop_eq_nil_of_le (by omega)] at hrun;rw[zc7 hrun.symm];refine gw ?_;exact EntR.of rfl (Ent.tu2 eE eE)
 have hl:=z2 k hlt;rw[zjw hlt,stpP] at hrun;generalize hL:Ls.getD k default=l at hl hrun;have hc:=ze0 l;have pt:ctTrim1.pre (vx l hash1):=by show (vx l hash1).size<=_;omega
 have hz:=nrm_size l;refine gw ?_;refine ⟨((l,hash1):ByteArray × ByteArray),EntL.cons (Ent.of_eq (by show D.v (.string (Ls.getD k default))=_;rw[hL])) eL,(by show l.size<4294967281;omega),?_⟩
 rw[show ctCutS.out (l,hash1)=.tu [.v (.string (vx l hash1)),.v (.string (cutZ l hash1)),.v (.bool (cutF l hash1))] from rfl];by_cases he:zbm (vx l hash1)=⟨#[]⟩
 ·have he2:(nrmB l).size=0:=by show (zbm (vx l hash1)).size=0;rw[he];rfl
  rw[if_pos he2] at hrun;refine gw ?_;exact ⟨(k+1,R),⟨hlt,hR,hB,hrun.trans hT⟩,(by show Ls.length - (k+1)<Ls.length - k;omega),(sr [0,1,2])⟩
 have he2:¬(nrmB l).size=0:=fun h=>he (size_nil (List.length_eq_zero_iff.1 h))
 rw[if_neg he2] at hrun;refine gw ?_;refine ⟨(d,nrmB l),eL,⟨hdf (),(by show (nrmB l).size<=65536;omega)⟩,?_⟩
 cases hP:lnP d (nrmB l) with
 | none =>
  rw[hP] at hrun;rw[xZ hP,zc7 hrun.symm];simp only[nq,zG,zW,nr,ns,Nat.reduceAdd,reduceIte];refine gw ?_;exact EntR.of rfl (Ent.tu2 Ent.nil eE)
 | some x =>
  rw[hP] at hrun;dsimp only at hrun;rw[zfl hP];simp only[nq,zG,zW,nr,ns,Nat.reduceAdd,reduceIte];refine gw ?_;refine And.intro (show R.length+1<=9223372036854775807 by omega) (And.intro (show (R.length+1)*96<=140737488355328 by omega) ?_)
  obtain ⟨Q,hQ⟩:∃ Q,R++[x]=Q:=⟨_,rfl⟩
  have hQl:Q.length=R.length+1:=by rw[<- hQ];simp
  have hBQ:bgL Q:=by rw[<- hQ];exact bg_snoc hB hR (ln_bg hP (by omega))
  rw[hQ] at hrun;simp only[nq,zG,zW,nr,ns,Nat.reduceAdd,reduceIte]
  repeat' first|refine gw ?_|refine bs ?_ ?_<;>intro q_
  ·have h200:200<Q.length:=by
    have q2:((R.length+1:Nat):Int)>200:=q_;omega
   rw[show chkB Q=2 from if_pos h200,if_neg (by decide)] at hrun;rw[zc7 hrun.symm];exact EntR.of rfl (Ent.tu2 Ent.nil eE)
  have h200:¬200<Q.length:=by
   have q2:¬((R.length+1:Nat):Int)>200:=q_;omega
  rw[show chkB Q=chkE Q from if_neg h200] at hrun;refine ⟨0,Nat,fun j=>⟨[(9,.row 4),(10,.v (.int .i64 Q.length)),(11,.v (.int .i64 j))],[.cells 39 (dbL d),.cells 45 [.v (.int .i64 0),.v (.int .i64 0)],.gone,.cells 59 [tlD x 0,tlD x 1,tlD x 2,tlD x 3],zG 59 4 tlD Q],[]⟩,fun j=>j<=Q.length/\∀ i,i<j->ziw (Q.getD i default)=0,fun j=>Q.length - j,fun _=>Nat.le_refl _,⟨0,⟨Nat.zero_le _,fun i hi=>absurd hi (Nat.not_lt_zero _)⟩,zq [0,1,2,3,4] ⟨eE,rfl,Ent.of_eq (by show D.v (.int .i64 ((R.length+1:Nat):Int))=D.v (.int .i64 (Q.length:Int));rw[hQl]),rfl,eE,rfl,trivial⟩ ⟨eZ,eZ,trivial,eZ,(by rw[<- hQ];exact zF (x:=x) (fun j hj=>match j,hj with|0,_=>eE|1,_=>eE|2,_=>eE|3,_=>eE)),trivial⟩ (by decide) m5i (by simp)⟩,?_⟩
  rintro j ⟨hj,hz⟩
  by_cases hjl:j<Q.length
  ·have p1:ctOneB.pre (Q.getD j default):=hBQ.2 j hjl
   repeat' first|refine gw ?_|refine bs ?_ ?_<;>intro q_
   ·rw[zos hjl hz q_,if_neg q_] at hrun;rw[zc7 hrun.symm];exact EntR.of rfl (Ent.tu2 Ent.nil eE)
   ·exact ⟨j+1,⟨hjl,zo hz q_⟩,(by show Q.length - (j+1)<Q.length - j;omega),zq [0,1,2,3,4] tmS ⟨eZ,eZ,trivial,eZ,own_refl,trivial⟩ (by decide) m5i (by simp)⟩
  ·have h0:chkE Q=0:=chkE_0 fun i hi=>hz i (by omega)
   rw[h0,if_pos rfl] at hrun;refine gw ?_;exact ⟨(k+1,Q),⟨hlt,(by show Q.length<=200;omega),hBQ,hrun.trans hT⟩,(by show Ls.length - (k+1)<Ls.length - k;omega),(sr [0,1,4])⟩
end Go.Proofs
namespace Go.Proofs
open Go Go.Sx
variable {mx:Int}{pb:Bool}
def ctSmSet:Ct:={ ι:=List (List Rg),inp:=fun L=>[zb6 L,zb6 L],out:=fun _=>.v (.bool true),pre:=bgS }
noncomputable def Γys:Ctx:=fun f=>match f with
 | 51=>some (.pure ctSameS)
 | _=>none
theorem Γys_ok:CK mx pb Γys:=by
 intro f h hh;simp only[Γys] at hh;split at hh<;>simp at hh<;>subst hh
 ·exact zfk
theorem rSmSet_ok:SS mx pb 25 ctSmSet:=by
 refine sb (cc:=true) Γys_ok Tryz.func25 ?_;intro (L:List (List Rg)) (hL:bgS L)
 have h0:=hL.1;refine gl ?_;refine ⟨0,Nat,fun k=>⟨[(0,zb6 L),(1,zb6 L),(5,.v (.int .i64 k))],[],[]⟩,fun k=>k<=L.length,fun k=>L.length - k,fun _=>Nat.zero_le _,⟨0,Nat.zero_le _,StLe.ren [] tmS trivial (by decide)⟩,?_⟩
 rintro k (hk:k<=L.length)
 by_cases hlt:k<L.length
 ·have h1:=hL.2 k hlt;have p1:ctSameS.pre (L.getD k default,L.getD k default):=⟨by show (L.getD k default).length<=1000000;omega,by show (L.getD k default).length<=1000000;omega⟩
  have e1:ctSameS.out (L.getD k default,L.getD k default)=.v (.bool true):=congrArg (fun b=>D.v (.bool b)) (decide_eq_true rfl)
  repeat' first|refine gl ?_|refine bs ?_ ?_<;>intro q_
  ·exact absurd trivial q_
  ·exact ⟨k+1,hlt,(by show L.length - (k+1)<L.length - k;omega),StLe.ren [] tmS trivial (by decide)⟩
 ·refine gl ?_;exact ze rfl
def ctSmTl:Ct:={ ι:=List Tl,inp:=fun l=>[tlsD l,tlsD l],out:=fun _=>.v (.bool true),pre:=bgL }
noncomputable def Γyt:Ctx:=fun f=>match f with
 | 25=>some (.pure ctSmSet)
 | _=>none
theorem Γyt_ok:CK mx pb Γyt:=by
 intro f h hh;simp only[Γyt] at hh;split at hh<;>simp at hh<;>subst hh
 ·exact rSmSet_ok
theorem rSmTl_ok:SS mx pb 8 ctSmTl:=by
 refine sb (cc:=true) Γyt_ok Tryz.func8 ?_;intro (l:List Tl) (hl:bgL l)
 have h0:=hl.1;refine gl ?_;refine ⟨0,Nat,fun k=>⟨[(0,tlsD l),(1,tlsD l),(5,.v (.int .i64 k))],[],[]⟩,fun k=>k<=l.length,fun k=>l.length - k,fun _=>Nat.zero_le _,⟨0,Nat.zero_le _,StLe.ren [] tmS trivial (by decide)⟩,?_⟩
 rintro k (hk:k<=l.length)
 by_cases hlt:k<l.length
 ·obtain ⟨b1,b2,b3,b4⟩:=hl.2 k hlt;have p1:ctSmSet.pre (l.getD k default).bef:=b1;have p2:ctSmSet.pre (l.getD k default).mat:=b2;have p3:ctSmSet.pre (l.getD k default).aft:=b3;refine gl ?_;refine ⟨0,Nat,fun j=>⟨[(0,tlsD l),(1,tlsD l),(5,.v (.int .i64 k)),(6,.v (.int .i64 j))],[],[]⟩,fun j=>j<=(l.getD k default).res.length,fun j=>(l.getD k default).res.length - j,fun _=>Nat.zero_le _,⟨0,Nat.zero_le _,StLe.ren [] tmS trivial (by decide)⟩,?_⟩
  rintro j (hj:j<=(l.getD k default).res.length)
  repeat' first|refine gl ?_|refine bs ?_ ?_<;>intro q_
  all_goals first
   | (exfalso;simp at q_;done)
   | exact ⟨j+1,(by show j+1<=(l.getD k default).res.length;omega),(by show (l.getD k default).res.length - (j+1)<(l.getD k default).res.length - j;omega),StLe.ren [] tmS trivial (by decide)⟩
   | exact ⟨k+1,hlt,(by show l.length - (k+1)<l.length - k;omega),StLe.ren [] tmS trivial (by decide)⟩
 ·refine gl ?_;exact ze rfl
theorem ln_bg2 {d:Db}{s:ByteArray}{y:Tl}(h:lnP d s=some y):bgT y:=by
 unfold lnP at h;split at h
 ·exact rul_bg h
 ·exact nomatch h
theorem stp_bg {d:Db}:∀ (ls:List ByteArray) (i:Nat) (R:List Tl),bgL R->R.length<=200->bgL (stpP d ls i R).1/\(stpP d ls i R).1.length<=200
 | [],i,R,h,hR=>⟨h,hR⟩
 | l::ls,i,R,h,hR=>by
  rw[stpP];split
  ·exact stp_bg ls (i+1) R h hR
  ·split
   ·exact ⟨⟨Nat.zero_le _,fun i hi=>absurd hi (Nat.not_lt_zero _)⟩,Nat.zero_le _⟩
   ·rename_i x hx;split
    ·rename_i hc;have h200:(R++[x]).length<=200:=by
      rcases Nat.lt_or_ge 200 (R++[x]).length with h2|h2
      ·rw[show chkB (R++[x])=2 from if_pos h2] at hc;exact absurd hc (by decide)
      ·exact h2
     exact stp_bg ls (i+1) (R++[x]) (bg_snoc h hR (ln_bg2 hx)) h200
    ·exact ⟨⟨Nat.zero_le _,fun i hi=>absurd hi (Nat.not_lt_zero _)⟩,Nat.zero_le _⟩
theorem trP_bg {d:Db}{s:ByteArray}:bgL (trP d s).1:=by
 unfold trP;split
 ·exact ⟨Nat.zero_le _,fun i hi=>absurd hi (Nat.not_lt_zero _)⟩
 ·exact (stp_bg _ 0 [] ⟨Nat.zero_le _,fun i hi=>absurd hi (Nat.not_lt_zero _)⟩ (Nat.zero_le _)).1
end Go.Proofs
