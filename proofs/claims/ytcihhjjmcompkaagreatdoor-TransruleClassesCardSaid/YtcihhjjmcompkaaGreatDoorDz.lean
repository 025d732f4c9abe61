import Derived.Test.YtcihhjjmcompkaaGreatDoorC1
import Derived.Test.YtcihhjjmcompkaaGreatDoorQz
import Derived.Test.YtcihhjjmcompkaaGreatDoorC2
import Derived.Test.YtcihhjjmcompkaaGreatDoorMz
import Derived.Test.YtcihhjjmcompkaaGreatDoorP1
import Derived.Test.YtcihhjjmcompkaaGreatDoorGc
import Derived.Test.YtcihhjjmcompkaaGreatDoorCvz
set_option linter.unusedVariables false
set_option linter.unusedSimpArgs false
namespace Go.Proofs
open Go Go.Sx
variable {mx:Int}{pb:Bool}
structure Db where
 maj:Int
 mnr:Int
 prs:Nat→Pr
 cls:List Sp
 sts:Nat→List Rg
 mps:Nat→List Mp
instance:Inhabited Db:=⟨⟨0,0,fun _=>default,[],fun _=>[],fun _=>[]⟩⟩
def nmsD (p:Pr):D:=slD 1 strD p.names
def spnD (p:Pr):D:=spsD p.spans
def dbL (d:Db):List D :=
 [.v (.int .i64 d.maj),.v (.int .i64 d.mnr),
  slD 1 strD (d.prs 0).names,spsD (d.prs 0).spans,slD 1 strD (d.prs 1).names,spsD (d.prs 1).spans,slD 1 strD (d.prs 2).names,spsD (d.prs 2).spans,slD 1 strD (d.prs 3).names,spsD (d.prs 3).spans,
  slD 1 strD (d.prs 4).names,spsD (d.prs 4).spans,slD 1 strD (d.prs 5).names,spsD (d.prs 5).spans,slD 1 strD (d.prs 6).names,spsD (d.prs 6).spans,
  spsD d.cls,mpsD (d.mps 0),rgsD (d.sts 0),mpsD (d.mps 1),mpsD (d.mps 2),mpsD (d.mps 3),mpsD (d.mps 4),rgsD (d.sts 1),rgsD (d.sts 2),rgsD (d.sts 3),rgsD (d.sts 4),rgsD (d.sts 5),mpsD (d.mps 5)]
def dbA (d:Db):D:=.ag (dbL d)
def propI (d:Db) (i:Int):Pr:=if 0≤i∧i<7 then d.prs i.toNat else ⟨[],[]⟩
def setI (d:Db) (i:Int):List Rg:=if 0≤i∧i<6 then d.sts i.toNat else []
def filesL:List ByteArray:=[
 ⟨#[118,101,114,115,105,111,110]⟩,
 ⟨#[99,97,116,101,103,111,114,121]⟩,
 ⟨#[119,105,100,116,104]⟩,
 ⟨#[115,99,114,105,112,116]⟩,
 ⟨#[103,114,97,112,104,101,109,101]⟩,
 ⟨#[119,111,114,100]⟩,
 ⟨#[115,101,110,116,101,110,99,101]⟩,
 ⟨#[108,105,110,101]⟩,
 ⟨#[99,108,97,115,115,101,115]⟩,
 ⟨#[100,101,99,111,109,112,111,115,105,116,105,111,110]⟩,
 ⟨#[101,120,99,108,117,115,105,111,110,115]⟩,
 ⟨#[108,111,119,101,114]⟩,
 ⟨#[117,112,112,101,114]⟩,
 ⟨#[116,105,116,108,101]⟩,
 ⟨#[102,111,108,100]⟩,
 ⟨#[99,97,115,101,100]⟩,
 ⟨#[105,103,110,111,114,97,98,108,101]⟩,
 ⟨#[115,116,97,114,116]⟩,
 ⟨#[99,111,110,116,105,110,117,101]⟩,
 ⟨#[109,101,100,105,97,108]⟩,
 ⟨#[99,111,110,102,117,115,97,98,108,101]⟩]
end Go.Proofs
namespace Go.Proofs
open Go Go.Sx
variable {mx:Int}{pb:Bool}
inductive Pt where
 | pr (p:Pr)
 | cl (l:List Sp)
 | st (l:List Rg)
 | mp (l:List Mp)
def partOf (d:Db):Nat→Pt
 | 0=>.pr (d.prs 0)
 | 1=>.pr (d.prs 1)
 | 2=>.pr (d.prs 2)
 | 3=>.pr (d.prs 3)
 | 4=>.pr (d.prs 4)
 | 5=>.pr (d.prs 5)
 | 6=>.pr (d.prs 6)
 | 7=>.cl d.cls
 | 8=>.mp (d.mps 0)
 | 9=>.st (d.sts 0)
 | 10=>.mp (d.mps 1)
 | 11=>.mp (d.mps 2)
 | 12=>.mp (d.mps 3)
 | 13=>.mp (d.mps 4)
 | 14=>.st (d.sts 1)
 | 15=>.st (d.sts 2)
 | 16=>.st (d.sts 3)
 | 17=>.st (d.sts 4)
 | 18=>.st (d.sts 5)
 | _=>.mp (d.mps 5)
def ptR:Pt→List Rg
 | .pr p=>p.spans.map fun s=>(s.lo,s.hi)
 | .cl l=>l.map fun s=>(s.lo,s.hi)
 | .st l=>l
 | .mp l=>l.map fun m=>(m.frm,m.frm)
def decK:Nat→Nat→List UInt8
 | 0,_=>[]
 | f+1,n=>if n<10 then [UInt8.ofNat (48+n)] else decK f (n / 10)++[UInt8.ofNat (48+n % 10)]
def decB (n:Int):ByteArray:=⟨⟨decK 20 n.toNat⟩⟩
def yesS:ByteArray:=⟨#[121,101,115]⟩
def noS:ByteArray:=⟨#[110,111]⟩
def yesB (b:Bool):ByteArray:=if b=true then yesS else noS
def barS:ByteArray:=⟨#[124]⟩
def gtS:ByteArray:=⟨#[62]⟩
def tgtS (c:Int) (st:ByteArray × Bool) (m:Mp):ByteArray × Bool :=
 if m.frm=c then (bcat (bcat (bcat (if st.2=true then bcat st.1 barS else st.1) m.tag) gtS) (codesS m.to),true) else st
def tgtK (l:List Mp) (c:Int):Nat→ByteArray × Bool
 | 0=>(⟨#[]⟩,false)
 | k+1=>tgtS c (tgtK l c k) (l.getD k default)
def tgtV (l:List Mp) (c:Int):ByteArray:=(tgtK l c l.length).1
noncomputable def ptV:Pt→Int→ByteArray
 | .pr p,c=>nameV p c
 | .cl l,c=>decB (valL l c)
 | .st l,c=>yesB (hasB l c)
 | .mp l,c=>tgtV l c
theorem in_const {rs:List Rg}{s t:Int}(h0:0≤s) (ht:t≤1114111) (hcut:∀ r∈rs,∀ x∈stepL [] r,¬(s<x∧x≤t)) {c:Int}(hc:s≤c∧c≤t):∀ r∈rs,(r.1≤c∧c≤r.2)↔(r.1≤s∧s≤r.2):=by
 intro r hr
 have h1:0≤r.1→r.1≤1114111→¬(s<r.1∧r.1≤t):=fun a b=>hcut r hr r.1 (mem_stepL.2 (.inr (.inl ⟨a,b,rfl⟩)))
 have h2:0≤r.2→r.2<1114111→¬(s<r.2+1∧r.2+1≤t):=fun a b=>hcut r hr (r.2+1) (mem_stepL.2 (.inl ⟨a,b,rfl⟩))
 omega
theorem valL_const {c s:Int}:∀ {l:List Sp},(∀ x∈l,(x.lo≤c∧c≤x.hi)↔(x.lo≤s∧s≤x.hi))→valL l c=valL l s
 | [],_=>rfl
 | x::l,h=>by
  have ih:=valL_const (l:=l) (fun y hy=>h y (by simp[hy]))
  have hx:=h x (by simp)
  unfold valL at ih ⊢
  rw[List.find?_cons,List.find?_cons]
  by_cases hc:x.lo≤c∧c≤x.hi
  ·rw[decide_eq_true hc,decide_eq_true (hx.1 hc)]
  ·rw[decide_eq_false hc,decide_eq_false (fun e=>hc (hx.2 e))]
   exact ih
theorem tgtK_const {c s:Int}{l:List Mp}(h:∀ x∈l,x.frm=c↔x.frm=s):∀ k,k≤l.length→tgtK l c k=tgtK l s k
 | 0,_=>rfl
 | k+1,hk=>by
  rw[tgtK,tgtK,tgtK_const h k (by omega)]
  have hx:=h _ (getD_mem (show k<l.length by omega))
  unfold tgtS
  by_cases e:(l.getD k default).frm=c
  ·rw[if_pos e,if_pos (hx.1 e)]
  ·rw[if_neg e,if_neg (fun e'=>e (hx.2 e'))]
theorem ptV_const {P:Pt}{s t:Int}(h0:0≤s) (ht:t≤1114111) (hcut:∀ r∈ptR P,∀ x∈stepL [] r,¬(s<x∧x≤t)) {c:Int}(hc:s≤c∧c≤t) (hv:∀ p,P=.pr p→validP p=true):ptV P c=ptV P s:=by
 have hi:=in_const h0 ht hcut hc
 cases P with
 | pr p =>
  have hp:=cntP_t (hv p rfl)
  show nameV p c=nameV p s
  unfold nameV getV
  rw[hp,valL_const (l:=p.spans) (fun x hx=>hi (x.lo,x.hi) (List.mem_map.2 ⟨x,hx,rfl⟩))]
 | cl l =>
  show decB (valL l c)=decB (valL l s)
  rw[valL_const (l:=l) (fun x hx=>hi (x.lo,x.hi) (List.mem_map.2 ⟨x,hx,rfl⟩))]
 | st l =>
  show yesB (hasB l c)=yesB (hasB l s)
  rw[has_const (rs:=l) h0 ht hcut hc]
 | mp l =>
  show (tgtK l c l.length).1=(tgtK l s l.length).1
  have key:∀ x∈l,x.frm=c↔x.frm=s:=fun x hx=>by
   have:=hi (x.frm,x.frm) (List.mem_map.2 ⟨x,hx,rfl⟩)
   simp only at this
   omega
  rw[tgtK_const key _ (Nat.le_refl _)]
structure Pc where
 lo:Int
 hi:Int
 s:ByteArray
instance:Inhabited Pc:=⟨⟨0,0,⟨#[]⟩⟩⟩
def pcV (other:ByteArray) (ps:List Pc) (c:Int):ByteArray:=match ps.find? (fun p=>decide (p.lo≤c∧c≤p.hi)) with|some p=>p.s|none=>other
def AscP:Int→List Pc→Prop
 | b,[]=>b≤1114112
 | b,p::ps=>b≤p.lo∧p.lo≤p.hi∧p.hi≤1114111∧AscP (p.hi+1) ps
def Tiles (v:Int→ByteArray):Int→List Pc→Prop
 | b,[]=>b=1114112
 | b,p::ps=>p.lo≤b∧b≤p.hi∧p.hi≤1114111∧(∀ c,b≤c→c≤p.hi→v c=p.s)∧Tiles v (p.hi+1) ps
def segsP (other:ByteArray):Int→List Pc→List Pc
 | b,[]=>if b≤1114111 then [⟨b,1114111,other⟩] else []
 | b,p::ps=>if b<p.lo then ⟨b,p.lo - 1,other⟩::p::segsP other (p.hi+1) ps else p::segsP other (p.hi+1) ps
theorem AscP.le:∀ {ps:List Pc}{b:Int},AscP b ps→b≤1114112
 | [],_,h=>h
 | p::ps,b,h=>by have h1:=h.1;have h2:=h.2.1;have h3:=h.2.2.1;omega
theorem AscP.mem:∀ {ps:List Pc}{b:Int}{q:Pc},AscP b ps→q∈ps→b≤q.lo∧q.lo≤q.hi∧q.hi≤1114111
 | [],_,_,_,h=>by simp at h
 | p::ps,b,q,h,hq=>by
  rcases List.mem_cons.1 hq with rfl|hq
  ·exact ⟨h.1,h.2.1,h.2.2.1⟩
  ·have:=AscP.mem h.2.2.2 hq
   have h1:=h.1;have h2:=h.2.1
   omega
theorem pcV_cons_no {o:ByteArray}{p:Pc}{ps:List Pc}{c:Int}(h:¬(p.lo≤c∧c≤p.hi)):pcV o (p::ps) c=pcV o ps c:=by
 unfold pcV
 rw[List.find?_cons,decide_eq_false h]
theorem pcV_cons_yes {o:ByteArray}{p:Pc}{ps:List Pc}{c:Int}(h:p.lo≤c∧c≤p.hi):pcV o (p::ps) c=p.s:=by
 unfold pcV
 rw[List.find?_cons,decide_eq_true h]
theorem pcV_none {o:ByteArray}{ps:List Pc}{c:Int}(h:∀ p∈ps,¬(p.lo≤c∧c≤p.hi)):pcV o ps c=o:=by
 unfold pcV
 rw[List.find?_eq_none.2 (fun p hp=>by simpa using h p hp)]
theorem tiles_congr {v v':Int→ByteArray}:∀ {l:List Pc}{b:Int},Tiles v b l→(∀ c,b≤c→v c=v' c)→Tiles v' b l
 | [],_,h,_=>h
 | p::l,b,h,hv=>⟨h.1,h.2.1,h.2.2.1,fun c h1 h2=>by rw[← hv c h1];exact h.2.2.2.1 c h1 h2,tiles_congr h.2.2.2.2 (fun c hc=>hv c (by have:=h.2.1;omega))⟩
theorem segs_tiles {o:ByteArray}:∀ {ps:List Pc}{b:Int},AscP b ps→Tiles (pcV o ps) b (segsP o b ps)
 | [],b,h=>by
  unfold segsP
  split
  ·rename_i hb
   exact ⟨Int.le_refl _,hb,Int.le_refl _,fun c _ _=>rfl,rfl⟩
  ·have h:b≤1114112:=h
   show b=1114112
   omega
 | p::ps,b,h=>by
  have h1:=h.1;have h2:=h.2.1;have h3:=h.2.2.1
  have ih:=segs_tiles (o:=o) h.2.2.2
  have ih':Tiles (pcV o (p::ps)) (p.hi+1) (segsP o (p.hi+1) ps):=tiles_congr ih fun c hc=>(pcV_cons_no (by omega)).symm
  have hp:∀ c,p.lo≤c→c≤p.hi→pcV o (p::ps) c=p.s:=fun c a b=>pcV_cons_yes ⟨a,b⟩
  unfold segsP
  split
  ·refine ⟨Int.le_refl _,by show b≤p.lo - 1;omega,by show p.lo - 1≤_;omega,fun c hc1 hc2=>?_,?_⟩
   ·have hc2:c≤p.lo - 1:=hc2
    rw[pcV_cons_no (by omega)]
    exact pcV_none fun q hq hh=>by have:=h.2.2.2.mem hq;omega
   ·show Tiles _ (p.lo - 1+1) (p::segsP o (p.hi+1) ps)
    rw[Int.sub_add_cancel]
    exact ⟨Int.le_refl _,h2,h3,hp,ih'⟩
  ·exact ⟨by omega,by omega,h3,fun c hc1 hc2=>hp c (by omega) hc2,ih'⟩
end Go.Proofs
namespace Go.Proofs
open Go Go.Sx
variable {mx:Int}{pb:Bool}
def ctFiles:Ct:={ ι:=Unit,inp:=fun _=>[],out:=fun _=>slD 1 strD filesL,pre:=fun _=>True }
set_option maxHeartbeats 1000000 in
theorem rFiles_ok:Sound Tryz.prog (GlT mx pb) 31 ctFiles:=by
 refine sound_by (cc:=true) Γ0_ok Tryz.T_ok Tryz.mixed Tryz.func31 rfl (by kernel_rfl) (fun _=>rfl) (fun _ _=>by show 0≤2;decide) ?_
 intro (u:Unit) _
 repeat' (first|refine gl ?_|(first|refine br ?_ ?_|refine brF ?_ ?_)<;>intro q_<;>try simp only[nz] at q_)
 exact EntR.of rfl (ent_lit rfl rfl)
set_option maxHeartbeats 1000000 in
theorem pFiles_ok:Sound Tryz.prog (GlT mx pb) 268 ctFiles:=by
 refine sound_by (cc:=true) Γ0_ok Tryz.T_ok Tryz.mixed Tryz.func268 rfl (by kernel_rfl) (fun _=>rfl) (fun _ _=>by show 0≤2;decide) ?_
 intro (u:Unit) _
 repeat' (first|refine gl ?_|(first|refine br ?_ ?_|refine brF ?_ ?_)<;>intro q_<;>try simp only[nz] at q_)
 exact EntR.of rfl (ent_lit rfl rfl)
def ctPropI:Ct:={ ι:=Db × Int,inp:=fun x=>[dbA x.1,.v (.int .i64 x.2)],out:=fun x=>prA (x.1.prs x.2.toNat),pre:=fun x=>0≤x.2∧x.2<7 }
set_option maxHeartbeats 4000000 in
theorem rProp_ok:Sound Tryz.prog (GlT mx pb) 29 ctPropI:=by
 refine sound_by (cc:=true) Γ0_ok Tryz.T_ok Tryz.mixed Tryz.func29 rfl (by kernel_rfl) (fun _=>rfl) (fun _ _=>by show 2≤35;decide) ?_
 rintro ⟨(d:Db),(i:Int)⟩ ⟨(h0:0≤i),(h7:i<7)⟩
 repeat' (first|refine gl ?_|(first|refine br ?_ ?_|refine brF ?_ ?_)<;>intro q_<;>try simp only[nz] at q_)
 all_goals first
  | (exfalso;omega)
  | (subst q_;exact EntR.of rfl (Ent.refl _))
  | (obtain rfl:i=6:=by omega
     exact EntR.of rfl (Ent.refl _))
def ctSetI:Ct:={ ι:=Db × Int,inp:=fun x=>[dbA x.1,.v (.int .i64 x.2)],out:=fun x=>setD (x.1.sts x.2.toNat),pre:=fun x=>0≤x.2∧x.2<6 }
set_option maxHeartbeats 4000000 in
theorem rSet_ok:Sound Tryz.prog (GlT mx pb) 60 ctSetI:=by
 refine sound_by (cc:=true) Γ0_ok Tryz.T_ok Tryz.mixed Tryz.func60 rfl (by kernel_rfl) (fun _=>rfl) (fun _ _=>by show 2≤37;decide) ?_
 rintro ⟨(d:Db),(i:Int)⟩ ⟨(h0:0≤i),(h7:i<6)⟩
 repeat' (first|refine gl ?_|(first|refine br ?_ ?_|refine brF ?_ ?_)<;>intro q_<;>try simp only[nz] at q_)
 all_goals first
  | (exfalso;omega)
  | (subst q_;exact EntR.of rfl (Ent.refl _))
  | (obtain rfl:i=5:=by omega
     exact EntR.of rfl (Ent.refl _))
def mapI (d:Db):Nat→List Mp
 | 9=>d.mps 0
 | 11=>d.mps 1
 | 12=>d.mps 2
 | 13=>d.mps 3
 | 14=>d.mps 4
 | _=>d.mps 5
theorem mapI_ex (d:Db) (k:Nat):∃ i,i<6∧mapI d k=d.mps i:=by
 unfold mapI
 split
 ·exact ⟨0,by decide,rfl⟩
 ·exact ⟨1,by decide,rfl⟩
 ·exact ⟨2,by decide,rfl⟩
 ·exact ⟨3,by decide,rfl⟩
 ·exact ⟨4,by decide,rfl⟩
 ·exact ⟨5,by decide,rfl⟩
theorem mapI_all {d:Db}{p:List Mp→Prop}(h:∀ k,k<21→p (mapI d k)):∀ i,i<6→p (d.mps i):=fun i hi=>by
 match i,hi with
 | 0,_=>exact h 9 (by decide)
 | 1,_=>exact h 11 (by decide)
 | 2,_=>exact h 12 (by decide)
 | 3,_=>exact h 13 (by decide)
 | 4,_=>exact h 14 (by decide)
 | 5,_=>exact h 20 (by decide)
theorem filesL_len:filesL.length=21:=rfl
def ctMapI:Ct:={ ι:=Db × Int,inp:=fun x=>[dbA x.1,.v (.int .i64 x.2)],out:=fun x=>mpsD (mapI x.1 x.2.toNat),pre:=fun x=>0≤x.2∧x.2<21 }
def Γfl:Ctx:=fun f=>match f with
 | 31=>some (.pure ctFiles)
 | _=>none
theorem Γfl_ok:CtxOk Tryz.prog (GlT mx pb) Γfl:=by
 intro f h hh
 simp only[Γfl] at hh
 split at hh<;>simp at hh<;>subst hh
 ·exact rFiles_ok
set_option maxHeartbeats 8000000 in
theorem rMapI_ok:Sound Tryz.prog (GlT mx pb) 62 ctMapI:=by
 refine sound_by (cc:=true) Γfl_ok Tryz.T_ok Tryz.mixed Tryz.func62 rfl (by kernel_rfl) (fun _=>rfl) (fun _ _=>by show 2≤36;decide) ?_
 rintro ⟨(d:Db),(i:Int)⟩ ⟨(h0:0≤i),(h7:i<21)⟩
 obtain ⟨n,rfl⟩:∃ n:Nat,i=n:=⟨i.toNat,by omega⟩
 have hn:n<21:=by omega
 have hlen:=filesL_len
 match n,hn with
 | 0,_ =>
  repeat' (first|refine gl ?_|(first|refine br ?_ ?_|refine brF ?_ ?_)<;>intro q_<;>try simp only[nz] at q_)
  exact EntR.of rfl (Ent.refl _)
 | 1,_ =>
  repeat' (first|refine gl ?_|(first|refine br ?_ ?_|refine brF ?_ ?_)<;>intro q_<;>try simp only[nz] at q_)
  exact EntR.of rfl (Ent.refl _)
 | 2,_ =>
  repeat' (first|refine gl ?_|(first|refine br ?_ ?_|refine brF ?_ ?_)<;>intro q_<;>try simp only[nz] at q_)
  exact EntR.of rfl (Ent.refl _)
 | 3,_ =>
  repeat' (first|refine gl ?_|(first|refine br ?_ ?_|refine brF ?_ ?_)<;>intro q_<;>try simp only[nz] at q_)
  exact EntR.of rfl (Ent.refl _)
 | 4,_ =>
  repeat' (first|refine gl ?_|(first|refine br ?_ ?_|refine brF ?_ ?_)<;>intro q_<;>try simp only[nz] at q_)
  exact EntR.of rfl (Ent.refl _)
 | 5,_ =>
  repeat' (first|refine gl ?_|(first|refine br ?_ ?_|refine brF ?_ ?_)<;>intro q_<;>try simp only[nz] at q_)
  exact EntR.of rfl (Ent.refl _)
 | 6,_ =>
  repeat' (first|refine gl ?_|(first|refine br ?_ ?_|refine brF ?_ ?_)<;>intro q_<;>try simp only[nz] at q_)
  exact EntR.of rfl (Ent.refl _)
 | 7,_ =>
  repeat' (first|refine gl ?_|(first|refine br ?_ ?_|refine brF ?_ ?_)<;>intro q_<;>try simp only[nz] at q_)
  exact EntR.of rfl (Ent.refl _)
 | 8,_ =>
  repeat' (first|refine gl ?_|(first|refine br ?_ ?_|refine brF ?_ ?_)<;>intro q_<;>try simp only[nz] at q_)
  exact EntR.of rfl (Ent.refl _)
 | 9,_ =>
  repeat' (first|refine gl ?_|(first|refine br ?_ ?_|refine brF ?_ ?_)<;>intro q_<;>try simp only[nz] at q_)
  exact EntR.of rfl (Ent.refl _)
 | 10,_ =>
  repeat' (first|refine gl ?_|(first|refine br ?_ ?_|refine brF ?_ ?_)<;>intro q_<;>try simp only[nz] at q_)
  exact EntR.of rfl (Ent.refl _)
 | 11,_ =>
  repeat' (first|refine gl ?_|(first|refine br ?_ ?_|refine brF ?_ ?_)<;>intro q_<;>try simp only[nz] at q_)
  exact EntR.of rfl (Ent.refl _)
 | 12,_ =>
  repeat' (first|refine gl ?_|(first|refine br ?_ ?_|refine brF ?_ ?_)<;>intro q_<;>try simp only[nz] at q_)
  exact EntR.of rfl (Ent.refl _)
 | 13,_ =>
  repeat' (first|refine gl ?_|(first|refine br ?_ ?_|refine brF ?_ ?_)<;>intro q_<;>try simp only[nz] at q_)
  exact EntR.of rfl (Ent.refl _)
 | 14,_ =>
  repeat' (first|refine gl ?_|(first|refine br ?_ ?_|refine brF ?_ ?_)<;>intro q_<;>try simp only[nz] at q_)
  exact EntR.of rfl (Ent.refl _)
 | 15,_ =>
  repeat' (first|refine gl ?_|(first|refine br ?_ ?_|refine brF ?_ ?_)<;>intro q_<;>try simp only[nz] at q_)
  exact EntR.of rfl (Ent.refl _)
 | 16,_ =>
  repeat' (first|refine gl ?_|(first|refine br ?_ ?_|refine brF ?_ ?_)<;>intro q_<;>try simp only[nz] at q_)
  exact EntR.of rfl (Ent.refl _)
 | 17,_ =>
  repeat' (first|refine gl ?_|(first|refine br ?_ ?_|refine brF ?_ ?_)<;>intro q_<;>try simp only[nz] at q_)
  exact EntR.of rfl (Ent.refl _)
 | 18,_ =>
  repeat' (first|refine gl ?_|(first|refine br ?_ ?_|refine brF ?_ ?_)<;>intro q_<;>try simp only[nz] at q_)
  exact EntR.of rfl (Ent.refl _)
 | 19,_ =>
  repeat' (first|refine gl ?_|(first|refine br ?_ ?_|refine brF ?_ ?_)<;>intro q_<;>try simp only[nz] at q_)
  exact EntR.of rfl (Ent.refl _)
 | 20,_ =>
  repeat' (first|refine gl ?_|(first|refine br ?_ ?_|refine brF ?_ ?_)<;>intro q_<;>try simp only[nz] at q_)
  exact EntR.of rfl (Ent.refl _)
structure SmD (d:Db):Prop where
 cls:d.cls.length≤16
 prs:∀ i,i<7→(d.prs i).names.length≤30∧(d.prs i).spans.length≤16
 sts:∀ i,i<6→(d.sts i).length≤12
 mps:∀ i,i<6→smallB (d.mps i)=true
open Classical in
noncomputable def smDb (d:Db):Bool:=decide (SmD d)
theorem smDb_t {d:Db}(h:SmD d):true=smDb d:=(@decide_eq_true _ (Classical.propDecidable _) h).symm
theorem smDb_f {d:Db}(h:¬SmD d):false=smDb d:=(@decide_eq_false _ (Classical.propDecidable _) h).symm
theorem smDb_iff {d:Db}:smDb d=true↔SmD d:=by
 unfold smDb
 exact @decide_eq_true_iff _ (Classical.propDecidable _)
def fitDb (d:Db):Prop:=∀ i,(d.mps i).length≤9223372036854775807
noncomputable def ctSmDb:Ct:={ ι:=Db,inp:=fun d=>[dbA d],out:=fun d=>.v (.bool (smDb d)),pre:=fitDb }
noncomputable def Γsm:Ctx:=fun f=>match f with
 | 31=>some (.pure ctFiles)
 | 29=>some (.pure ctPropI)
 | 60=>some (.pure ctSetI)
 | 62=>some (.pure ctMapI)
 | 15=>some (.pure ctSm2)
 | 61=>some (.pure ctSmall)
 | _=>none
theorem Γsm_ok:CtxOk Tryz.prog (GlT mx pb) Γsm:=by
 intro f h hh
 simp only[Γsm] at hh
 split at hh<;>simp at hh<;>subst hh
 ·exact rFiles_ok
 ·exact rProp_ok
 ·exact rSet_ok
 ·exact rMapI_ok
 ·exact r2Small_ok
 ·exact rsmall_ok
set_option maxHeartbeats 8000000 in
theorem rSmDb_ok:Sound Tryz.prog (GlT mx pb) 27 ctSmDb:=by
 refine sound_by (cc:=true) Γsm_ok Tryz.T_ok Tryz.mixed Tryz.func27 rfl (by kernel_rfl) (fun _=>rfl) (fun _ _=>by show 1≤49;decide) ?_
 intro (d:Db) (hd:fitDb d)
 repeat' (first|refine gl ?_|(first|refine br ?_ ?_|refine brF ?_ ?_)<;>intro q_<;>try simp only[nz] at q_)
 ·exact EntR.bool (smDb_f fun h=>by have:=h.cls;omega)
 have hcls:=q_
 refine ⟨0,Nat,fun k=>⟨[(1,.own 0 0),(3,.v (.int .i64 k))],[.cells 47 (dbL d)],[]⟩,fun k=>k≤7∧∀ j,j<k→(d.prs j).names.length≤30∧(d.prs j).spans.length≤16,fun k=>7 - k,fun _=>Nat.zero_le _,⟨0,⟨Nat.zero_le _,fun j hj=>by omega⟩,StLe.ren [0] tmS ⟨⟨rfl,EntL.refl _,rfl⟩,trivial⟩ (by decide)⟩,?_⟩
 rintro k ⟨hk,hdk⟩
 by_cases hlt:k<7
 ·have p1:ctPropI.pre (d,(k:Int)):=⟨by show 0≤(k:Int);omega,by show (k:Int)<7;omega⟩
  repeat' (first|refine gl ?_|(first|refine br ?_ ?_|refine brF ?_ ?_)<;>intro q_<;>try simp only[nz] at q_)
  all_goals first
   | exact EntR.bool (smDb_f fun h=>by have:=h.prs k hlt;omega)
   | exact ⟨k+1,⟨by omega,next_of hdk ⟨by omega,by omega⟩⟩,(by show 7 - (k+1)<7 - k;omega),StLe.ren [0] tmS ⟨⟨rfl,EntL.refl _,rfl⟩,trivial⟩ (by decide)⟩
 have e7:k=7:=by omega
 subst e7
 repeat' (first|refine gl ?_|(first|refine br ?_ ?_|refine brF ?_ ?_)<;>intro q_<;>try simp only[nz] at q_)
 refine ⟨0,Nat,fun k=>⟨[(1,.own 0 0),(5,.v (.int .i64 k))],[.cells 47 (dbL d)],[]⟩,fun k=>k≤6∧∀ j,j<k→(d.sts j).length≤12,fun k=>6 - k,fun _=>Nat.zero_le _,⟨0,⟨Nat.zero_le _,fun j hj=>by omega⟩,StLe.ren [0] tmS ⟨⟨rfl,EntL.refl _,rfl⟩,trivial⟩ (by decide)⟩,?_⟩
 rintro k ⟨hk,hds⟩
 by_cases hlt:k<6
 ·have p1:ctSetI.pre (d,(k:Int)):=⟨by show 0≤(k:Int);omega,by show (k:Int)<6;omega⟩
  repeat' (first|refine gl ?_|(first|refine br ?_ ?_|refine brF ?_ ?_)<;>intro q_<;>try simp only[nz] at q_)
  all_goals first
   | exact EntR.bool (smDb_f fun h=>by have:=h.sts k hlt;omega)
   | exact ⟨k+1,⟨by omega,next_of hds (by omega)⟩,(by show 6 - (k+1)<6 - k;omega),StLe.ren [0] tmS ⟨⟨rfl,EntL.refl _,rfl⟩,trivial⟩ (by decide)⟩
 have e6:k=6:=by omega
 subst e6
 repeat' (first|refine gl ?_|(first|refine br ?_ ?_|refine brF ?_ ?_)<;>intro q_<;>try simp only[nz] at q_)
 refine ⟨0,Nat,fun k=>⟨[(1,.own 0 0),(6,.v (.int .i64 k))],[.cells 47 (dbL d)],[]⟩,fun k=>k≤21∧∀ j,j<k→smallB (mapI d j)=true,fun k=>21 - k,fun _=>Nat.zero_le _,⟨0,⟨Nat.zero_le _,fun j hj=>by omega⟩,StLe.ren [0] tmS ⟨⟨rfl,EntL.refl _,rfl⟩,trivial⟩ (by decide)⟩,?_⟩
 rintro k ⟨hk,hdm⟩
 have hlen:=filesL_len
 by_cases hlt:k<21
 ·have p1:ctMapI.pre (d,(k:Int)):=⟨by show 0≤(k:Int);omega,by show (k:Int)<21;omega⟩
  have p2:ctSmall.pre (mapI d k):=by
   obtain ⟨i,_,e⟩:=mapI_ex d k
   rw[e];exact hd i
  repeat' (first|refine gl ?_|(first|refine br ?_ ?_|refine brF ?_ ?_)<;>intro q_<;>try simp only[nz] at q_)
  ·refine EntR.bool (smDb_f fun h=>?_)
   obtain ⟨i,hi,e⟩:=mapI_ex d k
   rw[e,h.mps i hi] at q_
   exact Bool.noConfusion q_
  ·exact ⟨k+1,⟨by omega,next_of hdm q_⟩,(by show 21 - (k+1)<21 - k;omega),StLe.ren [0] tmS ⟨⟨rfl,EntL.refl _,rfl⟩,trivial⟩ (by decide)⟩
 ·repeat' (first|refine gl ?_|(first|refine br ?_ ?_|refine brF ?_ ?_)<;>intro q_<;>try simp only[nz] at q_)
  exact EntR.bool (smDb_t ⟨by omega,hdk,hds,mapI_all (p:=fun l=>smallB l=true) fun j hj=>hdm j (by omega)⟩)
end Go.Proofs
namespace Go.Proofs
open Go Go.Sx
variable {mx:Int}{pb:Bool}
theorem cat0E {α:Type} [Inhabited α] {enc:α→Nat→D}(l:List α) (f:Nat→Nat→D) (i j:Nat):catF 0 f (fun i j=>enc (l.getD i default) j) i j=enc (l.getD i default) j:=by simp[catF]
def ctClone {α:Type} [Inhabited α] (sz:Nat) (enc:α→Nat→D):Ct:={ ι:=List α,inp:=fun l=>[slD sz enc l],out:=fun l=>slD sz enc l,pre:=fun l=>l.length≤1000000 }
theorem cloneS_ok:Sound Tryz.prog (GlT mx pb) 247 (ctClone 1 strD):=by
 refine sound_by (cc:=true) Γ0_ok Tryz.T_ok Tryz.mixed Tryz.func247 rfl (by kernel_rfl) (fun _=>rfl) (fun _ _=>by show 1≤8;decide) ?_
 intro (l:List ByteArray) (hl:l.length≤1000000)
 refine gA ?_
 intro q hq
 refine gA ?_
 refine And.intro (fun h=>?_) (fun h=>?_)
 ·have hq:l.length=0:=hq (by simpa using h)
  have e:l=[]:=List.length_eq_zero_iff.1 hq
  subst e
  refine gA ?_
  exact EntR.of rfl Ent.nil
 ·refine gA ?_
  refine And.intro (show 0+l.length≤_ by omega) (And.intro (show (0+l.length)*16≤_ by omega) ?_)
  refine gA ?_
  refine EntR.of rfl (Ent.sl (show 0+l.length=l.length by omega) fun i hi j hj=>Ent.of_eq ?_)
  show catF 0 _ (fun i j=>strD (l.getD i default) j) i j=_
  exact cat0E (enc:=strD) l _ i j
theorem clonePs_ok:Sound Tryz.prog (GlT mx pb) 248 (ctClone 3 spD):=by
 refine sound_by (cc:=true) Γ0_ok Tryz.T_ok Tryz.mixed Tryz.func248 rfl (by kernel_rfl) (fun _=>rfl) (fun _ _=>by show 1≤8;decide) ?_
 intro (l:List Sp) (hl:l.length≤1000000)
 refine gA ?_
 intro q hq
 refine gA ?_
 refine And.intro (fun h=>?_) (fun h=>?_)
 ·have hq:l.length=0:=hq (by simpa using h)
  have e:l=[]:=List.length_eq_zero_iff.1 hq
  subst e
  refine gA ?_
  exact EntR.of rfl Ent.nil
 ·refine gA ?_
  refine And.intro (show 0+l.length≤_ by omega) (And.intro (show (0+l.length)*24≤_ by omega) ?_)
  refine gA ?_
  refine EntR.of rfl (Ent.sl (show 0+l.length=l.length by omega) fun i hi j hj=>Ent.of_eq ?_)
  show catF 0 _ (fun i j=>spD (l.getD i default) j) i j=_
  exact cat0E (enc:=spD) l _ i j
theorem cloneR_ok:Sound Tryz.prog (GlT mx pb) 245 (ctClone 2 rgD):=by
 refine sound_by (cc:=true) Γ0_ok Tryz.T_ok Tryz.mixed Tryz.func245 rfl (by kernel_rfl) (fun _=>rfl) (fun _ _=>by show 1≤8;decide) ?_
 intro (l:List Rg) (hl:l.length≤1000000)
 refine gA ?_
 intro q hq
 refine gA ?_
 refine And.intro (fun h=>?_) (fun h=>?_)
 ·have hq:l.length=0:=hq (by simpa using h)
  have e:l=[]:=List.length_eq_zero_iff.1 hq
  subst e
  refine gA ?_
  exact EntR.of rfl Ent.nil
 ·refine gA ?_
  refine And.intro (show 0+l.length≤_ by omega) (And.intro (show (0+l.length)*16≤_ by omega) ?_)
  refine gA ?_
  refine EntR.of rfl (Ent.sl (show 0+l.length=l.length by omega) fun i hi j hj=>Ent.of_eq ?_)
  show catF 0 _ (fun i j=>rgD (l.getD i default) j) i j=_
  exact cat0E (enc:=rgD) l _ i j
noncomputable def cPAt:Code:=(Tryz.f246.body).getD .skip
noncomputable def cSAt:Code:=(Tryz.f244.body).getD .skip
noncomputable def Γdp (mx:Int) (pb:Bool):Ctx:=fun f=>match f with
 | 247=>some (.pure (ctClone 1 strD))
 | 248=>some (.pure (ctClone 3 spD))
 | 245=>some (.pure (ctClone 2 rgD))
 | 246=>some (.gen (inlW true Γ0 Tryz.T (GlT mx pb) Tryz.f246 cPAt))
 | 244=>some (.gen (inlW true Γ0 Tryz.T (GlT mx pb) Tryz.f244 cSAt))
 | _=>none
theorem Γdp_ok:CtxOk Tryz.prog (GlT mx pb) (Γdp mx pb):=by
 intro f h hh
 simp only[Γdp] at hh
 split at hh<;>simp at hh<;>subst hh
 ·exact cloneS_ok
 ·exact clonePs_ok
 ·exact cloneR_ok
 ·exact soundT_inlW Γ0_ok Tryz.T_ok Tryz.mixed Tryz.func246 rfl (by kernel_rfl)
 ·exact soundT_inlW Γ0_ok Tryz.T_ok Tryz.mixed Tryz.func244 rfl (by kernel_rfl)
def ctDbPr:Ct:={ ι:=Db × Nat,inp:=fun x=>[dbA x.1,.v (.int .i64 x.2)],out:=fun x=>prA (x.1.prs x.2),pre:=fun x=>x.2<7∧(x.1.prs x.2).names.length≤1000000∧(x.1.prs x.2).spans.length≤1000000 }
set_option maxHeartbeats 4000000 in
theorem pDbPr_ok:Sound Tryz.prog (GlT mx pb) 202 ctDbPr:=by
 refine sound_by (cc:=true) Γdp_ok Tryz.T_ok Tryz.mixed Tryz.func202 rfl (by kernel_rfl) (fun _=>rfl) (fun _ _=>by show 2≤22;decide) ?_
 rintro ⟨(d:Db),(k:Nat)⟩ ⟨hk,hn,hs⟩
 have p1:(ctClone 1 strD).pre (d.prs k).names:=hn
 have p2:(ctClone 3 spD).pre (d.prs k).spans:=hs
 match k,hk with
 | 0,_ =>
  repeat' (first|refine gl ?_|(first|refine br ?_ ?_|refine brF ?_ ?_)<;>intro q_<;>try simp only[nz] at q_)
  exact EntR.of rfl (Ent.refl _)
 | 1,_ =>
  repeat' (first|refine gl ?_|(first|refine br ?_ ?_|refine brF ?_ ?_)<;>intro q_<;>try simp only[nz] at q_)
  exact EntR.of rfl (Ent.refl _)
 | 2,_ =>
  repeat' (first|refine gl ?_|(first|refine br ?_ ?_|refine brF ?_ ?_)<;>intro q_<;>try simp only[nz] at q_)
  exact EntR.of rfl (Ent.refl _)
 | 3,_ =>
  repeat' (first|refine gl ?_|(first|refine br ?_ ?_|refine brF ?_ ?_)<;>intro q_<;>try simp only[nz] at q_)
  exact EntR.of rfl (Ent.refl _)
 | 4,_ =>
  repeat' (first|refine gl ?_|(first|refine br ?_ ?_|refine brF ?_ ?_)<;>intro q_<;>try simp only[nz] at q_)
  exact EntR.of rfl (Ent.refl _)
 | 5,_ =>
  repeat' (first|refine gl ?_|(first|refine br ?_ ?_|refine brF ?_ ?_)<;>intro q_<;>try simp only[nz] at q_)
  exact EntR.of rfl (Ent.refl _)
 | 6,_ =>
  repeat' (first|refine gl ?_|(first|refine br ?_ ?_|refine brF ?_ ?_)<;>intro q_<;>try simp only[nz] at q_)
  exact EntR.of rfl (Ent.refl _)
 | k0+7,h=>exact absurd (show k0+7<7 from h) (by omega)
def ctDbSt:Ct:={ ι:=Db × Nat,inp:=fun x=>[dbA x.1,.v (.int .i64 x.2)],out:=fun x=>setD (x.1.sts x.2),pre:=fun x=>x.2<6∧(x.1.sts x.2).length≤1000000 }
set_option maxHeartbeats 4000000 in
theorem pDbSt_ok:Sound Tryz.prog (GlT mx pb) 201 ctDbSt:=by
 refine sound_by (cc:=true) Γdp_ok Tryz.T_ok Tryz.mixed Tryz.func201 rfl (by kernel_rfl) (fun _=>rfl) (fun _ _=>by show 2≤17;decide) ?_
 rintro ⟨(d:Db),(k:Nat)⟩ ⟨hk,hs⟩
 have p1:(ctClone 2 rgD).pre (d.sts k):=hs
 match k,hk with
 | 0,_ =>
  repeat' (first|refine gl ?_|(first|refine br ?_ ?_|refine brF ?_ ?_)<;>intro q_<;>try simp only[nz] at q_)
  exact EntR.of rfl (Ent.refl _)
 | 1,_ =>
  repeat' (first|refine gl ?_|(first|refine br ?_ ?_|refine brF ?_ ?_)<;>intro q_<;>try simp only[nz] at q_)
  exact EntR.of rfl (Ent.refl _)
 | 2,_ =>
  repeat' (first|refine gl ?_|(first|refine br ?_ ?_|refine brF ?_ ?_)<;>intro q_<;>try simp only[nz] at q_)
  exact EntR.of rfl (Ent.refl _)
 | 3,_ =>
  repeat' (first|refine gl ?_|(first|refine br ?_ ?_|refine brF ?_ ?_)<;>intro q_<;>try simp only[nz] at q_)
  exact EntR.of rfl (Ent.refl _)
 | 4,_ =>
  repeat' (first|refine gl ?_|(first|refine br ?_ ?_|refine brF ?_ ?_)<;>intro q_<;>try simp only[nz] at q_)
  exact EntR.of rfl (Ent.refl _)
 | 5,_ =>
  repeat' (first|refine gl ?_|(first|refine br ?_ ?_|refine brF ?_ ?_)<;>intro q_<;>try simp only[nz] at q_)
  exact EntR.of rfl (Ent.refl _)
 | k0+6,h=>exact absurd (show k0+6<6 from h) (by omega)
end Go.Proofs
