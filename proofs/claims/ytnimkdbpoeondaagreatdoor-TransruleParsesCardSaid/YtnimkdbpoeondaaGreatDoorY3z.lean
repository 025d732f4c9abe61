import Derived.Test.YtnimkdbpoeondaaGreatDoorY2z
set_option linter.all false
set_option maxHeartbeats 4000000
namespace Go.Proofs
open Go Go.Sx
variable {mx:Int}{pb:Bool}
attribute [local irreducible] zbs zbi yf xD
noncomputable def ocEl:Oc:=ocR Unit (fun _=>[]) (fun _ _=>True) (fun p _=>(zat p).p zb6)
noncomputable def Γy8 (mx:Int) (pb:Bool):Ctx:=fun f=>match f with
 | 66=>some (.obj ocBlR)
 | 67=>some (.obj ocNx)
 | 68=>some (.pure ctLet)
 | 69=>some (.pure ctSng)
 | 71=>some (.obj ocGr)
 | 70=>some (.obj ocXp)
 | 73=>some (.obj ocCl)
 | 74=>some (.obj ocEs)
 | 72=>some (.pure ctHP)
 | _=>none
theorem Γy8_ok:CK mx pb (Γy8 mx pb):=by
 intro f h hh;simp only[Γy8] at hh;split at hh<;>simp at hh<;>subst hh
 ·exact yBl_ok
 ·exact yNx_ok
 ·exact yLet_ok
 ·exact ySng_ok
 ·exact yGr_ok
 ·exact yXp_ok
 ·exact yCl_ok
 ·exact yEs_ok
 ·exact stHP_ok
structure ElIn (z:RX) (f:Nat) (q:RX) (L:List (List Rg)):Prop where
 s:q.1.s=z.1.s
 fuel:q.1.s.size+1<f+q.1.k
 len:L.length<=q.1.k
 run:elF f q L=zat z
theorem ElIn.next {z:RX}{f:Nat}{q r:RX}{L L':List (List Rg)}(h:ElIn z (f+1) q L) (g:GoesR (blR q) r) (hl:L'.length=L.length+1) (hr:elF f r L'=zat z):ElIn z f r L':=by
 have h1:=h.s;have h2:=h.fuel;have h3:=h.len;have h4:=g.1;have h5:=g.2;have h6:=blR_k q;have h7:=blR_s q;refine ⟨h4.trans (h7.trans h1),?_,by omega,hr⟩
 rw[h4,h7];omega
def sEl (q:RX) (L:List (List Rg)):St:=⟨[(0,.own 0 0),(3,.row 1)],[.cells 102 (rC q.1),zG 31 1 stD L],[]⟩
theorem yEl_ok:SQ mx pb 42 ocEl:=by
 refine so (cc:=true) Γy8_ok Tryz.func42 (fun x=>zx x.1) (fun _=>rfl) (fun x=>zx x.2.2.st) ?_;rintro ⟨p,a,o⟩ ⟨_,ho⟩
 replace ho:(zat p).p zb6=o:=ho;subst ho;refine gw ?_;refine ⟨0,Nat × RX × List (List Rg),fun|(f,q,L)=>sEl q L,fun|(f,q,L)=>ElIn p f q L,fun x=>x.1,fun _=>(by show 1<=2;decide),⟨(p.1.s.size+2,p,[]),⟨rfl,by omega,Nat.zero_le _,rfl⟩,StLe.trans (StLe.nilRow (t:=3) 31 1 (fun _ _=>.junk) rfl) (zq [0,1] tmS ⟨zak (zx p),yg,trivial⟩ (by decide) ml2 (by simp))⟩,?_⟩
 rintro ⟨f,q,L⟩ hin;replace hin:ElIn p f q L:=hin;obtain ⟨hs,hfu,hln,hrun⟩:=id hin;have k2:q.1.s.size<=65536:=q.2.2.2;have k3:q.1.k<=q.1.s.size+1:=q.2.2.1;cases f with
 | zero=>exact absurd hfu (by omega)
 | succ f =>
 dsimp only;unfold sEl;rw[elF] at hrun;have hb:=nxV_bd (blR q).1;have kb:(blR q).1.k<=(blR q).1.s.size+1:=(blR q).2.2.1;have k5:(blR q).1.s.size<=65536:=(blR q).2.2.2;have pl:ctLet.pre (nxV (blR q).1):=trivial;have ps:∀ c,ctSng.pre c:=fun _=>trivial;have hw:IntKind.i64.wrap (nxV (blR q).1)=nxV (blR q).1:=yI ⟨by omega,by omega⟩
 refine gw ?_;refine ⟨(q:RX),obE (zx q),eL,trivial,?_⟩
 refine gw ?_;refine ⟨(blR q:RX),obE (zx (blR q)),eL,trivial,?_⟩
 by_cases hL:isL (nxV (blR q).1)
 ·have hk:(blR q).1.k<(blR q).1.s.size:=by unfold isL at hL;exact (un (p:=(blR q).1) rfl (by omega)).1
  rw[dif_pos hL] at hrun;refine gw ?_;exact ⟨(f,yp (blR q) hk,L++[canon [(nxV (blR q).1,nxV (blR q).1)]]),ElIn.next hin ⟨rfl,Nat.lt_succ_self _⟩ (by simp) hrun,(by show f<f+1;omega),zq [0,2] tmS ⟨zak (zx (yp (blR q) hk)),zF (x:=canon [(nxV (blR q).1,nxV (blR q).1)]) (fun j hj=>match j,hj with|0,_=>Ent.of_eq (show xE (canon [(IntKind.i64.wrap (nxV (blR q).1),IntKind.i64.wrap (nxV (blR q).1))])=xE (canon [(nxV (blR q).1,nxV (blR q).1)]) by rw[hw])),trivial⟩ (by decide) ml3 (by simp)⟩
 rw[dif_neg hL] at hrun;by_cases h91:nxV (blR q).1=91
 ·rw[if_pos h91] at hrun;refine gw ?_;cases hG:zbo (blR q) () with
  | bad r =>
   rw[hG] at hrun;refine ⟨((blR q,(),.bad r):RX × Unit × OutR),obE (zx (blR q)),eL,⟨h91,hG⟩,?_⟩
   exact zkd (q:=r) rfl (by rw[<- hrun];rfl) (zd rfl rfl) rfl rfl
  | ok d r =>
   have g:=runGr_goes h91 hG;obtain ⟨t,rfl,ht⟩:=runGr_str hG;rw[hG] at hrun;dsimp only[dS] at hrun;refine ⟨((blR q,(),.ok (.v (.string t)) r):RX × Unit × OutR),obE (zx (blR q)),eL,⟨h91,hG⟩,?_⟩
   refine gw ?_;by_cases h0:(prs r.1.db (yt (yt emS t) emS)).2.1=0
   ·have hx:zgw r (t,emS,emS)=.ok (zR (prs r.1.db (yt (yt emS t) emS)).1) r:=if_pos h0;have hl:xpL r t emS emS (fun S q=>elF f q (L++[S]))=elF f r (L++[(prs r.1.db (yt (yt emS t) emS)).1]):=if_pos h0;rw[hl] at hrun;refine ⟨((r,(t,emS,emS),.ok (zR (prs r.1.db (yt (yt emS t) emS)).1) r):RX × (ByteArray × ByteArray × ByteArray) × OutR),obE (zx r),eL,⟨⟨(by show t.size<=100000;omega),(by decide:emS.size<=10),(by decide:emS.size<=10)⟩,hx⟩,?_⟩
    clear hx hl h0;generalize (prs r.1.db (yt (yt emS t) emS)).1=S at hrun ⊢;refine gw ?_;exact ⟨(f,r,L++[S]),ElIn.next hin g (by simp) hrun,(by show f<f+1;omega),zq [0,2] tmS ⟨zak (zx r),zF (x:=S) (fun j hj=>match j,hj with|0,_=>eE),trivial⟩ (by decide) ml3 (by simp)⟩
   ·have hx:zgw r (t,emS,emS)=.bad r:=if_neg h0;have hl:xpL r t emS emS (fun S q=>elF f q (L++[S]))=.bad r:=if_neg h0;rw[hl] at hrun;refine ⟨((r,(t,emS,emS),.bad r):RX × (ByteArray × ByteArray × ByteArray) × OutR),obE (zx r),eL,⟨⟨(by show t.size<=100000;omega),(by decide:emS.size<=10),(by decide:emS.size<=10)⟩,hx⟩,?_⟩
    exact zkd (q:=r) rfl (by rw[<- hrun];rfl) (zd rfl rfl) rfl rfl
 rw[if_neg h91] at hrun;by_cases h92:nxV (blR q).1=92
 ·obtain ⟨hk,_⟩:=un h92 (by decide)
  refine gw ?_;refine ⟨((zN (blR q).1.s (blR q).1.k (blR q).1.s.size,zcf):ByteArray × ByteArray),eL,fun _=>trivial,?_⟩
  by_cases hP:hpB (zN (blR q).1.s (blR q).1.k (blR q).1.s.size) zcf=true
  ·rw[if_pos ⟨h92,hP⟩] at hrun;rw[show ctHP.out (zN (blR q).1.s (blR q).1.k (blR q).1.s.size,zcf)=.v (.bool true) from congrArg (fun b=>D.v (.bool b)) hP];refine gw ?_;have hks:(blR q).1.k<=(blR q).1.s.size:=by omega
   cases hG:zbp (blR q) () with
   | bad r =>
    rw[hG] at hrun;refine ⟨((blR q,(),.bad r):RX × Unit × OutR),obE (zx (blR q)),eL,⟨hks,hG⟩,?_⟩
    exact zkd (q:=r) rfl (by rw[<- hrun];rfl) (zd rfl rfl) rfl rfl
   | ok d r =>
    have g:=runCl_goes hG;obtain ⟨t,rfl,ht⟩:=runCl_str hG;rw[hG] at hrun;dsimp only[dS] at hrun;refine ⟨((blR q,(),.ok (.v (.string t)) r):RX × Unit × OutR),obE (zx (blR q)),eL,⟨hks,hG⟩,?_⟩
    refine gw ?_;by_cases h0:(prs r.1.db (yt (yt lbS t) rbS)).2.1=0
    ·have hx:zgw r (t,lbS,rbS)=.ok (zR (prs r.1.db (yt (yt lbS t) rbS)).1) r:=if_pos h0;have hl:xpL r t lbS rbS (fun S q=>elF f q (L++[S]))=elF f r (L++[(prs r.1.db (yt (yt lbS t) rbS)).1]):=if_pos h0;rw[hl] at hrun;refine ⟨((r,(t,lbS,rbS),.ok (zR (prs r.1.db (yt (yt lbS t) rbS)).1) r):RX × (ByteArray × ByteArray × ByteArray) × OutR),obE (zx r),eL,⟨⟨(by show t.size<=100000;omega),(by decide:lbS.size<=10),(by decide:rbS.size<=10)⟩,hx⟩,?_⟩
     clear hx hl h0;generalize (prs r.1.db (yt (yt lbS t) rbS)).1=S at hrun ⊢;refine gw ?_;exact ⟨(f,r,L++[S]),ElIn.next hin g (by simp) hrun,(by show f<f+1;omega),zq [0,2] tmS ⟨zak (zx r),zF (x:=S) (fun j hj=>match j,hj with|0,_=>eE),trivial⟩ (by decide) ml3 (by simp)⟩
    ·have hx:zgw r (t,lbS,rbS)=.bad r:=if_neg h0;have hl:xpL r t lbS rbS (fun S q=>elF f q (L++[S]))=.bad r:=if_neg h0;rw[hl] at hrun;refine ⟨((r,(t,lbS,rbS),.bad r):RX × (ByteArray × ByteArray × ByteArray) × OutR),obE (zx r),eL,⟨⟨(by show t.size<=100000;omega),(by decide:lbS.size<=10),(by decide:rbS.size<=10)⟩,hx⟩,?_⟩
     exact zkd (q:=r) rfl (by rw[<- hrun];rfl) (zd rfl rfl) rfl rfl
  ·rw[if_neg (fun h=>hP h.2),if_pos h92] at hrun;rw[show ctHP.out (zN (blR q).1.s (blR q).1.k (blR q).1.s.size,zcf)=.v (.bool false) from congrArg (fun b=>D.v (.bool b)) (Bool.not_eq_true _ ▸ hP)];refine gw ?_;cases hE:vR (blR q) () with
   | bad r =>
    rw[hE] at hrun;refine ⟨((blR q,(),.bad r):RX × Unit × OutR),obE (zx (blR q)),eL,⟨trivial,hE⟩,?_⟩
    exact zkd (q:=r) rfl (by rw[<- hrun];rfl) (zd rfl rfl) rfl rfl
   | ok d r =>
    obtain ⟨g,v,rfl,v0,v1⟩:=zhg hE;rw[hE] at hrun;dsimp only[dI] at hrun;have pv:ctSng.pre v:=trivial;refine ⟨((blR q,(),.ok (.v (.int .i64 v)) r):RX × Unit × OutR),obE (zx (blR q)),eL,⟨trivial,hE⟩,?_⟩
    refine gw ?_;exact ⟨(f,r,L++[canon [(v,v)]]),ElIn.next hin g (by simp) hrun,(by show f<f+1;omega),zq [0,2] tmS ⟨zak (zx r),zF (x:=canon [(v,v)]) (fun j hj=>match j,hj with|0,_=>eE),trivial⟩ (by decide) ml3 (by simp)⟩
 ·rw[if_neg (fun h=>h92 h.1),if_neg h92] at hrun;refine gw ?_;exact retR (q:=blR q) rfl (by show (zat p).p zb6=_;rw[<- hrun];rfl) (EntR.of rfl eE) rfl rfl
end Go.Proofs
namespace Go.Proofs
open Go Go.Sx
variable {mx:Int}{pb:Bool}
attribute [local irreducible] zbs zbi yf xD
def ocPc:Oc:=ocR Unit (fun _=>[]) (fun _ _=>True) (fun p _=>(zfh p).p xE)
def Γy9:Ctx:=fun f=>match f with
 | 66=>some (.obj ocBlR)
 | 67=>some (.obj ocNx)
 | 68=>some (.pure ctLet)
 | 74=>some (.obj ocEs)
 | 44=>some (.obj zay)
 | _=>none
theorem Γy9_ok:CK mx pb Γy9:=by
 intro f h hh;simp only[Γy9] at hh;split at hh<;>simp at hh<;>subst hh
 ·exact yBl_ok
 ·exact yNx_ok
 ·exact yLet_ok
 ·exact yEs_ok
 ·exact vO
structure PcIn (z:RX) (f:Nat) (q:RX) (L:List Rg):Prop where
 s:q.1.s=z.1.s
 fuel:q.1.s.size+1<f+q.1.k
 len:L.length<=q.1.k
 run:pcF f q L=zfh z
theorem PcIn.next {z:RX}{f:Nat}{q r:RX}{L L':List Rg}(h:PcIn z (f+1) q L) (g:GoesR (blR q) r) (hl:L'.length=L.length+1) (hr:pcF f r L'=zfh z):PcIn z f r L':=by
 have h1:=h.s;have h2:=h.fuel;have h3:=h.len;have h4:=g.1;have h5:=g.2;have h6:=blR_k q;have h7:=blR_s q;refine ⟨h4.trans (h7.trans h1),?_,by omega,hr⟩
 rw[h4,h7];omega
def sPc (q:RX) (L:List Rg):St:=⟨[(0,.own 0 0),(3,.row 1)],[.cells 102 (rC q.1),zG 61 2 rgD L],[]⟩
theorem yPc_ok:SQ mx pb 45 ocPc:=by
 refine so (cc:=true) Γy9_ok Tryz.func45 (fun x=>zx x.1) (fun _=>rfl) (fun x=>zx x.2.2.st) ?_;rintro ⟨p,a,o⟩ ⟨_,ho⟩
 replace ho:(zfh p).p xE=o:=ho;subst ho;refine gw ?_;refine ⟨0,Nat × RX × List Rg,fun|(f,q,L)=>sPc q L,fun|(f,q,L)=>PcIn p f q L,fun x=>x.1,fun _=>(by show 1<=2;decide),⟨(p.1.s.size+2,p,[]),⟨rfl,by omega,Nat.zero_le _,rfl⟩,StLe.trans (StLe.nilRow (t:=3) 61 2 (fun _ _=>.junk) rfl) (zq [0,1] tmS ⟨zak (zx p),yg,trivial⟩ (by decide) ml2 (by simp))⟩,?_⟩
 rintro ⟨f,q,L⟩ hin;replace hin:PcIn p f q L:=hin;obtain ⟨hs,hfu,hln,hrun⟩:=id hin;have k2:q.1.s.size<=65536:=q.2.2.2;have k3:q.1.k<=q.1.s.size+1:=q.2.2.1;cases f with
 | zero=>exact absurd hfu (by omega)
 | succ f =>
 dsimp only;unfold sPc;rw[pcF] at hrun;have hb:=nxV_bd (blR q).1;have kb:(blR q).1.k<=(blR q).1.s.size+1:=(blR q).2.2.1;have k5:(blR q).1.s.size<=65536:=(blR q).2.2.2;have pl:ctLet.pre (nxV (blR q).1):=trivial;refine gw ?_;refine ⟨(q:RX),obE (zx q),eL,trivial,?_⟩
 refine gw ?_;refine ⟨(blR q:RX),obE (zx (blR q)),eL,trivial,?_⟩
 by_cases hk:(blR q).1.k<(blR q).1.s.size
 case neg =>
  rw[dif_neg hk] at hrun;have hge:((blR q).1.k:Int)>=(blR q).1.s.size:=by omega
  refine gw ?_;exact retR (q:=blR q) rfl (by rw[<- hrun];rfl) (EntR.of rfl eE) rfl rfl
 rw[dif_pos hk] at hrun;have hge:¬((blR q).1.k:Int)>=(blR q).1.s.size:=by omega
 have hw:IntKind.i64.wrap (nxV (blR q).1)=nxV (blR q).1:=yI ⟨by omega,by omega⟩
 by_cases hL:isL (nxV (blR q).1)
 ·rw[if_pos hL] at hrun;refine gw ?_;exact ⟨(f,yp (blR q) hk,L++[(nxV (blR q).1,0)]),PcIn.next hin ⟨rfl,Nat.lt_succ_self _⟩ (by simp) hrun,(by show f<f+1;omega),zq [0,2] tmS ⟨zak (zx (yp (blR q) hk)),zF (x:=(nxV (blR q).1,0)) (fun j hj=>match j,hj with|0,_=>Ent.of_eq (show D.v (.int .i64 (IntKind.i64.wrap (nxV (blR q).1)))=D.v (.int .i64 (nxV (blR q).1)) by rw[hw])|1,_=>eE),trivial⟩ (by decide) ml3 (by simp)⟩
 rw[if_neg hL] at hrun;by_cases h92:nxV (blR q).1=92
 ·rw[if_pos h92] at hrun;refine gw ?_;cases hE:vR (blR q) () with
  | bad r =>
   rw[hE] at hrun;refine ⟨((blR q,(),.bad r):RX × Unit × OutR),obE (zx (blR q)),eL,⟨trivial,hE⟩,?_⟩
   exact zkd (q:=r) rfl (by rw[<- hrun];rfl) (zd rfl rfl) rfl rfl
  | ok d r =>
   obtain ⟨g,v,rfl,v0,v1⟩:=zhg hE;rw[hE] at hrun;refine ⟨((blR q,(),.ok (.v (.int .i64 v)) r):RX × Unit × OutR),obE (zx (blR q)),eL,⟨trivial,hE⟩,?_⟩
   refine gw ?_;exact ⟨(f,r,L++[(v,0)]),PcIn.next hin g (by simp) hrun,(by show f<f+1;omega),zq [0,2] tmS ⟨zak (zx r),zF (x:=(v,0)) (fun j hj=>match j,hj with|0,_=>eE|1,_=>eE),trivial⟩ (by decide) ml3 (by simp)⟩
 rw[if_neg h92] at hrun;by_cases h36:nxV (blR q).1=36
 ·rw[if_pos h36] at hrun;refine gw ?_;refine ⟨(yp (blR q) hk:RX),obE (zx (yp (blR q) hk)),eL,trivial,?_⟩
  have hb2:=nxV_bd (yp (blR q) hk).1;by_cases hd:49<=nxV (yp (blR q) hk).1/\nxV (yp (blR q) hk).1<=56
  ·rw[dif_pos hd] at hrun;have hk2:(yp (blR q) hk).1.k<(yp (blR q) hk).1.s.size:=(un (p:=(yp (blR q) hk).1) rfl (by omega)).1;have k7:(yp (blR q) hk).1.s.size<=65536:=k5;have hw2:IntKind.i64.wrap (IntKind.u8.wrap (nxV (yp (blR q) hk).1 - 48))=nxV (yp (blR q) hk).1 - 48:=u8w ⟨by omega,by omega⟩
   repeat' first|refine gw ?_|refine bs ?_ ?_<;>intro q_
   all_goals first
    | (exfalso;omega)
    | exact ⟨(f,yp (yp (blR q) hk) hk2,L++[(0,nxV (yp (blR q) hk).1 - 48)]),PcIn.next hin ⟨rfl,(by show (blR q).1.k<(blR q).1.k+1+1;omega)⟩ (by simp) hrun,(by show f<f+1;omega),zq [0,2] tmS ⟨zak (zx (yp (yp (blR q) hk) hk2)),zF (x:=(0,nxV (yp (blR q) hk).1 - 48)) (fun j hj=>match j,hj with|0,_=>eE|1,_=>Ent.of_eq (show D.v (.int .i64 (IntKind.i64.wrap (IntKind.u8.wrap (nxV (yp (blR q) hk).1 - 48))))=D.v (.int .i64 (nxV (yp (blR q) hk).1 - 48)) by rw[hw2])),trivial⟩ (by decide) ml3 (by simp)⟩
  ·rw[dif_neg hd] at hrun
   repeat' first|refine gw ?_|refine bs ?_ ?_<;>intro q_
   all_goals first
    | (exfalso;omega)
    | (refine ⟨(yp (blR q) hk:RX),obE (zx (yp (blR q) hk)),eL,trivial,?_⟩
       exact zkd (q:=yp (blR q) hk) rfl (by rw[<- hrun];rfl) (zd rfl rfl) rfl rfl)
 ·rw[if_neg h36] at hrun;refine gw ?_;refine ⟨(blR q:RX),obE (zx (blR q)),eL,trivial,?_⟩
  exact zkd (q:=blR q) rfl (by rw[<- hrun];rfl) (zd rfl rfl) rfl rfl
end Go.Proofs
