import Derived.Test.YtnimkdbpoeondaaGreatDoorE5
import Derived.Test.YtnimkdbpoeondaaGreatDoorSxS
set_option linter.all false
namespace Go.Sx
open Go Go.RowKit
variable {dst:Option Nat}{Yc:List YC}{tm tm':RTm}{k:RTm->List Own->Prop}{ok:Nat->Bool->Bool}{ow:List Own}{ds:List D}{f:FuncId}{Y:Ys}{N:Nat}{d:D}
section
variable {X:Env}{n m:Nat}
theorem zax {tm:RTm}{x:Operand}:xO X.Gl ok tm [] x=opR X tm x:=by
 cases x<;>rfl
theorem znj {tm:RTm}{x:Operand}:um X.Gl ok tm [] ow x=opRR X tm ow x:=by
 unfold um opRR;rw[zax];cases opR X tm x with
 | none=>rfl
 | some d =>
  cases d<;>rfl
theorem xz {k:RTm->Prop}(h:putR N dst d tm=some tm') (hk:k tm'):zen N dst [] d tm k:=by
 unfold putR at h;unfold zen;cases dst with
 | none=>simp at h;subst h;exact hk
 | some t =>
  simp only at h ⊢;split at h
  ·rename_i hlt;simp at h;subst h;simp[hlt,zg2];exact hk
  ·simp at h
theorem yu {ow':List Own}{r:Option (D × List Own)}(h:xG N dst tm r=some (tm',ow')):∃ d,r=some (d,ow')/\putR N dst d tm=some tm':=by
 unfold xG at h;split at h
 ·rename_i d o;split at h
  ·rename_i t ht;simp at h;obtain ⟨rfl,rfl⟩:=h;exact ⟨d,rfl,ht⟩
  ·simp at h
 ·simp at h
theorem zc4:∀ {vs:List DP},decP vs=true->xB vs
 | [],_=>trivial
 | ⟨p,d⟩::r,h=>by
  simp only[decP] at h;split at h
  ·rename_i hd;exact ⟨@of_decide_eq_true p d hd,zc4 h⟩
  ·simp at h
def preR (X:Env) (n:Nat) (f:FuncId):Ct :=
 ⟨{ p:List D × D // pdL p.1=true },fun p=>p.1.1,fun p=>p.1.2,fun p=>∃ m,m<n/\zj6 X (uT X m) f p.1.1=some p.1.2⟩
def YR (X:Env) (q:Nat) (Y:Ys) (Yc:List YC):Prop :=
 ∀ i j N tm ps as bd Y',lkY Yc i=some (.mk j N tm ps as bd Y')->∃ t,Y.lp i=some t/\∀ m,m<q->∀ ds ow d ow' (k:D->List Own->Prop),roundR (uT X m) N tm ps j as bd Y' ds ow=some (d,ow')->k d ow'->t ds ow k
def trR (X:Env) (n:Nat) (f:FuncId):Tr:=fun Y ds ow k=>∃ m Yc d ow',m<n/\YR X m Y Yc/\zow X (uT X m) f Yc ds ow=some (d,ow')/\k d ow'
def zdn (X:Env) (n:Nat):Ctx:=fun f =>
 if X.quiet f then some .quiet
 else if X.same f then some (.ext (X.ext f))
 else if X.pf f then some (.pure (preR X n f))
 else match X.fn f with
  | some fn=>if fn.body.isSome then some (.gen (trR X n f)) else none
  | none=>none
theorem YR.mono {q q':Nat}(h:YR X q Y Yc) (hq:q'<=q):YR X q' Y Yc:=by
 intro i j N tm ps as bd Y' hl;obtain ⟨t,h1,h2⟩:=h i j N tm ps as bd Y' hl;exact ⟨t,h1,fun m hm=>h2 m (by omega)⟩
theorem YR.nil {q:Nat}:YR X q Y []:=fun i j N tm ps as bd Y' h=>by simp[lkY] at h
theorem YR.wp {q N:Nat}{df:List DE}{k:Exit->St->Prop}(h:YR X q Y Yc):YR X q (Y.wp N df k) Yc:=h
theorem YR.wpD {q N:Nat}{b:Bool}{df:List DE}{k:Exit->St->Prop}(h:YR X q Y Yc):YR X q (Y.wpD b N df k) Yc:=h
theorem zns:xr (zdn X n)=yR X:=by
 funext f;unfold xr yR zdn;cases h0:X.quiet f<;>cases h1:X.same f<;>cases h2:X.pf f<;>simp;split<;>try rfl
 rename_i h;split at h<;>simp at h
theorem zj5 {rc:RC}(h:zj6 X rc f ds=some d):pdL ds=true:=by
 unfold zj6 at h;split at h
 ·split at h
  ·assumption
  ·simp at h
 split at h<;>try (simp at h;done)
 split at h<;>try (simp at h;done)
 split at h
 ·assumption
 ·simp at h
theorem callI_fn {rc:RC}{Y:List YC}{r:D × List Own}(h:zow X rc f Y ds ow=some r):∃ fn,X.fn f=some fn/\fn.body.isSome=true:=by
 unfold zow at h;split at h<;>try (simp at h;done)
 rename_i fn hfn;split at h<;>try (simp at h;done)
 rename_i c hc;exact ⟨fn,hfn,by simp[hc]⟩
theorem zj7 (hm:m<n) (hY:YR X m Y Yc) {ow ow':List Own}
  (h:callR X (uT X m) f Yc ds ow=some (d,ow')) (hp:putR N dst d tm=some tm') (hk:k tm' ow'):zf6 (zdn X n) Y N f dst ds tm [] ow k:=by
 unfold callR at h;unfold zf6 zdn;cases h0:X.quiet f with
 | true=>rw[h0,if_pos rfl] at h;simp at h
 | false =>
 simp only[h0,Bool.false_eq_true,if_false] at h ⊢;cases h1:X.same f with
 | true =>
  simp only[h1,if_true] at h ⊢;split at h
  ·rename_i d0 hd0;simp at h;obtain ⟨rfl,rfl⟩:=h;simp only[hd0];exact xz hp hk
  ·simp at h
 | false =>
  simp only[h1] at h ⊢;cases h2:X.pf f with
  | true =>
   simp only[h2,if_true] at h ⊢;cases hfr:zew ow ds with
   | mk ds' ow2 =>
    rw[hfr] at h;simp at h ⊢;split at h<;>try (simp at h;done)
    rename_i d2 hc;simp at h;obtain ⟨rfl,rfl⟩:=h;exact ⟨⟨(ds',d2),zj5 hc⟩,fun _ _ _ hh=>hh,⟨m,hm,hc⟩,xz hp hk⟩
  | false =>
   simp only[h2] at h ⊢;simp at h ⊢;obtain ⟨fn,hfn,hb⟩:=callI_fn h;simp only[hfn,hb,if_true];exact ⟨m,Yc,d,ow',hm,hY,h,xz hp hk⟩
theorem zim (hm:m<n) (hY:YR X (m+1) Y Yc) {op:Op}{ow ow':List Own}
  (h:runOp X (uT X m) Yc N op dst tm ow=some (tm',ow')) (hk:k tm' ow'):zkf true (zdn X n) Y X.T X.Gl N op dst tm [] ow k:=by
 have hY':=hY.mono (Nat.le_succ m)
 unfold runOp at h;split at h
 case h_1 s a b =>
  simp only[zkf,zax];split at h<;>try (simp at h;done)
  rename_i x hx;split at h<;>try (simp at h;done)
  rename_i d hd;obtain ⟨d',h1,h2⟩:=yu h;simp at h1;obtain ⟨rfl,rfl⟩:=h1;have hx':opR X tm (.tmp s)=some (.v (.bool x)):=hx;rw[hx'];cases x with
  | true=>simp only at hd ⊢;rw[hd];exact ⟨fun _=>xz h2 hk,fun e=>by simp at e⟩
  | false=>simp only at hd ⊢;rw[hd];exact ⟨fun e=>by simp at e,fun _=>xz h2 hk⟩
 case h_2 f args _ =>
  simp only[zkf,zax];split at h<;>try (simp at h;done)
  rename_i ds hds;obtain ⟨d',h1,h2⟩:=yu h;rw[hds];exact zj7 hm hY' h1 h2 hk
 case h_3 y args _ =>
  simp only[zkf,zax];have e1:opR X tm (.tmp y)=lk tm y:=rfl;rw[e1];split at h<;>try (simp at h;done)
  ·rename_i f caps ds hy hds;obtain ⟨d',h1,h2⟩:=yu h;rw[hy,hds];exact zj7 hm hY' h1 h2 hk
  ·rename_i i ds hy hds;split at h<;>try (simp at h;done)
   rename_i j N' tm2 ps as bd Y2 hl;obtain ⟨d',h1,h2⟩:=yu h;obtain ⟨t,ht,hr⟩:=hY _ _ _ _ _ _ _ _ hl;rw[hy,hds];simp only[ht];exact hr m (Nat.lt_succ_self m) _ _ _ _ _ h1 (xz h2 hk)
 case h_4 x name args _ =>
  simp only[zkf,zax];split at h<;>try (simp at h;done)
  rename_i t d ds hx hds;split at h<;>try (simp at h;done)
  rename_i ti hti;split at h<;>try (simp at h;done)
  rename_i f hf;obtain ⟨d',h1,h2⟩:=yu h;rw[hx,hds];simp only[hti,hf];exact zj7 hm hY' h1 h2 hk
 case h_5 s x t t' =>
  simp only[zkf,zax,znj];split at h<;>try (simp at h;done)
  rename_i ds dx hs hx;split at h<;>try (simp at h;done)
  rename_i vs i o hev;split at h<;>try (simp at h;done)
  rename_i hvs;obtain ⟨d',h1,h2⟩:=yu h;simp at h1;obtain ⟨rfl,rfl⟩:=h1;rw[hs,hx];simp only[hev];exact vW.2 ⟨zc4 hvs,xz h2 hk⟩
 case h_6 t x ix ok =>
  simp only[zkf,zax];split at h<;>try (simp at h;done)
  rename_i h1 h2 h3;split at h<;>try (simp at h;done)
  rename_i h4 h5 h6 h7;split at h<;>try (simp at h;done)
  rename_i hc;split at h<;>try (simp at h;done)
  rename_i z hz;simp only[h1,h2,h3,h4,h5,h6,h7,hc,hz];simp only[and_self,if_true];split at h
  ·rename_i d hd;obtain ⟨d',q1,q2⟩:=yu h;simp at q1;obtain ⟨rfl,rfl⟩:=q1;refine ⟨fun d2 hd2=>?_,fun e=>by rw[hd] at e;simp at e⟩
   rw[hd] at hd2;simp at hd2;subst hd2;exact xz q2 hk
  ·rename_i hd;obtain ⟨d',q1,q2⟩:=yu h;simp at q1;obtain ⟨rfl,rfl⟩:=q1;refine ⟨fun d2 hd2=>by rw[hd] at hd2;simp at hd2,fun _=>xz q2 hk⟩
 case h_7 op n1 n2 n3 n4 n5 n6 =>
  have e1:(fun x=>um X.Gl (fun _ _=>false) tm [] ow x)=opRR X tm ow:=by funext x;exact znj
  unfold zkf;split
  ·exact absurd rfl (n1 _ _ _)
  ·exact absurd rfl (n2 _ _ _)
  ·exact absurd rfl (n3 _ _ _)
  ·exact absurd rfl (n4 _ _ _ _)
  ·exact absurd rfl (n5 _ _ _ _)
  ·exact absurd rfl (n6 _ _ _ _)
  ·simp[zY,evNew,ur,zl5,zho] at h
  ·rw[e1];split at h
   ·rename_i vs d hev;split at h<;>try (simp at h;done)
    rename_i hvs;obtain ⟨d',q1,q2⟩:=yu h;simp at q1;obtain ⟨rfl,rfl⟩:=q1;simp only[hev];exact vW.2 ⟨zc4 hvs,xz q2 hk⟩
   ·rename_i hev;simp only[hev];split at h
    ·rename_i d ow2 hen;obtain ⟨d',q1,q2⟩:=yu h;simp at q1;obtain ⟨rfl,rfl⟩:=q1;simp only[hen];exact xz q2 hk
    ·rename_i hen;simp only[hen];split at h
     ·rename_i vs d ow2 heo;split at h<;>try (simp at h;done)
      rename_i hvs;obtain ⟨d',q1,q2⟩:=yu h;simp at q1;obtain ⟨rfl,rfl⟩:=q1;simp only[heo];exact vW.2 ⟨zc4 hvs,xz q2 hk⟩
     ·rename_i heo;simp only[heo];split at h<;>try (simp at h;done)
      rename_i n neg hnc;obtain ⟨d',q1,q2⟩:=yu h;simp only[Option.some.injEq,Prod.mk.injEq] at q1;obtain ⟨rfl,rfl⟩:=q1;simp only[hnc];intro q hq;cases q with
      | true=>exact absurd (hq rfl) (by omega)
      | false=>exact xz q2 hk
theorem ul (hm:m<n) {Y:Ys}{Yc:List YC}(hY:YR X (m+1) Y Yc) {N:Nat}{all:List Oper}:∀ (l:List Oper) {tm tm':RTm}{ow ow':List Own}{k:RTm->List Own->Prop},
  zah X (uT X m) Yc N all l tm ow=some (tm',ow')->k tm' ow'->yV true (zdn X n) Y X.T X.Gl N all l tm [] ow k
 | [],tm,tm',ow,ow',k,h,hk=>by
  simp[zah] at h;obtain ⟨rfl,rfl⟩:=h;exact hk
 | ⟨dst,op,_,_,_,none⟩::r,tm,tm',ow,ow',k,h,hk=>by
  simp only[zah] at h;split at h<;>try (simp at h;done)
  rename_i tm1 ow1 h1;simp only[yV];exact zim hm hY h1 (ul hm hY r h hk)
 | ⟨dst,op,_,_,_,some (j,b)⟩::r,tm,tm',ow,ow',k,h,hk=>by
  simp only[zah] at h;simp only[yV];split at h<;>try (simp at h;done)
  rename_i s _ _ _ _ _ hj;simp only[hj];split at h<;>try (simp at h;done)
  ·rename_i x hx;simp only[lkG,hx];split at h
   ·rename_i hxb;split at h<;>try (simp at h;done)
    rename_i tm1 ow1 h1;exact ⟨fun _=>zim hm hY h1 (ul hm hY r h hk),fun e=>by rw[hxb] at e;cases b<;>simp at e⟩
   ·rename_i hxb;split at h<;>try (simp at h;done)
    rename_i tm1 h1;exact ⟨fun e=>absurd e hxb,fun _=>xz h1 (ul hm hY r h hk)⟩
  ·rename_i x hx;simp only[lkG,hx];split at h<;>try (simp at h;done)
   rename_i tm1 h1;exact xz h1 (ul hm hY r h hk)
theorem runQ_ex (hm:m<n) {op:Op}{tm:RTm}{k:D->Prop}(h:runQ X (uT X m) op tm ow=some d) (hk:k d):exQ true (zdn X n) X.T X.Gl op (fun _ _=>false) True tm [] ow k:=by
 unfold runQ at h;split at h
 case h_1 s a b =>
  simp only[exQ,zax];split at h<;>try (simp at h;done)
  rename_i x hx;have hx':opR X tm (.tmp s)=some (.v (.bool x)):=hx;rw[hx'];cases x with
  | true=>simp only at h ⊢;rw[h];exact ⟨fun _=>hk,fun e=>by simp at e⟩
  | false=>simp only at h ⊢;rw[h];exact ⟨fun e=>by simp at e,fun _=>hk⟩
 case h_2 f args _ =>
  simp only[exQ,zax];unfold zdn;split at h<;>try (simp at h;done)
  rename_i h0;split at h<;>try (simp at h;done)
  rename_i h1;split at h<;>try (simp at h;done)
  rename_i h2;split at h<;>try (simp at h;done)
  rename_i ds hds;simp only[h0,h1,h2,if_true,if_false,Bool.false_eq_true,hds];exact ⟨⟨(zgs ow ds,d),zj5 h⟩,fun _ _ _ hh=>hh,fun _=>⟨m,hm,h⟩,hk⟩
 case h_3 op n1 n2 =>
  have e1:(fun x=>um X.Gl (fun _ _=>false) tm [] ow x)=opRR X tm ow:=by funext x;exact znj
  unfold exQ;split
  ·exact absurd rfl (n1 _ _ _)
  ·exact absurd rfl (n2 _ _ _)
  ·rw[e1];split at h
   ·rename_i vs d' hev;split at h<;>try (simp at h;done)
    rename_i hvs;simp at h;subst h;simp only[hev];exact yZ.2 ⟨fun _=>zc4 hvs,hk⟩
   ·rename_i hev;simp only[hev,h];exact hk
theorem uk (hm:m<n) {N:Nat}{all:List Oper}:∀ (l:List Oper) (p:Nat) {tm tm':RTm}{ow:List Own}{k:RTm->Gs->Prop},
  vk X (uT X m) N all l p tm ow=some tm'->k tm' []->xu true (zdn X n) X.T X.Gl N all l p tm [] ow k
 | _,0,tm,tm',ow,k,h,hk=>by
  simp[vk] at h;subst h;simp only[xu];exact hk
 | [],p+1,tm,tm',ow,k,h,hk=>by
  simp[vk] at h;subst h;simp only[xu];exact hk
 | ⟨some t,op,_,_,_,none⟩::r,p+1,tm,tm',ow,k,h,hk=>by
  simp only[vk] at h;simp only[xu];split at h<;>try (simp at h;done)
  rename_i ht;split at h<;>try (simp at h;done)
  rename_i d hd;rw[if_pos ht];exact runQ_ex hm hd (uk hm r p h hk)
 | ⟨some t,op,_,_,_,some (j,b)⟩::r,p+1,tm,tm',ow,k,h,hk=>by
  simp only[vk] at h;simp only[xu];split at h<;>try (simp at h;done)
  rename_i s _ _ _ _ _ hj;simp only[hj];split at h<;>try (simp at h;done)
  ·rename_i x hx;simp only[lkG,hx];split at h<;>try (simp at h;done)
   rename_i ht;split at h<;>try (simp at h;done)
   rename_i hts;rw[if_pos ht,if_neg hts];split at h
   ·rename_i hxb;split at h<;>try (simp at h;done)
    rename_i d hd;exact ⟨fun _=>runQ_ex hm hd (uk hm r p h hk),fun e=>by rw[hxb] at e;cases b<;>simp at e⟩
   ·rename_i hxb;exact ⟨fun e=>absurd e hxb,fun _=>uk hm r p h hk⟩
  ·rename_i x hx;simp only[lkG,hx];split at h<;>try (simp at h;done)
   rename_i ht;split at h<;>try (simp at h;done)
   rename_i hts;rw[if_pos ht,if_neg hts];exact uk hm r p h hk
 | ⟨none,_,_,_,_,_⟩::r,p+1,tm,tm',ow,k,h,hk=>by simp[vk] at h
theorem eqDV_eq:∀ {a b:Value},eqDV a b=true->a=b:=by
 intro a b h;unfold eqDV at h;split at h
 ·split at h
  ·rename_i hk;subst hk;have:=of_decide_eq_true h;rw[this]
  ·simp at h
 ·have := @of_decide_eq_true _ (zed _ _) h;rw[this]
 ·have:=eq_of_beq h;rw[this]
 ·rfl
 ·rfl
 ·rfl
 ·rfl
 ·simp at h
mutual
theorem eqD_eq:∀ (a b:D),eqD a b=true->a=b:=by
 intro a b h
 match a,b with
 | .v a,.v b =>
  simp only[eqD] at h;rw[eqDV_eq h]
 | .own i o,.own j q =>
  simp only[eqD,Bool.and_eq_true,decide_eq_true_eq] at h;rw[h.1,h.2]
 | .row i,.row j =>
  simp only[eqD,decide_eq_true_eq] at h;rw[h]
 | .mp i,.mp j =>
  simp only[eqD,decide_eq_true_eq] at h;rw[h]
 | .ag l,.ag r =>
  simp only[eqD] at h;rw[zju l r h]
 | .tu l,.tu r =>
  simp only[eqD] at h;rw[zju l r h]
 | .fn f l,.fn g r =>
  simp only[eqD,Bool.and_eq_true,decide_eq_true_eq] at h;rw[h.1,zju l r h.2]
 | .ifc t d,.ifc t' d' =>
  simp only[eqD,Bool.and_eq_true,decide_eq_true_eq] at h;rw[h.1,eqD_eq d d' h.2]
theorem zju:∀ (a b:List D),eqDL a b=true->a=b:=by
 intro a b h
 match a,b with
 | [],[]=>rfl
 | a::l,b::r =>
  simp only[eqDL,Bool.and_eq_true] at h;rw[eqD_eq a b h.1,zju l r h.2]
end
theorem zil (hm:m<n) {N:Nat}{all:List Oper}:∀ (is:List Nat) {tm tm':RTm}{ow:List Own}{k:RTm->Prop},
  runPs X (uT X m) N all is tm ow=some tm'->k tm'->zbs (zdn X n) X.T X.Gl N all is tm ow k
 | [],tm,tm',ow,k,h,hk=>by
  simp[runPs] at h;subst h;exact hk
 | i::is,tm,tm',ow,k,h,hk=>by
  simp only[runPs] at h;split at h<;>try (simp at h;done)
  rename_i tm1 h1;simp only[zbs];exact uk hm _ _ h1 (zil hm is h hk)
theorem ziq (hm:m<n) {N:Nat}{all:List Oper}:∀ (is:List Nat) {tm:RTm}{ow:List Own}{k:Prop},
  runCk X (uT X m) N all is tm ow=true->k->zbi (zdn X n) X.T X.Gl N all is tm ow k
 | [],tm,ow,k,h,hk=>hk
 | i::is,tm,ow,k,h,hk=>by
  simp only[runCk,Bool.and_eq_true] at h;obtain ⟨h,h2⟩:=h;simp only[zbi];refine ⟨?_,ziq hm is h2 hk⟩
  split at h<;>try (simp at h;done)
  rename_i tm1 h1;refine uk hm _ _ h1 ?_;split at h<;>try (simp at h;done)
  rename_i t ht;simp only[ht];split at h<;>try (simp at h;done)
  ·rename_i ha hb;rw[ha,hb,eqD_eq _ _ h]
  ·rename_i ha hb;rw[ha,hb]
theorem zfg (hm:m<n) {Y:Ys}{Yc:List YC}(hY:YR X (m+1) Y Yc) {N:Nat}{all:List Oper}:∀ (sch:Sch) (pend:List Nat) {tm tm':RTm}{ow ow':List Own}{k:RTm->List Own->Prop},
  zas X (uT X m) Yc N all sch pend tm ow=some (tm',ow')->k tm' ow'->yf (zdn X n) Y X.T X.Gl N all sch pend tm ow k
 | .done last,pend,tm,tm',ow,ow',k,h,hk=>by
  simp only[zas] at h;split at h<;>try (simp at h;done)
  rename_i tm1 h1;split at h<;>try (simp at h;done)
  rename_i h2;simp at h;obtain ⟨rfl,rfl⟩:=h;simp only[yf];exact zil hm last h1 (ziq hm _ h2 hk)
 | .stage new alts,pend,tm,tm',ow,ow',k,h,hk=>by
  simp only[zas] at h;split at h<;>try (simp at h;done)
  rename_i tm1 h1;split at h<;>try (simp at h;done)
  rename_i h2;simp only[yf];exact zil hm new h1 (ziq hm _ h2 (zfg hm hY alts [] h hk))
 | .nil,pend,tm,tm',ow,ow',k,h,hk=>by simp[zas] at h
 | .alt c late sub .nil,pend,tm,tm',ow,ow',k,h,hk=>by
  simp only[zas] at h;split at h<;>try (simp at h;done)
  rename_i tm1 ow1 h1;simp only[yf];unfold runAlt at h1;unfold xD;split at h1<;>try (simp at h1;done)
  rename_i ho;split at h1<;>try (simp at h1;done)
  rename_i tm2 ow2 h2;simp at h1;obtain ⟨rfl,rfl⟩:=h1;simp only[ho];exact zim hm hY h2 (zfg hm hY sub late h hk)
 | .alt c late sub (.done _),pend,tm,tm',ow,ow',k,h,hk=>by simp[zas] at h
 | .alt c late sub (.stage _ _),pend,tm,tm',ow,ow',k,h,hk=>by simp[zas] at h
 | .alt c late sub (.alt _ _ _ _),pend,tm,tm',ow,ow',k,h,hk=>by simp[zas] at h
end
end Go.Sx
namespace Go.Sx
open Go Go.RowKit
variable {Yc:List YC}{k:Exit->St->Prop}{ops:List Oper}{ds:List D}{f:FuncId}
section
variable {X:Env}{n m:Nat}
def RunsEx (X:Env) (n m:Nat):Prop:=∀ (c:Code) (N:Nat) (Y:Ys) (Yc:List YC) (mm:Nat) (R:Bool) (s s':St) (e:Exit) (k:Exit->St->Prop),
 YR X m Y Yc->uT X m c N Yc R s=some (e,s')->k e s'->ex true (zdn X n) X.T X.Gl N c Y mm R s k
theorem loop_ex (hIH:∀ m',m'<m->RunsEx X n m') {a:Code}{N:Nat}{Y:Ys}{Yc:List YC}{mm:Nat}{R:Bool}(hY:YR X m Y Yc):∀ (j:Nat),j<=m->∀ (s s':St) (e:Exit) (k:Exit->St->Prop),
  uT X j (.loop a) N Yc R s=some (e,s')->k e s'->∃ q,uH (fun s k=>ex true (zdn X n) X.T X.Gl N a Y mm R s k) k q s
 | 0,_,s,s',e,k,h,_=>by simp[uT] at h
 | j+1,hj,s,s',e,k,h,hk=>by
  simp only[uT] at h;have hIHj:=hIH j (by omega)
  split at h
  ·rename_i s1 h1;obtain ⟨q,hq⟩:=loop_ex hIH hY j (by omega) s1 s' e k h hk;refine ⟨q+1,?_⟩
   simp only[uH];exact hIHj a N Y Yc mm R s s1 .normal _ (hY.mono (by omega)) h1 hq
  ·rename_i hne;refine ⟨1,?_⟩
   simp only[uH];refine hIHj a N Y Yc mm R s s' e _ (hY.mono (by omega)) h ?_;cases e with
   | normal=>exact absurd h (hne s')
   | _=>exact hk
theorem runOld_ex (hmn:m<n) {Y:Ys}(hY:YR X (m+1) Y Yc) {N:Nat}{R:Bool}{tm:RTm}{ow:List Own}{df:List DE}{e:Exit}{s':St}
  (h:runOld X (uT X m) Yc N R ops ⟨tm,ow,df⟩=some (e,s')) (hk:k e s'):
  (match zch ops (zao (yR X) ops) with
  | none=>zfp R ops (zao (yR X) ops)=true/\xu true (zdn X n) X.T X.Gl N ops ops (zao (yR X) ops) tm [] ow fun tm' gs'=>yV true (zdn X n) (Y.wpD (vD ops (zao (yR X) ops)) N df k) X.T X.Gl N ops (ops.drop (zao (yR X) ops)) tm' gs' ow fun tm ow=>k .normal ⟨tm,ow,df⟩
  | some (t,e)=>vD ops (zao (yR X) ops+1)=true/\xu true (zdn X n) X.T X.Gl N ops ops (zao (yR X) ops) tm [] ow fun tm' gs'=>exAl X.T N e t tm' gs' ow fun tm2 ow2=>yV true (zdn X n) (Y.wp N df k) X.T X.Gl N ops (ops.drop (zao (yR X) ops+1)) tm2 gs' ow2 fun tm ow=>k .normal ⟨tm,ow,df⟩):=by
 unfold runOld at h;split at h
 ·rename_i hal;simp only[hal];split at h<;>try (simp at h;done)
  rename_i hok;split at h<;>try (simp at h;done)
  rename_i tm0 h0;split at h<;>try (simp at h;done)
  rename_i tm1 ow1 h1;simp at h;obtain ⟨rfl,rfl⟩:=h;exact ⟨hok,uk hmn _ _ h0 (ul hmn hY.wpD _ h1 hk)⟩
 ·rename_i t e hal;simp only[hal];split at h<;>try (simp at h;done)
  rename_i hok;split at h<;>try (simp at h;done)
  rename_i tm0 sz ag z kd mo h0 hTe;split at h<;>try (simp at h;done)
  rename_i htN;split at h<;>try (simp at h;done)
  rename_i tm1 ow1 h1;simp at h;obtain ⟨rfl,rfl⟩:=h;refine ⟨hok,uk hmn _ _ h0 ?_⟩
  simp only[exAl,hTe,htN,if_true,zg2];exact ul hmn hY.wp _ h1 hk
theorem zk1 (hmn:m<n) {Y:Ys}(hY:YR X (m+1) Y Yc) {N:Nat}{pf:FuncId->Bool}{tm:RTm}{ow:List Own}{df:List DE}{e:Exit}{s':St}
  (h:runTry X (uT X m) Yc N pf ops ⟨tm,ow,df⟩=some (e,s')) (hk:k e s'):
  ∃ sch:Sch,okSch ops sch=true/\yf (zdn X n) (Y.wp N df k) X.T X.Gl N ops sch [] tm ow fun tm ow=>k .normal ⟨tm,ow,df⟩:=by
 unfold runTry at h;split at h<;>try (simp at h;done)
 rename_i sch _;split at h<;>try (simp at h;done)
 rename_i hos;split at h<;>try (simp at h;done)
 rename_i tm1 ow1 h1;simp at h;obtain ⟨rfl,rfl⟩:=h;exact ⟨sch,hos,zfg hmn hY.wp sch [] h1 hk⟩
theorem runsEx (hn:∀ m',m'<m->RunsEx X n m') (hm:m<=n):RunsEx X n m:=by
 intro c N Y Yc mm R s s' e k hY h hk;cases m with
 | zero=>simp[uT] at h
 | succ m =>
  have hI:=hn m (Nat.lt_succ_self m)
  have hYm:=hY.mono (Nat.le_succ m)
  have hmn:m<n:=hm;obtain ⟨tm,ow,df⟩:=s;cases c with
  | skip=>simp[uT] at h;obtain ⟨rfl,rfl⟩:=h;simp only[ex];exact hk
  | label _=>simp[uT] at h;obtain ⟨rfl,rfl⟩:=h;simp only[ex];exact hk
  | region id ops draw =>
   simp only[uT] at h;cases draw with
   | false =>
    simp only[ex];simp only at h;split at h
    ·rename_i hsp;simp only[hsp];split at h<;>try (simp at h;done)
     rename_i tm1 ow1 h1;simp at h;obtain ⟨rfl,rfl⟩:=h;exact ul hmn hY.wp _ h1 hk
    ·rename_i l y hsp;simp only[hsp];split at h<;>try (simp at h;done)
     rename_i tm1 ow1 h1;split at h<;>try (simp at h;done)
     rename_i f x1 x2 hlk;split at h<;>try (simp at h;done)
     rename_i hq;simp at h;obtain ⟨rfl,rfl⟩:=h;refine ul hmn hY.wp _ h1 ?_;simp only[exDf,hlk];have hqc:zdn X n f=some .quiet:=by unfold zdn;rw[if_pos hq]
     simp only[hqc];exact hk
   | true =>
    simp only at h;split at h
    ·rename_i r h1;simp at h;subst h;simp only[ex,zns];exact .inl (runOld_ex hmn hY h1 hk)
    ·split at h
     ·rename_i r h1;simp at h;subst h;simp only[ex];exact .inr (zk1 hmn hY h1 hk)
     ·simp only[ex];exact .inr (zk1 hmn hY h hk)
  | seq a b =>
   simp only[uT] at h;simp only[ex];split at h
   ·rename_i s1 h1;exact hI a N Y Yc mm R _ s1 .normal _ hYm h1 (hI b N Y Yc mm R _ s' e _ hYm h hk)
   ·rename_i hne;refine hI a N Y Yc mm R _ s' e _ hYm h ?_;cases e with
    | normal=>exact absurd h (hne s')
    | _=>exact hk
  | cond x a b =>
   simp only[uT] at h;simp only[ex,zax];split at h<;>try (simp at h;done)
   ·rename_i hx;simp only[hx];exact ⟨fun _=>hI a N Y Yc mm R _ s' e _ hYm h hk,fun e=>by simp at e⟩
   ·rename_i hx;simp only[hx];exact ⟨fun e=>by simp at e,fun _=>hI b N Y Yc mm R _ s' e _ hYm h hk⟩
  | block id a =>
   simp only[uT] at h;simp only[ex];split at h
   ·rename_i i s1 h1;split at h
    ·rename_i hi;simp at h;obtain ⟨rfl,rfl⟩:=h;refine hI a N Y Yc mm R _ s1 (.exit i) _ hYm h1 ?_;simp only[hi,if_true];exact hk
    ·rename_i hi;simp at h;obtain ⟨rfl,rfl⟩:=h;refine hI a N Y Yc mm R _ s1 (.exit i) _ hYm h1 ?_;simp only[hi,if_false];exact hk
   ·rename_i hne;refine hI a N Y Yc mm R _ s' e _ hYm h ?_;cases e with
    | exit i=>exact absurd h (hne i s')
    | _=>exact hk
  | scope a =>
   simp only[uT] at h;simp only[ex];split at h
   ·simp at h
   ·rename_i hne;refine hI a N Y Yc mm R _ s' e _ hYm h ?_;cases e with
    | goto i=>exact absurd h (hne i s')
    | _=>exact hk
  | exit id=>simp[uT] at h;obtain ⟨rfl,rfl⟩:=h;simp only[ex];exact hk
  | ret=>simp[uT] at h;obtain ⟨rfl,rfl⟩:=h;simp only[ex];exact hk
  | loop a =>
   obtain ⟨q,hq⟩:=loop_ex (mm:=mm) hn hY (m+1) (Nat.le_refl _) _ _ _ _ h hk;simp only[ex];exact ⟨q+1,hq⟩
  | rangeFunc f ps as bd =>
   simp only[uT] at h;split at h<;>try (simp at h;done)
   rename_i g caps hf;simp only[ex,zax,hf];split at h<;>try (simp at h;done)
   rename_i hpf;simp at hpf;split at h<;>try (simp at h;done)
   rename_i d ow1 hc;obtain ⟨fn,hfn,hb⟩:=callI_fn hc;have hg:zdn X n g=some (.gen (trR X n g)):=by
    unfold zdn;simp[hpf.1,hpf.2,hfn,hb]
   simp only[hg];refine ⟨m,_,d,ow1,hmn,?_,hc,?_⟩
   ·intro i j N' tm' ps' as' bd' Y' hl;simp only[lkY] at hl;split at hl
    ·rename_i hi;simp at hl;obtain ⟨rfl,rfl,rfl,rfl,rfl,rfl,rfl⟩:=hl;subst hi;refine ⟨_,if_pos rfl,fun m' hm' ds ow2 d2 ow3 k2 hr hk2=>?_⟩
     have hA:=hn m' (by omega)
     have hYr:=hY.mono (show m'<=m+1 by omega)
     unfold roundR at hr;unfold zk4;split at hr<;>try (simp at hr;done)
     rename_i tm2 hps;simp only[hps];split at hr<;>try (simp at hr;done)
     rename_i s2 h2;refine hA as N Y Yc _ true _ s2 .normal _ hYr h2 ?_;simp only;split at hr<;>try (simp at hr;done)
     rename_i p hlp hdf;simp only[hlp,hdf];split at hr<;>try (simp at hr;done)
     rename_i e3 s3 h3;refine hA bd N Y Yc _ true _ s3 e3 _ hYr h3 ?_;split at hr<;>try (simp at hr;done)
     rename_i st pe hlp3 hdf3;simp only[hlp3,hdf3];cases e3<;>simp at hr<;>(obtain ⟨rfl,rfl⟩:=hr;exact hk2)
    ·rename_i hi;obtain ⟨t,h1,h2⟩:=hY _ _ _ _ _ _ _ _ hl;refine ⟨t,?_,fun m' hm'=>h2 m' (by omega)⟩
     exact (if_neg (fun e=>hi e.symm)).trans h1
   ·split at h<;>(try (simp at h;done))<;>(rename_i hl;simp at h;obtain ⟨rfl,rfl⟩:=h;simp only[hl];exact hk)
  | _=>simp[uT] at h
theorem zhe (n:Nat):∀ m,m<=n->RunsEx X n m:=by
 intro m
 induction m using Nat.strongRecOn with
 | _ m ih=>exact fun hm=>runsEx (fun m' h'=>ih m' h' (by omega)) hm
variable {P:Program}
structure EnvOk (P:Program) (X:Env):Prop where
 types:TOk P X.T
 mixed:P.follows .mixedOrders=true
 funcs:∀ f fn,X.fn f=some fn->P.funcs[f]?=some fn
 names:∀ f fn,X.fn f=some fn->(fn.name == "runtime.NumGoroutine")=false
 pures:∀ f,X.pf f=true->X.same f=false->∃ fn,X.fn f=some fn/\fn.body.isSome=true
 sames:∀ f,X.same f=true->zh9 P X.Gl f (X.ext f)
 sums:∀ f ds d,X.sum f ds=some d->Sound P X.Gl f ⟨Unit,fun _=>ds,fun _=>d,fun _=>True⟩
 quiets:∀ f,X.quiet f=true->zb5 P f
theorem zgk (hX:EnvOk P X) (hΓ:CtxOk P X.Gl (zdn X m)) {d:D}(h:zj6 X (uT X m) f ds=some d):Sound P X.Gl f ⟨Unit,fun _=>ds,fun _=>d,fun _=>True⟩:=by
 have hpd:=zj5 h;unfold zj6 at h;split at h
 ·rename_i d0 hs;rw[if_pos hpd] at h;simp at h;subst h;exact hX.sums _ _ _ hs
 split at h<;>try (simp at h;done)
 rename_i fn hfn;split at h<;>try (simp at h;done)
 rename_i c hc;rw[if_pos hpd] at h;split at h<;>try (simp at h;done)
 rename_i hlen;split at h<;>try (simp at h;done)
 rename_i e s hr;refine sound_of (cc:=true) hΓ hX.types hX.mixed (hX.funcs _ _ hfn) hc (hX.names _ _ hfn) (fun _=>hpd) (fun _ _=>hlen) fun _ _=>?_;refine zhe m m (Nat.le_refl _) c fn.ntmps _ [] 0 false _ s e _ YR.nil hr ?_;have key:(match zcl s.ow s.df with
   | some ow' =>
    (match zfj X.T s.tm ow' fn.results.toList with
    | some rs=>(match zew ow' rs with|(rs',_)=>if pd (zW rs') then some (zW rs') else none)
    | none=>none)
   | none=>none)=some d->fin X.T fn.results.toList s fun d' _=>EntR d' d:=by
  intro h;split at h<;>try (simp at h;done)
  rename_i ow1 hsh;split at h<;>try (simp at h;done)
  rename_i rs hrs;cases hfr:zew ow1 rs with
  | mk rs' ow2 =>
   rw[hfr] at h;simp only at h;split at h<;>try (simp at h;done)
   rename_i hp;simp at h;subst h;obtain ⟨tm,ow,df⟩:=s;simp only[fin];simp only at hsh hrs;simp only[hsh,hrs,hfr];intro M E u hu;exact Rep.pd _ _ hp hu
 cases e<;>first|exact key h|simp at h
theorem zov (hX:EnvOk P X) {Y:Ys}{ow ow':List Own}{d:D}(hY:YR X m Y Yc) (h:zow X (uT X m) f Yc ds ow=some (d,ow')):
  ∃ fn c,P.funcs[f]?=some fn/\fn.body=some c/\(fn.name == "runtime.NumGoroutine")=false/\∀ (k:D->List Own->Prop),k d ow'->inlT true (zdn X m) X.T X.Gl fn c Y ds ow k:=by
 unfold zow at h;split at h<;>try (simp at h;done)
 rename_i fn hfn;split at h<;>try (simp at h;done)
 rename_i c hc;split at h<;>try (simp at h;done)
 rename_i hlen;split at h<;>try (simp at h;done)
 rename_i e s hr;refine ⟨fn,c,hX.funcs _ _ hfn,hc,hX.names _ _ hfn,fun k hk=>⟨hlen,?_⟩⟩
 refine zhe m m (Nat.le_refl _) c fn.ntmps _ Yc _ false _ s e _ hY hr ?_;have key:(match zcl s.ow s.df with
   | some ow' =>
    (match zfj X.T s.tm ow' fn.results.toList with
    | some rs=>some (zW rs,ow')
    | none=>none)
   | none=>none)=some (d,ow')->fin0 X.T fn.results.toList s k:=by
  intro h;split at h<;>try (simp at h;done)
  rename_i ow1 hsh;split at h<;>try (simp at h;done)
  rename_i rs hrs;simp at h;obtain ⟨rfl,rfl⟩:=h;obtain ⟨tm,ow,df⟩:=s;simp only[fin0];simp only at hsh hrs;simp only[hsh,hrs];exact hk
 cases e<;>first|exact key h|simp at h
theorem ctxR_ok (hX:EnvOk P X) (n:Nat):CtxOk P X.Gl (zdn X n):=by
 induction n using Nat.strongRecOn with
 | _ n ih =>
  intro f hd hf;unfold zdn at hf;split at hf
  ·rename_i hs;simp at hf;subst hf;exact hX.quiets f hs
  split at hf
  ·rename_i hs;simp at hf;subst hf;exact hX.sames f hs
  ·rename_i hs;split at hf
   ·rename_i hp;simp at hf;subst hf;obtain ⟨fn,h1,h2⟩:=hX.pures f hp (by simpa using hs)
    refine ⟨⟨fn,hX.funcs _ _ h1,hX.names _ _ h1,by cases hb:fn.body<;>simp_all⟩,fun x=>x.2,fun x hx=>?_⟩
    obtain ⟨m,hm,hc⟩:=hx;have:=zgk hX (ih m hm) hc;exact this.2.2 () trivial
   ·split at hf<;>try (simp at hf;done)
    rename_i fn hfn;split at hf<;>try (simp at hf;done)
    rename_i hb;simp at hf;subst hf;refine ⟨⟨fn,hX.funcs _ _ hfn,hX.names _ _ hfn,by cases hb':fn.body<;>simp_all⟩,fun Y ds ow k hk B w0 M0 M E w us hW hG hYo hrep q=>?_⟩
    obtain ⟨m,Yc,d,ow',hm,hY,hc,hkd⟩:=hk;obtain ⟨fn,c,q1,q2,q3,q4⟩:=zov hX hY hc;exact (zhd (cc:=true) (ih m hm) hX.types hX.mixed q1 q2 q3).2 Y ds ow k (q4 k hkd) B w0 M0 M E w us hW hG hYo hrep q
theorem run_sound (hX:EnvOk P X) {d:D}(h:zj6 X (uT X m) f ds=some d):Sound P X.Gl f ⟨Unit,fun _=>ds,fun _=>d,fun _=>True⟩ :=
 zgk hX (ctxR_ok hX m) h
end
end Go.Sx
