import Derived.Test.YtnimkdbpoeondaaGreatDoorZhz
import Derived.Test.YtnimkdbpoeondaaGreatDoorY7z
set_option linter.all false
namespace Go.Proofs
open Go Go.Sx
variable {p:FSt}{g:Gz->List Rg × Gz}{L:List Rg}{b:UInt8}{z:Nat × Nat × Int}{db:Db}{P:RX}{q:PX}{S:List Rg}{i:Nat}{c:Int}{f:Nat}{nx:Bool}{n:Nat}{d:Db}{k:Nat}
variable {mx:Int}{pb:Bool}
def z0 (P:PX):Gz:=⟨P.1.k,0,0⟩
def AgU (o:OutP) (r:Gz):Prop:=match o with | .ok _ q=>r=z0 q | .bad e _ _=>¬e=0/\¬r.e=0
def AgI (o:OutP) (r:Int × Gz):Prop:=match o with | .ok d q=>r=(dI d,z0 q) | .bad e _ _=>¬e=0/\¬r.2.e=0
def AgL (o:OutL) (r:List Rg × Gz):Prop:=match o with | .ok L q=>r=(L,z0 q) | .bad e _ _=>¬e=0/\¬r.2.e=0
theorem vd (P:PX) {b:Int}(hb:0<b):gNx P.1.s (z0 P)=b↔pkV P.1=b:=by
 unfold gNx pkV;by_cases h:P.1.k<P.1.s.size
 ·rw[if_pos (show (z0 P).e=0/\(z0 P).k<P.1.s.size from ⟨rfl,h⟩),if_pos h];exact Iff.rfl
 ·rw[if_neg (fun hh=>h hh.2),if_neg h];constructor<;>intro<;>omega
theorem nx_at (P:PX) (h:P.1.k<P.1.s.size):gNx P.1.s (z0 P)=pkV P.1:=by
 rw[yE h];exact if_pos ⟨rfl,h⟩
theorem nx_out (P:PX) (h:¬P.1.k<P.1.s.size):gNx P.1.s (z0 P)=0:=if_neg fun hh=>h hh.2
theorem zmw (P:PX) {b:Int}(hb:0<b):AgU (yc P b) (gWt P.1.s (z0 P) b):=by
 unfold yc gWt;by_cases h:pkV P.1=b
 ·have hk:=(zI h (by omega)).1;rw[dif_pos ⟨hk,h⟩,if_pos ((vd P hb).2 h)];rfl
 ·rw[dif_neg fun hh=>h hh.2,if_neg fun hh=>h ((vd P hb).1 hh)];exact ⟨by decide,yq (by decide)⟩
theorem zkc (P:PX):gBl P.1.s (z0 P)=z0 (blP P):=if_pos rfl
theorem nx_dg (P:PX) (h:zap (pkV P.1)):xR (gNx P.1.s (z0 P))=dgI (pkV P.1)/\0<=dgI (pkV P.1):=by
 rw[nx_at P (zgy h)];unfold zap at h;unfold xR dgI;by_cases h1:48<=pkV P.1/\pkV P.1<=57
 ·rw[if_pos h1,if_pos h1];exact ⟨rfl,by omega⟩
 ·rw[if_neg h1,if_neg h1,if_pos (by omega)];exact ⟨rfl,by omega⟩
theorem nx_nd (P:PX) (h:¬zap (pkV P.1)):¬0<=xR (gNx P.1.s (z0 P)):=by
 by_cases hk:P.1.k<P.1.s.size
 ·rw[nx_at P hk];unfold zap at h;unfold xR;rw[if_neg (by omega),if_neg (by omega)];decide
 ·rw[nx_out P hk];decide
theorem gNmE_bad {s:ByteArray}{p:Gz}{n:Int}{c:Nat}(h:c=0\/¬gNx s p=125):¬(gNmE s p n c).2.e=0:=by
 show ¬(gWt s (if c=0 then gFl p 3 p.k else p) 125).e=0;by_cases hc:c=0
 ·rw[if_pos hc];have h1:¬(gFl p 3 p.k).e=0:=yq (by decide)
  rw[zlp h1 (by decide)];exact h1
 ·rw[if_neg hc];have h2:¬gNx s p=125:=h.resolve_left hc;unfold gWt;rw[if_neg h2];exact yq (by decide)
theorem dg125 {b:Int}(h:zap b):¬b=125:=by
 unfold zap at h;omega
theorem ag_dig:∀ (f n:Nat) (P:PX) (c:Int),f+n=6->(match zd0 (7 - n) P c n with | .ok d q=>gNmG P.1.s (z0 P) c n=(dI d,gWt P.1.s (z0 q) 125)/\q.1.s=P.1.s | .bad e _ _=>¬e=0/\¬(gNmG P.1.s (z0 P) c n).2.e=0)
 | 0,n,P,c,hn=>by
  have hn:n=6:=by omega
  by_cases hd:zap (pkV P.1)
  ·rw[zjy hd (by omega) (.inr (by omega))];rw[gNm_n (by omega)];exact ⟨by decide,gNmE_bad (.inr (by rw[nx_at P (zgy hd)];exact dg125 hd))⟩
  ·rw[zjx hd (by omega),if_neg (by omega)];rw[gNm_n (by omega)];refine ⟨?_,rfl⟩
   show (c,gWt P.1.s (if n=0 then _ else z0 P) 125)=_;rw[if_neg (by omega)];rfl
 | f+1,n,P,c,hn=>by
  by_cases hd:zap (pkV P.1)
  ·obtain ⟨v1,v2⟩:=nx_dg P hd;by_cases hb:1114111<c*16+dgI (pkV P.1)
   ·rw[zjy hd (by omega) (.inl hb)];rw[gNm_b (by omega) (by rw[v1];exact v2) (by rw[v1];omega)];exact ⟨by decide,yq (by decide)⟩
   ·rw[dig_go hd (by omega) (by omega)];rw[gNm_y (by omega) (by rw[v1];exact v2) (by rw[v1];omega),v1];have:=ag_dig f (n+1) (adv P (zgy hd)) (c*16+dgI (pkV P.1)) (by omega)
    rw[show 16*c+dgI (pkV P.1)=c*16+dgI (pkV P.1) by omega];exact this
  ·rw[zjx hd (by omega),gNm_n fun hh=>nx_nd P hd hh.2];by_cases h0:n=0
   ·rw[if_pos h0];exact ⟨by decide,gNmE_bad (.inl h0)⟩
   ·rw[if_neg h0];refine ⟨?_,rfl⟩
    show (c,gWt P.1.s (if n=0 then _ else z0 P) 125)=_;rw[if_neg h0];rfl
theorem sp_fin:∀ i:Fin 256,decide (0<=spI (i.1:Int))=spZ (i.1:Int):=by decide +kernel
theorem sp_iff {b:Int}(h0:0<=b) (h1:b<=255):0<=spI b↔spZ b=true:=by
 obtain ⟨n,rfl⟩:∃ n:Nat,b=n:=⟨b.toNat,by omega⟩
 have:=sp_fin ⟨n,by omega⟩
 rw[<- this,decide_eq_true_iff]
theorem AgI.bad {o:OutP}{r:Int × Gz}{e a:Int}(h:AgI o r) (ho:o=.bad e a q):¬e=0/\¬r.2.e=0:=by subst ho;exact h
theorem ag_esc (P:PX):AgI (yM P ()) (gCh2 P.1.s (z0 P)):=by
 unfold yM gCh2;by_cases hu:pkV P.1=117
 ·obtain ⟨hk,_⟩:=zI hu (by decide)
  rw[dif_pos hu,if_pos ((vd P (by decide)).2 hu)];have h1:=zmw (adv P hk) (b:=123) (by decide)
  have e1:gAd (z0 P)=z0 (adv P hk):=rfl;rw[e1];cases hx:yc (adv P hk) 123 with
  | bad e a q =>
   rw[hx] at h1;refine ⟨h1.1,?_⟩
   have h2:¬(gWt P.1.s (z0 (adv P hk)) 123).e=0:=h1.2;rw[gNm_e h2];exact h2
  | ok d q =>
   rw[hx] at h1;have h2:gWt P.1.s (z0 (adv P hk)) 123=z0 q:=h1;have hs:q.1.s=P.1.s:=(uG hx).1.s;rw[h2];have h3:=ag_dig 6 0 q 0 rfl;rw[hs] at h3;dsimp only;show AgI (match zd0 7 q 0 0 with | .ok c r=>_ | .bad e a r=>_) (gNmG P.1.s (z0 q) 0 0)
   rw[show 7 - 0=7 from rfl] at h3;cases hy:zd0 7 q 0 0 with
   | bad e a r =>
    rw[hy] at h3;exact h3
   | ok c r =>
    rw[hy] at h3;obtain ⟨h3,h4⟩:=h3;dsimp only;rw[h3];have h5:=zmw r (b:=125) (by decide)
    rw[h4] at h5;cases hz:yc r 125 with
    | bad e a t =>
     rw[hz] at h5;exact h5
    | ok d2 t =>
     rw[hz] at h5;show (dI c,gWt P.1.s (z0 r) 125)=(dI c,z0 t)
     rw[show gWt P.1.s (z0 r) 125=z0 t from h5]
 ·rw[dif_neg hu,if_neg fun hh=>hu ((vd P (by decide)).1 hh)];by_cases hk:P.1.k<P.1.s.size
  ·have hb:=uZ P.1.s P.1.k;have hv:=yE hk;have hi:=sp_iff (b:=pkV P.1) (by omega) (by omega)
   rw[nx_at P hk];by_cases hc:pkV P.1=32\/0<=spI (pkV P.1)
   ·rw[dif_pos ⟨hk,hc⟩,if_neg fun hh=>hc.elim hh.2 fun h=>by rw[hi.1 h] at hh;exact Bool.noConfusion hh.1];rfl
   ·rw[dif_neg fun hh=>hc hh.2,if_pos ⟨by
     cases hz:spZ (pkV P.1) with
     | false=>rfl
     | true=>exact absurd (.inr (hi.2 hz)) hc,fun h=>hc (.inl h)⟩]
    exact ⟨by decide,yq (by decide)⟩
  ·rw[dif_neg fun hh=>hk hh.1,nx_out P hk,if_pos ⟨by decide,by decide⟩];exact ⟨by decide,yq (by decide)⟩
theorem ag_chr (P:PX):AgI (yD P ()) (gCh P.1.s (z0 P)):=by
 unfold yD gCh;by_cases h92:pkV P.1=92
 ·obtain ⟨hk,_⟩:=zI h92 (by decide)
  rw[dif_pos h92,nx_at P hk,h92,if_neg (by decide)];have e1:gWt P.1.s (z0 P) 92=z0 (adv P hk):=if_pos ((vd P (by decide)).2 h92)
  rw[e1];exact ag_esc (adv P hk)
 ·have hw:gWt P.1.s (z0 P) 92=gFl (z0 P) 3 (z0 P).k:=if_neg fun hh=>h92 ((vd P (by decide)).1 hh)
  have hw2:¬(gFl (z0 P) 3 (z0 P).k).e=0:=yq (by decide)
  have hbad:¬(gCh2 P.1.s (gFl (z0 P) 3 (z0 P).k)).2.e=0:=fun e=>hw2 ((gCh2_k (by rw[zn2];exact P.2.2.1)).1.st e)
  rw[dif_neg h92,hw];by_cases hk:P.1.k<P.1.s.size
  ·have hb:=uZ P.1.s P.1.k;have hv:=yE hk;have hi:=sp_iff (b:=pkV P.1) (by omega) (by omega)
   rw[nx_at P hk];by_cases hc:33<=pkV P.1/\pkV P.1<=126/\spI (pkV P.1)<0
   ·rw[dif_pos ⟨hk,hc⟩,if_pos (show leB (pkV P.1)=true from decide_eq_true ⟨by omega,by omega,by
     cases hz:spZ (pkV P.1) with
     | false=>rfl
     | true=>have:=hi.2 hz;omega⟩)]
    rfl
   ·rw[dif_neg fun hh=>hc hh.2,if_neg fun hh=>hc (by
     have h3:=of_decide_eq_true hh;refine ⟨by omega,by omega,Int.not_le.1 fun h4=>?_⟩
     rw[hi.1 h4] at h3;exact Bool.noConfusion h3.2.2)]
    exact ⟨by decide,hbad⟩
  ·rw[dif_neg fun hh=>hk hh.1,nx_out P hk,if_neg (by decide)];exact ⟨by decide,hbad⟩
theorem ag_wrd (P:PX):match xp P () with | .ok d q=>gWd P.1.s (z0 P)=(dW d,z0 q)/\dN d=P.1.k | .bad e _ _=>¬e=0/\¬(gWd P.1.s (z0 P)).2.e=0:=by
 unfold xp;have hq:zg1 P.1.s (z0 P)=⟨wdE P.1.s P.1.k,0,0⟩:=if_pos rfl;by_cases h:wdE P.1.s P.1.k=P.1.k
 ·rw[if_pos h];refine ⟨by decide,?_⟩
  show ¬(gWdR (z0 P) (zg1 P.1.s (z0 P))).e=0;rw[hq,show gWdR (z0 P) ⟨wdE P.1.s P.1.k,0,0⟩=gFl ⟨wdE P.1.s P.1.k,0,0⟩ 3 (wdE P.1.s P.1.k) from if_pos h];exact yq (by decide)
 ·rw[if_neg h];refine ⟨?_,rfl⟩
  show (zN P.1.s P.1.k (zg1 P.1.s (z0 P)).k,gWdR (z0 P) (zg1 P.1.s (z0 P)))=_;rw[hq,show gWdR (z0 P) ⟨wdE P.1.s P.1.k,0,0⟩=⟨wdE P.1.s P.1.k,0,0⟩ from if_neg h];rfl
theorem eqB_comm (a b:ByteArray):eqB a b=eqB b a:=by
 rw[Bool.eq_iff_iff,yC,yC];exact ⟨Eq.symm,Eq.symm⟩
theorem setOfI_eq (w:ByteArray):yL w=if ut setFl w<6 then (ut setFl w:Int) else -1:=by
 unfold yL ut setFl;simp only[List.findIdx_cons,List.findIdx_nil,eqB_comm _ w];generalize eqB w ⟨#[101,120,99,108,117,115,105,111,110,115]⟩=b0;generalize eqB w ⟨#[99,97,115,101,100]⟩=b1;generalize eqB w ⟨#[105,103,110,111,114,97,98,108,101]⟩=b2;generalize eqB w ⟨#[115,116,97,114,116]⟩=b3;generalize eqB w ⟨#[99,111,110,116,105,110,117,101]⟩=b4;generalize eqB w ⟨#[109,101,100,105,97,108]⟩=b5
 revert b0 b1 b2 b3 b4 b5
 decide
theorem us_sts (hu:usB d=true) (i:Nat) (hi:i<6):canon (d.sts i)=d.sts i:=by
 have h0:dbE d=0:=of_decide_eq_true hu;unfold dbE at h0;split at h0
 ·have key:∀ l:List Rg,(if canon l=l then (0:Int) else 11)=0->canon l=l:=fun l h=>by
   by_cases hv:canon l=l
   ·exact hv
   ·rw[if_neg hv] at h;exact absurd h (by decide)
  match i,hi with
  | 0,_=>exact key _ (uM h0 10 (by omega))
  | 1,_=>exact key _ (uM h0 15 (by omega))
  | 2,_=>exact key _ (uM h0 16 (by omega))
  | 3,_=>exact key _ (uM h0 17 (by omega))
  | 4,_=>exact key _ (uM h0 18 (by omega))
  | 5,_=>exact key _ (uM h0 19 (by omega))
 ·exact absurd h0 (by decide)
theorem zlw (p:PX) (x:List ByteArray × ByteArray × Int):(usB p.1.db=true/\ut x.1 x.2.1<x.1.length/\ux p x=.ok (.v (.int .i64 (ut x.1 x.2.1))) (ckd p))\/(¬(usB p.1.db=true/\ut x.1 x.2.1<x.1.length)/\ux p x=.bad 6 x.2.2 (ckd p)):=by
 unfold ux;by_cases h:usB p.1.db=true/\ut x.1 x.2.1<x.1.length
 ·rw[if_pos h];exact .inl ⟨h.1,h.2,rfl⟩
 ·rw[if_neg h];exact .inr ⟨h,rfl⟩
theorem zjg {i:Int}{w:ByteArray}{p:Gz}{t:Nat}(h:¬p.e=0):¬(gCs3 db i w p t).2.e=0:=by
 unfold gCs3;split
 ·exact h
 ·rw[gFl_e h];exact h
theorem zjh {s w:ByteArray}{p:Gz}{t:Nat}(h:¬p.e=0):¬(gCs2 db s w p t).2.e=0:=by
 unfold gCs2;split
 ·rw[gFl_e h];exact h
 ·refine zjg ?_;rw[gWd_e h,zlp h (by decide)];exact h
theorem gCsN_bad {s:ByteArray}{p:Gz}(h:¬p.e=0):¬(gCsN db s p).2.e=0:=by
 have h1:gNx s p=0:=gNx_e h;unfold gCsN;rw[gWd_e h,h1,if_neg (by decide),zlp h (by decide)];exact zjh h
theorem ag_clsS (w:ByteArray) (st:Int) (q3:PX) (t:Nat):AgL (clsS w st q3) (if gNx q3.1.s (z0 q3)=125 then gCs1 q3.1.db w (gAd (z0 q3)) t else ([],gFl (z0 q3) 3 t)):=by
 unfold clsS;have h1:=zmw q3 (b:=125) (by decide)
 by_cases h:pkV q3.1=125
 ·obtain ⟨hk,_⟩:=zI h (by decide)
  have hx:yc q3 125=.ok (.tu []) (adv q3 hk):=dif_pos ⟨hk,h⟩
  rw[hx,if_pos ((vd q3 (by decide)).2 h)];dsimp only;unfold gCs1;rw[setOfI_eq];rcases zlw (adv q3 hk) (setFl,w,st) with ⟨hu,hf,hr⟩|⟨hf,hr⟩
  ·have hu:usB q3.1.db=true:=hu;have hf:ut setFl w<6:=hf;rw[hr,if_pos hf,if_neg fun hh=>hh.elim (fun h=>by omega) fun h=>by rw[hu] at h;exact Bool.noConfusion h];show (q3.1.db.sts ((ut setFl w:Int)).toNat,_)=(canon (q3.1.db.sts ((ut setFl w:Int)).toNat),_)
   rw[Int.toNat_natCast,us_sts hu _ hf];rfl
  ·rw[hr];have hf:¬(usB q3.1.db=true/\ut setFl w<6):=hf;rw[if_pos (show (if ut setFl w<6 then (ut setFl w:Int) else -1)<0\/usB q3.1.db=false from by
    by_cases h6:ut setFl w<6
    ·exact .inr (by
      cases hu:usB q3.1.db with
      | false=>rfl
      | true=>exact absurd ⟨hu,h6⟩ hf)
    ·exact .inl (by rw[if_neg h6];decide))]
   exact ⟨by decide,yq (by decide)⟩
 ·have hx:yc q3 125=.bad 3 q3.1.k q3:=dif_neg fun hh=>h hh.2;rw[hx,if_neg fun hh=>h ((vd q3 (by decide)).1 hh)];exact ⟨by decide,yq (by decide)⟩
theorem ag_clsV (w:ByteArray) (st:Int) (q4:PX) (t:Nat):AgL (clsV w st q4) (gCs2 q4.1.db q4.1.s w (z0 q4) t):=by
 unfold clsV gCs2;have hpi:prI w=if ut prFl w<7 then (ut prFl w:Int) else -1:=rfl;rw[hpi];rcases zlw q4 (prFl,w,st) with ⟨hu,hf,hr⟩|⟨hf,hr⟩
 ·have hf:ut prFl w<7:=hf;rw[hr,if_pos hf,if_neg fun hh=>hh.elim (fun h=>by omega) fun h=>by rw[hu] at h;exact Bool.noConfusion h];dsimp only;have h1:=ag_wrd (ckd q4)
  cases hw:xp (ckd q4) () with
  | bad e a q =>
   rw[hw] at h1;dsimp only;have h2:¬(gWd q4.1.s (z0 q4)).2.e=0:=h1.2;exact ⟨h1.1,zjg (by rw[zlp h2 (by decide)];exact h2)⟩
  | ok d2 q6 =>
   rw[hw] at h1;dsimp only;have h2:gWd q4.1.s (z0 q4)=(dW d2,z0 q6):=h1.1;have hs:q6.1.s=q4.1.s:=(uF hw).s;rw[h2];dsimp only;have h3:=zmw q6 (b:=125) (by decide)
   rw[hs] at h3;cases hx:yc q6 125 with
   | bad e a q =>
    rw[hx] at h3;exact ⟨h3.1,zjg h3.2⟩
   | ok d3 q7 =>
    rw[hx] at h3;have h4:gWt q4.1.s (z0 q6) 125=z0 q7:=h3;rw[h4];unfold gCs3;show AgL (if zn7 (ym (q4.1.db.prs ((ut prFl w:Int)).toNat)).names (dW d2)=true then _ else _) _;split
    ·rfl
    ·exact ⟨by decide,yq (by decide)⟩
 ·rw[hr];have hf:¬(usB q4.1.db=true/\ut prFl w<7):=hf;rw[if_pos (show (if ut prFl w<7 then (ut prFl w:Int) else -1)<0\/usB q4.1.db=false from by
   by_cases h6:ut prFl w<7
   ·exact .inr (by
     cases hu:usB q4.1.db with
     | false=>rfl
     | true=>exact absurd ⟨hu,h6⟩ hf)
   ·exact .inl (by rw[if_neg h6];decide))]
  exact ⟨by decide,yq (by decide)⟩
theorem ag_clsN (q2:PX):AgL (clsN q2) (gCsN q2.1.db q2.1.s (z0 q2)):=by
 unfold clsN gCsN;have h1:=ag_wrd q2;cases hw:xp q2 () with
 | bad e a q =>
  rw[hw] at h1;refine ⟨h1.1,?_⟩
  have h2:¬(gWd q2.1.s (z0 q2)).2.e=0:=h1.2;rw[gNx_e h2,if_neg (by decide)];exact zjh (by rw[zlp h2 (by decide)];exact h2)
 | ok d q3 =>
  rw[hw] at h1;have h2:gWd q2.1.s (z0 q2)=(dW d,z0 q3):=h1.1;have hm:=uF hw;rw[h2];dsimp only;by_cases h61:pkV q3.1=61
  ·obtain ⟨hk,_⟩:=zI h61 (by decide)
   have hx:gNx q3.1.s (z0 q3)=61:=(vd q3 (by decide)).2 h61;have hx2:gWt q3.1.s (z0 q3) 61=z0 (adv q3 hk):=if_pos hx;rw[hm.s] at hx hx2;rw[dif_pos h61,hx,if_neg (by decide),hx2];have h3:=ag_clsV (dW d) (dN d) (adv q3 hk) (z0 q2).k;rw[show (adv q3 hk).1.db=q2.1.db from hm.db,show (adv q3 hk).1.s=q2.1.s from hm.s] at h3;exact h3
  ·rw[dif_neg h61];have h3:=ag_clsS (dW d) (dN d) q3 (z0 q2).k;rw[hm.db,hm.s] at h3;by_cases h125:gNx q2.1.s (z0 q3)=125
   ·rw[if_pos h125] at h3 ⊢;exact h3
   ·rw[if_neg h125] at h3 ⊢;cases hc:clsS (dW d) (dN d) q3 with
    | ok L q =>
     rw[hc] at h3;have h4:(([]:List Rg),gFl (z0 q3) 3 (z0 q2).k)=(L,z0 q):=h3;have h5:=congrArg (fun x=>x.2.e) h4;exact absurd h5 (yq (by decide))
    | bad e a q =>
     rw[hc] at h3;refine ⟨h3.1,zjh ?_⟩
     rw[show gWt q2.1.s (z0 q3) 61=gFl (z0 q3) 3 (z0 q3).k from if_neg fun hh=>h61 ((vd q3 (by decide)).1 (by rw[hm.s];exact hh))];exact yq (by decide)
theorem zji (P:PX):gCl P.1.s (z0 P)=zeo P.1 92 112:=by
 unfold gCl zeo;rw[decide_eq_decide];constructor
 ·rintro ⟨h1,h2,h3⟩
  have h4:=(vd P (b:=92) (by decide)).1 h1;exact ⟨h2,(zI h4 (by decide)).2,h3⟩
 ·rintro ⟨h1,h2,h3⟩
  exact ⟨(vd P (b:=92) (by decide)).2 ((yE (by omega)).trans h2),h1,h3⟩
theorem ag_cls (P:PX) (h:zeo P.1 92 112=true):AgL (zV P) (gCs P.1.db P.1.s (z0 P)):=by
 obtain ⟨h1,h2,h3⟩:=zca h;have hk:P.1.k<P.1.s.size:=by omega
 have e1:pkV (adv P hk).1=112:=(yE (p:=(adv P hk).1) h1).trans h3;have hx:yc (adv P hk) 112=.ok (.tu []) (adv (adv P hk) h1):=dif_pos ⟨h1,e1⟩
 unfold zV gCs;rw[dif_pos hk,hx];dsimp only;have h4:=zmw (adv (adv P hk) h1) (b:=123) (by decide)
 have e2:gWt P.1.s ⟨(z0 P).k+2,(z0 P).e,(z0 P).a⟩ 123=gWt P.1.s (z0 (adv (adv P hk) h1)) 123:=rfl;rw[e2];cases hy:yc (adv (adv P hk) h1) 123 with
 | bad e a q =>
  rw[hy] at h4;exact ⟨h4.1,gCsN_bad h4.2⟩
 | ok d q2 =>
  rw[hy] at h4;have h5:gWt P.1.s (z0 (adv (adv P hk) h1)) 123=z0 q2:=h4;have hm:=(uG hy).1;rw[h5];have h6:=ag_clsN q2;rw[show q2.1.db=P.1.db from hm.db,show q2.1.s=P.1.s from hm.s] at h6;exact h6
theorem gPr1_bad {s:ByteArray}{a:Int}{p:Gz}(h:¬p.e=0):¬(gPr1 s a p).2.e=0:=by
 unfold gPr1;rw[if_neg fun hh=>by have:=hh.1;rw[gNx_e h] at this;exact absurd this (by decide)];exact h
theorem zmp {a b:Int}(h0:0<=a) (h1:a<=b) (h2:b<=1114111):canon [(a,b)]=[(a,b)]:=canon_id (zfn h0 h1 h2)
theorem ds_iff (P:PX):gDs P.1.s (z0 P)↔pkV P.1=45/\zeo P.1 45 45=false:=by
 unfold gDs;constructor
 ·rintro ⟨h1,h2⟩
  refine ⟨(vd P (by decide)).1 h1,decide_eq_false fun hh=>h2 ⟨hh.1,hh.2.2⟩⟩
 ·rintro ⟨h1,h2⟩
  refine ⟨(vd P (by decide)).2 h1,fun hh=>of_decide_eq_false h2 ⟨hh.1,(zI h1 (by decide)).2,hh.2⟩⟩
theorem ag_itmP (c:Int) (P:PX) (h0:0<=c):AgL (itmP c P) (gPr2 P.1.s c (z0 P)):=by
 unfold itmP gPr2;have h1:=ag_chr P;cases hc:yD P () with
 | bad e a q =>
  rw[hc] at h1;refine ⟨h1.1,?_⟩
  show ¬(if (gCh P.1.s (z0 P)).1<c then gFl (gCh P.1.s (z0 P)).2 3 (z0 P).k else (gCh P.1.s (z0 P)).2).e=0;split
  ·exact yq (by decide)
  ·exact h1.2
 | ok d q =>
  rw[hc] at h1;have h2:gCh P.1.s (z0 P)=(dI d,z0 q):=h1;obtain ⟨v,rfl,v0,v1⟩:=vA hc;rw[h2];dsimp only;by_cases hl:dI (.v (.int .i64 v))<c
  ·rw[if_pos hl,if_pos hl];exact ⟨by decide,yq (by decide)⟩
  ·rw[if_neg hl,if_neg hl,zmp h0 (Int.not_lt.1 hl) v1];rfl
theorem ag_itmC (c:Int) (P:PX) (h0:0<=c) (h1:c<=1114111):AgL (itmC c P) (gPr1 P.1.s c (z0 P)):=by
 unfold itmC gPr1;by_cases h:pkV P.1=45/\zeo P.1 45 45=false
 ·obtain ⟨hk,_⟩:=zI h.1 (by decide)
  rw[dif_pos h,if_pos ((ds_iff P).2 h)];have e1:gBl P.1.s (gAd (z0 P))=z0 (blP (adv P hk)):=zkc (adv P hk)
  rw[e1];exact ag_itmP c (blP (adv P hk)) h0
 ·rw[dif_neg h,if_neg fun hh=>h ((ds_iff P).1 hh),zmp h0 (Int.le_refl _) h1];rfl
theorem ag_pr (P:PX) (h:¬zeo P.1 92 112=true):AgL (xh P) (gPr P.1.s (z0 P)):=by
 unfold xh gPr;rw[if_neg h];have h1:=ag_chr P;cases hc:yD P () with
 | bad e a q =>
  rw[hc] at h1;refine ⟨h1.1,gPr1_bad ?_⟩
  rw[zn4 h1.2];exact h1.2
 | ok d q =>
  rw[hc] at h1;have h2:gCh P.1.s (z0 P)=(dI d,z0 q):=h1;have hm:=(zcp hc).1;obtain ⟨v,rfl,v0,v1⟩:=vA hc;rw[h2];dsimp only;have h3:=ag_itmC v (blP q) v0 v1;have e1:gBl P.1.s (z0 q)=z0 (blP q):=by rw[<- hm.s];exact zkc q
  rw[e1];rw[show (blP q).1.s=P.1.s from hm.s] at h3;exact h3
def AgR (db:Db) (s:ByteArray) (run:PX->OutL) (g:Gz->List Rg × Gz):Prop:=∀ P:PX,P.1.s=s->P.1.db=db->pkV P.1=91->AgL (run P) (g (z0 P))
theorem ag_opd {s:ByteArray}{run:PX->OutL}(hr:AgR db s run g) (P:PX) (hs:P.1.s=s) (hd:P.1.db=db):AgL (yA run P) (gOp1 db s g (z0 P)):=by
 have gc:=zji P;rw[hs] at gc;have g91:gNx s (z0 P)=91↔pkV P.1=91:=by rw[<- hs];exact vd P (by decide)
 unfold yA gOp1;by_cases h91:pkV P.1=91
 ·rw[if_pos h91,if_pos (g91.2 h91)];exact hr P hs hd h91
 ·rw[if_neg h91,if_neg (fun hh=>h91 (g91.1 hh))];by_cases hc:zeo P.1 92 112=true
  ·have h92:pkV P.1=92:=by
    have:=zca hc;exact (yE (by omega)).trans this.2.1
   rw[if_pos h92,if_pos (gc.trans hc),<- hs,<- hd];exact ag_cls P hc
  ·rw[if_neg (fun hh:gCl s (z0 P)=true=>hc (gc.symm.trans hh))];by_cases h92:pkV P.1=92
   ·rw[if_pos h92];obtain ⟨hk,hb⟩:=zI h92 (by decide)
    have hx:yc (adv P hk) 112=.bad 3 (adv P hk).1.k (adv P hk):=dif_neg fun hh=>hc (decide_eq_true ⟨hh.1,hb,(yE hh.1).symm.trans hh.2⟩)
    unfold zV;rw[dif_pos hk,hx];exact ⟨by decide,yq (by decide)⟩
   ·rw[if_neg h92];exact ⟨by decide,yq (by decide)⟩
theorem gOp_z0 {s:ByteArray}(P:PX) (hs:P.1.s=s):gOp db s g (z0 P)=gOp1 db s g (z0 (blP P)):=by
 subst hs;unfold gOp;rw[zkc]
theorem gOp_bad {s:ByteArray}{p:Gz}(h:¬p.e=0):¬(gOp db s g p).2.e=0:=by
 have h0:gNx s p=0:=gNx_e h;unfold gOp gOp1;rw[zn4 h,h0,if_neg (by decide),if_neg (fun hh=>by have:=(of_decide_eq_true hh).1;rw[h0] at this;exact absurd this (by decide))];exact yq (by decide)
theorem blP_at {P:PX}(h:¬pkV P.1=32):blP P=P:=by
 have h1:blk P.1.s P.1.k=P.1.k:=yz fun hh=>h ((yE hh.1).trans hh.2)
 obtain ⟨⟨db,ch,us,s,k⟩,hp⟩:=P;have h2:blk s k=k:=h1;refine Subtype.ext ?_;show (⟨db,ch,us,s,blk s k⟩:PSt)=_;rw[h2]
theorem comb_nil {A:List Rg}(h:Canon A) (op:Int) (ho:op=1\/op=3):zr A [] op=A:=by
 obtain ⟨h1,h2⟩:=yN A [] op;refine xC h1 h fun c=>?_;rw[h2];have hb:yr ([]:List Rg) c=false:=by
  cases hh:yr ([]:List Rg) c with
  | false=>rfl
  | true =>
   obtain ⟨_,r,hr,_⟩:=yd.1 hh;simp at hr
 have hk:zX op (yr A c) false=yr A c:=by
  rcases ho with rfl|rfl<;>cases yr A c<;>rfl
 rw[hb,hk];constructor
 ·rintro ⟨_,h4⟩
  exact (yd.1 h4).2
 ·rintro h4;have h5:0<=c/\c<=1114111:=by
   obtain ⟨r,hr,h6,h7⟩:=h4;have:=h.ok r hr;omega
  exact ⟨h5,yd.2 ⟨h5,h4⟩⟩
theorem comb_add (S I L:List Rg):zr S (canon (I++L)) 1=zr (zr S (canon I) 1) L 1:=by
 obtain ⟨h1,h2⟩:=yN S (canon (I++L)) 1;obtain ⟨h3,h4⟩:=yN (zr S (canon I) 1) L 1;obtain ⟨_,h5⟩:=yN S (canon I) 1;refine xC h1 h3 fun c=>?_;rw[h2,h4];have hk:∀ a b:Bool,zX 1 a b=true↔(a=true\/b=true):=by decide
 have hin:∀ l:List Rg,yr l c=true↔(0<=c/\c<=1114111)/\inR l c:=fun l=>yd
 rw[hk,hk,hin,hin,hin,hin,h5,hk,hin,hin,xM,xM];have ha:inR (I++L) c↔inR I c\/inR L c:=by
  unfold inR;simp only[List.mem_append];constructor
  ·rintro ⟨r,hr|hr,h⟩
   ·exact .inl ⟨r,hr,h⟩
   ·exact .inr ⟨r,hr,h⟩
  ·rintro (⟨r,hr,h⟩|⟨r,hr,h⟩)
   ·exact ⟨r,.inl hr,h⟩
   ·exact ⟨r,.inr hr,h⟩
 rw[ha];by_cases q1:0<=c/\c<=1114111<;>by_cases q2:inR S c<;>by_cases q3:inR I c<;>by_cases q4:inR L c<;>simp[q1,q2,q3,q4]
theorem zn3 {s:ByteArray}{neg:Bool}{r:List Rg × Gz}(h:¬r.2.e=0):¬(gEn s neg r).2.e=0:=by
 show ¬(gWt s r.2 93).e=0;rw[zlp h (by decide)];exact h
theorem zn0 {s:ByteArray}{p:Gz}(h:¬p.e=0):gLp db s g p S=(S,p):=gLp_n fun hh=>h hh.1
theorem zkb {db:Db}{s:ByteArray}{run:PX->OutL}{g:Gz->List Rg × Gz}(hsm:SmD db) (hok:RunOk run) (hg:RunG s g) (hr:AgR db s run g) {neg:Bool}{z:Gz}:∀ (f:Nat) (P0:PX) (S I:List Rg),P0.1.s=s->P0.1.db=db->s.size+1<=f+P0.1.k->GAt s z (z0 (blP P0)) (zr S (canon I) 1)->AgL (zdt run neg f P0 S I) (gEn s neg (gLp db s g (z0 (blP P0)) (zr S (canon I) 1)))
 | 0,P0,S,I,hs,_,hf,_=>by
  exfalso;have:=P0.2.2.1;rw[hs] at this;omega
 | f+1,P0,S,I,hs,hd,hf,hz=>by
  have hs':(blP P0).1.s=s:=hs;have hd':(blP P0).1.db=db:=hd;have hbl:=vM P0;have nxp:∀ {b:Int},0<b->(gNx s (z0 (blP P0))=b↔pkV (blP P0).1=b):=fun hb=>by
   have:=vd (blP P0) hb;rw[hs'] at this;exact this
  have hadd:∀ {o:OutL}{r:List Rg × Gz},AgL o r->(∀ L q,o=.ok L q->Went (blP P0) L q)->gSt db s g (z0 (blP P0)) (zr S (canon I) 1)=(zr (zr S (canon I) 1) r.1 1,r.2)->¬gNx s (z0 (blP P0))=93->AgL (match o with | .bad e a q=>.bad e a q | .ok L q=>zdt run neg f q S (I++L)) (gEn s neg (gLp db s g (z0 (blP P0)) (zr S (canon I) 1))):=by
   intro o r ho hw hst h93;rw[zls hsm hg hz ⟨rfl,h93⟩,hst];dsimp only;cases o with
   | bad e a q =>
    refine ⟨ho.1,zn3 ?_⟩
    have h2:¬r.2.e=0:=ho.2;rw[zn4 h2,zn0 h2];exact h2
   | ok L q =>
    have h2:r=(L,z0 q):=ho;have w:=hw L q rfl;rw[h2];dsimp only;have hq:q.1.s=s:=w.s.trans hs';have e1:gBl s (z0 q)=z0 (blP q):=by rw[<- hq];exact zkc q
    rw[e1,<- comb_add];refine zkb hsm hok hg hr (z:=z) f q S (I++L) hq (w.db.trans hd') (by have:=w.k;omega) ?_;have h3:=(zfx hsm hg hz rfl).1.bl;rw[hst] at h3;dsimp only at h3;rw[h2] at h3;dsimp only at h3;rw[e1,<- comb_add] at h3;exact h3
  have hop:∀ {o:OutL}{r:List Rg × Gz}(op:Int),AgL o r->(∀ L q,o=.ok L q->q.1.s=s/\q.1.db=db/\(blP P0).1.k<q.1.k)->gSt db s g (z0 (blP P0)) (zr S (canon I) 1)=(zr (zr S (canon I) 1) r.1 op,r.2)->¬gNx s (z0 (blP P0))=93->AgL (match o with | .bad e a q=>.bad e a q | .ok L q=>zdt run neg f q (zr (zr S (canon I) 1) L op) []) (gEn s neg (gLp db s g (z0 (blP P0)) (zr S (canon I) 1))):=by
   intro o r op ho hw hst h93;rw[zls hsm hg hz ⟨rfl,h93⟩,hst];dsimp only;cases o with
   | bad e a q =>
    refine ⟨ho.1,zn3 ?_⟩
    have h2:¬r.2.e=0:=ho.2;rw[zn4 h2,zn0 h2];exact h2
   | ok L q =>
    have h2:r=(L,z0 q):=ho;obtain ⟨w1,w2,w3⟩:=hw L q rfl;rw[h2];dsimp only;have e1:gBl s (z0 q)=z0 (blP q):=by rw[<- w1];exact zkc q
    have e2:zr (zr (zr S (canon I) 1) L op) (canon []) 1=zr (zr S (canon I) 1) L op:=comb_nil (yN _ _ _).1 1 (.inl rfl)
    have h4:=zkb hsm hok hg hr (neg:=neg) (z:=z) f q (zr (zr S (canon I) 1) L op) [] w1 w2 (by omega)
    rw[e2] at h4;rw[e1];refine h4 ?_;have h3:=(zfx hsm hg hz rfl).1.bl;rw[hst] at h3;dsimp only at h3;rw[h2] at h3;dsimp only at h3;rw[e1] at h3;exact h3
  rw[zdt];by_cases h93:pkV (blP P0).1=93
  ·obtain ⟨hk,_⟩:=zI h93 (by decide)
   rw[dif_pos h93,gLp_n fun hh=>hh.2 ((nxp (by decide)).2 h93)];show gEn s neg (zr S (canon I) 1,z0 (blP P0))=(endG neg S I,z0 (adv (blP P0) hk))
   unfold gEn endG;rw[show gWt s (zr S (canon I) 1,z0 (blP P0)).2 93=z0 (adv (blP P0) hk) from if_pos ((nxp (by decide)).2 h93)]
  ·have g93:¬gNx s (z0 (blP P0))=93:=fun hh=>h93 ((nxp (by decide)).1 hh)
   rw[dif_neg h93];by_cases h45:pkV (blP P0).1=45
   ·obtain ⟨hk,_⟩:=zI h45 (by decide)
    have g45:=(nxp (b:=45) (by decide)).2 h45;have gst:gSt db s g (z0 (blP P0)) (zr S (canon I) 1)=(zr (zr S (canon I) 1) (gOp db s g (gWt s (gAd (z0 (blP P0))) 45)).1 3,(gOp db s g (gWt s (gAd (z0 (blP P0))) 45)).2):=by
     unfold gSt;rw[if_neg (by rw[g45];decide),if_pos g45]
    have ha:gAd (z0 (blP P0))=z0 (adv (blP P0) hk):=rfl;rw[dif_pos h45];by_cases h2:pkV (adv (blP P0) hk).1=45
    ·obtain ⟨hk2,_⟩:=zI h2 (by decide)
     rw[dif_pos h2];have hw:gWt s (gAd (z0 (blP P0))) 45=z0 (adv (adv (blP P0) hk) hk2):=by
      rw[ha,<- hs];exact if_pos ((vd (adv (blP P0) hk) (by decide)).2 h2)
     rw[hw] at gst;have e0:=gOp_z0 (db:=db) (g:=g) (adv (adv (blP P0) hk) hk2) hs;rw[e0] at gst;refine hop 3 (ag_opd hr (blP (adv (adv (blP P0) hk) hk2)) hs hd) (fun L q hq=>?_) gst g93;have w:=ye hok hq;have k1:=vM (adv (adv (blP P0) hk) hk2)
     have k2:(blP P0).1.k+2<=(blP (adv (adv (blP P0) hk) hk2)).1.k:=k1;have k3:=w.k;exact ⟨w.s.trans hs,w.db.trans hd,by omega⟩
    ·rw[dif_neg h2];refine ⟨by decide,?_⟩
     have hw:¬(gWt s (gAd (z0 (blP P0))) 45).e=0:=by
      rw[ha,<- hs];rw[show gWt P0.1.s (z0 (adv (blP P0) hk)) 45=gFl (z0 (adv (blP P0) hk)) 3 (z0 (adv (blP P0) hk)).k from if_neg fun hh=>h2 ((vd (adv (blP P0) hk) (by decide)).1 hh)];exact yq (by decide)
     have h3:¬(gOp db s g (gWt s (gAd (z0 (blP P0))) 45)).2.e=0:=gOp_bad hw;rw[zls hsm hg hz ⟨rfl,g93⟩,gst];dsimp only;rw[zn4 h3,zn0 h3];exact zn3 h3
   ·rw[dif_neg h45];have g45:¬gNx s (z0 (blP P0))=45:=fun hh=>h45 ((nxp (by decide)).1 hh)
    by_cases h38:pkV (blP P0).1=38
    ·obtain ⟨hk,_⟩:=zI h38 (by decide)
     have g38:=(nxp (b:=38) (by decide)).2 h38;rw[dif_pos h38];have e0:=gOp_z0 (db:=db) (g:=g) (adv (blP P0) hk) hs;have gst:gSt db s g (z0 (blP P0)) (zr S (canon I) 1)=(zr (zr S (canon I) 1) (gOp1 db s g (z0 (blP (adv (blP P0) hk)))).1 2,(gOp1 db s g (z0 (blP (adv (blP P0) hk)))).2):=by
      unfold gSt;rw[if_pos g38,<- e0];rfl
     refine hop 2 (ag_opd hr (blP (adv (blP P0) hk)) hs hd) (fun L q hq=>?_) gst g93;have w:=ye hok hq;have k1:=vM (adv (blP P0) hk)
     have k2:(blP P0).1.k+1<=(blP (adv (blP P0) hk)).1.k:=k1;have k3:=w.k;exact ⟨w.s.trans hs,w.db.trans hd,by omega⟩
    ·rw[dif_neg h38];have g38:¬gNx s (z0 (blP P0))=38:=fun hh=>h38 ((nxp (by decide)).1 hh)
     have e0:=gOp_z0 (db:=db) (g:=g) (blP P0) hs;by_cases h91:pkV (blP P0).1=91
     ·rw[if_pos h91];have g91:=(nxp (b:=91) (by decide)).2 h91;have hb2:blP (blP P0)=blP P0:=blP_at (by rw[h91];decide)
      rw[hb2] at e0;have e1:gOp1 db s g (z0 (blP P0))=g (z0 (blP P0)):=if_pos g91;have gst:gSt db s g (z0 (blP P0)) (zr S (canon I) 1)=(zr (zr S (canon I) 1) (g (z0 (blP P0))).1 1,(g (z0 (blP P0))).2):=by
       unfold gSt;rw[if_neg g38,if_neg g45,if_pos (.inl g91),e0,e1]
      exact hadd (hr (blP P0) hs hd h91) (fun L q hq=>hok _ _ _ h91 hq) gst g93
     ·rw[if_neg h91];have g91:¬gNx s (z0 (blP P0))=91:=fun hh=>h91 ((nxp (by decide)).1 hh)
      by_cases hc:zeo (blP P0).1 92 112=true
      ·have h92:pkV (blP P0).1=92:=by
        have:=zca hc;exact (yE (by omega)).trans this.2.1
       have gc:gCl s (z0 (blP P0))=true:=by
        have:=zji (blP P0)
        rw[hs'] at this;rw[this];exact hc
       have hb2:blP (blP P0)=blP P0:=blP_at (by rw[h92];decide)
       rw[hb2] at e0;have e1:gOp1 db s g (z0 (blP P0))=gCs db s (z0 (blP P0)):=(if_neg g91).trans (if_pos gc)
       have gst:gSt db s g (z0 (blP P0)) (zr S (canon I) 1)=(zr (zr S (canon I) 1) (gCs db s (z0 (blP P0))).1 1,(gCs db s (z0 (blP P0))).2):=by
        unfold gSt;rw[if_neg g38,if_neg g45,if_pos (.inr gc),e0,e1]
       have hI:xh (blP P0)=zV (blP P0):=if_pos hc;have h5:=ag_cls (blP P0) hc;rw[hs',hd',<- hI] at h5;exact hadd h5 (fun L q hq=>xy hq) gst g93
      ·have gc:¬gCl s (z0 (blP P0))=true:=by
        have:=zji (blP P0)
        rw[hs'] at this;rw[this];exact hc
       have gst:gSt db s g (z0 (blP P0)) (zr S (canon I) 1)=(zr (zr S (canon I) 1) (gPr s (z0 (blP P0))).1 1,(gPr s (z0 (blP P0))).2):=by
        unfold gSt;rw[if_neg g38,if_neg g45,if_neg fun hh=>hh.elim g91 gc]
       have h5:=ag_pr (blP P0) hc;rw[hs'] at h5;exact hadd h5 (fun L q hq=>xy hq) gst g93
theorem zmv {db:Db}{s:ByteArray}(hsm:SmD db):∀ n,AgR db s (zB n) (gGr db s n)
 | 0=>fun P _ _ _=>⟨by decide,yq (by decide)⟩
 | n+1=>fun P hs hd h91=>by
  obtain ⟨hk,_⟩:=zI h91 (by decide)
  have hP:=P.2.2.1;rw[hs] at hP;have hz:=gBd_at (s:=s) (z:=z0 P) hP;have e1:gWt s (z0 P) 91=z0 (adv P hk):=by
   rw[<- hs];exact if_pos ((vd P (by decide)).2 h91)
  have e2:gBl s (z0 (adv P hk))=z0 (blP (adv P hk)):=by
   rw[<- hs];exact zkc (adv P hk)
  rw[e1,e2] at hz;have hn:zr [] (canon []) 1=([]:List Rg):=comb_nil (zO []) 1 (.inl rfl)
  show AgL _ (gBd db s (gGr db s n) (gBl s (gWt s (z0 P) 91)))
  rw[e1,e2,zB,dif_pos hk];unfold gBd;have k1:=vM (adv P hk)
  have k2:P.1.k+1<=(blP (adv P hk)).1.k:=k1;by_cases h94:pkV (blP (adv P hk)).1=94
  ·obtain ⟨hk2,_⟩:=zI h94 (by decide)
   have g94:gNx s (z0 (blP (adv P hk)))=94:=by
    rw[<- hs];exact (vd (blP (adv P hk)) (by decide)).2 h94
   rw[dif_pos h94,if_pos g94];have e3:gBl s (gAd (z0 (blP (adv P hk))))=z0 (blP (adv (blP (adv P hk)) hk2)):=by
    rw[<- hs];exact zkc (adv (blP (adv P hk)) hk2)
   rw[e3];have h6:=zkb hsm (zQ n) (uw hsm n) (zmv hsm n) (neg:=true) (z:=z0 P) (P.1.s.size+1) (adv (blP (adv P hk)) hk2) [] [] hs hd (by rw[hs];omega)
   rw[hn] at h6;refine h6 ?_;have h7:=GM.ad (s:=s) (p:=z0 (blP (adv P hk))) (by rw[g94];decide)
   have h8:=h7.trans (GM.bl h7.hi)
   rw[e3] at h8;have:=h8.lo;exact ⟨hz.mv.trans h8,fun e=>by have:=hz.l0 rfl;omega,by have:=hz.l1;omega⟩
  ·have g94:¬gNx s (z0 (blP (adv P hk)))=94:=by
    rw[<- hs];exact fun hh=>h94 ((vd (blP (adv P hk)) (by decide)).1 hh)
   rw[dif_neg h94,if_neg g94];have h6:=zkb hsm (zQ n) (uw hsm n) (zmv hsm n) (neg:=false) (z:=z0 P) (P.1.s.size+1) (blP (adv P hk)) [] [] hs hd (by rw[hs];omega)
   rw[hn] at h6;have hb2:blP (blP (adv P hk))=blP (adv P hk):=blP_idem _;rw[hb2] at h6;exact h6 hz
def gPaQ (s:ByteArray) (p2:Gz):Gz:=if p2.k<s.size then gFl p2 3 p2.k else p2
def gPaE (S:List Rg) (p3:Gz):List Rg × Int × Int:=if p3.e=0 then (S,0,0) else ([],p3.e,p3.a)
noncomputable def gPaR (db:Db) (s:ByteArray):List Rg × Gz:=gGr db s 17 (gBl s ⟨0,0,0⟩)
noncomputable def zcc (db:Db) (s:ByteArray):List Rg × Int × Int:=gPaE (gPaR db s).1 (gPaQ s (gBl s (gPaR db s).2))
theorem gPaE_bad {s:ByteArray}{p:Gz}(h:¬p.e=0):¬(gPaE S (gPaQ s (gBl s p))).2.1=0:=by
 rw[zn4 h];have h2:¬(gPaQ s p).e=0:=by
  unfold gPaQ;split
  ·rw[gFl_e h];exact h
  ·exact h
 unfold gPaE;rw[if_neg h2];exact h2
theorem gGr_no {s:ByteArray}(hd:SmD db) {p:Gz}(hp:p.k<=s.size) (h:¬gNx s p=91):¬(gGr db s (n+1) p).2.e=0:=by
 have hw:gWt s p 91=gFl p 3 p.k:=if_neg h;have hz:¬(gWt s p 91).e=0:=by rw[hw];exact yq (by decide)
 have hk:=(zg0 (s:=s) (p:=p) (b:=91) (by decide) hp).2;have hm:=GM.bl (s:=s) (p:=gWt s p 91) hk;have ha:GAt s (gWt s p 91) (gBl s (gWt s p 91)) []:=⟨hm,fun e=>absurd (hm.st e) hz,by have:=hm.lo;show 0+1+6*(gWt s p 91).k<=_;omega⟩
 exact fun e=>hz ((gBd_r hd (uw hd n) ha).mv.st e)
theorem zfz {s:ByteArray}(h:OkS d s):((prs d s).2.1=0->zcc d s=((prs d s).1,0,0))/\(¬(prs d s).2.1=0->¬(zcc d s).2.1=0):=by
 rw[zk7 h];have e0:gBl s (z0 (yY d s h))=z0 (blP (yY d s h)):=zkc (yY d s h)
 have hR:gPaR d s=gGr d s 17 (z0 (blP (yY d s h))):=by
  unfold gPaR;rw[<- e0];rfl
 unfold zcc prsP;rw[hR];by_cases h91:pkV (blP (yY d s h)).1=91
 ·rw[if_pos h91];have hg:=zmv h.1 17 (blP (yY d s h)) rfl rfl h91;cases hr:zB 17 (blP (yY d s h)) with
  | bad e a q =>
   rw[hr] at hg;exact ⟨fun hh=>absurd hh hg.1,fun _=>gPaE_bad hg.2⟩
  | ok L q =>
   rw[hr] at hg;have h2:gGr d s 17 (z0 (blP (yY d s h)))=(L,z0 q):=hg;have hs:q.1.s=s:=(zQ 17 _ _ _ h91 hr).s;rw[h2];have e1:gBl s (z0 q)=z0 (blP q):=by rw[<- hs];exact zkc q
   show ((prsE (yY d s h) q L).2.1=0->gPaE L (gPaQ s (gBl s (z0 q)))=((prsE (yY d s h) q L).1,0,0))/\(¬(prsE (yY d s h) q L).2.1=0->¬(gPaE L (gPaQ s (gBl s (z0 q)))).2.1=0)
   rw[e1];by_cases hk:(blP q).1.k<s.size
   ·have hE:prsE (yY d s h) q L=([],3,((blP q).1.k:Int)):=if_pos hk;have hQ:gPaQ s (z0 (blP q))=gFl (z0 (blP q)) 3 (z0 (blP q)).k:=if_pos hk;rw[hE,hQ];refine ⟨fun hh=>absurd hh (show ¬(3:Int)=0 by decide),fun _=>?_⟩
    unfold gPaE;rw[if_neg (yq (by decide))];exact yq (by decide)
   ·have hE:prsE (yY d s h) q L=(L,0,0):=if_neg hk;have hQ:gPaQ s (z0 (blP q))=z0 (blP q):=if_neg hk;rw[hE,hQ];exact ⟨fun _=>rfl,fun hh=>absurd rfl hh⟩
 ·rw[if_neg h91];refine ⟨fun hh=>absurd hh (show ¬(3:Int)=0 by decide),fun _=>gPaE_bad ?_⟩
  have hk:(blP (yY d s h)).1.k<=s.size:=(blP (yY d s h)).2.2.1;exact gGr_no h.1 hk fun hh=>h91 ((vd (blP (yY d s h)) (by decide)).1 hh)
def Ps (s:ByteArray) (i j:Nat):Prop:=∀ d:Int,1<=d->enG s d i=enG s d j/\grE s i d=grE s j d
theorem Ps.refl (s:ByteArray) (i:Nat):Ps s i i:=fun _ _=>⟨rfl,rfl⟩
theorem Ps.trans {s:ByteArray}{i j k:Nat}(h:Ps s i j) (h':Ps s j k):Ps s i k:=fun d hd=>⟨(h d hd).1.trans (h' d hd).1,(h d hd).2.trans (h' d hd).2⟩
def Pln (b:Int):Prop:=¬b=91/\¬b=93/\¬b=92
theorem Ps.one {s:ByteArray}(hi:i<s.size) (h:Pln (bAt s i)):Ps s i (i+1):=fun d hd=>by
 obtain ⟨h1,h2,h3⟩:=h;have e:enS s d i=(d,i):=by unfold enS;rw[if_neg h1,if_neg h2,if_neg h3]
 refine ⟨?_,grE_else hi h3 h1 h2⟩
 rw[zc3 hi (by rw[e];show ¬d=0;omega),e]
theorem Ps.run {s:ByteArray}:∀ (n i:Nat),i+n<=s.size->(∀ m,i<=m->m<i+n->Pln (bAt s m))->Ps s i (i+n)
 | 0,i,_,_=>Ps.refl s i
 | n+1,i,hn,h=>by
  have h1:=Ps.one (s:=s) (i:=i) (by omega) (h i (Nat.le_refl _) (by omega))
  have h2:=Ps.run (s:=s) n (i+1) (by omega) fun m hm hm2=>h m (by omega) (by omega)
  rw[show i+(n+1)=i+1+n by omega];exact h1.trans h2
theorem Ps.esc {s:ByteArray}(hi:i+1<s.size) (h0:bAt s i=92) (h:¬bAt s (i+1)=117/\¬bAt s (i+1)=112):Ps s i (i+2):=fun d hd=>by
 have e1:escN s (i+1)=i+1:=if_neg fun hh=>hh.2.elim h.1 h.2;have e:enS s d i=(d,i+1):=by unfold enS;rw[if_neg (by omega),if_neg (by omega),if_pos h0,e1]
 refine ⟨?_,znx (by omega) h0⟩
 rw[zc3 (by omega) (by rw[e];show ¬d=0;omega),e]
theorem brc_to {s:ByteArray}:∀ (n i:Nat),i+n<s.size->(∀ m,i<=m->m<i+n->¬bAt s m=125)->bAt s (i+n)=125->brc s i=i+n
 | 0,i,_,_,h=>brc_n fun hh=>hh.2 h
 | n+1,i,hn,h,h1=>by
  rw[<- brc_y (by omega) (h i (Nat.le_refl _) (by omega)),brc_to n (i+1) (by omega) (fun m hm hm2=>h m (by omega) (by omega)) (by rw[<- h1];congr 1;omega)];omega
theorem Ps.brc {s:ByteArray}{i n:Nat}(hn:i+2+n<s.size) (h0:bAt s i=92) (h1:bAt s (i+1)=117\/bAt s (i+1)=112) (h:∀ m,i+2<=m->m<i+2+n->Pln (bAt s m)/\¬bAt s m=125) (he:bAt s (i+2+n)=125):Ps s i (i+2+n+1):=fun d hd=>by
 have e1:escN s (i+1)=i+2+n:=by
  unfold escN;rw[if_pos ⟨by omega,h1⟩,brc_to (n+1) (i+1) (by omega) (fun m hm hm2=>?_) (by rw[<- he];congr 1;omega)]
  ·omega
  ·by_cases hm3:m=i+1
   ·subst hm3;omega
   ·exact (h m (by omega) (by omega)).2
 have e:enS s d i=(d,i+2+n):=by unfold enS;rw[if_neg (by omega),if_neg (by omega),if_pos h0,e1]
 refine ⟨?_,?_⟩
 ·rw[zc3 (by omega) (by rw[e];show ¬d=0;omega),e]
 ·rw[znx (by omega) h0];have h2:=Ps.run (s:=s) (n+1) (i+2) (by omega) fun m hm hm2=>by
   by_cases hm3:m=i+2+n
   ·subst hm3;rw[he];exact ⟨by decide,by decide,by decide⟩
   ·exact (h m hm (by omega)).1
  exact (h2 d hd).2
variable {o:Nat}{x s:ByteArray}
theorem Emb.at (h:Emb o x s) (hi:i<x.size):i+o<s.size/\bAt s (i+o)=bAt x i:=⟨by have:=h.sz;omega,h.b i hi⟩
theorem zoz {s:ByteArray}:∀ (n k m:Nat),k<=m->m<blkF s n k->bAt s m=32
 | 0,k,m,h1,h2=>by
  have:blkF s 0 k=k:=rfl;omega
 | n+1,k,m,h1,h2=>by
  rw[blkF] at h2;split at h2
  ·rename_i hk;by_cases hm:m=k
   ·subst hm;exact hk.2
   ·exact zoz n (k+1) m (by omega) h2
  ·omega
theorem bl_ps (h:Emb o x s) {P:PX}(hx:P.1.s=x):Ps s (P.1.k+o) ((blP P).1.k+o):=by
 subst hx;have h1:=vM P;have h2:=(blP P).2.2.1;have h3:=Ps.run (s:=s) ((blP P).1.k - P.1.k) (P.1.k+o) (by have:=h.sz;have:(blP P).1.k<=P.1.s.size:=h2;omega) fun m hm hm2=>by
  have h4:bAt P.1.s (m - o)=32:=zoz _ P.1.k (m - o) (by omega) (by show m - o<(blP P).1.k;omega)
  have h6:(blP P).1.k<=P.1.s.size:=h2;have h5:=(h.at (i:=m - o) (by omega)).2;rw[show m - o+o=m by omega] at h5;rw[h5,h4];exact ⟨by decide,by decide,by decide⟩
 rw[show P.1.k+o+((blP P).1.k - P.1.k)=(blP P).1.k+o by omega] at h3;exact h3
theorem digR_all:∀ (f:Nat) {p:PX}{c:Int}{n:Nat}{d:D}{r:PX},zd0 f p c n=.ok d r->∀ m,p.1.k<=m->m<r.1.k->zap (bAt p.1.s m)
 | 0,p,c,n,d,r,h=>by simp[zd0] at h
 | f+1,p,c,n,d,r,h=>by
  rw[zd0] at h;split at h
  ·rename_i hd;split at h
   ·simp at h
   ·intro m h1 h2;by_cases hm:m=p.1.k
    ·subst hm;have:=hd.2;rw[yE hd.1] at this;exact this
    ·exact digR_all f h m (by show p.1.k+1<=m;omega) h2
  ·split at h
   ·simp at h
   ·simp at h;intro m h1 h2;rw[<- h.2] at h2;omega
theorem wdF_all {s:ByteArray}:∀ (n k m:Nat),k<=m->m<wdF s n k->isW (bAt s m)
 | 0,k,m,h1,h2=>by
  have:wdF s 0 k=k:=rfl;omega
 | n+1,k,m,h1,h2=>by
  rw[wdF] at h2;split at h2
  ·rename_i hk;by_cases hm:m=k
   ·subst hm;exact hk.2
   ·exact wdF_all n (k+1) m (by omega) h2
  ·omega
theorem sp_no {b:Int}(h:spI b<0):Pln b:=by
 refine ⟨fun h0=>?_,fun h0=>?_,fun h0=>?_⟩ <;> · subst h0;revert h;decide +kernel
theorem sp_pu {b:Int}(h:b=32\/0<=spI b):¬b=117/\¬b=112:=by
 refine ⟨fun h0=>?_,fun h0=>?_⟩ <;> · subst h0;revert h;decide +kernel
theorem ok_k {b:Int}{P:PX}{d:D}(h:yc P b=.ok d q) (hb:0<=b):P.1.k<P.1.s.size/\bAt P.1.s P.1.k=b/\q.1.k=P.1.k+1/\q.1.s=P.1.s:=by
 obtain ⟨hk,h1,rfl⟩:=zco h;exact ⟨hk,(zI h1 hb).2,rfl,rfl⟩
theorem chr_ps (h:Emb o x s) {P:PX}(hx:P.1.s=x) {d:D}(hr:yD P ()=.ok d q):Ps s (P.1.k+o) (q.1.k+o):=by
 subst hx;unfold yD at hr;split at hr
 ·rename_i h92;obtain ⟨hk,hb⟩:=zI h92 (by decide)
  unfold yM at hr;split at hr
  ·rename_i h117;obtain ⟨hk1,hb1⟩:=zI h117 (by decide)
   split at hr
   ·rename_i d1 q1 he;split at hr
    ·rename_i c r hd;split at hr
     ·rename_i d2 t hf;simp at hr;obtain ⟨_,rfl⟩:=hr;obtain ⟨a1,a2,a3,a4⟩:=ok_k he (by decide)
      obtain ⟨b1,b2,b3,b4⟩:=ok_k hf (by decide)
      have a5:=digR_all 7 hd;have a6:=(digR_k 7 hd)
      have s1:q1.1.s=P.1.s:=a4;have s2:r.1.s=P.1.s:=a6.s.trans s1;have k1:q1.1.k=P.1.k+3:=a3;have a2:bAt P.1.s (P.1.k+2)=123:=a2;have b1:r.1.k<P.1.s.size:=by rw[<- s2];exact b1
      have hkr:=a6.k;have hb1:bAt P.1.s (P.1.k+1)=117:=hb1;have g0:=(h.at (i:=P.1.k) hk).2;have g1:=(h.at (i:=P.1.k+1) hk1).2;have g2:=h.at (i:=r.1.k) b1;rw[s2] at b2;have h8:=Ps.brc (s:=s) (i:=P.1.k+o) (n:=r.1.k - (P.1.k+2)) (by omega) (g0.trans hb) (.inl (by rw[show P.1.k+o+1=P.1.k+1+o by omega];exact g1.trans hb1)) (fun m hm hm2=>by
       have g3:=(h.at (i:=m - o) (by omega)).2;rw[show m - o+o=m by omega] at g3;rw[g3];by_cases hm3:m - o=P.1.k+2
       ·rw[hm3,a2];exact ⟨⟨by decide,by decide,by decide⟩,by decide⟩
       ·have:=a5 (m - o) (by omega) (by omega)
        rw[s1] at this;unfold zap at this;unfold Pln;omega) (by rw[show P.1.k+o+2+(r.1.k - (P.1.k+2))=r.1.k+o by omega];exact g2.2.trans b2)
      rw[show P.1.k+o+2+(r.1.k - (P.1.k+2))+1=t.1.k+o by omega] at h8;exact h8
     ·simp at hr
    ·simp at hr
   ·simp at hr
  ·split at hr
   ·rename_i hn hk1;simp at hr;obtain ⟨_,rfl⟩:=hr;have hk2:P.1.k+1<P.1.s.size:=hk1.1;have g0:=(h.at (i:=P.1.k) hk).2;have g1:=h.at (i:=P.1.k+1) hk2;have hv:pkV (adv P hk).1=bAt P.1.s (P.1.k+1):=yE hk1.1;have h8:=Ps.esc (s:=s) (i:=P.1.k+o) (by omega) (g0.trans hb) (by
     rw[show P.1.k+o+1=P.1.k+1+o by omega,g1.2,<- hv];exact sp_pu hk1.2)
    rw[show P.1.k+o+2=P.1.k+1+1+o by omega] at h8;exact h8
   ·simp at hr
 ·split at hr
  ·rename_i hk;simp at hr;obtain ⟨_,rfl⟩:=hr;have g:=h.at (i:=P.1.k) hk.1;have h8:=Ps.one (s:=s) (i:=P.1.k+o) g.1 (by rw[g.2,<- yE hk.1];exact sp_no hk.2.2.2)
   rw[show P.1.k+o+1=P.1.k+1+o by omega] at h8;exact h8
  ·simp at hr
structure ClsB (P q:PX):Prop where
 s:q.1.s=P.1.s
 k:P.1.k+3<q.1.k
 sz:q.1.k<=P.1.s.size
 b0:bAt P.1.s P.1.k=92
 b1:bAt P.1.s (P.1.k+1)=112
 b2:bAt P.1.s (P.1.k+2)=123
 mid:∀ m,P.1.k+3<=m->m+1<q.1.k->isW (bAt P.1.s m)\/bAt P.1.s m=61
 e:bAt P.1.s (q.1.k - 1)=125
theorem wrd_all {P:PX}{d:D}(h:xp P ()=.ok d q):q.1.s=P.1.s/\P.1.k<q.1.k/\∀ m,P.1.k<=m->m<q.1.k->isW (bAt P.1.s m):=by
 obtain ⟨h1,rfl,_⟩:=zar h;have h2:=(ze4 (s:=P.1.s) (P.1.s.size - P.1.k) P.1.k P.2.2.1).1;refine ⟨rfl,by show P.1.k<wdE P.1.s P.1.k;unfold wdE at h1 ⊢;omega,fun m hm hm2=>wdF_all _ P.1.k m hm hm2⟩
theorem cls_b {P q:PX}(h92:pkV P.1=92) (hr:zV P=.ok L q):ClsB P q:=by
 obtain ⟨hk,hb⟩:=zI h92 (by decide)
 unfold zV at hr;rw[dif_pos hk] at hr;split at hr
 ·simp at hr
 ·rename_i d1 q1 h1;split at hr
  ·simp at hr
  ·rename_i d2 q2 h2;obtain ⟨a1,a2,a3,a4⟩:=ok_k h1 (by decide)
   obtain ⟨b1,b2,b3,b4⟩:=ok_k h2 (by decide)
   have a2:bAt P.1.s (P.1.k+1)=112:=a2;have a3:q1.1.k=P.1.k+2:=a3;have a4:q1.1.s=P.1.s:=a4;rw[a4,a3] at b2;rw[a3] at b3;rw[a4] at b4;unfold clsN at hr;split at hr
   ·simp at hr
   ·rename_i d3 q3 h3;obtain ⟨c1,c2,c3⟩:=wrd_all h3;rw[b4] at c1 c3;rw[b3] at c2 c3;split at hr
    ·rename_i h61;obtain ⟨e1,e2⟩:=zI h61 (by decide)
     rw[c1] at e1 e2;unfold clsV at hr;split at hr
     ·simp at hr
     ·rename_i d5 q5 h5;obtain ⟨_,rfl,_⟩:=uS h5;split at hr
      ·simp at hr
      ·rename_i d6 q6 h6;obtain ⟨f1,f2,f3⟩:=wrd_all h6;have f1:q6.1.s=P.1.s:=f1.trans c1;have f2:q3.1.k+1<q6.1.k:=f2;split at hr
       ·simp at hr
       ·rename_i d7 q7 h7;obtain ⟨g1,g2,g3,g4⟩:=ok_k h7 (by decide)
        rw[f1] at g1 g2 g4;split at hr
        ·simp at hr;obtain ⟨_,rfl⟩:=hr;refine ⟨g4,by omega,by omega,hb,a2,b2,fun m hm hm2=>?_,by rw[g3];exact g2⟩
         by_cases m1:m<q3.1.k
         ·exact .inl (c3 m (by omega) m1)
         ·by_cases m2:m=q3.1.k
          ·exact .inr (by rw[m2];exact e2)
          ·have:=f3 m (by show q3.1.k+1<=m;omega) (by omega)
           rw[show (ckd (adv q3 (by rw[c1];exact e1))).1.s=P.1.s from c1] at this;exact .inl this
        ·simp at hr
    ·unfold clsS at hr;split at hr
     ·simp at hr
     ·rename_i d4 q4 h4;obtain ⟨g1,g2,g3,g4⟩:=ok_k h4 (by decide)
      rw[c1] at g1 g2 g4;split at hr
      ·simp at hr
      ·rename_i d5 q5 h5;simp at hr;obtain ⟨_,rfl⟩:=hr;obtain ⟨_,rfl,_⟩:=uS h5;have g3:(ckd q4).1.k=q3.1.k+1:=g3;refine ⟨g4,by omega,by omega,hb,a2,b2,fun m hm hm2=>.inl (c3 m (by omega) (by omega)),by rw[g3];exact g2⟩
theorem cls_ps (h:Emb o x s) {P:PX}(hx:P.1.s=x) (c:ClsB P q):Ps s (P.1.k+o) (q.1.k+o):=by
 subst hx;have c1:=c.k;have c2:=c.sz;have g0:=(h.at (i:=P.1.k) (by omega)).2;have g1:=(h.at (i:=P.1.k+1) (by omega)).2;have g2:=h.at (i:=q.1.k - 1) (by omega)
 have h8:=Ps.brc (s:=s) (i:=P.1.k+o) (n:=q.1.k - 1 - (P.1.k+2)) (by omega) (g0.trans c.b0) (.inr (by rw[show P.1.k+o+1=P.1.k+1+o by omega];exact g1.trans c.b1)) (fun m hm hm2=>by
  have g3:=(h.at (i:=m - o) (by omega)).2;rw[show m - o+o=m by omega] at g3;rw[g3];by_cases hm3:m - o=P.1.k+2
  ·rw[hm3,c.b2];exact ⟨⟨by decide,by decide,by decide⟩,by decide⟩
  ·rcases c.mid (m - o) (by omega) (by omega) with this|this
   ·unfold isW at this;unfold Pln;omega
   ·rw[this];exact ⟨⟨by decide,by decide,by decide⟩,by decide⟩) (by rw[show P.1.k+o+2+(q.1.k - 1 - (P.1.k+2))=q.1.k - 1+o by omega];exact g2.2.trans c.e)
 rw[show P.1.k+o+2+(q.1.k - 1 - (P.1.k+2))+1=q.1.k+o by omega] at h8;exact h8
theorem zmy (h:Emb o x s) {P:PX}(hx:P.1.s=x) (hk:P.1.k<P.1.s.size) (hb:Pln (pkV P.1)):Ps s (P.1.k+o) ((adv P hk).1.k+o):=by
 subst hx;have g:=h.at (i:=P.1.k) hk;have h8:=Ps.one (s:=s) (i:=P.1.k+o) g.1 (by rw[g.2,<- yE hk];exact hb)
 rw[show P.1.k+o+1=P.1.k+1+o by omega] at h8;exact h8
theorem itm_ps (h:Emb o x s) {P:PX}(hx:P.1.s=x) (hr:xh P=.ok L q):Ps s (P.1.k+o) (q.1.k+o):=by
 unfold xh at hr;split at hr
 ·rename_i hp;have:=zca hp;exact cls_ps h hx (cls_b ((yE (by omega)).trans this.2.1) hr)
 ·split at hr
  ·simp at hr
  ·rename_i d q1 hc;have h1:=chr_ps h hx hc;have x1:q1.1.s=x:=(zcp hc).1.s.trans hx;have h2:=h1.trans (bl_ps h x1)
   have x2:(blP q1).1.s=x:=x1;unfold itmC at hr;split at hr
   ·rename_i h45;obtain ⟨hk,_⟩:=zI h45.1 (by decide)
    have h3:=h2.trans (zmy h x2 hk (by rw[h45.1];exact ⟨by decide,by decide,by decide⟩))
    have x3:(adv (blP q1) hk).1.s=x:=x2;have h4:=h3.trans (bl_ps h x3)
    have x4:(blP (adv (blP q1) hk)).1.s=x:=x2;unfold itmP at hr;split at hr
    ·simp at hr
    ·rename_i d2 r hc2;split at hr
     ·simp at hr
     ·simp at hr;obtain ⟨_,rfl⟩:=hr;exact h4.trans (chr_ps h x4 hc2)
   ·simp at hr;obtain ⟨_,rfl⟩:=hr;exact h2
structure GrpB (o:Nat) (x s:ByteArray) (i:Nat) (q:PX):Prop where
 c:∃ c,q.1.k=c+1/\c<x.size/\bAt x c=93/\Ps s (i+o) (c+o)
def RunPs (o:Nat) (x s:ByteArray) (run:PX->OutL):Prop:=∀ P:PX,P.1.s=x->pkV P.1=91->∀ L q,run P=.ok L q->GrpB o x s (P.1.k+1) q
theorem grp_ps (h:Emb o x s) (hi:i<x.size) (h91:bAt x i=91) (g:GrpB o x s (i+1) q):Ps s (i+o) (q.1.k+o):=fun d hd=>by
 obtain ⟨c,c1,c2,c3,c4⟩:=g.c;have a:=h.at hi;have b:=h.at c2;have h1:=c4 (d+1) (by omega)
 have e1:enS s d (i+o)=(d+1,i+o):=if_pos (a.2.trans h91)
 have e2:enS s (d+1) (c+o)=(d,c+o):=by
  unfold enS;rw[if_neg (by rw[b.2,c3];decide),if_pos (b.2.trans c3),show d+1 - 1=d by omega]
 refine ⟨?_,?_⟩
 ·rw[zc3 a.1 (by rw[e1];show ¬d+1=0;omega),e1];dsimp only;rw[show i+o+1=i+1+o by omega,h1.1,zc3 b.1 (by rw[e2];show ¬d=0;omega),e2];dsimp only;rw[c1,show c+o+1=c+1+o by omega]
 ·rw[zfw a.1 (a.2.trans h91),show i+o+1=i+1+o by omega,h1.2,grE_cls b.1 (b.2.trans c3) (by omega),show d+1 - 1=d by omega,c1,show c+o+1=c+1+o by omega]
theorem grp_end (h:Emb o x s) (hi:i<x.size) (h91:bAt x i=91) (g:GrpB o x s (i+1) q):enG s 0 (i+o)=q.1.k+o/\grE s (i+o) 0=(q.1.k+o,true):=by
 obtain ⟨c,c1,c2,c3,c4⟩:=g.c;have a:=h.at hi;have b:=h.at c2;have h1:=c4 1 (by omega)
 have e1:enS s 0 (i+o)=(1,i+o):=if_pos (a.2.trans h91)
 have e2:enS s 1 (c+o)=(0,c+o):=by
  unfold enS;rw[if_neg (by rw[b.2,c3];decide),if_pos (b.2.trans c3)];rfl
 refine ⟨?_,?_⟩
 ·rw[zc3 a.1 (by rw[e1];show ¬(1:Int)=0;decide),e1];dsimp only;rw[show i+o+1=i+1+o by omega,h1.1,zg7 b.1 (by rw[e2]),e2];dsimp only;omega
 ·rw[zfw a.1 (a.2.trans h91),show i+o+1=i+1+o by omega,show (0:Int)+1=1 from rfl,h1.2,grE_end b.1 (b.2.trans c3) (by decide),c1,show c+o+1=c+1+o by omega]
theorem opd_ps (h:Emb o x s) {run:PX->OutL}(hg:RunPs o x s run) {P:PX}(hx:P.1.s=x) (hr:yA run P=.ok L q):Ps s (P.1.k+o) (q.1.k+o):=by
 unfold yA at hr;split at hr
 ·rename_i h91;obtain ⟨hk,hb⟩:=zI h91 (by decide)
  rw[hx] at hk hb;exact grp_ps h hk hb (hg P hx h91 L q hr)
 ·split at hr
  ·rename_i h92;exact cls_ps h hx (cls_b h92 hr)
  ·simp at hr
theorem zde (h:Emb o x s) {run:PX->OutL}(hok:RunOk run) (hg:RunPs o x s run) {neg:Bool}:∀ (f:Nat) {P q:PX}{S I L:List Rg},P.1.s=x->zdt run neg f P S I=.ok L q->GrpB o x s P.1.k q
 | 0,P,q,S,I,L,_,hr=>by simp[zdt] at hr
 | f+1,P,q,S,I,L,hx,hr=>by
  have h1:=bl_ps h hx;have x1:(blP P).1.s=x:=hx;have go:∀ {p2:PX},Ps s ((blP P).1.k+o) (p2.1.k+o)->GrpB o x s p2.1.k q->GrpB o x s P.1.k q:=fun h2 g=>by
   obtain ⟨c,c1,c2,c3,c4⟩:=g.c;exact ⟨⟨c,c1,c2,c3,h1.trans (h2.trans c4)⟩⟩
  rw[zdt] at hr;split at hr
  ·rename_i h93;obtain ⟨hk,hb⟩:=zI h93 (by decide)
   simp at hr;obtain ⟨_,rfl⟩:=hr;rw[x1] at hk hb;exact ⟨⟨(blP P).1.k,rfl,hk,hb,h1⟩⟩
  ·split at hr
   ·rename_i h45;obtain ⟨hk,_⟩:=zI h45 (by decide)
    split at hr
    ·rename_i h452;obtain ⟨hk2,_⟩:=zI h452 (by decide)
     split at hr
     ·simp at hr
     ·rename_i L1 q1 he;have w:=ye hok he;have p1:=zmy h x1 hk (by rw[h45];exact ⟨by decide,by decide,by decide⟩)
      have p2:=zmy h (P:=adv (blP P) hk) x1 hk2 (by rw[h452];exact ⟨by decide,by decide,by decide⟩)
      have p3:=bl_ps h (P:=adv (adv (blP P) hk) hk2) x1;exact go (p1.trans (p2.trans (p3.trans (opd_ps h hg (P:=blP (adv (adv (blP P) hk) hk2)) x1 he)))) (zde h hok hg f (w.s.trans x1) hr)
    ·simp at hr
   ·split at hr
    ·rename_i h38;obtain ⟨hk,_⟩:=zI h38 (by decide)
     split at hr
     ·simp at hr
     ·rename_i L1 q1 he;have w:=ye hok he;have p1:=zmy h x1 hk (by rw[h38];exact ⟨by decide,by decide,by decide⟩)
      have p3:=bl_ps h (P:=adv (blP P) hk) x1;exact go (p1.trans (p3.trans (opd_ps h hg (P:=blP (adv (blP P) hk)) x1 he))) (zde h hok hg f (w.s.trans x1) hr)
    ·split at hr
     ·rename_i h91;split at hr
      ·simp at hr
      ·rename_i L1 q1 he;have w:=hok _ _ _ h91 he;obtain ⟨hk,hb⟩:=zI h91 (by decide)
       rw[x1] at hk hb;exact go (grp_ps h hk hb (hg _ x1 h91 L1 q1 he)) (zde h hok hg f (w.s.trans x1) hr)
     ·split at hr
      ·simp at hr
      ·rename_i L1 q1 he;have w:=xy he;exact go (itm_ps h x1 he) (zde h hok hg f (w.s.trans x1) hr)
theorem grp_b (h:Emb o x s):∀ n,RunPs o x s (zB n)
 | 0=>fun P _ _ L q hr=>by simp[zB] at hr
 | n+1=>fun P hx h91 L q hr=>by
  obtain ⟨hk,_⟩:=zI h91 (by decide)
  rw[zB,dif_pos hk] at hr;have x1:(blP (adv P hk)).1.s=x:=hx;have h1:=bl_ps h (P:=adv P hk) hx;split at hr
  ·rename_i h94;obtain ⟨hk2,_⟩:=zI h94 (by decide)
   have h2:=zmy h x1 hk2 (by rw[h94];exact ⟨by decide,by decide,by decide⟩)
   obtain ⟨c,c1,c2,c3,c4⟩:=(zde h (zQ n) (grp_b h n) _ (P:=adv (blP (adv P hk)) hk2) hx hr).c;exact ⟨⟨c,c1,c2,c3,h1.trans (h2.trans c4)⟩⟩
  ·obtain ⟨c,c1,c2,c3,c4⟩:=(zde h (zQ n) (grp_b h n) _ (P:=blP (adv P hk)) hx hr).c;exact ⟨⟨c,c1,c2,c3,h1.trans c4⟩⟩
def hxS (s:ByteArray):Nat->Nat->Nat->Int->Nat × Nat × Int
 | 0,k,n,c=>(k,n,c)
 | f+1,k,n,c=>if k<s.size/\0<=xR (bAt s k) then hxS s f (k+1) (n+1) (16*c+xR (bAt s k)) else (k,n,c)
def hxG (s:ByteArray) (k n:Nat) (c:Int):Nat × Nat × Int:=hxS s (7 - n) k n c
theorem hxG_y {s:ByteArray}{k n:Nat}(hn:n<7) (h:k<s.size/\0<=xR (bAt s k)):hxG s k n c=hxG s (k+1) (n+1) (16*c+xR (bAt s k)):=by
 unfold hxG;rw[show 7 - n=(7 - (n+1))+1 by omega,hxS,if_pos h]
theorem hxG_n {s:ByteArray}{k n:Nat}(h:¬(n<7/\k<s.size/\0<=xR (bAt s k))):hxG s k n c=(k,n,c):=by
 unfold hxG;cases hf:7 - n with
 | zero=>rfl
 | succ f=>rw[hxS,if_neg fun hh=>h ⟨by omega,hh⟩]
theorem valV_bd (b:Int): -1<=xR b/\xR b<=15:=by
 unfold xR;split
 ·omega
 ·split<;>omega
theorem pw7:∀ n:Nat,n<=7->(16:Int) ^ n<=268435456
 | 0,_|1,_|2,_|3,_|4,_|5,_|6,_|7,_=>by decide
 | n+8,h=>by omega
theorem zh6 {s:ByteArray}(h:k<s.size):bAt s k=((s.data.toList[k]'h).toNat:Int):=by
 unfold bAt;rw[List.getElem?_eq_getElem h];rfl
theorem cut_eq {s t:ByteArray}(h:k+t.size<=s.size):zN s k (k+t.size)=t↔∀ j,j<t.size->bAt s (k+j)=bAt t j:=by
 have h':k+t.size<=s.data.toList.length:=h;have hl:((s.data.toList.take (k+t.size)).drop k).length=t.data.toList.length:=by
  rw[List.length_drop,List.length_take];have:t.size=t.data.toList.length:=rfl;omega
 constructor
 ·intro e j hj;have e1:(s.data.toList.take (k+t.size)).drop k=t.data.toList:=congrArg (fun x=>x.data.toList) e;unfold bAt;rw[<- e1,List.getElem?_drop,List.getElem?_take,if_pos (by omega)]
 ·intro e;have e1:(s.data.toList.take (k+t.size)).drop k=t.data.toList:=List.ext_getElem hl fun j h1 h2=>by
   have h3:=e j h2;have h2':j<t.size:=h2;rw[zh6 (show k+j<s.size by omega),zh6 h2'] at h3;rw[List.getElem_drop,List.getElem_take];exact UInt8.toNat_inj.1 (Int.ofNat.inj h3)
  show (⟨⟨(s.data.toList.take (k+t.size)).drop k⟩⟩:ByteArray)=t;rw[e1]
theorem nx_true {t:ByteArray}:nxB p t=true↔p.bad=false/\p.k+t.size<=p.s.size/\∀ j,j<t.size->bAt p.s (p.k+j)=bAt t j:=by
 unfold nxB;simp only[Bool.and_eq_true,Bool.not_eq_true',decide_eq_true_iff];constructor
 ·rintro ⟨h1,h2,h3⟩
  exact ⟨h1,h2,(cut_eq h2).1 h3⟩
 ·rintro ⟨h1,h2,h3⟩
  exact ⟨h1,h2,(cut_eq h2).2 h3⟩
theorem zea:nxB p ⟨#[b]⟩=true↔p.bad=false/\p.k<p.s.size/\bAt p.s p.k=(b.toNat:Int):=by
 rw[nx_true];constructor
 ·rintro ⟨h1,h2,h3⟩
  exact ⟨h1,h2,h3 0 Nat.zero_lt_one⟩
 ·rintro ⟨h1,h2,h3⟩
  refine ⟨h1,h2,fun j hj=>?_⟩
  have hj:j<1:=hj;obtain rfl:j=0:=by omega
  exact h3
theorem zi1 {a b c:UInt8}:nxB p ⟨#[a,b,c]⟩=true↔p.bad=false/\p.k+3<=p.s.size/\bAt p.s p.k=(a.toNat:Int)/\bAt p.s (p.k+1)=(b.toNat:Int)/\bAt p.s (p.k+2)=(c.toNat:Int):=by
 rw[nx_true];constructor
 ·rintro ⟨h1,h2,h3⟩
  exact ⟨h1,h2,h3 0 (by show 0<3;omega),h3 1 (by show 1<3;omega),h3 2 (by show 2<3;omega)⟩
 ·rintro ⟨h1,h2,h3,h4,h5⟩
  refine ⟨h1,h2,fun j hj=>?_⟩
  have hj:j<3:=hj
  match j,hj with
  | 0,_=>exact h3
  | 1,_=>exact h4
  | 2,_=>exact h5
def uTx:ByteArray:=⟨#[92,117,123]⟩
def cTx:ByteArray:=⟨#[125]⟩
def escF (p:FSt) (z:Nat × Nat × Int):Int × FSt :=
 (z.2.2,⟨p.db,p.s,z.1+1,p.bad||(decide (z.2.1<1)||(decide (z.2.1>6)||(decide (z.2.2>1114111) || !nxB (p.at z.1) cTx)))⟩)
def escQ (bad:Bool) (n:Nat) (c:Int) (nx:Bool):Bool:=bad||(decide (n<1)||(decide (n>6)||(decide (c>1114111) || !nx)))
theorem escQ_1 (h:n<1):escQ false n c nx=true:=by
 unfold escQ;rw[decide_eq_true h];rfl
theorem escQ_2 (h:n>6):escQ false n c nx=true:=by
 unfold escQ;rw[decide_eq_true h];simp
theorem escQ_3 (h:c>1114111):escQ false n c nx=true:=by
 unfold escQ;rw[decide_eq_true h];simp
theorem fin_q {s:ByteArray}{j n:Nat}{v:Bool}(h:escQ false n c (nxB ⟨db,s,j,false⟩ cTx)=v):fC ⟨db,s,j+1,v⟩=fC ⟨db,s,j+1,false||(decide (n<1)||(decide (n>6)||(decide (c>1114111) || !nxB ⟨db,s,j,false⟩ cTx)))⟩:=by
 rw[<- h];rfl
def vf (p:FSt):Int × FSt :=
 if p.k<p.s.size/\isL (bAt p.s p.k) then (bAt p.s p.k,p.at (p.k+1))
 else if nxB p uTx=true then escF p (hxG p.s (p.k+3) 0 0) else (-1,p)
def HOk (p:FSt):Prop:=SmD p.db/\p.k<=p.s.size+1/\p.s.size<=990
theorem HOk.xk (h:HOk p):OkF p:=⟨h.1,by have:=h.2.1;omega,by have:=h.2.2;omega⟩
def zbj (p:FSt) (cl:Bool):ByteArray:=if cl=true then yt (yt lbS (zN p.s p.k (min (enG p.s 0 p.k) p.s.size))) rbS else zN p.s p.k (min (enG p.s 0 p.k) p.s.size)
def zkg (p:FSt) (r:List Rg × Int × Int):(List Rg × Bool) × FSt:=if r.2.1=0 then ((r.1,true),⟨p.db,p.s,min (enG p.s 0 p.k) p.s.size,false⟩) else ((r.1,false),⟨p.db,p.s,min (enG p.s 0 p.k) p.s.size,true⟩)
def eleC (c:Int × FSt):(List Rg × Bool) × FSt:=if c.1<0\/c.2.bad=true then (([],false),c.2) else ((canon [(c.1,c.1)],true),c.2)
noncomputable def zaa (p:FSt):(List Rg × Bool) × FSt :=
 if p.bad=true then (([],false),p)
 else if nxB p lbS=false/\nxB p zcf=false then eleC (vf p)
 else zkg p (zcc p.db (zbj p (nxB p zcf)))
theorem enF_le {s:ByteArray}:∀ (n:Nat) (d:Int) (i:Nat),i<=enF s n d i
 | 0,d,i=>Nat.le_refl _
 | n+1,d,i=>by
  rw[enF];split
  ·rename_i hi;have h1:=(enS_le (d:=d) hi).1;split
   ·omega
   ·have:=enF_le (s:=s) n (enS s d i).1 ((enS s d i).2+1)
    omega
  ·exact Nat.le_refl _
theorem enG_lt {s:ByteArray}{d:Int}(hi:i<s.size):i<enG s d i:=by
 have h1:=(enS_le (d:=d) hi).1;by_cases h:(enS s d i).1=0
 ·rw[zg7 hi h];omega
 ·rw[zc3 hi h];have:=enF_le (s:=s) (s.size - ((enS s d i).2+1)) (enS s d i).1 ((enS s d i).2+1)
  unfold enG;omega
theorem hxS_k {s:ByteArray}:∀ (f k n:Nat) (c:Int),k<=s.size->k<=(hxS s f k n c).1/\(hxS s f k n c).1<=s.size
 | 0,k,n,c,h=>⟨Nat.le_refl _,h⟩
 | f+1,k,n,c,h=>by
  rw[hxS];split
  ·rename_i hk;have:=hxS_k f (k+1) (n+1) (16*c+xR (bAt s k)) hk.1;omega
  ·exact ⟨Nat.le_refl _,h⟩
theorem codF_h (h:HOk p):HOk (vf p).2/\(vf p).2.s=p.s/\(vf p).2.db=p.db/\p.k<=(vf p).2.k/\((vf p).1<0->(vf p).2=p)/\(0<=(vf p).1->p.k<(vf p).2.k):=by
 obtain ⟨h1,h2,h3⟩:=h;unfold vf;split
 ·rename_i hk;have hl:=hk.2;unfold isL at hl;exact ⟨⟨h1,(by show p.k+1<=p.s.size+1;omega),h3⟩,rfl,rfl,Nat.le_succ _,fun hh=>by have hh:bAt p.s p.k<0:=hh;omega,fun _=>Nat.lt_succ_self _⟩
 ·split
  ·rename_i hn;have hk3:p.k+3<=p.s.size:=(zi1.1 hn).2.1;have hx:=hxS_k (s:=p.s) 7 (p.k+3) 0 0 hk3;have hx:p.k+3<=(hxG p.s (p.k+3) 0 0).1/\(hxG p.s (p.k+3) 0 0).1<=p.s.size:=hx
   have hc:0<=(hxG p.s (p.k+3) 0 0).2.2:=by
    have:∀ (f k n:Nat) (c:Int),0<=c->0<=(hxS p.s f k n c).2.2:=by
     intro f
     induction f with
     | zero=>exact fun k n c h=>h
     | succ f ih =>
      intro k n c h;rw[hxS];split
      ·exact ih _ _ _ (by omega)
      ·exact h
    exact this 7 (p.k+3) 0 0 (by decide)
   refine ⟨⟨h1,?_,h3⟩,rfl,rfl,?_,fun hh=>?_,fun _=>?_⟩
   ·show (hxG p.s (p.k+3) 0 0).1+1<=p.s.size+1;omega
   ·show p.k<=(hxG p.s (p.k+3) 0 0).1+1;omega
   ·have hh:(hxG p.s (p.k+3) 0 0).2.2<0:=hh;omega
   ·show p.k<(hxG p.s (p.k+3) 0 0).1+1;omega
  ·exact ⟨⟨h1,h2,h3⟩,rfl,rfl,Nat.le_refl _,fun _=>rfl,fun hh=>absurd hh (show ¬(0:Int) <= -1 by decide)⟩
def bl0 (p:FSt):FSt:=p.at (blk p.s p.k)
theorem bl0_h (h:HOk p):HOk (bl0 p)/\p.k<=(bl0 p).k:=by
 obtain ⟨h1,h2,h3⟩:=h;by_cases hk:p.k<=p.s.size
 ·have:=zae (s:=p.s) (p.s.size - p.k) p.k hk;exact ⟨⟨h1,(by show blk p.s p.k<=p.s.size+1;unfold blk;omega),h3⟩,this.1⟩
 ·have e:blk p.s p.k=p.k:=yz fun hh=>hk (Nat.le_of_lt hh.1)
  exact ⟨⟨h1,(by show blk p.s p.k<=p.s.size+1;rw[e];exact h2),h3⟩,by show p.k<=blk p.s p.k;rw[e];exact Nat.le_refl _⟩
theorem eleF_h (h:HOk p):HOk (zaa p).2/\(zaa p).2.s=p.s/\(zaa p).2.db=p.db/\p.k<=(zaa p).2.k/\((zaa p).1.2=true->p.k<(zaa p).2.k):=by
 unfold zaa;split
 ·exact ⟨h,rfl,rfl,Nat.le_refl _,fun hh=>absurd hh (show ¬false=true by decide)⟩
 ·split
  ·obtain ⟨a1,a2,a3,a4,a5,a6⟩:=codF_h h;unfold eleC;split
   ·exact ⟨a1,a2,a3,a4,fun hh=>absurd hh (show ¬false=true by decide)⟩
   ·rename_i hn;exact ⟨a1,a2,a3,a4,fun _=>a6 (Int.not_lt.1 fun hh=>hn (.inl hh))⟩
  ·rename_i hn;have hk:p.k<p.s.size:=by
    cases h1:nxB p lbS with
    | true=>exact (zea.1 h1).2.1
    | false =>
     cases h2:nxB p zcf with
     | true=>have:=(zi1.1 h2).2.1;omega
     | false=>exact absurd ⟨h1,h2⟩ hn
   have he:=enG_lt (s:=p.s) (d:=0) hk;have h4:p.k<min (enG p.s 0 p.k) p.s.size:=by omega
   have h5:min (enG p.s 0 p.k) p.s.size<=p.s.size:=Nat.min_le_right _ _;unfold zkg;split
   ·exact ⟨⟨h.1,(by show min (enG p.s 0 p.k) p.s.size<=p.s.size+1;omega),h.2.2⟩,rfl,rfl,Nat.le_of_lt h4,fun _=>h4⟩
   ·exact ⟨⟨h.1,(by show min (enG p.s 0 p.k) p.s.size<=p.s.size+1;omega),h.2.2⟩,rfl,rfl,Nat.le_of_lt h4,fun _=>h4⟩
noncomputable def zoi:Nat->FSt->List (List Rg)->List (List Rg) × FSt
 | 0,p,L=>(L,p)
 | f+1,p,L=>if p.bad=true then (L,p) else if (zaa (bl0 p)).1.2=true then zoi f (zaa (bl0 p)).2 (L++[(zaa (bl0 p)).1.1]) else (L,(zaa (bl0 p)).2)
noncomputable def zec (p:FSt):List (List Rg) × FSt:=zoi (p.s.size+3) p []
def dlT:ByteArray:=⟨#[36]⟩
def opT:ByteArray:=⟨#[123]⟩
def clT:ByteArray:=⟨#[125]⟩
def gtT:ByteArray:=⟨#[62]⟩
def pcN (p:FSt):Int:=if p.k+1<p.s.size then bAt p.s (p.k+1) - 48 else -1
def pcD (p:FSt):FSt:=⟨p.db,p.s,p.k+2,decide (pcN p<1\/8<pcN p)⟩
def zbq:Nat->FSt->List Rg->List Rg × FSt
 | 0,p,L=>(L,p)
 | f+1,p,L=>if p.bad=true then (L,p) else
  if nxB (bl0 p) dlT=true then zbq f (pcD (bl0 p)) (L++[(0,pcN (bl0 p))])
  else if (vf (bl0 p)).1<0 then (L,(vf (bl0 p)).2) else zbq f (vf (bl0 p)).2 (L++[((vf (bl0 p)).1,0)])
def pcsR (p:FSt):List Rg × FSt:=zbq (p.s.size+3) p []
def rulE (B M A:List (List Rg)) (p:FSt):Tl × FSt :=
 if p.bad=true\/nxB p gtT=false then (⟨B,M,A,[]⟩,⟨p.db,p.s,p.k+1,true⟩)
 else (⟨B,M,A,(pcsR (p.at (p.k+1))).1⟩,⟨p.db,p.s,(pcsR (p.at (p.k+1))).2.k,(pcsR (p.at (p.k+1))).2.bad||decide (¬(pcsR (p.at (p.k+1))).2.k=p.s.size)⟩)
noncomputable def rulA (B M:List (List Rg)) (p:FSt):Tl × FSt:=if nxB p clT=true then rulE B M (zec (p.at (p.k+1))).1 (zec (p.at (p.k+1))).2 else rulE B M [] p
noncomputable def rulF (p:FSt):Tl × FSt:=if nxB (zec p).2 opT=true then rulA (zec p).1 (zec ((zec p).2.at ((zec p).2.k+1))).1 (zec ((zec p).2.at ((zec p).2.k+1))).2 else rulA [] (zec p).1 (zec p).2
structure Lin (o:Nat) (t s:ByteArray):Prop where
 e:Emb o t s
 bl:∀ i,t.size+o<=i->i<s.size->bAt s i=32
 last:0<t.size->¬bAt t (t.size - 1)=32
variable {o:Nat}{t s:ByteArray}
def f0 (o:Nat) (s:ByteArray) (P:RX):FSt:=⟨P.1.db,s,P.1.k+o,false⟩
theorem Lin.by (h:Lin o t s) {i:Nat}{b:Int}(hb:¬b=32):(i+o<s.size/\bAt s (i+o)=b)↔(i<t.size/\bAt t i=b):=by
 have h1:=h.e.sz;constructor
 ·rintro ⟨h2,h3⟩
  by_cases hi:i<t.size
  ·exact ⟨hi,by rw[<- h.e.b i hi];exact h3⟩
  ·have:=h.bl (i+o) (by omega) h2;exact absurd (h3.symm.trans this) hb
 ·rintro ⟨h2,h3⟩
  exact ⟨by omega,(h.e.b i h2).trans h3⟩
theorem zi2 {b:Int}(hb:¬b=0):nxV P.1=b↔(P.1.k<P.1.s.size/\bAt P.1.s P.1.k=b):=by
 constructor
 ·exact fun h=>un h hb
 ·rintro ⟨h1,h2⟩
  rw[zaz h1,h2]
theorem nx1 (h:Lin o t s) (hP:P.1.s=t) (hb:¬b=32) (h0:¬b=0):nxB (f0 o s P) ⟨#[b]⟩=true↔nxV P.1=(b.toNat:Int):=by
 have e32:¬(b.toNat:Int)=32:=fun hh=>hb (UInt8.toNat_inj.1 (by show b.toNat=32;omega))
 have e0:¬(b.toNat:Int)=0:=fun hh=>h0 (UInt8.toNat_inj.1 (by show b.toNat=0;omega))
 rw[zea,zi2 e0,hP];constructor
 ·rintro ⟨_,h2,h3⟩
  exact (h.by e32).1 ⟨h2,h3⟩
 ·intro hh;exact ⟨rfl,(h.by e32).2 hh⟩
theorem nx3 (h:Lin o t s) (hP:P.1.s=t) {a b c:UInt8}(ha:¬a=32) (hb:¬b=32) (hc:¬c=32):nxB (f0 o s P) ⟨#[a,b,c]⟩=true↔(P.1.k+2<t.size/\bAt t P.1.k=(a.toNat:Int)/\bAt t (P.1.k+1)=(b.toNat:Int)/\bAt t (P.1.k+2)=(c.toNat:Int)):=by
 have en:∀ x:UInt8,¬x=32->¬(x.toNat:Int)=32:=fun x hx hh=>hx (UInt8.toNat_inj.1 (by show x.toNat=32;omega))
 rw[zi1];show (false=false/\P.1.k+o+3<=s.size/\bAt s (P.1.k+o)=_/\bAt s (P.1.k+o+1)=_/\bAt s (P.1.k+o+2)=_)↔_;rw[show P.1.k+o+1=P.1.k+1+o by omega,show P.1.k+o+2=P.1.k+2+o by omega];constructor
 ·rintro ⟨_,h2,h3,h4,h5⟩
  obtain ⟨g1,g2⟩:=(h.by (en c hc)).1 ⟨show P.1.k+2+o<s.size by omega,h5⟩
  exact ⟨g1,((h.by (en a ha)).1 ⟨by omega,h3⟩).2,((h.by (en b hb)).1 ⟨by omega,h4⟩).2,g2⟩
 ·rintro ⟨h2,h3,h4,h5⟩
  obtain ⟨g1,g2⟩:=(h.by (en c hc)).2 ⟨h2,h5⟩
  exact ⟨rfl,by omega,((h.by (en a ha)).2 ⟨by omega,h3⟩).2,((h.by (en b hb)).2 ⟨by omega,h4⟩).2,g2⟩
theorem zoy {s:ByteArray}:∀ (n k:Nat),s.size - k=n->k<=s.size->(∀ i,k<=i->i<s.size->bAt s i=32)->blk s k=s.size
 | 0,k,hn,hk,_=>by rw[yz fun hh=>by omega];omega
 | n+1,k,hn,hk,h=>by rw[<- uI (by omega) (h k (Nat.le_refl _) (by omega))];exact zoy n (k+1) (by omega) (by omega) fun i hi hi2=>h i (by omega) hi2
theorem blk_in (h:Lin o t s):∀ (n k:Nat),t.size - k=n->k<t.size->blk t k<t.size/\blk s (k+o)=blk t k+o
 | 0,k,hn,hk=>by omega
 | n+1,k,hn,hk=>by
  have h1:=h.e.at hk;by_cases h32:bAt t k=32
  ·have hk1:k+1<t.size:=by
    rcases Nat.lt_or_ge (k+1) t.size with hh|hh
    ·exact hh
    ·exact absurd (by rw[show t.size - 1=k by omega];exact h32) (h.last (by omega))
   rw[<- uI hk h32,<- uI h1.1 (h1.2.trans h32),show k+o+1=k+1+o by omega];exact blk_in h n (k+1) (by omega) hk1
  ·rw[yz fun hh=>h32 hh.2,yz fun hh=>h32 (h1.2.symm.trans hh.2)];exact ⟨hk,rfl⟩
theorem bl_cases (h:Lin o t s) (hP:P.1.s=t) (hk:P.1.k<=t.size):((blR P).1.k<t.size/\bl0 (f0 o s P)=f0 o s (blR P))\/(P.1.k=t.size/\blR P=P/\bl0 (f0 o s P)=⟨P.1.db,s,s.size,false⟩):=by
 have h1:=h.e.sz;by_cases hlt:P.1.k<t.size
 ·obtain ⟨g1,g2⟩:=blk_in h _ P.1.k rfl hlt;have e:(blR P).1.k=blk t P.1.k:=by show blk P.1.s P.1.k=_;rw[hP]
  refine .inl ⟨by rw[e];exact g1,?_⟩
  show (⟨P.1.db,s,blk s (P.1.k+o),false⟩:FSt)=⟨P.1.db,s,(blR P).1.k+o,false⟩
  rw[g2,e]
 ·have hk2:P.1.k=t.size:=by omega
  refine .inr ⟨hk2,?_,?_⟩
  ·refine Subtype.ext ?_;show P.1.at (blk P.1.s P.1.k)=P.1;rw[yz fun hh=>by rw[hP] at hh;omega];rfl
  ·show (⟨P.1.db,s,blk s (P.1.k+o),false⟩:FSt)=_;rw[zoy _ (P.1.k+o) rfl (by omega) fun i hi hi2=>h.bl i (by omega) hi2]
theorem val_dg {b:Int}(h:zap b):xR b=dgI b/\0<=dgI b:=by
 unfold zap at h;unfold xR dgI;by_cases h1:48<=b/\b<=57
 ·rw[if_pos h1,if_pos h1];exact ⟨rfl,by omega⟩
 ·rw[if_neg h1,if_neg h1,if_pos (by omega)];exact ⟨rfl,by omega⟩
theorem val_nd {b:Int}(h:¬zap b):¬0<=xR b:=by
 unfold zap at h;unfold xR;rw[if_neg (by omega),if_neg (by omega)];decide
theorem zjd {s:ByteArray}:∀ (f k n:Nat) (c:Int),0<=c->n<=(hxS s f k n c).2.1/\c<=(hxS s f k n c).2.2
 | 0,k,n,c,_=>⟨Nat.le_refl _,Int.le_refl _⟩
 | f+1,k,n,c,h=>by
  rw[hxS];split
  ·rename_i hk;have:=zjd (s:=s) f (k+1) (n+1) (16*c+xR (bAt s k)) (by omega)
   omega
  ·exact ⟨Nat.le_refl _,Int.le_refl _⟩
def esB (z:Nat × Nat × Int) (nx:Bool):Bool:=decide (z.2.1<1)||(decide (z.2.1>6)||(decide (z.2.2>1114111) || !nx))
theorem zjs (p:FSt) (z:Nat × Nat × Int) (h:p.bad=false):escF p z=(z.2.2,⟨p.db,p.s,z.1+1,esB z (nxB (p.at z.1) cTx)⟩):=by
 unfold escF esB;rw[h];rfl
theorem esB_n {b:Bool}(h:6<z.2.1):esB z b=true:=by
 unfold esB;rw[decide_eq_true (show z.2.1>6 from h)];simp
theorem esB_c {b:Bool}(h:1114111<z.2.2):esB z b=true:=by
 unfold esB;rw[decide_eq_true (show z.2.2>1114111 from h)];simp
theorem esB_0 {b:Bool}(h:z.2.1<1):esB z b=true:=by
 unfold esB;rw[decide_eq_true h];simp
theorem ag_es (h:Lin o t s):∀ (f:Nat) (P:RX) (c:Int) (n:Nat),P.1.s=t->f+n=8->n<=6->0<=c->c<=1114111->(match esF f P c n with
  | .ok d q=>∃ v:Int,d=.v (.int .i64 v)/\0<=v/\v<=1114111/\q.1.s=t/\q.1.db=P.1.db/\P.1.k<q.1.k/\q.1.k<=t.size/\escF (f0 o s P) (hxG s (P.1.k+o) n c)=(v,f0 o s q)
  | .bad _=>(escF (f0 o s P) (hxG s (P.1.k+o) n c)).2.bad=true/\0<=(escF (f0 o s P) (hxG s (P.1.k+o) n c)).1)
 | 0,P,c,n,hP,hf,hn,_,_=>by omega
 | f+1,P,c,n,hP,hf,hn,h0,h1=>by
  have hE:∀ z,escF (f0 o s P) z=(z.2.2,⟨P.1.db,s,z.1+1,esB z (nxB ((f0 o s P).at z.1) cTx)⟩):=fun z=>zjs _ z rfl;have hm:=zjd (s:=s) (7 - n) (P.1.k+o) n c h0;have h125:nxB (f0 o s P) cTx=true↔nxV P.1=125:=nx1 h hP (by decide) (by decide)
  rw[esF];by_cases hc:nxV P.1=125
  ·obtain ⟨hk,hb⟩:=un hc (by decide)
   rw[hP] at hk hb;have hs:=h.e.at hk;have hz:hxG s (P.1.k+o) n c=(P.1.k+o,n,c):=hxG_n fun hh=>by
    have:=hh.2.2;rw[hs.2,hb] at this
    revert this;decide
   rw[dif_pos hc,hz,hE];by_cases hn0:n=0
   ·rw[if_pos hn0];exact ⟨esB_0 (by show n<1;omega),h0⟩
   ·rw[if_neg hn0];refine ⟨c,rfl,h0,h1,hP,rfl,Nat.lt_succ_self _,by show P.1.k+1<=_;omega,?_⟩
    show (c,(⟨P.1.db,s,P.1.k+o+1,esB (P.1.k+o,n,c) (nxB ((f0 o s P).at (P.1.k+o)) cTx)⟩:FSt))=(c,⟨P.1.db,s,P.1.k+1+o,false⟩)
    have hx:nxB ((f0 o s P).at (P.1.k+o)) cTx=true:=h125.2 hc;rw[hx,show P.1.k+o+1=P.1.k+1+o by omega];unfold esB;rw[decide_eq_false (show ¬n<1 by omega),decide_eq_false (show ¬n>6 by omega),decide_eq_false (show ¬c>1114111 by omega)];rfl
  ·rw[dif_neg hc];by_cases hd:zap (nxV P.1)
   ·rw[dif_pos hd];have hk:P.1.k<t.size:=by rw[<- hP];exact zgd hd
    have hv:nxV P.1=bAt t P.1.k:=by rw[zaz (by rw[hP];exact hk),hP]
    have hs:=h.e.at hk;obtain ⟨v1,v2⟩:=val_dg hd;have hy:=hxG_y (s:=s) (k:=P.1.k+o) (n:=n) (c:=c) (by omega) ⟨hs.1,by rw[hs.2,<- hv,v1];exact v2⟩
    rw[hs.2,<- hv,v1,show P.1.k+o+1=P.1.k+1+o by omega] at hy;by_cases hb:6<n+1\/1114111<16*c+dgI (nxV P.1)
    ·rw[if_pos hb,hE];have hm2:=zjd (s:=s) (7 - (n+1)) (P.1.k+1+o) (n+1) (16*c+dgI (nxV P.1)) (by omega)
     have hm3:hxG s (P.1.k+o) n c=hxS s (7 - (n+1)) (P.1.k+1+o) (n+1) (16*c+dgI (nxV P.1)):=hy;rw[<- hm3] at hm2;refine ⟨?_,by show 0<=(hxG s (P.1.k+o) n c).2.2;omega⟩
     rcases hb with hb|hb
     ·exact esB_n (by omega)
     ·exact esB_c (by omega)
    ·rw[if_neg hb];have:=ag_es h f (yp P (zgd hd)) (16*c+dgI (nxV P.1)) (n+1) hP (by omega) (by omega) (by omega) (by omega)
     have e2:hxG s ((yp P (zgd hd)).1.k+o) (n+1) (16*c+dgI (nxV P.1))=hxG s (P.1.k+o) n c:=hy.symm;rw[e2] at this;have e3:escF (f0 o s (yp P (zgd hd))) (hxG s (P.1.k+o) n c)=escF (f0 o s P) (hxG s (P.1.k+o) n c):=by rw[hE,zjs _ _ rfl];rfl
     rw[e3] at this;cases hx:esF f (yp P (zgd hd)) (16*c+dgI (nxV P.1)) (n+1) with
     | bad q =>
      rw[hx] at this;exact this
     | ok d q =>
      rw[hx] at this;obtain ⟨v,a1,a2,a3,a4,a5,a6,a7,a8⟩:=this;have a6:P.1.k+1<q.1.k:=a6;exact ⟨v,a1,a2,a3,a4,a5,by omega,a7,a8⟩
   ·rw[dif_neg hd];have hz:hxG s (P.1.k+o) n c=(P.1.k+o,n,c):=hxG_n fun hh=>by
     by_cases hk:P.1.k<t.size
     ·have hs:=h.e.at hk;have hv:nxV P.1=bAt t P.1.k:=by rw[zaz (by rw[hP];exact hk),hP]
      rw[hv,<- hs.2] at hd;exact val_nd hd hh.2.2
     ·have:=h.bl (P.1.k+o) (by omega) hh.2.1;have h2:=hh.2.2;rw[this] at h2
      revert h2;decide
    rw[hz,hE];refine ⟨?_,h0⟩
    have hx:nxB ((f0 o s P).at (P.1.k+o)) cTx=false:=by
     cases hh:nxB ((f0 o s P).at (P.1.k+o)) cTx with
     | false=>rfl
     | true=>exact absurd (h125.1 hh) hc
    show esB (P.1.k+o,n,c) (nxB ((f0 o s P).at (P.1.k+o)) cTx)=true;rw[hx];unfold esB;simp
theorem ag_let (h:Lin o t s) (hP:P.1.s=t) (hl:isL (nxV P.1)) (hk:P.1.k<P.1.s.size):vf (f0 o s P)=(nxV P.1,f0 o s (yp P hk)):=by
 have hk2:P.1.k<t.size:=by rw[<- hP];exact hk
 have hs:=h.e.at hk2;have hv:nxV P.1=bAt t P.1.k:=by rw[zaz hk,hP]
 have hb:bAt s (P.1.k+o)=nxV P.1:=hs.2.trans hv.symm;unfold vf;rw[if_pos (show (f0 o s P).k<(f0 o s P).s.size/\isL (bAt (f0 o s P).s (f0 o s P).k) from ⟨hs.1,by show isL (bAt s (P.1.k+o));rw[hb];exact hl⟩)];show (bAt s (P.1.k+o),(⟨P.1.db,s,P.1.k+o+1,false⟩:FSt))=(nxV P.1,⟨P.1.db,s,P.1.k+1+o,false⟩)
 rw[hb,show P.1.k+o+1=P.1.k+1+o by omega]
theorem zml (h1:p.k<p.s.size->¬isL (bAt p.s p.k)) (h2:¬nxB p uTx=true):vf p=(-1,p):=by
 unfold vf;rw[if_neg fun hh=>h1 hh.1 hh.2,if_neg h2]
theorem zi3 (h:Lin o t s) (hP:P.1.s=t) (hl:¬isL (nxV P.1)):(f0 o s P).k<(f0 o s P).s.size->¬isL (bAt (f0 o s P).s (f0 o s P).k):=by
 intro hk;by_cases hk2:P.1.k<t.size
 ·have hs:=h.e.at hk2;have hv:nxV P.1=bAt t P.1.k:=by rw[zaz (by rw[hP];exact hk2),hP]
  show ¬isL (bAt s (P.1.k+o))
  rw[hs.2,<- hv];exact hl
 ·show ¬isL (bAt s (P.1.k+o))
  rw[h.bl (P.1.k+o) (by omega) hk];decide
theorem ag_esc0 (h:Lin o t s) (hP:P.1.s=t) (h92:nxV P.1=92):(match vR P () with
  | .ok d q=>∃ v:Int,d=.v (.int .i64 v)/\0<=v/\v<=1114111/\q.1.s=t/\q.1.db=P.1.db/\P.1.k<q.1.k/\q.1.k<=t.size/\vf (f0 o s P)=(v,f0 o s q)
  | .bad _=>((vf (f0 o s P)).2.bad=true/\0<=(vf (f0 o s P)).1)\/vf (f0 o s P)=(-1,f0 o s P)):=by
 have hnl:¬isL (nxV P.1):=by rw[h92];decide
 have hn3:=nx3 h hP (a:=92) (b:=117) (c:=123) (by decide) (by decide) (by decide)
 obtain ⟨hk0,hb0⟩:=un h92 (by decide)
 rw[hP] at hk0 hb0;have hno:¬nxB (f0 o s P) uTx=true->vf (f0 o s P)=(-1,f0 o s P):=fun hh=>zml (zi3 h hP hnl) hh;unfold vR tk1;rw[if_pos h92];have e1:tkR P 92=yp P (un h92 (by decide)).1:=zbn h92 (by decide)
 rw[e1];generalize hp1:yp P (un h92 (by decide)).1=P1
 try dsimp only
 have k1:P1.1.k=P.1.k+1:=by rw[<- hp1];rfl
 have s1:P1.1.s=t:=by rw[<- hp1];exact hP
 have d1:P1.1.db=P.1.db:=by rw[<- hp1];rfl
 by_cases h117:nxV P1.1=117
 ·obtain ⟨hk1,hb1⟩:=un h117 (by decide)
  rw[s1,k1] at hk1 hb1;rw[if_pos h117,zbn h117 (by decide)];generalize hp2:yp P1 (un h117 (by decide)).1=P2
  try dsimp only
  have k2:P2.1.k=P.1.k+2:=by rw[<- hp2];show P1.1.k+1=_;omega
  have s2:P2.1.s=t:=by rw[<- hp2];exact s1
  have d2:P2.1.db=P.1.db:=by rw[<- hp2];exact d1
  by_cases h123:nxV P2.1=123
  ·obtain ⟨hk2,hb2⟩:=un h123 (by decide)
   rw[s2,k2] at hk2 hb2;rw[if_pos h123,zbn h123 (by decide)];generalize hp3:yp P2 (un h123 (by decide)).1=P3
   try dsimp only
   have k3:P3.1.k=P.1.k+3:=by rw[<- hp3];show P2.1.k+1=_;omega
   have s3:P3.1.s=t:=by rw[<- hp3];exact s2
   have d3:P3.1.db=P.1.db:=by rw[<- hp3];exact d2
   have hu:nxB (f0 o s P) uTx=true:=hn3.2 ⟨hk2,hb0,hb1,hb2⟩
   have hc:vf (f0 o s P)=escF (f0 o s P3) (hxG s (P3.1.k+o) 0 0):=by
    unfold vf;rw[if_neg fun hh=>zi3 h hP hnl hh.1 hh.2,if_pos hu,zjs _ _ rfl,zjs _ _ rfl];show ((hxG s (P.1.k+o+3) 0 0).2.2,(⟨P.1.db,s,(hxG s (P.1.k+o+3) 0 0).1+1,esB (hxG s (P.1.k+o+3) 0 0) (nxB (⟨P.1.db,s,(hxG s (P.1.k+o+3) 0 0).1,false⟩:FSt) cTx)⟩:FSt))=((hxG s (P3.1.k+o) 0 0).2.2,(⟨P3.1.db,s,(hxG s (P3.1.k+o) 0 0).1+1,esB (hxG s (P3.1.k+o) 0 0) (nxB (⟨P3.1.db,s,(hxG s (P3.1.k+o) 0 0).1,false⟩:FSt) cTx)⟩:FSt))
    rw[k3,d3,show P.1.k+o+3=P.1.k+3+o by omega]
   rw[hc];have:=ag_es h 8 P3 0 0 s3 rfl (by decide) (by decide) (by decide)
   cases hx:esF 8 P3 0 0 with
   | bad q =>
    rw[hx] at this;exact .inl this
   | ok d q =>
    rw[hx] at this;obtain ⟨v,a1,a2,a3,a4,a5,a6,a7,a8⟩:=this;exact ⟨v,a1,a2,a3,a4,a5.trans d3,by omega,a7,a8⟩
  ·rw[if_neg h123];refine .inr (hno fun hh=>h123 ?_)
   obtain ⟨g1,g2,g3,g4⟩:=hn3.1 hh;exact (zi2 (by decide)).2 ⟨by rw[s2,k2];exact g1,by rw[s2,k2];exact g4⟩
 ·rw[if_neg h117];refine .inr (hno fun hh=>h117 ?_)
  obtain ⟨g1,g2,g3,g4⟩:=hn3.1 hh;exact (zi2 (by decide)).2 ⟨by rw[s1,k1];omega,by rw[s1,k1];exact g3⟩
theorem xA {s:ByteArray}{k h i:Nat}(hi:k+i<h):bAt (zN s k h) i=bAt s (k+i):=by
 show ((((s.data.toList.take h).drop k)[i]?).getD 0).toNat=(((s.data.toList[k+i]?).getD 0).toNat:Int)
 rw[List.getElem?_drop,List.getElem?_take,if_pos hi]
theorem za6 {s:ByteArray}{k h:Nat}(hh:h<=s.size):(zN s k h).size=h - k:=by
 show ((s.data.toList.take h).drop k).length=_;rw[List.length_drop,List.length_take];have:s.data.toList.length=s.size:=rfl;omega
theorem ba_ext {x y:ByteArray}(h1:x.size=y.size) (h2:∀ i,i<x.size->bAt x i=bAt y i):x=y:=by
 have:x.data.toList=y.data.toList:=List.ext_getElem h1 fun i a b=>by
  have h3:=h2 i a;rw[zh6 (show i<x.size from a),zh6 (show i<y.size from b)] at h3;exact UInt8.toNat_inj.1 (Int.ofNat.inj h3)
 show (⟨⟨x.data.toList⟩⟩:ByteArray)=⟨⟨y.data.toList⟩⟩
 rw[this]
theorem zjv {s:ByteArray}{k h:Nat}(hk:k<=h) (hh:h<=s.size):Emb k (zN s k h) s:=by
 have h1:=za6 (k:=k) hh;refine ⟨by omega,fun i hi=>?_⟩
 rw[xA (by omega),Nat.add_comm]
theorem Emb.comp {o k:Nat}{x t s:ByteArray}(h:Emb k x t) (h':Emb o t s):Emb (k+o) x s:=by
 have h1:=h.sz;have h2:=h'.sz;refine ⟨by omega,fun i hi=>?_⟩
 rw[<- h.b i hi,<- h'.b (i+k) (by omega)];congr 1;omega
theorem zom {o:Nat}{t s:ByteArray}(h:Emb o t s) {a b:Nat}(hb:b<=t.size):zN s (a+o) (b+o)=zN t a b:=by
 have h1:=h.sz;have e1:=za6 (s:=s) (k:=a+o) (h:=b+o) (by omega)
 have e2:=za6 (s:=t) (k:=a) hb;refine ba_ext (by omega) fun i hi=>?_;rw[xA (by omega),xA (by omega),<- h.b (a+i) (by omega)];congr 1;omega
theorem zkj {x:ByteArray}(hx:OkS d x) (h0:0<x.size) (h91:bAt x 0=91) (hp:(prs d x).2.1=0):∃ m,m<x.size/\bAt x m=93/\∀ o s,Emb o x s->enG s 0 o=m+1+o/\grE s o 0=(m+1+o,true):=by
 rw[zk7 hx] at hp;have hk:pkV (yY d x hx).1=91:=(yE h0).trans h91;have hb:blP (yY d x hx)=yY d x hx:=blP_id fun hh=>by
  have h1:bAt x 0=32:=hh.2;rw[h91] at h1;exact absurd h1 (by decide)
 unfold prsP at hp;rw[hb,if_pos hk] at hp;have hg:=zmv hx.1 17 (yY d x hx) rfl rfl hk;cases hr:zB 17 (yY d x hx) with
 | bad e a q =>
  rw[hr] at hp hg;exact absurd hp hg.1
 | ok L q =>
  have hE:∀ o s,Emb o x s->GrpB o x s 1 q:=fun o s h=>grp_b h 17 (yY d x hx) rfl hk L q hr;obtain ⟨c,c1,c2,c3,_⟩:=(hE 0 x ⟨Nat.le_refl _,fun i _=>rfl⟩).c;refine ⟨c,c2,c3,fun o s h=>?_⟩
  have:=grp_end h (i:=0) h0 h91 (hE o s h)
  rw[show 0+o=o by omega,c1] at this;exact this
theorem em_cat (x:ByteArray):yt (yt emS x) emS=x:=by
 show (⟨⟨([]++x.data.toList)++[]⟩⟩:ByteArray)=x;rw[List.nil_append,List.append_nil]
theorem sub_gpar {x:ByteArray}(hx:OkS d x) (h:(zcc d x).2.1=0):(prs d x).2.1=0:=by
 by_cases hh:(prs d x).2.1=0
 ·exact hh
 ·exact absurd h ((zfz hx).2 hh)
variable {o:Nat}{t s:ByteArray}
theorem ag_brk (h:Lin o t s) (hs:s.size<=990) (hP:P.1.s=t) (h91:nxV P.1=91):(∃ q:RX,∃ x:ByteArray,zbo P ()=.ok (.v (.string x)) q/\q.1.s=t/\q.1.db=P.1.db/\P.1.k<q.1.k/\q.1.k<=t.size/\(prs P.1.db x).2.1=0/\zkg (f0 o s P) (zcc P.1.db (zbj (f0 o s P) false))=(((prs P.1.db x).1,true),f0 o s q))\/((∃ q,zbo P ()=.bad q\/∃ x,zbo P ()=.ok (.v (.string x)) q/\q.1.db=P.1.db/\¬(prs P.1.db x).2.1=0)/\(zkg (f0 o s P) (zcc P.1.db (zbj (f0 o s P) false))).1.2=false/\(zkg (f0 o s P) (zcc P.1.db (zbj (f0 o s P) false))).2.bad=true/\(zkg (f0 o s P) (zcc P.1.db (zbj (f0 o s P) false))).2.s=s):=by
 obtain ⟨hk,hb⟩:=un h91 (by decide)
 rw[hP] at hk hb;have hsd:SmD P.1.db:=P.2.1;have hsz:=h.e.sz;have hle:=zb0 (s:=t) (t.size - P.1.k) P.1.k 0 (by omega)
 have okx:∀ x:ByteArray,x.size<=990->OkS P.1.db x:=fun x hx=>⟨hsd,by omega⟩
 -- the program xl it
 have dir1:∀ k2,grE t P.1.k 0=(k2,true)->(prs P.1.db (zN t P.1.k k2)).2.1=0->k2<=t.size/\P.1.k<k2/\zbj (f0 o s P) false=zN t P.1.k k2/\min (enG s 0 (P.1.k+o)) s.size=k2+o:=by
  intro k2 hk2 hp;have hk2s:k2<=t.size:=by
   have:=hle.2.2;unfold grE at hk2;rw[hk2] at this;exact this rfl
  have hkk:P.1.k<=k2:=by
   have:=hle.1;unfold grE at hk2;rw[hk2] at this;exact this
  have hE:=zjv hkk hk2s;have hxs:=za6 (s:=t) (k:=P.1.k) hk2s;have h0:0<(zN t P.1.k k2).size:=by
   rcases Nat.lt_or_ge P.1.k k2 with hh|hh
   ·omega
   ·exfalso;have e:k2=P.1.k:=by omega
    rw[zfw hk hb] at hk2;have h2:=(zb0 (s:=t) (t.size - (P.1.k+1)) (P.1.k+1) (0+1) (by omega)).1;unfold grE at hk2;rw[hk2] at h2;have h2:P.1.k+1<=k2:=h2;omega
  have hb0:bAt (zN t P.1.k k2) 0=91:=by rw[xA (by omega)];exact hb
  obtain ⟨m,m1,m2,m3⟩:=zkj (okx _ (by omega)) h0 hb0 hp;have g1:=(m3 _ _ hE).2;have g2:=(m3 _ _ (hE.comp h.e)).1;rw[hk2] at g1;have hm:k2=m+1+P.1.k:=(Prod.mk.inj g1).1;have he:min (enG s 0 (P.1.k+o)) s.size=k2+o:=by rw[g2];omega
  refine ⟨hk2s,by omega,?_,he⟩
  show zN s (P.1.k+o) (min (enG s 0 (P.1.k+o)) s.size)=_;rw[he];exact zom h.e hk2s
 -- the reference xl it
 have dir2:(zcc P.1.db (zbj (f0 o s P) false)).2.1=0->∃ k2,grE t P.1.k 0=(k2,true)/\(prs P.1.db (zN t P.1.k k2)).2.1=0:=by
  intro hg;have hlt:P.1.k+o<min (enG s 0 (P.1.k+o)) s.size:=by
   have:=enG_lt (s:=s) (d:=0) (i:=P.1.k+o) (by omega)
   omega
  have hmin:min (enG s 0 (P.1.k+o)) s.size<=s.size:=Nat.min_le_right _ _;have hT:zbj (f0 o s P) false=zN s (P.1.k+o) (min (enG s 0 (P.1.k+o)) s.size):=rfl;rw[hT] at hg;have hxs:=za6 (s:=s) (k:=P.1.k+o) hmin;have hp:=sub_gpar (okx _ (by omega)) hg;have hb0:bAt (zN s (P.1.k+o) (min (enG s 0 (P.1.k+o)) s.size)) 0=91:=by
   rw[xA (by omega)];exact (h.e.b P.1.k hk).trans hb
  have hE:=zjv (s:=s) (Nat.le_of_lt hlt) hmin;obtain ⟨m,m1,m2,m3⟩:=zkj (okx _ (by omega)) (by omega) hb0 hp;have g1:=(m3 _ _ hE).1;have hm:min (enG s 0 (P.1.k+o)) s.size=m+1+(P.1.k+o):=by omega
  rw[xA (by omega)] at m2;obtain ⟨l1,l2⟩:=(h.by (i:=P.1.k+m) (b:=93) (by decide)).1 ⟨by omega,by rw[<- m2];congr 1;omega⟩
  have hx:zN s (P.1.k+o) (min (enG s 0 (P.1.k+o)) s.size)=zN t P.1.k (P.1.k+m+1):=by
   rw[hm,show m+1+(P.1.k+o)=P.1.k+m+1+o by omega];exact zom h.e (by omega)
  rw[hx] at hp m3;have g2:=(m3 _ _ (zjv (s:=t) (k:=P.1.k) (h:=P.1.k+m+1) (by omega) (by omega))).2;refine ⟨P.1.k+m+1,?_,hp⟩
  rw[g2];congr 1;omega
 have hes:(f0 o s P).s=s:=rfl;by_cases hc:∃ k2,grE t P.1.k 0=(k2,true)/\(prs P.1.db (zN t P.1.k k2)).2.1=0
 ·obtain ⟨k2,c1,c2⟩:=hc;obtain ⟨a1,a2,a3,a4⟩:=dir1 k2 c1 c2;have hx2:k2<=P.1.s.size+1:=by rw[hP];omega
  have hr:zbo P ()=.ok (.v (.string (zN P.1.s P.1.k k2))) (goR P k2 hx2):=zin (by rw[hP];exact c1) hx2;rw[hP] at hr;have hg:=(zfz (okx (zN t P.1.k k2) (by rw[za6 a1];omega))).1 c2;refine .inl ⟨goR P k2 hx2,zN t P.1.k k2,hr,hP,rfl,a2,a1,c2,?_⟩
  rw[a3,hg];show (((prs P.1.db (zN t P.1.k k2)).1,true),(⟨P.1.db,s,min (enG s 0 (P.1.k+o)) s.size,false⟩:FSt))=(((prs P.1.db (zN t P.1.k k2)).1,true),(⟨P.1.db,s,k2+o,false⟩:FSt))
  rw[a4]
 ·have hg:¬(zcc P.1.db (zbj (f0 o s P) false)).2.1=0:=fun hh=>hc (dir2 hh)
  refine .inr ⟨?_,?_⟩
  ·cases hr:grE t P.1.k 0 with
   | mk k2 b =>
    have hx2:k2<=P.1.s.size+1:=by
     have:=hle.2.1;unfold grE at hr;rw[hr] at this;rw[hP];exact this
    cases b with
    | false=>exact ⟨goR P k2 hx2,.inl (zk2 (by rw[hP];exact hr) hx2)⟩
    | true =>
     refine ⟨goR P k2 hx2,.inr ⟨zN P.1.s P.1.k k2,zin (by rw[hP];exact hr) hx2,rfl,fun hh=>hc ⟨k2,hr,by rw[<- hP];rw[hP] at hh ⊢;exact hh⟩⟩⟩
  ·unfold zkg;rw[if_neg hg];exact ⟨rfl,rfl,rfl⟩
theorem hp3 {t:ByteArray}{a b c:UInt8}(hk:k<=t.size):hpB (zN t k t.size) ⟨#[a,b,c]⟩=true↔(k+2<t.size/\bAt t k=(a.toNat:Int)/\bAt t (k+1)=(b.toNat:Int)/\bAt t (k+2)=(c.toNat:Int)):=by
 have hx:=za6 (s:=t) (k:=k) (Nat.le_refl t.size)
 unfold hpB;rw[Bool.and_eq_true,decide_eq_true_iff,yC];show (3<=(zN t k t.size).size/\zN (zN t k t.size) 0 3=_)↔_;constructor
 ·rintro ⟨h1,h2⟩
  have h3:=(cut_eq (s:=zN t k t.size) (t:=⟨#[a,b,c]⟩) (k:=0) (by show 0+3<=_;omega)).1 h2;have g0:=h3 0 (by show 0<3;omega)
  have g1:=h3 1 (by show 1<3;omega)
  have g2:=h3 2 (by show 2<3;omega)
  rw[xA (by omega)] at g0 g1 g2;exact ⟨by omega,g0,g1,g2⟩
 ·rintro ⟨h1,h2,h3,h4⟩
  refine ⟨by omega,(cut_eq (s:=zN t k t.size) (t:=⟨#[a,b,c]⟩) (k:=0) (by show 0+3<=_;omega)).2 fun j hj=>?_⟩
  have hj:j<3:=hj;rw[xA (by omega)]
  match j,hj with
  | 0,_=>exact h2
  | 1,_=>exact h3
  | 2,_=>exact h4
theorem zhs (c:UInt8):∀ (l:List UInt8) (i:Int),(zjc l c i = -1/\∀ b∈l,b≠c)\/∃ j:Nat,j<l.length/\zjc l c i=i+j/\l[j]?=some c/\∀ m,m<j->l[m]?≠some c
 | [],i=>.inl ⟨rfl,fun b hb=>by simp at hb⟩
 | b::l,i=>by
  by_cases h:b=c
  ·subst h;refine .inr ⟨0,by simp,?_,rfl,fun m hm=>by omega⟩
   show (match b==b with|true=>i|false=>zjc l b (i+1))=_;rw[beq_self_eq_true];show i=i+0;omega
  ·have hb:(b==c)=false:=beq_eq_false_iff_ne.2 h;have he:zjc (b::l) c i=zjc l c (i+1):=by
    show (match b==c with|true=>i|false=>zjc l c (i+1))=_;rw[hb]
   rw[he];rcases zhs c l (i+1) with ⟨h1,h2⟩|⟨j,h1,h2,h3,h4⟩
   ·exact .inl ⟨h1,fun x hx=>by
     rcases List.mem_cons.1 hx with rfl|hx
     ·exact h
     ·exact h2 x hx⟩
   ·refine .inr ⟨j+1,by simpa using h1,by rw[h2];omega,by simpa using h3,fun m hm=>?_⟩
    cases m with
    | zero=>simpa using h
    | succ m=>simpa using h4 m (by omega)
theorem idxB_cases (x:ByteArray):(zht x 125 = -1/\∀ j,j<x.size->¬bAt x j=125)\/∃ j:Nat,j<x.size/\zht x 125=j/\bAt x j=125/\∀ m,m<j->¬bAt x m=125:=by
 rcases zhs 125 x.data.toList 0 with ⟨h1,h2⟩|⟨j,h1,h2,h3,h4⟩
 ·refine .inl ⟨h1,fun j hj hb=>?_⟩
  rw[zh6 hj] at hb;exact h2 _ (List.getElem_mem hj) (UInt8.toNat_inj.1 (by show _=125;omega))
 ·refine .inr ⟨j,h1,by show zjc x.data.toList 125 0=j;rw[h2];omega,?_,fun m hm hb=>?_⟩
  ·show (((x.data.toList[j]?).getD 0).toNat:Int)=125;rw[h3];rfl
  ·have hm2:m<x.data.toList.length:=by omega
   have hb2:=zh6 (s:=x) (k:=m) hm2;rw[hb] at hb2;refine h4 m hm ?_;rw[List.getElem?_eq_getElem hm2];exact congrArg some (UInt8.toNat_inj.1 (by show _=125;omega))
theorem brc_all {s:ByteArray}:∀ (n i:Nat),s.size - i=n->i<=s.size->(∀ m,i<=m->m<s.size->¬bAt s m=125)->brc s i=s.size
 | 0,i,hn,hi,_=>by rw[brc_n fun hh=>by omega];omega
 | n+1,i,hn,hi,h=>by rw[<- brc_y (by omega) (h i (Nat.le_refl _) (by omega))];exact brc_all n (i+1) (by omega) (by omega) fun m hm hm2=>h m (by omega) hm2
theorem cls_open {y:ByteArray}(hy:OkS d y) (h0:bAt y 0=91) (h1:bAt y 1=92) (h2:bAt y 2=112) (h3:2<y.size) (hn:∀ j,j<y.size->¬bAt y j=125):¬(prs d y).2.1=0:=by
 rw[zk7 hy];have hk:pkV (yY d y hy).1=91:=(yE (show 0<y.size by omega)).trans h0;have hb:blP (yY d y hy)=yY d y hy:=blP_id fun hh=>by
  have h1:bAt y 0=32:=hh.2;rw[h0] at h1;exact absurd h1 (by decide)
 unfold prsP;rw[hb,if_pos hk];have hg:=zmv hy.1 17 (yY d y hy) rfl rfl hk;cases hr:zB 17 (yY d y hy) with
 | bad e a q =>
  rw[hr] at hg;exact hg.1
 | ok L q =>
  exfalso;have hlt:(yY d y hy).1.k<(yY d y hy).1.s.size:=(show 0<y.size by omega)
  rw[zB,dif_pos hlt] at hr;have k1:(adv (yY d y hy) hlt).1.k=1:=rfl;have p1:pkV (adv (yY d y hy) hlt).1=92:=(yE (show 1<y.size by omega)).trans h1;have b1:blP (adv (yY d y hy) hlt)=adv (yY d y hy) hlt:=blP_at (by rw[p1];decide)
  have pb:pkV (blP (adv (yY d y hy) hlt)).1=92:=by rw[b1];exact p1
  rw[dif_neg (by rw[pb];decide),b1] at hr;have hf:(yY d y hy).1.s.size+1=y.size+1:=rfl;rw[hf,zdt,dif_neg (by rw[pb];decide),dif_neg (by rw[pb];decide),dif_neg (by rw[pb];decide),if_neg (by rw[pb];decide),b1] at hr;have hp2:zeo (adv (yY d y hy) hlt).1 92 112=true:=decide_eq_true ⟨h3,h1,h2⟩
  have hI:xh (adv (yY d y hy) hlt)=zV (adv (yY d y hy) hlt):=if_pos hp2;rw[hI] at hr;cases hc:zV (adv (yY d y hy) hlt) with
  | bad e a q1 =>
   rw[hc] at hr;simp at hr
  | ok L1 q1 =>
   have c:=cls_b p1 hc;have c1:=c.k;have c2:=c.sz;exact hn (q1.1.k - 1) (by have:q1.1.k<=y.size:=c2;omega) c.e
theorem cat3_at {x:ByteArray}:(yt (yt lbS x) rbS).size=x.size+2/\bAt (yt (yt lbS x) rbS) 0=91/\(∀ i,i<x.size->bAt (yt (yt lbS x) rbS) (i+1)=bAt x i)/\bAt (yt (yt lbS x) rbS) (x.size+1)=93:=by
 have e:(yt (yt lbS x) rbS).data.toList=91::(x.data.toList++[93]):=rfl;refine ⟨?_,?_,fun i hi=>?_,?_⟩
 ·show (yt (yt lbS x) rbS).data.toList.length=_;rw[e];simp
 ·unfold bAt;rw[e];rfl
 ·unfold bAt;rw[e];have hi2:i<x.data.toList.length:=hi;rw[List.getElem?_cons_succ,List.getElem?_append_left hi2]
 ·unfold bAt;rw[e,List.getElem?_cons_succ];show ((((x.data.toList++[93])[x.data.toList.length]?).getD 0).toNat:Int)=93;rw[List.getElem?_append_right (Nat.le_refl _),Nat.sub_self];rfl
variable {o:Nat}{t s:ByteArray}
theorem ag_clx (h:Lin o t s) (hs:s.size<=990) (hP:P.1.s=t) (h92:nxV P.1=92) (h3:P.1.k+2<t.size/\bAt t P.1.k=92/\bAt t (P.1.k+1)=112/\bAt t (P.1.k+2)=123):(∃ q:RX,∃ x:ByteArray,zbp P ()=.ok (.v (.string x)) q/\q.1.s=t/\q.1.db=P.1.db/\P.1.k<q.1.k/\q.1.k<=t.size/\(prs P.1.db (yt (yt lbS x) rbS)).2.1=0/\zkg (f0 o s P) (zcc P.1.db (zbj (f0 o s P) true))=(((prs P.1.db (yt (yt lbS x) rbS)).1,true),f0 o s q))\/((∃ q,zbp P ()=.bad q\/∃ x,zbp P ()=.ok (.v (.string x)) q/\q.1.db=P.1.db/\¬(prs P.1.db (yt (yt lbS x) rbS)).2.1=0)/\(zkg (f0 o s P) (zcc P.1.db (zbj (f0 o s P) true))).1.2=false/\(zkg (f0 o s P) (zcc P.1.db (zbj (f0 o s P) true))).2.bad=true/\(zkg (f0 o s P) (zcc P.1.db (zbj (f0 o s P) true))).2.s=s):=by
 obtain ⟨hk,hb0,hb1,hb2⟩:=h3;have hsd:SmD P.1.db:=P.2.1;have hsz:=h.e.sz;have okx:∀ x:ByteArray,x.size<=992->OkS P.1.db x:=fun x hx=>⟨hsd,by omega⟩
 have g0:=h.e.at (i:=P.1.k) (by omega)
 have g1:=h.e.at (i:=P.1.k+1) (by omega)
 have hen:enG s 0 (P.1.k+o)=brc s (P.1.k+o+1)+1:=by
  have e1:escN s (P.1.k+o+1)=brc s (P.1.k+o+1):=if_pos ⟨by omega,.inr (by rw[show P.1.k+o+1=P.1.k+1+o by omega];exact g1.2.trans hb1)⟩
  have e:enS s 0 (P.1.k+o)=(0,brc s (P.1.k+o+1)):=by
   unfold enS;rw[if_neg (by rw[g0.2,hb0];decide),if_neg (by rw[g0.2,hb0];decide),if_pos (g0.2.trans hb0),e1]
  rw[zg7 g0.1 (by rw[e]),e]
 have hxs:=za6 (s:=t) (k:=P.1.k) (Nat.le_refl t.size)
 have hclB:clB P=zht (zN t P.1.k t.size) 125:=by unfold clB;rw[hP]
 rcases idxB_cases (zN t P.1.k t.size) with ⟨i1,i2⟩|⟨j,i1,i2,i3,i4⟩
 ·-- no brace
  refine .inr ⟨⟨P,.inl ?_⟩,?_⟩
  ·unfold zbp;rw[dif_neg fun hh=>by rw[hclB,i1] at hh;omega]
  ·have hno:∀ m,P.1.k+o<=m->m<s.size->¬bAt s m=125:=fun m hm hm2 hb=>by
    obtain ⟨l1,l2⟩:=(h.by (i:=m - o) (b:=125) (by decide)).1 ⟨by omega,by rw[show m - o+o=m by omega];exact hb⟩
    have:=i2 (m - o - P.1.k) (by omega)
    rw[xA (by omega),show P.1.k+(m - o - P.1.k)=m - o by omega] at this;exact this l2
   have hbr:=brc_all _ (P.1.k+o+1) rfl (by omega) fun m hm hm2=>hno m (by omega) hm2;have he:min (enG s 0 (P.1.k+o)) s.size=s.size:=by rw[hen,hbr];omega
   have hT:zbj (f0 o s P) true=yt (yt lbS (zN s (P.1.k+o) s.size)) rbS:=by
    show yt (yt lbS (zN s (P.1.k+o) (min (enG s 0 (P.1.k+o)) s.size))) rbS=_;rw[he]
   obtain ⟨c1,c2,c3,c4⟩:=cat3_at (x:=zN s (P.1.k+o) s.size)
   have hcs:=za6 (s:=s) (k:=P.1.k+o) (Nat.le_refl s.size)
   have hyk:OkS P.1.db (yt (yt lbS (zN s (P.1.k+o) s.size)) rbS):=okx _ (by omega)
   have hng:¬(zcc P.1.db (zbj (f0 o s P) true)).2.1=0:=by
    rw[hT];refine (zfz hyk).2 (cls_open hyk c2 ?_ ?_ (by omega) fun i hi hb=>?_)
    ·rw[show (1:Nat)=0+1 from rfl,c3 0 (by omega),xA (by omega)];exact g0.2.trans hb0
    ·rw[show (2:Nat)=1+1 from rfl,c3 1 (by omega),xA (by omega),show P.1.k+o+1=P.1.k+1+o by omega];exact g1.2.trans hb1
    ·by_cases hi0:i=0
     ·subst hi0;rw[c2] at hb;exact absurd hb (by decide)
     ·by_cases hie:i=(zN s (P.1.k+o) s.size).size+1
      ·rw[hie,c4] at hb;exact absurd hb (by decide)
      ·have:=c3 (i - 1) (by omega)
       rw[show i - 1+1=i by omega,hb,xA (by omega)] at this;exact hno _ (by omega) (by omega) this.symm
   unfold zkg;rw[if_neg hng];exact ⟨rfl,rfl,rfl⟩
 ·-- the brace at j
  have hj:P.1.k+j<t.size:=by omega
  rw[xA (by omega)] at i3;have hno:∀ m,m<j->¬bAt t (P.1.k+m)=125:=fun m hm=>by
   have:=i4 m hm;rw[xA (by omega)] at this;exact this
  have hj1:1<=j:=by
   rcases Nat.lt_or_ge j 1 with hh|hh
   ·have:j=0:=by omega
    subst this;rw[show P.1.k+0=P.1.k from rfl,hb0] at i3;exact absurd i3 (by decide)
   ·exact hh
  have gj:=h.e.at hj;have hbr:brc s (P.1.k+o+1)=P.1.k+j+o:=by
   rw[brc_to (j - 1) (P.1.k+o+1) (by omega) (fun m hm hm2=>by
    have g:=(h.e.at (i:=m - o) (by omega)).2;rw[show m - o+o=m by omega] at g;rw[g,show m - o=P.1.k+(m - o - P.1.k) by omega];exact hno _ (by omega)) (by rw[show P.1.k+o+1+(j - 1)=P.1.k+j+o by omega];exact gj.2.trans i3)]
   omega
  have he:min (enG s 0 (P.1.k+o)) s.size=P.1.k+j+1+o:=by rw[hen,hbr];omega
  have hT:zbj (f0 o s P) true=yt (yt lbS (zN t P.1.k (P.1.k+j+1))) rbS:=by
   show yt (yt lbS (zN s (P.1.k+o) (min (enG s 0 (P.1.k+o)) s.size))) rbS=_;rw[he,zom h.e (by omega)]
  have hjt:(clB P).toNat=j:=by rw[hclB,i2];omega
  have hcond:0<=clB P/\P.1.k+(clB P).toNat+1<=P.1.s.size:=by
   rw[hjt,hP];exact ⟨by rw[hclB,i2];omega,by omega⟩
  have hx2:P.1.k+(clB P).toNat+1<=P.1.s.size+1:=by omega
  have hr:zbp P ()=.ok (.v (.string (zN t P.1.k (P.1.k+j+1)))) (goR P (P.1.k+(clB P).toNat+1) hx2):=by
   unfold zbp;rw[dif_pos hcond];congr 3;rw[hjt,hP]
  have hq:(goR P (P.1.k+(clB P).toNat+1) hx2).1.k=P.1.k+j+1:=by show P.1.k+(clB P).toNat+1=_;rw[hjt]
  have hcs:=za6 (s:=t) (k:=P.1.k) (h:=P.1.k+j+1) (by omega)
  have hyk:OkS P.1.db (yt (yt lbS (zN t P.1.k (P.1.k+j+1))) rbS):=okx _ (by rw[(cat3_at).1];omega)
  by_cases hp:(prs P.1.db (yt (yt lbS (zN t P.1.k (P.1.k+j+1))) rbS)).2.1=0
  ·refine .inl ⟨_,_,hr,hP,rfl,by omega,by omega,hp,?_⟩
   rw[hT,(zfz hyk).1 hp];show (((prs P.1.db _).1,true),(⟨P.1.db,s,min (enG s 0 (P.1.k+o)) s.size,false⟩:FSt))=(((prs P.1.db _).1,true),(⟨P.1.db,s,(goR P (P.1.k+(clB P).toNat+1) hx2).1.k+o,false⟩:FSt))
   rw[he,hq]
  ·refine .inr ⟨⟨_,.inr ⟨_,hr,rfl,hp⟩⟩,?_⟩
   rw[hT];unfold zkg;rw[if_neg ((zfz hyk).2 hp)];exact ⟨rfl,rfl,rfl⟩
def At (o:Nat) (t s:ByteArray) (q:RX) (p:FSt):Prop:=q.1.s=t/\((q.1.k<t.size/\p=f0 o s q)\/(q.1.k=t.size/\p=⟨q.1.db,s,s.size,false⟩))
def Dm (s:ByteArray) (p:FSt):Prop:=p.s=s/\(p.bad=true\/(p.bad=false/\p.k<s.size/\bAt s p.k=92))
theorem at_nx (h:Lin o t s) {q:RX}(ha:At o t s q p) (hb:¬b=32) (h0:¬b=0):nxB p ⟨#[b]⟩=true↔nxV q.1=(b.toNat:Int):=by
 obtain ⟨h1,h2|h2⟩:=ha
 ·rw[h2.2];exact nx1 h h1 hb h0
 ·have e0:¬(b.toNat:Int)=0:=fun hh=>h0 (UInt8.toNat_inj.1 (by show b.toNat=0;omega))
  rw[h2.2,zea,zi2 e0,h1];constructor
  ·rintro ⟨_,h3,_⟩
   exact absurd h3 (Nat.lt_irrefl _)
  ·rintro ⟨h3,_⟩
   omega
theorem at_tk (h:Lin o t s) {q:RX}(ha:At o t s q p) (hb:¬b=32) (h0:¬b=0) (hv:nxV q.1=(b.toNat:Int)):∃ r:RX,tkR q (b.toNat:Int)=r/\p.at (p.k+1)=f0 o s r/\r.1.s=t/\r.1.k<=t.size/\r.1.db=q.1.db:=by
 have e0:¬(b.toNat:Int)=0:=fun hh=>h0 (UInt8.toNat_inj.1 (by show b.toNat=0;omega))
 have hk:=(un hv e0).1;obtain ⟨h1,h2|h2⟩:=ha
 ·refine ⟨yp q hk,zbn hv e0,?_,h1,h2.1,rfl⟩
  rw[h2.2];show (⟨q.1.db,s,q.1.k+o+1,false⟩:FSt)=⟨q.1.db,s,q.1.k+1+o,false⟩
  rw[show q.1.k+o+1=q.1.k+1+o by omega]
 ·rw[h1] at hk;omega
theorem dm_nx (hd:Dm s p) (hb:¬b=92):nxB p ⟨#[b]⟩=false:=by
 cases hn:nxB p ⟨#[b]⟩ with
 | false=>rfl
 | true =>
  obtain ⟨h1,h2,h3⟩:=zea.1 hn;rcases hd.2 with h4|⟨_,_,h4⟩
  ·rw[h4] at h1;exact Bool.noConfusion h1
  ·rw[hd.1,h4] at h3;exact absurd (UInt8.toNat_inj.1 (by show b.toNat=92;omega)) hb
theorem dm_rulE (hd:Dm s p) (B M A:List (List Rg)):(rulE B M A p).2.bad=true:=by
 unfold rulE;rw[if_pos (.inr (dm_nx hd (by decide)))]
theorem dm_rulA (hd:Dm s p) (B M:List (List Rg)):(rulA B M p).2.bad=true:=by
 unfold rulA;have:=dm_nx hd (b:=125) (by decide)
 rw[if_neg (fun h:nxB p clT=true=>by rw[show nxB p clT=false from this] at h;exact Bool.noConfusion h)];exact dm_rulE hd B M []
def AgE (o:Nat) (t s:ByteArray) (db:Db) (r:OutS (List Rg)) (g:List (List Rg) × FSt):Prop:=match r with
 | .ok L q=>g.1=L/\At o t s q g.2/\q.1.db=db
 | .bad _=>Dm s g.2
theorem els_go {L:List (List Rg)}{q:FSt}(hb:p.bad=false) (he:zaa (bl0 p)=((S,true),q)):zoi (f+1) p L=zoi f q (L++[S]):=by
 rw[zoi,if_neg (by rw[hb];exact fun h=>Bool.noConfusion h),he,if_pos rfl]
theorem zdm {L:List (List Rg)}(hb:p.bad=false) (he:(zaa (bl0 p)).1.2=false):zoi (f+1) p L=(L,(zaa (bl0 p)).2):=by
 rw[zoi,if_neg (by rw[hb];exact fun h=>Bool.noConfusion h),if_neg (by rw[he];exact fun h=>Bool.noConfusion h)]
theorem ele_no (hb:p.bad=false) (h1:nxB p lbS=false) (h2:nxB p zcf=false) (hc:vf p=(-1,p)):zaa p=(([],false),p):=by
 unfold zaa;rw[if_neg (by rw[hb];exact fun h=>Bool.noConfusion h),if_pos ⟨h1,h2⟩,hc];unfold eleC;rw[if_pos (.inl (show (-1:Int)<0 by decide))]
theorem nx_f {x:ByteArray}(h:¬nxB p x=true):nxB p x=false:=by
 cases hh:nxB p x with
 | false=>rfl
 | true=>exact absurd hh h
theorem zmx (h:Lin o t s) (hs:s.size<=990):∀ (f f':Nat) (P:RX) (L:List (List Rg)),P.1.s=t->P.1.k<=t.size->t.size+2<=f+P.1.k->t.size+2<=f'+P.1.k->AgE o t s P.1.db (elF f P L) (zoi f' (f0 o s P) L)
 | 0,_,P,L,_,hk,hf,_=>by omega
 | f+1,0,P,L,_,hk,_,hf=>by omega
 | f+1,f'+1,P,L,hP,hk,hf,hf'=>by
  have hsz:=h.e.sz;have hPb:(blR P).1.s=t:=hP;have bk:=blR_k P;rw[elF];rcases bl_cases h hP hk with ⟨b1,b2⟩|⟨b1,b2,b3⟩
  ·-- within the line
   have hv:nxV (blR P).1=bAt t (blR P).1.k:=by rw[zaz (by rw[hPb];exact b1),hPb]
   have lb:=nx1 h hPb (b:=91) (by decide) (by decide)
   have cl:=nx3 h hPb (a:=92) (b:=112) (c:=123) (by decide) (by decide) (by decide)
   by_cases hL:isL (nxV (blR P).1)
   ·have hkb:(blR P).1.k<(blR P).1.s.size:=by rw[hPb];exact b1
    have hl2:=hL;unfold isL at hl2;rw[dif_pos hL];have hc:=ag_let h hPb hL hkb;have n1:nxB (f0 o s (blR P)) lbS=false:=nx_f fun hh=>by have hq:nxV (blR P).1=91:=lb.1 hh;omega
    have n2:nxB (f0 o s (blR P)) zcf=false:=nx_f fun hh=>by have hq:bAt t (blR P).1.k=92:=(cl.1 hh).2.1;omega
    have he:zaa (bl0 (f0 o s P))=((canon [(nxV (blR P).1,nxV (blR P).1)],true),f0 o s (yp (blR P) hkb)):=by
     rw[b2];unfold zaa;rw[if_neg (fun hh=>Bool.noConfusion hh),if_pos ⟨n1,n2⟩,hc];unfold eleC;rw[if_neg (fun hh=>hh.elim (fun hh=>by have hh:nxV (blR P).1<0:=hh;omega) fun hh=>Bool.noConfusion hh)]
    rw[els_go rfl he];exact zmx h hs f f' (yp (blR P) hkb) _ hPb (by show (blR P).1.k+1<=_;omega) (by show _<=f+((blR P).1.k+1);omega) (by show _<=f'+((blR P).1.k+1);omega)
   ·rw[dif_neg hL];by_cases h91:nxV (blR P).1=91
    ·rw[if_pos h91];have n1:nxB (f0 o s (blR P)) lbS=true:=lb.2 h91;have n2:nxB (f0 o s (blR P)) zcf=false:=nx_f fun hh=>by have hq:bAt t (blR P).1.k=92:=(cl.1 hh).2.1;omega
     have heF:zaa (bl0 (f0 o s P))=zkg (f0 o s (blR P)) (zcc P.1.db (zbj (f0 o s (blR P)) false)):=by
      rw[b2];unfold zaa;rw[if_neg (fun hh=>Bool.noConfusion hh),if_neg (fun hh=>by rw[n1] at hh;exact Bool.noConfusion hh.1),n2];rfl
     rcases ag_brk h hs hPb h91 with ⟨q,x,g1,g2,g3,g4,g5,g6,g7⟩|⟨⟨q,g1⟩,g2,g3,g4⟩
     ·rw[g1];dsimp only[dS];unfold xpL;rw[em_cat,show q.1.db=(blR P).1.db from g3,if_pos g6];have he:=heF.trans g7;rw[els_go rfl he];have:=zmx h hs f f' q (L++[(prs (blR P).1.db x).1]) g2 g5 (by omega) (by omega)
      rw[show q.1.db=P.1.db from g3] at this;exact this
     ·have hE:=zdm (f:=f') (p:=f0 o s P) (L:=L) rfl (by rw[heF];exact g2)
      have hD:Dm s (zoi (f'+1) (f0 o s P) L).2:=by
       rw[hE,heF];exact ⟨g4,.inl g3⟩
      rcases g1 with g1|⟨x,g1,g5,g6⟩
      ·rw[g1];exact hD
      ·rw[g1];dsimp only[dS];unfold xpL;rw[em_cat,show q.1.db=(blR P).1.db from g5,if_neg g6];exact hD
    ·rw[if_neg h91];have n1:nxB (f0 o s (blR P)) lbS=false:=nx_f fun hh=>h91 (lb.1 hh)
     by_cases h92:nxV (blR P).1=92
     ·have hpc:hpB (zN (blR P).1.s (blR P).1.k (blR P).1.s.size) zcf=true↔nxB (f0 o s (blR P)) zcf=true:=by
       rw[hPb];exact (hp3 (Nat.le_of_lt b1)).trans cl.symm
      by_cases hc:nxB (f0 o s (blR P)) zcf=true
      ·rw[if_pos ⟨h92,hpc.2 hc⟩];have heF:zaa (bl0 (f0 o s P))=zkg (f0 o s (blR P)) (zcc P.1.db (zbj (f0 o s (blR P)) true)):=by
        rw[b2];unfold zaa;rw[if_neg (fun hh=>Bool.noConfusion hh),if_neg (fun hh=>by rw[hc] at hh;exact Bool.noConfusion hh.2),hc];rfl
       rcases ag_clx h hs hPb h92 (cl.1 hc) with ⟨q,x,g1,g2,g3,g4,g5,g6,g7⟩|⟨⟨q,g1⟩,g2,g3,g4⟩
       ·rw[g1];dsimp only[dS];unfold xpL;rw[show q.1.db=(blR P).1.db from g3,if_pos g6];have he:=heF.trans g7;rw[els_go rfl he];have:=zmx h hs f f' q (L++[(prs (blR P).1.db (yt (yt lbS x) rbS)).1]) g2 g5 (by omega) (by omega)
        rw[show q.1.db=P.1.db from g3] at this;exact this
       ·have hE:=zdm (f:=f') (p:=f0 o s P) (L:=L) rfl (by rw[heF];exact g2)
        have hD:Dm s (zoi (f'+1) (f0 o s P) L).2:=by
         rw[hE,heF];exact ⟨g4,.inl g3⟩
        rcases g1 with g1|⟨x,g1,g5,g6⟩
        ·rw[g1];exact hD
        ·rw[g1];dsimp only[dS];unfold xpL;rw[show q.1.db=(blR P).1.db from g5,if_neg g6];exact hD
      ·rw[if_neg (fun hh=>hc (hpc.1 hh.2)),if_pos h92];have n2:=nx_f hc;have heF:zaa (bl0 (f0 o s P))=eleC (vf (f0 o s (blR P))):=by
        rw[b2];unfold zaa;rw[if_neg (fun hh=>Bool.noConfusion hh),if_pos ⟨n1,n2⟩]
       have hes:=ag_esc0 h hPb h92;cases hx:vR (blR P) () with
       | ok d q =>
        rw[hx] at hes;obtain ⟨v,rfl,v0,v1,g2,g3,g4,g5,g6⟩:=hes;have he:zaa (bl0 (f0 o s P))=((canon [(v,v)],true),f0 o s q):=by
         rw[heF,g6];unfold eleC;rw[if_neg (fun hh=>hh.elim (fun hh=>by have hh:v<0:=hh;omega) fun hh=>Bool.noConfusion hh)]
        rw[els_go rfl he];have:=zmx h hs f f' q (L++[canon [(v,v)]]) g2 g5 (by omega) (by omega)
        rw[show q.1.db=P.1.db from g3] at this;exact this
       | bad q =>
        rw[hx] at hes;show Dm s _;rcases hes with ⟨c1,c2⟩|c1
        ·have hcs:(vf (f0 o s (blR P))).2.s=s:=(codF_h (p:=f0 o s (blR P)) ⟨P.2.1,by show (blR P).1.k+o<=s.size+1;omega,hs⟩).2.1;have he2:zaa (bl0 (f0 o s P))=(([],false),(vf (f0 o s (blR P))).2):=by
          rw[heF];unfold eleC;rw[if_pos (.inr c1)]
         rw[zdm rfl (by rw[he2]),he2];exact ⟨hcs,.inl c1⟩
        ·have he2:zaa (bl0 (f0 o s P))=(([],false),f0 o s (blR P)):=by
          rw[heF,c1];unfold eleC;rw[if_pos (.inl (show (-1:Int)<0 by decide))]
         rw[zdm rfl (by rw[he2]),he2];have g:=h.e.at b1;exact ⟨rfl,.inr ⟨rfl,g.1,g.2.trans (hv.symm.trans h92)⟩⟩
     ·rw[if_neg (fun hh=>h92 hh.1),if_neg h92];have n2:nxB (f0 o s (blR P)) zcf=false:=nx_f fun hh=>h92 (hv.trans (cl.1 hh).2.1)
      have hu:¬nxB (f0 o s (blR P)) uTx=true:=fun hh=>h92 (hv.trans ((nx3 h hPb (a:=92) (b:=117) (c:=123) (by decide) (by decide) (by decide)).1 hh).2.1)
      have he:zaa (bl0 (f0 o s P))=(([],false),f0 o s (blR P)):=by
       rw[b2];exact ele_no rfl n1 n2 (zml (zi3 h hPb hL) hu)
      rw[zdm rfl (by rw[he]),he];exact ⟨rfl,⟨hPb,.inl ⟨b1,rfl⟩⟩,rfl⟩
  ·-- at the end of the line
   have hv:nxV (blR P).1=0:=by rw[b2];exact nxV_ge (by rw[hP];omega)
   rw[dif_neg (by rw[hv];decide),if_neg (by rw[hv];decide),if_neg (fun hh=>by rw[hv] at hh;exact absurd hh.1 (by decide)),if_neg (by rw[hv];decide),b2];have he:zaa (bl0 (f0 o s P))=(([],false),⟨P.1.db,s,s.size,false⟩):=by
    rw[b3];refine ele_no rfl (nx_f fun hh=>?_) (nx_f fun hh=>?_) (zml (fun hh=>absurd hh (Nat.lt_irrefl _)) fun hh=>?_)
    ·exact absurd (zea.1 hh).2.1 (Nat.lt_irrefl _)
    ·have:s.size+3<=s.size:=(zi1.1 hh).2.1;omega
    ·have:s.size+3<=s.size:=(zi1.1 hh).2.1;omega
   rw[zdm rfl (by rw[he]),he];exact ⟨rfl,⟨hP,.inr ⟨b1,rfl⟩⟩,rfl⟩
theorem pcs_bad (f:Nat) (h:p.bad=true):zbq f p L=(L,p):=by
 cases f with
 | zero=>rfl
 | succ f=>rw[zbq,if_pos h]
def AgP (s:ByteArray) (db:Db) (r:OutS Rg) (g:List Rg × FSt):Prop:=match r with
 | .ok L _=>g=(L,⟨db,s,s.size,false⟩)
 | .bad _=>g.2.bad=true\/¬g.2.k=s.size
theorem pcs_go (hb:p.bad=false) (hn:nxB (bl0 p) dlT=false) (hc:¬(vf (bl0 p)).1<0):zbq (f+1) p L=zbq f (vf (bl0 p)).2 (L++[((vf (bl0 p)).1,0)]):=by
 rw[zbq,if_neg (by rw[hb];exact fun h=>Bool.noConfusion h),if_neg (by rw[hn];exact fun h=>Bool.noConfusion h),if_neg hc]
theorem znh (hb:p.bad=false) (hn:nxB (bl0 p) dlT=false) (hc:vf (bl0 p)=(-1,bl0 p)):zbq (f+1) p L=(L,bl0 p):=by
 rw[zbq,if_neg (by rw[hb];exact fun h=>Bool.noConfusion h),if_neg (by rw[hn];exact fun h=>Bool.noConfusion h),hc,if_pos (show (-1:Int)<0 by decide)]
theorem pcs_dl (hb:p.bad=false) (hn:nxB (bl0 p) dlT=true):zbq (f+1) p L=zbq f (pcD (bl0 p)) (L++[(0,pcN (bl0 p))]):=by
 rw[zbq,if_neg (by rw[hb];exact fun h=>Bool.noConfusion h),if_pos hn]
theorem ag_pcF (h:Lin o t s):∀ (f f':Nat) (P:RX) (L:List Rg),P.1.s=t->P.1.k<=t.size->t.size+2<=f+P.1.k->t.size+2<=f'+P.1.k->AgP s P.1.db (pcF f P L) (zbq f' (f0 o s P) L)
 | 0,_,P,L,_,hk,hf,_=>by omega
 | f+1,0,P,L,_,hk,_,hf=>by omega
 | f+1,f'+1,P,L,hP,hk,hf,hf'=>by
  have hsz:=h.e.sz;have hPb:(blR P).1.s=t:=hP;have bk:=blR_k P;rw[pcF];rcases bl_cases h hP hk with ⟨b1,b2⟩|⟨b1,b2,b3⟩
  ·have hkb:(blR P).1.k<(blR P).1.s.size:=by rw[hPb];exact b1
   have hv:nxV (blR P).1=bAt t (blR P).1.k:=by rw[zaz hkb,hPb]
   have dl:=nx1 h hPb (b:=36) (by decide) (by decide)
   rw[dif_pos hkb];by_cases hL:isL (nxV (blR P).1)
   ·have hl2:=hL;unfold isL at hl2;rw[if_pos hL];have hc:=ag_let h hPb hL hkb;have n1:nxB (f0 o s (blR P)) dlT=false:=nx_f fun hh=>by have hq:nxV (blR P).1=36:=dl.1 hh;omega
    have hg:zbq (f'+1) (f0 o s P) L=zbq f' (f0 o s (yp (blR P) hkb)) (L++[(nxV (blR P).1,0)]):=by
     rw[pcs_go rfl (by rw[b2];exact n1) (by rw[b2,hc];show ¬nxV (blR P).1<0;omega),b2,hc]
    rw[hg];exact ag_pcF h f f' (yp (blR P) hkb) _ hPb (by show (blR P).1.k+1<=_;omega) (by show _<=f+((blR P).1.k+1);omega) (by show _<=f'+((blR P).1.k+1);omega)
   ·rw[if_neg hL];by_cases h92:nxV (blR P).1=92
    ·rw[if_pos h92];have n1:nxB (f0 o s (blR P)) dlT=false:=nx_f fun hh=>by have hq:nxV (blR P).1=36:=dl.1 hh;omega
     have hes:=ag_esc0 h hPb h92;cases hx:vR (blR P) () with
     | ok d q =>
      rw[hx] at hes;obtain ⟨v,rfl,v0,v1,g2,g3,g4,g5,g6⟩:=hes;have hg:zbq (f'+1) (f0 o s P) L=zbq f' (f0 o s q) (L++[(v,0)]):=by
       rw[pcs_go rfl (by rw[b2];exact n1) (by rw[b2,g6];show ¬v<0;omega),b2,g6]
      rw[hg];have:=ag_pcF h f f' q (L++[(v,0)]) g2 g5 (by omega) (by omega)
      rw[show q.1.db=P.1.db from g3] at this;exact this
     | bad q =>
      rw[hx] at hes;show _\/_
      rcases hes with ⟨c1,c2⟩|c1
      ·have hg:zbq (f'+1) (f0 o s P) L=zbq f' (vf (f0 o s (blR P))).2 (L++[((vf (f0 o s (blR P))).1,0)]):=by
        rw[pcs_go rfl (by rw[b2];exact n1) (by rw[b2];omega),b2]
       rw[hg,pcs_bad f' c1];exact .inl c1
      ·rw[znh rfl (by rw[b2];exact n1) (by rw[b2];exact c1),b2];exact .inr (by show ¬(blR P).1.k+o=s.size;omega)
    ·rw[if_neg h92];by_cases h36:nxV (blR P).1=36
     ·rw[if_pos h36];have n1:nxB (f0 o s (blR P)) dlT=true:=dl.2 h36;have hg:zbq (f'+1) (f0 o s P) L=zbq f' (pcD (f0 o s (blR P))) (L++[(0,pcN (f0 o s (blR P)))]):=by
       rw[pcs_dl rfl (by rw[b2];exact n1),b2]
      rw[hg];have hbl0:t.size<=(blR P).1.k+1->pcN (f0 o s (blR P))<1:=fun hh=>by
       unfold pcN;split
       ·rename_i hk2;have:=h.bl ((blR P).1.k+o+1) (by omega) hk2;show bAt s ((blR P).1.k+o+1) - 48<1;omega
       ·decide
      have hin:(blR P).1.k+1<t.size->pcN (f0 o s (blR P))=bAt t ((blR P).1.k+1) - 48:=fun hh=>by
       have g:=h.e.at hh;show (if (blR P).1.k+o+1<s.size then bAt s ((blR P).1.k+o+1) - 48 else -1)=_;rw[if_pos (by omega),show (blR P).1.k+o+1=(blR P).1.k+1+o by omega,g.2]
      by_cases hd:49<=nxV (yp (blR P) hkb).1/\nxV (yp (blR P) hkb).1<=56
      ·obtain ⟨hk2,hb2⟩:=un (p:=(yp (blR P) hkb).1) rfl (by omega)
       have hk3:(blR P).1.k+1<t.size:=by rw[<- hPb];exact hk2
       have hb3:nxV (yp (blR P) hkb).1=bAt t ((blR P).1.k+1):=by rw[zaz hk2];show bAt (blR P).1.s ((blR P).1.k+1)=_;rw[hPb]
       have hN:=hin hk3;rw[dif_pos hd];have hD:pcD (f0 o s (blR P))=f0 o s (yp (yp (blR P) hkb) hk2):=by
        show (⟨P.1.db,s,(blR P).1.k+o+2,decide (pcN (f0 o s (blR P))<1\/8<pcN (f0 o s (blR P)))⟩:FSt)=⟨P.1.db,s,(blR P).1.k+1+1+o,false⟩
        rw[decide_eq_false (by omega),show (blR P).1.k+o+2=(blR P).1.k+1+1+o by omega]
       rw[hD,hN,<- hb3];exact ag_pcF h f f' (yp (yp (blR P) hkb) hk2) _ hPb (by show (blR P).1.k+1+1<=_;omega) (by show _<=f+((blR P).1.k+1+1);omega) (by show _<=f'+((blR P).1.k+1+1);omega)
      ·rw[dif_neg hd];have hbad:(pcD (f0 o s (blR P))).bad=true:=by
        refine decide_eq_true ?_;by_cases hk3:(blR P).1.k+1<t.size
        ·have hb3:nxV (yp (blR P) hkb).1=bAt t ((blR P).1.k+1):=by rw[zaz (by show (blR P).1.k+1<(blR P).1.s.size;rw[hPb];exact hk3)];show bAt (blR P).1.s ((blR P).1.k+1)=_;rw[hPb]
         rw[hin hk3,<- hb3];omega
        ·exact .inl (hbl0 (by omega))
       rw[pcs_bad f' hbad];exact .inl hbad
     ·rw[if_neg h36];have n1:nxB (f0 o s (blR P)) dlT=false:=nx_f fun hh=>h36 (dl.1 hh)
      have hu:¬nxB (f0 o s (blR P)) uTx=true:=fun hh=>h92 (hv.trans ((nx3 h hPb (a:=92) (b:=117) (c:=123) (by decide) (by decide) (by decide)).1 hh).2.1)
      rw[znh rfl (by rw[b2];exact n1) (by rw[b2];exact zml (zi3 h hPb hL) hu),b2];exact .inr (by show ¬(blR P).1.k+o=s.size;omega)
  ·rw[dif_neg (by rw[b2,hP];omega)];have n1:nxB (bl0 (f0 o s P)) dlT=false:=by rw[b3];exact nx_f fun hh=>absurd (zea.1 hh).2.1 (Nat.lt_irrefl _)
   have hc:vf (bl0 (f0 o s P))=(-1,bl0 (f0 o s P)):=by
    rw[b3];refine zml (fun hh=>absurd hh (Nat.lt_irrefl _)) fun hh=>?_;have:s.size+3<=s.size:=(zi1.1 hh).2.1;omega
   rw[znh rfl n1 hc,b3];rfl
def AgX (r:Option Tl) (g:Tl × FSt):Prop:=match r with
 | some x=>g.1=x/\g.2.bad=false
 | none=>g.2.bad=true
theorem ag_rulE (h:Lin o t s) {q:RX}(ha:At o t s q p) (B M A:List (List Rg)):AgX (finP B M A q) (rulE B M A p):=by
 have hn:=at_nx h ha (b:=62) (by decide) (by decide)
 have hpb:p.bad=false:=by
  rcases ha.2 with ha2|ha2
  ·rw[ha2.2];rfl
  ·rw[ha2.2]
 have hps:p.s=s:=by
  rcases ha.2 with ha2|ha2
  ·rw[ha2.2];rfl
  ·rw[ha2.2]
 have hpd:p.db=q.1.db:=by
  rcases ha.2 with ha2|ha2
  ·rw[ha2.2];rfl
  ·rw[ha2.2]
 unfold finP rulE;by_cases hv:nxV q.1=62
 ·obtain ⟨r,r1,r2,r3,r4,r5⟩:=at_tk h ha (b:=62) (by decide) (by decide) hv;have r1:tkR q 62=r:=r1;have hg:nxB p gtT=true:=hn.2 hv;rw[if_pos hv,r1,if_neg (fun hh=>hh.elim (fun hh=>by rw[hpb] at hh;exact Bool.noConfusion hh) fun hh=>by rw[hg] at hh;exact Bool.noConfusion hh),r2];have hsz:=h.e.sz;have hpc:=ag_pcF h (r.1.s.size+2) (s.size+3) r [] r3 r4 (by rw[r3];omega) (by omega)
  have e1:pcsR (f0 o s r)=zbq (s.size+3) (f0 o s r) []:=rfl;have e2:zfh r=pcF (r.1.s.size+2) r []:=rfl;rw[e1,e2];cases hx:pcF (r.1.s.size+2) r [] with
  | ok L r2 =>
   rw[hx] at hpc;have hpc:zbq (s.size+3) (f0 o s r) []=(L,⟨r.1.db,s,s.size,false⟩):=hpc;rw[hpc];refine ⟨rfl,?_⟩
   show (false||decide (¬s.size=p.s.size))=false;rw[hps,decide_eq_false (fun hh=>hh rfl)];rfl
  | bad r2 =>
   rw[hx] at hpc;have hpc:(zbq (s.size+3) (f0 o s r) []).2.bad=true\/¬(zbq (s.size+3) (f0 o s r) []).2.k=s.size:=hpc
   show ((zbq (s.size+3) (f0 o s r) []).2.bad||decide (¬(zbq (s.size+3) (f0 o s r) []).2.k=p.s.size))=true;rw[hps];rcases hpc with hh|hh
   ·rw[hh];rfl
   ·rw[decide_eq_true hh,Bool.or_true]
 ·have hg:nxB p gtT=false:=nx_f fun hh=>hv (hn.1 hh)
  rw[if_neg hv,if_pos (.inr hg)];rfl
theorem els_at (h:Lin o t s) (hs:s.size<=990) {r:RX}(hr:r.1.s=t) (hk:r.1.k<=t.size):AgE o t s r.1.db (zat r) (zec (f0 o s r)):=by
 have hsz:=h.e.sz;exact zmx h hs (r.1.s.size+2) (s.size+3) r [] hr hk (by rw[hr];omega) (by omega)
theorem ag_rulA (h:Lin o t s) (hs:s.size<=990) {q:RX}(ha:At o t s q p) (B M:List (List Rg)):AgX (aftP B M q) (rulA B M p):=by
 have hn:=at_nx h ha (b:=125) (by decide) (by decide)
 unfold aftP rulA;by_cases hv:nxV q.1=125
 ·obtain ⟨r,r1,r2,r3,r4,r5⟩:=at_tk h ha (b:=125) (by decide) (by decide) hv;have r1:tkR q 125=r:=r1;rw[if_pos hv,r1,if_pos (show nxB p clT=true from hn.2 hv),r2];have he:=els_at h hs r3 r4;cases hx:zat r with
  | ok A q2 =>
   rw[hx] at he;obtain ⟨e1,e2,e3⟩:=he;rw[e1];exact ag_rulE h e2 B M A
  | bad q2 =>
   rw[hx] at he;exact dm_rulE he B M _
 ·rw[if_neg hv,if_neg (show ¬nxB p clT=true from fun hh=>hv (hn.1 hh))];exact ag_rulE h ha B M []
theorem ag_rul (h:Lin o t s) (hs:s.size<=990) (hP:P.1.s=t) (hk:P.1.k<=t.size):AgX (rulP P) (rulF (f0 o s P)):=by
 have he:=els_at h hs hP hk;unfold rulP rulF;cases hx:zat P with
 | bad q =>
  rw[hx] at he;have hd:Dm s (zec (f0 o s P)).2:=he;rw[if_neg (fun hh:nxB (zec (f0 o s P)).2 opT=true=>by rw[show nxB (zec (f0 o s P)).2 opT=false from dm_nx hd (by decide)] at hh;exact Bool.noConfusion hh)];exact dm_rulA hd [] _
 | ok M q =>
  rw[hx] at he;obtain ⟨e1,e2,e3⟩:=he;have hn:=at_nx h e2 (b:=123) (by decide) (by decide)
  dsimp only;by_cases hv:nxV q.1=123
  ·obtain ⟨r,r1,r2,r3,r4,r5⟩:=at_tk h e2 (b:=123) (by decide) (by decide) hv;have r1:tkR q 123=r:=r1;rw[if_pos hv,r1,if_pos (show nxB (zec (f0 o s P)).2 opT=true from hn.2 hv),r2,e1];have he2:=els_at h hs r3 r4;cases hy:zat r with
   | ok M2 q2 =>
    rw[hy] at he2;obtain ⟨c1,c2,c3⟩:=he2;rw[c1];exact ag_rulA h hs c2 M M2
   | bad q2 =>
    rw[hy] at he2;exact dm_rulA he2 M _
  ·rw[if_neg hv,if_neg (show ¬nxB (zec (f0 o s P)).2 opT=true from fun hh=>hv (hn.1 hh)),e1];exact ag_rulA h hs e2 [] M
theorem trim_end {s:ByteArray}:∀ n,n<=s.size->(∀ i,n<=i->i<s.size->bAt s i=32)->∃ e,e<=s.size/\(∀ i,e<=i->i<s.size->bAt s i=32)/\(0<e->¬bAt s (e - 1)=32)
 | 0,h,hb=>⟨0,h,hb,fun hh=>absurd hh (Nat.lt_irrefl _)⟩
 | n+1,h,hb=>by
  by_cases h32:bAt s n=32
  ·refine trim_end n (by omega) fun i hi hi2=>?_;by_cases hin:i=n
   ·subst hin;exact h32
   ·exact hb i (by omega) hi2
  ·exact ⟨n+1,h,hb,fun _=>h32⟩
theorem zka {s:ByteArray}{j:Nat}(h:s.data.toList[j]?=some b):j<s.size/\bAt s j=(b.toNat:Int):=by
 obtain ⟨h1,h2⟩:=List.getElem?_eq_some_iff.1 h;exact ⟨h1,by unfold bAt;rw[h];rfl⟩
theorem has32:([32]:List UInt8).contains b=true↔(b.toNat:Int)=32:=by
 rw[List.contains_iff_mem];constructor
 ·intro h;rw[List.mem_singleton.1 h];rfl
 ·intro h;rw[List.mem_singleton];exact UInt8.toNat_inj.1 (by show b.toNat=32;omega)
theorem no32 (h:¬(b.toNat:Int)=32):([32]:List UInt8).contains b=false:=by
 cases hh:([32]:List UInt8).contains b with
 | false=>rfl
 | true=>exact absurd (has32.1 hh) h
theorem line_lin (s:ByteArray):((zbm s).size=0/\blk s 0=s.size)\/(0<(zbm s).size/\blk s 0<s.size/\Lin (blk s 0) (zbm s) s):=by
 obtain ⟨e,e1,e2,e3⟩:=trim_end (s:=s) s.size (Nat.le_refl _) fun i hi hi2=>by omega
 have e1':e<=s.data.toList.length:=e1;have hR:Lib.trimRightS s.data.toList [32]=s.data.toList.take e:=Lib.trimRightS_take _ _ e e1' (fun j b hj hb=>by
  obtain ⟨g1,g2⟩:=zka hb;exact has32.2 (g2.symm.trans (e2 j hj g1))) (fun b h0 hb=>by
  obtain ⟨g1,g2⟩:=zka hb;exact no32 fun hh=>e3 h0 (g2.trans hh))
 by_cases h0:e=0
 ·subst h0;refine .inl ⟨?_,zoy _ 0 rfl (Nat.zero_le _) fun i hi hi2=>e2 i hi hi2⟩
  show (Lib.trimS s.data.toList [32]).length=0;unfold Lib.trimS;rw[hR];rfl
 ·have hk:=zae (s:=s) (s.size - 0) 0 (Nat.zero_le _)
  have hk1:blk s 0<=s.size:=hk.2;have hsp:∀ m,m<blk s 0->bAt s m=32:=fun m hm=>zoz _ 0 m (Nat.zero_le _) hm;have hend:=zj8 (s:=s) (s.size - 0) 0 (Nat.le_refl _) (Nat.zero_le _)
  have hke:blk s 0<e:=by
   rcases Nat.lt_or_ge (blk s 0) e with hh|hh
   ·exact hh
   ·exact absurd (hsp (e - 1) (by omega)) (e3 (by omega))
  have hL:Lib.trimS s.data.toList [32]=(s.data.toList.take e).drop (blk s 0):=by
   unfold Lib.trimS;rw[hR];refine Lib.trimLeftS_drop _ _ (blk s 0) (by rw[List.length_take];omega) (fun j b hj hb=>?_) (fun b hb=>?_)
   ·rw[List.getElem?_take,if_pos (by omega)] at hb;obtain ⟨g1,g2⟩:=zka hb;exact has32.2 (g2.symm.trans (hsp j hj))
   ·rw[List.getElem?_take,if_pos hke] at hb;obtain ⟨g1,g2⟩:=zka hb;exact no32 fun hh=>hend ⟨g1,g2.trans hh⟩
  have hT:zbm s=zN s (blk s 0) e:=by
   show ve (Lib.trimS s.data.toList [32])=_;rw[hL];rfl
  have hz:=za6 (s:=s) (k:=blk s 0) e1;rw[hT];refine .inr ⟨by omega,by omega,zjv (Nat.le_of_lt hke) e1,fun i hi hi2=>e2 i (by omega) hi2,fun _=>?_⟩
  rw[xA (by omega),show blk s 0+((zN s (blk s 0) e).size - 1)=e - 1 by omega];exact e3 (by omega)
theorem first35 {s:ByteArray}:∀ n k,s.size - k=n->k<=s.size->(∀ j,j<k->¬bAt s j=35)->∃ m,m<=s.size/\(∀ j,j<m->¬bAt s j=35)/\(m<s.size->bAt s m=35)
 | 0,k,hn,hk,h=>⟨k,hk,h,fun hh=>by omega⟩
 | n+1,k,hn,hk,h=>by
  by_cases h35:bAt s k=35
  ·exact ⟨k,hk,h,fun _=>h35⟩
  ·exact first35 n (k+1) (by omega) (by omega) fun j hj=>by
    by_cases hjk:j=k
    ·subst hjk;exact h35
    ·exact h j (by omega)
theorem cut_hash (s:ByteArray):(zb8 35 s).getD 0 default=vx s hash1/\0<(zb8 35 s).length:=by
 obtain ⟨m,m1,m2,m3⟩:=first35 (s:=s) _ 0 rfl (Nat.zero_le _) fun j hj=>by omega
 by_cases hm:m<s.size
 ·have h1:=zfb (c:=35) (s:=s) (f:=0) (k:=m) (Nat.zero_le _) hm (fun j _ hj=>m2 j hj) (m3 hm)
  have h2:=cut_at1 (s:=s) (c:=35) (k:=m) hm (m3 hm) m2;have e1:zb8 35 s=ve ((s.data.toList.take m).drop 0)::(ya 35 (s.data.toList.drop (m+1))).map ve:=by
   show (ya 35 (s.data.toList.drop 0)).map ve=_;rw[h1];rfl
  refine ⟨?_,by rw[e1];exact Nat.succ_pos _⟩
  rw[e1];show ve (s.data.toList.take m)=ve (Lib.cut s.data.toList [35]).1;rw[h2]
 ·have hno:∀ j,j<s.size->¬bAt s j=35:=fun j hj=>m2 j (by omega)
  have h1:=zik (c:=35) (s:=s) (f:=0) fun j _ hj=>hno j hj;have h2:=cut_none1 (s:=s) (c:=35) hno;have e1:zb8 35 s=[ve s.data.toList]:=by
   show (ya 35 (s.data.toList.drop 0)).map ve=_;rw[h1];rfl
  refine ⟨?_,by rw[e1];exact Nat.succ_pos _⟩
  rw[e1];show ve s.data.toList=ve (Lib.cut s.data.toList [35]).1;rw[h2]
noncomputable def prL (d:Db):List ByteArray->Nat->List Tl->List Tl × Int × Int
 | [],_,R=>(R,0,0)
 | l::ls,i,R =>
  if blk (vx l hash1) 0=(vx l hash1).size then prL d ls (i+1) R
  else if (rulF ⟨d,vx l hash1,blk (vx l hash1) 0,false⟩).2.bad=true then ([],3,((i+1:Nat):Int))
  else if chkB (R++[(rulF ⟨d,vx l hash1,blk (vx l hash1) 0,false⟩).1])=0 then prL d ls (i+1) (R++[(rulF ⟨d,vx l hash1,blk (vx l hash1) 0,false⟩).1])
  else ([],chkB (R++[(rulF ⟨d,vx l hash1,blk (vx l hash1) 0,false⟩).1]),((i+1:Nat):Int))
theorem prL_eq {d:Db}(hd:SmD d):∀ (ls:List ByteArray) (i:Nat) (R:List Tl),(∀ l∈ls,l.size<=990)->prL d ls i R=stpP d ls i R
 | [],_,_,_=>rfl
 | l::ls,i,R,h=>by
  have hl:=h l (by simp)
  have hls:∀ x∈ls,x.size<=990:=fun x hx=>h x (by simp[hx])
  have hc:=ze0 l;have hn:nrmB l=zbm (vx l hash1):=rfl;rw[prL,stpP,hn];rcases line_lin (vx l hash1) with ⟨h1,h2⟩|⟨h1,h2,h3⟩
  ·rw[if_pos h2,if_pos h1];exact prL_eq hd ls (i+1) R hls
  ·rw[if_neg (show ¬blk (vx l hash1) 0=(vx l hash1).size by omega),if_neg (show ¬(zbm (vx l hash1)).size=0 by omega)];have hz:(zbm (vx l hash1)).size<=65536:=by
    have:=h3.e.sz;omega
   have hP:lnP d (zbm (vx l hash1))=rulP ⟨⟨d,zbm (vx l hash1),0⟩,hd,Nat.zero_le _,hz⟩:=dif_pos ⟨hd,hz⟩
   have ha:=ag_rul h3 (by omega) (P:=⟨⟨d,zbm (vx l hash1),0⟩,hd,Nat.zero_le _,hz⟩) rfl (Nat.zero_le _)
   have e0:f0 (blk (vx l hash1) 0) (vx l hash1) (⟨⟨d,zbm (vx l hash1),0⟩,hd,Nat.zero_le _,hz⟩:RX)=⟨d,vx l hash1,blk (vx l hash1) 0,false⟩:=by
    show (⟨d,vx l hash1,0+blk (vx l hash1) 0,false⟩:FSt)=_;rw[Nat.zero_add]
   rw[e0] at ha;rw[hP];cases hx:rulP ⟨⟨d,zbm (vx l hash1),0⟩,hd,Nat.zero_le _,hz⟩ with
   | none =>
    rw[hx] at ha;rw[if_pos (show (rulF ⟨d,vx l hash1,blk (vx l hash1) 0,false⟩).2.bad=true from ha)]
   | some x =>
    rw[hx] at ha;obtain ⟨a1,a2⟩:=ha;rw[if_neg (show ¬(rulF ⟨d,vx l hash1,blk (vx l hash1) 0,false⟩).2.bad=true by rw[a2];exact fun hh=>Bool.noConfusion hh),a1];dsimp only;by_cases hk:chkB (R++[x])=0
    ·rw[if_pos hk,if_pos hk];exact prL_eq hd ls (i+1) (R++[x]) hls
    ·rw[if_neg hk,if_neg hk]
end Go.Proofs
