import Derived.Test.YtnimkdbpoeondaaGreatDoorX0
import Derived.Test.YtnimkdbpoeondaaGreatDoorUz
set_option linter.all false
namespace Go.Proofs
open Go Go.Sx
variable {L:List Rg}{x:List ByteArray × ByteArray × Int}{q:PX}{d:D}{c:Int}
variable {mx:Int}{pb:Bool}
def dI:D->Int
 | .v (.int .i64 i)=>i
 | _=>0
def dW:D->ByteArray
 | .tu [.v (.string s),_]=>s
 | _=>⟨#[]⟩
def dN:D->Int
 | .tu [_,.v (.int .i64 i)]=>i
 | _=>0
inductive OutL where
 | ok (l:List Rg) (q:PX)
 | bad (e a:Int) (q:PX)
def OutL.p (f:List Rg->D):OutL->OutP
 | .ok l q=>.ok (f l) q
 | .bad e a q=>.bad e a q
theorem zae {s:ByteArray}:∀ (n k:Nat),k<=s.size->k<=blkF s n k/\blkF s n k<=s.size
 | 0,k,h=>⟨Nat.le_refl _,h⟩
 | n+1,k,h=>by
  rw[blkF];split
  ·rename_i hk;have:=zae n (k+1) hk.1;omega
  ·exact ⟨Nat.le_refl _,h⟩
def blP (p:PX):PX:=goTo p (blk p.1.s p.1.k) (zae _ _ p.2.2.1).2
theorem vM (p:PX):p.1.k<=(blP p).1.k:=(zae _ _ p.2.2.1).1
def zeo (p:PSt) (a b:Int):Bool:=decide (p.k+1<p.s.size/\bAt p.s p.k=a/\bAt p.s (p.k+1)=b)
noncomputable def ckd (p:PX):PX:=⟨{ p.1 with ch:=true,us:=usB p.1.db },⟨p.2.1.1,fun _=>rfl⟩,p.2.2⟩
def ut (l:List ByteArray) (s:ByteArray):Nat:=l.findIdx fun a=>eqB a s
noncomputable def ux (p:PX) (x:List ByteArray × ByteArray × Int):OutP :=
 if usB p.1.db=true/\ut x.1 x.2.1<x.1.length then .ok (.v (.int .i64 (ut x.1 x.2.1))) (ckd p) else .bad 6 x.2.2 (ckd p)
def setFl:List ByteArray:=[
 ⟨#[101,120,99,108,117,115,105,111,110,115]⟩,
 ⟨#[99,97,115,101,100]⟩,
 ⟨#[105,103,110,111,114,97,98,108,101]⟩,
 ⟨#[115,116,97,114,116]⟩,
 ⟨#[99,111,110,116,105,110,117,101]⟩,
 ⟨#[109,101,100,105,97,108]⟩]
def prFl:List ByteArray:=[
 ⟨#[99,97,116,101,103,111,114,121]⟩,
 ⟨#[119,105,100,116,104]⟩,
 ⟨#[115,99,114,105,112,116]⟩,
 ⟨#[103,114,97,112,104,101,109,101]⟩,
 ⟨#[119,111,114,100]⟩,
 ⟨#[115,101,110,116,101,110,99,101]⟩,
 ⟨#[108,105,110,101]⟩]
noncomputable def clsS (w:ByteArray) (st:Int) (q3:PX):OutL :=
 match yc q3 125 with
 | .bad e a q=>.bad e a q
 | .ok _ q4 =>
  match ux q4 (setFl,w,st) with
  | .bad e a q=>.bad e a q
  | .ok d q5=>.ok (canon (q5.1.db.sts (dI d).toNat)) q5
noncomputable def clsV (w:ByteArray) (st:Int) (q4:PX):OutL :=
 match ux q4 (prFl,w,st) with
 | .bad e a q=>.bad e a q
 | .ok d q5 =>
  match xp q5 () with
  | .bad e a q=>.bad e a q
  | .ok d2 q6 =>
   match yc q6 125 with
   | .bad e a q=>.bad e a q
   | .ok _ q7 =>
    if zn7 (ym (q5.1.db.prs (dI d).toNat)).names (dW d2)=true then .ok (setV (q5.1.db.prs (dI d).toNat) (fndV (ym (q5.1.db.prs (dI d).toNat)).names (dW d2))) q7
    else .bad 6 (dN d2) q7
noncomputable def clsN (q2:PX):OutL :=
 match xp q2 () with
 | .bad e a q=>.bad e a q
 | .ok d q3 =>
  if h:pkV q3.1=61 then clsV (dW d) (dN d) (adv q3 (zI h (by decide)).1) else clsS (dW d) (dN d) q3
noncomputable def zV (p:PX):OutL :=
 if h:p.1.k<p.1.s.size then
  match yc (adv p h) 112 with
  | .bad e a q=>.bad e a q
  | .ok _ q1 =>
   match yc q1 123 with
   | .bad e a q=>.bad e a q
   | .ok _ q2=>clsN q2
 else .bad 0 0 p
def itmP (c:Int) (p:PX):OutL :=
 match yD p () with
 | .bad e a r=>.bad e a r
 | .ok d r=>if dI d<c then .bad 3 p.1.k r else .ok [(c,dI d)] r
def itmC (c:Int) (p:PX):OutL :=
 if h:pkV p.1=45/\zeo p.1 45 45=false then itmP c (blP (adv p (zI h.1 (by decide)).1)) else .ok [(c,c)] p
noncomputable def xh (p:PX):OutL :=
 if zeo p.1 92 112=true then zV p
 else match yD p () with
  | .bad e a q=>.bad e a q
  | .ok d q=>itmC (dI d) (blP q)
noncomputable def yA (run:PX->OutL) (p:PX):OutL :=
 if pkV p.1=91 then run p else if pkV p.1=92 then zV p else .bad 3 p.1.k p
noncomputable def endG (neg:Bool) (S I:List Rg):List Rg :=
 if neg=true then zr [(0,1114111)] (zr S (canon I) 1) 3 else zr S (canon I) 1
noncomputable def zdt (run:PX->OutL) (neg:Bool):Nat->PX->List Rg->List Rg->OutL
 | 0,p,_,_=>.bad 0 0 p
 | f+1,p0,S,I =>
  if h:pkV (blP p0).1=93 then .ok (endG neg S I) (adv (blP p0) (zI h (by decide)).1)
  else if h:pkV (blP p0).1=45 then
   (if h2:pkV (adv (blP p0) (zI h (by decide)).1).1=45 then
    match yA run (blP (adv (adv (blP p0) (zI h (by decide)).1) (zI h2 (by decide)).1)) with
    | .bad e a q=>.bad e a q
    | .ok L q=>zdt run neg f q (zr (zr S (canon I) 1) L 3) []
   else .bad 3 ((blP p0).1.k+1) (adv (blP p0) (zI h (by decide)).1))
  else if h:pkV (blP p0).1=38 then
   (match yA run (blP (adv (blP p0) (zI h (by decide)).1)) with
    | .bad e a q=>.bad e a q
    | .ok L q=>zdt run neg f q (zr (zr S (canon I) 1) L 2) [])
  else if pkV (blP p0).1=91 then
   (match run (blP p0) with
    | .bad e a q=>.bad e a q
    | .ok L q=>zdt run neg f q S (I++L))
  else
   (match xh (blP p0) with
    | .bad e a q=>.bad e a q
    | .ok L q=>zdt run neg f q S (I++L))
noncomputable def zB:Nat->PX->OutL
 | 0,p=>.bad 13 p.1.k p
 | n+1,p =>
  if h:p.1.k<p.1.s.size then
   (if h2:pkV (blP (adv p h)).1=94 then zdt (zB n) true (p.1.s.size+1) (adv (blP (adv p h)) (zI h2 (by decide)).1) [] []
   else zdt (zB n) false (p.1.s.size+1) (blP (adv p h)) [] [])
  else .bad 0 0 p
structure Went (p:PX) (L:List Rg) (q:PX):Prop where
 s:q.1.s=p.1.s
 db:q.1.db=p.1.db
 k:p.1.k<q.1.k
 len:L.length+6*nbk p.1.s p.1.k<=6*nbk p.1.s q.1.k
 canon:Canon L
structure Moved (p q:PX):Prop where
 s:q.1.s=p.1.s
 db:q.1.db=p.1.db
 k:p.1.k<=q.1.k
theorem Moved.trans {p q r:PX}(h:Moved p q) (h':Moved q r):Moved p r:=⟨h'.s.trans h.s,h'.db.trans h.db,Nat.le_trans h.k h'.k⟩
theorem Moved.refl (p:PX):Moved p p:=⟨rfl,rfl,Nat.le_refl _⟩
theorem Moved.bl (p:PX):Moved p (blP p):=⟨rfl,rfl,vM p⟩
theorem Moved.adv (p:PX) (h:p.1.k<p.1.s.size):Moved p (adv p h):=⟨rfl,rfl,Nat.le_succ _⟩
theorem zi5 (s:ByteArray) (k:Nat):nbk s k<=nbk s (k+1):=by show _<=_+_;omega
theorem zer {s:ByteArray}{k:Nat}:∀ {j:Nat},k<=j->nbk s k<=nbk s j
 | 0,h=>by rw[Nat.le_zero.1 h];exact Nat.le_refl _
 | j+1,h=>by
  rcases Nat.lt_or_ge j k with h1|h1
  ·rw[show k=j+1 by omega];exact Nat.le_refl _
  ·exact Nat.le_trans (zer h1) (zi5 s j)
theorem zfq {s:ByteArray}{k j:Nat}(hb:bAt s k≠32) (h:k<j):nbk s k+1<=nbk s j:=by
 have h1:=zer (s:=s) (show k+1<=j from h)
 have h2:nbk s (k+1)=nbk s k+1:=by show nbk s k+_=_;rw[if_neg hb]
 omega
theorem zco {p:PX}{b:Int}(h:yc p b=.ok d q):∃ hk:p.1.k<p.1.s.size,pkV p.1=b/\q=adv p hk:=by
 unfold yc at h;split at h
 ·rename_i hk;simp at h;exact ⟨hk.1,hk.2,h.2.symm⟩
 ·simp at h
theorem uG {p:PX}{b:Int}(h:yc p b=.ok d q):Moved p q/\p.1.k<q.1.k:=by
 obtain ⟨hk,_,rfl⟩:=zco h;exact ⟨Moved.adv _ _,Nat.lt_succ_self _⟩
theorem digR_k:∀ (f:Nat) {p:PX}{c:Int}{n:Nat}{d:D}{r:PX},zd0 f p c n=.ok d r->Moved p r
 | 0,p,c,n,d,r,h=>by simp[zd0] at h
 | f+1,p,c,n,d,r,h=>by
  rw[zd0] at h;split at h
  ·rename_i hd;split at h
   ·simp at h
   ·exact (Moved.adv p hd.1).trans (digR_k f h)
  ·split at h
   ·simp at h
   ·simp at h;rw[<- h.2];exact Moved.refl _
theorem runEsc_k {p:PX}{r:PX}(h:yM p ()=.ok d r):Moved p r:=by
 unfold yM at h;split at h
 ·rename_i h117;split at h
  ·rename_i he;split at h
   ·rename_i hd;split at h
    ·rename_i hf;simp at h;rw[<- h.2];exact (Moved.adv p (zI h117 (by decide)).1).trans ((uG he).1.trans ((digR_k 7 hd).trans (uG hf).1))
    ·simp at h
   ·simp at h
  ·simp at h
 ·split at h
  ·rename_i hk;simp at h;rw[<- h.2];exact Moved.adv p hk.1
  ·simp at h
theorem zcp {p:PX}{r:PX}(h:yD p ()=.ok d r):Moved p r/\p.1.k<r.1.k/\bAt p.1.s p.1.k≠32:=by
 unfold yD at h;split at h
 ·rename_i h92;obtain ⟨hk,hb⟩:=zI h92 (by decide)
  have h1:=runEsc_k h;exact ⟨(Moved.adv p hk).trans h1,(by have:=h1.k;show p.1.k<_;have:p.1.k+1<=r.1.k:=this;omega),by omega⟩
 ·split at h
  ·rename_i hk;simp at h;rw[<- h.2];have:=yE hk.1;exact ⟨Moved.adv p hk.1,Nat.lt_succ_self _,by omega⟩
  ·simp at h
theorem zar {p:PX}(h:xp p ()=.ok d q):wdE p.1.s p.1.k≠p.1.k/\q=wdP p/\d=.tu [.v (.string (zN p.1.s p.1.k (wdE p.1.s p.1.k))),.v (.int .i64 p.1.k)]:=by
 unfold xp at h;split at h
 ·simp at h
 ·rename_i hk;simp at h;exact ⟨hk,h.2.symm,h.1.symm⟩
theorem uF {p:PX}(h:xp p ()=.ok d q):Moved p q:=by
 obtain ⟨_,rfl,_⟩:=zar h;exact ⟨rfl,rfl,(ze4 _ _ p.2.2.1).1⟩
theorem uS {p:PX}(h:ux p x=.ok d q):d=.v (.int .i64 (ut x.1 x.2.1))/\q=ckd p/\ut x.1 x.2.1<x.1.length:=by
 unfold ux at h;split at h
 ·rename_i hk;simp at h;exact ⟨h.1.symm,h.2.symm,hk.2⟩
 ·simp at h
theorem zio {p:PX}(h:ux p x=.ok d q):Moved p q:=by
 obtain ⟨_,rfl,_⟩:=uS h;exact ⟨rfl,rfl,Nat.le_refl _⟩
theorem asc_len:∀ {l m:List Int},l.Pairwise (· < ·)->(∀ x∈l,x∈m)->l.length<=m.length
 | [],m,_,_=>Nat.zero_le _
 | x::t,m,hp,hs=>by
  obtain ⟨h1,h2⟩:=List.pairwise_cons.1 hp;have hx:=hs x (by simp)
  have:=asc_len (m:=m.erase x) h2 fun y hy=>by
   have h3:=h1 y hy;exact (List.mem_erase_of_ne (by omega)).2 (hs y (by simp[hy]))
  rw[List.length_erase_of_mem hx] at this;have:=List.length_pos_of_mem hx;simp only[List.length_cons];omega
theorem start_no {l:List Rg}(h:Canon l) {r:Rg}(hr:r∈l):¬inR l (r.1 - 1):=by
 rintro ⟨t,ht,h1,h2⟩
 have h3:=h.ok r hr;obtain ⟨i,hi,rfl⟩:=List.getElem_of_mem hr;obtain ⟨j,hj,rfl⟩:=List.getElem_of_mem ht;have hp:=List.pairwise_iff_getElem.1 h.sep;rcases Nat.lt_trichotomy i j with e|e|e
 ·have:=hp i j hi hj e;omega
 ·subst e;omega
 ·have:=hp j i hj hi e;omega
theorem start_in {a:List Rg}(h1:yr a c=true) (h2:¬yr a (c - 1)=true):∃ r∈a,c=max r.1 0:=by
 obtain ⟨h3,r,hr,h4,h5⟩:=yd.1 h1;refine ⟨r,hr,?_⟩
 by_cases h6:r.1<=c - 1/\0<=c - 1
 ·exact absurd (yd.2 ⟨⟨h6.2,by omega⟩,r,hr,h6.1,by omega⟩) h2
 ·omega
theorem end_in {b:List Rg}(h0:0<=c/\c<=1114111) (h1:¬yr b c=true) (h2:yr b (c - 1)=true):∃ r∈b,c=r.2+1:=by
 obtain ⟨h3,r,hr,h4,h5⟩:=yd.1 h2;refine ⟨r,hr,?_⟩
 by_cases h6:c<=r.2
 ·exact absurd (yd.2 ⟨h0,r,hr,by omega,h6⟩) h1
 ·omega
theorem xL (a b:List Rg) (op:Int):(zr a b op).length<=a.length+b.length:=by
 obtain ⟨hC,hm⟩:=yN a b op;have hp:((zr a b op).map Prod.fst).Pairwise (· < ·):=by
  rw[List.pairwise_map];refine List.Pairwise.imp_of_mem (fun {x y} hx hy hxy=>?_) hC.sep;have:=hC.ok x hx;have hxy:x.2+1<y.1:=hxy;show x.1<y.1;omega
 have:=asc_len (m:=a.map (fun r=>max r.1 0)++b.map (fun r=>if op=1\/op=2 then max r.1 0 else r.2+1)) hp fun x hx=>by
  obtain ⟨r,hr,rfl⟩:=List.mem_map.1 hx;have h1:=hC.ok r hr;obtain ⟨h2,h3⟩:=(hm r.1).1 ⟨r,hr,by omega,by omega⟩
  have h4:¬((0<=r.1 - 1/\r.1 - 1<=1114111)/\zX op (yr a (r.1 - 1)) (yr b (r.1 - 1))=true):=fun h=>start_no hC hr ((hm _).2 h)
  have h5:∀ l:List Rg,yr l (r.1 - 1)=true->0<=r.1 - 1/\r.1 - 1<=1114111:=fun l h=>(yd.1 h).1
  rw[List.mem_append,List.mem_map,List.mem_map];have ha:yr a r.1=true->¬yr a (r.1 - 1)=true->∃ t∈a,max t.1 0=r.1:=fun x y=>by
   obtain ⟨t,t1,t2⟩:=start_in x y;exact ⟨t,t1,t2.symm⟩
  have hb:yr b r.1=true->¬yr b (r.1 - 1)=true->∃ t∈b,max t.1 0=r.1:=fun x y=>by
   obtain ⟨t,t1,t2⟩:=start_in x y;exact ⟨t,t1,t2.symm⟩
  have he:¬yr b r.1=true->yr b (r.1 - 1)=true->∃ t∈b,t.2+1=r.1:=fun x y=>by
   obtain ⟨t,t1,t2⟩:=end_in h2 x y;exact ⟨t,t1,t2.symm⟩
  have ga:=h5 a;have gb:=h5 b;unfold zX at h3 h4;by_cases o1:op=1
  ·subst o1;simp only[if_true,Bool.or_eq_true,true_or] at h3 h4 ⊢;rcases h3 with h3|h3
   ·exact .inl (ha h3 fun h=>h4 ⟨ga h,.inl h⟩)
   ·exact .inr (hb h3 fun h=>h4 ⟨gb h,.inr h⟩)
  ·by_cases o2:op=2
   ·subst o2;simp only[if_neg o1,if_true,Bool.and_eq_true,or_true] at h3 h4 ⊢;by_cases h6:yr a (r.1 - 1)=true
    ·exact .inr (hb h3.2 fun h=>h4 ⟨ga h6,h6,h⟩)
    ·exact .inl (ha h3.1 h6)
   ·have hn:¬(op=1\/op=2):=fun h=>h.elim o1 o2;simp only[if_neg o1,if_neg o2,if_neg hn,Bool.and_eq_true,Bool.not_eq_true'] at h3 h4 ⊢;by_cases h6:yr a (r.1 - 1)=true
    ·refine .inr (he (by rw[h3.2];decide) ?_)
     cases h7:yr b (r.1 - 1) with
     | true=>rfl
     | false=>exact absurd ⟨ga h6,h6,h7⟩ h4
    ·exact .inl (ha h3.1 h6)
 simpa using this
theorem setV_len (p:Pr) (v:Int):(setV p v).length<=p.spans.length+1:=by
 have h1:=zK (zg9 v (ym p).spans)
 have h2:=zee v (ym p).spans;have h3:(ym p).spans.length<=p.spans.length:=by
  rcases Bool.eq_false_or_eq_true (zT p) with h|h
  ·rw[zd1 h];exact Nat.le_refl _
  ·rw[zd2 h];exact Nat.zero_le _
 unfold setV;split
 ·have:=xL [(0,1114111)] (canon (zg9 v (ym p).spans)) 3;simp only[List.length_cons,List.length_nil] at this;omega
 ·omega
theorem Moved.sm {p q:PX}(_:Moved p q):SmD q.1.db:=q.2.1.1
theorem clsS_k {w:ByteArray}{st:Int}{p q:PX}(h:clsS w st p=.ok L q):Moved p q/\L.length<=17/\Canon L:=by
 unfold clsS at h;split at h
 ·simp at h
 ·rename_i d4 q4 he;split at h
  ·simp at h
  ·rename_i hf;simp at h;obtain ⟨rfl,rfl⟩:=h;obtain ⟨rfl,rfl,hi⟩:=uS hf;refine ⟨(uG he).1.trans (zio hf),?_,zO _⟩
   have h1:=zK ((ckd q4).1.db.sts (dI (.v (.int .i64 (ut setFl w)))).toNat)
   have h2:=(ckd q4).2.1.1.sts (dI (.v (.int .i64 (ut setFl w)))).toNat (by
    show ((ut setFl w:Nat):Int).toNat<6;rw[Int.toNat_natCast];exact hi)
   exact Nat.le_trans h1 (Nat.le_trans h2 (by decide))
theorem clsV_k {w:ByteArray}{st:Int}{p q:PX}(h:clsV w st p=.ok L q):Moved p q/\L.length<=17/\Canon L:=by
 unfold clsV at h;split at h
 ·simp at h
 ·rename_i d q5 hf;split at h
  ·simp at h
  ·rename_i hw;split at h
   ·simp at h
   ·rename_i he;split at h
    ·simp at h;obtain ⟨rfl,rfl⟩:=h;obtain ⟨rfl,rfl,hi⟩:=uS hf;refine ⟨(zio hf).trans ((uF hw).trans (uG he).1),?_,setV_canon _ _⟩
     have h2:=(ckd p).2.1.1.prs (dI (.v (.int .i64 (ut prFl w)))).toNat (by
      show ((ut prFl w:Nat):Int).toNat<7;rw[Int.toNat_natCast];exact hi)
     exact Nat.le_trans (setV_len _ _) (Nat.succ_le_succ h2.2)
    ·simp at h
theorem clsN_k {p q:PX}(h:clsN p=.ok L q):Moved p q/\L.length<=17/\Canon L:=by
 unfold clsN at h;split at h
 ·simp at h
 ·rename_i hw;split at h
  ·obtain ⟨h1,h2⟩:=clsV_k h;exact ⟨(uF hw).trans ((Moved.adv _ _).trans h1),h2⟩
  ·obtain ⟨h1,h2⟩:=clsS_k h;exact ⟨(uF hw).trans h1,h2⟩
theorem zfi {p q:PX}(h:zV p=.ok L q) (hb:bAt p.1.s p.1.k≠32):Went p L q:=by
 unfold zV at h;split at h
 ·rename_i hk;split at h
  ·simp at h
  ·rename_i h1;split at h
   ·simp at h
   ·rename_i h2;obtain ⟨g1,g2,g3⟩:=clsN_k h;obtain ⟨k1,e1,rfl⟩:=zco h1;obtain ⟨k2,e2,rfl⟩:=zco h2;have k1':p.1.k+1<p.1.s.size:=k1;have k2':p.1.k+2<p.1.s.size:=k2;have e1:bAt p.1.s (p.1.k+1)=112:=by rw[yE k1] at e1;exact e1
    have e2:bAt p.1.s (p.1.k+2)=123:=by rw[yE k2] at e2;exact e2
    have a1:p.1.k+3<=q.1.k:=g1.k;have n1:=zfq hb (show p.1.k<p.1.k+1 by omega)
    have n2:=zfq (s:=p.1.s) (k:=p.1.k+1) (by omega) (show p.1.k+1<p.1.k+2 by omega)
    have n3:=zfq (s:=p.1.s) (k:=p.1.k+2) (by omega) (show p.1.k+2<q.1.k by omega)
    exact ⟨g1.s,g1.db,by omega,by omega,g3⟩
 ·simp at h
theorem zfn {a b:Int}(h0:0<=a) (h1:a<=b) (h2:b<=1114111):Canon [(a,b)] :=
 ⟨fun r hr=>by
  obtain rfl:r=(a,b):=by simpa using hr
  exact ⟨h0,h1,h2⟩,List.pairwise_singleton _ _⟩
theorem itmP_k {p q:PX}(h:itmP c p=.ok L q) (hc:0<=c):Moved p q/\L.length=1/\Canon L:=by
 unfold itmP at h;split at h
 ·simp at h
 ·rename_i he;split at h
  ·simp at h
  ·rename_i hlt;simp at h;obtain ⟨rfl,rfl⟩:=h;obtain ⟨v,rfl,h0,h1⟩:=vA he;exact ⟨(zcp he).1,rfl,zfn hc (Int.not_lt.1 hlt) h1⟩
theorem itmC_k {p q:PX}(h:itmC c p=.ok L q) (hc:0<=c) (hc1:c<=1114111):Moved p q/\L.length=1/\Canon L:=by
 unfold itmC at h;split at h
 ·obtain ⟨h1,h2⟩:=itmP_k h hc;exact ⟨(Moved.adv _ _).trans ((Moved.bl _).trans h1),h2⟩
 ·simp at h;obtain ⟨rfl,rfl⟩:=h;exact ⟨Moved.refl _,rfl,zfn hc (Int.le_refl _) hc1⟩
theorem zca {p:PSt}{a b:Int}(h:zeo p a b=true):p.k+1<p.s.size/\bAt p.s p.k=a/\bAt p.s (p.k+1)=b:=of_decide_eq_true h
theorem xy {p q:PX}(h:xh p=.ok L q):Went p L q:=by
 unfold xh at h;split at h
 ·rename_i hp;have:=zca hp;exact zfi h (by omega)
 ·split at h
  ·simp at h
  ·rename_i he;obtain ⟨v,rfl,h0,h1⟩:=vA he;obtain ⟨m1,m2,m3⟩:=zcp he;obtain ⟨g1,g2,g3⟩:=itmC_k h h0 h1;have g:=m1.trans ((Moved.bl _).trans g1)
   have hk:p.1.k<q.1.k:=by
    have h1:=g1.k;have h2:=vM ‹PX›
    have h3:=((Moved.bl _).trans g1).k;omega
   have:=zfq m3 hk;exact ⟨g.s,g.db,hk,by omega,g3⟩
def RunOk (run:PX->OutL):Prop:=∀ p q L,pkV p.1=91->run p=.ok L q->Went p L q
theorem ye {run:PX->OutL}(hr:RunOk run) {p q:PX}(h:yA run p=.ok L q):Went p L q:=by
 unfold yA at h;split at h
 ·rename_i h91;exact hr p q L h91 h
 ·split at h
  ·rename_i h92;have:=(zI h92 (by decide)).2;exact zfi h (by omega)
  ·simp at h
theorem endG_canon (neg:Bool) (S I:List Rg):Canon (endG neg S I):=by
 unfold endG;split
 ·exact (yN _ _ _).1
 ·exact (yN _ _ _).1
theorem endG_len (neg:Bool) (S I:List Rg):(endG neg S I).length<=S.length+I.length+1:=by
 have h1:=xL S (canon I) 1;have h2:=zK I;unfold endG;split
 ·have:=xL [(0,1114111)] (zr S (canon I) 1) 3;simp only[List.length_cons,List.length_nil] at this;omega
 ·omega
theorem Moved.nb {p q:PX}(h:Moved p q):nbk p.1.s p.1.k<=nbk p.1.s q.1.k:=zer h.k
structure GrpAt (z:PX) (p:PX) (S I:List Rg):Prop where
 s:p.1.s=z.1.s
 db:p.1.db=z.1.db
 k:z.1.k<p.1.k
 len:S.length+I.length+1+6*nbk z.1.s z.1.k<=6*nbk z.1.s p.1.k
theorem GrpAt.bl {z p:PX}{S I:List Rg}(h:GrpAt z p S I):GrpAt z (blP p) S I :=
 ⟨h.s,h.db,Nat.lt_of_lt_of_le h.k (vM p),Nat.le_trans h.len (Nat.mul_le_mul_left _ (zer (vM p)))⟩
theorem GrpAt.adv {z p:PX}{S I:List Rg}(h:GrpAt z p S I) (hk:p.1.k<p.1.s.size):GrpAt z (adv p hk) S I :=
 ⟨h.s,h.db,Nat.lt_succ_of_lt h.k,Nat.le_trans h.len (Nat.mul_le_mul_left _ (zi5 _ _))⟩
theorem GrpAt.add {z p q:PX}{S I L:List Rg}(h:GrpAt z p S I) (w:Went p L q):GrpAt z q S (I++L):=by
 have h1:=h.len;have h2:=w.len;rw[h.s] at h2;exact ⟨w.s.trans h.s,w.db.trans h.db,Nat.lt_trans h.k w.k,by rw[List.length_append];omega⟩
theorem GrpAt.op {z p q:PX}{S I L:List Rg}(h:GrpAt z p S I) (w:Went p L q) (op:Int):GrpAt z q (zr (zr S (canon I) 1) L op) []:=by
 have h1:=h.len;have h2:=w.len;rw[h.s] at h2;have h3:=xL (zr S (canon I) 1) L op;have h4:=xL S (canon I) 1;have h5:=zK I;exact ⟨w.s.trans h.s,w.db.trans h.db,Nat.lt_trans h.k w.k,by simp only[List.length_nil];omega⟩
theorem nbk_le {s:ByteArray}:∀ k,nbk s k<=k
 | 0=>Nat.le_refl _
 | k+1=>by
  have:=nbk_le (s:=s) k;show nbk s k+_<=_;split<;>omega
theorem GrpAt.bound {z p:PX}{S I:List Rg}(h:GrpAt z p S I):S.length+I.length<=393216:=by
 have h1:=h.len;have h2:=nbk_le (s:=z.1.s) p.1.k;have h3:=p.2.2.1;have h4:=p.2.2.2;omega
theorem Went.bound {p q:PX}(h:Went p L q):L.length<=393216:=by
 have h1:=h.len;have h2:=nbk_le (s:=p.1.s) q.1.k;have h3:=q.2.2.1;have h4:=q.2.2.2;omega
theorem vF {run:PX->OutL}(hr:RunOk run) {neg:Bool}{z:PX}:∀ (f:Nat) {p q:PX}{S I L:List Rg},zdt run neg f p S I=.ok L q->GrpAt z p S I->Went z L q
 | 0,p,q,S,I,L,h,_=>by simp[zdt] at h
 | f+1,p,q,S,I,L,h,hz=>by
  rw[zdt] at h;split at h
  ·rename_i h93;simp at h;obtain ⟨rfl,rfl⟩:=h;obtain ⟨hk,hb⟩:=zI h93 (by decide)
   have hg:=hz.bl;have h1:=hg.len;have h2:=endG_len neg S I;have h3:=zi5 z.1.s (blP p).1.k;exact ⟨hg.s,hg.db,Nat.lt_succ_of_lt hg.k,(by show _<=6*nbk z.1.s ((blP p).1.k+1);omega),endG_canon _ _ _⟩
  ·split at h
   ·split at h
    ·split at h
     ·simp at h
     ·rename_i he;exact vF hr f h (GrpAt.op (((hz.bl.adv _).adv _).bl) (ye hr he) 3)
    ·simp at h
   ·split at h
    ·split at h
     ·simp at h
     ·rename_i he;exact vF hr f h (GrpAt.op ((hz.bl.adv _).bl) (ye hr he) 2)
    ·split at h
     ·rename_i h91;split at h
      ·simp at h
      ·rename_i he;exact vF hr f h (GrpAt.add hz.bl (hr _ _ _ h91 he))
     ·split at h
      ·simp at h
      ·rename_i he;exact vF hr f h (GrpAt.add hz.bl (xy he))
theorem znw {p:PX}(h:pkV p.1=91) (hk:p.1.k<p.1.s.size):GrpAt p (adv p hk) [] []:=by
 have hb:=(zI h (by decide)).2;have:=zfq (s:=p.1.s) (k:=p.1.k) (j:=p.1.k+1) (by omega) (by omega)
 refine ⟨rfl,rfl,Nat.lt_succ_self _,?_⟩
 show 0+0+1+_<=6*nbk p.1.s (p.1.k+1)
 omega
theorem zQ:∀ n,RunOk (zB n)
 | 0=>fun p q L _ h=>by simp[zB] at h
 | n+1=>fun p q L h91 h=>by
  have hr:=zQ n;rw[zB] at h;split at h
  ·rename_i hk;split at h
   ·exact vF hr _ h ((znw h91 hk).bl.adv _)
   ·exact vF hr _ h (znw h91 hk).bl
  ·simp at h
end Go.Proofs
