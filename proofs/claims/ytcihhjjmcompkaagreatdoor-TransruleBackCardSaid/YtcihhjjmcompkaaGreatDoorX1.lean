import Derived.Test.YtcihhjjmcompkaaGreatDoorX0
import Derived.Test.YtcihhjjmcompkaaGreatDoorUz
import Derived.Test.YtcihhjjmcompkaaGreatDoorQz
set_option linter.unusedVariables false
set_option linter.unusedSimpArgs false
namespace Go.Proofs
open Go Go.Sx
variable {mx:Int}{pb:Bool}
def dI:D→Int
 | .v (.int .i64 i)=>i
 | _=>0
def dW:D→ByteArray
 | .tu [.v (.string s),_]=>s
 | _=>⟨#[]⟩
def dN:D→Int
 | .tu [_,.v (.int .i64 i)]=>i
 | _=>0
inductive OutL where
 | ok (l:List Rg) (q:PX)
 | bad (e a:Int) (q:PX)
def OutL.p (f:List Rg→D):OutL→OutP
 | .ok l q=>.ok (f l) q
 | .bad e a q=>.bad e a q
theorem blkF_le {s:ByteArray}:∀ (n k:Nat),k≤s.size→k≤blkF s n k∧blkF s n k≤s.size
 | 0,k,h=>⟨Nat.le_refl _,h⟩
 | n+1,k,h=>by
  rw[blkF]
  split
  ·rename_i hk
   have:=blkF_le n (k+1) hk.1
   omega
  ·exact ⟨Nat.le_refl _,h⟩
def blP (p:PX):PX:=goTo p (blk p.1.s p.1.k) (blkF_le _ _ p.2.2.1).2
theorem zjo (p:PX):p.1.k≤(blP p).1.k:=(blkF_le _ _ p.2.2.1).1
def pre2 (p:PSt) (a b:Int):Bool:=decide (p.k+1<p.s.size∧bAt p.s p.k=a∧bAt p.s (p.k+1)=b)
noncomputable def ckd (p:PX):PX:=⟨{ p.1 with ch:=true,us:=usB p.1.db },⟨p.2.1.1,fun _=>rfl⟩,p.2.2⟩
def fstI (l:List ByteArray) (s:ByteArray):Nat:=l.findIdx fun a=>eqB a s
noncomputable def zfy (p:PX) (x:List ByteArray × ByteArray × Int):OutP :=
 if usB p.1.db=true∧fstI x.1 x.2.1<x.1.length then .ok (.v (.int .i64 (fstI x.1 x.2.1))) (ckd p) else .bad 6 x.2.2 (ckd p)
def setFl:List ByteArray:=[
 ⟨#[101,120,99,108,117,115,105,111,110,115]⟩,
 ⟨#[99,97,115,101,100]⟩,
 ⟨#[105,103,110,111,114,97,98,108,101]⟩,
 ⟨#[115,116,97,114,116]⟩,
 ⟨#[99,111,110,116,105,110,117,101]⟩,
 ⟨#[109,101,100,105,97,108]⟩]
def prFl:List ByteArray:=[
 ⟨#[99,97,116,101,103,111,114,121]⟩,
 ⟨#[119,105,100,116,104]⟩,
 ⟨#[115,99,114,105,112,116]⟩,
 ⟨#[103,114,97,112,104,101,109,101]⟩,
 ⟨#[119,111,114,100]⟩,
 ⟨#[115,101,110,116,101,110,99,101]⟩,
 ⟨#[108,105,110,101]⟩]
noncomputable def clsS (w:ByteArray) (st:Int) (q3:PX):OutL :=
 match zb8 q3 125 with
 | .bad e a q=>.bad e a q
 | .ok _ q4 =>
  match zfy q4 (setFl,w,st) with
  | .bad e a q=>.bad e a q
  | .ok d q5=>.ok (canon (q5.1.db.sts (dI d).toNat)) q5
noncomputable def clsV (w:ByteArray) (st:Int) (q4:PX):OutL :=
 match zfy q4 (prFl,w,st) with
 | .bad e a q=>.bad e a q
 | .ok d q5 =>
  match zei q5 () with
  | .bad e a q=>.bad e a q
  | .ok d2 q6 =>
   match zb8 q6 125 with
   | .bad e a q=>.bad e a q
   | .ok _ q7 =>
    if fndB (zc1 (q5.1.db.prs (dI d).toNat)).names (dW d2)=true then .ok (setV (q5.1.db.prs (dI d).toNat) (fndV (zc1 (q5.1.db.prs (dI d).toNat)).names (dW d2))) q7
    else .bad 6 (dN d2) q7
noncomputable def clsN (q2:PX):OutL :=
 match zei q2 () with
 | .bad e a q=>.bad e a q
 | .ok d q3 =>
  if h:pkV q3.1=61 then clsV (dW d) (dN d) (adv q3 (zbw h (by decide)).1) else clsS (dW d) (dN d) q3
noncomputable def zb0 (p:PX):OutL :=
 if h:p.1.k<p.1.s.size then
  match zb8 (adv p h) 112 with
  | .bad e a q=>.bad e a q
  | .ok _ q1 =>
   match zb8 q1 123 with
   | .bad e a q=>.bad e a q
   | .ok _ q2=>clsN q2
 else .bad 0 0 p
def itmP (c:Int) (p:PX):OutL :=
 match zc3 p () with
 | .bad e a r=>.bad e a r
 | .ok d r=>if dI d<c then .bad 3 p.1.k r else .ok [(c,dI d)] r
def itmC (c:Int) (p:PX):OutL :=
 if h:pkV p.1=45∧pre2 p.1 45 45=false then itmP c (blP (adv p (zbw h.1 (by decide)).1)) else .ok [(c,c)] p
noncomputable def zdg (p:PX):OutL :=
 if pre2 p.1 92 112=true then zb0 p
 else match zc3 p () with
  | .bad e a q=>.bad e a q
  | .ok d q=>itmC (dI d) (blP q)
noncomputable def zco (run:PX→OutL) (p:PX):OutL :=
 if pkV p.1=91 then run p else if pkV p.1=92 then zb0 p else .bad 3 p.1.k p
noncomputable def endG (neg:Bool) (S I:List Rg):List Rg :=
 if neg=true then zbg [(0,1114111)] (zbg S (canon I) 1) 3 else zbg S (canon I) 1
noncomputable def grpL (run:PX→OutL) (neg:Bool):Nat→PX→List Rg→List Rg→OutL
 | 0,p,_,_=>.bad 0 0 p
 | f+1,p0,S,I =>
  if h:pkV (blP p0).1=93 then .ok (endG neg S I) (adv (blP p0) (zbw h (by decide)).1)
  else if h:pkV (blP p0).1=45 then
   (if h2:pkV (adv (blP p0) (zbw h (by decide)).1).1=45 then
    match zco run (blP (adv (adv (blP p0) (zbw h (by decide)).1) (zbw h2 (by decide)).1)) with
    | .bad e a q=>.bad e a q
    | .ok L q=>grpL run neg f q (zbg (zbg S (canon I) 1) L 3) []
   else .bad 3 ((blP p0).1.k+1) (adv (blP p0) (zbw h (by decide)).1))
  else if h:pkV (blP p0).1=38 then
   (match zco run (blP (adv (blP p0) (zbw h (by decide)).1)) with
    | .bad e a q=>.bad e a q
    | .ok L q=>grpL run neg f q (zbg (zbg S (canon I) 1) L 2) [])
  else if pkV (blP p0).1=91 then
   (match run (blP p0) with
    | .bad e a q=>.bad e a q
    | .ok L q=>grpL run neg f q S (I++L))
  else
   (match zdg (blP p0) with
    | .bad e a q=>.bad e a q
    | .ok L q=>grpL run neg f q S (I++L))
noncomputable def za5:Nat→PX→OutL
 | 0,p=>.bad 13 p.1.k p
 | n+1,p =>
  if h:p.1.k<p.1.s.size then
   (if h2:pkV (blP (adv p h)).1=94 then grpL (za5 n) true (p.1.s.size+1) (adv (blP (adv p h)) (zbw h2 (by decide)).1) [] []
   else grpL (za5 n) false (p.1.s.size+1) (blP (adv p h)) [] [])
  else .bad 0 0 p
structure Went (p:PX) (L:List Rg) (q:PX):Prop where
 s:q.1.s=p.1.s
 db:q.1.db=p.1.db
 k:p.1.k<q.1.k
 len:L.length+6*nbk p.1.s p.1.k≤6*nbk p.1.s q.1.k
 canon:Canon L
structure Moved (p q:PX):Prop where
 s:q.1.s=p.1.s
 db:q.1.db=p.1.db
 k:p.1.k≤q.1.k
theorem Moved.trans {p q r:PX}(h:Moved p q) (h':Moved q r):Moved p r:=⟨h'.s.trans h.s,h'.db.trans h.db,Nat.le_trans h.k h'.k⟩
theorem Moved.refl (p:PX):Moved p p:=⟨rfl,rfl,Nat.le_refl _⟩
theorem Moved.bl (p:PX):Moved p (blP p):=⟨rfl,rfl,zjo p⟩
theorem Moved.adv (p:PX) (h:p.1.k<p.1.s.size):Moved p (adv p h):=⟨rfl,rfl,Nat.le_succ _⟩
theorem nbk_step (s:ByteArray) (k:Nat):nbk s k≤nbk s (k+1):=by show _≤_+_;omega
theorem nbk_mono {s:ByteArray}{k:Nat}:∀ {j:Nat},k≤j→nbk s k≤nbk s j
 | 0,h=>by rw[Nat.le_zero.1 h];exact Nat.le_refl _
 | j+1,h=>by
  rcases Nat.lt_or_ge j k with h1|h1
  ·rw[show k=j+1 by omega];exact Nat.le_refl _
  ·exact Nat.le_trans (nbk_mono h1) (nbk_step s j)
theorem nbk_one {s:ByteArray}{k j:Nat}(hb:bAt s k≠32) (h:k<j):nbk s k+1≤nbk s j:=by
 have h1:=nbk_mono (s:=s) (show k+1≤j from h)
 have h2:nbk s (k+1)=nbk s k+1:=by show nbk s k+_=_;rw[if_neg hb]
 omega
theorem zhg {p:PX}{b:Int}{d:D}{q:PX}(h:zb8 p b=.ok d q):∃ hk:p.1.k<p.1.s.size,pkV p.1=b∧q=adv p hk:=by
 unfold zb8 at h
 split at h
 ·rename_i hk
  simp at h
  exact ⟨hk.1,hk.2,h.2.symm⟩
 ·simp at h
theorem zgo {p:PX}{b:Int}{d:D}{q:PX}(h:zb8 p b=.ok d q):Moved p q∧p.1.k<q.1.k:=by
 obtain ⟨hk,_,rfl⟩:=zhg h
 exact ⟨Moved.adv _ _,Nat.lt_succ_self _⟩
theorem digR_k:∀ (f:Nat) {p:PX}{c:Int}{n:Nat}{d:D}{r:PX},digR f p c n=.ok d r→Moved p r
 | 0,p,c,n,d,r,h=>by simp[digR] at h
 | f+1,p,c,n,d,r,h=>by
  rw[digR] at h
  split at h
  ·rename_i hd
   split at h
   ·simp at h
   ·exact (Moved.adv p hd.1).trans (digR_k f h)
  ·split at h
   ·simp at h
   ·simp at h
    rw[← h.2]
    exact Moved.refl _
theorem runEsc_k {p:PX}{d:D}{r:PX}(h:zcp p ()=.ok d r):Moved p r:=by
 unfold zcp at h
 split at h
 ·rename_i h117
  split at h
  ·rename_i he
   split at h
   ·rename_i hd
    split at h
    ·rename_i hf
     simp at h
     rw[← h.2]
     exact (Moved.adv p (zbw h117 (by decide)).1).trans ((zgo he).1.trans ((digR_k 7 hd).trans (zgo hf).1))
    ·simp at h
   ·simp at h
  ·simp at h
 ·split at h
  ·rename_i hk
   simp at h
   rw[← h.2]
   exact Moved.adv p hk.1
  ·simp at h
theorem runChr_k {p:PX}{d:D}{r:PX}(h:zc3 p ()=.ok d r):Moved p r∧p.1.k<r.1.k∧bAt p.1.s p.1.k≠32:=by
 unfold zc3 at h
 split at h
 ·rename_i h92
  obtain ⟨hk,hb⟩:=zbw h92 (by decide)
  have h1:=runEsc_k h
  exact ⟨(Moved.adv p hk).trans h1,(by have:=h1.k;show p.1.k<_;have:p.1.k+1≤r.1.k:=this;omega),by omega⟩
 ·split at h
  ·rename_i hk
   simp at h
   rw[← h.2]
   have:=ze3 hk.1
   exact ⟨Moved.adv p hk.1,Nat.lt_succ_self _,by omega⟩
  ·simp at h
theorem zi2 {p:PX}{d:D}{q:PX}(h:zei p ()=.ok d q):wdE p.1.s p.1.k≠p.1.k∧q=wdP p∧d=.tu [.v (.string (zcd p.1.s p.1.k (wdE p.1.s p.1.k))),.v (.int .i64 p.1.k)]:=by
 unfold zei at h
 split at h
 ·simp at h
 ·rename_i hk
  simp at h
  exact ⟨hk,h.2.symm,h.1.symm⟩
theorem zeq {p:PX}{d:D}{q:PX}(h:zei p ()=.ok d q):Moved p q:=by
 obtain ⟨_,rfl,_⟩:=zi2 h
 exact ⟨rfl,rfl,(wdF_le _ _ p.2.2.1).1⟩
theorem zfx {p:PX}{x:List ByteArray × ByteArray × Int}{d:D}{q:PX}(h:zfy p x=.ok d q):d=.v (.int .i64 (fstI x.1 x.2.1))∧q=ckd p∧fstI x.1 x.2.1<x.1.length:=by
 unfold zfy at h
 split at h
 ·rename_i hk
  simp at h
  exact ⟨h.1.symm,h.2.symm,hk.2⟩
 ·simp at h
theorem runFnd_k {p:PX}{x:List ByteArray × ByteArray × Int}{d:D}{q:PX}(h:zfy p x=.ok d q):Moved p q:=by
 obtain ⟨_,rfl,_⟩:=zfx h
 exact ⟨rfl,rfl,Nat.le_refl _⟩
theorem asc_len:∀ {l m:List Int},l.Pairwise (· < ·)→(∀ x∈l,x∈m)→l.length≤m.length
 | [],m,_,_=>Nat.zero_le _
 | x::t,m,hp,hs=>by
  obtain ⟨h1,h2⟩:=List.pairwise_cons.1 hp
  have hx:=hs x (by simp)
  have:=asc_len (m:=m.erase x) h2 fun y hy=>by
   have h3:=h1 y hy
   exact (List.mem_erase_of_ne (by omega)).2 (hs y (by simp[hy]))
  rw[List.length_erase_of_mem hx] at this
  have:=List.length_pos_of_mem hx
  simp only[List.length_cons]
  omega
theorem start_no {l:List Rg}(h:Canon l) {r:Rg}(hr:r∈l):¬inR l (r.1 - 1):=by
 rintro ⟨t,ht,h1,h2⟩
 have h3:=h.ok r hr
 obtain ⟨i,hi,rfl⟩:=List.getElem_of_mem hr
 obtain ⟨j,hj,rfl⟩:=List.getElem_of_mem ht
 have hp:=List.pairwise_iff_getElem.1 h.sep
 rcases Nat.lt_trichotomy i j with e|e|e
 ·have:=hp i j hi hj e;omega
 ·subst e;omega
 ·have:=hp j i hj hi e;omega
theorem start_in {a:List Rg}{c:Int}(h1:zf8 a c=true) (h2:¬zf8 a (c - 1)=true):∃ r∈a,c=max r.1 0:=by
 obtain ⟨h3,r,hr,h4,h5⟩:=zdc.1 h1
 refine ⟨r,hr,?_⟩
 by_cases h6:r.1≤c - 1∧0≤c - 1
 ·exact absurd (zdc.2 ⟨⟨h6.2,by omega⟩,r,hr,h6.1,by omega⟩) h2
 ·omega
theorem end_in {b:List Rg}{c:Int}(h0:0≤c∧c≤1114111) (h1:¬zf8 b c=true) (h2:zf8 b (c - 1)=true):∃ r∈b,c=r.2+1:=by
 obtain ⟨h3,r,hr,h4,h5⟩:=zdc.1 h2
 refine ⟨r,hr,?_⟩
 by_cases h6:c≤r.2
 ·exact absurd (zdc.2 ⟨h0,r,hr,by omega,h6⟩) h1
 ·omega
theorem ze9 (a b:List Rg) (op:Int):(zbg a b op).length≤a.length+b.length:=by
 obtain ⟨hC,hm⟩:=ze8 a b op
 have hp:((zbg a b op).map Prod.fst).Pairwise (· < ·):=by
  rw[List.pairwise_map]
  refine List.Pairwise.imp_of_mem (fun {x y} hx hy hxy=>?_) hC.sep
  have:=hC.ok x hx
  have hxy:x.2+1<y.1:=hxy
  show x.1<y.1
  omega
 have:=asc_len (m:=a.map (fun r=>max r.1 0)++b.map (fun r=>if op=1∨op=2 then max r.1 0 else r.2+1)) hp fun x hx=>by
  obtain ⟨r,hr,rfl⟩:=List.mem_map.1 hx
  have h1:=hC.ok r hr
  obtain ⟨h2,h3⟩:=(hm r.1).1 ⟨r,hr,by omega,by omega⟩
  have h4:¬((0≤r.1 - 1∧r.1 - 1≤1114111)∧zf7 op (zf8 a (r.1 - 1)) (zf8 b (r.1 - 1))=true):=fun h=>start_no hC hr ((hm _).2 h)
  have h5:∀ l:List Rg,zf8 l (r.1 - 1)=true→0≤r.1 - 1∧r.1 - 1≤1114111:=fun l h=>(zdc.1 h).1
  rw[List.mem_append,List.mem_map,List.mem_map]
  have ha:zf8 a r.1=true→¬zf8 a (r.1 - 1)=true→∃ t∈a,max t.1 0=r.1:=fun x y=>by
   obtain ⟨t,t1,t2⟩:=start_in x y
   exact ⟨t,t1,t2.symm⟩
  have hb:zf8 b r.1=true→¬zf8 b (r.1 - 1)=true→∃ t∈b,max t.1 0=r.1:=fun x y=>by
   obtain ⟨t,t1,t2⟩:=start_in x y
   exact ⟨t,t1,t2.symm⟩
  have he:¬zf8 b r.1=true→zf8 b (r.1 - 1)=true→∃ t∈b,t.2+1=r.1:=fun x y=>by
   obtain ⟨t,t1,t2⟩:=end_in h2 x y
   exact ⟨t,t1,t2.symm⟩
  have ga:=h5 a
  have gb:=h5 b
  unfold zf7 at h3 h4
  by_cases o1:op=1
  ·subst o1
   simp only[if_true,Bool.or_eq_true,true_or] at h3 h4 ⊢
   rcases h3 with h3|h3
   ·exact .inl (ha h3 fun h=>h4 ⟨ga h,.inl h⟩)
   ·exact .inr (hb h3 fun h=>h4 ⟨gb h,.inr h⟩)
  ·by_cases o2:op=2
   ·subst o2
    simp only[if_neg o1,if_true,Bool.and_eq_true,or_true] at h3 h4 ⊢
    by_cases h6:zf8 a (r.1 - 1)=true
    ·exact .inr (hb h3.2 fun h=>h4 ⟨ga h6,h6,h⟩)
    ·exact .inl (ha h3.1 h6)
   ·have hn:¬(op=1∨op=2):=fun h=>h.elim o1 o2
    simp only[if_neg o1,if_neg o2,if_neg hn,Bool.and_eq_true,Bool.not_eq_true'] at h3 h4 ⊢
    by_cases h6:zf8 a (r.1 - 1)=true
    ·refine .inr (he (by rw[h3.2];decide) ?_)
     cases h7:zf8 b (r.1 - 1) with
     | true=>rfl
     | false=>exact absurd ⟨ga h6,h6,h7⟩ h4
    ·exact .inl (ha h3.1 h6)
 simpa using this
end Go.Proofs
namespace Go.Proofs
open Go Go.Sx
variable {mx:Int}{pb:Bool}
theorem setV_len (p:Pr) (v:Int):(setV p v).length≤p.spans.length+1:=by
 have h1:=zbh (valS v (zc1 p).spans)
 have h2:=valS_len v (zc1 p).spans
 have h3:(zc1 p).spans.length≤p.spans.length:=by
  rcases Bool.eq_false_or_eq_true (zb4 p) with h|h
  ·rw[cntP_t h];exact Nat.le_refl _
  ·rw[cntP_f h];exact Nat.zero_le _
 unfold setV
 split
 ·have:=ze9 [(0,1114111)] (canon (valS v (zc1 p).spans)) 3
  simp only[List.length_cons,List.length_nil] at this
  omega
 ·omega
theorem Moved.sm {p q:PX}(_:Moved p q):SmD q.1.db:=q.2.1.1
theorem clsS_k {w:ByteArray}{st:Int}{p q:PX}{L:List Rg}(h:clsS w st p=.ok L q):Moved p q∧L.length≤17∧Canon L:=by
 unfold clsS at h
 split at h
 ·simp at h
 ·rename_i d4 q4 he
  split at h
  ·simp at h
  ·rename_i hf
   simp at h
   obtain ⟨rfl,rfl⟩:=h
   obtain ⟨rfl,rfl,hi⟩:=zfx hf
   refine ⟨(zgo he).1.trans (runFnd_k hf),?_,za8 _⟩
   have h1:=zbh ((ckd q4).1.db.sts (dI (.v (.int .i64 (fstI setFl w)))).toNat)
   have h2:=(ckd q4).2.1.1.sts (dI (.v (.int .i64 (fstI setFl w)))).toNat (by
    show ((fstI setFl w:Nat):Int).toNat<6
    rw[Int.toNat_natCast];exact hi)
   exact Nat.le_trans h1 (Nat.le_trans h2 (by decide))
theorem clsV_k {w:ByteArray}{st:Int}{p q:PX}{L:List Rg}(h:clsV w st p=.ok L q):Moved p q∧L.length≤17∧Canon L:=by
 unfold clsV at h
 split at h
 ·simp at h
 ·rename_i d q5 hf
  split at h
  ·simp at h
  ·rename_i hw
   split at h
   ·simp at h
   ·rename_i he
    split at h
    ·simp at h
     obtain ⟨rfl,rfl⟩:=h
     obtain ⟨rfl,rfl,hi⟩:=zfx hf
     refine ⟨(runFnd_k hf).trans ((zeq hw).trans (zgo he).1),?_,setV_canon _ _⟩
     have h2:=(ckd p).2.1.1.prs (dI (.v (.int .i64 (fstI prFl w)))).toNat (by
      show ((fstI prFl w:Nat):Int).toNat<7
      rw[Int.toNat_natCast];exact hi)
     exact Nat.le_trans (setV_len _ _) (Nat.succ_le_succ h2.2)
    ·simp at h
theorem clsN_k {p q:PX}{L:List Rg}(h:clsN p=.ok L q):Moved p q∧L.length≤17∧Canon L:=by
 unfold clsN at h
 split at h
 ·simp at h
 ·rename_i hw
  split at h
  ·obtain ⟨h1,h2⟩:=clsV_k h
   exact ⟨(zeq hw).trans ((Moved.adv _ _).trans h1),h2⟩
  ·obtain ⟨h1,h2⟩:=clsS_k h
   exact ⟨(zeq hw).trans h1,h2⟩
theorem runCls_went {p q:PX}{L:List Rg}(h:zb0 p=.ok L q) (hb:bAt p.1.s p.1.k≠32):Went p L q:=by
 unfold zb0 at h
 split at h
 ·rename_i hk
  split at h
  ·simp at h
  ·rename_i h1
   split at h
   ·simp at h
   ·rename_i h2
    obtain ⟨g1,g2,g3⟩:=clsN_k h
    obtain ⟨k1,e1,rfl⟩:=zhg h1
    obtain ⟨k2,e2,rfl⟩:=zhg h2
    have k1':p.1.k+1<p.1.s.size:=k1
    have k2':p.1.k+2<p.1.s.size:=k2
    have e1:bAt p.1.s (p.1.k+1)=112:=by rw[ze3 k1] at e1;exact e1
    have e2:bAt p.1.s (p.1.k+2)=123:=by rw[ze3 k2] at e2;exact e2
    have a1:p.1.k+3≤q.1.k:=g1.k
    have n1:=nbk_one hb (show p.1.k<p.1.k+1 by omega)
    have n2:=nbk_one (s:=p.1.s) (k:=p.1.k+1) (by omega) (show p.1.k+1<p.1.k+2 by omega)
    have n3:=nbk_one (s:=p.1.s) (k:=p.1.k+2) (by omega) (show p.1.k+2<q.1.k by omega)
    exact ⟨g1.s,g1.db,by omega,by omega,g3⟩
 ·simp at h
theorem one_canon {a b:Int}(h0:0≤a) (h1:a≤b) (h2:b≤1114111):Canon [(a,b)] :=
 ⟨fun r hr=>by
  obtain rfl:r=(a,b):=by simpa using hr
  exact ⟨h0,h1,h2⟩,List.pairwise_singleton _ _⟩
theorem itmP_k {c:Int}{p q:PX}{L:List Rg}(h:itmP c p=.ok L q) (hc:0≤c):Moved p q∧L.length=1∧Canon L:=by
 unfold itmP at h
 split at h
 ·simp at h
 ·rename_i he
  split at h
  ·simp at h
  ·rename_i hlt
   simp at h
   obtain ⟨rfl,rfl⟩:=h
   obtain ⟨v,rfl,h0,h1⟩:=zi3 he
   exact ⟨(runChr_k he).1,rfl,one_canon hc (Int.not_lt.1 hlt) h1⟩
theorem itmC_k {c:Int}{p q:PX}{L:List Rg}(h:itmC c p=.ok L q) (hc:0≤c) (hc1:c≤1114111):Moved p q∧L.length=1∧Canon L:=by
 unfold itmC at h
 split at h
 ·obtain ⟨h1,h2⟩:=itmP_k h hc
  exact ⟨(Moved.adv _ _).trans ((Moved.bl _).trans h1),h2⟩
 ·simp at h
  obtain ⟨rfl,rfl⟩:=h
  exact ⟨Moved.refl _,rfl,one_canon hc (Int.le_refl _) hc1⟩
theorem pre2_at {p:PSt}{a b:Int}(h:pre2 p a b=true):p.k+1<p.s.size∧bAt p.s p.k=a∧bAt p.s (p.k+1)=b:=of_decide_eq_true h
theorem zgn {p q:PX}{L:List Rg}(h:zdg p=.ok L q):Went p L q:=by
 unfold zdg at h
 split at h
 ·rename_i hp
  have:=pre2_at hp
  exact runCls_went h (by omega)
 ·split at h
  ·simp at h
  ·rename_i he
   obtain ⟨v,rfl,h0,h1⟩:=zi3 he
   obtain ⟨m1,m2,m3⟩:=runChr_k he
   obtain ⟨g1,g2,g3⟩:=itmC_k h h0 h1
   have g:=m1.trans ((Moved.bl _).trans g1)
   have hk:p.1.k<q.1.k:=by
    have h1:=g1.k
    have h2:=zjo ‹PX›
    have h3:=((Moved.bl _).trans g1).k
    omega
   have:=nbk_one m3 hk
   exact ⟨g.s,g.db,hk,by omega,g3⟩
def RunOk (run:PX→OutL):Prop:=∀ p q L,pkV p.1=91→run p=.ok L q→Went p L q
theorem zcn {run:PX→OutL}(hr:RunOk run) {p q:PX}{L:List Rg}(h:zco run p=.ok L q):Went p L q:=by
 unfold zco at h
 split at h
 ·rename_i h91
  exact hr p q L h91 h
 ·split at h
  ·rename_i h92
   have:=(zbw h92 (by decide)).2
   exact runCls_went h (by omega)
  ·simp at h
theorem endG_canon (neg:Bool) (S I:List Rg):Canon (endG neg S I):=by
 unfold endG
 split
 ·exact (ze8 _ _ _).1
 ·exact (ze8 _ _ _).1
theorem endG_len (neg:Bool) (S I:List Rg):(endG neg S I).length≤S.length+I.length+1:=by
 have h1:=ze9 S (canon I) 1
 have h2:=zbh I
 unfold endG
 split
 ·have:=ze9 [(0,1114111)] (zbg S (canon I) 1) 3
  simp only[List.length_cons,List.length_nil] at this
  omega
 ·omega
theorem Moved.nb {p q:PX}(h:Moved p q):nbk p.1.s p.1.k≤nbk p.1.s q.1.k:=nbk_mono h.k
structure GrpAt (z:PX) (p:PX) (S I:List Rg):Prop where
 s:p.1.s=z.1.s
 db:p.1.db=z.1.db
 k:z.1.k<p.1.k
 len:S.length+I.length+1+6*nbk z.1.s z.1.k≤6*nbk z.1.s p.1.k
theorem GrpAt.bl {z p:PX}{S I:List Rg}(h:GrpAt z p S I):GrpAt z (blP p) S I :=
 ⟨h.s,h.db,Nat.lt_of_lt_of_le h.k (zjo p),Nat.le_trans h.len (Nat.mul_le_mul_left _ (nbk_mono (zjo p)))⟩
theorem GrpAt.adv {z p:PX}{S I:List Rg}(h:GrpAt z p S I) (hk:p.1.k<p.1.s.size):GrpAt z (adv p hk) S I :=
 ⟨h.s,h.db,Nat.lt_succ_of_lt h.k,Nat.le_trans h.len (Nat.mul_le_mul_left _ (nbk_step _ _))⟩
theorem GrpAt.add {z p q:PX}{S I L:List Rg}(h:GrpAt z p S I) (w:Went p L q):GrpAt z q S (I++L):=by
 have h1:=h.len
 have h2:=w.len
 rw[h.s] at h2
 exact ⟨w.s.trans h.s,w.db.trans h.db,Nat.lt_trans h.k w.k,by rw[List.length_append];omega⟩
theorem GrpAt.op {z p q:PX}{S I L:List Rg}(h:GrpAt z p S I) (w:Went p L q) (op:Int):GrpAt z q (zbg (zbg S (canon I) 1) L op) []:=by
 have h1:=h.len
 have h2:=w.len
 rw[h.s] at h2
 have h3:=ze9 (zbg S (canon I) 1) L op
 have h4:=ze9 S (canon I) 1
 have h5:=zbh I
 exact ⟨w.s.trans h.s,w.db.trans h.db,Nat.lt_trans h.k w.k,by simp only[List.length_nil];omega⟩
theorem nbk_le {s:ByteArray}:∀ k,nbk s k≤k
 | 0=>Nat.le_refl _
 | k+1=>by
  have:=nbk_le (s:=s) k
  show nbk s k+_≤_
  split<;>omega
theorem GrpAt.bound {z p:PX}{S I:List Rg}(h:GrpAt z p S I):S.length+I.length≤393216:=by
 have h1:=h.len
 have h2:=nbk_le (s:=z.1.s) p.1.k
 have h3:=p.2.2.1
 have h4:=p.2.2.2
 omega
theorem Went.bound {p q:PX}{L:List Rg}(h:Went p L q):L.length≤393216:=by
 have h1:=h.len
 have h2:=nbk_le (s:=p.1.s) q.1.k
 have h3:=q.2.2.1
 have h4:=q.2.2.2
 omega
theorem zf9 {run:PX→OutL}(hr:RunOk run) {neg:Bool}{z:PX}:∀ (f:Nat) {p q:PX}{S I L:List Rg},grpL run neg f p S I=.ok L q→GrpAt z p S I→Went z L q
 | 0,p,q,S,I,L,h,_=>by simp[grpL] at h
 | f+1,p,q,S,I,L,h,hz=>by
  rw[grpL] at h
  split at h
  ·rename_i h93
   simp at h
   obtain ⟨rfl,rfl⟩:=h
   obtain ⟨hk,hb⟩:=zbw h93 (by decide)
   have hg:=hz.bl
   have h1:=hg.len
   have h2:=endG_len neg S I
   have h3:=nbk_step z.1.s (blP p).1.k
   exact ⟨hg.s,hg.db,Nat.lt_succ_of_lt hg.k,(by show _≤6*nbk z.1.s ((blP p).1.k+1);omega),endG_canon _ _ _⟩
  ·split at h
   ·split at h
    ·split at h
     ·simp at h
     ·rename_i he
      exact zf9 hr f h (GrpAt.op (((hz.bl.adv _).adv _).bl) (zcn hr he) 3)
    ·simp at h
   ·split at h
    ·split at h
     ·simp at h
     ·rename_i he
      exact zf9 hr f h (GrpAt.op ((hz.bl.adv _).bl) (zcn hr he) 2)
    ·split at h
     ·rename_i h91
      split at h
      ·simp at h
      ·rename_i he
       exact zf9 hr f h (GrpAt.add hz.bl (hr _ _ _ h91 he))
     ·split at h
      ·simp at h
      ·rename_i he
       exact zf9 hr f h (GrpAt.add hz.bl (zgn he))
theorem grp_at0 {p:PX}(h:pkV p.1=91) (hk:p.1.k<p.1.s.size):GrpAt p (adv p hk) [] []:=by
 have hb:=(zbw h (by decide)).2
 have:=nbk_one (s:=p.1.s) (k:=p.1.k) (j:=p.1.k+1) (by omega) (by omega)
 refine ⟨rfl,rfl,Nat.lt_succ_self _,?_⟩
 show 0+0+1+_≤6*nbk p.1.s (p.1.k+1)
 omega
theorem zbs:∀ n,RunOk (za5 n)
 | 0=>fun p q L _ h=>by simp[za5] at h
 | n+1=>fun p q L h91 h=>by
  have hr:=zbs n
  rw[za5] at h
  split at h
  ·rename_i hk
   split at h
   ·exact zf9 hr _ h ((grp_at0 h91 hk).bl.adv _)
   ·exact zf9 hr _ h (grp_at0 h91 hk).bl
  ·simp at h
end Go.Proofs
