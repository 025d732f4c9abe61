import Derived.Test.YtnimkdbpoeondaaGreatDoorX1
set_option linter.all false
namespace Go.Proofs
open Go Go.Sx
variable {e a:Int}{p:PX}{q:PX}{st:Int}
variable {mx:Int}{pb:Bool}
structure Emb (o:Nat) (s s':ByteArray):Prop where
 sz:s.size+o<=s'.size
 b:∀ i,i<s.size->bAt s' (i+o)=bAt s i
structure Rl (o:Nat) (p p':PX):Prop where
 e:Emb o p.1.s p'.1.s
 db:p'.1.db=p.1.db
 k:p'.1.k=p.1.k+o
theorem Rl.lt {o:Nat}{p p':PX}(h:Rl o p p') (hk:p.1.k<p.1.s.size):p'.1.k<p'.1.s.size:=by
 have h1:=h.e.sz;have h2:=h.k;omega
theorem Rl.adv {o:Nat}{p p':PX}(h:Rl o p p') (hk:p.1.k<p.1.s.size) (hk':p'.1.k<p'.1.s.size):Rl o (adv p hk) (adv p' hk'):=
 ⟨h.e,h.db,(by have:=h.k;show p'.1.k+1=p.1.k+1+o;omega)⟩
theorem Rl.ckd {o:Nat}{p p':PX}(h:Rl o p p'):Rl o (ckd p) (ckd p'):=⟨h.e,h.db,h.k⟩
theorem blk_emb {o:Nat}{s s':ByteArray}(h:Emb o s s'):∀ (n k:Nat),s.size - k=n->k<=s.size->blk s k<s.size->blk s' (k+o)=blk s k+o
 | 0,k,hn,hk,hb=>by
  rw[yz (s:=s) (k:=k) (fun hh=>by omega)] at hb ⊢;exact absurd hb (by omega)
 | n+1,k,hn,hk,hb=>by
  have hlt:k<s.size:=by omega
  by_cases h32:bAt s k=32
  ·rw[<- uI hlt h32] at hb ⊢;have e:bAt s' (k+o)=32:=(h.b k hlt).trans h32;rw[<- uI (s:=s') (k:=k+o) (by have:=h.sz;omega) e,show k+o+1=k+1+o by omega];exact blk_emb h n (k+1) (by omega) hlt hb
  ·rw[yz (fun hh=>h32 hh.2),yz (fun hh=>h32 ((h.b k hlt).symm.trans hh.2))]
theorem Rl.bl {o:Nat}{p p':PX}(h:Rl o p p') (hk:(blP p).1.k<p.1.s.size):Rl o (blP p) (blP p'):=
 ⟨h.e,h.db,(by show blk p'.1.s p'.1.k=blk p.1.s p.1.k+o;rw[h.k];exact blk_emb h.e _ _ rfl p.2.2.1 hk)⟩
theorem Went.mv {p q:PX}{L:List Rg}(h:Went p L q):Moved p q:=⟨h.s,h.db,Nat.le_of_lt h.k⟩
theorem Went.mv' {p q:PX}{L:List Rg}(h:Went p L q):Moved p q:=⟨h.s,h.db,Nat.le_of_lt h.k⟩
def OkS (d:Db) (s:ByteArray):Prop:=SmD d/\s.size<=65536
def yY (d:Db) (s:ByteArray) (h:OkS d s):PX:=⟨⟨d,false,false,s,0⟩,⟨h.1,fun hh=>Bool.noConfusion hh⟩,Nat.zero_le _,h.2⟩
noncomputable def prsE (p q:PX) (L:List Rg):List Rg × Int × Int:=if (blP q).1.k<p.1.s.size then ([],3,(blP q).1.k) else (L,0,0)
noncomputable def prsP (p:PX):List Rg × Int × Int :=
 if pkV (blP p).1=91 then
  match zB 17 (blP p) with
  | .bad e a _=>([],e,a)
  | .ok L q=>prsE p q L
 else ([],3,(blP p).1.k)
open Classical in
noncomputable def prs (d:Db) (s:ByteArray):List Rg × Int × Int:=if h:OkS d s then prsP (yY d s h) else ([],2,0)
theorem zk7 {d:Db}{s:ByteArray}(h:OkS d s):prs d s=prsP (yY d s h):=dif_pos h
structure Whole (d:Db) (s:ByteArray) (h:OkS d s) (L:List Rg) (q:PX):Prop where
 b:pkV (blP (yY d s h)).1=91
 r:zB 17 (blP (yY d s h))=.ok L q
 e:(blP q).1.k=s.size
 w:Went (blP (yY d s h)) L q
theorem blP_id (h:¬(p.1.k<p.1.s.size/\bAt p.1.s p.1.k=32)):blP p=p:=by
 obtain ⟨⟨db,ch,us,s,k⟩,hp⟩:=p;unfold blP goTo;congr 1;exact congrArg (PSt.mk db ch us s) (yz h)
theorem zj8 {s:ByteArray}:∀ (n k:Nat),s.size - k<=n->k<=s.size->¬(blkF s n k<s.size/\bAt s (blkF s n k)=32)
 | 0,k,hn,hk=>by rw[blkF];omega
 | n+1,k,hn,hk=>by
  rw[blkF];split
  ·rename_i h;exact zj8 n (k+1) (by omega) h.1
  ·rename_i h;exact h
theorem blP_idem (p:PX):blP (blP p)=blP p:=blP_id (zj8 _ _ (Nat.le_refl _) p.2.2.1)
def BadI (p:PX) (e a:Int):Prop:=(e=3/\(p.1.k:Int)<=a/\a<=p.1.s.size)\/(e=6/\0<=a/\a<p.1.s.size)\/(e=13/\0<=a/\a<p.1.s.size/\bAt p.1.s a.toNat=91)
theorem BadI.mv {p q:PX}(m:Moved p q) (h:BadI q e a):BadI p e a:=by
 unfold BadI at h ⊢;rw[m.s] at h;have:=m.k;rcases h with ⟨h1,h2,h3⟩|h|h
 ·exact .inl ⟨h1,by omega,h3⟩
 ·exact .inr (.inl h)
 ·exact .inr (.inr h)
theorem BadI.here (p:PX):BadI p 3 p.1.k:=.inl ⟨rfl,Int.le_refl _,by have:=p.2.2.1;omega⟩
theorem BadI.code (h:BadI p e a):e≠0:=by
 rcases h with h|h|h<;>omega
theorem exp_bad {b e a:Int}(h:yc p b=.bad e a q):e=3/\a=p.1.k:=by
 unfold yc at h;split at h
 ·simp at h
 ·simp at h;exact ⟨h.1.symm,h.2.1.symm⟩
theorem zbh {b e a:Int}(h:yc p b=.bad e a q):BadI p e a:=by
 obtain ⟨rfl,rfl⟩:=exp_bad h;exact BadI.here p
theorem dig_badI:∀ (f:Nat) {p:PX}{c:Int}{n:Nat}{e a:Int}{r:PX},zd0 f p c n=.bad e a r->BadI p e a
 | 0,p,c,n,e,a,r,h=>by simp[zd0] at h;obtain ⟨rfl,rfl,_⟩:=h;exact BadI.here p
 | f+1,p,c,n,e,a,r,h=>by
  rw[zd0] at h;split at h
  ·split at h
   ·simp at h;obtain ⟨rfl,rfl,_⟩:=h;exact BadI.here p
   ·exact (dig_badI f h).mv (Moved.adv _ _)
  ·split at h
   ·simp at h;obtain ⟨rfl,rfl,_⟩:=h;exact BadI.here p
   ·simp at h
theorem esc_badI (h:yM p ()=.bad e a q):BadI p e a:=by
 unfold yM at h;split at h
 ·refine BadI.mv (Moved.adv p (zI (by assumption) (by decide)).1) ?_;split at h
  ·rename_i he;refine BadI.mv (uG he).1 ?_;split at h
   ·rename_i hd;refine BadI.mv (digR_k 7 hd) ?_;split at h
    ·simp at h
    ·rename_i hf;simp at h;obtain ⟨rfl,rfl,_⟩:=h;exact zbh hf
   ·rename_i hf;simp at h;obtain ⟨rfl,rfl,_⟩:=h;exact dig_badI 7 hf
  ·rename_i hf;simp at h;obtain ⟨rfl,rfl,_⟩:=h;exact zbh hf
 ·split at h
  ·simp at h
  ·simp at h;obtain ⟨rfl,rfl,_⟩:=h;exact BadI.here p
theorem chr_badI (h:yD p ()=.bad e a q):BadI p e a:=by
 unfold yD at h;split at h
 ·exact (esc_badI h).mv (Moved.adv _ _)
 ·split at h
  ·simp at h
  ·simp at h;obtain ⟨rfl,rfl,_⟩:=h;exact BadI.here p
theorem wrd_badI (h:xp p ()=.bad e a q):BadI p e a:=by
 unfold xp at h;split at h
 ·simp at h;obtain ⟨rfl,rfl,_⟩:=h;exact BadI.here p
 ·simp at h
theorem fnd_bad {x:List ByteArray × ByteArray × Int}(h:ux p x=.bad e a q):e=6/\a=x.2.2/\q=ckd p:=by
 unfold ux at h;split at h
 ·simp at h
 ·simp at h;exact ⟨h.1.symm,h.2.1.symm,h.2.2.symm⟩
def InS (p:PX) (st:Int):Prop:=0<=st/\st<p.1.s.size
theorem InS.badI (h:InS p st):BadI p 6 st:=.inr (.inl ⟨rfl,h⟩)
theorem InS.mv {p q:PX}(m:Moved p q) (h:InS p st):InS q st:=by unfold InS at h ⊢;rw[m.s];exact h
theorem wrd_in {d:D}(h:xp p ()=.ok d q):InS p (dN d):=by
 obtain ⟨h1,_,rfl⟩:=zar h;have h2:=ze4 (s:=p.1.s) (p.1.s.size - p.1.k) p.1.k p.2.2.1;have h2:p.1.k<=wdE p.1.s p.1.k/\wdE p.1.s p.1.k<=p.1.s.size:=h2
 show 0<=(p.1.k:Int)/\(p.1.k:Int)<p.1.s.size
 omega
theorem clsS_badI {w:ByteArray}(hst:InS p st) (h:clsS w st p=.bad e a q):BadI p e a:=by
 unfold clsS at h;split at h
 ·rename_i hf;simp at h;obtain ⟨rfl,rfl,_⟩:=h;exact zbh hf
 ·rename_i he;split at h
  ·rename_i hf;simp at h;obtain ⟨rfl,rfl,_⟩:=h;obtain ⟨rfl,rfl,_⟩:=fnd_bad hf;exact hst.badI
  ·simp at h
theorem clsV_badI {w:ByteArray}(hst:InS p st) (h:clsV w st p=.bad e a q):BadI p e a:=by
 unfold clsV at h;split at h
 ·rename_i hf;simp at h;obtain ⟨rfl,rfl,_⟩:=h;obtain ⟨rfl,rfl,_⟩:=fnd_bad hf;exact hst.badI
 ·rename_i hf0;refine BadI.mv (zio hf0) ?_;split at h
  ·rename_i hf;simp at h;obtain ⟨rfl,rfl,_⟩:=h;exact wrd_badI hf
  ·rename_i hw;split at h
   ·rename_i hf;simp at h;obtain ⟨rfl,rfl,_⟩:=h;exact (zbh hf).mv (uF hw)
   ·split at h
    ·simp at h
    ·simp at h;obtain ⟨rfl,rfl,_⟩:=h;exact (wrd_in hw).badI
theorem clsN_badI (h:clsN p=.bad e a q):BadI p e a:=by
 unfold clsN at h;split at h
 ·rename_i hf;simp at h;obtain ⟨rfl,rfl,_⟩:=h;exact wrd_badI hf
 ·rename_i hw;refine BadI.mv (uF hw) ?_;split at h
  ·exact (clsV_badI (((wrd_in hw).mv (uF hw)).mv (Moved.adv _ _)) h).mv (Moved.adv _ _)
  ·exact clsS_badI ((wrd_in hw).mv (uF hw)) h
theorem cls_badI (hk:p.1.k<p.1.s.size) (h:zV p=.bad e a q):BadI (adv p hk) e a:=by
 unfold zV at h;rw[dif_pos hk] at h;split at h
 ·rename_i hf;simp at h;obtain ⟨rfl,rfl,_⟩:=h;exact zbh hf
 ·rename_i h1;refine BadI.mv (uG h1).1 ?_;split at h
  ·rename_i hf;simp at h;obtain ⟨rfl,rfl,_⟩:=h;exact zbh hf
  ·rename_i h2;exact (clsN_badI h).mv (uG h2).1
theorem itmP_badI {c:Int}(h:itmP c p=.bad e a q):BadI p e a:=by
 unfold itmP at h;split at h
 ·rename_i hf;simp at h;obtain ⟨rfl,rfl,_⟩:=h;exact chr_badI hf
 ·split at h
  ·simp at h;obtain ⟨rfl,rfl,_⟩:=h;exact BadI.here p
  ·simp at h
theorem itmC_badI {c:Int}(h:itmC c p=.bad e a q):BadI p e a:=by
 unfold itmC at h;split at h
 ·exact (itmP_badI h).mv ((Moved.adv _ _).trans (Moved.bl _))
 ·simp at h
theorem itm_badI (h:xh p=.bad e a q):BadI p e a:=by
 unfold xh at h;split at h
 ·rename_i hp;exact (cls_badI (by have:=zca hp;omega) h).mv (Moved.adv _ _)
 ·split at h
  ·rename_i hf;simp at h;obtain ⟨rfl,rfl,_⟩:=h;exact chr_badI hf
  ·rename_i hc;exact (itmC_badI h).mv ((zcp hc).1.trans (Moved.bl _))
def RunB (run:PX->OutL):Prop:=∀ p e a q,pkV p.1=91->run p=.bad e a q->BadI p e a/\(e=3->(p.1.k:Int)+1<=a)
theorem opd_badI {run:PX->OutL}(hB:RunB run) (h:yA run p=.bad e a q):BadI p e a:=by
 unfold yA at h;split at h
 ·rename_i h91;exact (hB _ _ _ _ h91 h).1
 ·split at h
  ·rename_i h92;exact (cls_badI (zI h92 (by decide)).1 h).mv (Moved.adv _ _)
  ·simp at h;obtain ⟨rfl,rfl,_⟩:=h;exact BadI.here p
theorem vG {run:PX->OutL}(hR:RunOk run) (hB:RunB run) {neg:Bool}:∀ (f:Nat) {p:PX}{S I:List Rg}{e a:Int}{q:PX},p.1.s.size<f+p.1.k->zdt run neg f p S I=.bad e a q->BadI (blP p) e a
 | 0,p,S,I,e,a,q,hf,_=>by have:=p.2.2.1;omega
 | f+1,p,S,I,e,a,q,hf,h=>by
  have hb:=vM p;have hsz:(blP p).1.s.size=p.1.s.size:=rfl;rw[zdt] at h;split at h
  ·simp at h
  ·split at h
   ·split at h
    ·split at h
     ·rename_i he;simp at h;obtain ⟨rfl,rfl,_⟩:=h;exact (opd_badI hB he).mv ((Moved.adv _ _).trans ((Moved.adv _ _).trans (Moved.bl _)))
     ·rename_i h45 h45b _ L1 q1 he;have w:=ye hR he;have m:=(Moved.adv (blP p) (zI h45 (by decide)).1).trans ((Moved.adv _ (zI h45b (by decide)).1).trans (Moved.bl _))
      have h1:=m.k;have h2:=w.k;exact (vG hR hB f (by rw[w.s];show p.1.s.size<_;omega) h).mv (m.trans (w.mv'.trans (Moved.bl _)))
    ·rename_i h45 h45b;simp at h;obtain ⟨rfl,rfl,_⟩:=h;obtain ⟨k45,_⟩:=zI h45 (by decide)
     exact (BadI.here (adv (blP p) k45)).mv (Moved.adv _ _)
   ·split at h
    ·split at h
     ·rename_i he;simp at h;obtain ⟨rfl,rfl,_⟩:=h;exact (opd_badI hB he).mv ((Moved.adv _ _).trans (Moved.bl _))
     ·rename_i h38 _ L1 q1 he;have w:=ye hR he;have m:=(Moved.adv (blP p) (zI h38 (by decide)).1).trans (Moved.bl _)
      have h1:=m.k;have h2:=w.k;exact (vG hR hB f (by rw[w.s];show p.1.s.size<_;omega) h).mv (m.trans (w.mv'.trans (Moved.bl _)))
    ·split at h
     ·rename_i h91;split at h
      ·rename_i he;simp at h;obtain ⟨rfl,rfl,_⟩:=h;exact (hB _ _ _ _ h91 he).1
      ·rename_i he;have w:=hR _ _ _ h91 he;have h2:=w.k;exact (vG hR hB f (by rw[w.s];show p.1.s.size<_;omega) h).mv (w.mv'.trans (Moved.bl _))
     ·split at h
      ·rename_i he;simp at h;obtain ⟨rfl,rfl,_⟩:=h;exact itm_badI he
      ·rename_i he;have w:=xy he;have h2:=w.k;exact (vG hR hB f (by rw[w.s];show p.1.s.size<_;omega) h).mv (w.mv'.trans (Moved.bl _))
theorem BadI.ge (h:BadI p e a) (he:e=3):(p.1.k:Int)<=a:=by
 rcases h with h|h|h<;>omega
theorem zda:∀ n,RunB (zB n)
 | 0=>fun p e a q h91 h=>by
  obtain ⟨hk,hb⟩:=zI h91 (by decide)
  simp[zB] at h;obtain ⟨rfl,rfl,_⟩:=h;exact ⟨.inr (.inr ⟨rfl,by omega,by omega,by rw[Int.toNat_natCast];exact hb⟩),fun h=>absurd h (by decide)⟩
 | n+1=>fun p e a q h91 h=>by
  obtain ⟨hk,_⟩:=zI h91 (by decide)
  rw[zB,dif_pos hk] at h;have key:BadI (adv p hk) e a:=by
   split at h
   ·exact (vG (zQ n) (zda n) _ (by show p.1.s.size<p.1.s.size+1+_;omega) h).mv ((Moved.bl _).trans ((Moved.adv _ _).trans (Moved.bl _)))
   ·exact (vG (zQ n) (zda n) _ (by show p.1.s.size<p.1.s.size+1+_;omega) h).mv ((Moved.bl _).trans (Moved.bl _))
  exact ⟨key.mv (Moved.adv _ _),fun he=>key.ge he⟩
theorem prs_whole {d:Db}{s:ByteArray}{h:OkS d s}(he:(prs d s).2.1=0):∃ L q,Whole d s h L q/\prs d s=(L,0,0):=by
 rw[zk7 h] at he ⊢;unfold prsP at he ⊢;split at he
 ·rename_i h91;rw[if_pos h91];cases hr:zB 17 (blP (yY d s h)) with
  | bad e a q=>rw[hr] at he;have he:e=0:=he;exact absurd he (zda 17 _ _ _ _ h91 hr).1.code
  | ok L q =>
   rw[hr] at he;dsimp only at he ⊢;have w:=zQ 17 _ _ _ h91 hr;unfold prsE at he ⊢;split at he
   ·simp at he
   ·rename_i hk;rw[if_neg hk];have hk:¬(blP q).1.k<s.size:=hk;have hs:q.1.s=s:=w.s;have:=(blP q).2.2.1;have:(blP q).1.k<=q.1.s.size:=this;rw[hs] at this;exact ⟨L,q,⟨h91,hr,by omega,w⟩,rfl⟩
 ·simp at he
theorem canon_id {l:List Rg}(h:Canon l):canon l=l:=(zj4 h fun c=>⟨fun hc=>⟨by
  obtain ⟨r,hr,h1,h2⟩:=hc;have:=h.ok r hr;omega,hc⟩,fun hc=>hc.2⟩).symm
end Go.Proofs
