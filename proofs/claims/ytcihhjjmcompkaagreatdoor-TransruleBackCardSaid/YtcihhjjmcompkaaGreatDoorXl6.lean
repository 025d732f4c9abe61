import Derived.Test.YtcihhjjmcompkaaGreatDoorLz
import Derived.Test.YtcihhjjmcompkaaGreatDoorSyz
set_option linter.unusedVariables false
set_option linter.unusedSimpArgs false
namespace Go.Proofs
open Go Go.Sx
variable {mx:Int}{pb:Bool}
theorem digX_val (c:Int):zgj ((dig c).toNat:Int)∧dgI (dig c).toNat=c % 16:=by
 have h:(c % 16).toNat<16:=by omega
 have e:c % 16=((c % 16).toNat:Int):=by omega
 unfold dig digI
 rw[e]
 generalize (c % 16).toNat=n at h
 rw[show ((n:Int).toNat*1+0)=n by omega]
 match n,h with
 | 0,_=>exact (by decide)
 | 1,_=>exact (by decide)
 | 2,_=>exact (by decide)
 | 3,_=>exact (by decide)
 | 4,_=>exact (by decide)
 | 5,_=>exact (by decide)
 | 6,_=>exact (by decide)
 | 7,_=>exact (by decide)
 | 8,_=>exact (by decide)
 | 9,_=>exact (by decide)
 | 10,_=>exact (by decide)
 | 11,_=>exact (by decide)
 | 12,_=>exact (by decide)
 | 13,_=>exact (by decide)
 | 14,_=>exact (by decide)
 | 15,_=>exact (by decide)
 | n+16,h=>omega
def zg9:List UInt8→Int→Int
 | [],a=>a
 | b::l,a=>zg9 l (a*16+dgI b.toNat)
theorem tailX_fold (c:Int):∀ k,zg9 (tail k c) (dv k c)=c
 | 0=>rfl
 | k+1=>by
  show zg9 (tail k c) (dv (k+1) c*16+dgI (dig (dv k c)).toNat)=c
  rw[(digX_val _).2,show dv (k+1) c=dv k c / 16 from rfl,show dv k c / 16*16+dv k c % 16=dv k c by omega]
  exact tailX_fold c k
theorem tailX_dig (c:Int):∀ k,∀ b∈tail k c,zgj (b.toNat:Int)
 | 0,b,h=>by simp[tail] at h
 | k+1,b,h=>by
  rcases List.mem_cons.1 h with rfl|h
  ·exact (digX_val _).1
  ·exact tailX_dig c k b h
theorem hexX {c:Int}(h:zbb c=true):(∀ b∈zfp c,zgj (b.toNat:Int))∧zg9 (zfp c) 0=c∧(zfp c).length≤6∧0<(zfp c).length:=by
 have hv:=zbe.1 h
 have h6:dv 6 c=0:=by simp only[dv];omega
 have key:∀ k,zfp c=tail k c→dv k c=0→k≤6→0<k→(∀ b∈zfp c,zgj (b.toNat:Int))∧zg9 (zfp c) 0=c∧(zfp c).length≤6∧0<(zfp c).length:=fun k e hz hk h0=>by
  rw[e]
  have:=tailX_fold c k
  rw[hz] at this
  exact ⟨tailX_dig c k,this,by rw[zey];exact hk,by rw[zey];exact h0⟩
 have e:zfp c=(if dv 4 c=0 then tail 4 c else if dv 5 c=0 then tail 5 c else tail 6 c):=by unfold zfp;rw[if_pos h]
 split at e
 ·exact key 4 e (by assumption) (by decide) (by decide)
 ·split at e
  ·exact key 5 e (by assumption) (by decide) (by decide)
  ·exact key 6 e h6 (by decide) (by decide)
theorem dropX_fold:∀ l:List UInt8,zg9 (zdf l) 0=zg9 l 0
 | []=>rfl
 | b::l=>by
  unfold zdf
  split
  ·rename_i hb
   subst hb
   exact dropX_fold l
  ·rfl
theorem dropX_mem {b:UInt8}:∀ {l:List UInt8},b∈zdf l→b∈l
 | [],h=>h
 | a::l,h=>by
  unfold zdf at h
  split at h
  ·exact List.mem_cons_of_mem _ (dropX_mem h)
  ·exact h
theorem shortX {c:Int}(h:zbb c=true):(∀ b∈zc2 (zfp c),zgj (b.toNat:Int))∧zg9 (zc2 (zfp c)) 0=c∧(zc2 (zfp c)).length≤6∧zc2 (zfp c)≠[]:=by
 obtain ⟨h1,h2,h3,h4⟩:=hexX h
 have h5:=dropX_fold (zfp c)
 have h6:=zjh (zfp c)
 unfold zc2
 split
 ·rename_i he
  rw[he] at h5
  refine ⟨fun b hb=>?_,by rw[← h2,← h5];rfl,by decide,by simp⟩
  obtain rfl:b=48:=by simpa using hb
  exact (by decide)
 ·rename_i he
  exact ⟨fun b hb=>h1 b (dropX_mem hb),by rw[h5,h2],by omega,he⟩
def rem (p:PX):List UInt8:=p.1.s.data.toList.drop p.1.k
theorem zbv {p:PX}{b:UInt8}{r:List UInt8}(h:rem p=b::r):∃ hk:p.1.k<p.1.s.size,pkV p.1=b.toNat∧rem (adv p hk)=r:=by
 have hk:p.1.k<p.1.s.data.toList.length:=by
  rcases Nat.lt_or_ge p.1.k p.1.s.data.toList.length with h1|h1
  ·exact h1
  ·unfold rem at h
   rw[List.drop_eq_nil_iff.2 h1] at h
   simp at h
 refine ⟨hk,?_,?_⟩
 ·rw[ze3 hk,zjp hk]
  unfold rem at h
  rw[List.drop_eq_getElem_cons hk] at h
  injection h with h1 h2
  rw[h1]
 ·unfold rem at h ⊢
  rw[List.drop_eq_getElem_cons hk] at h
  injection h with h1 h2
theorem rem_nil {p:PX}(h:rem p=[]):p.1.k=p.1.s.size:=by
 have h1:p.1.s.data.toList.length≤p.1.k:=List.drop_eq_nil_iff.1 h
 have h2:=p.2.2.1
 have h3:p.1.s.size=p.1.s.data.toList.length:=rfl
 omega
theorem rem_2 {p:PX}{a b:UInt8}{r:List UInt8}(h:rem p=a::b::r):p.1.k+1<p.1.s.size∧bAt p.1.s p.1.k=a.toNat∧bAt p.1.s (p.1.k+1)=b.toNat:=by
 obtain ⟨k1,e1,h1⟩:=zbv h
 obtain ⟨k2,e2,_⟩:=zbv h1
 rw[ze3 k1] at e1
 rw[ze3 k2] at e2
 exact ⟨k2,e1,e2⟩
theorem exp_rd {p:PX}{b:UInt8}{r:List UInt8}(h:rem p=b::r):∃ q,zb8 p b.toNat=.ok (.tu []) q∧rem q=r∧Moved p q:=by
 obtain ⟨hk,e,hr⟩:=zbv h
 exact ⟨adv p hk,dif_pos ⟨hk,e⟩,hr,Moved.adv p hk⟩
theorem foldX_le:∀ (ds:List UInt8) {c:Int},(∀ b∈ds,zgj (b.toNat:Int))→0≤c→c≤zg9 ds c
 | [],c,_,_=>Int.le_refl _
 | b::ds,c,hd,h0=>by
  have h1:=hd b (by simp)
  have h2:0≤dgI (b.toNat:Int):=by unfold zgj at h1;unfold dgI;split<;>omega
  have:=foldX_le ds (c:=c*16+dgI b.toNat) (fun x hx=>hd x (by simp[hx])) (by omega)
  show c≤zg9 ds (c*16+dgI b.toNat)
  omega
theorem digR_rd {r:List UInt8}:∀ (ds:List UInt8) {f:Nat}{p:PX}{c:Int}{n:Nat},rem p=ds++125::r→(∀ b∈ds,zgj (b.toNat:Int))→ds.length<f→n+ds.length≤6→0≤c→zg9 ds c≤1114111→(n=0→ds≠[])→∃ q,digR f p c n=.ok (.v (.int .i64 (zg9 ds c))) q∧rem q=125::r∧Moved p q
 | [],0,p,c,n,_,_,h,_,_,_,_=>by simp at h
 | [],f+1,p,c,n,h,_,_,_,_,_,hn=>by
  obtain ⟨hk,e,hr⟩:=zbv h
  rw[digR,dif_neg (by rw[e];rintro ⟨_,h1⟩;exact absurd h1 (by decide)),if_neg (fun h0=>hn h0 rfl)]
  exact ⟨p,rfl,h,Moved.refl p⟩
 | b::ds,0,p,c,n,_,_,h,_,_,_,_=>by simp at h
 | b::ds,f+1,p,c,n,h,hd,hf,hl,h0,hm,_=>by
  obtain ⟨hk,e,hr⟩:=zbv h
  have h1:=hd b (by simp)
  have h2:0≤dgI (b.toNat:Int):=by unfold zgj at h1;unfold dgI;split<;>omega
  have hd':∀ x∈ds,zgj (x.toNat:Int):=fun x hx=>hd x (by simp[hx])
  have h3:=foldX_le ds (c:=c*16+dgI b.toNat) hd' (by omega)
  have hm:zg9 ds (c*16+dgI b.toNat)≤1114111:=hm
  simp only[List.length_cons] at hf hl
  obtain ⟨q,g1,g2,g3⟩:=digR_rd ds (f:=f) (p:=adv p hk) (c:=c*16+dgI b.toNat) (n:=n+1) hr hd' (by omega) (by omega) (by omega) hm (by omega)
  refine ⟨q,?_,g2,(Moved.adv p hk).trans g3⟩
  rw[digR,dif_pos ⟨hk,by rw[e];exact h1⟩,show dgI (pkV p.1)=dgI b.toNat from by rw[e],if_neg (by omega)]
  exact g1
theorem chr_rd {p:PX}{c:Int}{r:List UInt8}(hc:zbb c=true) (h:rem p=zhq c++r):∃ q,zc3 p ()=.ok (.v (.int .i64 c)) q∧rem q=r∧Moved p q:=by
 obtain ⟨h1,h2,h3,h4⟩:=shortX hc
 have hv:=zbe.1 hc
 have e:zhq c++r=92::117::123::(zc2 (zfp c)++125::r):=by unfold zhq;simp
 rw[e] at h
 obtain ⟨k1,e1,r1⟩:=zbv h
 obtain ⟨k2,e2,r2⟩:=zbv r1
 obtain ⟨q3,e3,r3,m3⟩:=exp_rd r2
 obtain ⟨q4,e4,r4,m4⟩:=digR_rd (zc2 (zfp c)) (f:=7) (c:=0) (n:=0) r3 h1 (by omega) (by omega) (by decide) (by rw[h2];exact hv.2) (fun _=>h4)
 obtain ⟨q5,e5,r5,m5⟩:=exp_rd r4
 have e1:pkV p.1=92:=e1
 have e2:pkV (adv p k1).1=117:=e2
 have e3:zb8 (adv (adv p k1) k2) 123=.ok (.tu []) q3:=e3
 have e5:zb8 q4 125=.ok (.tu []) q5:=e5
 refine ⟨q5,?_,r5,(Moved.adv p k1).trans ((Moved.adv _ k2).trans (m3.trans (m4.trans m5)))⟩
 rw[h2] at e4
 unfold zc3
 rw[dif_pos e1]
 unfold zcp
 rw[dif_pos e2,e3]
 dsimp only
 rw[show runDig q3 ()=.ok (.v (.int .i64 c)) q4 from e4]
 dsimp only
 rw[e5]
def rgT (r:Rg):List UInt8:=if r.2=r.1 then zhq r.1 else zhq r.1++45::zhq r.2
theorem ze7 (c:Int):∃ t,zhq c=92::117::t:=⟨_,by unfold zhq;simp;rfl⟩
theorem zig {p:PX}{b:UInt8}{r:List UInt8}(h:rem p=b::r) (hb:b≠32):blP p=p:=by
 obtain ⟨hk,e,_⟩:=zbv h
 exact blP_id' (by
  rw[e]
  intro h32
  exact hb (UInt8.toNat_inj.1 (by have:(b.toNat:Int)=((32:UInt8).toNat:Int):=h32;omega)))
theorem itm_rd {p:PX}{r:Rg}{R:List UInt8}{b:UInt8}(h1:zbb r.1=true) (h2:zbb r.2=true) (h3:r.1≤r.2) (hb:b=92∨b=93) (h:rem p=rgT r++b::R):∃ q,zdg p=.ok [r] q∧rem q=b::R∧Moved p q:=by
 have hp:pre2 p.1 92 112=false:=by
  obtain ⟨t,ht⟩:=ze7 r.1
  have:∃ t',rem p=92::117::t':=by
   rw[h];unfold rgT
   split
   ·exact ⟨_,by rw[ht];rfl⟩
   ·exact ⟨_,by rw[ht];rfl⟩
  obtain ⟨t',ht'⟩:=this
  have:=rem_2 ht'
  unfold pre2
  exact decide_eq_false fun hh=>by
   rw[this.2.2] at hh
   exact absurd hh.2.2 (by decide)
 unfold zdg
 rw[if_neg (by rw[hp];decide)]
 unfold rgT at h
 split at h
 ·rename_i he
  obtain ⟨q,g1,g2,g3⟩:=chr_rd h1 h
  rw[g1]
  dsimp only
  rw[zig g2 (by rcases hb with rfl|rfl<;>decide)]
  unfold itmC
  obtain ⟨hk,e,_⟩:=zbv g2
  rw[dif_neg (by rw[e];rintro ⟨h4,_⟩;rcases hb with rfl|rfl<;>exact absurd h4 (by decide))]
  refine ⟨q,?_,g2,g3⟩
  show OutL.ok [(r.1,r.1)] q=.ok [r] q
  rw[show (r.1,r.1)=r from Prod.ext rfl he.symm]
 ·rename_i he
  rw[List.append_assoc,List.cons_append] at h
  obtain ⟨q,g1,g2,g3⟩:=chr_rd h1 h
  rw[g1]
  dsimp only
  rw[zig g2 (by decide)]
  obtain ⟨hk,e,r2⟩:=zbv g2
  obtain ⟨t,ht⟩:=ze7 r.2
  have e:pkV q.1=45:=e
  have hq:pre2 q.1 45 45=false:=by
   rw[ht] at g2
   have:=rem_2 g2
   unfold pre2
   exact decide_eq_false fun hh=>by
    rw[this.2.2] at hh
    exact absurd hh.2.2 (by decide)
  unfold itmC
  rw[dif_pos ⟨e,hq⟩]
  have hbl:blP (adv q (zbw e (by decide)).1)=adv q (zbw e (by decide)).1:=zig (b:=92) (r:=117::(t++b::R)) (by rw[r2,ht];rfl) (by decide)
  rw[hbl]
  obtain ⟨q2,g4,g5,g6⟩:=chr_rd h2 r2
  unfold itmP
  rw[g4]
  dsimp only
  rw[if_neg (by show ¬r.2<r.1;omega)]
  exact ⟨q2,rfl,g5,g3.trans ((Moved.adv q hk).trans g6)⟩
theorem flat_head {C:List Rg}:∃ b R,C.flatMap rgT++[93]=b::R∧(b=92∨b=93):=by
 match C with
 | []=>exact ⟨93,[],rfl,.inr rfl⟩
 | r::C =>
  obtain ⟨t,ht⟩:=ze7 r.1
  refine ⟨92,?_⟩
  rw[List.flatMap_cons]
  unfold rgT
  split
  ·exact ⟨_,by rw[ht];rfl,.inl rfl⟩
  ·exact ⟨_,by rw[ht];rfl,.inl rfl⟩
theorem grpL_rd {run:PX→OutL}:∀ (C:List Rg) {f:Nat}{p:PX}{I:List Rg},rem p=C.flatMap rgT++[93]→C.length<f→(∀ r∈C,zbb r.1=true∧zbb r.2=true∧r.1≤r.2)→∃ q,grpL run false f p [] I=.ok (endG false [] (I++C)) q∧rem q=[]∧Moved p q
 | [],0,p,I,_,h,_=>by simp at h
 | _::_,0,p,I,_,h,_=>by simp at h
 | [],f+1,p,I,h,_,_=>by
  have h:rem p=[93]:=h
  have hb:=zig h (by decide)
  obtain ⟨hk,e,hr⟩:=zbv h
  have e:pkV p.1=93:=e
  rw[grpL_end (by rw[hb];exact e),List.append_nil]
  have:rem (adv (blP p) (zbw (show pkV (blP p).1=93 by rw[hb];exact e) (by decide)).1)=[]:=by
   unfold rem at hr ⊢
   have h1:(blP p).1.k=p.1.k:=by rw[hb]
   show List.drop ((blP p).1.k+1) (p.1.s.data.toList)=[]
   rw[h1]
   exact hr
  exact ⟨_,rfl,this,(Moved.bl p).trans (Moved.adv _ _)⟩
 | r::C,f+1,p,I,h,hf,hC=>by
  obtain ⟨b,R,hbR,hb⟩:=flat_head (C:=C)
  have hr:=hC r (by simp)
  rw[List.flatMap_cons,List.append_assoc,hbR] at h
  obtain ⟨q,g1,g2,g3⟩:=itm_rd hr.1 hr.2.1 hr.2.2 hb h
  have hh:∃ t,rem p=92::t:=by
   obtain ⟨t,ht⟩:=ze7 r.1
   rw[h];unfold rgT
   split
   ·exact ⟨_,by rw[ht];rfl⟩
   ·exact ⟨_,by rw[ht];rfl⟩
  obtain ⟨t,ht⟩:=hh
  have hbl:=zig ht (by decide)
  obtain ⟨hk,e,_⟩:=zbv ht
  have e:pkV p.1=92:=e
  rw[← hbR] at g2
  obtain ⟨q2,g4,g5,g6⟩:=grpL_rd (run:=run) C (f:=f) (I:=I++[r]) g2 (by simp at hf;omega) (fun x hx=>hC x (by simp[hx]))
  refine ⟨q2,?_,g5,g3.trans g6⟩
  have e2:pkV (blP p).1=92:=by rw[hbl];exact e
  rw[grpL,dif_neg (by rw[e2];decide),dif_neg (by rw[e2];decide),dif_neg (by rw[e2];decide),if_neg (by rw[e2];decide),hbl,g1]
  dsimp only
  rw[g4,List.append_assoc]
  rfl
theorem rgW_L (b:ByteArray) (r:Rg):(rgW b r).data.toList=b.data.toList++rgT r:=by
 unfold rgW rgT
 split
 ·rfl
 ·show (b.data.toList++zhq r.1)++(45::zhq r.2)=_
  rw[List.append_assoc]
theorem setTK_L (C:List Rg):∀ k,k≤C.length→(zh4 C k).data.toList=91::(C.take k).flatMap rgT
 | 0,_=>rfl
 | k+1,h=>by
  have hk:k<C.length:=h
  show (rgW (zh4 C k) (C.getD k default)).data.toList=_
  rw[rgW_L,setTK_L C k (by omega),List.take_succ_eq_append_getElem hk,List.flatMap_append,List.flatMap_cons,List.flatMap_nil,List.append_nil]
  rw[show C.getD k default=C[k] by simp[List.getD_eq_getElem?_getD,hk]]
  rfl
theorem setTx_L (l:List Rg):(zca l).data.toList=91::((canon l).flatMap rgT++[93]):=by
 unfold zca
 show (zh4 (canon l) (canon l).length).data.toList++[93]=_
 rw[setTK_L _ _ (Nat.le_refl _),List.take_length]
 rfl
end Go.Proofs
