import Derived.Test.YtnimkdbpoeondaaGreatDoorSoz
set_option linter.all false
set_option maxHeartbeats 4000000
namespace Go.Proofs
open Go Go.Sx
variable {l out:List Int}{n:Int}{i:Nat}
variable {mx:Int}{pb:Bool}
theorem vS {n:Int}:∀ {k:Nat}{l:List Int},k<=l.length->(∀ j,j<k->l.getD j default<n)->zZ l n=l.take k++zZ (l.drop k) n
 | 0,l,_,_=>by simp
 | k+1,[],h,_=>by simp at h
 | k+1,x::l,h,hd=>by
  have h0:=hd 0 (by omega)
  simp at h0;rw[zZ,if_neg (by omega),List.take_succ_cons,List.drop_succ_cons,List.cons_append,<- vS (by simpa using h) fun j hj=>by
   have:=hd (j+1) (by omega)
   simpa using this]
def ctPlace:Ct:={ ι:=List Int × Int,inp:=fun x=>[slD 1 znt x.1,.v (.int .i64 x.2)],out:=fun x=>slD 1 znt (zZ x.1 x.2),pre:=fun x=>x.1.length<=1000000 }
def zo1 (l:List Int) (n:Int) (i:Nat):Bool->List Int->Prop
 | false,out=>out=l.take i/\∀ j,j<i->l.getD j default<n
 | true,out=>out++l.drop i=zZ l n
theorem pl_more {d:Bool}(h:zo1 l n i d out) (hi:i<l.length) (hc:d=true\/l.getD i default<n):zo1 l n (i+1) d (out++[l.getD i default]):=by
 cases d with
 | true =>
  show (out++[l.getD i default])++l.drop (i+1)=zZ l n;rw[List.append_assoc,List.singleton_append,<- zjw hi];exact h
 | false =>
  obtain ⟨h1,h2⟩:=h;refine ⟨by rw[h1,take_at hi],fun j hj=>?_⟩
  by_cases e:j=i
  ·subst e;simpa using hc
  ·exact h2 j (by omega)
theorem pl_same (h:zo1 l n i false out) (hi:i<l.length) (hc:¬l.getD i default>n) (hg:l.getD i default>=n):zo1 l n (i+1) true (out++[l.getD i default]):=by
 obtain ⟨h1,h2⟩:=h;show (out++[l.getD i default])++l.drop (i+1)=zZ l n;rw[vS (by omega) h2,zjw hi,zZ,if_pos hg,if_neg hc,h1,List.append_assoc,List.singleton_append]
theorem pl_new (h:zo1 l n i false out) (hi:i<l.length) (hc:l.getD i default>n):zo1 l n (i+1) true (out++[n]++[l.getD i default]):=by
 obtain ⟨h1,h2⟩:=h;show (out++[n]++[l.getD i default])++l.drop (i+1)=zZ l n;rw[vS (by omega) h2,zjw hi,zZ,if_pos (by omega),if_pos hc,h1];simp
theorem place_ok:SS mx pb 192 ctPlace:=by
 refine sb (cc:=true) zH Tryz.func192 ?_;intro ((l:List Int),(n:Int)) (hl:l.length<=1000000)
 refine gA ?_;refine ⟨0,Nat × Bool × List Int,fun|(i,d,out)=>⟨[(0,slD 1 znt l),(1,.v (.int .i64 n)),(5,.row 0),(6,.v (.bool d)),(7,.v (.int .i64 i))],[zG 3 1 znt out],[]⟩,fun|(i,d,out)=>i<=l.length/\out.length<=i+1/\zo1 l n i d out,fun x=>l.length - x.1,fun _=>Nat.zero_le _,⟨(0,false,[]),⟨Nat.zero_le _,by simp,rfl,fun j hj=>by omega⟩,StLe.trans (StLe.nilRow (t:=5) 3 1 (fun _ _=>.junk) rfl) (StLe.ren [0] tmS ⟨yg,trivial⟩ (by decide))⟩,?_⟩
 rintro ⟨i,d,out⟩ ⟨hi,ho,hI⟩
 refine gA ?_;refine And.intro (fun h=>?_) (fun h=>?_)
 ·have h:i<l.length:=by have:=of_decide_eq_true h;omega
  cases d with
  | true =>
   refine gA ?_;exact ⟨(i+1,true,out++[l.getD i default]),⟨by omega,by rw[List.length_append,List.length_singleton];omega,pl_more hI h (.inl rfl)⟩,(show l.length - (i+1)<l.length - i by omega),StLe.ren [1] tmS ⟨zF (fun j hj=>by match j,hj with|0,_=>exact eE),trivial⟩ (by decide)⟩
  | false =>
   refine gA ?_;refine And.intro (fun h1=>?_) (fun h1=>?_)
   ·have h1:l.getD i default>=n:=of_decide_eq_true h1;have ho':out.length<=i:=by rw[hI.1,List.length_take];omega
    refine gA ?_;refine And.intro (fun h2=>?_) (fun h2=>?_)
    ·have h2:l.getD i default>n:=of_decide_eq_true h2;refine gA ?_;refine And.intro (show out.length+1+1<=_ by omega) (And.intro (show (out.length+1+1)*8<=_ by omega) ?_)
     refine gA ?_;exact ⟨(i+1,true,out++[n]++[l.getD i default]),⟨by omega,by simp only[List.length_append,List.length_singleton];omega,pl_new hI h h2⟩,(show l.length - (i+1)<l.length - i by omega),StLe.ren [2] tmS ⟨own_app2 (fun j hj=>by match j,hj with|0,_=>exact eE) (fun j hj=>by match j,hj with|0,_=>exact eE),trivial⟩ (by decide)⟩
    ·have h2:¬l.getD i default>n:=of_decide_eq_false h2;refine gA ?_;exact ⟨(i+1,true,out++[l.getD i default]),⟨by omega,by rw[List.length_append,List.length_singleton];omega,pl_same hI h h2 h1⟩,(show l.length - (i+1)<l.length - i by omega),StLe.ren [1] tmS ⟨zF (fun j hj=>by match j,hj with|0,_=>exact eE),trivial⟩ (by decide)⟩
   ·have h1:¬l.getD i default>=n:=of_decide_eq_false h1;refine gA ?_;exact ⟨(i+1,false,out++[l.getD i default]),⟨by omega,by rw[List.length_append,List.length_singleton];omega,pl_more hI h (.inr (by omega))⟩,(show l.length - (i+1)<l.length - i by omega),StLe.ren [1] tmS ⟨zF (fun j hj=>by match j,hj with|0,_=>exact eE),trivial⟩ (by decide)⟩
 ·have h:i=l.length:=by have:=of_decide_eq_false h;omega
  subst h;cases d with
  | true =>
   have e:out=zZ l n:=by
    have hI:out++l.drop l.length=zZ l n:=hI;simpa using hI
   refine gA ?_;subst e;exact eR
  | false =>
   have e:out=l:=by rw[hI.1,List.take_length]
   have e2:zZ l n=l++[n]:=by
    rw[vS (Nat.le_refl _) hI.2];simp[zZ]
   refine gA ?_;refine EntR.of rfl ?_;show Ent _ (slD 1 znt (zZ l n))
   rw[e2,e];exact ent_app (fun j hj=>by match j,hj with|0,_=>exact eE)
def ctCuts:Ct:={ ι:=List Int × List Rg,inp:=fun x=>[slD 1 znt x.1,zR x.2],out:=fun x=>slD 1 znt (xm x.1 x.2),pre:=fun x=>x.1.length<=100000/\x.2.length<=100000 }
def Γrp:Ctx:=fun f=>match f with
 | 192=>some (.pure ctPlace)
 | 81=>some (.pure ctValid)
 | _=>none
theorem Γrp_ok:CK mx pb Γrp:=by
 intro f h hh;simp only[Γrp] at hh;split at hh<;>simp at hh<;>subst hh
 ·exact place_ok
 ·exact zcm
theorem cuts_ok:SS mx pb 161 ctCuts:=by
 refine sb (cc:=false) Γrp_ok Tryz.func161 ?_;intro ((l:List Int),(rs:List Rg)) ⟨(hl:l.length<=100000),(hr:rs.length<=100000)⟩
 have hcl:=zgf (l:=l) (rs:=rs)
 refine gA ?_;refine ⟨0,Nat,fun k=>⟨[(0,slD 1 znt (xN l rs k)),(3,.own 0 0),(5,.v (.int .i64 k))],[.cells 31 [xE rs]],[]⟩,fun k=>k<=rs.length,fun k=>rs.length - k,fun _=>Nat.zero_le _,⟨0,Nat.zero_le _,(sr [0])⟩,?_⟩
 intro k hk;have hk:k<=rs.length:=hk;have hck:=hcl k;refine gA ?_;refine And.intro (fun h=>?_) (fun h=>?_)
 ·have h:k<rs.length:=by have:=of_decide_eq_true h;omega
  have hp:=uK (n:=(rs.getD k default).1) (l:=xN l rs k)
  have hstep:∀ l1,(l1=if 0<=(rs.getD k default).1/\(rs.getD k default).1<=1114111 then zZ (xN l rs k) (rs.getD k default).1 else xN l rs k)->xN l rs (k+1)=if 0<=(rs.getD k default).2/\(rs.getD k default).2<1114111 then zZ l1 ((rs.getD k default).2+1) else l1:=by
   intro l1 e;rw[xN,ze6,<- e]
  refine gA ?_;refine ⟨(rs.getD k default).1,eL,trivial,?_⟩
  refine gA ?_;refine And.intro (fun h1=>?_) (fun h1=>?_)
  ·have h1:=xQ.1 (show uj (rs.getD k default).1=true from h1)
   have hst:=hstep (zZ (xN l rs k) (rs.getD k default).1) (by rw[if_pos h1])
   refine gA ?_;refine ⟨(xN l rs k,(rs.getD k default).1),eL,(show (xN l rs k).length<=1000000 by omega),?_⟩
   refine gA ?_;refine And.intro (fun h2=>?_) (fun h2=>?_)
   ·have h2:0<=(rs.getD k default).2/\(rs.getD k default).2<1114111:=by
     exact bif_dec.1 h2
    rw[if_pos h2] at hst;refine gA ?_;refine ⟨(zZ (xN l rs k) (rs.getD k default).1,(rs.getD k default).2+1),eL,(show (zZ (xN l rs k) (rs.getD k default).1).length<=1000000 by omega),?_⟩
    refine gA ?_;exact ⟨k+1,(show k+1<=rs.length by omega),(show rs.length - (k+1)<rs.length - k by omega),StLe.ren [0] (by rw[hst];repeat' (first|exact trivial|exact eE|exact rfl|exact Ent.int (by omega)|refine And.intro ?_ ?_)) ⟨eZ,trivial⟩ (by decide)⟩
   ·have h2:¬(0<=(rs.getD k default).2/\(rs.getD k default).2<1114111):=by
     exact bif_no.1 h2
    rw[if_neg h2] at hst;refine gA ?_;exact ⟨k+1,(show k+1<=rs.length by omega),(show rs.length - (k+1)<rs.length - k by omega),StLe.ren [0] (by rw[hst];repeat' (first|exact trivial|exact eE|exact rfl|exact Ent.int (by omega)|refine And.intro ?_ ?_)) ⟨eZ,trivial⟩ (by decide)⟩
  ·have h1:¬(0<=(rs.getD k default).1/\(rs.getD k default).1<=1114111):=fun hh=>by
    have h1:uj (rs.getD k default).1=false:=h1;rw[xQ.2 hh] at h1;cases h1
   have hst:=hstep (xN l rs k) (by rw[if_neg h1])
   refine gA ?_;refine And.intro (fun h2=>?_) (fun h2=>?_)
   ·have h2:0<=(rs.getD k default).2/\(rs.getD k default).2<1114111:=by
     exact bif_dec.1 h2
    rw[if_pos h2] at hst;refine gA ?_;refine ⟨(xN l rs k,(rs.getD k default).2+1),eL,(show (xN l rs k).length<=1000000 by omega),?_⟩
    refine gA ?_;exact ⟨k+1,(show k+1<=rs.length by omega),(show rs.length - (k+1)<rs.length - k by omega),StLe.ren [0] (by rw[hst];repeat' (first|exact trivial|exact eE|exact rfl|exact Ent.int (by omega)|refine And.intro ?_ ?_)) ⟨eZ,trivial⟩ (by decide)⟩
   ·have h2:¬(0<=(rs.getD k default).2/\(rs.getD k default).2<1114111):=by
     exact bif_no.1 h2
    rw[if_neg h2] at hst;refine gA ?_;exact ⟨k+1,(show k+1<=rs.length by omega),(show rs.length - (k+1)<rs.length - k by omega),StLe.ren [0] (by rw[hst];repeat' (first|exact trivial|exact eE|exact rfl|exact Ent.int (by omega)|refine And.intro ?_ ?_)) ⟨eZ,trivial⟩ (by decide)⟩
 ·have h:k=rs.length:=by have:=of_decide_eq_false h;omega
  subst h;refine gA ?_;refine ⟨(xN l rs rs.length,0),eL,(show (xN l rs rs.length).length<=1000000 by omega),?_⟩
  refine gA ?_;exact eR
theorem hasB_nil (c:Int):yr [] c=false:=by simp[yr]
theorem has_at {l:List Rg}{c:Int}{k:Nat}(hk:k<l.length) (hc:0<=c/\c<=1114111) (h:(l.getD k default).1<=c/\c<=(l.getD k default).2):yr l c=true :=
 yd.2 ⟨hc,_,xw hk,h⟩
theorem has_no {l:List Rg}{c:Int}(h:∀ j,j<l.length->¬((l.getD j default).1<=c/\c<=(l.getD j default).2)):yr l c=false:=by
 rw[<- Bool.not_eq_true,yd];rintro ⟨_,r,hr,h1⟩
 obtain ⟨i,hi,rfl⟩:=List.getElem_of_mem hr;have:=h i hi;simp only[List.getD_eq_getElem?_getD,List.getElem?_eq_getElem hi,Option.getD_some] at this;exact this h1
def ctHas:Ct:={ ι:=List Rg × Int,inp:=fun x=>[zR x.1,.v (.int .i64 x.2)],out:=fun x=>.v (.bool (yr x.1 x.2)),pre:=fun x=>x.1.length<=1000000 }
def Γrv:Ctx:=fun f=>match f with
 | 77=>some (.pure ctValid)
 | 81=>some (.pure ctValid)
 | _=>none
theorem Γrv_ok:CK mx pb Γrv:=by
 intro f h hh;simp only[Γrv] at hh;split at hh<;>simp at hh<;>subst hh
 ·exact zci
 ·exact zcm
theorem r2Has_ok:SS mx pb 163 ctHas:=by
 refine sb (cc:=true) Γrv_ok Tryz.func163 ?_;intro ((l:List Rg),(c:Int)) (hl:l.length<=1000000)
 refine gA ?_;refine ⟨0,Nat,fun k=>⟨[(1,.v (.int .i64 c)),(2,.own 0 0),(5,.v (.int .i64 k))],[.cells 31 [xE l]],[]⟩,fun k=>k<=l.length/\((0<=c/\c<=1114111)->∀ j,j<k->¬((l.getD j default).1<=c/\c<=(l.getD j default).2)),fun k=>l.length - k,fun _=>Nat.zero_le _,⟨0,⟨Nat.zero_le _,fun _ j hj=>by omega⟩,(sr [0])⟩,?_⟩
 rintro k ⟨hk,hd⟩
 refine gA ?_;refine And.intro (fun h=>?_) (fun h=>?_)
 ·have h:k<l.length:=by have:=of_decide_eq_true h;omega
  refine gA ?_;refine ⟨c,eL,trivial,?_⟩
  rw[show ctValid.out c=.v (.bool (uj c)) from rfl];refine gA ?_;generalize hv:uj c=v;cases v with
  | false =>
   have hc:¬(0<=c/\c<=1114111):=fun hh=>by rw[xQ.2 hh] at hv;cases hv
   refine gA ?_;exact ⟨k+1,⟨by omega,fun hh=>absurd hh hc⟩,(show l.length - (k+1)<l.length - k by omega),(sr [0])⟩
  | true =>
   have hc:=xQ.1 hv;refine gA ?_;generalize hp:decide ((l.getD ((k:Int)).toNat default).1<=c)=p;cases p with
   | false =>
    have hp:¬(l.getD k default).1<=c:=of_decide_eq_false hp;refine gA ?_;exact ⟨k+1,⟨by omega,fun hh=>znm (hd hh) fun h3=>hp h3.1⟩,(show l.length - (k+1)<l.length - k by omega),(sr [0])⟩
   | true =>
    have hp:(l.getD k default).1<=c:=of_decide_eq_true hp;refine gA ?_;refine And.intro (fun h1=>?_) (fun h1=>?_)
    ·have h1:c<=(l.getD k default).2:=of_decide_eq_true h1;refine gA ?_;exact ze (has_at h hc ⟨hp,h1⟩).symm
    ·have h1:¬c<=(l.getD k default).2:=of_decide_eq_false h1;refine gA ?_;exact ⟨k+1,⟨by omega,fun hh=>znm (hd hh) fun h3=>h1 h3.2⟩,(show l.length - (k+1)<l.length - k by omega),(sr [0])⟩
 ·have h:k=l.length:=by have:=of_decide_eq_false h;omega
  subst h;refine gA ?_;refine ze ?_;show false=yr l c;rw[eq_comm];by_cases hc:0<=c/\c<=1114111
  ·exact has_no (hd hc)
  ·rw[<- Bool.not_eq_true,yd];exact fun hh=>hc hh.1
def ctKeeps:Ct:={ ι:=Int × Bool × Bool,inp:=fun x=>[.v (.int .i64 x.1),.v (.bool x.2.1),.v (.bool x.2.2)],out:=fun x=>.v (.bool (zX x.1 x.2.1 x.2.2)),pre:=fun _=>True }
theorem keeps_ok:SS mx pb 162 ctKeeps:=by
 refine sb (cc:=true) zH Tryz.func162 ?_;intro ((op:Int),(x:Bool),(y:Bool)) _;refine gA ?_;refine And.intro (fun h=>?_) (fun h=>?_)
 ·have h:op=1:=eq_of_beq h;subst h;cases x with
  | true =>
   refine gA ?_;exact ze (by simp[zX])
  | false =>
   refine gA ?_;exact ze (by simp[zX])
 have hn1:¬op=1:=fun e=>by subst e;cases h
 refine gA ?_;refine And.intro (fun h2=>?_) (fun h2=>?_)
 ·have h2:op=2:=eq_of_beq h2;subst h2;cases x with
  | true =>
   refine gA ?_;exact ze (by simp[zX])
  | false =>
   refine gA ?_;exact ze (by simp[zX])
 have hn2:¬op=2:=fun e=>by subst e;cases h2
 refine gA ?_;cases x with
 | true =>
  refine gA ?_;exact ze (by simp only[zX,hn1,hn2,if_false];simp)
 | false =>
  refine gA ?_;exact ze (by simp only[zX,hn1,hn2,if_false];simp)
def ctComb:Ct:={ ι:=List Rg × List Rg × Int,inp:=fun x=>[zR x.1,zR x.2.1,.v (.int .i64 x.2.2)],out:=fun x=>zR (zr x.1 x.2.1 x.2.2),pre:=fun x=>x.1.length<=10000/\x.2.1.length<=10000 }
def Γrq:Ctx:=fun f=>match f with
 | 161=>some (.pure ctCuts)
 | 163=>some (.pure ctHas)
 | 162=>some (.pure ctKeeps)
 | _=>none
theorem Γrq_ok:CK mx pb Γrq:=by
 intro f h hh;simp only[Γrq] at hh;split at hh<;>simp at hh<;>subst hh
 ·exact cuts_ok
 ·exact r2Has_ok
 ·exact keeps_ok
theorem zmk (keep:Int->Bool) (cs:List Int):∀ k,(zad keep cs k).1.length<=k
 | 0=>by simp[zad]
 | k+1=>by
  have:=zmk keep cs k;simp only[zad,zgg];split
  ·split
   ·simp[zij];omega
   ·simp;omega
  ·simp;omega
theorem zh4 (keep:Int->Bool) (cs:List Int):∀ k,(zad keep cs k).2=true->0<(zad keep cs k).1.length
 | 0,h=>by simp[zad] at h
 | k+1,h=>by
  have ih:=zh4 keep cs k;simp only[zad,zgg] at h ⊢;split
  ·split
   ·rename_i h1;simpa[zij] using ih h1
   ·simp
  ·rename_i h1;rw[if_neg h1] at h;simp at h
def owC (a b:List Rg) (out:List Rg):List Own:=[.cells 31 [xE a],.cells 31 [xE b],.cells 31 [zke],.cells 31 [.row 4],zG 111 2 rgD out]
theorem zoo:SS mx pb 132 ctComb:=by
 refine sb (cc:=true) Γrq_ok Tryz.func132 ?_;intro ((a:List Rg),(b:List Rg),(op:Int)) ⟨(ha:a.length<=10000),(hb:b.length<=10000)⟩
 have hl1:=zmd (l:=[]) (rs:=a)
 have hl2:=zmd (l:=xm [] a) (rs:=b)
 have hlen:(xm (xm [] a) b).length<=50000:=by simp at hl1;omega
 have hok:=zey (l:=xm [] a) (rs:=b) (zey (fun x hx=>by simp at hx))
 have hfin:zr a b op=(zad (fun c=>zX op (yr a c) (yr b c)) (xm (xm [] a) b) (xm (xm [] a) b).length).1:=rfl;refine gA ?_;refine ⟨([],a),EntL.cons Ent.nil eL,fun _=>⟨by simp,by show a.length<=100000;omega⟩,?_⟩
 refine gA ?_;refine ⟨(xm [] a,b),eL,fun _=>⟨by show (xm [] a).length<=100000;simp at hl1;omega,by show b.length<=100000;omega⟩,?_⟩
 rw[show ctCuts.out (xm [] a,b)=slD 1 znt (xm (xm [] a) b) from rfl];generalize xm (xm [] a) b=cs at hlen hok hfin ⊢;refine gA ?_;refine ⟨0,Nat,fun k=>⟨[(2,.v (.int .i64 op)),(3,.own 0 0),(4,.own 1 0),(6,.own 2 0),(7,slD 1 znt cs),(8,.own 3 0),(9,.v (.bool (zad (fun c=>zX op (yr a c) (yr b c)) cs k).2)),(10,.v (.int .i64 k))],owC a b (zad (fun c=>zX op (yr a c) (yr b c)) cs k).1,[]⟩,fun k=>k<=cs.length,fun k=>cs.length - k,fun _=>Nat.zero_le _,⟨0,Nat.zero_le _,StLe.trans (StLe.nilCell (i:=3) (j:=0) (l:=[zke]) 111 2 (fun _ _=>.junk) rfl rfl) (StLe.ren [0,1,2,3,4] tmS ⟨eZ,eZ,eZ,eZ,yg,trivial⟩ (by decide))⟩,?_⟩
 intro k hk;have hk:k<=cs.length:=hk;have hcl:=zmk (fun c=>zX op (yr a c) (yr b c)) cs k;have hco:=zh4 (fun c=>zX op (yr a c) (yr b c)) cs k;have hst:zad (fun c=>zX op (yr a c) (yr b c)) cs (k+1)=zgg (fun c=>zX op (yr a c) (yr b c)) (cs.getD k default) (zd5 cs k) (zad (fun c=>zX op (yr a c) (yr b c)) cs k):=rfl;refine gA ?_;refine And.intro (fun h=>?_) (fun h=>?_)
 ·have h:k<cs.length:=by have:=of_decide_eq_true h;omega
  have hin:∀ hi,hi=zd5 cs k->zad (fun c=>zX op (yr a c) (yr b c)) cs (k+1)=zgg (fun c=>zX op (yr a c) (yr b c)) (cs.getD k default) hi (zad (fun c=>zX op (yr a c) (yr b c)) cs k):=fun hi e=>by rw[e];exact hst
  generalize hs:zad (fun c=>zX op (yr a c) (yr b c)) cs k=s at hcl hco hin ⊢;obtain ⟨out,opn⟩:=s;have hcl:out.length<=k:=hcl;refine gA ?_;refine And.intro (fun h1=>?_) (fun h1=>?_)
  ·have h1:k+1<cs.length:=by have:=of_decide_eq_true h1;omega
   have e1:((k:Int)+1).toNat=k+1:=by omega
   have hb:0<=cs.getD ((k:Int)+1).toNat default/\cs.getD ((k:Int)+1).toNat default<=1114111:=by rw[e1];exact hok _ (xw h1)
   have hin:=hin (cs.getD ((k:Int)+1).toNat default - 1) (by rw[zd5,if_pos h1,e1])
   refine gA ?_;refine ⟨(a,cs.getD k default),eL,fun _=>(show a.length<=1000000 by omega),?_⟩
   refine gA ?_;refine ⟨(b,cs.getD k default),eL,fun _=>(show b.length<=1000000 by omega),?_⟩
   refine gA ?_;refine ⟨(op,yr a (cs.getD k default),yr b (cs.getD k default)),eL,fun _=>trivial,?_⟩
   rw[show ctKeeps.out (op,yr a (cs.getD k default),yr b (cs.getD k default))=.v (.bool (zX op (yr a (cs.getD k default)) (yr b (cs.getD k default)))) from rfl];generalize hkp:zX op (yr a (cs.getD k default)) (yr b (cs.getD k default))=kp;cases kp with
   | true =>
    simp only[zgg,hkp,if_true] at hin;cases opn with
    | true =>
     have hpos:0<out.length:=hco rfl;simp only[if_true] at hin;refine gA ?_;exact ⟨k+1,(show k+1<=cs.length by omega),(show cs.length - (k+1)<cs.length - k by omega),StLe.ren [0,1,2,3,4] (by rw[hin];repeat' (first|exact trivial|exact eE|exact rfl|exact Ent.int (by omega)|refine And.intro ?_ ?_)) ⟨eZ,eZ,eZ,eZ,by
      rw[hin];show xP _ _ (zG _ 2 rgD (zij out (cs.getD ((k:Int)+1).toNat default - 1)))
      unfold zij;rw[<- uJ];exact zni (fun j hj=>by match j,hj with|0,_=>exact eE|1,_=>exact eE) (show ((out.length:Int) - 1).toNat<out.length by omega),trivial⟩ (by decide)⟩
    | false =>
     simp only[Bool.false_eq_true,if_false] at hin;refine gA ?_;exact ⟨k+1,(show k+1<=cs.length by omega),(show cs.length - (k+1)<cs.length - k by omega),StLe.ren [0,1,2,3,5] (by rw[hin];repeat' (first|exact trivial|exact eE|exact rfl|exact Ent.int (by omega)|refine And.intro ?_ ?_)) ⟨eZ,eZ,eZ,eZ,by
      rw[hin];exact zF (fun j hj=>by match j,hj with|0,_=>exact eE|1,_=>exact eE),trivial⟩ (by decide)⟩
   | false =>
    simp only[zgg,hkp,Bool.false_eq_true,if_false] at hin;refine gA ?_;exact ⟨k+1,(show k+1<=cs.length by omega),(show cs.length - (k+1)<cs.length - k by omega),StLe.ren [0,1,2,3,4] (by rw[hin];repeat' (first|exact trivial|exact eE|exact rfl|exact Ent.int (by omega)|refine And.intro ?_ ?_)) ⟨eZ,eZ,eZ,eZ,by rw[hin];exact own_refl,trivial⟩ (by decide)⟩
  ·have h1:¬k+1<cs.length:=by have:=of_decide_eq_false h1;omega
   have hin:=hin 1114111 (by rw[zd5,if_neg h1])
   refine gA ?_;refine ⟨(a,cs.getD k default),eL,fun _=>(show a.length<=1000000 by omega),?_⟩
   refine gA ?_;refine ⟨(b,cs.getD k default),eL,fun _=>(show b.length<=1000000 by omega),?_⟩
   refine gA ?_;refine ⟨(op,yr a (cs.getD k default),yr b (cs.getD k default)),eL,fun _=>trivial,?_⟩
   rw[show ctKeeps.out (op,yr a (cs.getD k default),yr b (cs.getD k default))=.v (.bool (zX op (yr a (cs.getD k default)) (yr b (cs.getD k default)))) from rfl];generalize hkp:zX op (yr a (cs.getD k default)) (yr b (cs.getD k default))=kp;cases kp with
   | true =>
    simp only[zgg,hkp,if_true] at hin;cases opn with
    | true =>
     have hpos:0<out.length:=hco rfl;simp only[if_true] at hin;refine gA ?_;exact ⟨k+1,(show k+1<=cs.length by omega),(show cs.length - (k+1)<cs.length - k by omega),StLe.ren [0,1,2,3,4] (by rw[hin];repeat' (first|exact trivial|exact eE|exact rfl|exact Ent.int (by omega)|refine And.intro ?_ ?_)) ⟨eZ,eZ,eZ,eZ,by
      rw[hin];show xP _ _ (zG _ 2 rgD (zij out 1114111))
      unfold zij;rw[<- uJ];exact zni (fun j hj=>by match j,hj with|0,_=>exact eE|1,_=>exact eE) (show ((out.length:Int) - 1).toNat<out.length by omega),trivial⟩ (by decide)⟩
    | false =>
     simp only[Bool.false_eq_true,if_false] at hin;refine gA ?_;exact ⟨k+1,(show k+1<=cs.length by omega),(show cs.length - (k+1)<cs.length - k by omega),StLe.ren [0,1,2,3,5] (by rw[hin];repeat' (first|exact trivial|exact eE|exact rfl|exact Ent.int (by omega)|refine And.intro ?_ ?_)) ⟨eZ,eZ,eZ,eZ,by
      rw[hin];exact zF (fun j hj=>by match j,hj with|0,_=>exact eE|1,_=>exact eE),trivial⟩ (by decide)⟩
   | false =>
    simp only[zgg,hkp,Bool.false_eq_true,if_false] at hin;refine gA ?_;exact ⟨k+1,(show k+1<=cs.length by omega),(show cs.length - (k+1)<cs.length - k by omega),StLe.ren [0,1,2,3,4] (by rw[hin];repeat' (first|exact trivial|exact eE|exact rfl|exact Ent.int (by omega)|refine And.intro ?_ ?_)) ⟨eZ,eZ,eZ,eZ,by rw[hin];exact own_refl,trivial⟩ (by decide)⟩
 ·have h:k=cs.length:=by have:=of_decide_eq_false h;omega
  subst h;refine gA ?_;refine EntR.of rfl ?_;show Ent _ (zR (zr a b op))
  rw[hfin];exact eE
def ctMakeR:Ct:={ ι:=List Rg,inp:=fun l=>[xE l],out:=fun l=>zR (canon l),pre:=fun l=>l.length<=10000 }
def Γrs:Ctx:=fun f=>match f with
 | 132=>some (.pure ctComb)
 | _=>none
theorem Γrs_ok:CK mx pb Γrs:=by
 intro f h hh;simp only[Γrs] at hh;split at hh<;>simp at hh<;>subst hh;exact zoo
theorem zaw:SS mx pb 107 ctMakeR:=by
 refine sb (cc:=true) Γrs_ok Tryz.func107 ?_;intro (l:List Rg) (hl:l.length<=10000)
 refine gA ?_;refine ⟨(l,[],1),EntL.cons eE (EntL.cons (Ent.ag (EntL.cons Ent.nil eL)) eL),⟨hl,by simp⟩,?_⟩
 rw[show ctComb.out (l,[],1)=zR (canon l) from by rw[<- zon];rfl];refine gA ?_;exact eR
def ctSameS:Ct:={ ι:=List Rg × List Rg,inp:=fun x=>[zR x.1,zR x.2],out:=fun x=>.v (.bool (decide (x.1=x.2))),pre:=fun x=>x.1.length<=1000000/\x.2.length<=1000000 }
theorem zfk:SS mx pb 51 ctSameS:=by
 refine sb (cc:=true) zH Tryz.func51 ?_;intro ((a:List Rg),(b:List Rg)) ⟨(ha:a.length<=1000000),(hb:b.length<=1000000)⟩
 refine gA ?_;refine And.intro (fun h=>?_) (fun h=>?_)
 ·have h:a.length≠b.length:=by
   have h:((a.length:Int) != (b.length:Int))=true:=h;simp at h;omega
  refine gA ?_;exact ze (eq_comm.1 (decide_eq_false fun e=>h (congrArg List.length e)))
 have h:a.length=b.length:=by
  have h:((a.length:Int) != (b.length:Int))=false:=h;simp at h;omega
 refine gA ?_;refine ⟨0,Nat,fun k=>⟨[(2,.own 0 0),(3,.own 1 0),(5,.v (.int .i64 k))],[.cells 31 [xE a],.cells 31 [xE b]],[]⟩,fun k=>k<=a.length/\∀ j,j<k->a.getD j default=b.getD j default,fun k=>a.length - k,fun _=>Nat.zero_le _,⟨0,⟨Nat.zero_le _,fun j hj=>by omega⟩,(sr [0,1])⟩,?_⟩
 rintro k ⟨hk,hd⟩
 refine gA ?_;refine And.intro (fun h1=>?_) (fun h1=>?_)
 ·have h1:k<a.length:=by have:=of_decide_eq_true h1;omega
  refine gA ?_;refine And.intro (fun h2=>?_) (fun h2=>?_)
  ·have h2:(!(decide ((a.getD k default).1=(b.getD k default).1)&&(decide ((a.getD k default).2=(b.getD k default).2)&&true)))=true:=h2;refine gA ?_;exact ze (eq_comm.1 (decide_eq_false fun e=>by
    have e:a=b:=e;rw[e] at h2;simp at h2))
  ·have h2:(!(decide ((a.getD k default).1=(b.getD k default).1)&&(decide ((a.getD k default).2=(b.getD k default).2)&&true)))=false:=h2;have h2:a.getD k default=b.getD k default:=by
    simp only[Bool.and_true,Bool.not_eq_false',Bool.and_eq_true,decide_eq_true_eq] at h2;exact Prod.ext h2.1 h2.2
   refine gA ?_;exact ⟨k+1,⟨by omega,znm hd h2⟩,(show a.length - (k+1)<a.length - k by omega),(sr [0,1])⟩
 ·have h1:k=a.length:=by have:=of_decide_eq_false h1;omega
  subst h1;refine gA ?_;exact ze (eq_comm.1 (decide_eq_true (zdk h hd)))
end Go.Proofs
