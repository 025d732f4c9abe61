import Derived.Test.YtcihhjjmcompkaaGreatDoorSoz
set_option linter.unusedVariables false
set_option linter.unusedSimpArgs false
namespace Go.Proofs
open Go Go.Sx
variable {mx:Int}{pb:Bool}
theorem placeL_take {n:Int}:∀ {k:Nat}{l:List Int},k≤l.length→(∀ j,j<k→l.getD j default<n)→placeL l n=l.take k++placeL (l.drop k) n
 | 0,l,_,_=>by simp
 | k+1,[],h,_=>by simp at h
 | k+1,x::l,h,hd=>by
  have h0:=hd 0 (by omega)
  simp at h0
  rw[placeL,if_neg (by omega),List.take_succ_cons,List.drop_succ_cons,List.cons_append,← placeL_take (by simpa using h) fun j hj=>by
   have:=hd (j+1) (by omega)
   simpa using this]
def ctPlace:Ct:={ ι:=List Int × Int,inp:=fun x=>[slD 1 intD x.1,.v (.int .i64 x.2)],out:=fun x=>slD 1 intD (placeL x.1 x.2),pre:=fun x=>x.1.length≤1000000 }
def PlInv (l:List Int) (n:Int) (i:Nat):Bool→List Int→Prop
 | false,out=>out=l.take i∧∀ j,j<i→l.getD j default<n
 | true,out=>out++l.drop i=placeL l n
theorem pl_more {l out:List Int}{n:Int}{i:Nat}{d:Bool}(h:PlInv l n i d out) (hi:i<l.length) (hc:d=true∨l.getD i default<n):PlInv l n (i+1) d (out++[l.getD i default]):=by
 cases d with
 | true =>
  show (out++[l.getD i default])++l.drop (i+1)=placeL l n
  rw[List.append_assoc,List.singleton_append,← drop_at hi];exact h
 | false =>
  obtain ⟨h1,h2⟩:=h
  refine ⟨by rw[h1,take_at hi],fun j hj=>?_⟩
  by_cases e:j=i
  ·subst e;simpa using hc
  ·exact h2 j (by omega)
theorem pl_same {l out:List Int}{n:Int}{i:Nat}(h:PlInv l n i false out) (hi:i<l.length) (hc:¬l.getD i default>n) (hg:l.getD i default≥n):PlInv l n (i+1) true (out++[l.getD i default]):=by
 obtain ⟨h1,h2⟩:=h
 show (out++[l.getD i default])++l.drop (i+1)=placeL l n
 rw[placeL_take (by omega) h2,drop_at hi,placeL,if_pos hg,if_neg hc,h1,List.append_assoc,List.singleton_append]
theorem pl_new {l out:List Int}{n:Int}{i:Nat}(h:PlInv l n i false out) (hi:i<l.length) (hc:l.getD i default>n):PlInv l n (i+1) true (out++[n]++[l.getD i default]):=by
 obtain ⟨h1,h2⟩:=h
 show (out++[n]++[l.getD i default])++l.drop (i+1)=placeL l n
 rw[placeL_take (by omega) h2,drop_at hi,placeL,if_pos (by omega),if_pos hc,h1]
 simp
set_option maxHeartbeats 2000000 in
theorem place_ok:Sound Tryz.prog (GlT mx pb) 137 ctPlace:=by
 refine sound_by (cc:=true) Γ0_ok Tryz.T_ok Tryz.mixed Tryz.func137 rfl (by kernel_rfl) (fun _=>rfl) (fun _ _=>by show 2≤48;decide) ?_
 intro ((l:List Int),(n:Int)) (hl:l.length≤1000000)
 refine gA ?_
 refine ⟨0,Nat × Bool × List Int,fun|(i,d,out)=>⟨[(0,slD 1 intD l),(1,.v (.int .i64 n)),(5,.row 0),(6,.v (.bool d)),(7,.v (.int .i64 i))],[rowL 3 1 intD out],[]⟩,fun|(i,d,out)=>i≤l.length∧out.length≤i+1∧PlInv l n i d out,fun x=>l.length - x.1,fun _=>Nat.zero_le _,⟨(0,false,[]),⟨Nat.zero_le _,by simp,rfl,fun j hj=>by omega⟩,StLe.trans (StLe.nilRow (t:=5) 3 1 (fun _ _=>.junk) rfl) (StLe.ren [0] tmS ⟨own_nil,trivial⟩ (by decide))⟩,?_⟩
 rintro ⟨i,d,out⟩ ⟨hi,ho,hI⟩
 refine gA ?_
 refine And.intro (fun h=>?_) (fun h=>?_)
 ·have h:i<l.length:=by have:=of_decide_eq_true h;omega
  cases d with
  | true =>
   refine gA ?_
   exact ⟨(i+1,true,out++[l.getD i default]),⟨by omega,by rw[List.length_append,List.length_singleton];omega,pl_more hI h (.inl rfl)⟩,(show l.length - (i+1)<l.length - i by omega),StLe.ren [1] tmS ⟨own_app (fun j hj=>by match j,hj with|0,_=>exact Ent.refl _),trivial⟩ (by decide)⟩
  | false =>
   refine gA ?_
   refine And.intro (fun h1=>?_) (fun h1=>?_)
   ·have h1:l.getD i default≥n:=of_decide_eq_true h1
    have ho':out.length≤i:=by rw[hI.1,List.length_take];omega
    refine gA ?_
    refine And.intro (fun h2=>?_) (fun h2=>?_)
    ·have h2:l.getD i default>n:=of_decide_eq_true h2
     refine gA ?_
     refine And.intro (show out.length+1+1≤_ by omega) (And.intro (show (out.length+1+1)*8≤_ by omega) ?_)
     refine gA ?_
     exact ⟨(i+1,true,out++[n]++[l.getD i default]),⟨by omega,by simp only[List.length_append,List.length_singleton];omega,pl_new hI h h2⟩,(show l.length - (i+1)<l.length - i by omega),StLe.ren [2] tmS ⟨own_app2 (fun j hj=>by match j,hj with|0,_=>exact Ent.refl _) (fun j hj=>by match j,hj with|0,_=>exact Ent.refl _),trivial⟩ (by decide)⟩
    ·have h2:¬l.getD i default>n:=of_decide_eq_false h2
     refine gA ?_
     exact ⟨(i+1,true,out++[l.getD i default]),⟨by omega,by rw[List.length_append,List.length_singleton];omega,pl_same hI h h2 h1⟩,(show l.length - (i+1)<l.length - i by omega),StLe.ren [1] tmS ⟨own_app (fun j hj=>by match j,hj with|0,_=>exact Ent.refl _),trivial⟩ (by decide)⟩
   ·have h1:¬l.getD i default≥n:=of_decide_eq_false h1
    refine gA ?_
    exact ⟨(i+1,false,out++[l.getD i default]),⟨by omega,by rw[List.length_append,List.length_singleton];omega,pl_more hI h (.inr (by omega))⟩,(show l.length - (i+1)<l.length - i by omega),StLe.ren [1] tmS ⟨own_app (fun j hj=>by match j,hj with|0,_=>exact Ent.refl _),trivial⟩ (by decide)⟩
 ·have h:i=l.length:=by have:=of_decide_eq_false h;omega
  subst h
  cases d with
  | true =>
   have e:out=placeL l n:=by
    have hI:out++l.drop l.length=placeL l n:=hI
    simpa using hI
   refine gA ?_
   subst e
   exact EntR.of rfl (Ent.refl _)
  | false =>
   have e:out=l:=by rw[hI.1,List.take_length]
   have e2:placeL l n=l++[n]:=by
    rw[placeL_take (Nat.le_refl _) hI.2];simp[placeL]
   refine gA ?_
   refine EntR.of rfl ?_
   show Ent _ (slD 1 intD (placeL l n))
   rw[e2,e]
   exact ent_app (fun j hj=>by match j,hj with|0,_=>exact Ent.refl _)
def ctCuts:Ct:={ ι:=List Int × List Rg,inp:=fun x=>[slD 1 intD x.1,setD x.2],out:=fun x=>slD 1 intD (cutsL x.1 x.2),pre:=fun x=>x.1.length≤100000∧x.2.length≤100000 }
def Γrp:Ctx:=fun f=>match f with
 | 137=>some (.pure ctPlace)
 | 91=>some (.pure ctValid)
 | _=>none
theorem Γrp_ok:CtxOk Tryz.prog (GlT mx pb) Γrp:=by
 intro f h hh
 simp only[Γrp] at hh
 split at hh<;>simp at hh<;>subst hh
 ·exact place_ok
 ·exact rvalid_ok
set_option maxHeartbeats 2000000 in
theorem cuts_ok:Sound Tryz.prog (GlT mx pb) 87 ctCuts:=by
 refine sound_by (cc:=false) Γrp_ok Tryz.T_ok Tryz.mixed Tryz.func87 rfl (by kernel_rfl) (fun _=>rfl) (fun _ _=>by show 2≤44;decide) ?_
 intro ((l:List Int),(rs:List Rg)) ⟨(hl:l.length≤100000),(hr:rs.length≤100000)⟩
 have hcl:=cutsK_len (l:=l) (rs:=rs)
 refine gA ?_
 refine ⟨0,Nat,fun k=>⟨[(0,slD 1 intD (cutsK l rs k)),(3,.own 0 0),(5,.v (.int .i64 k))],[.cells 24 [rgsD rs]],[]⟩,fun k=>k≤rs.length,fun k=>rs.length - k,fun _=>Nat.zero_le _,⟨0,Nat.zero_le _,StLe.ren [0] tmS ⟨⟨rfl,EntL.refl _,rfl⟩,trivial⟩ (by decide)⟩,?_⟩
 intro k hk
 have hk:k≤rs.length:=hk
 have hck:=hcl k
 refine gA ?_
 refine And.intro (fun h=>?_) (fun h=>?_)
 ·have h:k<rs.length:=by have:=of_decide_eq_true h;omega
  have hp:=placeL_len (n:=(rs.getD k default).1) (l:=cutsK l rs k)
  have hstep:∀ l1,(l1=if 0≤(rs.getD k default).1∧(rs.getD k default).1≤1114111 then placeL (cutsK l rs k) (rs.getD k default).1 else cutsK l rs k)→cutsK l rs (k+1)=if 0≤(rs.getD k default).2∧(rs.getD k default).2<1114111 then placeL l1 ((rs.getD k default).2+1) else l1:=by
   intro l1 e;rw[cutsK,stepL,← e]
  refine gA ?_
  refine ⟨(rs.getD k default).1,EntL.refl _,trivial,?_⟩
  refine gA ?_
  refine And.intro (fun h1=>?_) (fun h1=>?_)
  ·have h1:=validB_iff.1 (show validB (rs.getD k default).1=true from h1)
   have hst:=hstep (placeL (cutsK l rs k) (rs.getD k default).1) (by rw[if_pos h1])
   refine gA ?_
   refine ⟨(cutsK l rs k,(rs.getD k default).1),EntL.refl _,(show (cutsK l rs k).length≤1000000 by omega),?_⟩
   refine gA ?_
   refine And.intro (fun h2=>?_) (fun h2=>?_)
   ·have h2:0≤(rs.getD k default).2∧(rs.getD k default).2<1114111:=by
     exact bif_dec.1 h2
    rw[if_pos h2] at hst
    refine gA ?_
    refine ⟨(placeL (cutsK l rs k) (rs.getD k default).1,(rs.getD k default).2+1),EntL.refl _,(show (placeL (cutsK l rs k) (rs.getD k default).1).length≤1000000 by omega),?_⟩
    refine gA ?_
    exact ⟨k+1,(show k+1≤rs.length by omega),(show rs.length - (k+1)<rs.length - k by omega),StLe.ren [0] (by rw[hst];repeat' (first|exact trivial|exact Ent.refl _|exact rfl|exact Ent.int (by omega)|refine And.intro ?_ ?_)) ⟨⟨rfl,EntL.refl _,rfl⟩,trivial⟩ (by decide)⟩
   ·have h2:¬(0≤(rs.getD k default).2∧(rs.getD k default).2<1114111):=by
     exact bif_no.1 h2
    rw[if_neg h2] at hst
    refine gA ?_
    exact ⟨k+1,(show k+1≤rs.length by omega),(show rs.length - (k+1)<rs.length - k by omega),StLe.ren [0] (by rw[hst];repeat' (first|exact trivial|exact Ent.refl _|exact rfl|exact Ent.int (by omega)|refine And.intro ?_ ?_)) ⟨⟨rfl,EntL.refl _,rfl⟩,trivial⟩ (by decide)⟩
  ·have h1:¬(0≤(rs.getD k default).1∧(rs.getD k default).1≤1114111):=fun hh=>by
    have h1:validB (rs.getD k default).1=false:=h1
    rw[validB_iff.2 hh] at h1;cases h1
   have hst:=hstep (cutsK l rs k) (by rw[if_neg h1])
   refine gA ?_
   refine And.intro (fun h2=>?_) (fun h2=>?_)
   ·have h2:0≤(rs.getD k default).2∧(rs.getD k default).2<1114111:=by
     exact bif_dec.1 h2
    rw[if_pos h2] at hst
    refine gA ?_
    refine ⟨(cutsK l rs k,(rs.getD k default).2+1),EntL.refl _,(show (cutsK l rs k).length≤1000000 by omega),?_⟩
    refine gA ?_
    exact ⟨k+1,(show k+1≤rs.length by omega),(show rs.length - (k+1)<rs.length - k by omega),StLe.ren [0] (by rw[hst];repeat' (first|exact trivial|exact Ent.refl _|exact rfl|exact Ent.int (by omega)|refine And.intro ?_ ?_)) ⟨⟨rfl,EntL.refl _,rfl⟩,trivial⟩ (by decide)⟩
   ·have h2:¬(0≤(rs.getD k default).2∧(rs.getD k default).2<1114111):=by
     exact bif_no.1 h2
    rw[if_neg h2] at hst
    refine gA ?_
    exact ⟨k+1,(show k+1≤rs.length by omega),(show rs.length - (k+1)<rs.length - k by omega),StLe.ren [0] (by rw[hst];repeat' (first|exact trivial|exact Ent.refl _|exact rfl|exact Ent.int (by omega)|refine And.intro ?_ ?_)) ⟨⟨rfl,EntL.refl _,rfl⟩,trivial⟩ (by decide)⟩
 ·have h:k=rs.length:=by have:=of_decide_eq_false h;omega
  subst h
  refine gA ?_
  refine ⟨(cutsK l rs rs.length,0),EntL.refl _,(show (cutsK l rs rs.length).length≤1000000 by omega),?_⟩
  refine gA ?_
  exact EntR.of rfl (Ent.refl _)
theorem hasB_nil (c:Int):hasB [] c=false:=by simp[hasB]
theorem has_at {l:List Rg}{c:Int}{k:Nat}(hk:k<l.length) (hc:0≤c∧c≤1114111) (h:(l.getD k default).1≤c∧c≤(l.getD k default).2):hasB l c=true :=
 hasB_iff.2 ⟨hc,_,getD_mem hk,h⟩
theorem has_no {l:List Rg}{c:Int}(h:∀ j,j<l.length→¬((l.getD j default).1≤c∧c≤(l.getD j default).2)):hasB l c=false:=by
 rw[← Bool.not_eq_true,hasB_iff]
 rintro ⟨_,r,hr,h1⟩
 obtain ⟨i,hi,rfl⟩:=List.getElem_of_mem hr
 have:=h i hi
 simp only[List.getD_eq_getElem?_getD,List.getElem?_eq_getElem hi,Option.getD_some] at this
 exact this h1
def ctHas:Ct:={ ι:=List Rg × Int,inp:=fun x=>[setD x.1,.v (.int .i64 x.2)],out:=fun x=>.v (.bool (hasB x.1 x.2)),pre:=fun x=>x.1.length≤1000000 }
def Γrv:Ctx:=fun f=>match f with
 | 90=>some (.pure ctValid)
 | 91=>some (.pure ctValid)
 | _=>none
theorem Γrv_ok:CtxOk Tryz.prog (GlT mx pb) Γrv:=by
 intro f h hh
 simp only[Γrv] at hh
 split at hh<;>simp at hh<;>subst hh
 ·exact valid_ok
 ·exact rvalid_ok
set_option maxHeartbeats 1000000 in
theorem r2Has_ok:Sound Tryz.prog (GlT mx pb) 47 ctHas:=by
 refine sound_by (cc:=true) Γrv_ok Tryz.T_ok Tryz.mixed Tryz.func47 rfl (by kernel_rfl) (fun _=>rfl) (fun _ _=>by show 2≤35;decide) ?_
 intro ((l:List Rg),(c:Int)) (hl:l.length≤1000000)
 refine gA ?_
 refine ⟨0,Nat,fun k=>⟨[(1,.v (.int .i64 c)),(2,.own 0 0),(5,.v (.int .i64 k))],[.cells 24 [rgsD l]],[]⟩,fun k=>k≤l.length∧((0≤c∧c≤1114111)→∀ j,j<k→¬((l.getD j default).1≤c∧c≤(l.getD j default).2)),fun k=>l.length - k,fun _=>Nat.zero_le _,⟨0,⟨Nat.zero_le _,fun _ j hj=>by omega⟩,StLe.ren [0] tmS ⟨⟨rfl,EntL.refl _,rfl⟩,trivial⟩ (by decide)⟩,?_⟩
 rintro k ⟨hk,hd⟩
 refine gA ?_
 refine And.intro (fun h=>?_) (fun h=>?_)
 ·have h:k<l.length:=by have:=of_decide_eq_true h;omega
  refine gA ?_
  refine ⟨c,EntL.refl _,trivial,?_⟩
  rw[show ctValid.out c=.v (.bool (validB c)) from rfl]
  refine gA ?_
  generalize hv:validB c=v
  cases v with
  | false =>
   have hc:¬(0≤c∧c≤1114111):=fun hh=>by rw[validB_iff.2 hh] at hv;cases hv
   refine gA ?_
   exact ⟨k+1,⟨by omega,fun hh=>absurd hh hc⟩,(show l.length - (k+1)<l.length - k by omega),StLe.ren [0] tmS ⟨⟨rfl,EntL.refl _,rfl⟩,trivial⟩ (by decide)⟩
  | true =>
   have hc:=validB_iff.1 hv
   refine gA ?_
   generalize hp:decide ((l.getD ((k:Int)).toNat default).1≤c)=p
   cases p with
   | false =>
    have hp:¬(l.getD k default).1≤c:=of_decide_eq_false hp
    refine gA ?_
    exact ⟨k+1,⟨by omega,fun hh=>next_at (hd hh) fun h3=>hp h3.1⟩,(show l.length - (k+1)<l.length - k by omega),StLe.ren [0] tmS ⟨⟨rfl,EntL.refl _,rfl⟩,trivial⟩ (by decide)⟩
   | true =>
    have hp:(l.getD k default).1≤c:=of_decide_eq_true hp
    refine gA ?_
    refine And.intro (fun h1=>?_) (fun h1=>?_)
    ·have h1:c≤(l.getD k default).2:=of_decide_eq_true h1
     refine gA ?_
     exact EntR.bool (has_at h hc ⟨hp,h1⟩).symm
    ·have h1:¬c≤(l.getD k default).2:=of_decide_eq_false h1
     refine gA ?_
     exact ⟨k+1,⟨by omega,fun hh=>next_at (hd hh) fun h3=>h1 h3.2⟩,(show l.length - (k+1)<l.length - k by omega),StLe.ren [0] tmS ⟨⟨rfl,EntL.refl _,rfl⟩,trivial⟩ (by decide)⟩
 ·have h:k=l.length:=by have:=of_decide_eq_false h;omega
  subst h
  refine gA ?_
  refine EntR.bool ?_
  show false=hasB l c
  rw[eq_comm]
  by_cases hc:0≤c∧c≤1114111
  ·exact has_no (hd hc)
  ·rw[← Bool.not_eq_true,hasB_iff]
   exact fun hh=>hc hh.1
end Go.Proofs
namespace Go.Proofs
open Go Go.Sx
variable {mx:Int}{pb:Bool}
def ctKeeps:Ct:={ ι:=Int × Bool × Bool,inp:=fun x=>[.v (.int .i64 x.1),.v (.bool x.2.1),.v (.bool x.2.2)],out:=fun x=>.v (.bool (keepsB x.1 x.2.1 x.2.2)),pre:=fun _=>True }
theorem keeps_ok:Sound Tryz.prog (GlT mx pb) 106 ctKeeps:=by
 refine sound_by (cc:=true) Γ0_ok Tryz.T_ok Tryz.mixed Tryz.func106 rfl (by kernel_rfl) (fun _=>rfl) (fun _ _=>by show 3≤25;decide) ?_
 intro ((op:Int),(x:Bool),(y:Bool)) _
 refine gA ?_
 refine And.intro (fun h=>?_) (fun h=>?_)
 ·have h:op=1:=eq_of_beq h
  subst h
  cases x with
  | true =>
   refine gA ?_
   exact EntR.bool (by simp[keepsB])
  | false =>
   refine gA ?_
   exact EntR.bool (by simp[keepsB])
 have hn1:¬op=1:=fun e=>by subst e;cases h
 refine gA ?_
 refine And.intro (fun h2=>?_) (fun h2=>?_)
 ·have h2:op=2:=eq_of_beq h2
  subst h2
  cases x with
  | true =>
   refine gA ?_
   exact EntR.bool (by simp[keepsB])
  | false =>
   refine gA ?_
   exact EntR.bool (by simp[keepsB])
 have hn2:¬op=2:=fun e=>by subst e;cases h2
 refine gA ?_
 cases x with
 | true =>
  refine gA ?_
  exact EntR.bool (by simp only[keepsB,hn1,hn2,if_false];simp)
 | false =>
  refine gA ?_
  exact EntR.bool (by simp only[keepsB,hn1,hn2,if_false];simp)
def ctComb:Ct:={ ι:=List Rg × List Rg × Int,inp:=fun x=>[setD x.1,setD x.2.1,.v (.int .i64 x.2.2)],out:=fun x=>setD (combL x.1 x.2.1 x.2.2),pre:=fun x=>x.1.length≤10000∧x.2.1.length≤10000 }
def Γrq:Ctx:=fun f=>match f with
 | 87=>some (.pure ctCuts)
 | 47=>some (.pure ctHas)
 | 106=>some (.pure ctKeeps)
 | _=>none
theorem Γrq_ok:CtxOk Tryz.prog (GlT mx pb) Γrq:=by
 intro f h hh
 simp only[Γrq] at hh
 split at hh<;>simp at hh<;>subst hh
 ·exact cuts_ok
 ·exact r2Has_ok
 ·exact keeps_ok
theorem combK_len (keep:Int→Bool) (cs:List Int):∀ k,(combK keep cs k).1.length≤k
 | 0=>by simp[combK]
 | k+1=>by
  have:=combK_len keep cs k
  simp only[combK,combS]
  split
  ·split
   ·simp[setHi];omega
   ·simp;omega
  ·simp;omega
theorem combK_open (keep:Int→Bool) (cs:List Int):∀ k,(combK keep cs k).2=true→0<(combK keep cs k).1.length
 | 0,h=>by simp[combK] at h
 | k+1,h=>by
  have ih:=combK_open keep cs k
  simp only[combK,combS] at h ⊢
  split
  ·split
   ·rename_i h1;simpa[setHi] using ih h1
   ·simp
  ·rename_i h1;rw[if_neg h1] at h;simp at h
def owC (a b:List Rg) (out:List Rg):List Own:=[.cells 24 [rgsD a],.cells 24 [rgsD b],.cells 24 [nilV],.cells 24 [.row 4],rowL 82 2 rgD out]
set_option maxHeartbeats 4000000 in
theorem comb_ok:Sound Tryz.prog (GlT mx pb) 59 ctComb:=by
 refine sound_by (cc:=true) Γrq_ok Tryz.T_ok Tryz.mixed Tryz.func59 rfl (by kernel_rfl) (fun _=>rfl) (fun _ _=>by show 3≤79;decide) ?_
 intro ((a:List Rg),(b:List Rg),(op:Int)) ⟨(ha:a.length≤10000),(hb:b.length≤10000)⟩
 have hl1:=cutsL_len (l:=[]) (rs:=a)
 have hl2:=cutsL_len (l:=cutsL [] a) (rs:=b)
 have hlen:(cutsL (cutsL [] a) b).length≤50000:=by simp at hl1;omega
 have hok:=cutsL_ok (l:=cutsL [] a) (rs:=b) (cutsL_ok (fun x hx=>by simp at hx))
 have hfin:combL a b op=(combK (fun c=>keepsB op (hasB a c) (hasB b c)) (cutsL (cutsL [] a) b) (cutsL (cutsL [] a) b).length).1:=rfl
 refine gA ?_
 refine ⟨([],a),EntL.cons Ent.nil (EntL.refl _),fun _=>⟨by simp,by show a.length≤100000;omega⟩,?_⟩
 refine gA ?_
 refine ⟨(cutsL [] a,b),EntL.refl _,fun _=>⟨by show (cutsL [] a).length≤100000;simp at hl1;omega,by show b.length≤100000;omega⟩,?_⟩
 rw[show ctCuts.out (cutsL [] a,b)=slD 1 intD (cutsL (cutsL [] a) b) from rfl]
 generalize cutsL (cutsL [] a) b=cs at hlen hok hfin ⊢
 refine gA ?_
 refine ⟨0,Nat,fun k=>⟨[(2,.v (.int .i64 op)),(3,.own 0 0),(4,.own 1 0),(6,.own 2 0),(7,slD 1 intD cs),(8,.own 3 0),(9,.v (.bool (combK (fun c=>keepsB op (hasB a c) (hasB b c)) cs k).2)),(10,.v (.int .i64 k))],owC a b (combK (fun c=>keepsB op (hasB a c) (hasB b c)) cs k).1,[]⟩,fun k=>k≤cs.length,fun k=>cs.length - k,fun _=>Nat.zero_le _,⟨0,Nat.zero_le _,StLe.trans (StLe.nilCell (i:=3) (j:=0) (l:=[nilV]) 82 2 (fun _ _=>.junk) rfl rfl) (StLe.ren [0,1,2,3,4] tmS ⟨⟨rfl,EntL.refl _,rfl⟩,⟨rfl,EntL.refl _,rfl⟩,⟨rfl,EntL.refl _,rfl⟩,⟨rfl,EntL.refl _,rfl⟩,own_nil,trivial⟩ (by decide))⟩,?_⟩
 intro k hk
 have hk:k≤cs.length:=hk
 have hcl:=combK_len (fun c=>keepsB op (hasB a c) (hasB b c)) cs k
 have hco:=combK_open (fun c=>keepsB op (hasB a c) (hasB b c)) cs k
 have hst:combK (fun c=>keepsB op (hasB a c) (hasB b c)) cs (k+1)=combS (fun c=>keepsB op (hasB a c) (hasB b c)) (cs.getD k default) (segHi cs k) (combK (fun c=>keepsB op (hasB a c) (hasB b c)) cs k):=rfl
 refine gA ?_
 refine And.intro (fun h=>?_) (fun h=>?_)
 ·have h:k<cs.length:=by have:=of_decide_eq_true h;omega
  have hin:∀ hi,hi=segHi cs k→combK (fun c=>keepsB op (hasB a c) (hasB b c)) cs (k+1)=combS (fun c=>keepsB op (hasB a c) (hasB b c)) (cs.getD k default) hi (combK (fun c=>keepsB op (hasB a c) (hasB b c)) cs k):=fun hi e=>by rw[e];exact hst
  generalize hs:combK (fun c=>keepsB op (hasB a c) (hasB b c)) cs k=s at hcl hco hin ⊢
  obtain ⟨out,opn⟩:=s
  have hcl:out.length≤k:=hcl
  refine gA ?_
  refine And.intro (fun h1=>?_) (fun h1=>?_)
  ·have h1:k+1<cs.length:=by have:=of_decide_eq_true h1;omega
   have e1:((k:Int)+1).toNat=k+1:=by omega
   have hb:0≤cs.getD ((k:Int)+1).toNat default∧cs.getD ((k:Int)+1).toNat default≤1114111:=by rw[e1];exact hok _ (getD_mem h1)
   have hin:=hin (cs.getD ((k:Int)+1).toNat default - 1) (by rw[segHi,if_pos h1,e1])
   refine gA ?_
   refine ⟨(a,cs.getD k default),EntL.refl _,fun _=>(show a.length≤1000000 by omega),?_⟩
   refine gA ?_
   refine ⟨(b,cs.getD k default),EntL.refl _,fun _=>(show b.length≤1000000 by omega),?_⟩
   refine gA ?_
   refine ⟨(op,hasB a (cs.getD k default),hasB b (cs.getD k default)),EntL.refl _,fun _=>trivial,?_⟩
   rw[show ctKeeps.out (op,hasB a (cs.getD k default),hasB b (cs.getD k default))=.v (.bool (keepsB op (hasB a (cs.getD k default)) (hasB b (cs.getD k default)))) from rfl]
   generalize hkp:keepsB op (hasB a (cs.getD k default)) (hasB b (cs.getD k default))=kp
   cases kp with
   | true =>
    simp only[combS,hkp,if_true] at hin
    cases opn with
    | true =>
     have hpos:0<out.length:=hco rfl
     simp only[if_true] at hin
     refine gA ?_
     exact ⟨k+1,(show k+1≤cs.length by omega),(show cs.length - (k+1)<cs.length - k by omega),StLe.ren [0,1,2,3,4] (by rw[hin];repeat' (first|exact trivial|exact Ent.refl _|exact rfl|exact Ent.int (by omega)|refine And.intro ?_ ?_)) ⟨⟨rfl,EntL.refl _,rfl⟩,⟨rfl,EntL.refl _,rfl⟩,⟨rfl,EntL.refl _,rfl⟩,⟨rfl,EntL.refl _,rfl⟩,by
      rw[hin]
      show OwnRen _ _ (rowL _ 2 rgD (setHi out (cs.getD ((k:Int)+1).toNat default - 1)))
      unfold setHi
      rw[← toNat_pred]
      exact own_set (fun j hj=>by match j,hj with|0,_=>exact Ent.refl _|1,_=>exact Ent.refl _) (show ((out.length:Int) - 1).toNat<out.length by omega),trivial⟩ (by decide)⟩
    | false =>
     simp only[Bool.false_eq_true,if_false] at hin
     refine gA ?_
     exact ⟨k+1,(show k+1≤cs.length by omega),(show cs.length - (k+1)<cs.length - k by omega),StLe.ren [0,1,2,3,5] (by rw[hin];repeat' (first|exact trivial|exact Ent.refl _|exact rfl|exact Ent.int (by omega)|refine And.intro ?_ ?_)) ⟨⟨rfl,EntL.refl _,rfl⟩,⟨rfl,EntL.refl _,rfl⟩,⟨rfl,EntL.refl _,rfl⟩,⟨rfl,EntL.refl _,rfl⟩,by
      rw[hin]
      exact own_app (fun j hj=>by match j,hj with|0,_=>exact Ent.refl _|1,_=>exact Ent.refl _),trivial⟩ (by decide)⟩
   | false =>
    simp only[combS,hkp,Bool.false_eq_true,if_false] at hin
    refine gA ?_
    exact ⟨k+1,(show k+1≤cs.length by omega),(show cs.length - (k+1)<cs.length - k by omega),StLe.ren [0,1,2,3,4] (by rw[hin];repeat' (first|exact trivial|exact Ent.refl _|exact rfl|exact Ent.int (by omega)|refine And.intro ?_ ?_)) ⟨⟨rfl,EntL.refl _,rfl⟩,⟨rfl,EntL.refl _,rfl⟩,⟨rfl,EntL.refl _,rfl⟩,⟨rfl,EntL.refl _,rfl⟩,by rw[hin];exact own_refl,trivial⟩ (by decide)⟩
  ·have h1:¬k+1<cs.length:=by have:=of_decide_eq_false h1;omega
   have hin:=hin 1114111 (by rw[segHi,if_neg h1])
   refine gA ?_
   refine ⟨(a,cs.getD k default),EntL.refl _,fun _=>(show a.length≤1000000 by omega),?_⟩
   refine gA ?_
   refine ⟨(b,cs.getD k default),EntL.refl _,fun _=>(show b.length≤1000000 by omega),?_⟩
   refine gA ?_
   refine ⟨(op,hasB a (cs.getD k default),hasB b (cs.getD k default)),EntL.refl _,fun _=>trivial,?_⟩
   rw[show ctKeeps.out (op,hasB a (cs.getD k default),hasB b (cs.getD k default))=.v (.bool (keepsB op (hasB a (cs.getD k default)) (hasB b (cs.getD k default)))) from rfl]
   generalize hkp:keepsB op (hasB a (cs.getD k default)) (hasB b (cs.getD k default))=kp
   cases kp with
   | true =>
    simp only[combS,hkp,if_true] at hin
    cases opn with
    | true =>
     have hpos:0<out.length:=hco rfl
     simp only[if_true] at hin
     refine gA ?_
     exact ⟨k+1,(show k+1≤cs.length by omega),(show cs.length - (k+1)<cs.length - k by omega),StLe.ren [0,1,2,3,4] (by rw[hin];repeat' (first|exact trivial|exact Ent.refl _|exact rfl|exact Ent.int (by omega)|refine And.intro ?_ ?_)) ⟨⟨rfl,EntL.refl _,rfl⟩,⟨rfl,EntL.refl _,rfl⟩,⟨rfl,EntL.refl _,rfl⟩,⟨rfl,EntL.refl _,rfl⟩,by
      rw[hin]
      show OwnRen _ _ (rowL _ 2 rgD (setHi out 1114111))
      unfold setHi
      rw[← toNat_pred]
      exact own_set (fun j hj=>by match j,hj with|0,_=>exact Ent.refl _|1,_=>exact Ent.refl _) (show ((out.length:Int) - 1).toNat<out.length by omega),trivial⟩ (by decide)⟩
    | false =>
     simp only[Bool.false_eq_true,if_false] at hin
     refine gA ?_
     exact ⟨k+1,(show k+1≤cs.length by omega),(show cs.length - (k+1)<cs.length - k by omega),StLe.ren [0,1,2,3,5] (by rw[hin];repeat' (first|exact trivial|exact Ent.refl _|exact rfl|exact Ent.int (by omega)|refine And.intro ?_ ?_)) ⟨⟨rfl,EntL.refl _,rfl⟩,⟨rfl,EntL.refl _,rfl⟩,⟨rfl,EntL.refl _,rfl⟩,⟨rfl,EntL.refl _,rfl⟩,by
      rw[hin]
      exact own_app (fun j hj=>by match j,hj with|0,_=>exact Ent.refl _|1,_=>exact Ent.refl _),trivial⟩ (by decide)⟩
   | false =>
    simp only[combS,hkp,Bool.false_eq_true,if_false] at hin
    refine gA ?_
    exact ⟨k+1,(show k+1≤cs.length by omega),(show cs.length - (k+1)<cs.length - k by omega),StLe.ren [0,1,2,3,4] (by rw[hin];repeat' (first|exact trivial|exact Ent.refl _|exact rfl|exact Ent.int (by omega)|refine And.intro ?_ ?_)) ⟨⟨rfl,EntL.refl _,rfl⟩,⟨rfl,EntL.refl _,rfl⟩,⟨rfl,EntL.refl _,rfl⟩,⟨rfl,EntL.refl _,rfl⟩,by rw[hin];exact own_refl,trivial⟩ (by decide)⟩
 ·have h:k=cs.length:=by have:=of_decide_eq_false h;omega
  subst h
  refine gA ?_
  refine EntR.of rfl ?_
  show Ent _ (setD (combL a b op))
  rw[hfin]
  exact Ent.refl _
def ctMakeR:Ct:={ ι:=List Rg,inp:=fun l=>[rgsD l],out:=fun l=>setD (canon l),pre:=fun l=>l.length≤10000 }
def Γrs:Ctx:=fun f=>match f with
 | 59=>some (.pure ctComb)
 | _=>none
theorem Γrs_ok:CtxOk Tryz.prog (GlT mx pb) Γrs:=by
 intro f h hh
 simp only[Γrs] at hh
 split at hh<;>simp at hh<;>subst hh
 exact comb_ok
theorem r2Make_ok:Sound Tryz.prog (GlT mx pb) 21 ctMakeR:=by
 refine sound_by (cc:=true) Γrs_ok Tryz.T_ok Tryz.mixed Tryz.func21 rfl (by kernel_rfl) (fun _=>rfl) (fun _ _=>by show 1≤7;decide) ?_
 intro (l:List Rg) (hl:l.length≤10000)
 refine gA ?_
 refine ⟨(l,[],1),EntL.cons (Ent.refl _) (EntL.cons (Ent.ag (EntL.cons Ent.nil (EntL.refl _))) (EntL.refl _)),⟨hl,by simp⟩,?_⟩
 rw[show ctComb.out (l,[],1)=setD (canon l) from by rw[← comb_or_nil];rfl]
 refine gA ?_
 exact EntR.of rfl (Ent.refl _)
def ctSameS:Ct:={ ι:=List Rg × List Rg,inp:=fun x=>[setD x.1,setD x.2],out:=fun x=>.v (.bool (decide (x.1=x.2))),pre:=fun x=>x.1.length≤1000000∧x.2.length≤1000000 }
set_option maxHeartbeats 1000000 in
theorem r2Same_ok:Sound Tryz.prog (GlT mx pb) 20 ctSameS:=by
 refine sound_by (cc:=true) Γ0_ok Tryz.T_ok Tryz.mixed Tryz.func20 rfl (by kernel_rfl) (fun _=>rfl) (fun _ _=>by show 2≤31;decide) ?_
 intro ((a:List Rg),(b:List Rg)) ⟨(ha:a.length≤1000000),(hb:b.length≤1000000)⟩
 refine gA ?_
 refine And.intro (fun h=>?_) (fun h=>?_)
 ·have h:a.length≠b.length:=by
   have h:((a.length:Int) != (b.length:Int))=true:=h
   simp at h;omega
  refine gA ?_
  exact EntR.bool (eq_comm.1 (decide_eq_false fun e=>h (congrArg List.length e)))
 have h:a.length=b.length:=by
  have h:((a.length:Int) != (b.length:Int))=false:=h
  simp at h;omega
 refine gA ?_
 refine ⟨0,Nat,fun k=>⟨[(2,.own 0 0),(3,.own 1 0),(5,.v (.int .i64 k))],[.cells 24 [rgsD a],.cells 24 [rgsD b]],[]⟩,fun k=>k≤a.length∧∀ j,j<k→a.getD j default=b.getD j default,fun k=>a.length - k,fun _=>Nat.zero_le _,⟨0,⟨Nat.zero_le _,fun j hj=>by omega⟩,StLe.ren [0,1] tmS ⟨⟨rfl,EntL.refl _,rfl⟩,⟨rfl,EntL.refl _,rfl⟩,trivial⟩ (by decide)⟩,?_⟩
 rintro k ⟨hk,hd⟩
 refine gA ?_
 refine And.intro (fun h1=>?_) (fun h1=>?_)
 ·have h1:k<a.length:=by have:=of_decide_eq_true h1;omega
  refine gA ?_
  refine And.intro (fun h2=>?_) (fun h2=>?_)
  ·have h2:(!(decide ((a.getD k default).1=(b.getD k default).1)&&(decide ((a.getD k default).2=(b.getD k default).2)&&true)))=true:=h2
   refine gA ?_
   exact EntR.bool (eq_comm.1 (decide_eq_false fun e=>by
    have e:a=b:=e
    rw[e] at h2;simp at h2))
  ·have h2:(!(decide ((a.getD k default).1=(b.getD k default).1)&&(decide ((a.getD k default).2=(b.getD k default).2)&&true)))=false:=h2
   have h2:a.getD k default=b.getD k default:=by
    simp only[Bool.and_true,Bool.not_eq_false',Bool.and_eq_true,decide_eq_true_eq] at h2
    exact Prod.ext h2.1 h2.2
   refine gA ?_
   exact ⟨k+1,⟨by omega,next_at hd h2⟩,(show a.length - (k+1)<a.length - k by omega),StLe.ren [0,1] tmS ⟨⟨rfl,EntL.refl _,rfl⟩,⟨rfl,EntL.refl _,rfl⟩,trivial⟩ (by decide)⟩
 ·have h1:k=a.length:=by have:=of_decide_eq_false h1;omega
  subst h1
  refine gA ?_
  exact EntR.bool (eq_comm.1 (decide_eq_true (eq_of_getD h hd)))
end Go.Proofs
