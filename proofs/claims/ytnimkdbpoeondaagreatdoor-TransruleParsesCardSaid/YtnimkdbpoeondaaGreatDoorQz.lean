import Derived.Test.YtnimkdbpoeondaaGreatDoorGc
set_option linter.all false
set_option maxHeartbeats 4000000
namespace Go.Proofs
open Go Go.Sx
variable {l:List ByteArray}{tm tm':List (Nat × D)}{ow ow':List Own}{i:Nat}
variable {mx:Int}{pb:Bool}
theorem nameC_t {b:Int}(h:(65<=b/\b<=90)\/(97<=b/\b<=122)\/(48<=b/\b<=57)\/b=95):zA b=true:=by
 simp only[zA,Bool.or_eq_true,Bool.and_eq_true,decide_eq_true_eq,beq_iff_eq];omega
theorem nameC_f {b:Int}(h:¬((65<=b/\b<=90)\/(97<=b/\b<=122)\/(48<=b/\b<=57)\/b=95)):zA b=false:=by
 rw[<- Bool.not_eq_true];simp only[zA,Bool.or_eq_true,Bool.and_eq_true,decide_eq_true_eq,beq_iff_eq];omega
theorem zbf {s:ByteArray}(h:s.size<1\/32<s.size):yh s=false:=by
 unfold yh;rcases h with h|h
 ·rw[decide_eq_false (show ¬1<=s.size by omega)];rfl
 ·rw[decide_eq_false (show ¬s.size<=32 by omega),Bool.and_false];rfl
theorem name_all {s:ByteArray}(h1:1<=s.size) (h2:s.size<=32) (h:∀ j,j<s.size->zA (bAt s j)=true):yh s=true:=by
 rw[zet h,decide_eq_true h1,decide_eq_true h2];rfl
def ctNm:Ct:={ ι:=ByteArray,inp:=fun s=>[.v (.string s)],out:=fun s=>.v (.bool (yh s)),pre:=fun _=>True }
theorem pName_ok:SS mx pb 241 ctNm:=by
 refine sb (cc:=true) zH Tryz.func241 ?_;intro (s:ByteArray) _
 repeat' first|refine gw ?_|refine bs ?_ ?_<;>intro q_
 ·exact ze (zbf (.inr (by omega))).symm
 ·rename_i h0;have h1:1<=s.size:=by
   rcases Nat.eq_zero_or_pos s.size with h|h
   ·exact absurd (size_nil (List.length_eq_zero_iff.1 h)) h0
   ·exact h
  refine ⟨0,Nat,fun k=>⟨[(0,.v (.string s)),(14,.v (.int .i64 s.size)),(15,.v (.int .i64 k))],[],[]⟩,fun k=>k<=s.size/\∀ j,j<k->zA (bAt s j)=true,fun k=>s.size - k,fun _=>Nat.zero_le _,⟨0,⟨Nat.zero_le _,fun j hj=>by omega⟩,StLe.ren [] tmS trivial (by decide)⟩,?_⟩
  rintro k ⟨hk,hd⟩
  by_cases hlt:k<s.size
  ·repeat' first|refine gw ?_|refine bs ?_ ?_<;>intro q_
   all_goals first
    | (exfalso;omega)
    | exact ze (yQ hlt (nameC_f (by omega))).symm
    | exact ⟨k+1,⟨by omega,zo hd (nameC_t (by omega))⟩,(by show s.size - (k+1)<s.size - k;omega),StLe.ren [] tmS trivial (by decide)⟩
  ·refine gw ?_;exact ze (name_all h1 (by omega) (fun j hj=>hd j (by omega))).symm
 ·exact ze (zbf (.inl (by have:=congrArg ByteArray.size q_;rw[this];decide))).symm
theorem rNamed_ok:SS mx pb 231 ctNm:=by
 refine sb (cc:=true) zH Tryz.func231 ?_;intro (s:ByteArray) _
 repeat' first|refine gw ?_|refine bs ?_ ?_<;>intro q_
 ·exact ze (zbf (.inr (by omega))).symm
 ·refine ⟨0,Nat,fun k=>⟨[(0,.v (.string s)),(3,.v (.int .i64 k))],[],[]⟩,fun k=>k<=s.size/\∀ j,j<k->zA (bAt s j)=true,fun k=>s.size - k,fun _=>Nat.zero_le _,⟨0,⟨Nat.zero_le _,fun j hj=>by omega⟩,StLe.ren [] tmS trivial (by decide)⟩,?_⟩
  rintro k ⟨hk,hd⟩
  by_cases hlt:k<s.size
  ·repeat' first|refine gw ?_|refine bs ?_ ?_<;>intro q_
   all_goals first
    | (exfalso;omega)
    | exact ze (yQ hlt (nameC_f (by omega))).symm
    | exact ⟨k+1,⟨by omega,zo hd (nameC_t (by omega))⟩,(by show s.size - (k+1)<s.size - k;omega),StLe.ren [] tmS trivial (by decide)⟩
  ·refine gw ?_;exact ze (name_all (by omega) (by omega) (fun j hj=>hd j (by omega))).symm
 ·exact ze (zbf (.inl (by omega))).symm
def nmOk (l:List ByteArray) (i:Nat):Bool:=yh (l.getD i default)&&(List.range i).all fun j => !eqB (l.getD j default) (l.getD i default)
def vn (l:List ByteArray):Bool:=decide (1<=l.length)&&decide (l.length<=250)&&(List.range l.length).all (nmOk l)
theorem zcv (h:l.length<1\/250<l.length):vn l=false:=by
 unfold vn;rcases h with h|h
 ·rw[decide_eq_false (show ¬1<=l.length by omega)];rfl
 ·rw[decide_eq_false (show ¬l.length<=250 by omega),Bool.and_false];rfl
theorem zes (hi:i<l.length) (h:nmOk l i=false):vn l=false:=by
 have:(List.range l.length).all (nmOk l)=false:=by
  rw[List.all_eq_false];exact ⟨i,by simpa using hi,by simp[h]⟩
 unfold vn;rw[this,Bool.and_false]
theorem zlf (h1:1<=l.length) (h2:l.length<=250) (h:∀ i,i<l.length->nmOk l i=true):vn l=true:=by
 have:(List.range l.length).all (nmOk l)=true:=by
  rw[List.all_eq_true];intro i hi;exact h i (by simpa using hi)
 unfold vn;rw[this,decide_eq_true h1,decide_eq_true h2];rfl
theorem nmOk_1 (h:yh (l.getD i default)=false):nmOk l i=false:=by rw[nmOk,h];rfl
theorem nmOk_2 {i j:Nat}(hj:j<i) (h:l.getD j default=l.getD i default):nmOk l i=false:=by
 have:((List.range i).all fun j => !eqB (l.getD j default) (l.getD i default))=false:=by
  rw[List.all_eq_false];exact ⟨j,by simpa using hj,by rw[yC.2 h];decide⟩
 rw[nmOk,this,Bool.and_false]
theorem nmOk_t (h:yh (l.getD i default)=true) (hn:∀ j,j<i->¬l.getD j default=l.getD i default):nmOk l i=true:=by
 have:((List.range i).all fun j => !eqB (l.getD j default) (l.getD i default))=true:=by
  rw[List.all_eq_true];intro j hj;rw[show eqB (l.getD j default) (l.getD i default)=false from by rw[<- Bool.not_eq_true,yC];exact hn j (by simpa using hj)];rfl
 rw[nmOk,this,h];rfl
def ctNames:Ct:={ ι:=List ByteArray,inp:=fun l=>[slD 1 vg l],out:=fun l=>.v (.bool (vn l)),pre:=fun _=>True }
def Γnms:Ctx:=fun f=>match f with
 | 231=>some (.pure ctNm)
 | _=>none
theorem Γnms_ok:CK mx pb Γnms:=by
 intro f h hh;simp only[Γnms] at hh;split at hh<;>simp at hh<;>subst hh
 ·exact rNamed_ok
theorem rNames_ok:SS mx pb 211 ctNames:=by
 refine sb (cc:=true) Γnms_ok Tryz.func211 ?_;intro (l:List ByteArray) _
 repeat' first|refine gw ?_|refine bs ?_ ?_<;>intro q_
 ·exact ze (zcv (.inr (by omega))).symm
 ·refine ⟨0,Nat,fun k=>⟨[(0,slD 1 vg l),(3,.v (.int .i64 k))],[],[]⟩,fun k=>k<=l.length/\∀ j,j<k->nmOk l j=true,fun k=>l.length - k,fun _=>Nat.zero_le _,⟨0,⟨Nat.zero_le _,fun j hj=>by omega⟩,StLe.ren [] tmS trivial (by decide)⟩,?_⟩
  rintro k ⟨hk,hd⟩
  by_cases hlt:k<l.length
  ·repeat' first|refine gw ?_|refine bs ?_ ?_<;>intro q_
   ·exact ze (zes hlt (nmOk_1 q_)).symm
   ·have hn:=q_;refine ⟨0,Nat,fun j=>⟨[(0,slD 1 vg l),(3,.v (.int .i64 k)),(4,.v (.int .i64 j))],[],[]⟩,fun j=>j<=k/\∀ i,i<j->¬l.getD i default=l.getD k default,fun j=>k - j,fun _=>Nat.zero_le _,⟨0,⟨Nat.zero_le _,fun j hj=>by omega⟩,StLe.ren [] tmS trivial (by decide)⟩,?_⟩
    rintro j ⟨hj,hdj⟩
    by_cases hjk:j<k
    ·repeat' first|refine gw ?_|refine bs ?_ ?_<;>intro q_
     ·exact ze (zes hlt (nmOk_2 hjk q_)).symm
     ·exact ⟨j+1,⟨by omega,zo hdj q_⟩,(by show k - (j+1)<k - j;omega),StLe.ren [] tmS trivial (by decide)⟩
    ·refine gw ?_;exact ⟨k+1,⟨by omega,zo hd (nmOk_t hn fun i hi=>hdj i (by omega))⟩,(by show l.length - (k+1)<l.length - k;omega),StLe.ren [] tmS trivial (by decide)⟩
  ·refine gw ?_;exact ze (zlf (by omega) (by omega) (fun i hi=>hd i (by omega))).symm
 ·exact ze (zcv (.inl (by omega))).symm
structure Sp where
 lo:Int
 hi:Int
 val:Int
instance:Inhabited Sp:=⟨⟨0,0,0⟩⟩
def spD (s:Sp):Nat->D
 | 0=>.v (.int .i64 s.lo)
 | 1=>.v (.int .i64 s.hi)
 | 2=>.v (.int .i64 s.val)
 | _=>.junk
def spnA (s:Sp):D:=.ag [spD s 0,spD s 1,spD s 2]
def zei (l:List Sp):D:=slD 3 spD l
structure Pr where
 names:List ByteArray
 spans:List Sp
instance:Inhabited Pr:=⟨⟨[],[]⟩⟩
def prA (p:Pr):D:=.ag [slD 1 vg p.names,zei p.spans]
def spIn (n:Nat) (s:Sp):Prop:=0<=s.lo/\s.lo<=s.hi/\s.hi<=1114111/\1<=s.val/\s.val<n
def spAft (b s:Sp):Prop:=b.hi<s.lo/\¬(s.lo=b.hi+1/\s.val=b.val)
def spOk (p:Pr) (i:Nat):Prop:=spIn p.names.length (p.spans.getD i default)/\(0<i->spAft (p.spans.getD (i - 1) default) (p.spans.getD i default))
def prOk (p:Pr):Prop:=vn p.names=true/\∀ i,i<p.spans.length->spOk p i
open Classical in
noncomputable def zT (p:Pr):Bool:=decide (prOk p)
theorem validP_t {p:Pr}(h:prOk p):true=zT p:=(@decide_eq_true _ (Classical.propDecidable _) h).symm
theorem vP {p:Pr}(h:¬prOk p):false=zT p:=(@decide_eq_false _ (Classical.propDecidable _) h).symm
noncomputable def ctPV:Ct:={ ι:=Pr,inp:=fun p=>[prA p],out:=fun p=>.v (.bool (zT p)),pre:=fun p=>p.spans.length<=1000000000 }
noncomputable def Γpv:Ctx:=fun f=>match f with
 | 211=>some (.pure ctNames)
 | _=>none
theorem Γpv_ok:CK mx pb Γpv:=by
 intro f h hh;simp only[Γpv] at hh;split at hh<;>simp at hh<;>subst hh
 ·exact rNames_ok
theorem zhi:SS mx pb 193 ctPV:=by
 refine sb (cc:=true) Γpv_ok Tryz.func193 ?_;intro (p:Pr) (hp:p.spans.length<=1000000000)
 repeat' first|refine gw ?_|refine bs ?_ ?_<;>intro q_
 ·exact ze (vP fun h=>by rw[h.1] at q_;exact Bool.noConfusion q_)
 have hn:=q_;refine ⟨0,Nat,fun k=>⟨[(1,.own 0 0),(3,.v (.int .i64 k))],[.cells 27 [slD 1 vg p.names,zei p.spans]],[]⟩,fun k=>k<=p.spans.length/\∀ i,i<k->spOk p i,fun k=>p.spans.length - k,fun _=>Nat.zero_le _,⟨0,⟨Nat.zero_le _,fun j hj=>by omega⟩,(sr [0])⟩,?_⟩
 rintro k ⟨hk,hd⟩
 by_cases hlt:k<p.spans.length
 ·have ek:((k:Int) - 1).toNat=k - 1:=by omega
  have hb:0<k->(p.spans.getD (k - 1) default).hi<=1114111:=fun h=>(hd (k - 1) (by omega)).1.2.2.1;have no:¬spOk p k->false=zT p:=fun h=>vP fun hh=>h (hh.2 k hlt)
  rcases Nat.eq_zero_or_pos k with h0|h0
  ·repeat' first|refine gw ?_|refine bs ?_ ?_<;>intro q_
   all_goals first
    | exact ze (no fun h=>by have h1:=h.1;unfold spIn at h1;omega)
    | exact ⟨k+1,⟨by omega,zo hd ⟨⟨by omega,by omega,by omega,by omega,by omega⟩,fun h=>by omega⟩⟩,(by show _ - (k+1)<_ - k;omega),(sr [0])⟩
  ·have hb:=hb h0;have hb0:=hd (k - 1) (by omega)
   have hb1:0<=(p.spans.getD (k - 1) default).hi:=by have h1:=hb0.1;unfold spIn at h1;omega
   have hb2:(p.spans.getD ((k:Int) - 1).toNat default).hi<=1114111:=by rw[ek];exact hb
   have hb3:0<=(p.spans.getD ((k:Int) - 1).toNat default).hi:=by rw[ek];exact hb1
   repeat' first|refine gw ?_|refine bs ?_ ?_<;>intro q_
   all_goals try rw[ek] at *
   all_goals first
    | exact ze (no fun h=>by have h1:=h.1;have h2:=h.2 h0;unfold spIn at h1;unfold spAft at h2;omega)
    | exact ⟨k+1,⟨by omega,zo hd ⟨⟨by omega,by omega,by omega,by omega,by omega⟩,fun _=>⟨by omega,by omega⟩⟩⟩,(by show _ - (k+1)<_ - k;omega),(sr [0])⟩
 ·refine gw ?_;exact ze (validP_t ⟨hn,fun i hi=>hd i (by omega)⟩)
def insB (s:Sp):Bool:=decide (0<=s.lo/\s.lo<=s.hi/\s.hi<=1114111)
def ctIns:Ct:={ ι:=Sp,inp:=fun s=>[spnA s],out:=fun s=>.v (.bool (insB s)),pre:=fun _=>True }
def Γins:Ctx:=fun f=>match f with
 | 77=>some (.pure ctValid)
 | _=>none
theorem Γins_ok:CK mx pb Γins:=by
 intro f h hh;simp only[Γins] at hh;split at hh<;>simp at hh<;>subst hh
 ·exact zci
theorem validB_f {c:Int}(h:uj c=false):¬(0<=c/\c<=1114111):=fun hh=>by rw[xQ.2 hh] at h;exact Bool.noConfusion h
theorem pInside_ok:SS mx pb 243 ctIns:=by
 refine sb (cc:=true) Γins_ok Tryz.func243 ?_;intro (s:Sp) _
 repeat' first|refine gw ?_|refine bs ?_ ?_<;>intro q_
 ·rename_i h1;have h1:=xQ.1 h1;have h2:=xQ.1 q_;exact ze (by unfold insB;by_cases h:s.lo<=s.hi<;>simp[h]<;>omega)
 ·have h2:=validB_f q_;exact ze (decide_eq_false (by omega)).symm
 ·have h2:=validB_f q_;exact ze (decide_eq_false (by omega)).symm
def mpN (l:List ByteArray):Nat->KV->Option D
 | 0=>fun _=>none
 | k+1=>fun key=>if key=.s (l.getD k default) then some (.v (.int .i64 k)) else mpN l k key
theorem zeu {l:List ByteArray}{b:ByteArray}:∀ {k:Nat},(∀ j,j<k->¬l.getD j default=b)->mpN l k (.s b)=none
 | 0,_=>rfl
 | k+1,h=>by
  show (if KV.s b=.s (l.getD k default) then some (D.v (.int .i64 k)) else mpN l k (.s b))=none;rw[if_neg (fun e=>h k (by omega) (by cases e;rfl))];exact zeu fun j hj=>h j (by omega)
theorem zi6 {l:List ByteArray}{b:ByteArray}:∀ {k:Nat},(∃ j,j<k/\l.getD j default=b)->∃ i:Int,mpN l k (.s b)=some (.v (.int .i64 i))
 | 0,⟨j,hj,_⟩=>by omega
 | k+1,⟨j,hj,e⟩=>by
  show ∃ i:Int,(if KV.s b=.s (l.getD k default) then some (D.v (.int .i64 k)) else mpN l k (.s b))=_;by_cases h:KV.s b=.s (l.getD k default)
  ·rw[if_pos h];exact ⟨_,rfl⟩
  ·rw[if_neg h];refine zi6 ⟨j,?_,e⟩
   rcases Nat.lt_or_ge j k with h1|h1
   ·exact h1
   ·have:j=k:=by omega
    subst this;exact absurd (by rw[e]) h
theorem mpN_pd (l:List ByteArray):∀ (k:Nat) (key:KV),mpN l k key=none\/∃ i:Int,mpN l k key=some (.v (.int .i64 i))
 | 0,_=>.inl rfl
 | k+1,key=>by
  show (if key=.s (l.getD k default) then some (D.v (.int .i64 k)) else mpN l k key)=none\/∃ i:Int,(if key=.s (l.getD k default) then some (D.v (.int .i64 k)) else mpN l k key)=some (.v (.int .i64 i))
  by_cases h:key=.s (l.getD k default)
  ·rw[if_pos h];exact .inr ⟨_,rfl⟩
  ·rw[if_neg h];exact mpN_pd l k key
theorem zfm {ρ:List Nat}{o:Option D}(h:o=none\/∃ i:Int,o=some (.v (.int .i64 i))):zmz ρ o o:=by
 rcases h with h|⟨i,h⟩
 ·rw[h];exact trivial
 ·rw[h];exact ⟨eE,rfl⟩
theorem StLe.m1 (h1:renT [0,1] tm tm') (h2:renO [0,1] ow [0,1] ow'):StLe 1 ⟨tm,ow,[]⟩ ⟨tm',ow',[]⟩ :=
 zq [0,1] h1 h2 (by decide) (by decide) (by simp)
noncomputable def cIdx:Code:=(Tryz.f228.body).getD .skip
def Γix:Ctx:=fun f=>match f with
 | 241=>some (.pure ctNm)
 | _=>none
theorem Γix_ok:CK mx pb Γix:=by
 intro f h hh;simp only[Γix] at hh;split at hh<;>simp at hh<;>subst hh
 ·exact pName_ok
noncomputable def Γpva (mx:Int) (pb:Bool):Ctx:=fun f=>match f with
 | 228=>some (.gen (zds true Γix Tryz.T (GlT mx pb) Tryz.f228 cIdx))
 | 243=>some (.pure ctIns)
 | _=>none
theorem Γpva_ok:CK mx pb (Γpva mx pb):=by
 intro f h hh;simp only[Γpva] at hh;split at hh<;>simp at hh<;>subst hh
 ·exact si Γix_ok Tryz.func228
 ·exact pInside_ok
theorem zla:SS mx pb 242 ctPV:=by
 refine sb (cc:=true) Γpva_ok Tryz.func242 ?_;intro (p:Pr) (hp:p.spans.length<=1000000000)
 repeat' first|refine gw ?_|refine bs ?_ ?_<;>intro q_
 ·exact ze (vP fun h=>by have h1:=h.1;rw[zcv (.inr (by omega))] at h1;exact Bool.noConfusion h1)
 ·refine ⟨0,Nat,fun k=>⟨[(4,.mp 1),(18,slD 1 vg p.names),(19,.v (.int .i64 p.names.length)),(20,.v (.int .i64 k))],[.cells 27 [slD 1 vg p.names,zei p.spans],.map 9 3 .s (mpN p.names k)],[]⟩,fun k=>k<=p.names.length/\∀ j,j<k->nmOk p.names j=true,fun k=>p.names.length - k,fun _=>(by show 1<=2;decide),⟨0,⟨Nat.zero_le _,fun j hj=>by omega⟩,StLe.m1 tmS ⟨eZ,⟨rfl,rfl,rfl,fun _=>trivial⟩,trivial⟩⟩,?_⟩
  rintro k ⟨hk,hd⟩
  by_cases hlt:k<p.names.length
  ·by_cases hdup:∃ j,j<k/\p.names.getD j default=p.names.getD k default
   ·obtain ⟨i,hi⟩:=zi6 hdup;obtain ⟨j,hj,hje⟩:=hdup;have hno:¬prOk p:=fun h=>by have:=zes hlt (nmOk_2 hj hje);rw[h.1] at this;exact Bool.noConfusion this
    refine gw ?_;refine ⟨fun d hdd=>?_,fun hnn=>absurd (hi.symm.trans hnn) (by simp)⟩
    obtain rfl:d=.v (.int .i64 i):=Option.some.inj (hdd.symm.trans hi)
    repeat' first|refine gw ?_|refine bs ?_ ?_<;>intro q_
    all_goals exact ze (vP hno)
   ·have hno:∀ j,j<k->¬p.names.getD j default=p.names.getD k default:=fun j hj e=>hdup ⟨j,hj,e⟩
    have hi:=zeu hno;refine gw ?_;refine ⟨fun d hdd=>absurd (hi.symm.trans hdd) (by simp),fun _=>?_⟩
    repeat' first|refine gw ?_|refine bs ?_ ?_<;>intro q_
    ·exact ze (vP fun h=>by have:=zes hlt (nmOk_1 q_);rw[h.1] at this;exact Bool.noConfusion this)
    ·exact ⟨k+1,⟨by omega,zo hd (nmOk_t q_ hno)⟩,(by show _ - (k+1)<_ - k;omega),StLe.m1 tmS ⟨eZ,⟨rfl,rfl,rfl,fun key=>by
      show zmz [0,1] (if key=.s (p.names.getD k default) then some (D.v (.int .i64 k)) else mpN p.names k key) (if key=.s (p.names.getD k default) then some (D.v (.int .i64 k)) else mpN p.names k key)
      exact zfm (mpN_pd p.names (k+1) key)⟩,trivial⟩⟩
  ·have hn:vn p.names=true:=zlf (by omega) (by omega) (fun i hi=>hd i (by omega))
   refine gw ?_;refine ⟨0,Nat,fun k=>⟨[(1,.own 0 0),(17,zei p.spans),(18,.v (.int .i64 p.spans.length)),(19,.v (.int .i64 k))],[.cells 27 [slD 1 vg p.names,zei p.spans]],[]⟩,fun k=>k<=p.spans.length/\∀ i,i<k->spOk p i,fun k=>p.spans.length - k,fun _=>Nat.zero_le _,⟨0,⟨Nat.zero_le _,fun j hj=>by omega⟩,(sr [0])⟩,?_⟩
   rintro k ⟨hk,hd⟩
   by_cases hlt:k<p.spans.length
   ·have ek:((k:Int) - 1).toNat=k - 1:=by omega
    have no:¬spOk p k->false=zT p:=fun h=>vP fun hh=>h (hh.2 k hlt)
    have insT:insB (p.spans.getD k default)=true->0<=(p.spans.getD k default).lo/\(p.spans.getD k default).lo<=(p.spans.getD k default).hi/\(p.spans.getD k default).hi<=1114111:=of_decide_eq_true
    have insF:insB (p.spans.getD k default)=false->¬(0<=(p.spans.getD k default).lo/\(p.spans.getD k default).lo<=(p.spans.getD k default).hi/\(p.spans.getD k default).hi<=1114111):=of_decide_eq_false;rcases Bool.eq_false_or_eq_true (insB (p.spans.getD k default)) with hin|hin
    ·have hin':=insT hin;rcases Nat.eq_zero_or_pos k with h0|h0
     ·repeat' first|refine gw ?_|refine bs ?_ ?_<;>intro q_
      all_goals first
       | exact ze (no fun h=>by have h1:=h.1;unfold spIn at h1;omega)
       | exact ⟨k+1,⟨by omega,zo hd ⟨⟨by omega,by omega,by omega,by omega,by omega⟩,fun h=>by omega⟩⟩,(by show _ - (k+1)<_ - k;omega),(sr [0])⟩
     ·have hb0:=hd (k - 1) (by omega)
      have hb:=hb0.1;unfold spIn at hb;have hb2:(p.spans.getD ((k:Int) - 1).toNat default).hi<=1114111:=by rw[ek];omega
      have hb3:0<=(p.spans.getD ((k:Int) - 1).toNat default).hi:=by rw[ek];omega
      repeat' first|refine gw ?_|refine bs ?_ ?_<;>intro q_
      all_goals try rw[ek] at *
      all_goals first
       | exact ze (no fun h=>by have h1:=h.1;have h2:=h.2 h0;unfold spIn at h1;unfold spAft at h2;omega)
       | exact ⟨k+1,⟨by omega,zo hd ⟨⟨by omega,by omega,by omega,by omega,by omega⟩,fun _=>⟨by omega,by omega⟩⟩⟩,(by show _ - (k+1)<_ - k;omega),(sr [0])⟩
    ·have hin':=insF hin
     repeat' first|refine gw ?_|refine bs ?_ ?_<;>intro q_
     all_goals exact ze (no fun h=>by have h1:=h.1;unfold spIn at h1;omega)
   ·refine gw ?_;exact ze (validP_t ⟨hn,fun i hi=>hd i (by omega)⟩)
 ·exact ze (vP fun h=>by have h1:=h.1;rw[zcv (.inl (by omega))] at h1;exact Bool.noConfusion h1)
def otherB:ByteArray:=⟨#[79,116,104,101,114]⟩
noncomputable def ym (p:Pr):Pr:=if zT p=true then p else ⟨[otherB],[]⟩
noncomputable def ctCnt:Ct:={ ι:=Pr,inp:=fun p=>[prA p],out:=fun p=>prA (ym p),pre:=fun p=>p.spans.length<=1000000000 }
theorem zd1 {p:Pr}(h:zT p=true):ym p=p:=if_pos h
theorem zd2 {p:Pr}(h:zT p=false):ym p=⟨[otherB],[]⟩:=if_neg (by rw[h];decide)
noncomputable def Γcnt:Ctx:=fun f=>match f with
 | 242=>some (.pure ctPV)
 | 193=>some (.pure ctPV)
 | _=>none
theorem Γcnt_ok:CK mx pb Γcnt:=by
 intro f h hh;simp only[Γcnt] at hh;split at hh<;>simp at hh<;>subst hh
 ·exact zla
 ·exact zhi
theorem pCnt_ok:SS mx pb 229 ctCnt:=by
 refine sb (cc:=true) Γcnt_ok Tryz.func229 ?_;intro (p:Pr) (hp:p.spans.length<=1000000000)
 have p1:ctPV.pre p:=hp
 repeat' first|refine gw ?_|refine bs ?_ ?_<;>intro q_
 ·exact zd (show prA p=prA (ym p) by rw[zd1 q_]) rfl
 ·refine EntR.of rfl ?_;show Ent _ (prA (ym p))
  rw[zd2 q_];exact Ent.ag (EntL.cons (zdl (lt1 eE)) (EntL.cons Ent.nil eL))
theorem rCnt_ok:SS mx pb 236 ctCnt:=by
 refine sb (cc:=true) Γcnt_ok Tryz.func236 ?_;intro (p:Pr) (hp:p.spans.length<=1000000000)
 have p1:ctPV.pre p:=hp
 repeat' first|refine gw ?_|refine bs ?_ ?_<;>intro q_
 ·refine EntR.of rfl ?_;show Ent _ (prA (ym p))
  rw[zd2 q_];exact Ent.ag (EntL.cons (zdl (lt1 eE)) (EntL.cons Ent.nil eL))
 ·exact zd (show prA p=prA (ym p) by rw[zd1 q_]) rfl
theorem zop (p:Pr):∀ i,i<(ym p).spans.length->spOk (ym p) i:=by
 intro i hi;rcases Bool.eq_false_or_eq_true (zT p) with h|h
 ·have hp:prOk p := @of_decide_eq_true _ (Classical.propDecidable _) h;rw[zd1 h] at hi ⊢;exact hp.2 i hi
 ·rw[zd2 h] at hi;simp at hi
theorem StLe.m3 (h1:renT [0,1,2] tm tm') (h2:renO [0,1,2] ow [0,1,2] ow'):StLe 3 ⟨tm,ow,[]⟩ ⟨tm',ow',[]⟩ :=
 zq [0,1,2] h1 h2 (by decide) (by decide) (by simp)
theorem cnt_names (p:Pr):1<=(ym p).names.length:=by
 rcases Bool.eq_false_or_eq_true (zT p) with h|h
 ·have hp:prOk p := @of_decide_eq_true _ (Classical.propDecidable _) h;rw[zd1 h];have h1:=hp.1;simp only[vn,Bool.and_eq_true,decide_eq_true_eq] at h1;exact h1.1.1
 ·rw[zd2 h];decide
def fndI (l:List ByteArray) (n:ByteArray):Option Nat:=(List.range l.length).find? fun i=>eqB (l.getD i default) n
def fndV (l:List ByteArray) (n:ByteArray):Int:=match fndI l n with|some i=>i|none=>0
def zn7 (l:List ByteArray) (n:ByteArray):Bool:=(fndI l n).isSome
theorem fnd_at {n:ByteArray}{k:Nat}(hk:k<l.length) (hn:∀ j,j<k->¬l.getD j default=n) (h:l.getD k default=n):fndI l n=some k:=by
 unfold fndI;rw[List.find?_range_eq_some];refine ⟨yC.2 h,List.mem_range.2 hk,fun j hj=>?_⟩
 rw[show eqB (l.getD j default) n=false from by rw[<- Bool.not_eq_true,yC];exact hn j hj];rfl
theorem fnd_no {n:ByteArray}(hn:∀ j,j<l.length->¬l.getD j default=n):fndI l n=none:=by
 unfold fndI;rw[List.find?_eq_none];intro j hj;rw[yC];exact hn j (List.mem_range.1 hj)
noncomputable def ctFnd:Ct:={ ι:=Pr × ByteArray,inp:=fun x=>[prA x.1,.v (.string x.2)],out:=fun x=>.tu [.v (.int .i64 (fndV (ym x.1).names x.2)),.v (.bool (zn7 (ym x.1).names x.2))],pre:=fun x=>x.1.spans.length<=1000000000 }
theorem zh5 (p:Pr):(ym p).names.length<=250:=by
 rcases Bool.eq_false_or_eq_true (zT p) with h|h
 ·have hp:prOk p := @of_decide_eq_true _ (Classical.propDecidable _) h;rw[zd1 h];have h1:=hp.1;simp only[vn,Bool.and_eq_true,decide_eq_true_eq] at h1;exact h1.1.2
 ·rw[zd2 h];decide
noncomputable def Γrfn:Ctx:=fun f=>match f with
 | 236=>some (.pure ctCnt)
 | _=>none
theorem Γrfn_ok:CK mx pb Γrfn:=by
 intro f h hh;simp only[Γrfn] at hh;split at hh<;>simp at hh<;>subst hh
 ·exact rCnt_ok
theorem rFind_ok:SS mx pb 216 ctFnd:=by
 refine sb (cc:=true) Γrfn_ok Tryz.func216 ?_;rintro ⟨p,nm⟩ hp;have p1:ctCnt.pre p:=hp;have hl:=zh5 p;refine gw ?_;refine ⟨0,Nat,fun k=>⟨[(1,.v (.string nm)),(6,.own 1 0),(7,.v (.int .i64 k))],[.cells 27 [slD 1 vg p.names,zei p.spans],.cells 27 [slD 1 vg (ym p).names,zei (ym p).spans]],[]⟩,fun k=>k<=(ym p).names.length/\∀ j,j<k->¬(ym p).names.getD j default=nm,fun k=>(ym p).names.length - k,fun _=>Nat.zero_le _,⟨0,⟨Nat.zero_le _,fun j hj=>by omega⟩,(sr [0,1])⟩,?_⟩
 rintro k ⟨hk,hd⟩
 by_cases hlt:k<(ym p).names.length
 ·repeat' first|refine gw ?_|refine bs ?_ ?_<;>intro q_
  ·have e:=fnd_at hlt hd q_;exact zd (d':=ctFnd.out (p,nm)) (by show D.tu [.v (.int .i64 k),.v (.bool true)]=D.tu [.v (.int .i64 (fndV (ym p).names nm)),.v (.bool (zn7 (ym p).names nm))];rw[fndV,zn7,e];rfl) rfl
  ·exact ⟨k+1,⟨by omega,zo hd q_⟩,(by show _ - (k+1)<_ - k;omega),(sr [0,1])⟩
 ·have e:=fnd_no (l:=(ym p).names) (n:=nm) (fun j hj=>hd j (by omega))
  refine gw ?_;exact zd (d':=ctFnd.out (p,nm)) (by show D.tu [.v (.int .i64 0),.v (.bool false)]=D.tu [.v (.int .i64 (fndV (ym p).names nm)),.v (.bool (zn7 (ym p).names nm))];rw[fndV,zn7,e];rfl) rfl
theorem nmOk_of (h:vn l=true):∀ i,i<l.length->yh (l.getD i default)=true/\∀ j,j<i->¬l.getD j default=l.getD i default:=by
 intro i hi;simp only[vn,Bool.and_eq_true,List.all_eq_true] at h;have h1:=h.2 i (List.mem_range.2 hi)
 simp only[nmOk,Bool.and_eq_true,List.all_eq_true] at h1;refine ⟨h1.1,fun j hj e=>?_⟩
 have:=h1.2 j (List.mem_range.2 hj)
 rw[yC.2 e] at this;exact absurd this (by decide)
theorem cnt_namesB (p:Pr):vn (ym p).names=true:=by
 rcases Bool.eq_false_or_eq_true (zT p) with h|h
 ·have hp:prOk p := @of_decide_eq_true _ (Classical.propDecidable _) h;rw[zd1 h];exact hp.1
 ·rw[zd2 h];decide
theorem mpN_at {l:List ByteArray}{b:ByteArray}{i:Nat}(hi:l.getD i default=b):∀ {k:Nat},i<k->(∀ j,j<k->j≠i->¬l.getD j default=b)->mpN l k (.s b)=some (.v (.int .i64 i))
 | 0,h,_=>by omega
 | k+1,h,hn=>by
  show (if KV.s b=.s (l.getD k default) then some (D.v (.int .i64 k)) else mpN l k (.s b))=_;by_cases hk:k=i
  ·subst hk;rw[if_pos (by rw[hi])]
  ·rw[if_neg (fun e=>hn k (by omega) hk (by cases e;rfl))];exact mpN_at hi (by omega) fun j hj hji=>hn j (by omega) hji
noncomputable def Γpfn (mx:Int) (pb:Bool):Ctx:=fun f=>match f with
 | 229=>some (.pure ctCnt)
 | 228=>some (.gen (zds true Γix Tryz.T (GlT mx pb) Tryz.f228 cIdx))
 | _=>none
theorem Γpfn_ok:CK mx pb (Γpfn mx pb):=by
 intro f h hh;simp only[Γpfn] at hh;split at hh<;>simp at hh<;>subst hh
 ·exact pCnt_ok
 ·exact si Γix_ok Tryz.func228
theorem pFind_ok:SS mx pb 208 ctFnd:=by
 refine sb (cc:=true) Γpfn_ok Tryz.func208 ?_;rintro ⟨p,nm⟩ hp;have p1:ctCnt.pre p:=hp;have hl:=zh5 p;have hl1:=cnt_names p;have hB:=nmOk_of (cnt_namesB p)
 have hz:¬((ym p).names.length:Int)=0:=by omega
 repeat' first|refine gw ?_|refine bs ?_ ?_<;>intro q_
 ·exfalso;omega
 refine ⟨0,Nat,fun k=>⟨[(4,.mp 1),(18,slD 1 vg (ym p).names),(19,.v (.int .i64 (ym p).names.length)),(20,.v (.int .i64 k))],[.cells 27 [slD 1 vg p.names,zei p.spans],.map 9 3 .s (mpN (ym p).names k)],[]⟩,fun k=>k<=(ym p).names.length,fun k=>(ym p).names.length - k,fun _=>(by show 1<=2;decide),⟨0,Nat.zero_le _,StLe.m1 tmS ⟨eZ,⟨rfl,rfl,rfl,fun _=>trivial⟩,trivial⟩⟩,?_⟩
 intro k (hk:k<=(ym p).names.length)
 by_cases hlt:k<(ym p).names.length
 ·have hb:=hB k hlt;have hi:=zeu hb.2;have hb1:=hb.1;refine gw ?_;refine ⟨fun d hdd=>absurd (hi.symm.trans hdd) (by simp),fun _=>?_⟩
  refine gw ?_;exact ⟨k+1,(by show k+1<=_;omega),(by show _ - (k+1)<_ - k;omega),StLe.m1 tmS ⟨eZ,⟨rfl,rfl,rfl,fun key=>by
   show zmz [0,1] (if key=.s ((ym p).names.getD k default) then some (D.v (.int .i64 k)) else mpN (ym p).names k key) (if key=.s ((ym p).names.getD k default) then some (D.v (.int .i64 k)) else mpN (ym p).names k key)
   exact zfm (mpN_pd (ym p).names (k+1) key)⟩,trivial⟩⟩
 ·have hke:k=(ym p).names.length:=by omega
  refine gw ?_;refine ⟨fun d hdd=>?_,fun hnn=>?_⟩
  ·have hex:∃ i,i<(ym p).names.length/\(ym p).names.getD i default=nm:=by
    by_cases h:∃ i,i<(ym p).names.length/\(ym p).names.getD i default=nm
    ·exact h
    ·have:=zeu (l:=(ym p).names) (b:=nm) (k:=k) (fun j hj e=>h ⟨j,by omega,e⟩)
     exact absurd (this.symm.trans hdd) (by simp)
   obtain ⟨i,hi,hie⟩:=hex;have huni:∀ j,j<(ym p).names.length->j≠i->¬(ym p).names.getD j default=nm:=fun j hj hji e=>by
    rcases Nat.lt_or_ge j i with h1|h1
    ·exact (hB i hi).2 j h1 (e.trans hie.symm)
    ·exact (hB j hj).2 i (by omega) (hie.trans e.symm)
   have e1:=mpN_at hie (k:=k) (by omega) (fun j hj hji=>huni j (by omega) hji)
   obtain rfl:d=.v (.int .i64 i):=Option.some.inj (hdd.symm.trans e1)
   have e:=fnd_at hi (fun j hj=>huni j (by omega) (by omega)) hie;refine gw ?_;exact zd (d':=ctFnd.out (p,nm)) (by show D.tu [.v (.int .i64 i),.v (.bool true)]=D.tu [.v (.int .i64 (fndV (ym p).names nm)),.v (.bool (zn7 (ym p).names nm))];rw[fndV,zn7,e];rfl) rfl
  ·have e:=fnd_no (l:=(ym p).names) (n:=nm) (fun j hj ee=>by
    obtain ⟨i,hi⟩:=zi6 (l:=(ym p).names) (b:=nm) (k:=k) ⟨j,by omega,ee⟩
    exact absurd (hi.symm.trans hnn) (by simp))
   refine gw ?_;exact zd (d':=ctFnd.out (p,nm)) (by show D.tu [.v (.int .i64 0),.v (.bool false)]=D.tu [.v (.int .i64 (fndV (ym p).names nm)),.v (.bool (zn7 (ym p).names nm))];rw[fndV,zn7,e];rfl) rfl
end Go.Proofs
