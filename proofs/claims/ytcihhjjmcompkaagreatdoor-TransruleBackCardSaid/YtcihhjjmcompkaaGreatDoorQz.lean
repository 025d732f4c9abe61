import Derived.Test.YtcihhjjmcompkaaGreatDoorGc
set_option linter.unusedVariables false
set_option linter.unusedSimpArgs false
namespace Go.Proofs
open Go Go.Sx
variable {mx:Int}{pb:Bool}
theorem nameC_t {b:Int}(h:(65≤b∧b≤90)∨(97≤b∧b≤122)∨(48≤b∧b≤57)∨b=95):za3 b=true:=by
 simp only[za3,Bool.or_eq_true,Bool.and_eq_true,decide_eq_true_eq,beq_iff_eq]
 omega
theorem nameC_f {b:Int}(h:¬((65≤b∧b≤90)∨(97≤b∧b≤122)∨(48≤b∧b≤57)∨b=95)):za3 b=false:=by
 rw[← Bool.not_eq_true]
 simp only[za3,Bool.or_eq_true,Bool.and_eq_true,decide_eq_true_eq,beq_iff_eq]
 omega
theorem zhz {s:ByteArray}(h:s.size<1∨32<s.size):zbx s=false:=by
 unfold zbx
 rcases h with h|h
 ·rw[decide_eq_false (show ¬1≤s.size by omega)];rfl
 ·rw[decide_eq_false (show ¬s.size≤32 by omega),Bool.and_false];rfl
theorem name_all {s:ByteArray}(h1:1≤s.size) (h2:s.size≤32) (h:∀ j,j<s.size→za3 (bAt s j)=true):zbx s=true:=by
 rw[name_yes h,decide_eq_true h1,decide_eq_true h2];rfl
def ctNm:Ct:={ ι:=ByteArray,inp:=fun s=>[.v (.string s)],out:=fun s=>.v (.bool (zbx s)),pre:=fun _=>True }
set_option maxHeartbeats 4000000 in
theorem pName_ok:zay Tryz.prog (GlT mx pb) 270 ctNm:=by
 refine zah (cc:=true) zbj Tryz.T_ok Tryz.mixed Tryz.func270 rfl (by kernel_rfl) (fun _=>rfl) (fun _ _=>by show 1≤51;decide) ?_
 intro (s:ByteArray) _
 repeat' (first|refine gw ?_|(first|refine br ?_ ?_|refine brF ?_ ?_)<;>intro q_<;>try simp only[nz] at q_)
 ·exact zag (zhz (.inr (by omega))).symm
 ·rename_i h0
  have h1:1≤s.size:=by
   rcases Nat.eq_zero_or_pos s.size with h|h
   ·exact absurd (size_nil (List.length_eq_zero_iff.1 h)) h0
   ·exact h
  refine ⟨0,Nat,fun k=>⟨[(0,.v (.string s)),(14,.v (.int .i64 s.size)),(15,.v (.int .i64 k))],[],[]⟩,fun k=>k≤s.size∧∀ j,j<k→za3 (bAt s j)=true,fun k=>s.size - k,fun _=>Nat.zero_le _,⟨0,⟨Nat.zero_le _,fun j hj=>by omega⟩,zaf [] tmS trivial (by decide)⟩,?_⟩
  rintro k ⟨hk,hd⟩
  by_cases hlt:k<s.size
  ·repeat' (first|refine gw ?_|(first|refine br ?_ ?_|refine brF ?_ ?_)<;>intro q_<;>try simp only[nz] at q_)
   all_goals first
    | (exfalso;omega)
    | exact zag (zck hlt (nameC_f (by omega))).symm
    | exact ⟨k+1,⟨by omega,zaw hd (nameC_t (by omega))⟩,(by show s.size - (k+1)<s.size - k;omega),zaf [] tmS trivial (by decide)⟩
  ·repeat' (first|refine gw ?_|(first|refine br ?_ ?_|refine brF ?_ ?_)<;>intro q_<;>try simp only[nz] at q_)
   exact zag (name_all h1 (by omega) (fun j hj=>hd j (by omega))).symm
 ·exact zag (zhz (.inl (by have:=congrArg ByteArray.size q_;rw[this];decide))).symm
set_option maxHeartbeats 4000000 in
theorem rNamed_ok:zay Tryz.prog (GlT mx pb) 209 ctNm:=by
 refine zah (cc:=true) zbj Tryz.T_ok Tryz.mixed Tryz.func209 rfl (by kernel_rfl) (fun _=>rfl) (fun _ _=>by show 1≤49;decide) ?_
 intro (s:ByteArray) _
 repeat' (first|refine gw ?_|(first|refine br ?_ ?_|refine brF ?_ ?_)<;>intro q_<;>try simp only[nz] at q_)
 ·exact zag (zhz (.inr (by omega))).symm
 ·refine ⟨0,Nat,fun k=>⟨[(0,.v (.string s)),(3,.v (.int .i64 k))],[],[]⟩,fun k=>k≤s.size∧∀ j,j<k→za3 (bAt s j)=true,fun k=>s.size - k,fun _=>Nat.zero_le _,⟨0,⟨Nat.zero_le _,fun j hj=>by omega⟩,zaf [] tmS trivial (by decide)⟩,?_⟩
  rintro k ⟨hk,hd⟩
  by_cases hlt:k<s.size
  ·repeat' (first|refine gw ?_|(first|refine br ?_ ?_|refine brF ?_ ?_)<;>intro q_<;>try simp only[nz] at q_)
   all_goals first
    | (exfalso;omega)
    | exact zag (zck hlt (nameC_f (by omega))).symm
    | exact ⟨k+1,⟨by omega,zaw hd (nameC_t (by omega))⟩,(by show s.size - (k+1)<s.size - k;omega),zaf [] tmS trivial (by decide)⟩
  ·repeat' (first|refine gw ?_|(first|refine br ?_ ?_|refine brF ?_ ?_)<;>intro q_<;>try simp only[nz] at q_)
   exact zag (name_all (by omega) (by omega) (fun j hj=>hd j (by omega))).symm
 ·exact zag (zhz (.inl (by omega))).symm
end Go.Proofs
namespace Go.Proofs
open Go Go.Sx
variable {mx:Int}{pb:Bool}
def nmOk (l:List ByteArray) (i:Nat):Bool:=zbx (l.getD i default)&&(List.range i).all fun j => !eqB (l.getD j default) (l.getD i default)
def zfi (l:List ByteArray):Bool:=decide (1≤l.length)&&decide (l.length≤250)&&(List.range l.length).all (nmOk l)
theorem zi8 {l:List ByteArray}(h:l.length<1∨250<l.length):zfi l=false:=by
 unfold zfi
 rcases h with h|h
 ·rw[decide_eq_false (show ¬1≤l.length by omega)];rfl
 ·rw[decide_eq_false (show ¬l.length≤250 by omega),Bool.and_false];rfl
theorem names_no {l:List ByteArray}{i:Nat}(hi:i<l.length) (h:nmOk l i=false):zfi l=false:=by
 have:(List.range l.length).all (nmOk l)=false:=by
  rw[List.all_eq_false]
  exact ⟨i,by simpa using hi,by simp[h]⟩
 unfold zfi
 rw[this,Bool.and_false]
theorem names_yes {l:List ByteArray}(h1:1≤l.length) (h2:l.length≤250) (h:∀ i,i<l.length→nmOk l i=true):zfi l=true:=by
 have:(List.range l.length).all (nmOk l)=true:=by
  rw[List.all_eq_true]
  intro i hi
  exact h i (by simpa using hi)
 unfold zfi
 rw[this,decide_eq_true h1,decide_eq_true h2];rfl
theorem nmOk_1 {l:List ByteArray}{i:Nat}(h:zbx (l.getD i default)=false):nmOk l i=false:=by rw[nmOk,h];rfl
theorem nmOk_2 {l:List ByteArray}{i j:Nat}(hj:j<i) (h:l.getD j default=l.getD i default):nmOk l i=false:=by
 have:((List.range i).all fun j => !eqB (l.getD j default) (l.getD i default))=false:=by
  rw[List.all_eq_false]
  exact ⟨j,by simpa using hj,by rw[zd1.2 h];decide⟩
 rw[nmOk,this,Bool.and_false]
theorem nmOk_t {l:List ByteArray}{i:Nat}(h:zbx (l.getD i default)=true) (hn:∀ j,j<i→¬l.getD j default=l.getD i default):nmOk l i=true:=by
 have:((List.range i).all fun j => !eqB (l.getD j default) (l.getD i default))=true:=by
  rw[List.all_eq_true]
  intro j hj
  rw[show eqB (l.getD j default) (l.getD i default)=false from by rw[← Bool.not_eq_true,zd1];exact hn j (by simpa using hj)]
  rfl
 rw[nmOk,this,h];rfl
def ctNames:Ct:={ ι:=List ByteArray,inp:=fun l=>[slD 1 zg7 l],out:=fun l=>.v (.bool (zfi l)),pre:=fun _=>True }
def Γnms:Ctx:=fun f=>match f with
 | 209=>some (.pure ctNm)
 | _=>none
theorem Γnms_ok:za1 Tryz.prog (GlT mx pb) Γnms:=by
 intro f h hh
 simp only[Γnms] at hh
 split at hh<;>simp at hh<;>subst hh
 ·exact rNamed_ok
set_option maxHeartbeats 4000000 in
theorem rNames_ok:zay Tryz.prog (GlT mx pb) 150 ctNames:=by
 refine zah (cc:=true) Γnms_ok Tryz.T_ok Tryz.mixed Tryz.func150 rfl (by kernel_rfl) (fun _=>rfl) (fun _ _=>by show 1≤39;decide) ?_
 intro (l:List ByteArray) _
 repeat' (first|refine gw ?_|(first|refine br ?_ ?_|refine brF ?_ ?_)<;>intro q_<;>try simp only[nz] at q_)
 ·exact zag (zi8 (.inr (by omega))).symm
 ·refine ⟨0,Nat,fun k=>⟨[(0,slD 1 zg7 l),(3,.v (.int .i64 k))],[],[]⟩,fun k=>k≤l.length∧∀ j,j<k→nmOk l j=true,fun k=>l.length - k,fun _=>Nat.zero_le _,⟨0,⟨Nat.zero_le _,fun j hj=>by omega⟩,zaf [] tmS trivial (by decide)⟩,?_⟩
  rintro k ⟨hk,hd⟩
  by_cases hlt:k<l.length
  ·repeat' (first|refine gw ?_|(first|refine br ?_ ?_|refine brF ?_ ?_)<;>intro q_<;>try simp only[nz] at q_)
   ·exact zag (names_no hlt (nmOk_1 q_)).symm
   ·have hn:=q_
    refine ⟨0,Nat,fun j=>⟨[(0,slD 1 zg7 l),(3,.v (.int .i64 k)),(4,.v (.int .i64 j))],[],[]⟩,fun j=>j≤k∧∀ i,i<j→¬l.getD i default=l.getD k default,fun j=>k - j,fun _=>Nat.zero_le _,⟨0,⟨Nat.zero_le _,fun j hj=>by omega⟩,zaf [] tmS trivial (by decide)⟩,?_⟩
    rintro j ⟨hj,hdj⟩
    by_cases hjk:j<k
    ·repeat' (first|refine gw ?_|(first|refine br ?_ ?_|refine brF ?_ ?_)<;>intro q_<;>try simp only[nz] at q_)
     ·exact zag (names_no hlt (nmOk_2 hjk q_)).symm
     ·exact ⟨j+1,⟨by omega,zaw hdj q_⟩,(by show k - (j+1)<k - j;omega),zaf [] tmS trivial (by decide)⟩
    ·repeat' (first|refine gw ?_|(first|refine br ?_ ?_|refine brF ?_ ?_)<;>intro q_<;>try simp only[nz] at q_)
     exact ⟨k+1,⟨by omega,zaw hd (nmOk_t hn fun i hi=>hdj i (by omega))⟩,(by show l.length - (k+1)<l.length - k;omega),zaf [] tmS trivial (by decide)⟩
  ·repeat' (first|refine gw ?_|(first|refine br ?_ ?_|refine brF ?_ ?_)<;>intro q_<;>try simp only[nz] at q_)
   exact zag (names_yes (by omega) (by omega) (fun i hi=>hd i (by omega))).symm
 ·exact zag (zi8 (.inl (by omega))).symm
structure Sp where
 lo:Int
 hi:Int
 val:Int
instance:Inhabited Sp:=⟨⟨0,0,0⟩⟩
def spD (s:Sp):Nat→D
 | 0=>.v (.int .i64 s.lo)
 | 1=>.v (.int .i64 s.hi)
 | 2=>.v (.int .i64 s.val)
 | _=>.junk
def spnA (s:Sp):D:=.ag [spD s 0,spD s 1,spD s 2]
def spsD (l:List Sp):D:=slD 3 spD l
structure Pr where
 names:List ByteArray
 spans:List Sp
instance:Inhabited Pr:=⟨⟨[],[]⟩⟩
def prA (p:Pr):D:=.ag [slD 1 zg7 p.names,spsD p.spans]
def spIn (n:Nat) (s:Sp):Prop:=0≤s.lo∧s.lo≤s.hi∧s.hi≤1114111∧1≤s.val∧s.val<n
def spAft (b s:Sp):Prop:=b.hi<s.lo∧¬(s.lo=b.hi+1∧s.val=b.val)
def spOk (p:Pr) (i:Nat):Prop:=spIn p.names.length (p.spans.getD i default)∧(0<i→spAft (p.spans.getD (i - 1) default) (p.spans.getD i default))
def prOk (p:Pr):Prop:=zfi p.names=true∧∀ i,i<p.spans.length→spOk p i
open Classical in
noncomputable def zb4 (p:Pr):Bool:=decide (prOk p)
theorem validP_t {p:Pr}(h:prOk p):true=zb4 p:=(@decide_eq_true _ (Classical.propDecidable _) h).symm
theorem zgl {p:Pr}(h:¬prOk p):false=zb4 p:=(@decide_eq_false _ (Classical.propDecidable _) h).symm
noncomputable def ctPV:Ct:={ ι:=Pr,inp:=fun p=>[prA p],out:=fun p=>.v (.bool (zb4 p)),pre:=fun p=>p.spans.length≤1000000000 }
noncomputable def Γpv:Ctx:=fun f=>match f with
 | 150=>some (.pure ctNames)
 | _=>none
theorem Γpv_ok:za1 Tryz.prog (GlT mx pb) Γpv:=by
 intro f h hh
 simp only[Γpv] at hh
 split at hh<;>simp at hh<;>subst hh
 ·exact rNames_ok
set_option maxHeartbeats 4000000 in
theorem rPValid_ok:zay Tryz.prog (GlT mx pb) 107 ctPV:=by
 refine zah (cc:=true) Γpv_ok Tryz.T_ok Tryz.mixed Tryz.func107 rfl (by kernel_rfl) (fun _=>rfl) (fun _ _=>by show 1≤88;decide) ?_
 intro (p:Pr) (hp:p.spans.length≤1000000000)
 repeat' (first|refine gw ?_|(first|refine br ?_ ?_|refine brF ?_ ?_)<;>intro q_<;>try simp only[nz] at q_)
 ·exact zag (zgl fun h=>by rw[h.1] at q_;exact Bool.noConfusion q_)
 have hn:=q_
 refine ⟨0,Nat,fun k=>⟨[(1,.own 0 0),(3,.v (.int .i64 k))],[.cells 38 [slD 1 zg7 p.names,spsD p.spans]],[]⟩,fun k=>k≤p.spans.length∧∀ i,i<k→spOk p i,fun k=>p.spans.length - k,fun _=>Nat.zero_le _,⟨0,⟨Nat.zero_le _,fun j hj=>by omega⟩,zaf [0] tmS ⟨⟨rfl,zaa _,rfl⟩,trivial⟩ (by decide)⟩,?_⟩
 rintro k ⟨hk,hd⟩
 by_cases hlt:k<p.spans.length
 ·have ek:((k:Int) - 1).toNat=k - 1:=by omega
  have hb:0<k→(p.spans.getD (k - 1) default).hi≤1114111:=fun h=>(hd (k - 1) (by omega)).1.2.2.1
  have no:¬spOk p k→false=zb4 p:=fun h=>zgl fun hh=>h (hh.2 k hlt)
  rcases Nat.eq_zero_or_pos k with h0|h0
  ·repeat' (first|refine gw ?_|(first|refine br ?_ ?_|refine brF ?_ ?_)<;>intro q_<;>try simp only[nz] at q_)
   all_goals first
    | exact zag (no fun h=>by have h1:=h.1;unfold spIn at h1;omega)
    | exact ⟨k+1,⟨by omega,zaw hd ⟨⟨by omega,by omega,by omega,by omega,by omega⟩,fun h=>by omega⟩⟩,(by show _ - (k+1)<_ - k;omega),zaf [0] tmS ⟨⟨rfl,zaa _,rfl⟩,trivial⟩ (by decide)⟩
  ·have hb:=hb h0
   have hb0:=hd (k - 1) (by omega)
   have hb1:0≤(p.spans.getD (k - 1) default).hi:=by have h1:=hb0.1;unfold spIn at h1;omega
   have hb2:(p.spans.getD ((k:Int) - 1).toNat default).hi≤1114111:=by rw[ek];exact hb
   have hb3:0≤(p.spans.getD ((k:Int) - 1).toNat default).hi:=by rw[ek];exact hb1
   repeat' (first|refine gw ?_|(first|refine br ?_ ?_|refine brF ?_ ?_)<;>intro q_<;>try simp only[nz] at q_)
   all_goals try rw[ek] at *
   all_goals first
    | exact zag (no fun h=>by have h1:=h.1;have h2:=h.2 h0;unfold spIn at h1;unfold spAft at h2;omega)
    | exact ⟨k+1,⟨by omega,zaw hd ⟨⟨by omega,by omega,by omega,by omega,by omega⟩,fun _=>⟨by omega,by omega⟩⟩⟩,(by show _ - (k+1)<_ - k;omega),zaf [0] tmS ⟨⟨rfl,zaa _,rfl⟩,trivial⟩ (by decide)⟩
 ·repeat' (first|refine gw ?_|(first|refine br ?_ ?_|refine brF ?_ ?_)<;>intro q_<;>try simp only[nz] at q_)
  exact zag (validP_t ⟨hn,fun i hi=>hd i (by omega)⟩)
end Go.Proofs
namespace Go.Proofs
open Go Go.Sx
variable {mx:Int}{pb:Bool}
def insB (s:Sp):Bool:=decide (0≤s.lo∧s.lo≤s.hi∧s.hi≤1114111)
def ctIns:Ct:={ ι:=Sp,inp:=fun s=>[spnA s],out:=fun s=>.v (.bool (insB s)),pre:=fun _=>True }
def Γins:Ctx:=fun f=>match f with
 | 90=>some (.pure zgy)
 | _=>none
theorem Γins_ok:za1 Tryz.prog (GlT mx pb) Γins:=by
 intro f h hh
 simp only[Γins] at hh
 split at hh<;>simp at hh<;>subst hh
 ·exact ziy
theorem validB_f {c:Int}(h:zbb c=false):¬(0≤c∧c≤1114111):=fun hh=>by rw[zbe.2 hh] at h;exact Bool.noConfusion h
set_option maxHeartbeats 1000000 in
theorem pInside_ok:zay Tryz.prog (GlT mx pb) 282 ctIns:=by
 refine zah (cc:=true) Γins_ok Tryz.T_ok Tryz.mixed Tryz.func282 rfl (by kernel_rfl) (fun _=>rfl) (fun _ _=>by show 1≤18;decide) ?_
 intro (s:Sp) _
 repeat' (first|refine gw ?_|(first|refine br ?_ ?_|refine brF ?_ ?_)<;>intro q_<;>try simp only[nz] at q_)
 ·rename_i h1
  have h1:=zbe.1 h1
  have h2:=zbe.1 q_
  exact zag (by unfold insB;by_cases h:s.lo≤s.hi<;>simp[h]<;>omega)
 ·have h2:=validB_f q_
  exact zag (decide_eq_false (by omega)).symm
 ·have h2:=validB_f q_
  exact zag (decide_eq_false (by omega)).symm
def mpN (l:List ByteArray):Nat→KV→Option D
 | 0=>fun _=>none
 | k+1=>fun key=>if key=.s (l.getD k default) then some (.v (.int .i64 k)) else mpN l k key
theorem mpN_none {l:List ByteArray}{b:ByteArray}:∀ {k:Nat},(∀ j,j<k→¬l.getD j default=b)→mpN l k (.s b)=none
 | 0,_=>rfl
 | k+1,h=>by
  show (if KV.s b=.s (l.getD k default) then some (D.v (.int .i64 k)) else mpN l k (.s b))=none
  rw[if_neg (fun e=>h k (by omega) (by cases e;rfl))]
  exact mpN_none fun j hj=>h j (by omega)
theorem mpN_some {l:List ByteArray}{b:ByteArray}:∀ {k:Nat},(∃ j,j<k∧l.getD j default=b)→∃ i:Int,mpN l k (.s b)=some (.v (.int .i64 i))
 | 0,⟨j,hj,_⟩=>by omega
 | k+1,⟨j,hj,e⟩=>by
  show ∃ i:Int,(if KV.s b=.s (l.getD k default) then some (D.v (.int .i64 k)) else mpN l k (.s b))=_
  by_cases h:KV.s b=.s (l.getD k default)
  ·rw[if_pos h];exact ⟨_,rfl⟩
  ·rw[if_neg h]
   refine mpN_some ⟨j,?_,e⟩
   rcases Nat.lt_or_ge j k with h1|h1
   ·exact h1
   ·have:j=k:=by omega
    subst this
    exact absurd (by rw[e]) h
theorem mpN_pd (l:List ByteArray):∀ (k:Nat) (key:KV),mpN l k key=none∨∃ i:Int,mpN l k key=some (.v (.int .i64 i))
 | 0,_=>.inl rfl
 | k+1,key=>by
  show (if key=.s (l.getD k default) then some (D.v (.int .i64 k)) else mpN l k key)=none∨∃ i:Int,(if key=.s (l.getD k default) then some (D.v (.int .i64 k)) else mpN l k key)=some (.v (.int .i64 i))
  by_cases h:key=.s (l.getD k default)
  ·rw[if_pos h];exact .inr ⟨_,rfl⟩
  ·rw[if_neg h];exact mpN_pd l k key
theorem optRen_self {ρ:List Nat}{o:Option D}(h:o=none∨∃ i:Int,o=some (.v (.int .i64 i))):OptRen ρ o o:=by
 rcases h with h|⟨i,h⟩
 ·rw[h];exact trivial
 ·rw[h];exact ⟨zab _,rfl⟩
theorem StLe.m1 {tm tm':List (Nat × D)}{ow ow':List Own}(h1:renT [0,1] tm tm') (h2:renO [0,1] ow [0,1] ow'):StLe 1 ⟨tm,ow,[]⟩ ⟨tm',ow',[]⟩ :=
 zaq [0,1] h1 h2 (by decide) (by decide) (by simp)
noncomputable def cIdx:Code:=(Tryz.f249.body).getD .skip
def Γix:Ctx:=fun f=>match f with
 | 270=>some (.pure ctNm)
 | _=>none
theorem Γix_ok:za1 Tryz.prog (GlT mx pb) Γix:=by
 intro f h hh
 simp only[Γix] at hh
 split at hh<;>simp at hh<;>subst hh
 ·exact pName_ok
noncomputable def Γpva (mx:Int) (pb:Bool):Ctx:=fun f=>match f with
 | 249=>some (.gen (ziq true Γix Tryz.T (GlT mx pb) Tryz.f249 cIdx))
 | 282=>some (.pure ctIns)
 | _=>none
theorem Γpva_ok:za1 Tryz.prog (GlT mx pb) (Γpva mx pb):=by
 intro f h hh
 simp only[Γpva] at hh
 split at hh<;>simp at hh<;>subst hh
 ·exact zax Γix_ok Tryz.T_ok Tryz.mixed Tryz.func249 rfl (by kernel_rfl)
 ·exact pInside_ok
set_option maxHeartbeats 4000000 in
theorem pValid_ok:zay Tryz.prog (GlT mx pb) 271 ctPV:=by
 refine zah (cc:=true) Γpva_ok Tryz.T_ok Tryz.mixed Tryz.func271 rfl (by kernel_rfl) (fun _=>rfl) (fun _ _=>by show 1≤69;decide) ?_
 intro (p:Pr) (hp:p.spans.length≤1000000000)
 repeat' (first|refine gw ?_|(first|refine br ?_ ?_|refine brF ?_ ?_)<;>intro q_<;>try simp only[nz] at q_)
 ·exact zag (zgl fun h=>by have h1:=h.1;rw[zi8 (.inr (by omega))] at h1;exact Bool.noConfusion h1)
 ·refine ⟨0,Nat,fun k=>⟨[(4,.mp 1),(18,slD 1 zg7 p.names),(19,.v (.int .i64 p.names.length)),(20,.v (.int .i64 k))],[.cells 38 [slD 1 zg7 p.names,spsD p.spans],.map 9 3 .s (mpN p.names k)],[]⟩,fun k=>k≤p.names.length∧∀ j,j<k→nmOk p.names j=true,fun k=>p.names.length - k,fun _=>(by show 1≤2;decide),⟨0,⟨Nat.zero_le _,fun j hj=>by omega⟩,StLe.m1 tmS ⟨⟨rfl,zaa _,rfl⟩,⟨rfl,rfl,rfl,fun _=>trivial⟩,trivial⟩⟩,?_⟩
  rintro k ⟨hk,hd⟩
  by_cases hlt:k<p.names.length
  ·by_cases hdup:∃ j,j<k∧p.names.getD j default=p.names.getD k default
   ·obtain ⟨i,hi⟩:=mpN_some hdup
    obtain ⟨j,hj,hje⟩:=hdup
    have hno:¬prOk p:=fun h=>by have:=names_no hlt (nmOk_2 hj hje);rw[h.1] at this;exact Bool.noConfusion this
    repeat' (first|refine gw ?_|(first|refine br ?_ ?_|refine brF ?_ ?_)<;>intro q_<;>try simp only[nz] at q_)
    refine ⟨fun d hdd=>?_,fun hnn=>absurd (hi.symm.trans hnn) (by simp)⟩
    obtain rfl:d=.v (.int .i64 i):=Option.some.inj (hdd.symm.trans hi)
    repeat' (first|refine gw ?_|(first|refine br ?_ ?_|refine brF ?_ ?_)<;>intro q_<;>try simp only[nz] at q_)
    all_goals exact zag (zgl hno)
   ·have hno:∀ j,j<k→¬p.names.getD j default=p.names.getD k default:=fun j hj e=>hdup ⟨j,hj,e⟩
    have hi:=mpN_none hno
    repeat' (first|refine gw ?_|(first|refine br ?_ ?_|refine brF ?_ ?_)<;>intro q_<;>try simp only[nz] at q_)
    refine ⟨fun d hdd=>absurd (hi.symm.trans hdd) (by simp),fun _=>?_⟩
    repeat' (first|refine gw ?_|(first|refine br ?_ ?_|refine brF ?_ ?_)<;>intro q_<;>try simp only[nz] at q_)
    ·exact zag (zgl fun h=>by have:=names_no hlt (nmOk_1 q_);rw[h.1] at this;exact Bool.noConfusion this)
    ·exact ⟨k+1,⟨by omega,zaw hd (nmOk_t q_ hno)⟩,(by show _ - (k+1)<_ - k;omega),StLe.m1 tmS ⟨⟨rfl,zaa _,rfl⟩,⟨rfl,rfl,rfl,fun key=>by
      show OptRen [0,1] (if key=.s (p.names.getD k default) then some (D.v (.int .i64 k)) else mpN p.names k key) (if key=.s (p.names.getD k default) then some (D.v (.int .i64 k)) else mpN p.names k key)
      exact optRen_self (mpN_pd p.names (k+1) key)⟩,trivial⟩⟩
  ·have hn:zfi p.names=true:=names_yes (by omega) (by omega) (fun i hi=>hd i (by omega))
   repeat' (first|refine gw ?_|(first|refine br ?_ ?_|refine brF ?_ ?_)<;>intro q_<;>try simp only[nz] at q_)
   refine ⟨0,Nat,fun k=>⟨[(1,.own 0 0),(17,spsD p.spans),(18,.v (.int .i64 p.spans.length)),(19,.v (.int .i64 k))],[.cells 38 [slD 1 zg7 p.names,spsD p.spans]],[]⟩,fun k=>k≤p.spans.length∧∀ i,i<k→spOk p i,fun k=>p.spans.length - k,fun _=>Nat.zero_le _,⟨0,⟨Nat.zero_le _,fun j hj=>by omega⟩,zaf [0] tmS ⟨⟨rfl,zaa _,rfl⟩,trivial⟩ (by decide)⟩,?_⟩
   rintro k ⟨hk,hd⟩
   by_cases hlt:k<p.spans.length
   ·have ek:((k:Int) - 1).toNat=k - 1:=by omega
    have no:¬spOk p k→false=zb4 p:=fun h=>zgl fun hh=>h (hh.2 k hlt)
    have insT:insB (p.spans.getD k default)=true→0≤(p.spans.getD k default).lo∧(p.spans.getD k default).lo≤(p.spans.getD k default).hi∧(p.spans.getD k default).hi≤1114111:=of_decide_eq_true
    have insF:insB (p.spans.getD k default)=false→¬(0≤(p.spans.getD k default).lo∧(p.spans.getD k default).lo≤(p.spans.getD k default).hi∧(p.spans.getD k default).hi≤1114111):=of_decide_eq_false
    rcases Bool.eq_false_or_eq_true (insB (p.spans.getD k default)) with hin|hin
    ·have hin':=insT hin
     rcases Nat.eq_zero_or_pos k with h0|h0
     ·repeat' (first|refine gw ?_|(first|refine br ?_ ?_|refine brF ?_ ?_)<;>intro q_<;>try simp only[nz] at q_)
      all_goals first
       | exact zag (no fun h=>by have h1:=h.1;unfold spIn at h1;omega)
       | exact ⟨k+1,⟨by omega,zaw hd ⟨⟨by omega,by omega,by omega,by omega,by omega⟩,fun h=>by omega⟩⟩,(by show _ - (k+1)<_ - k;omega),zaf [0] tmS ⟨⟨rfl,zaa _,rfl⟩,trivial⟩ (by decide)⟩
     ·have hb0:=hd (k - 1) (by omega)
      have hb:=hb0.1
      unfold spIn at hb
      have hb2:(p.spans.getD ((k:Int) - 1).toNat default).hi≤1114111:=by rw[ek];omega
      have hb3:0≤(p.spans.getD ((k:Int) - 1).toNat default).hi:=by rw[ek];omega
      repeat' (first|refine gw ?_|(first|refine br ?_ ?_|refine brF ?_ ?_)<;>intro q_<;>try simp only[nz] at q_)
      all_goals try rw[ek] at *
      all_goals first
       | exact zag (no fun h=>by have h1:=h.1;have h2:=h.2 h0;unfold spIn at h1;unfold spAft at h2;omega)
       | exact ⟨k+1,⟨by omega,zaw hd ⟨⟨by omega,by omega,by omega,by omega,by omega⟩,fun _=>⟨by omega,by omega⟩⟩⟩,(by show _ - (k+1)<_ - k;omega),zaf [0] tmS ⟨⟨rfl,zaa _,rfl⟩,trivial⟩ (by decide)⟩
    ·have hin':=insF hin
     repeat' (first|refine gw ?_|(first|refine br ?_ ?_|refine brF ?_ ?_)<;>intro q_<;>try simp only[nz] at q_)
     all_goals exact zag (no fun h=>by have h1:=h.1;unfold spIn at h1;omega)
   ·repeat' (first|refine gw ?_|(first|refine br ?_ ?_|refine brF ?_ ?_)<;>intro q_<;>try simp only[nz] at q_)
    exact zag (validP_t ⟨hn,fun i hi=>hd i (by omega)⟩)
 ·exact zag (zgl fun h=>by have h1:=h.1;rw[zi8 (.inl (by omega))] at h1;exact Bool.noConfusion h1)
end Go.Proofs
namespace Go.Proofs
open Go Go.Sx
variable {mx:Int}{pb:Bool}
def otherB:ByteArray:=⟨#[79,116,104,101,114]⟩
noncomputable def zc1 (p:Pr):Pr:=if zb4 p=true then p else ⟨[otherB],[]⟩
noncomputable def ctCnt:Ct:={ ι:=Pr,inp:=fun p=>[prA p],out:=fun p=>prA (zc1 p),pre:=fun p=>p.spans.length≤1000000000 }
theorem cntP_t {p:Pr}(h:zb4 p=true):zc1 p=p:=if_pos h
theorem cntP_f {p:Pr}(h:zb4 p=false):zc1 p=⟨[otherB],[]⟩:=if_neg (by rw[h];decide)
noncomputable def Γcnt:Ctx:=fun f=>match f with
 | 271=>some (.pure ctPV)
 | 107=>some (.pure ctPV)
 | _=>none
theorem Γcnt_ok:za1 Tryz.prog (GlT mx pb) Γcnt:=by
 intro f h hh
 simp only[Γcnt] at hh
 split at hh<;>simp at hh<;>subst hh
 ·exact pValid_ok
 ·exact rPValid_ok
set_option maxHeartbeats 1000000 in
theorem pCnt_ok:zay Tryz.prog (GlT mx pb) 250 ctCnt:=by
 refine zah (cc:=true) Γcnt_ok Tryz.T_ok Tryz.mixed Tryz.func250 rfl (by kernel_rfl) (fun _=>rfl) (fun _ _=>by show 1≤8;decide) ?_
 intro (p:Pr) (hp:p.spans.length≤1000000000)
 have p1:ctPV.pre p:=hp
 repeat' (first|refine gw ?_|(first|refine br ?_ ?_|refine brF ?_ ?_)<;>intro q_<;>try simp only[nz] at q_)
 ·exact zaj (show prA p=prA (zc1 p) by rw[cntP_t q_]) rfl
 ·refine EntR.of rfl ?_
  show Ent _ (prA (zc1 p))
  rw[cntP_f q_]
  exact Ent.ag (EntL.cons (ent_sl1 (lt1 (zab _))) (EntL.cons Ent.nil (zaa _)))
end Go.Proofs
namespace Go.Proofs
open Go Go.Sx
variable {mx:Int}{pb:Bool}
theorem cnt_ok2 (p:Pr):∀ i,i<(zc1 p).spans.length→spOk (zc1 p) i:=by
 intro i hi
 rcases Bool.eq_false_or_eq_true (zb4 p) with h|h
 ·have hp:prOk p := @of_decide_eq_true _ (Classical.propDecidable _) h
  rw[cntP_t h] at hi ⊢
  exact hp.2 i hi
 ·rw[cntP_f h] at hi
  simp at hi
theorem StLe.m3 {tm tm':List (Nat × D)}{ow ow':List Own}(h1:renT [0,1,2] tm tm') (h2:renO [0,1,2] ow [0,1,2] ow'):StLe 3 ⟨tm,ow,[]⟩ ⟨tm',ow',[]⟩ :=
 zaq [0,1,2] h1 h2 (by decide) (by decide) (by simp)
end Go.Proofs
namespace Go.Proofs
open Go Go.Sx
variable {mx:Int}{pb:Bool}
theorem cnt_names (p:Pr):1≤(zc1 p).names.length:=by
 rcases Bool.eq_false_or_eq_true (zb4 p) with h|h
 ·have hp:prOk p := @of_decide_eq_true _ (Classical.propDecidable _) h
  rw[cntP_t h]
  have h1:=hp.1
  simp only[zfi,Bool.and_eq_true,decide_eq_true_eq] at h1
  exact h1.1.1
 ·rw[cntP_f h];decide
def fndI (l:List ByteArray) (n:ByteArray):Option Nat:=(List.range l.length).find? fun i=>eqB (l.getD i default) n
def fndV (l:List ByteArray) (n:ByteArray):Int:=match fndI l n with|some i=>i|none=>0
def fndB (l:List ByteArray) (n:ByteArray):Bool:=(fndI l n).isSome
theorem fnd_at {l:List ByteArray}{n:ByteArray}{k:Nat}(hk:k<l.length) (hn:∀ j,j<k→¬l.getD j default=n) (h:l.getD k default=n):fndI l n=some k:=by
 unfold fndI
 rw[List.find?_range_eq_some]
 refine ⟨zd1.2 h,List.mem_range.2 hk,fun j hj=>?_⟩
 rw[show eqB (l.getD j default) n=false from by rw[← Bool.not_eq_true,zd1];exact hn j hj]
 rfl
theorem fnd_no {l:List ByteArray}{n:ByteArray}(hn:∀ j,j<l.length→¬l.getD j default=n):fndI l n=none:=by
 unfold fndI
 rw[List.find?_eq_none]
 intro j hj
 rw[zd1]
 exact hn j (List.mem_range.1 hj)
noncomputable def ctFnd:Ct:={ ι:=Pr × ByteArray,inp:=fun x=>[prA x.1,.v (.string x.2)],out:=fun x=>.tu [.v (.int .i64 (fndV (zc1 x.1).names x.2)),.v (.bool (fndB (zc1 x.1).names x.2))],pre:=fun x=>x.1.spans.length≤1000000000 }
theorem cnt_len250 (p:Pr):(zc1 p).names.length≤250:=by
 rcases Bool.eq_false_or_eq_true (zb4 p) with h|h
 ·have hp:prOk p := @of_decide_eq_true _ (Classical.propDecidable _) h
  rw[cntP_t h]
  have h1:=hp.1
  simp only[zfi,Bool.and_eq_true,decide_eq_true_eq] at h1
  exact h1.1.2
 ·rw[cntP_f h];decide
end Go.Proofs
namespace Go.Proofs
open Go Go.Sx
variable {mx:Int}{pb:Bool}
theorem nmOk_of {l:List ByteArray}(h:zfi l=true):∀ i,i<l.length→zbx (l.getD i default)=true∧∀ j,j<i→¬l.getD j default=l.getD i default:=by
 intro i hi
 simp only[zfi,Bool.and_eq_true,List.all_eq_true] at h
 have h1:=h.2 i (List.mem_range.2 hi)
 simp only[nmOk,Bool.and_eq_true,List.all_eq_true] at h1
 refine ⟨h1.1,fun j hj e=>?_⟩
 have:=h1.2 j (List.mem_range.2 hj)
 rw[zd1.2 e] at this
 exact absurd this (by decide)
theorem cnt_namesB (p:Pr):zfi (zc1 p).names=true:=by
 rcases Bool.eq_false_or_eq_true (zb4 p) with h|h
 ·have hp:prOk p := @of_decide_eq_true _ (Classical.propDecidable _) h
  rw[cntP_t h]
  exact hp.1
 ·rw[cntP_f h];decide
theorem mpN_at {l:List ByteArray}{b:ByteArray}{i:Nat}(hi:l.getD i default=b):∀ {k:Nat},i<k→(∀ j,j<k→j≠i→¬l.getD j default=b)→mpN l k (.s b)=some (.v (.int .i64 i))
 | 0,h,_=>by omega
 | k+1,h,hn=>by
  show (if KV.s b=.s (l.getD k default) then some (D.v (.int .i64 k)) else mpN l k (.s b))=_
  by_cases hk:k=i
  ·subst hk
   rw[if_pos (by rw[hi])]
  ·rw[if_neg (fun e=>hn k (by omega) hk (by cases e;rfl))]
   exact mpN_at hi (by omega) fun j hj hji=>hn j (by omega) hji
noncomputable def Γpfn (mx:Int) (pb:Bool):Ctx:=fun f=>match f with
 | 250=>some (.pure ctCnt)
 | 249=>some (.gen (ziq true Γix Tryz.T (GlT mx pb) Tryz.f249 cIdx))
 | _=>none
theorem Γpfn_ok:za1 Tryz.prog (GlT mx pb) (Γpfn mx pb):=by
 intro f h hh
 simp only[Γpfn] at hh
 split at hh<;>simp at hh<;>subst hh
 ·exact pCnt_ok
 ·exact zax Γix_ok Tryz.T_ok Tryz.mixed Tryz.func249 rfl (by kernel_rfl)
set_option maxHeartbeats 4000000 in
theorem pFind_ok:zay Tryz.prog (GlT mx pb) 204 ctFnd:=by
 refine zah (cc:=true) Γpfn_ok Tryz.T_ok Tryz.mixed Tryz.func204 rfl (by kernel_rfl) (fun _=>rfl) (fun _ _=>by show 2≤25;decide) ?_
 rintro ⟨p,nm⟩ hp
 have p1:ctCnt.pre p:=hp
 have hl:=cnt_len250 p
 have hl1:=cnt_names p
 have hB:=nmOk_of (cnt_namesB p)
 have hz:¬((zc1 p).names.length:Int)=0:=by omega
 repeat' (first|refine gw ?_|(first|refine br ?_ ?_|refine brF ?_ ?_)<;>intro q_<;>try simp only[nz] at q_)
 ·exfalso;omega
 refine ⟨0,Nat,fun k=>⟨[(4,.mp 1),(18,slD 1 zg7 (zc1 p).names),(19,.v (.int .i64 (zc1 p).names.length)),(20,.v (.int .i64 k))],[.cells 38 [slD 1 zg7 p.names,spsD p.spans],.map 9 3 .s (mpN (zc1 p).names k)],[]⟩,fun k=>k≤(zc1 p).names.length,fun k=>(zc1 p).names.length - k,fun _=>(by show 1≤2;decide),⟨0,Nat.zero_le _,StLe.m1 tmS ⟨⟨rfl,zaa _,rfl⟩,⟨rfl,rfl,rfl,fun _=>trivial⟩,trivial⟩⟩,?_⟩
 intro k (hk:k≤(zc1 p).names.length)
 by_cases hlt:k<(zc1 p).names.length
 ·have hb:=hB k hlt
  have hi:=mpN_none hb.2
  have hb1:=hb.1
  repeat' (first|refine gw ?_|(first|refine br ?_ ?_|refine brF ?_ ?_)<;>intro q_<;>try simp only[nz] at q_)
  refine ⟨fun d hdd=>absurd (hi.symm.trans hdd) (by simp),fun _=>?_⟩
  repeat' (first|refine gw ?_|(first|refine br ?_ ?_|refine brF ?_ ?_)<;>intro q_<;>try simp only[nz] at q_)
  exact ⟨k+1,(by show k+1≤_;omega),(by show _ - (k+1)<_ - k;omega),StLe.m1 tmS ⟨⟨rfl,zaa _,rfl⟩,⟨rfl,rfl,rfl,fun key=>by
   show OptRen [0,1] (if key=.s ((zc1 p).names.getD k default) then some (D.v (.int .i64 k)) else mpN (zc1 p).names k key) (if key=.s ((zc1 p).names.getD k default) then some (D.v (.int .i64 k)) else mpN (zc1 p).names k key)
   exact optRen_self (mpN_pd (zc1 p).names (k+1) key)⟩,trivial⟩⟩
 ·have hke:k=(zc1 p).names.length:=by omega
  repeat' (first|refine gw ?_|(first|refine br ?_ ?_|refine brF ?_ ?_)<;>intro q_<;>try simp only[nz] at q_)
  refine ⟨fun d hdd=>?_,fun hnn=>?_⟩
  ·have hex:∃ i,i<(zc1 p).names.length∧(zc1 p).names.getD i default=nm:=by
    by_cases h:∃ i,i<(zc1 p).names.length∧(zc1 p).names.getD i default=nm
    ·exact h
    ·have:=mpN_none (l:=(zc1 p).names) (b:=nm) (k:=k) (fun j hj e=>h ⟨j,by omega,e⟩)
     exact absurd (this.symm.trans hdd) (by simp)
   obtain ⟨i,hi,hie⟩:=hex
   have huni:∀ j,j<(zc1 p).names.length→j≠i→¬(zc1 p).names.getD j default=nm:=fun j hj hji e=>by
    rcases Nat.lt_or_ge j i with h1|h1
    ·exact (hB i hi).2 j h1 (e.trans hie.symm)
    ·exact (hB j hj).2 i (by omega) (hie.trans e.symm)
   have e1:=mpN_at hie (k:=k) (by omega) (fun j hj hji=>huni j (by omega) hji)
   obtain rfl:d=.v (.int .i64 i):=Option.some.inj (hdd.symm.trans e1)
   have e:=fnd_at hi (fun j hj=>huni j (by omega) (by omega)) hie
   repeat' (first|refine gw ?_|(first|refine br ?_ ?_|refine brF ?_ ?_)<;>intro q_<;>try simp only[nz] at q_)
   exact zaj (d':=ctFnd.out (p,nm)) (by show D.tu [.v (.int .i64 i),.v (.bool true)]=D.tu [.v (.int .i64 (fndV (zc1 p).names nm)),.v (.bool (fndB (zc1 p).names nm))];rw[fndV,fndB,e];rfl) rfl
  ·have e:=fnd_no (l:=(zc1 p).names) (n:=nm) (fun j hj ee=>by
    obtain ⟨i,hi⟩:=mpN_some (l:=(zc1 p).names) (b:=nm) (k:=k) ⟨j,by omega,ee⟩
    exact absurd (hi.symm.trans hnn) (by simp))
   repeat' (first|refine gw ?_|(first|refine br ?_ ?_|refine brF ?_ ?_)<;>intro q_<;>try simp only[nz] at q_)
   exact zaj (d':=ctFnd.out (p,nm)) (by show D.tu [.v (.int .i64 0),.v (.bool false)]=D.tu [.v (.int .i64 (fndV (zc1 p).names nm)),.v (.bool (fndB (zc1 p).names nm))];rw[fndV,fndB,e];rfl) rfl
end Go.Proofs
