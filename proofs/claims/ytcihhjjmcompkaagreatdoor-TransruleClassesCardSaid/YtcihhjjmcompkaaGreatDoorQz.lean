import Derived.Test.YtcihhjjmcompkaaGreatDoorGc
set_option linter.unusedVariables false
set_option linter.unusedSimpArgs false
namespace Go.Proofs
open Go Go.Sx
variable {mx:Int}{pb:Bool}
theorem nameC_t {b:Int}(h:(65≤b∧b≤90)∨(97≤b∧b≤122)∨(48≤b∧b≤57)∨b=95):nameC b=true:=by
 simp only[nameC,Bool.or_eq_true,Bool.and_eq_true,decide_eq_true_eq,beq_iff_eq]
 omega
theorem nameC_f {b:Int}(h:¬((65≤b∧b≤90)∨(97≤b∧b≤122)∨(48≤b∧b≤57)∨b=95)):nameC b=false:=by
 rw[← Bool.not_eq_true]
 simp only[nameC,Bool.or_eq_true,Bool.and_eq_true,decide_eq_true_eq,beq_iff_eq]
 omega
theorem name_short {s:ByteArray}(h:s.size<1∨32<s.size):isNameB s=false:=by
 unfold isNameB
 rcases h with h|h
 ·rw[decide_eq_false (show ¬1≤s.size by omega)];rfl
 ·rw[decide_eq_false (show ¬s.size≤32 by omega),Bool.and_false];rfl
theorem name_all {s:ByteArray}(h1:1≤s.size) (h2:s.size≤32) (h:∀ j,j<s.size→nameC (bAt s j)=true):isNameB s=true:=by
 rw[name_yes h,decide_eq_true h1,decide_eq_true h2];rfl
def ctNm:Ct:={ ι:=ByteArray,inp:=fun s=>[.v (.string s)],out:=fun s=>.v (.bool (isNameB s)),pre:=fun _=>True }
set_option maxHeartbeats 4000000 in
theorem pName_ok:Sound Tryz.prog (GlT mx pb) 270 ctNm:=by
 refine sound_by (cc:=true) Γ0_ok Tryz.T_ok Tryz.mixed Tryz.func270 rfl (by kernel_rfl) (fun _=>rfl) (fun _ _=>by show 1≤51;decide) ?_
 intro (s:ByteArray) _
 repeat' (first|refine gw ?_|(first|refine br ?_ ?_|refine brF ?_ ?_)<;>intro q_<;>try simp only[nz] at q_)
 ·exact EntR.bool (name_short (.inr (by omega))).symm
 ·rename_i h0
  have h1:1≤s.size:=by
   rcases Nat.eq_zero_or_pos s.size with h|h
   ·exact absurd (size_nil (List.length_eq_zero_iff.1 h)) h0
   ·exact h
  refine ⟨0,Nat,fun k=>⟨[(0,.v (.string s)),(14,.v (.int .i64 s.size)),(15,.v (.int .i64 k))],[],[]⟩,fun k=>k≤s.size∧∀ j,j<k→nameC (bAt s j)=true,fun k=>s.size - k,fun _=>Nat.zero_le _,⟨0,⟨Nat.zero_le _,fun j hj=>by omega⟩,StLe.ren [] tmS trivial (by decide)⟩,?_⟩
  rintro k ⟨hk,hd⟩
  by_cases hlt:k<s.size
  ·repeat' (first|refine gw ?_|(first|refine br ?_ ?_|refine brF ?_ ?_)<;>intro q_<;>try simp only[nz] at q_)
   all_goals first
    | (exfalso;omega)
    | exact EntR.bool (name_no hlt (nameC_f (by omega))).symm
    | exact ⟨k+1,⟨by omega,next_of hd (nameC_t (by omega))⟩,(by show s.size - (k+1)<s.size - k;omega),StLe.ren [] tmS trivial (by decide)⟩
  ·repeat' (first|refine gw ?_|(first|refine br ?_ ?_|refine brF ?_ ?_)<;>intro q_<;>try simp only[nz] at q_)
   exact EntR.bool (name_all h1 (by omega) (fun j hj=>hd j (by omega))).symm
 ·exact EntR.bool (name_short (.inl (by have:=congrArg ByteArray.size q_;rw[this];decide))).symm
set_option maxHeartbeats 4000000 in
theorem rNamed_ok:Sound Tryz.prog (GlT mx pb) 209 ctNm:=by
 refine sound_by (cc:=true) Γ0_ok Tryz.T_ok Tryz.mixed Tryz.func209 rfl (by kernel_rfl) (fun _=>rfl) (fun _ _=>by show 1≤49;decide) ?_
 intro (s:ByteArray) _
 repeat' (first|refine gw ?_|(first|refine br ?_ ?_|refine brF ?_ ?_)<;>intro q_<;>try simp only[nz] at q_)
 ·exact EntR.bool (name_short (.inr (by omega))).symm
 ·refine ⟨0,Nat,fun k=>⟨[(0,.v (.string s)),(3,.v (.int .i64 k))],[],[]⟩,fun k=>k≤s.size∧∀ j,j<k→nameC (bAt s j)=true,fun k=>s.size - k,fun _=>Nat.zero_le _,⟨0,⟨Nat.zero_le _,fun j hj=>by omega⟩,StLe.ren [] tmS trivial (by decide)⟩,?_⟩
  rintro k ⟨hk,hd⟩
  by_cases hlt:k<s.size
  ·repeat' (first|refine gw ?_|(first|refine br ?_ ?_|refine brF ?_ ?_)<;>intro q_<;>try simp only[nz] at q_)
   all_goals first
    | (exfalso;omega)
    | exact EntR.bool (name_no hlt (nameC_f (by omega))).symm
    | exact ⟨k+1,⟨by omega,next_of hd (nameC_t (by omega))⟩,(by show s.size - (k+1)<s.size - k;omega),StLe.ren [] tmS trivial (by decide)⟩
  ·repeat' (first|refine gw ?_|(first|refine br ?_ ?_|refine brF ?_ ?_)<;>intro q_<;>try simp only[nz] at q_)
   exact EntR.bool (name_all (by omega) (by omega) (fun j hj=>hd j (by omega))).symm
 ·exact EntR.bool (name_short (.inl (by omega))).symm
end Go.Proofs
namespace Go.Proofs
open Go Go.Sx
variable {mx:Int}{pb:Bool}
def nmOk (l:List ByteArray) (i:Nat):Bool:=isNameB (l.getD i default)&&(List.range i).all fun j => !eqB (l.getD j default) (l.getD i default)
def namesB (l:List ByteArray):Bool:=decide (1≤l.length)&&decide (l.length≤250)&&(List.range l.length).all (nmOk l)
theorem names_len {l:List ByteArray}(h:l.length<1∨250<l.length):namesB l=false:=by
 unfold namesB
 rcases h with h|h
 ·rw[decide_eq_false (show ¬1≤l.length by omega)];rfl
 ·rw[decide_eq_false (show ¬l.length≤250 by omega),Bool.and_false];rfl
theorem names_no {l:List ByteArray}{i:Nat}(hi:i<l.length) (h:nmOk l i=false):namesB l=false:=by
 have:(List.range l.length).all (nmOk l)=false:=by
  rw[List.all_eq_false]
  exact ⟨i,by simpa using hi,by simp[h]⟩
 unfold namesB
 rw[this,Bool.and_false]
theorem names_yes {l:List ByteArray}(h1:1≤l.length) (h2:l.length≤250) (h:∀ i,i<l.length→nmOk l i=true):namesB l=true:=by
 have:(List.range l.length).all (nmOk l)=true:=by
  rw[List.all_eq_true]
  intro i hi
  exact h i (by simpa using hi)
 unfold namesB
 rw[this,decide_eq_true h1,decide_eq_true h2];rfl
theorem nmOk_1 {l:List ByteArray}{i:Nat}(h:isNameB (l.getD i default)=false):nmOk l i=false:=by rw[nmOk,h];rfl
theorem nmOk_2 {l:List ByteArray}{i j:Nat}(hj:j<i) (h:l.getD j default=l.getD i default):nmOk l i=false:=by
 have:((List.range i).all fun j => !eqB (l.getD j default) (l.getD i default))=false:=by
  rw[List.all_eq_false]
  exact ⟨j,by simpa using hj,by rw[eqB_iff.2 h];decide⟩
 rw[nmOk,this,Bool.and_false]
theorem nmOk_t {l:List ByteArray}{i:Nat}(h:isNameB (l.getD i default)=true) (hn:∀ j,j<i→¬l.getD j default=l.getD i default):nmOk l i=true:=by
 have:((List.range i).all fun j => !eqB (l.getD j default) (l.getD i default))=true:=by
  rw[List.all_eq_true]
  intro j hj
  rw[show eqB (l.getD j default) (l.getD i default)=false from by rw[← Bool.not_eq_true,eqB_iff];exact hn j (by simpa using hj)]
  rfl
 rw[nmOk,this,h];rfl
def ctNames:Ct:={ ι:=List ByteArray,inp:=fun l=>[slD 1 strD l],out:=fun l=>.v (.bool (namesB l)),pre:=fun _=>True }
def Γnms:Ctx:=fun f=>match f with
 | 209=>some (.pure ctNm)
 | _=>none
theorem Γnms_ok:CtxOk Tryz.prog (GlT mx pb) Γnms:=by
 intro f h hh
 simp only[Γnms] at hh
 split at hh<;>simp at hh<;>subst hh
 ·exact rNamed_ok
set_option maxHeartbeats 4000000 in
theorem rNames_ok:Sound Tryz.prog (GlT mx pb) 150 ctNames:=by
 refine sound_by (cc:=true) Γnms_ok Tryz.T_ok Tryz.mixed Tryz.func150 rfl (by kernel_rfl) (fun _=>rfl) (fun _ _=>by show 1≤39;decide) ?_
 intro (l:List ByteArray) _
 repeat' (first|refine gw ?_|(first|refine br ?_ ?_|refine brF ?_ ?_)<;>intro q_<;>try simp only[nz] at q_)
 ·exact EntR.bool (names_len (.inr (by omega))).symm
 ·refine ⟨0,Nat,fun k=>⟨[(0,slD 1 strD l),(3,.v (.int .i64 k))],[],[]⟩,fun k=>k≤l.length∧∀ j,j<k→nmOk l j=true,fun k=>l.length - k,fun _=>Nat.zero_le _,⟨0,⟨Nat.zero_le _,fun j hj=>by omega⟩,StLe.ren [] tmS trivial (by decide)⟩,?_⟩
  rintro k ⟨hk,hd⟩
  by_cases hlt:k<l.length
  ·repeat' (first|refine gw ?_|(first|refine br ?_ ?_|refine brF ?_ ?_)<;>intro q_<;>try simp only[nz] at q_)
   ·exact EntR.bool (names_no hlt (nmOk_1 q_)).symm
   ·have hn:=q_
    refine ⟨0,Nat,fun j=>⟨[(0,slD 1 strD l),(3,.v (.int .i64 k)),(4,.v (.int .i64 j))],[],[]⟩,fun j=>j≤k∧∀ i,i<j→¬l.getD i default=l.getD k default,fun j=>k - j,fun _=>Nat.zero_le _,⟨0,⟨Nat.zero_le _,fun j hj=>by omega⟩,StLe.ren [] tmS trivial (by decide)⟩,?_⟩
    rintro j ⟨hj,hdj⟩
    by_cases hjk:j<k
    ·repeat' (first|refine gw ?_|(first|refine br ?_ ?_|refine brF ?_ ?_)<;>intro q_<;>try simp only[nz] at q_)
     ·exact EntR.bool (names_no hlt (nmOk_2 hjk q_)).symm
     ·exact ⟨j+1,⟨by omega,next_of hdj q_⟩,(by show k - (j+1)<k - j;omega),StLe.ren [] tmS trivial (by decide)⟩
    ·repeat' (first|refine gw ?_|(first|refine br ?_ ?_|refine brF ?_ ?_)<;>intro q_<;>try simp only[nz] at q_)
     exact ⟨k+1,⟨by omega,next_of hd (nmOk_t hn fun i hi=>hdj i (by omega))⟩,(by show l.length - (k+1)<l.length - k;omega),StLe.ren [] tmS trivial (by decide)⟩
  ·repeat' (first|refine gw ?_|(first|refine br ?_ ?_|refine brF ?_ ?_)<;>intro q_<;>try simp only[nz] at q_)
   exact EntR.bool (names_yes (by omega) (by omega) (fun i hi=>hd i (by omega))).symm
 ·exact EntR.bool (names_len (.inl (by omega))).symm
structure Sp where
 lo:Int
 hi:Int
 val:Int
instance:Inhabited Sp:=⟨⟨0,0,0⟩⟩
def spD (s:Sp):Nat→D
 | 0=>.v (.int .i64 s.lo)
 | 1=>.v (.int .i64 s.hi)
 | 2=>.v (.int .i64 s.val)
 | _=>.junk
def spnA (s:Sp):D:=.ag [spD s 0,spD s 1,spD s 2]
def spsD (l:List Sp):D:=slD 3 spD l
structure Pr where
 names:List ByteArray
 spans:List Sp
instance:Inhabited Pr:=⟨⟨[],[]⟩⟩
def prA (p:Pr):D:=.ag [slD 1 strD p.names,spsD p.spans]
def spIn (n:Nat) (s:Sp):Prop:=0≤s.lo∧s.lo≤s.hi∧s.hi≤1114111∧1≤s.val∧s.val<n
def spAft (b s:Sp):Prop:=b.hi<s.lo∧¬(s.lo=b.hi+1∧s.val=b.val)
def spOk (p:Pr) (i:Nat):Prop:=spIn p.names.length (p.spans.getD i default)∧(0<i→spAft (p.spans.getD (i - 1) default) (p.spans.getD i default))
def prOk (p:Pr):Prop:=namesB p.names=true∧∀ i,i<p.spans.length→spOk p i
open Classical in
noncomputable def validP (p:Pr):Bool:=decide (prOk p)
theorem validP_t {p:Pr}(h:prOk p):true=validP p:=(@decide_eq_true _ (Classical.propDecidable _) h).symm
theorem validP_f {p:Pr}(h:¬prOk p):false=validP p:=(@decide_eq_false _ (Classical.propDecidable _) h).symm
noncomputable def ctPV:Ct:={ ι:=Pr,inp:=fun p=>[prA p],out:=fun p=>.v (.bool (validP p)),pre:=fun p=>p.spans.length≤1000000000 }
noncomputable def Γpv:Ctx:=fun f=>match f with
 | 150=>some (.pure ctNames)
 | _=>none
theorem Γpv_ok:CtxOk Tryz.prog (GlT mx pb) Γpv:=by
 intro f h hh
 simp only[Γpv] at hh
 split at hh<;>simp at hh<;>subst hh
 ·exact rNames_ok
set_option maxHeartbeats 4000000 in
theorem rPValid_ok:Sound Tryz.prog (GlT mx pb) 107 ctPV:=by
 refine sound_by (cc:=true) Γpv_ok Tryz.T_ok Tryz.mixed Tryz.func107 rfl (by kernel_rfl) (fun _=>rfl) (fun _ _=>by show 1≤88;decide) ?_
 intro (p:Pr) (hp:p.spans.length≤1000000000)
 repeat' (first|refine gw ?_|(first|refine br ?_ ?_|refine brF ?_ ?_)<;>intro q_<;>try simp only[nz] at q_)
 ·exact EntR.bool (validP_f fun h=>by rw[h.1] at q_;exact Bool.noConfusion q_)
 have hn:=q_
 refine ⟨0,Nat,fun k=>⟨[(1,.own 0 0),(3,.v (.int .i64 k))],[.cells 38 [slD 1 strD p.names,spsD p.spans]],[]⟩,fun k=>k≤p.spans.length∧∀ i,i<k→spOk p i,fun k=>p.spans.length - k,fun _=>Nat.zero_le _,⟨0,⟨Nat.zero_le _,fun j hj=>by omega⟩,StLe.ren [0] tmS ⟨⟨rfl,EntL.refl _,rfl⟩,trivial⟩ (by decide)⟩,?_⟩
 rintro k ⟨hk,hd⟩
 by_cases hlt:k<p.spans.length
 ·have ek:((k:Int) - 1).toNat=k - 1:=by omega
  have hb:0<k→(p.spans.getD (k - 1) default).hi≤1114111:=fun h=>(hd (k - 1) (by omega)).1.2.2.1
  have no:¬spOk p k→false=validP p:=fun h=>validP_f fun hh=>h (hh.2 k hlt)
  rcases Nat.eq_zero_or_pos k with h0|h0
  ·repeat' (first|refine gw ?_|(first|refine br ?_ ?_|refine brF ?_ ?_)<;>intro q_<;>try simp only[nz] at q_)
   all_goals first
    | exact EntR.bool (no fun h=>by have h1:=h.1;unfold spIn at h1;omega)
    | exact ⟨k+1,⟨by omega,next_of hd ⟨⟨by omega,by omega,by omega,by omega,by omega⟩,fun h=>by omega⟩⟩,(by show _ - (k+1)<_ - k;omega),StLe.ren [0] tmS ⟨⟨rfl,EntL.refl _,rfl⟩,trivial⟩ (by decide)⟩
  ·have hb:=hb h0
   have hb0:=hd (k - 1) (by omega)
   have hb1:0≤(p.spans.getD (k - 1) default).hi:=by have h1:=hb0.1;unfold spIn at h1;omega
   have hb2:(p.spans.getD ((k:Int) - 1).toNat default).hi≤1114111:=by rw[ek];exact hb
   have hb3:0≤(p.spans.getD ((k:Int) - 1).toNat default).hi:=by rw[ek];exact hb1
   repeat' (first|refine gw ?_|(first|refine br ?_ ?_|refine brF ?_ ?_)<;>intro q_<;>try simp only[nz] at q_)
   all_goals try rw[ek] at *
   all_goals first
    | exact EntR.bool (no fun h=>by have h1:=h.1;have h2:=h.2 h0;unfold spIn at h1;unfold spAft at h2;omega)
    | exact ⟨k+1,⟨by omega,next_of hd ⟨⟨by omega,by omega,by omega,by omega,by omega⟩,fun _=>⟨by omega,by omega⟩⟩⟩,(by show _ - (k+1)<_ - k;omega),StLe.ren [0] tmS ⟨⟨rfl,EntL.refl _,rfl⟩,trivial⟩ (by decide)⟩
 ·repeat' (first|refine gw ?_|(first|refine br ?_ ?_|refine brF ?_ ?_)<;>intro q_<;>try simp only[nz] at q_)
  exact EntR.bool (validP_t ⟨hn,fun i hi=>hd i (by omega)⟩)
end Go.Proofs
namespace Go.Proofs
open Go Go.Sx
variable {mx:Int}{pb:Bool}
def insB (s:Sp):Bool:=decide (0≤s.lo∧s.lo≤s.hi∧s.hi≤1114111)
def ctIns:Ct:={ ι:=Sp,inp:=fun s=>[spnA s],out:=fun s=>.v (.bool (insB s)),pre:=fun _=>True }
def Γins:Ctx:=fun f=>match f with
 | 90=>some (.pure ctValid)
 | _=>none
theorem Γins_ok:CtxOk Tryz.prog (GlT mx pb) Γins:=by
 intro f h hh
 simp only[Γins] at hh
 split at hh<;>simp at hh<;>subst hh
 ·exact valid_ok
theorem validB_f {c:Int}(h:validB c=false):¬(0≤c∧c≤1114111):=fun hh=>by rw[validB_iff.2 hh] at h;exact Bool.noConfusion h
set_option maxHeartbeats 1000000 in
theorem pInside_ok:Sound Tryz.prog (GlT mx pb) 282 ctIns:=by
 refine sound_by (cc:=true) Γins_ok Tryz.T_ok Tryz.mixed Tryz.func282 rfl (by kernel_rfl) (fun _=>rfl) (fun _ _=>by show 1≤18;decide) ?_
 intro (s:Sp) _
 repeat' (first|refine gw ?_|(first|refine br ?_ ?_|refine brF ?_ ?_)<;>intro q_<;>try simp only[nz] at q_)
 ·rename_i h1
  have h1:=validB_iff.1 h1
  have h2:=validB_iff.1 q_
  exact EntR.bool (by unfold insB;by_cases h:s.lo≤s.hi<;>simp[h]<;>omega)
 ·have h2:=validB_f q_
  exact EntR.bool (decide_eq_false (by omega)).symm
 ·have h2:=validB_f q_
  exact EntR.bool (decide_eq_false (by omega)).symm
def mpN (l:List ByteArray):Nat→KV→Option D
 | 0=>fun _=>none
 | k+1=>fun key=>if key=.s (l.getD k default) then some (.v (.int .i64 k)) else mpN l k key
theorem mpN_none {l:List ByteArray}{b:ByteArray}:∀ {k:Nat},(∀ j,j<k→¬l.getD j default=b)→mpN l k (.s b)=none
 | 0,_=>rfl
 | k+1,h=>by
  show (if KV.s b=.s (l.getD k default) then some (D.v (.int .i64 k)) else mpN l k (.s b))=none
  rw[if_neg (fun e=>h k (by omega) (by cases e;rfl))]
  exact mpN_none fun j hj=>h j (by omega)
theorem mpN_some {l:List ByteArray}{b:ByteArray}:∀ {k:Nat},(∃ j,j<k∧l.getD j default=b)→∃ i:Int,mpN l k (.s b)=some (.v (.int .i64 i))
 | 0,⟨j,hj,_⟩=>by omega
 | k+1,⟨j,hj,e⟩=>by
  show ∃ i:Int,(if KV.s b=.s (l.getD k default) then some (D.v (.int .i64 k)) else mpN l k (.s b))=_
  by_cases h:KV.s b=.s (l.getD k default)
  ·rw[if_pos h];exact ⟨_,rfl⟩
  ·rw[if_neg h]
   refine mpN_some ⟨j,?_,e⟩
   rcases Nat.lt_or_ge j k with h1|h1
   ·exact h1
   ·have:j=k:=by omega
    subst this
    exact absurd (by rw[e]) h
theorem mpN_pd (l:List ByteArray):∀ (k:Nat) (key:KV),mpN l k key=none∨∃ i:Int,mpN l k key=some (.v (.int .i64 i))
 | 0,_=>.inl rfl
 | k+1,key=>by
  show (if key=.s (l.getD k default) then some (D.v (.int .i64 k)) else mpN l k key)=none∨∃ i:Int,(if key=.s (l.getD k default) then some (D.v (.int .i64 k)) else mpN l k key)=some (.v (.int .i64 i))
  by_cases h:key=.s (l.getD k default)
  ·rw[if_pos h];exact .inr ⟨_,rfl⟩
  ·rw[if_neg h];exact mpN_pd l k key
theorem optRen_self {ρ:List Nat}{o:Option D}(h:o=none∨∃ i:Int,o=some (.v (.int .i64 i))):OptRen ρ o o:=by
 rcases h with h|⟨i,h⟩
 ·rw[h];exact trivial
 ·rw[h];exact ⟨Ent.refl _,rfl⟩
theorem StLe.m1 {tm tm':List (Nat × D)}{ow ow':List Own}(h1:renT [0,1] tm tm') (h2:renO [0,1] ow [0,1] ow'):StLe 1 ⟨tm,ow,[]⟩ ⟨tm',ow',[]⟩ :=
 StLe.renm [0,1] h1 h2 (by decide) (by decide) (by simp)
noncomputable def cIdx:Code:=(Tryz.f249.body).getD .skip
def Γix:Ctx:=fun f=>match f with
 | 270=>some (.pure ctNm)
 | _=>none
theorem Γix_ok:CtxOk Tryz.prog (GlT mx pb) Γix:=by
 intro f h hh
 simp only[Γix] at hh
 split at hh<;>simp at hh<;>subst hh
 ·exact pName_ok
noncomputable def Γpva (mx:Int) (pb:Bool):Ctx:=fun f=>match f with
 | 249=>some (.gen (inlW true Γix Tryz.T (GlT mx pb) Tryz.f249 cIdx))
 | 282=>some (.pure ctIns)
 | _=>none
theorem Γpva_ok:CtxOk Tryz.prog (GlT mx pb) (Γpva mx pb):=by
 intro f h hh
 simp only[Γpva] at hh
 split at hh<;>simp at hh<;>subst hh
 ·exact soundT_inlW Γix_ok Tryz.T_ok Tryz.mixed Tryz.func249 rfl (by kernel_rfl)
 ·exact pInside_ok
set_option maxHeartbeats 4000000 in
theorem pValid_ok:Sound Tryz.prog (GlT mx pb) 271 ctPV:=by
 refine sound_by (cc:=true) Γpva_ok Tryz.T_ok Tryz.mixed Tryz.func271 rfl (by kernel_rfl) (fun _=>rfl) (fun _ _=>by show 1≤69;decide) ?_
 intro (p:Pr) (hp:p.spans.length≤1000000000)
 repeat' (first|refine gw ?_|(first|refine br ?_ ?_|refine brF ?_ ?_)<;>intro q_<;>try simp only[nz] at q_)
 ·exact EntR.bool (validP_f fun h=>by have h1:=h.1;rw[names_len (.inr (by omega))] at h1;exact Bool.noConfusion h1)
 ·refine ⟨0,Nat,fun k=>⟨[(4,.mp 1),(18,slD 1 strD p.names),(19,.v (.int .i64 p.names.length)),(20,.v (.int .i64 k))],[.cells 38 [slD 1 strD p.names,spsD p.spans],.map 9 3 .s (mpN p.names k)],[]⟩,fun k=>k≤p.names.length∧∀ j,j<k→nmOk p.names j=true,fun k=>p.names.length - k,fun _=>(by show 1≤2;decide),⟨0,⟨Nat.zero_le _,fun j hj=>by omega⟩,StLe.m1 tmS ⟨⟨rfl,EntL.refl _,rfl⟩,⟨rfl,rfl,rfl,fun _=>trivial⟩,trivial⟩⟩,?_⟩
  rintro k ⟨hk,hd⟩
  by_cases hlt:k<p.names.length
  ·by_cases hdup:∃ j,j<k∧p.names.getD j default=p.names.getD k default
   ·obtain ⟨i,hi⟩:=mpN_some hdup
    obtain ⟨j,hj,hje⟩:=hdup
    have hno:¬prOk p:=fun h=>by have:=names_no hlt (nmOk_2 hj hje);rw[h.1] at this;exact Bool.noConfusion this
    repeat' (first|refine gw ?_|(first|refine br ?_ ?_|refine brF ?_ ?_)<;>intro q_<;>try simp only[nz] at q_)
    refine ⟨fun d hdd=>?_,fun hnn=>absurd (hi.symm.trans hnn) (by simp)⟩
    obtain rfl:d=.v (.int .i64 i):=Option.some.inj (hdd.symm.trans hi)
    repeat' (first|refine gw ?_|(first|refine br ?_ ?_|refine brF ?_ ?_)<;>intro q_<;>try simp only[nz] at q_)
    all_goals exact EntR.bool (validP_f hno)
   ·have hno:∀ j,j<k→¬p.names.getD j default=p.names.getD k default:=fun j hj e=>hdup ⟨j,hj,e⟩
    have hi:=mpN_none hno
    repeat' (first|refine gw ?_|(first|refine br ?_ ?_|refine brF ?_ ?_)<;>intro q_<;>try simp only[nz] at q_)
    refine ⟨fun d hdd=>absurd (hi.symm.trans hdd) (by simp),fun _=>?_⟩
    repeat' (first|refine gw ?_|(first|refine br ?_ ?_|refine brF ?_ ?_)<;>intro q_<;>try simp only[nz] at q_)
    ·exact EntR.bool (validP_f fun h=>by have:=names_no hlt (nmOk_1 q_);rw[h.1] at this;exact Bool.noConfusion this)
    ·exact ⟨k+1,⟨by omega,next_of hd (nmOk_t q_ hno)⟩,(by show _ - (k+1)<_ - k;omega),StLe.m1 tmS ⟨⟨rfl,EntL.refl _,rfl⟩,⟨rfl,rfl,rfl,fun key=>by
      show OptRen [0,1] (if key=.s (p.names.getD k default) then some (D.v (.int .i64 k)) else mpN p.names k key) (if key=.s (p.names.getD k default) then some (D.v (.int .i64 k)) else mpN p.names k key)
      exact optRen_self (mpN_pd p.names (k+1) key)⟩,trivial⟩⟩
  ·have hn:namesB p.names=true:=names_yes (by omega) (by omega) (fun i hi=>hd i (by omega))
   repeat' (first|refine gw ?_|(first|refine br ?_ ?_|refine brF ?_ ?_)<;>intro q_<;>try simp only[nz] at q_)
   refine ⟨0,Nat,fun k=>⟨[(1,.own 0 0),(17,spsD p.spans),(18,.v (.int .i64 p.spans.length)),(19,.v (.int .i64 k))],[.cells 38 [slD 1 strD p.names,spsD p.spans]],[]⟩,fun k=>k≤p.spans.length∧∀ i,i<k→spOk p i,fun k=>p.spans.length - k,fun _=>Nat.zero_le _,⟨0,⟨Nat.zero_le _,fun j hj=>by omega⟩,StLe.ren [0] tmS ⟨⟨rfl,EntL.refl _,rfl⟩,trivial⟩ (by decide)⟩,?_⟩
   rintro k ⟨hk,hd⟩
   by_cases hlt:k<p.spans.length
   ·have ek:((k:Int) - 1).toNat=k - 1:=by omega
    have no:¬spOk p k→false=validP p:=fun h=>validP_f fun hh=>h (hh.2 k hlt)
    have insT:insB (p.spans.getD k default)=true→0≤(p.spans.getD k default).lo∧(p.spans.getD k default).lo≤(p.spans.getD k default).hi∧(p.spans.getD k default).hi≤1114111:=of_decide_eq_true
    have insF:insB (p.spans.getD k default)=false→¬(0≤(p.spans.getD k default).lo∧(p.spans.getD k default).lo≤(p.spans.getD k default).hi∧(p.spans.getD k default).hi≤1114111):=of_decide_eq_false
    rcases Bool.eq_false_or_eq_true (insB (p.spans.getD k default)) with hin|hin
    ·have hin':=insT hin
     rcases Nat.eq_zero_or_pos k with h0|h0
     ·repeat' (first|refine gw ?_|(first|refine br ?_ ?_|refine brF ?_ ?_)<;>intro q_<;>try simp only[nz] at q_)
      all_goals first
       | exact EntR.bool (no fun h=>by have h1:=h.1;unfold spIn at h1;omega)
       | exact ⟨k+1,⟨by omega,next_of hd ⟨⟨by omega,by omega,by omega,by omega,by omega⟩,fun h=>by omega⟩⟩,(by show _ - (k+1)<_ - k;omega),StLe.ren [0] tmS ⟨⟨rfl,EntL.refl _,rfl⟩,trivial⟩ (by decide)⟩
     ·have hb0:=hd (k - 1) (by omega)
      have hb:=hb0.1
      unfold spIn at hb
      have hb2:(p.spans.getD ((k:Int) - 1).toNat default).hi≤1114111:=by rw[ek];omega
      have hb3:0≤(p.spans.getD ((k:Int) - 1).toNat default).hi:=by rw[ek];omega
      repeat' (first|refine gw ?_|(first|refine br ?_ ?_|refine brF ?_ ?_)<;>intro q_<;>try simp only[nz] at q_)
      all_goals try rw[ek] at *
      all_goals first
       | exact EntR.bool (no fun h=>by have h1:=h.1;have h2:=h.2 h0;unfold spIn at h1;unfold spAft at h2;omega)
       | exact ⟨k+1,⟨by omega,next_of hd ⟨⟨by omega,by omega,by omega,by omega,by omega⟩,fun _=>⟨by omega,by omega⟩⟩⟩,(by show _ - (k+1)<_ - k;omega),StLe.ren [0] tmS ⟨⟨rfl,EntL.refl _,rfl⟩,trivial⟩ (by decide)⟩
    ·have hin':=insF hin
     repeat' (first|refine gw ?_|(first|refine br ?_ ?_|refine brF ?_ ?_)<;>intro q_<;>try simp only[nz] at q_)
     all_goals exact EntR.bool (no fun h=>by have h1:=h.1;unfold spIn at h1;omega)
   ·repeat' (first|refine gw ?_|(first|refine br ?_ ?_|refine brF ?_ ?_)<;>intro q_<;>try simp only[nz] at q_)
    exact EntR.bool (validP_t ⟨hn,fun i hi=>hd i (by omega)⟩)
 ·exact EntR.bool (validP_f fun h=>by have h1:=h.1;rw[names_len (.inl (by omega))] at h1;exact Bool.noConfusion h1)
end Go.Proofs
namespace Go.Proofs
open Go Go.Sx
variable {mx:Int}{pb:Bool}
def otherB:ByteArray:=⟨#[79,116,104,101,114]⟩
noncomputable def cntP (p:Pr):Pr:=if validP p=true then p else ⟨[otherB],[]⟩
noncomputable def ctCnt:Ct:={ ι:=Pr,inp:=fun p=>[prA p],out:=fun p=>prA (cntP p),pre:=fun p=>p.spans.length≤1000000000 }
theorem cntP_t {p:Pr}(h:validP p=true):cntP p=p:=if_pos h
theorem cntP_f {p:Pr}(h:validP p=false):cntP p=⟨[otherB],[]⟩:=if_neg (by rw[h];decide)
noncomputable def Γcnt:Ctx:=fun f=>match f with
 | 271=>some (.pure ctPV)
 | 107=>some (.pure ctPV)
 | _=>none
theorem Γcnt_ok:CtxOk Tryz.prog (GlT mx pb) Γcnt:=by
 intro f h hh
 simp only[Γcnt] at hh
 split at hh<;>simp at hh<;>subst hh
 ·exact pValid_ok
 ·exact rPValid_ok
set_option maxHeartbeats 1000000 in
theorem pCnt_ok:Sound Tryz.prog (GlT mx pb) 250 ctCnt:=by
 refine sound_by (cc:=true) Γcnt_ok Tryz.T_ok Tryz.mixed Tryz.func250 rfl (by kernel_rfl) (fun _=>rfl) (fun _ _=>by show 1≤8;decide) ?_
 intro (p:Pr) (hp:p.spans.length≤1000000000)
 have p1:ctPV.pre p:=hp
 repeat' (first|refine gw ?_|(first|refine br ?_ ?_|refine brF ?_ ?_)<;>intro q_<;>try simp only[nz] at q_)
 ·exact entR_eq (show prA p=prA (cntP p) by rw[cntP_t q_]) rfl
 ·refine EntR.of rfl ?_
  show Ent _ (prA (cntP p))
  rw[cntP_f q_]
  exact Ent.ag (EntL.cons (ent_sl1 (lt1 (Ent.refl _))) (EntL.cons Ent.nil (EntL.refl _)))
set_option maxHeartbeats 1000000 in
theorem rCnt_ok:Sound Tryz.prog (GlT mx pb) 65 ctCnt:=by
 refine sound_by (cc:=true) Γcnt_ok Tryz.T_ok Tryz.mixed Tryz.func65 rfl (by kernel_rfl) (fun _=>rfl) (fun _ _=>by show 1≤9;decide) ?_
 intro (p:Pr) (hp:p.spans.length≤1000000000)
 have p1:ctPV.pre p:=hp
 repeat' (first|refine gw ?_|(first|refine br ?_ ?_|refine brF ?_ ?_)<;>intro q_<;>try simp only[nz] at q_)
 ·refine EntR.of rfl ?_
  show Ent _ (prA (cntP p))
  rw[cntP_f q_]
  exact Ent.ag (EntL.cons (ent_sl1 (lt1 (Ent.refl _))) (EntL.cons Ent.nil (EntL.refl _)))
 ·exact entR_eq (show prA p=prA (cntP p) by rw[cntP_t q_]) rfl
theorem cntP_len (p:Pr):(cntP p).spans.length≤p.spans.length:=by
 unfold cntP
 split
 ·exact Nat.le_refl _
 ·exact Nat.zero_le _
def valL (l:List Sp) (c:Int):Int:=match l.find? (fun s=>decide (s.lo≤c∧c≤s.hi)) with|some s=>s.val|none=>0
theorem valL_at:∀ {l:List Sp}{c:Int}{k:Nat},k<l.length→(∀ j,j<k→¬((l.getD j default).lo≤c∧c≤(l.getD j default).hi))→(l.getD k default).lo≤c∧c≤(l.getD k default).hi→valL l c=(l.getD k default).val
 | [],_,k,h,_,_=>by simp at h
 | s::l,c,0,_,_,h=>by
  have h:s.lo≤c∧c≤s.hi:=h
  unfold valL
  rw[List.find?_cons,decide_eq_true h]
  rfl
 | s::l,c,k+1,hk,hn,h=>by
  have h0:¬(s.lo≤c∧c≤s.hi):=hn 0 (by omega)
  have ih:=valL_at (l:=l) (c:=c) (k:=k) (by simpa using hk) (fun j hj=>hn (j+1) (by omega)) h
  unfold valL at ih ⊢
  rw[List.find?_cons,decide_eq_false h0]
  exact ih
theorem valL_no:∀ {l:List Sp}{c:Int},(∀ j,j<l.length→¬((l.getD j default).lo≤c∧c≤(l.getD j default).hi))→valL l c=0
 | [],_,_=>rfl
 | s::l,c,hn=>by
  have h0:¬(s.lo≤c∧c≤s.hi):=hn 0 (by simp)
  have ih:=valL_no (l:=l) (c:=c) (fun j hj=>hn (j+1) (by simpa using hj))
  unfold valL at ih ⊢
  rw[List.find?_cons,decide_eq_false h0]
  exact ih
noncomputable def getV (p:Pr) (c:Int):Int:=valL (cntP p).spans c
noncomputable def ctGet:Ct:={ ι:=Pr × Int,inp:=fun x=>[prA x.1,.v (.int .i64 x.2)],out:=fun x=>.v (.int .i64 (getV x.1 x.2)),pre:=fun x=>x.1.spans.length≤1000000000 }
end Go.Proofs
namespace Go.Proofs
open Go Go.Sx
variable {mx:Int}{pb:Bool}
theorem cnt_ok2 (p:Pr):∀ i,i<(cntP p).spans.length→spOk (cntP p) i:=by
 intro i hi
 rcases Bool.eq_false_or_eq_true (validP p) with h|h
 ·have hp:prOk p := @of_decide_eq_true _ (Classical.propDecidable _) h
  rw[cntP_t h] at hi ⊢
  exact hp.2 i hi
 ·rw[cntP_f h] at hi
  simp at hi
theorem asc_of {p:Pr}(h:∀ i,i<p.spans.length→spOk p i):∀ {d x:Nat},x+d+1<p.spans.length→(p.spans.getD x default).hi<(p.spans.getD (x+d+1) default).lo∧(p.spans.getD x default).hi≤(p.spans.getD (x+d+1) default).hi
 | 0,x,hx=>by
  have h1:=(h (x+1) hx).2 (by omega)
  have h2:=(h (x+1) hx).1
  unfold spAft at h1
  unfold spIn at h2
  simp only[Nat.add_sub_cancel] at h1
  simp only[Nat.add_zero]
  omega
 | d+1,x,hx=>by
  have ih:=asc_of h (d:=d) (x:=x) (by omega)
  have h1:=(h (x+(d+1)+1) hx).2 (by omega)
  have h2:=(h (x+(d+1)+1) hx).1
  unfold spAft at h1
  unfold spIn at h2
  simp only[Nat.add_sub_cancel] at h1
  rw[show x+d+1=x+(d+1) from by omega] at ih
  omega
theorem asc_lt {p:Pr}(h:∀ i,i<p.spans.length→spOk p i) {x y:Nat}(hxy:x<y) (hy:y<p.spans.length):(p.spans.getD x default).hi<(p.spans.getD y default).lo∧(p.spans.getD x default).hi≤(p.spans.getD y default).hi:=by
 have:=asc_of h (d:=y - x - 1) (x:=x) (by omega)
 rw[show x+(y - x - 1)+1=y from by omega] at this
 exact this
theorem StLe.m3 {tm tm':List (Nat × D)}{ow ow':List Own}(h1:renT [0,1,2] tm tm') (h2:renO [0,1,2] ow [0,1,2] ow'):StLe 3 ⟨tm,ow,[]⟩ ⟨tm',ow',[]⟩ :=
 StLe.renm [0,1,2] h1 h2 (by decide) (by decide) (by simp)
theorem wrap_id64 {n:Int}(h0:0≤n) (h1:n<9223372036854775808):IntKind.i64.wrap n=n∧IntKind.u64.wrap n=n:=by
 have e1:n % (2 ^ 64:Int)=n:=Int.emod_eq_of_lt h0 (by omega)
 constructor
 ·show (if (true&&decide (n % (2 ^ 64:Int)≥(2 ^ 63:Int)))=true then n % (2 ^ 64:Int) - (2 ^ 64:Int) else n % (2 ^ 64:Int))=n
  rw[e1,if_neg (by simp;omega)]
 ·show (if (false&&decide (n % (2 ^ 64:Int)≥(2 ^ 63:Int)))=true then n % (2 ^ 64:Int) - (2 ^ 64:Int) else n % (2 ^ 64:Int))=n
  rw[e1]
  rfl
theorem half_eq {i j:Nat}(h:i+j≤4000000000):IntKind.i64.wrap ((IntKind.u64.wrap ((i:Int)+(j:Int))).fdiv (2 ^ min (Int.toNat 1) IntKind.u64.bits))=(((i+j) / 2:Nat):Int):=by
 rw[(wrap_id64 (n:=(i:Int)+j) (by omega) (by omega)).2,show ((2:Int) ^ min (Int.toNat 1) IntKind.u64.bits)=2 from rfl,Int.fdiv_eq_ediv_of_nonneg _ (by decide),(wrap_id64 (n:=((i:Int)+j) / 2) (by omega) (by omega)).1]
 omega
noncomputable def Γg1 (mx:Int) (pb:Bool):Ctx:=fun f=>match f with
 | _=>none
theorem Γg1_ok:CtxOk Tryz.prog (GlT mx pb) (Γg1 mx pb):=by
 intro f h hh
 simp only[Γg1] at hh
 exact absurd hh (by simp)
noncomputable def Γpg (mx:Int) (pb:Bool):Ctx:=fun f=>match f with
 | 250=>some (.pure ctCnt)
 | _=>none
theorem Γpg_ok:CtxOk Tryz.prog (GlT mx pb) (Γpg mx pb):=by
 intro f h hh
 simp only[Γpg] at hh
 split at hh<;>simp at hh<;>subst hh
 ·exact pCnt_ok
end Go.Proofs
namespace Go.Proofs
open Go Go.Sx
variable {mx:Int}{pb:Bool}
theorem valL_in {n:Nat}(hn:1≤n):∀ {l:List Sp},(∀ s∈l,spIn n s)→∀ c,0≤valL l c∧valL l c<n:=by
 intro l h c
 unfold valL
 split
 ·rename_i s hs
  have:=h s (List.mem_of_find?_eq_some hs)
  unfold spIn at this
  omega
 ·omega
theorem cnt_names (p:Pr):1≤(cntP p).names.length:=by
 rcases Bool.eq_false_or_eq_true (validP p) with h|h
 ·have hp:prOk p := @of_decide_eq_true _ (Classical.propDecidable _) h
  rw[cntP_t h]
  have h1:=hp.1
  simp only[namesB,Bool.and_eq_true,decide_eq_true_eq] at h1
  exact h1.1.1
 ·rw[cntP_f h];decide
theorem getV_in (p:Pr) (c:Int):0≤getV p c∧getV p c<(cntP p).names.length:=by
 refine valL_in (cnt_names p) (fun s hs=>?_) c
 obtain ⟨i,hi,rfl⟩:=List.getElem_of_mem hs
 have h:=(cnt_ok2 p i hi).1
 have e:(cntP p).spans.getD i default=(cntP p).spans[i]:=by simp[List.getD_eq_getElem?_getD,hi]
 rw[e] at h
 exact h
noncomputable def nameV (p:Pr) (c:Int):ByteArray:=(cntP p).names.getD (getV p c).toNat default
noncomputable def ctPName:Ct:={ ι:=Pr × Int,inp:=fun x=>[prA x.1,.v (.int .i64 x.2)],out:=fun x=>.v (.string (nameV x.1 x.2)),pre:=fun x=>x.1.spans.length≤1000000000 }
noncomputable def Γnv:Ctx:=fun f=>match f with
 | 250=>some (.pure ctCnt)
 | _=>none
theorem Γnv_ok:CtxOk Tryz.prog (GlT mx pb) Γnv:=by
 intro f h hh
 simp only[Γnv] at hh
 split at hh<;>simp at hh<;>subst hh
 ·exact pCnt_ok
def fndI (l:List ByteArray) (n:ByteArray):Option Nat:=(List.range l.length).find? fun i=>eqB (l.getD i default) n
def fndV (l:List ByteArray) (n:ByteArray):Int:=match fndI l n with|some i=>i|none=>0
def fndB (l:List ByteArray) (n:ByteArray):Bool:=(fndI l n).isSome
theorem fnd_at {l:List ByteArray}{n:ByteArray}{k:Nat}(hk:k<l.length) (hn:∀ j,j<k→¬l.getD j default=n) (h:l.getD k default=n):fndI l n=some k:=by
 unfold fndI
 rw[List.find?_range_eq_some]
 refine ⟨eqB_iff.2 h,List.mem_range.2 hk,fun j hj=>?_⟩
 rw[show eqB (l.getD j default) n=false from by rw[← Bool.not_eq_true,eqB_iff];exact hn j hj]
 rfl
theorem fnd_no {l:List ByteArray}{n:ByteArray}(hn:∀ j,j<l.length→¬l.getD j default=n):fndI l n=none:=by
 unfold fndI
 rw[List.find?_eq_none]
 intro j hj
 rw[eqB_iff]
 exact hn j (List.mem_range.1 hj)
noncomputable def ctFnd:Ct:={ ι:=Pr × ByteArray,inp:=fun x=>[prA x.1,.v (.string x.2)],out:=fun x=>.tu [.v (.int .i64 (fndV (cntP x.1).names x.2)),.v (.bool (fndB (cntP x.1).names x.2))],pre:=fun x=>x.1.spans.length≤1000000000 }
theorem cnt_len250 (p:Pr):(cntP p).names.length≤250:=by
 rcases Bool.eq_false_or_eq_true (validP p) with h|h
 ·have hp:prOk p := @of_decide_eq_true _ (Classical.propDecidable _) h
  rw[cntP_t h]
  have h1:=hp.1
  simp only[namesB,Bool.and_eq_true,decide_eq_true_eq] at h1
  exact h1.1.2
 ·rw[cntP_f h];decide
noncomputable def Γrfn:Ctx:=fun f=>match f with
 | 65=>some (.pure ctCnt)
 | _=>none
theorem Γrfn_ok:CtxOk Tryz.prog (GlT mx pb) Γrfn:=by
 intro f h hh
 simp only[Γrfn] at hh
 split at hh<;>simp at hh<;>subst hh
 ·exact rCnt_ok
set_option maxHeartbeats 4000000 in
theorem rFind_ok:Sound Tryz.prog (GlT mx pb) 287 ctFnd:=by
 refine sound_by (cc:=true) Γrfn_ok Tryz.T_ok Tryz.mixed Tryz.func287 rfl (by kernel_rfl) (fun _=>rfl) (fun _ _=>by show 2≤25;decide) ?_
 rintro ⟨p,nm⟩ hp
 have p1:ctCnt.pre p:=hp
 have hl:=cnt_len250 p
 repeat' (first|refine gw ?_|(first|refine br ?_ ?_|refine brF ?_ ?_)<;>intro q_<;>try simp only[nz] at q_)
 refine ⟨0,Nat,fun k=>⟨[(1,.v (.string nm)),(6,.own 1 0),(7,.v (.int .i64 k))],[.cells 38 [slD 1 strD p.names,spsD p.spans],.cells 38 [slD 1 strD (cntP p).names,spsD (cntP p).spans]],[]⟩,fun k=>k≤(cntP p).names.length∧∀ j,j<k→¬(cntP p).names.getD j default=nm,fun k=>(cntP p).names.length - k,fun _=>Nat.zero_le _,⟨0,⟨Nat.zero_le _,fun j hj=>by omega⟩,StLe.ren [0,1] tmS ⟨⟨rfl,EntL.refl _,rfl⟩,⟨rfl,EntL.refl _,rfl⟩,trivial⟩ (by decide)⟩,?_⟩
 rintro k ⟨hk,hd⟩
 by_cases hlt:k<(cntP p).names.length
 ·repeat' (first|refine gw ?_|(first|refine br ?_ ?_|refine brF ?_ ?_)<;>intro q_<;>try simp only[nz] at q_)
  ·have e:=fnd_at hlt hd q_
   exact entR_eq (d':=ctFnd.out (p,nm)) (by show D.tu [.v (.int .i64 k),.v (.bool true)]=D.tu [.v (.int .i64 (fndV (cntP p).names nm)),.v (.bool (fndB (cntP p).names nm))];rw[fndV,fndB,e];rfl) rfl
  ·exact ⟨k+1,⟨by omega,next_of hd q_⟩,(by show _ - (k+1)<_ - k;omega),StLe.ren [0,1] tmS ⟨⟨rfl,EntL.refl _,rfl⟩,⟨rfl,EntL.refl _,rfl⟩,trivial⟩ (by decide)⟩
 ·have e:=fnd_no (l:=(cntP p).names) (n:=nm) (fun j hj=>hd j (by omega))
  repeat' (first|refine gw ?_|(first|refine br ?_ ?_|refine brF ?_ ?_)<;>intro q_<;>try simp only[nz] at q_)
  exact entR_eq (d':=ctFnd.out (p,nm)) (by show D.tu [.v (.int .i64 0),.v (.bool false)]=D.tu [.v (.int .i64 (fndV (cntP p).names nm)),.v (.bool (fndB (cntP p).names nm))];rw[fndV,fndB,e];rfl) rfl
end Go.Proofs
namespace Go.Proofs
open Go Go.Sx
variable {mx:Int}{pb:Bool}
theorem nmOk_of {l:List ByteArray}(h:namesB l=true):∀ i,i<l.length→isNameB (l.getD i default)=true∧∀ j,j<i→¬l.getD j default=l.getD i default:=by
 intro i hi
 simp only[namesB,Bool.and_eq_true,List.all_eq_true] at h
 have h1:=h.2 i (List.mem_range.2 hi)
 simp only[nmOk,Bool.and_eq_true,List.all_eq_true] at h1
 refine ⟨h1.1,fun j hj e=>?_⟩
 have:=h1.2 j (List.mem_range.2 hj)
 rw[eqB_iff.2 e] at this
 exact absurd this (by decide)
theorem cnt_namesB (p:Pr):namesB (cntP p).names=true:=by
 rcases Bool.eq_false_or_eq_true (validP p) with h|h
 ·have hp:prOk p := @of_decide_eq_true _ (Classical.propDecidable _) h
  rw[cntP_t h]
  exact hp.1
 ·rw[cntP_f h];decide
theorem mpN_at {l:List ByteArray}{b:ByteArray}{i:Nat}(hi:l.getD i default=b):∀ {k:Nat},i<k→(∀ j,j<k→j≠i→¬l.getD j default=b)→mpN l k (.s b)=some (.v (.int .i64 i))
 | 0,h,_=>by omega
 | k+1,h,hn=>by
  show (if KV.s b=.s (l.getD k default) then some (D.v (.int .i64 k)) else mpN l k (.s b))=_
  by_cases hk:k=i
  ·subst hk
   rw[if_pos (by rw[hi])]
  ·rw[if_neg (fun e=>hn k (by omega) hk (by cases e;rfl))]
   exact mpN_at hi (by omega) fun j hj hji=>hn j (by omega) hji
noncomputable def Γpfn (mx:Int) (pb:Bool):Ctx:=fun f=>match f with
 | 250=>some (.pure ctCnt)
 | 249=>some (.gen (inlW true Γix Tryz.T (GlT mx pb) Tryz.f249 cIdx))
 | _=>none
theorem Γpfn_ok:CtxOk Tryz.prog (GlT mx pb) (Γpfn mx pb):=by
 intro f h hh
 simp only[Γpfn] at hh
 split at hh<;>simp at hh<;>subst hh
 ·exact pCnt_ok
 ·exact soundT_inlW Γix_ok Tryz.T_ok Tryz.mixed Tryz.func249 rfl (by kernel_rfl)
set_option maxHeartbeats 4000000 in
theorem pFind_ok:Sound Tryz.prog (GlT mx pb) 204 ctFnd:=by
 refine sound_by (cc:=true) Γpfn_ok Tryz.T_ok Tryz.mixed Tryz.func204 rfl (by kernel_rfl) (fun _=>rfl) (fun _ _=>by show 2≤25;decide) ?_
 rintro ⟨p,nm⟩ hp
 have p1:ctCnt.pre p:=hp
 have hl:=cnt_len250 p
 have hl1:=cnt_names p
 have hB:=nmOk_of (cnt_namesB p)
 have hz:¬((cntP p).names.length:Int)=0:=by omega
 repeat' (first|refine gw ?_|(first|refine br ?_ ?_|refine brF ?_ ?_)<;>intro q_<;>try simp only[nz] at q_)
 ·exfalso;omega
 refine ⟨0,Nat,fun k=>⟨[(4,.mp 1),(18,slD 1 strD (cntP p).names),(19,.v (.int .i64 (cntP p).names.length)),(20,.v (.int .i64 k))],[.cells 38 [slD 1 strD p.names,spsD p.spans],.map 9 3 .s (mpN (cntP p).names k)],[]⟩,fun k=>k≤(cntP p).names.length,fun k=>(cntP p).names.length - k,fun _=>(by show 1≤2;decide),⟨0,Nat.zero_le _,StLe.m1 tmS ⟨⟨rfl,EntL.refl _,rfl⟩,⟨rfl,rfl,rfl,fun _=>trivial⟩,trivial⟩⟩,?_⟩
 intro k (hk:k≤(cntP p).names.length)
 by_cases hlt:k<(cntP p).names.length
 ·have hb:=hB k hlt
  have hi:=mpN_none hb.2
  have hb1:=hb.1
  repeat' (first|refine gw ?_|(first|refine br ?_ ?_|refine brF ?_ ?_)<;>intro q_<;>try simp only[nz] at q_)
  refine ⟨fun d hdd=>absurd (hi.symm.trans hdd) (by simp),fun _=>?_⟩
  repeat' (first|refine gw ?_|(first|refine br ?_ ?_|refine brF ?_ ?_)<;>intro q_<;>try simp only[nz] at q_)
  exact ⟨k+1,(by show k+1≤_;omega),(by show _ - (k+1)<_ - k;omega),StLe.m1 tmS ⟨⟨rfl,EntL.refl _,rfl⟩,⟨rfl,rfl,rfl,fun key=>by
   show OptRen [0,1] (if key=.s ((cntP p).names.getD k default) then some (D.v (.int .i64 k)) else mpN (cntP p).names k key) (if key=.s ((cntP p).names.getD k default) then some (D.v (.int .i64 k)) else mpN (cntP p).names k key)
   exact optRen_self (mpN_pd (cntP p).names (k+1) key)⟩,trivial⟩⟩
 ·have hke:k=(cntP p).names.length:=by omega
  repeat' (first|refine gw ?_|(first|refine br ?_ ?_|refine brF ?_ ?_)<;>intro q_<;>try simp only[nz] at q_)
  refine ⟨fun d hdd=>?_,fun hnn=>?_⟩
  ·have hex:∃ i,i<(cntP p).names.length∧(cntP p).names.getD i default=nm:=by
    by_cases h:∃ i,i<(cntP p).names.length∧(cntP p).names.getD i default=nm
    ·exact h
    ·have:=mpN_none (l:=(cntP p).names) (b:=nm) (k:=k) (fun j hj e=>h ⟨j,by omega,e⟩)
     exact absurd (this.symm.trans hdd) (by simp)
   obtain ⟨i,hi,hie⟩:=hex
   have huni:∀ j,j<(cntP p).names.length→j≠i→¬(cntP p).names.getD j default=nm:=fun j hj hji e=>by
    rcases Nat.lt_or_ge j i with h1|h1
    ·exact (hB i hi).2 j h1 (e.trans hie.symm)
    ·exact (hB j hj).2 i (by omega) (hie.trans e.symm)
   have e1:=mpN_at hie (k:=k) (by omega) (fun j hj hji=>huni j (by omega) hji)
   obtain rfl:d=.v (.int .i64 i):=Option.some.inj (hdd.symm.trans e1)
   have e:=fnd_at hi (fun j hj=>huni j (by omega) (by omega)) hie
   repeat' (first|refine gw ?_|(first|refine br ?_ ?_|refine brF ?_ ?_)<;>intro q_<;>try simp only[nz] at q_)
   exact entR_eq (d':=ctFnd.out (p,nm)) (by show D.tu [.v (.int .i64 i),.v (.bool true)]=D.tu [.v (.int .i64 (fndV (cntP p).names nm)),.v (.bool (fndB (cntP p).names nm))];rw[fndV,fndB,e];rfl) rfl
  ·have e:=fnd_no (l:=(cntP p).names) (n:=nm) (fun j hj ee=>by
    obtain ⟨i,hi⟩:=mpN_some (l:=(cntP p).names) (b:=nm) (k:=k) ⟨j,by omega,ee⟩
    exact absurd (hi.symm.trans hnn) (by simp))
   repeat' (first|refine gw ?_|(first|refine br ?_ ?_|refine brF ?_ ?_)<;>intro q_<;>try simp only[nz] at q_)
   exact entR_eq (d':=ctFnd.out (p,nm)) (by show D.tu [.v (.int .i64 0),.v (.bool false)]=D.tu [.v (.int .i64 (fndV (cntP p).names nm)),.v (.bool (fndB (cntP p).names nm))];rw[fndV,fndB,e];rfl) rfl
end Go.Proofs
