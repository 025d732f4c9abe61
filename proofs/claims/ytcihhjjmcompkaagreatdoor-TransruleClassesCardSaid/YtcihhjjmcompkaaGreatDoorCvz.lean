import Derived.Test.YtcihhjjmcompkaaGreatDoorC2
import Derived.Test.YtcihhjjmcompkaaGreatDoorSoz
import Derived.Test.YtcihhjjmcompkaaGreatDoorP1
import Derived.Test.YtcihhjjmcompkaaGreatDoorGc
set_option linter.unusedVariables false
set_option linter.unusedSimpArgs false
namespace Go.Proofs
open Go Go.Sx
variable {mx:Int}{pb:Bool}
set_option maxHeartbeats 1000000 in
theorem cpHas_ok:Sound Tryz.prog (GlT mx pb) 46 ctHas:=by
 refine sound_by (cc:=false) Γrv_ok Tryz.T_ok Tryz.mixed Tryz.func46 rfl (by kernel_rfl) (fun _=>rfl) (fun _ _=>by show 2≤28;decide) ?_
 intro ((l:List Rg),(c:Int)) (hl:l.length≤1000000)
 refine gA ?_
 refine ⟨c,EntL.refl _,trivial,?_⟩
 refine gA ?_
 refine And.intro (fun h=>?_) (fun h=>?_)
 ·have h:¬(0≤c∧c≤1114111):=fun hh=>by
   have h:(!validB c)=true:=h
   rw[validB_iff.2 hh] at h;cases h
  refine gA ?_
  refine EntR.bool ?_
  show false=hasB l c
  rw[eq_comm,← Bool.not_eq_true,hasB_iff]
  exact fun hh=>h hh.1
 ·have hc:0≤c∧c≤1114111:=validB_iff.1 (by
   have h:(!validB c)=false:=h
   simpa using h)
  refine gA ?_
  refine ⟨0,Nat,fun k=>⟨[(1,.v (.int .i64 c)),(11,rgsD l),(12,.v (.int .i64 l.length)),(13,.v (.int .i64 k))],[],[]⟩,fun k=>k≤l.length∧∀ j,j<k→¬((l.getD j default).1≤c∧c≤(l.getD j default).2),fun k=>l.length - k,fun _=>Nat.zero_le _,⟨0,⟨Nat.zero_le _,fun j hj=>by omega⟩,StLe.ren [] tmS trivial (by decide)⟩,?_⟩
  rintro k ⟨hk,hd⟩
  refine gA ?_
  refine And.intro (fun h=>?_) (fun h=>?_)
  ·have h:k<l.length:=by have:=of_decide_eq_true h;omega
   refine gA ?_
   refine And.intro (fun h1=>?_) (fun h1=>?_)
   ·have h1:(l.getD k default).1≤c∧c≤(l.getD k default).2:=bif_dec.1 h1
    refine gA ?_
    exact EntR.bool (has_at h hc h1).symm
   ·have h1:¬((l.getD k default).1≤c∧c≤(l.getD k default).2):=bif_no.1 h1
    refine gA ?_
    exact ⟨k+1,⟨by omega,next_at hd h1⟩,(show l.length - (k+1)<l.length - k by omega),StLe.ren [] tmS trivial (by decide)⟩
  ·have h:k=l.length:=by have:=of_decide_eq_false h;omega
   subst h
   refine gA ?_
   exact EntR.bool (has_no hd).symm
end Go.Proofs
namespace Go.Proofs
open Go Go.Sx
variable {mx:Int}{pb:Bool}
def ctSm2:Ct:={ ι:=List Rg,inp:=fun l=>[setD l],out:=fun l=>.v (.bool (decide ((l.length:Int)≤12))),pre:=fun _=>True }
theorem r2Small_ok:Sound Tryz.prog (GlT mx pb) 15 ctSm2:=by
 refine sound_by (cc:=true) Γ0_ok Tryz.T_ok Tryz.mixed Tryz.func15 rfl (by kernel_rfl) (fun _=>rfl) (fun _ _=>by show 1≤7;decide) ?_
 intro (l:List Rg) _
 repeat' (first|refine gl ?_|(first|refine br ?_ ?_|refine brF ?_ ?_)<;>intro q_<;>try simp only[nz] at q_)
 exact EntR.bool rfl
theorem canon_len12 {l:List Rg}(h:l.length≤12):(canon l).length≤1000:=by
 have:=canon_len l
 omega
def ctVs:Ct:={ ι:=List Rg,inp:=fun l=>[setD l],out:=fun l=>.v (.bool (decide (canon l=l))),pre:=fun l=>l.length≤12 }
noncomputable def Γvs:Ctx:=fun f=>match f with
 | 21=>some (.pure ctMakeR)
 | 20=>some (.pure ctSameS)
 | _=>none
theorem Γvs_ok:CtxOk Tryz.prog (GlT mx pb) Γvs:=by
 intro f h hh
 simp only[Γvs] at hh
 split at hh<;>simp at hh<;>subst hh
 ·exact r2Make_ok
 ·exact r2Same_ok
set_option maxHeartbeats 2000000 in
theorem rVs_ok:Sound Tryz.prog (GlT mx pb) 28 ctVs:=by
 refine sound_by (cc:=true) Γvs_ok Tryz.T_ok Tryz.mixed Tryz.func28 rfl (by kernel_rfl) (fun _=>rfl) (fun _ _=>by show 1≤8;decide) ?_
 intro (l:List Rg) (hl:l.length≤12)
 have p1:ctMakeR.pre l:=(by show l.length≤10000;omega)
 have hc:=canon_len12 hl
 have p2:ctSameS.pre (l,canon l):=⟨by show l.length≤1000000;omega,by show (canon l).length≤1000000;omega⟩
 repeat' (first|refine gl ?_|(first|refine br ?_ ?_|refine brF ?_ ?_)<;>intro q_<;>try simp only[nz] at q_)
 refine EntR.bool ?_
 by_cases h:canon l=l
 ·rw[decide_eq_true h,decide_eq_true h.symm]
 ·rw[decide_eq_false h,decide_eq_false (fun e=>h e.symm)]
noncomputable def Γvp (mx:Int) (pb:Bool):Ctx:=fun f=>match f with
 | 50=>some (.pure ctMake)
 | _=>none
theorem Γvp_ok:CtxOk Tryz.prog (GlT mx pb) (Γvp mx pb):=by
 intro f h hh
 simp only[Γvp] at hh
 split at hh<;>simp at hh<;>subst hh
 ·exact cpMake_ok
set_option maxHeartbeats 4000000 in
theorem pVs_ok:Sound Tryz.prog (GlT mx pb) 44 ctVs:=by
 refine sound_by (cc:=true) Γvp_ok Tryz.T_ok Tryz.mixed Tryz.func44 rfl (by kernel_rfl) (fun _=>rfl) (fun _ _=>by show 1≤32;decide) ?_
 intro (l:List Rg) (hl:l.length≤12)
 have p1:ctMake.pre l:=⟨by omega,.inl hl⟩
 have hc:=canon_len12 hl
 repeat' (first|refine gl ?_|(first|refine br ?_ ?_|refine brF ?_ ?_)<;>intro q_<;>try simp only[nz] at q_)
 ·exact EntR.bool (decide_eq_false fun e=>q_ (by rw[e])).symm
 have hle:(canon l).length=l.length:=by omega
 refine ⟨0,Nat,fun k=>⟨[(1,.own 0 0),(17,rgsD (canon l)),(18,.v (.int .i64 (canon l).length)),(19,.v (.int .i64 k))],[.cells 24 [rgsD l]],[]⟩,fun k=>k≤(canon l).length∧∀ j,j<k→(canon l).getD j default=l.getD j default,fun k=>(canon l).length - k,fun _=>Nat.zero_le _,⟨0,⟨Nat.zero_le _,fun j hj=>by omega⟩,StLe.ren [0] tmS ⟨⟨rfl,EntL.refl _,rfl⟩,trivial⟩ (by decide)⟩,?_⟩
 rintro k ⟨hk,hd⟩
 by_cases hlt:k<(canon l).length
 ·repeat' (first|refine gl ?_|(first|refine br ?_ ?_|refine brF ?_ ?_)<;>intro q_<;>try simp only[nz] at q_)
  ·refine EntR.bool (decide_eq_false fun e=>?_).symm
   rw[e] at q_
   simp at q_
  ·exact ⟨k+1,⟨by omega,next_of hd (Prod.ext q_.1 q_.2.1)⟩,(by show _ - (k+1)<_ - k;omega),StLe.ren [0] tmS ⟨⟨rfl,EntL.refl _,rfl⟩,trivial⟩ (by decide)⟩
 ·repeat' (first|refine gl ?_|(first|refine br ?_ ?_|refine brF ?_ ?_)<;>intro q_<;>try simp only[nz] at q_)
  exact EntR.bool (decide_eq_true (eq_of_getD hle fun j hj=>hd j (by omega))).symm
end Go.Proofs
namespace Go.Proofs
open Go Go.Sx
variable {mx:Int}{pb:Bool}
structure Tl where
 bef:List (List Rg)
 mat:List (List Rg)
 aft:List (List Rg)
 res:List Rg
instance:Inhabited Tl:=⟨⟨[],[],[],[]⟩⟩
def stD (l:List Rg):Nat→D
 | 0=>rgsD l
 | _=>.junk
def stsD (L:List (List Rg)):D:=slD 1 stD L
def tlD (x:Tl):Nat→D
 | 0=>stsD x.bef
 | 1=>stsD x.mat
 | 2=>stsD x.aft
 | 3=>rgsD x.res
 | _=>.junk
def tlA (x:Tl):D:=.ag [tlD x 0,tlD x 1,tlD x 2,tlD x 3]
def tlsD (l:List Tl):D:=slD 4 tlD l
def smS (L:List (List Rg)):Prop:=L.length≤10∧∀ i,i<L.length→(L.getD i default).length≤12
def smT (x:Tl):Prop:=smS x.bef∧smS x.mat∧smS x.aft∧x.res.length≤20
def smL (l:List Tl):Prop:=l.length≤6∧∀ i,i<l.length→smT (l.getD i default)
open Classical in
noncomputable def smSB (L:List (List Rg)):Bool:=decide (smS L)
theorem smSB_t {L:List (List Rg)}(h:smS L):true=smSB L:=(@decide_eq_true _ (Classical.propDecidable _) h).symm
theorem smSB_f {L:List (List Rg)}(h:¬smS L):false=smSB L:=(@decide_eq_false _ (Classical.propDecidable _) h).symm
theorem smSB_iff {L:List (List Rg)}:smSB L=true↔smS L:=by
 unfold smSB
 exact @decide_eq_true_iff _ (Classical.propDecidable _)
open Classical in
noncomputable def smLB (l:List Tl):Bool:=decide (smL l)
theorem smLB_t {l:List Tl}(h:smL l):true=smLB l:=(@decide_eq_true _ (Classical.propDecidable _) h).symm
theorem smLB_f {l:List Tl}(h:¬smL l):false=smLB l:=(@decide_eq_false _ (Classical.propDecidable _) h).symm
theorem smLB_iff {l:List Tl}:smLB l=true↔smL l:=by
 unfold smLB
 exact @decide_eq_true_iff _ (Classical.propDecidable _)
noncomputable def ctSmS:Ct:={ ι:=List (List Rg),inp:=fun L=>[stsD L],out:=fun L=>.v (.bool (smSB L)),pre:=fun _=>True }
noncomputable def ctSmL:Ct:={ ι:=List Tl,inp:=fun l=>[tlsD l],out:=fun l=>.v (.bool (smLB l)),pre:=fun _=>True }
def okS (s:List Rg):Prop:=canon s=s∧¬s.length=0
instance (s:List Rg):Decidable (okS s):=inferInstanceAs (Decidable (_∧_))
def rgtS (L:List (List Rg)):Prop:=∀ i,i<L.length→okS (L.getD i default)
open Classical in
noncomputable def rgtB (L:List (List Rg)):Bool:=decide (rgtS L)
theorem rgtB_t {L:List (List Rg)}(h:rgtS L):true=rgtB L:=(@decide_eq_true _ (Classical.propDecidable _) h).symm
theorem rgtB_f {L:List (List Rg)}(h:¬rgtS L):false=rgtB L:=(@decide_eq_false _ (Classical.propDecidable _) h).symm
theorem rgtB_iff {L:List (List Rg)}:rgtB L=true↔rgtS L:=by
 unfold rgtB
 exact @decide_eq_true_iff _ (Classical.propDecidable _)
theorem getD_mem' {α:Type} [Inhabited α] {l:List α}{i:Nat}(h:i<l.length):l.getD i default∈l:=by
 rw[List.getD_eq_getElem?_getD,List.getElem?_eq_getElem h]
 exact List.getElem_mem h
theorem rgtS_mem {L:List (List Rg)}:rgtS L↔∀ s∈L,okS s:=by
 constructor
 ·intro h s hs
  obtain ⟨i,hi,rfl⟩:=List.getElem_of_mem hs
  have:=h i hi
  rw[List.getD_eq_getElem?_getD,List.getElem?_eq_getElem hi] at this
  exact this
 ·intro h i hi
  exact h _ (getD_mem' hi)
theorem rgtS_app {A B:List (List Rg)}:rgtS (A++B)↔rgtS A∧rgtS B:=by
 rw[rgtS_mem,rgtS_mem,rgtS_mem]
 constructor
 ·intro h
  exact ⟨fun s hs=>h s (List.mem_append_left _ hs),fun s hs=>h s (List.mem_append_right _ hs)⟩
 ·rintro ⟨h,k⟩ s hs
  exact (List.mem_append.1 hs).elim (h s) (k s)
def szT (x:Tl):Prop:=1≤x.mat.length∧x.mat.length≤8∧x.bef.length≤8∧x.aft.length≤8∧x.res.length≤16
instance (x:Tl):Decidable (szT x):=inferInstanceAs (Decidable (_∧_))
def setT3 (x:Tl):Prop:=rgtS x.bef∧rgtS x.mat∧rgtS x.aft
def pcOk (n:Nat) (p:Rg):Prop:=(p.2=0∧validB p.1=true)∨(p.1=0∧1≤p.2∧p.2≤n)
instance (n:Nat) (p:Rg):Decidable (pcOk n p):=inferInstanceAs (Decidable (_∨_))
def pcsOk (x:Tl):Prop:=∀ i,i<x.res.length→pcOk x.mat.length (x.res.getD i default)
open Classical in
noncomputable def oneE (x:Tl):Int:=if szT x then (if setT3 x then (if pcsOk x then 0 else 1) else 11) else 2
theorem oneE_size {x:Tl}(h:¬szT x):oneE x=2:=if_neg h
theorem oneE_data {x:Tl}(h:szT x) (k:¬setT3 x):oneE x=11:=by rw[oneE,if_pos h,if_neg k]
theorem oneE_range {x:Tl}(h:szT x) (k:setT3 x) (p:¬pcsOk x):oneE x=1:=by rw[oneE,if_pos h,if_pos k,if_neg p]
theorem oneE_ok {x:Tl}(h:szT x) (k:setT3 x) (p:pcsOk x):oneE x=0:=by rw[oneE,if_pos h,if_pos k,if_pos p]
noncomputable def chkE:List Tl→Int
 | []=>0
 | x::l=>if oneE x=0 then chkE l else oneE x
theorem chkE_at:∀ {l:List Tl}{k:Nat},k<l.length→(∀ j,j<k→oneE (l.getD j default)=0)→¬oneE (l.getD k default)=0→chkE l=oneE (l.getD k default)
 | [],k,h,_,_=>by simp at h
 | x::l,0,_,_,h=>if_neg h
 | x::l,k+1,hk,hn,h=>by
  have h0:oneE x=0:=hn 0 (by omega)
  rw[chkE,if_pos h0]
  exact chkE_at (l:=l) (by simpa using hk) (fun j hj=>hn (j+1) (by omega)) h
theorem chkE_0:∀ {l:List Tl},(∀ j,j<l.length→oneE (l.getD j default)=0)→chkE l=0
 | [],_=>rfl
 | x::l,h=>by
  have h0:oneE x=0:=h 0 (by simp)
  rw[chkE,if_pos h0]
  exact chkE_0 (l:=l) fun j hj=>h (j+1) (by simpa using hj)
noncomputable def ctRgt:Ct:={ ι:=List (List Rg),inp:=fun L=>[stsD L],out:=fun L=>.v (.bool (rgtB L)),pre:=smS }
noncomputable def ctOneE:Ct:={ ι:=Tl,inp:=fun x=>[tlA x],out:=fun x=>.v (.int .i64 (oneE x)),pre:=smT }
noncomputable def ctChkE:Ct:={ ι:=List Tl,inp:=fun l=>[tlsD l],out:=fun l=>.v (.int .i64 (chkE l)),pre:=smL }
end Go.Proofs
