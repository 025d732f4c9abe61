import Derived.Test.YtcihhjjmcompkaaGreatDoorCvz
import Derived.Test.YtcihhjjmcompkaaGreatDoorGrz
set_option linter.unusedVariables false
set_option linter.unusedSimpArgs false
namespace Go.Proofs
open Go Go.Sx
variable {mx:Int}{pb:Bool}
def bgS (L:List (List Rg)):Prop:=L.length≤1000000∧∀ i,i<L.length→(L.getD i default).length≤500000
def bgT (x:Tl):Prop:=bgS x.bef∧bgS x.mat∧bgS x.aft∧x.res.length≤1000000
def bgL (l:List Tl):Prop:=l.length≤1000000∧∀ i,i<l.length→bgT (l.getD i default)
def ctVsB:Ct:={ ι:=List Rg,inp:=fun l=>[setD l],out:=fun l=>.v (.bool (decide (canon l=l))),pre:=fun l=>l.length≤500000 }
noncomputable def ctOneB:Ct:={ ι:=Tl,inp:=fun x=>[tlA x],out:=fun x=>.v (.int .i64 (oneE x)),pre:=bgT }
noncomputable def chkB (l:List Tl):Int:=if 200<l.length then 2 else chkE l
noncomputable def ctChkB:Ct:={ ι:=List Tl,inp:=fun l=>[tlsD l],out:=fun l=>.v (.int .i64 (chkB l)),pre:=bgL }
noncomputable def Γvpb (mx:Int) (pb:Bool):Ctx:=fun f=>match f with
 | 50=>some (.pure ctMake)
 | _=>none
theorem Γvpb_ok:CtxOk Tryz.prog (GlT mx pb) (Γvpb mx pb):=by
 intro f h hh
 simp only[Γvpb] at hh
 split at hh<;>simp at hh<;>subst hh
 ·exact cpMake_ok
set_option maxHeartbeats 4000000 in
theorem pVsB_ok:Sound Tryz.prog (GlT mx pb) 44 ctVsB:=by
 refine sound_by (cc:=true) Γvpb_ok Tryz.T_ok Tryz.mixed Tryz.func44 rfl (by kernel_rfl) (fun _=>rfl) (fun _ _=>by show 1≤32;decide) ?_
 intro (l:List Rg) (hl:l.length≤500000)
 have p1:ctMake.pre l:=⟨by omega,.inr (.inr trivial)⟩
 have hc:=canon_len l
 repeat' (first|refine gl ?_|(first|refine br ?_ ?_|refine brF ?_ ?_)<;>intro q_<;>try simp only[nz] at q_)
 ·exact EntR.bool (decide_eq_false fun e=>q_ (by rw[e])).symm
 have hle:(canon l).length=l.length:=by omega
 refine ⟨0,Nat,fun k=>⟨[(1,.own 0 0),(17,rgsD (canon l)),(18,.v (.int .i64 (canon l).length)),(19,.v (.int .i64 k))],[.cells 24 [rgsD l]],[]⟩,fun k=>k≤(canon l).length∧∀ j,j<k→(canon l).getD j default=l.getD j default,fun k=>(canon l).length - k,fun _=>Nat.zero_le _,⟨0,⟨Nat.zero_le _,fun j hj=>by omega⟩,StLe.ren [0] tmS ⟨⟨rfl,EntL.refl _,rfl⟩,trivial⟩ (by decide)⟩,?_⟩
 rintro k ⟨hk,hd⟩
 by_cases hlt:k<(canon l).length
 ·repeat' (first|refine gl ?_|(first|refine br ?_ ?_|refine brF ?_ ?_)<;>intro q_<;>try simp only[nz] at q_)
  ·refine EntR.bool (decide_eq_false fun e=>?_).symm
   rw[e] at q_
   simp at q_
  ·exact ⟨k+1,⟨by omega,next_of hd (Prod.ext q_.1 q_.2.1)⟩,(by show _ - (k+1)<_ - k;omega),StLe.ren [0] tmS ⟨⟨rfl,EntL.refl _,rfl⟩,trivial⟩ (by decide)⟩
 ·repeat' (first|refine gl ?_|(first|refine br ?_ ?_|refine brF ?_ ?_)<;>intro q_<;>try simp only[nz] at q_)
  exact EntR.bool (decide_eq_true (eq_of_getD hle fun j hj=>hd j (by omega))).symm
noncomputable def Γchb (mx:Int) (pb:Bool):Ctx:=fun f=>match f with
 | 44=>some (.pure ctVsB)
 | 132=>some (.pure ctConcat)
 | 90=>some (.pure ctValid)
 | _=>none
theorem Γchb_ok:CtxOk Tryz.prog (GlT mx pb) (Γchb mx pb):=by
 intro f h hh
 simp only[Γchb] at hh
 split at hh<;>simp at hh<;>subst hh
 ·exact pVsB_ok
 ·exact concat_ok
 ·exact valid_ok
set_option maxHeartbeats 8000000 in
theorem pOneB_ok:Sound Tryz.prog (GlT mx pb) 79 ctOneB:=by
 refine sound_by (cc:=true) Γchb_ok Tryz.T_ok Tryz.mixed Tryz.func79 rfl (by kernel_rfl) (fun _=>rfl) (fun _ _=>by show 1≤91;decide) ?_
 rintro (x:Tl) ⟨h1,h2,h3,h4⟩
 have hl1:=h1.1
 have hl2:=h2.1
 have hl3:=h3.1
 have hfl:[x.bef,x.mat,x.aft].flatten=x.bef++(x.mat++x.aft):=by simp
 repeat' (first|refine gl ?_|(first|refine br ?_ ?_|refine brF ?_ ?_)<;>intro q_<;>try simp only[nz] at q_)
 all_goals first
  | exact EntR.int (oneE_size fun h=>by unfold szT at h;omega).symm
  | skip
 ·have hz:szT x:=by unfold szT;omega
  obtain ⟨F,hF⟩:∃ F,F=x.bef++(x.mat++x.aft):=⟨_,rfl⟩
  have hF0:=hF
  rw[← hF] at hfl
  have hFl:F.length≤30:=by rw[hF,List.length_append,List.length_append];unfold szT at hz;omega
  have hS:∀ i,i<F.length→(F.getD i default).length≤500000:=by
   intro i hi
   have hm:=getD_mem' hi
   rw[hF] at hm
   have hs:∀ {L:List (List Rg)}{y:List Rg},bgS L→y∈L→y.length≤500000:=by
    intro L y hL hy
    obtain ⟨n,hn,rfl⟩:=List.getElem_of_mem hy
    have:=hL.2 n hn
    rw[List.getD_eq_getElem?_getD,List.getElem?_eq_getElem hn] at this
    exact this
   rcases List.mem_append.1 hm with hm|hm
   ·rw[hF];exact hs h1 hm
   ·rcases List.mem_append.1 hm with hm|hm
    ·rw[hF];exact hs h2 hm
    ·rw[hF];exact hs h3 hm
  have h3F:setT3 x↔rgtS F:=by rw[hF,rgtS_app,rgtS_app];exact Iff.rfl
  clear hF
  refine ⟨[x.bef,x.mat,x.aft],EntL.cons (ent_lit rfl rfl) (EntL.refl []),⟨(by decide:(3:Nat)≤1000),by rw[hfl];omega⟩,?_⟩
  rw[show ctConcat.out [x.bef,x.mat,x.aft]=stsD F from by show stsD _=_;rw[hfl]]
  repeat' (first|refine gl ?_|(first|refine br ?_ ?_|refine brF ?_ ?_)<;>intro q_<;>try simp only[nz] at q_)
  refine ⟨0,Nat,fun k=>⟨[(1,.own 0 0),(37,stsD F),(38,.v (.int .i64 F.length)),(39,.v (.int .i64 k))],[.cells 79 [tlD x 0,tlD x 1,tlD x 2,tlD x 3]],[]⟩,fun k=>k≤F.length∧∀ j,j<k→okS (F.getD j default),fun k=>F.length - k,fun _=>Nat.zero_le _,⟨0,⟨Nat.zero_le _,fun j hj=>by omega⟩,StLe.ren [0] tmS ⟨⟨rfl,EntL.refl _,rfl⟩,trivial⟩ (by decide)⟩,?_⟩
  rintro k ⟨hk,hd⟩
  by_cases hlt:k<F.length
  ·have p1:ctVsB.pre (F.getD k default):=hS k hlt
   repeat' (first|refine gl ?_|(first|refine br ?_ ?_|refine brF ?_ ?_)<;>intro q_<;>try simp only[nz] at q_)
   ·exact EntR.int (oneE_data hz fun h=>(h3F.1 h k hlt).2 (by omega)).symm
   ·exact ⟨k+1,⟨by omega,next_of hd ⟨by assumption,by omega⟩⟩,(by show F.length - (k+1)<F.length - k;omega),StLe.ren [0] tmS ⟨⟨rfl,EntL.refl _,rfl⟩,trivial⟩ (by decide)⟩
   ·exact EntR.int (oneE_data hz fun h=>q_ (h3F.1 h k hlt).1).symm
  ·have hs:setT3 x:=h3F.2 fun i hi=>hd i (by omega)
   clear hd hS
   repeat' (first|refine gl ?_|(first|refine br ?_ ?_|refine brF ?_ ?_)<;>intro q_<;>try simp only[nz] at q_)
   refine ⟨0,Nat,fun k=>⟨[(1,.own 0 0),(54,rgsD x.res),(55,.v (.int .i64 x.res.length)),(56,.v (.int .i64 k))],[.cells 79 [tlD x 0,tlD x 1,tlD x 2,tlD x 3]],[]⟩,fun k=>k≤x.res.length∧∀ j,j<k→pcOk x.mat.length (x.res.getD j default),fun k=>x.res.length - k,fun _=>Nat.zero_le _,⟨0,⟨Nat.zero_le _,fun j hj=>by omega⟩,StLe.ren [0] tmS ⟨⟨rfl,EntL.refl _,rfl⟩,trivial⟩ (by decide)⟩,?_⟩
   clear hlt hk
   clear k
   rintro k ⟨hk,hd⟩
   by_cases hlt:k<x.res.length
   ·repeat' (first|refine gl ?_|(first|refine br ?_ ?_|refine brF ?_ ?_)<;>intro q_<;>try simp only[nz] at q_)
    all_goals first
     | exact EntR.int (oneE_range hz hs fun h=>by
       have:=h k hlt
       unfold pcOk at this
       rcases this with ⟨e1,e2⟩|⟨e1,e2,e3⟩<;>first|omega|simp_all).symm
     | exact ⟨k+1,⟨by omega,next_of hd (by unfold pcOk;first|exact .inl ⟨by assumption,by assumption⟩|exact .inr ⟨by omega,by omega,by omega⟩)⟩,(by show x.res.length - (k+1)<x.res.length - k;omega),StLe.ren [0] tmS ⟨⟨rfl,EntL.refl _,rfl⟩,trivial⟩ (by decide)⟩
   ·repeat' (first|refine gl ?_|(first|refine br ?_ ?_|refine brF ?_ ?_)<;>intro q_<;>try simp only[nz] at q_)
    exact EntR.int (oneE_ok hz hs fun i hi=>hd i (by omega)).symm
noncomputable def Γpkb (mx:Int) (pb:Bool):Ctx:=fun f=>match f with
 | 79=>some (.pure ctOneB)
 | _=>none
theorem Γpkb_ok:CtxOk Tryz.prog (GlT mx pb) (Γpkb mx pb):=by
 intro f h hh
 simp only[Γpkb] at hh
 split at hh<;>simp at hh<;>subst hh
 ·exact pOneB_ok
set_option maxHeartbeats 4000000 in
theorem pChkB_ok:Sound Tryz.prog (GlT mx pb) 39 ctChkB:=by
 refine sound_by (cc:=true) Γpkb_ok Tryz.T_ok Tryz.mixed Tryz.func39 rfl (by kernel_rfl) (fun _=>rfl) (fun _ _=>by show 1≤21;decide) ?_
 intro (l:List Tl) (hl:bgL l)
 have h6:=hl.1
 by_cases h200:200<l.length
 ·have e:ctChkB.out l=.v (.int .i64 2):=congrArg (fun b=>D.v (.int .i64 b)) (if_pos h200)
  rw[e]
  have hg:(l.length:Int)>200:=by omega
  repeat' (first|refine gl ?_|(first|refine br ?_ ?_|refine brF ?_ ?_)<;>intro q_<;>try simp only[nz] at q_)
  exact EntR.of rfl (Ent.refl _)
 ·have e:ctChkB.out l=.v (.int .i64 (chkE l)):=congrArg (fun b=>D.v (.int .i64 b)) (if_neg h200)
  rw[e]
  have hg:¬(l.length:Int)>200:=by omega
  repeat' (first|refine gl ?_|(first|refine br ?_ ?_|refine brF ?_ ?_)<;>intro q_<;>try simp only[nz] at q_)
  refine ⟨0,Nat,fun k=>⟨[(9,tlsD l),(10,.v (.int .i64 l.length)),(11,.v (.int .i64 k))],[],[]⟩,fun k=>k≤l.length∧∀ j,j<k→oneE (l.getD j default)=0,fun k=>l.length - k,fun _=>Nat.zero_le _,⟨0,⟨Nat.zero_le _,fun j hj=>by omega⟩,StLe.ren [] tmS trivial (by decide)⟩,?_⟩
  rintro k ⟨hk,hd⟩
  by_cases hlt:k<l.length
  ·have p1:ctOneB.pre (l.getD k default):=hl.2 k hlt
   repeat' (first|refine gl ?_|(first|refine br ?_ ?_|refine brF ?_ ?_)<;>intro q_<;>try simp only[nz] at q_)
   ·exact EntR.int (chkE_at hlt hd q_).symm
   ·exact ⟨k+1,⟨by omega,next_of hd q_⟩,(by show l.length - (k+1)<l.length - k;omega),StLe.ren [] tmS trivial (by decide)⟩
  ·repeat' (first|refine gl ?_|(first|refine br ?_ ?_|refine brF ?_ ?_)<;>intro q_<;>try simp only[nz] at q_)
   exact EntR.int (chkE_0 fun i hi=>hd i (by omega)).symm
end Go.Proofs
