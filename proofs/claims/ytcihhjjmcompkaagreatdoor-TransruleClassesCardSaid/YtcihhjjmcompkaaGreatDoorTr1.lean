import Derived.Test.YtcihhjjmcompkaaGreatDoorCvz
set_option linter.unusedVariables false
set_option linter.unusedSimpArgs false
namespace Go.Proofs
open Go Go.Sx
variable {mx:Int}{pb:Bool}
noncomputable def Γr50:Ctx:=fun f=>match f with
 | 15=>some (.pure ctSm2)
 | _=>none
theorem Γr50_ok:CtxOk Tryz.prog (GlT mx pb) Γr50:=by
 intro f h hh
 simp only[Γr50] at hh
 split at hh<;>simp at hh<;>subst hh
 ·exact r2Small_ok
set_option maxHeartbeats 2000000 in
theorem rSets_ok:Sound Tryz.prog (GlT mx pb) 75 ctSmS:=by
 refine sound_by (cc:=true) Γr50_ok Tryz.T_ok Tryz.mixed Tryz.func75 rfl (by kernel_rfl) (fun _=>rfl) (fun _ _=>by show 1≤23;decide) ?_
 intro (L:List (List Rg)) _
 repeat' (first|refine gl ?_|(first|refine br ?_ ?_|refine brF ?_ ?_)<;>intro q_<;>try simp only[nz] at q_)
 refine ⟨0,Nat,fun k=>⟨[(0,stsD L),(3,.v (.int .i64 k))],[],[]⟩,fun k=>k≤20∧k≤L.length∧∀ j,j<k→(L.getD j default).length≤12,fun k=>20 - k,fun _=>Nat.zero_le _,⟨0,⟨Nat.zero_le _,Nat.zero_le _,fun j hj=>by omega⟩,StLe.ren [] tmS trivial (by decide)⟩,?_⟩
 rintro k ⟨h20,hk,hd⟩
 by_cases hlt:k<L.length
 ·by_cases h2:k<20
  ·repeat' (first|refine gl ?_|(first|refine br ?_ ?_|refine brF ?_ ?_)<;>intro q_<;>try simp only[nz] at q_)
   ·exact EntR.bool (smSB_f fun h=>q_ (by have:=h.2 k hlt;omega))
   ·exact ⟨k+1,⟨by omega,by omega,next_of hd (by omega)⟩,(by show 20 - (k+1)<20 - k;omega),StLe.ren [] tmS trivial (by decide)⟩
  ·repeat' (first|refine gl ?_|(first|refine br ?_ ?_|refine brF ?_ ?_)<;>intro q_<;>try simp only[nz] at q_)
   exact EntR.bool ((decide_eq_false (by omega)).trans (smSB_f fun h=>by have:=h.1;omega))
 ·repeat' (first|refine gl ?_|(first|refine br ?_ ?_|refine brF ?_ ?_)<;>intro q_<;>try simp only[nz] at q_)
  refine EntR.bool ?_
  by_cases h10:L.length≤10
  ·exact (decide_eq_true (by omega)).trans (smSB_t ⟨h10,fun i hi=>hd i (by omega)⟩)
  ·exact (decide_eq_false (by omega)).trans (smSB_f fun h=>h10 h.1)
noncomputable def Γs50:Ctx:=fun f=>match f with
 | 75=>some (.pure ctSmS)
 | _=>none
theorem Γs50_ok:CtxOk Tryz.prog (GlT mx pb) Γs50:=by
 intro f h hh
 simp only[Γs50] at hh
 split at hh<;>simp at hh<;>subst hh
 ·exact rSets_ok
set_option maxHeartbeats 4000000 in
theorem rSmL_ok:Sound Tryz.prog (GlT mx pb) 37 ctSmL:=by
 refine sound_by (cc:=true) Γs50_ok Tryz.T_ok Tryz.mixed Tryz.func37 rfl (by kernel_rfl) (fun _=>rfl) (fun _ _=>by show 1≤51;decide) ?_
 intro (l:List Tl) _
 repeat' (first|refine gl ?_|(first|refine br ?_ ?_|refine brF ?_ ?_)<;>intro q_<;>try simp only[nz] at q_)
 refine ⟨0,Nat,fun k=>⟨[(0,tlsD l),(3,.v (.int .i64 k))],[],[]⟩,fun k=>k≤10∧k≤l.length∧∀ j,j<k→smT (l.getD j default),fun k=>10 - k,fun _=>Nat.zero_le _,⟨0,⟨Nat.zero_le _,Nat.zero_le _,fun j hj=>by omega⟩,StLe.ren [] tmS trivial (by decide)⟩,?_⟩
 rintro k ⟨h20,hk,hd⟩
 by_cases hlt:k<l.length
 ·by_cases h2:k<10
  ·have hb := @smSB_iff (l.getD k default).bef
   have hm := @smSB_iff (l.getD k default).mat
   have ha := @smSB_iff (l.getD k default).aft
   repeat' (first|refine gl ?_|(first|refine br ?_ ?_|refine brF ?_ ?_)<;>intro q_<;>try simp only[nz] at q_)
   ·exact EntR.bool (smLB_f fun h=>by have:=(h.2 k hlt).2.2.2;omega)
   ·exact ⟨k+1,⟨by omega,by omega,next_of hd ⟨hb.1 (by assumption),hm.1 (by assumption),ha.1 (by assumption),by omega⟩⟩,(by show 10 - (k+1)<10 - k;omega),StLe.ren [] tmS trivial (by decide)⟩
   ·exact EntR.bool (smLB_f fun h=>Bool.noConfusion ((ha.2 (h.2 k hlt).2.2.1).symm.trans q_))
   ·exact EntR.bool (smLB_f fun h=>Bool.noConfusion ((hm.2 (h.2 k hlt).2.1).symm.trans q_))
   ·exact EntR.bool (smLB_f fun h=>Bool.noConfusion ((hb.2 (h.2 k hlt).1).symm.trans q_))
  ·repeat' (first|refine gl ?_|(first|refine br ?_ ?_|refine brF ?_ ?_)<;>intro q_<;>try simp only[nz] at q_)
   exact EntR.bool ((decide_eq_false (by omega)).trans (smLB_f fun h=>by have:=h.1;omega))
 ·repeat' (first|refine gl ?_|(first|refine br ?_ ?_|refine brF ?_ ?_)<;>intro q_<;>try simp only[nz] at q_)
  refine EntR.bool ?_
  by_cases h10:l.length≤6
  ·exact (decide_eq_true (by omega)).trans (smLB_t ⟨h10,fun i hi=>hd i (by omega)⟩)
  ·exact (decide_eq_false (by omega)).trans (smLB_f fun h=>h10 h.1)
noncomputable def Γv50:Ctx:=fun f=>match f with
 | 28=>some (.pure ctVs)
 | _=>none
theorem Γv50_ok:CtxOk Tryz.prog (GlT mx pb) Γv50:=by
 intro f h hh
 simp only[Γv50] at hh
 split at hh<;>simp at hh<;>subst hh
 ·exact rVs_ok
set_option maxHeartbeats 4000000 in
theorem rRgt_ok:Sound Tryz.prog (GlT mx pb) 171 ctRgt:=by
 refine sound_by (cc:=true) Γv50_ok Tryz.T_ok Tryz.mixed Tryz.func171 rfl (by kernel_rfl) (fun _=>rfl) (fun _ _=>by show 1≤25;decide) ?_
 intro (L:List (List Rg)) (hL:smS L)
 repeat' (first|refine gl ?_|(first|refine br ?_ ?_|refine brF ?_ ?_)<;>intro q_<;>try simp only[nz] at q_)
 refine ⟨0,Nat,fun k=>⟨[(0,stsD L),(3,.v (.int .i64 k))],[],[]⟩,fun k=>k≤L.length∧∀ j,j<k→okS (L.getD j default),fun k=>L.length - k,fun _=>Nat.zero_le _,⟨0,⟨Nat.zero_le _,fun j hj=>by omega⟩,StLe.ren [] tmS trivial (by decide)⟩,?_⟩
 rintro k ⟨hk,hd⟩
 by_cases hlt:k<L.length
 ·have p1:ctVs.pre (L.getD k default):=hL.2 k hlt
  have h10:=hL.1
  repeat' (first|refine gl ?_|(first|refine br ?_ ?_|refine brF ?_ ?_)<;>intro q_<;>try simp only[nz] at q_)
  ·exact EntR.bool (rgtB_f fun h=>(h k hlt).2 (by omega))
  ·exact ⟨k+1,⟨by omega,next_of hd ⟨by assumption,by omega⟩⟩,(by show L.length - (k+1)<L.length - k;omega),StLe.ren [] tmS trivial (by decide)⟩
  ·exact EntR.bool (rgtB_f fun h=>q_ (h k hlt).1)
 ·repeat' (first|refine gl ?_|(first|refine br ?_ ?_|refine brF ?_ ?_)<;>intro q_<;>try simp only[nz] at q_)
  exact EntR.bool (rgtB_t fun i hi=>hd i (by omega))
noncomputable def Γo50:Ctx:=fun f=>match f with
 | 171=>some (.pure ctRgt)
 | 91=>some (.pure ctValid)
 | _=>none
theorem Γo50_ok:CtxOk Tryz.prog (GlT mx pb) Γo50:=by
 intro f h hh
 simp only[Γo50] at hh
 split at hh<;>simp at hh<;>subst hh
 ·exact rRgt_ok
 ·exact rvalid_ok
set_option maxHeartbeats 8000000 in
theorem rOne_ok:Sound Tryz.prog (GlT mx pb) 128 ctOneE:=by
 refine sound_by (cc:=true) Γo50_ok Tryz.T_ok Tryz.mixed Tryz.func128 rfl (by kernel_rfl) (fun _=>rfl) (fun _ _=>by show 1≤93;decide) ?_
 rintro (x:Tl) ⟨h1,h2,h3,h4⟩
 have p1:ctRgt.pre x.bef:=h1
 have p2:ctRgt.pre x.mat:=h2
 have p3:ctRgt.pre x.aft:=h3
 repeat' (first|refine gl ?_|(first|refine br ?_ ?_|refine brF ?_ ?_)<;>intro q_<;>try simp only[nz] at q_)
 all_goals first
  | exact EntR.int (oneE_size fun h=>by unfold szT at h;omega).symm
  | exact EntR.int (oneE_data (show szT x by unfold szT;omega) fun h=>by have e1:=rgtB_iff.2 h.1;have e2:=rgtB_iff.2 h.2.1;have e3:=rgtB_iff.2 h.2.2;simp_all).symm
  | skip
 have hz:szT x:=by unfold szT;omega
 have hs:setT3 x:=⟨rgtB_iff.1 (by assumption),rgtB_iff.1 (by assumption),rgtB_iff.1 (by assumption)⟩
 refine ⟨0,Nat,fun k=>⟨[(1,.own 0 0),(3,.v (.int .i64 k))],[.cells 79 [tlD x 0,tlD x 1,tlD x 2,tlD x 3]],[]⟩,fun k=>k≤x.res.length∧∀ j,j<k→pcOk x.mat.length (x.res.getD j default),fun k=>x.res.length - k,fun _=>Nat.zero_le _,⟨0,⟨Nat.zero_le _,fun j hj=>by omega⟩,StLe.ren [0] tmS ⟨⟨rfl,EntL.refl _,rfl⟩,trivial⟩ (by decide)⟩,?_⟩
 rintro k ⟨hk,hd⟩
 by_cases hlt:k<x.res.length
 ·repeat' (first|refine gl ?_|(first|refine br ?_ ?_|refine brF ?_ ?_)<;>intro q_<;>try simp only[nz] at q_)
  all_goals first
   | exact EntR.int (oneE_range hz hs fun h=>by
     have:=h k hlt
     unfold pcOk at this
     rcases this with ⟨e1,e2⟩|⟨e1,e2,e3⟩<;>first|omega|simp_all).symm
   | exact ⟨k+1,⟨by omega,next_of hd (by unfold pcOk;first|exact .inl ⟨by assumption,by assumption⟩|exact .inr ⟨by assumption,by omega,by omega⟩)⟩,(by show x.res.length - (k+1)<x.res.length - k;omega),StLe.ren [0] tmS ⟨⟨rfl,EntL.refl _,rfl⟩,trivial⟩ (by decide)⟩
 ·repeat' (first|refine gl ?_|(first|refine br ?_ ?_|refine brF ?_ ?_)<;>intro q_<;>try simp only[nz] at q_)
  exact EntR.int (oneE_ok hz hs fun i hi=>hd i (by omega)).symm
noncomputable def Γk50:Ctx:=fun f=>match f with
 | 128=>some (.pure ctOneE)
 | _=>none
theorem Γk50_ok:CtxOk Tryz.prog (GlT mx pb) Γk50:=by
 intro f h hh
 simp only[Γk50] at hh
 split at hh<;>simp at hh<;>subst hh
 ·exact rOne_ok
set_option maxHeartbeats 4000000 in
theorem rChk_ok:Sound Tryz.prog (GlT mx pb) 73 ctChkE:=by
 refine sound_by (cc:=true) Γk50_ok Tryz.T_ok Tryz.mixed Tryz.func73 rfl (by kernel_rfl) (fun _=>rfl) (fun _ _=>by show 1≤22;decide) ?_
 intro (l:List Tl) (hl:smL l)
 have h6:=hl.1
 repeat' (first|refine gl ?_|(first|refine br ?_ ?_|refine brF ?_ ?_)<;>intro q_<;>try simp only[nz] at q_)
 refine ⟨0,Nat,fun k=>⟨[(0,tlsD l),(3,.v (.int .i64 k))],[],[]⟩,fun k=>k≤l.length∧∀ j,j<k→oneE (l.getD j default)=0,fun k=>l.length - k,fun _=>Nat.zero_le _,⟨0,⟨Nat.zero_le _,fun j hj=>by omega⟩,StLe.ren [] tmS trivial (by decide)⟩,?_⟩
 rintro k ⟨hk,hd⟩
 by_cases hlt:k<l.length
 ·have p1:ctOneE.pre (l.getD k default):=hl.2 k hlt
  repeat' (first|refine gl ?_|(first|refine br ?_ ?_|refine brF ?_ ?_)<;>intro q_<;>try simp only[nz] at q_)
  ·exact EntR.int (chkE_at hlt hd q_).symm
  ·exact ⟨k+1,⟨by omega,next_of hd q_⟩,(by show l.length - (k+1)<l.length - k;omega),StLe.ren [] tmS trivial (by decide)⟩
 ·repeat' (first|refine gl ?_|(first|refine br ?_ ?_|refine brF ?_ ?_)<;>intro q_<;>try simp only[nz] at q_)
  exact EntR.int (chkE_0 fun i hi=>hd i (by omega)).symm
end Go.Proofs
