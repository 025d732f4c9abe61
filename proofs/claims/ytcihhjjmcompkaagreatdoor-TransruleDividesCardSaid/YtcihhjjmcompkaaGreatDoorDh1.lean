import Derived.Test.YtcihhjjmcompkaaGreatDoorE6
import Derived.Test.YtcihhjjmcompkaaGreatDoorEa
import Derived.Test.YtcihhjjmcompkaaGreatDoorC2
import Derived.Test.YtcihhjjmcompkaaGreatDoorCvz
set_option linter.unusedVariables false
set_option linter.unusedSimpArgs false
namespace Go.Proofs
open Go Go.Sx
variable {mx:Int}{pb:Bool}
def cnR (l:List Rg):Nat→Int
 | 0=>0
 | k+1=>cnR l k+((l.getD k default).2 - (l.getD k default).1+1)
theorem cnR_bd {l:List Rg}(h:Canon l):∀ k,k≤l.length→0≤cnR l k∧cnR l k≤1114112*k
 | 0,_=>⟨Int.le_refl _,Int.le_refl _⟩
 | k+1,hk=>by
  have h1:=cnR_bd h k (by omega)
  have h2:=h.ok _ (getD_mem' (show k<l.length by omega))
  show 0≤cnR l k+(_ - _+1)∧cnR l k+(_ - _+1)≤_
  omega
def ctCnR:Ct:={ ι:=List Rg,inp:=fun l=>[setD l],out:=fun l=>.v (.int .i64 (cnR (canon l) (canon l).length)),pre:=mkOk }
noncomputable def cAll:Code:=(Tryz.f89.body).getD .skip
noncomputable def cAll1:Code:=(Tryz.f138.body).getD .skip
noncomputable def Γcnm (mx:Int) (pb:Bool):Ctx:=fun f=>match f with
 | 50=>some (.pure ctMake)
 | _=>none
theorem Γcnm_ok:CtxOk Tryz.prog (GlT mx pb) (Γcnm mx pb):=by
 intro f h hh
 simp only[Γcnm] at hh
 split at hh<;>simp at hh<;>subst hh
 ·exact cpMake_ok
noncomputable def Γcpn (mx:Int) (pb:Bool):Ctx:=fun f=>match f with
 | 89=>some (.gen (inlW true Γ0 Tryz.T (GlT mx pb) Tryz.f89 cAll))
 | 138=>some (.gen (inlW true (Γcnm mx pb) Tryz.T (GlT mx pb) Tryz.f138 cAll1))
 | _=>none
theorem Γcpn_ok:CtxOk Tryz.prog (GlT mx pb) (Γcpn mx pb):=by
 intro f h hh
 simp only[Γcpn] at hh
 split at hh<;>simp at hh<;>subst hh
 ·exact soundT_inlW Γ0_ok Tryz.T_ok Tryz.mixed Tryz.func89 rfl (by kernel_rfl)
 ·exact soundT_inlW Γcnm_ok Tryz.T_ok Tryz.mixed Tryz.func138 rfl (by kernel_rfl)
theorem StLe.r5 {tm tm':List (Nat × D)}{a b c d e a' b' c' d' e':Own}{r:List Own}(h1:renT [0,1,2,3,4] tm tm') (h2:renO [0,1,2,3,4] (a::b::c::d::e::r) [0,1,2,3,4] [a',b',c',d',e']:=by exact ⟨⟨rfl,EntL.refl _,rfl⟩,⟨rfl,EntL.refl _,rfl⟩,⟨rfl,EntL.refl _,rfl⟩,trivial,⟨rfl,rfl⟩,trivial⟩):StLe 5 ⟨tm,a::b::c::d::e::r,[]⟩ ⟨tm',[a',b',c',d',e'],[]⟩:=StLe.renm [0,1,2,3,4] h1 h2 (by decide) (by decide) (by simp)
set_option maxHeartbeats 4000000 in
theorem cpCount_ok:Sound Tryz.prog (GlT mx pb) 45 ctCnR:=by
 refine sound_by (cc:=true) Γcpn_ok Tryz.T_ok Tryz.mixed Tryz.func45 rfl (by kernel_rfl) (fun _=>rfl) (fun _ _=>by show 1≤17;decide) ?_
 intro (l:List Rg) (hl:mkOk l)
 have p1:ctMake.pre l:=hl
 have hC:=canon_canon l
 have hCl:=canon_len l
 have hlz:l.length<4194304:=hl.1
 repeat' (first|refine gw ?_|(first|refine br ?_ ?_|refine brF ?_ ?_)<;>intro q_<;>try simp only[nz] at q_)
 refine ⟨0,Nat,fun k=>⟨[(0,.yl 4),(8,rgsD (canon l)),(9,.v (.int .i64 (canon l).length)),(10,.v (.int .i64 k))],[.cells 24 [rgsD l],.cells 3 [.v (.int .i64 (cnR (canon l) k))],.cells 24 [rgsD l],.defd,.lp .ready none],[]⟩,fun k=>k≤(canon l).length,fun k=>(canon l).length - k,fun _=>(by show 5≤5;omega),⟨0,Nat.zero_le _,StLe.r5 tmS⟩,?_⟩
 intro k (hk:k≤(canon l).length)
 obtain ⟨b1,b2⟩:=cnR_bd hC k hk
 by_cases hlt:k<(canon l).length
 ·have hr:=hC.ok _ (getD_mem' hlt)
  repeat' (first|refine gw ?_|(first|refine br ?_ ?_|refine brF ?_ ?_)<;>intro q_<;>try simp only[nz] at q_)
  exact ⟨k+1,hlt,(by show (canon l).length - (k+1)<(canon l).length - k;omega),StLe.r5 tmS⟩
 ·have e:k=(canon l).length:=by omega
  subst e
  repeat' (first|refine gw ?_|(first|refine br ?_ ?_|refine brF ?_ ?_)<;>intro q_<;>try simp only[nz] at q_)
  exact EntR.of rfl (Ent.refl _)
end Go.Proofs
