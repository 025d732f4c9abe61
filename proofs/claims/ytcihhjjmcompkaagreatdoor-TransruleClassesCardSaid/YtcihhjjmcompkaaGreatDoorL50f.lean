import Derived.Test.YtcihhjjmcompkaaGreatDoorDr3
import Derived.Test.YtcihhjjmcompkaaGreatDoorY5
import Derived.Test.YtcihhjjmcompkaaGreatDoorC2
set_option linter.unusedVariables false
set_option linter.unusedSimpArgs false
namespace Go.Proofs
open Go Go.Sx
variable {mx:Int}{pb:Bool}
def ctSsL:Ct:={ ι:=List (List Rg),inp:=fun L=>[stsD L,stsD L],out:=fun _=>.v (.bool true),pre:=bgS }
noncomputable def Γsl1:Ctx:=fun f=>match f with
 | 20=>some (.pure ctSameS)
 | _=>none
theorem Γsl1_ok:CtxOk Tryz.prog (GlT mx pb) Γsl1:=by
 intro f h hh
 simp only[Γsl1] at hh
 split at hh<;>simp at hh<;>subst hh
 ·exact r2Same_ok
set_option maxHeartbeats 4000000 in
theorem rSs1_ok:Sound Tryz.prog (GlT mx pb) 74 ctSsL:=by
 refine sound_by (cc:=true) Γsl1_ok Tryz.T_ok Tryz.mixed Tryz.func74 rfl (by kernel_rfl) (fun _=>rfl) (fun _ _=>by show 2≤27;decide) ?_
 intro (L:List (List Rg)) (hL:bgS L)
 have h0:=hL.1
 repeat' (first|refine gl ?_|(first|refine br ?_ ?_|refine brF ?_ ?_)<;>intro q_<;>try simp only[nz] at q_)
 refine ⟨0,Nat,fun k=>⟨[(0,stsD L),(1,stsD L),(5,.v (.int .i64 k))],[],[]⟩,fun k=>k≤L.length,fun k=>L.length - k,fun _=>Nat.zero_le _,⟨0,Nat.zero_le _,StLe.ren [] tmS trivial (by decide)⟩,?_⟩
 rintro k (hk:k≤L.length)
 by_cases hlt:k<L.length
 ·have h1:=hL.2 k hlt
  have p1:ctSameS.pre (L.getD k default,L.getD k default):=⟨by show (L.getD k default).length≤1000000;omega,by show (L.getD k default).length≤1000000;omega⟩
  have e1:ctSameS.out (L.getD k default,L.getD k default)=.v (.bool true):=congrArg (fun b=>D.v (.bool b)) (decide_eq_true rfl)
  repeat' (first|refine gl ?_|(first|refine br ?_ ?_|refine brF ?_ ?_)<;>intro q_<;>try simp only[nz] at q_)
  ·exact absurd trivial q_
  ·exact ⟨k+1,hlt,(by show L.length - (k+1)<L.length - k;omega),StLe.ren [] tmS trivial (by decide)⟩
 ·repeat' (first|refine gl ?_|(first|refine br ?_ ?_|refine brF ?_ ?_)<;>intro q_<;>try simp only[nz] at q_)
  exact EntR.bool rfl
noncomputable def Γsl2:Ctx:=fun f=>match f with
 | 74=>some (.pure ctSsL)
 | _=>none
theorem Γsl2_ok:CtxOk Tryz.prog (GlT mx pb) Γsl2:=by
 intro f h hh
 simp only[Γsl2] at hh
 split at hh<;>simp at hh<;>subst hh
 ·exact rSs1_ok
theorem rSs2_ok:Sound Tryz.prog (GlT mx pb) 40 ctSsL:=by
 refine sound_by (cc:=true) Γsl2_ok Tryz.T_ok Tryz.mixed Tryz.func40 rfl (by kernel_rfl) (fun _=>rfl) (fun _ _=>by show 2≤8;decide) ?_
 intro (L:List (List Rg)) (hL:bgS L)
 have p1:ctSsL.pre L:=hL
 repeat' (first|refine gl ?_|(first|refine br ?_ ?_|refine brF ?_ ?_)<;>intro q_<;>try simp only[nz] at q_)
 exact EntR.of rfl (Ent.refl _)
def ctLaw50C:Ct:={ ι:=List Tl,inp:=fun x=>[tlsD x],out:=fun _=>.v (.bool true),pre:=fun _=>True }
noncomputable def Γl50f (mx:Int):Ctx:=fun f=>match f with
 | 37=>some (.pure ctSmL)
 | 41=>some (.pure ctCls)
 | 42=>some (.pure ctRef)
 | 40=>some (.pure ctSsL)
 | 33=>some (.pure ctAlive)
 | _=>none
theorem Γl50f_ok {mx:Int}:CtxOk Tryz.prog (GlT mx true) (Γl50f mx):=by
 intro f h hh
 simp only[Γl50f] at hh
 split at hh<;>simp at hh<;>subst hh
 ·exact rSmL_ok
 ·exact pCls_ok
 ·exact rCls_ok
 ·exact rSs2_ok
 ·exact alive50_ok mx
set_option maxHeartbeats 8000000 in
theorem lawTC_ok {mx:Int}:Sound Tryz.prog (GlT mx true) 12 ctLaw50C:=by
 refine sound_by (cc:=true) Γl50f_ok Tryz.T_ok Tryz.mixed Tryz.func12 rfl (by kernel_rfl) (fun _=>rfl) (fun _ _=>by show 1≤16;decide) ?_
 intro (l:List Tl) _
 have a0:ctAlive.pre ():=trivial
 by_cases hl:smL l
 case neg =>
  have hsl:smLB l=false:=(smLB_f hl).symm
  repeat' (first|refine gl ?_|(first|refine br ?_ ?_|refine brF ?_ ?_)<;>intro q_<;>try simp only[nz] at q_)
  exact EntR.of rfl (Ent.refl _)
 have hsl:smLB l=true:=smLB_iff.2 hl
 have p2:ctCls.pre l:=hl
 have p3:ctRef.pre l:=hl
 have hP:=clsP_len hl
 have hR:ctRef.out l=ctCls.out l:=congrArg stsD (refP_eq hl)
 have p4:ctSsL.pre (clsP (setsOf l)):=⟨Nat.le_trans hP.1 (by decide),fun i hi=>Nat.le_trans (hP.2 i hi) (by decide)⟩
 repeat' (first|refine gl ?_|(first|refine br ?_ ?_|refine brF ?_ ?_)<;>intro q_<;>try simp only[nz] at q_)
 refine ⟨clsP (setsOf l),(by rw[hR];exact EntL.refl _),p4,?_⟩
 repeat' (first|refine gl ?_|(first|refine br ?_ ?_|refine brF ?_ ?_)<;>intro q_<;>try simp only[nz] at q_)
 exact EntR.of rfl (Ent.refl _)
end Go.Proofs
