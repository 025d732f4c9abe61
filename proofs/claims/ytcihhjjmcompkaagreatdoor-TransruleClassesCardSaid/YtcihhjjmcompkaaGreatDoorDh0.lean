import Derived.Test.YtcihhjjmcompkaaGreatDoorE6
import Derived.Test.YtcihhjjmcompkaaGreatDoorEa
import Derived.Test.YtcihhjjmcompkaaGreatDoorC2
import Derived.Test.YtcihhjjmcompkaaGreatDoorCvz
set_option linter.unusedVariables false
set_option linter.unusedSimpArgs false
namespace Go.Proofs
open Go Go.Sx
variable {mx:Int}{pb:Bool}
def samB (L:List (List Rg)) (a b:Int):Bool:=decide (∀ i,i<L.length→hasB (L.getD i default) a=hasB (L.getD i default) b)
def ctSam:Ct:={ ι:=List (List Rg) × Int × Int,inp:=fun x=>[stsD x.1,.v (.int .i64 x.2.1),.v (.int .i64 x.2.2)],out:=fun x=>.v (.bool (samB x.1 x.2.1 x.2.2)),pre:=fun x=>x.1.length≤1000000∧∀ i,i<x.1.length→(x.1.getD i default).length≤1000000 }
noncomputable def Γsam:Ctx:=fun f=>match f with
 | 46=>some (.pure ctHas)
 | _=>none
theorem Γsam_ok:CtxOk Tryz.prog (GlT mx pb) Γsam:=by
 intro f h hh
 simp only[Γsam] at hh
 split at hh<;>simp at hh<;>subst hh
 ·exact cpHas_ok
set_option maxHeartbeats 4000000 in
theorem sam_ok:Sound Tryz.prog (GlT mx pb) 43 ctSam:=by
 refine sound_by (cc:=true) Γsam_ok Tryz.T_ok Tryz.mixed Tryz.func43 rfl (by kernel_rfl) (fun _=>rfl) (fun _ _=>by show 3≤27;decide) ?_
 rintro ⟨(L:List (List Rg)),(a:Int),(b:Int)⟩ ⟨(hL:L.length≤1000000),(hX:∀ i,i<L.length→(L.getD i default).length≤1000000)⟩
 repeat' (first|refine gl ?_|(first|refine br ?_ ?_|refine brF ?_ ?_)<;>intro q_<;>try simp only[nz] at q_)
 refine ⟨0,Nat,fun k=>⟨[(0,stsD L),(1,.v (.int .i64 a)),(2,.v (.int .i64 b)),(7,.v (.int .i64 k))],[],[]⟩,fun k=>k≤L.length∧∀ j,j<k→hasB (L.getD j default) a=hasB (L.getD j default) b,fun k=>L.length - k,fun _=>Nat.zero_le _,⟨0,⟨Nat.zero_le _,fun j hj=>by omega⟩,StLe.ren [] tmS trivial (by decide)⟩,?_⟩
 rintro k ⟨hk,hd⟩
 by_cases hlt:k<L.length
 ·have q1:ctHas.pre (L.getD k default,a):=hX k hlt
  have q2:ctHas.pre (L.getD k default,b):=hX k hlt
  repeat' (first|refine gl ?_|(first|refine br ?_ ?_|refine brF ?_ ?_)<;>intro q_<;>try simp only[nz] at q_)
  refine ⟨(L.getD k default,a),EntL.refl _,fun _=>q1,?_⟩
  repeat' (first|refine gl ?_|(first|refine br ?_ ?_|refine brF ?_ ?_)<;>intro q_<;>try simp only[nz] at q_)
  ·exact EntR.bool (decide_eq_false fun h=>by rw[h k hlt] at q_;simp at q_).symm
  ·exact ⟨k+1,⟨hlt,next_at hd (by simpa using q_)⟩,(by show L.length - (k+1)<L.length - k;omega),StLe.ren [] tmS trivial (by decide)⟩
 ·repeat' (first|refine gl ?_|(first|refine br ?_ ?_|refine brF ?_ ?_)<;>intro q_<;>try simp only[nz] at q_)
  exact EntR.bool (decide_eq_true fun i (hi:i<L.length)=>hd i (by omega)).symm
end Go.Proofs
