import Derived.Test.YtcihhjjmcompkaaGreatDoorSoz
set_option linter.unusedVariables false
set_option linter.unusedSimpArgs false
namespace Go.Proofs
open Go Go.Sx
variable {mx:Int}{pb:Bool}
end Go.Proofs
namespace Go.Proofs
open Go Go.Sx
variable {mx:Int}{pb:Bool}
def ctSameS:Ct:={ ι:=List Rg × List Rg,inp:=fun x=>[zbu x.1,zbu x.2],out:=fun x=>.v (.bool (decide (x.1=x.2))),pre:=fun x=>x.1.length≤1000000∧x.2.length≤1000000 }
set_option maxHeartbeats 1000000 in
theorem r2Same_ok:zay Tryz.prog (GlT mx pb) 20 ctSameS:=by
 refine zah (cc:=true) zbj Tryz.T_ok Tryz.mixed Tryz.func20 rfl (by kernel_rfl) (fun _=>rfl) (fun _ _=>by show 2≤31;decide) ?_
 intro ((a:List Rg),(b:List Rg)) ⟨(ha:a.length≤1000000),(hb:b.length≤1000000)⟩
 refine gA ?_
 refine And.intro (fun h=>?_) (fun h=>?_)
 ·have h:a.length≠b.length:=by
   have h:((a.length:Int) != (b.length:Int))=true:=h
   simp at h;omega
  refine gA ?_
  exact zag (eq_comm.1 (decide_eq_false fun e=>h (congrArg List.length e)))
 have h:a.length=b.length:=by
  have h:((a.length:Int) != (b.length:Int))=false:=h
  simp at h;omega
 refine gA ?_
 refine ⟨0,Nat,fun k=>⟨[(2,.own 0 0),(3,.own 1 0),(5,.v (.int .i64 k))],[.cells 24 [zdu a],.cells 24 [zdu b]],[]⟩,fun k=>k≤a.length∧∀ j,j<k→a.getD j default=b.getD j default,fun k=>a.length - k,fun _=>Nat.zero_le _,⟨0,⟨Nat.zero_le _,fun j hj=>by omega⟩,zaf [0,1] tmS ⟨⟨rfl,zaa _,rfl⟩,⟨rfl,zaa _,rfl⟩,trivial⟩ (by decide)⟩,?_⟩
 rintro k ⟨hk,hd⟩
 refine gA ?_
 refine And.intro (fun h1=>?_) (fun h1=>?_)
 ·have h1:k<a.length:=by have:=of_decide_eq_true h1;omega
  refine gA ?_
  refine And.intro (fun h2=>?_) (fun h2=>?_)
  ·have h2:(!(decide ((a.getD k default).1=(b.getD k default).1)&&(decide ((a.getD k default).2=(b.getD k default).2)&&true)))=true:=h2
   refine gA ?_
   exact zag (eq_comm.1 (decide_eq_false fun e=>by
    have e:a=b:=e
    rw[e] at h2;simp at h2))
  ·have h2:(!(decide ((a.getD k default).1=(b.getD k default).1)&&(decide ((a.getD k default).2=(b.getD k default).2)&&true)))=false:=h2
   have h2:a.getD k default=b.getD k default:=by
    simp only[Bool.and_true,Bool.not_eq_false',Bool.and_eq_true,decide_eq_true_eq] at h2
    exact Prod.ext h2.1 h2.2
   refine gA ?_
   exact ⟨k+1,⟨by omega,next_at hd h2⟩,(show a.length - (k+1)<a.length - k by omega),zaf [0,1] tmS ⟨⟨rfl,zaa _,rfl⟩,⟨rfl,zaa _,rfl⟩,trivial⟩ (by decide)⟩
 ·have h1:k=a.length:=by have:=of_decide_eq_false h1;omega
  subst h1
  refine gA ?_
  exact zag (eq_comm.1 (decide_eq_true (eq_of_getD h hd)))
end Go.Proofs
