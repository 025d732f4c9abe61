import Derived.Test.YtnimkdbpoeondaaGreatDoorSxQ
import Derived.Test.YtnimkdbpoeondaaGreatDoorE6
import Derived.Test.YtnimkdbpoeondaaGreatDoorE7
import Derived.Lib.Bytealg
set_option linter.all false
namespace Go.Proofs
open Go Go.Sx
def digitsD:D:=.pt 16 fun j=>.v (.int .u8 (([48,49,50,51,52,53,54,55,56,57,65,66,67,68,69,70]:List Int).getD j 0))
def pow10D:D:=.pt 20 fun j=>.v (.int .u64 (([1,10,100,1000,10000,100000,1000000,10000000,100000000,1000000000,10000000000,100000000000,1000000000000,10000000000000,100000000000000,1000000000000000,10000000000000000,100000000000000000,1000000000000000000,10000000000000000000]:List Int).getD j 0))
def dbD:D:=.pt 64 fun j=>.v (.int .u8 (([0,1,56,2,57,49,28,3,61,58,42,50,38,29,17,4,62,47,59,36,45,43,51,22,53,39,33,30,24,18,12,5,63,55,48,27,60,41,37,16,46,35,44,21,52,32,23,11,54,26,40,15,34,20,31,10,25,14,19,9,13,8,7,6]:List Int).getD j 0))
def GlT (mx:Int) (pb:Bool):Nat->Option D:=fun g=>if g=1 then some digitsD else if g=0 then some (.pt 1 fun _=>.v (.int .i64 mx)) else if g=4 then (match pb with|true=>some pow10D|false=>none)
 else if g=7 then (match pb with|true=>some dbD|false=>none)
 else none
variable {mx:Int}{pb:Bool}
theorem Tryz.mixed:Tryz.prog.follows .mixedOrders=true:=by kernel_rfl
def Γ0:Ctx:=fun _=>none
theorem zH:CtxOk Tryz.prog (GlT mx pb) Γ0:=fun f h hh=>by simp[Γ0] at hh
def sameG:List D->Option D
 | [d]=>some d
 | _=>none
theorem same_ok:zh9 Tryz.prog (GlT mx pb) 82 sameG:=by
 intro ds d hg M E us w _ _ hr;unfold sameG at hg;split at hg<;>simp at hg;subst hg;simp only[RepL] at hr;obtain ⟨u,r,hus,hu,rfl⟩:=hr;have:us = #[u]:=by apply Array.ext';simpa using hus
 subst this;refine ⟨u,?_,hu⟩
 have hf:Tryz.prog.funcs[82]?=some Tryz.f82:=by kernel_rfl
 have h1:(Tryz.f82.name == "runtime.NumGoroutine")=false:=by kernel_rfl
 have h2:Tryz.f82.body.isNone=true:=by kernel_rfl
 have h3:Extern.findNext Tryz.f82=none:=by kernel_rfl
 have h4:Extern.find Tryz.f82=some Extern.AbiNoEscape.same:=by kernel_rfl
 have h5:(Extern.AbiNoEscape.same #[u]).run Tryz.prog w=.ok u w:=rfl;have h6:∀ m,Sem.run Tryz.prog (Sem.mark m (Sem.pure ())) w=.ok () w:=fun _=>rfl;simp only[callFunc,Sem.run_bind,run_program,Result.andThen_ok,hf,h1,h2,h3,h4];simp[h5,h6,mark]
abbrev CK(mx:Int)(pb:Bool):=CtxOk Tryz.prog (GlT mx pb)
abbrev SQ(mx:Int)(pb:Bool):=SoundO Tryz.prog (GlT mx pb)
abbrev SS(mx:Int)(pb:Bool):=Sound Tryz.prog (GlT mx pb)
end Go.Proofs
