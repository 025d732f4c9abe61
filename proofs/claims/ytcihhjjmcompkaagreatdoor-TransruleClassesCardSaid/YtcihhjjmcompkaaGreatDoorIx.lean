import Derived.Test.YtcihhjjmcompkaaGreatDoorRa0
import Derived.Test.YtcihhjjmcompkaaGreatDoorE5
import Derived.Lib.Bytealg
set_option linter.unusedVariables false
set_option linter.unusedSimpArgs false
namespace Go.Proofs
open Go Go.Sx
variable {mx:Int}{pb:Bool}
def idxL:List UInt8→UInt8→Int→Int
 | [],_,_ => -1
 | b::l,c,k=>match b==c with|true=>k|false=>idxL l c (k+1)
def idxB (s:ByteArray) (c:Int):Int:=idxL s.data.toList c.toNat.toUInt8 0
def idxG:List D→Option D
 | [.v (.string s),.v (.int .u8 c)]=>some (.v (.int .i64 (idxB s c)))
 | _=>none
theorem two_args {M:Mem}{E:List Value}{x y:Value}{us:Array Value}(h:RepL M E [.v x,.v y] us.toList):us = #[x,y]:=by
 simp only[RepL,Rep] at h
 obtain ⟨u,r,h1,rfl,v,r',rfl,rfl,rfl⟩:=h
 apply Array.ext';simpa using h1
theorem idxL_eq (c:UInt8):∀ (l:List UInt8) (k:Int),0≤k→idxL l c k=if Lib.indexByte l c = -1 then -1 else Lib.indexByte l c+k
 | [],k,_=>by simp[idxL,Lib.indexByte]
 | b::l,k,hk=>by
  have ih:=idxL_eq c l (k+1) (by omega)
  have hge:=Lib.indexByte_ge l c
  simp only[idxL,Lib.indexByte]
  by_cases hb:(b==c)=true
  ·simp only[hb,if_true]
   simp
  ·have hb':(b==c)=false:=by simpa using hb
   simp only[hb',Bool.false_eq_true,if_false]
   rw[ih]
   by_cases h1:Lib.indexByte l c = -1
   ·simp[h1]
   ·have h2:(Lib.indexByte l c == -1)=false:=by simpa using h1
    simp only[h1,h2,if_false,Bool.false_eq_true]
    have h3:¬(Lib.indexByte l c+1 = -1):=by omega
    simp only[h3,if_false]
    omega
theorem idxB_eq (s:ByteArray) (c:Int):Lib.indexByte s.data.toList c.toNat.toUInt8=idxB s c:=by
 rw[idxB,idxL_eq _ _ _ (Int.le_refl _)]
 split
 ·assumption
 ·omega
theorem idx_ok:SoundS Tryz.prog (GlT mx pb) 252 idxG:=by
 intro ds d hg M E us w _ _ hr
 unfold idxG at hg
 split at hg<;>simp at hg
 rename_i s c
 subst hg
 have:=two_args hr
 subst this
 refine ⟨_,?_,Rep.val _⟩
 have hf:Tryz.prog.funcs[252]?=some Tryz.f252:=by kernel_rfl
 have h1:(Tryz.f252.name == "runtime.NumGoroutine")=false:=by kernel_rfl
 have h2:Tryz.f252.body.isNone=true:=by kernel_rfl
 have h3:Extern.findNext Tryz.f252=none:=by kernel_rfl
 have h4:Extern.find Tryz.f252=some Extern.BytealgIndexByte.indexByte:=by kernel_rfl
 have h5:(Extern.BytealgIndexByte.indexByte #[.string s,.int .u8 c]).run Tryz.prog w=.ok (.int .i64 (idxB s c)) w:=by rw[← idxB_eq];exact Lib.run_indexByteString s c w
 have h6:∀ m,Sem.run Tryz.prog (Sem.mark m (Sem.pure ())) w=.ok () w:=fun _=>rfl
 simp only[callFunc,Sem.run_bind,run_program,Result.andThen_ok,hf,h1,h2,h3,h4]
 simp[h5,h6,mark]
end Go.Proofs
