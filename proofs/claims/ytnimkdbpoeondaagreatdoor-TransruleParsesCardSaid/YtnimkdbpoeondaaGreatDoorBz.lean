import Derived.Test.YtnimkdbpoeondaaGreatDoorRa0
set_option linter.all false
namespace Go.Proofs
open Go Go.Sx
variable {s:ByteArray}{k:Nat}
variable {mx:Int}{pb:Bool}
def slD {α:Type} [Inhabited α] (sz:Nat) (enc:α->Nat->D) (l:List α):D:=.sl sz l.length fun i j=>enc (l.getD i default) j
def eqB (s x:ByteArray):Bool := @decide (s=x) (zed s x)
theorem yC {s x:ByteArray}:eqB s x=true↔s=x:=by
 unfold eqB;exact @decide_eq_true_iff _ (zed s x)
theorem zd3 {α:Type} [Inhabited α] {p:α->Bool}{l:List α}(hk:k=l.length) (hd:∀ j,j<k->p (l.getD j default)=true):l.all p=true:=by
 subst hk;rw[List.all_eq_true];intro c hc;obtain ⟨i,hi,rfl⟩:=List.getElem_of_mem hc;have:=hd i hi;simpa[List.getD_eq_getElem?_getD,hi] using this
theorem vV {α:Type} [Inhabited α] {p:α->Bool}{l:List α}(hk:k<l.length) (hd:p (l.getD k default)=false):l.all p=false:=by
 rw[List.all_eq_false];refine ⟨l[k],List.getElem_mem _,?_⟩
 simp[List.getD_eq_getElem?_getD,hk] at hd;simp[hd]
def znt (x:Int):Nat->D
 | 0=>.v (.int .i64 x)
 | _=>.junk
def uj (c:Int):Bool:=bif decide (c>=0) then decide (c<=1114111) else false
theorem xQ {c:Int}:uj c=true↔0<=c/\c<=1114111:=by
 unfold uj;by_cases h:c>=0<;>simp[h]<;>omega
def ctValid:Ct:={ ι:=Int,inp:=fun c=>[.v (.int .i64 c)],out:=fun c=>.v (.bool (uj c)),pre:=fun _=>True }
theorem zci:SS mx pb 77 ctValid:=by
 refine sb (cc:=false) zH Tryz.func77 ?_;intro (c:Int) _;refine gO ?_;exact ze rfl
theorem zcm:SS mx pb 81 ctValid:=by
 refine sb (cc:=false) zH Tryz.func81 ?_;intro (c:Int) _;refine gO ?_;exact ze rfl
def zA (b:Int):Bool:=(decide (b>=65)&&decide (b<=90))||(decide (b>=97)&&decide (b<=122))||(decide (b>=48)&&decide (b<=57))||(b==95)
def yh (s:ByteArray):Bool:=decide (1<=s.size)&&decide (s.size<=32)&&(List.range s.size).all fun i=>zA (bAt s i)
def ctName:Ct:={ ι:=ByteArray,inp:=fun s=>[.v (.string s)],out:=fun s=>.v (.bool (yh s)),pre:=fun s=>s.size<=9223372036854775807 }
theorem yQ (hk:k<s.size) (h:zA (bAt s k)=false):yh s=false:=by
 have:((List.range s.size).all fun i=>zA (bAt s i))=false:=by
  rw[List.all_eq_false];exact ⟨k,by simpa using hk,by simp[h]⟩
 simp[yh,this]
theorem zet (h:∀ j,j<s.size->zA (bAt s j)=true):yh s=(decide (1<=s.size)&&decide (s.size<=32)):=by
 have:((List.range s.size).all fun i=>zA (bAt s i))=true:=by
  rw[List.all_eq_true];intro i hi;exact h i (by simpa using hi)
 simp[yh,this]
theorem zo {p:Nat->Prop}(h:∀ j,j<k->p j) (hk:p k):∀ j,j<k+1->p j:=by
 intro j hj;by_cases hjk:j=k
 ·subst hjk;exact hk
 ·exact h j (by omega)
theorem zma:eqB s ⟨#[]⟩=true↔s.size=0:=by
 rw[yC];constructor
 ·rintro rfl;rfl
 ·intro h;cases s with
  | mk a=>simp[ByteArray.size] at h;subst h;rfl
def ctNanI:Ct:={ ι:=Int,inp:=fun c=>[.v (.int .i64 c)],out:=fun _=>.v (.bool false),pre:=fun _=>True }
theorem nanI_ok:SS mx pb 114 ctNanI:=by
 refine sb (cc:=false) zH Tryz.func114 ?_;intro (c:Int) _;refine gO ?_;refine ze ?_;simp
def zoq (a b:Int):Int:=if a<b then -1 else if a>b then 1 else 0
def ctCmpI:Ct:={ ι:=Int × Int,inp:=fun x=>[.v (.int .i64 x.1),.v (.int .i64 x.2)],out:=fun x=>.v (.int .i64 (zoq x.1 x.2)),pre:=fun _=>True }
def Γn1:Ctx:=fun f=>match f with
 | 114=>some (.pure ctNanI)
 | _=>none
theorem Γn1_ok:CK mx pb Γn1:=by
 intro f h hh;simp only[Γn1] at hh;split at hh<;>simp at hh<;>subst hh
 ·exact nanI_ok
theorem cmpI_ok:SS mx pb 86 ctCmpI:=by
 refine sb (cc:=false) Γn1_ok Tryz.func86 ?_;intro ((a:Int),(b:Int)) _;refine gO ?_;refine ⟨a,eL,trivial,?_⟩
 refine gO ?_;refine ⟨b,eL,trivial,?_⟩
 refine gO ?_;refine And.intro (fun h=>Bool.noConfusion (show false=true from h)) (fun _=>?_)
 refine gO ?_;refine And.intro (fun h=>Bool.noConfusion (show false=true from h)) (fun _=>?_)
 refine gO ?_;refine And.intro (fun h=>?_) (fun h=>?_)
 ·have h:a<b:=by simpa using h
  refine gO ?_;exact zf (by simp[zoq,h])
 have h:¬a<b:=by simpa using h
 refine gO ?_;refine And.intro (fun h1=>?_) (fun h1=>?_)
 ·have h1:a>b:=by simpa using h1
  refine gO ?_;exact zf (by simp[zoq,h,h1])
 have h1:¬a>b:=by simpa using h1
 refine gO ?_;exact zf (by simp[zoq,h,h1])
def orF (a b:Int) (i j:Nat):D:=(([.v (.int .i64 a),.v (.int .i64 b)]:List D)[i*1+j]?).getD .junk
def ctOr:Ct:={ ι:=Int × Int,inp:=fun x=>[.sl 1 2 (orF x.1 x.2)],out:=fun x=>.v (.int .i64 (if x.1=0 then x.2 else x.1)),pre:=fun _=>True }
theorem or_ok:SS mx pb 85 ctOr:=by
 refine sb (cc:=false) zH Tryz.func85 ?_;intro ((a:Int),(b:Int)) _;refine gO ?_;refine ⟨4,?_⟩
 refine gO ?_;refine And.intro (fun _=>?_) (fun h=>Bool.noConfusion (show true=false from h))
 refine gO ?_;refine And.intro ⟨by decide,by decide⟩ ?_;refine gO ?_;refine And.intro (fun h=>?_) (fun h=>?_)
 ·have h:(a != 0)=true:=h;refine gO ?_;exact zf (by simp at h;simp[h])
 have h:(a != 0)=false:=h;have h:a=0:=by simpa using h
 refine gO ?_;refine And.intro ⟨by decide,by decide⟩ ?_;refine gO ?_;refine And.intro (fun _=>?_) (fun h=>Bool.noConfusion (show true=false from h))
 refine gO ?_;refine And.intro ⟨by decide,by decide⟩ ?_;refine gO ?_;refine And.intro (fun h1=>?_) (fun h1=>?_)
 ·have h1:(b != 0)=true:=h1;refine gO ?_;exact zf (by simp[h])
 have h1:(b != 0)=false:=h1;have h1:b=0:=by simpa using h1
 refine gO ?_;refine And.intro ⟨by decide,by decide⟩ ?_;refine gO ?_;refine And.intro (fun h=>Bool.noConfusion (show false=true from h)) (fun _=>?_)
 refine gO ?_;exact zf (by simp[h,h1])
def digI (c:Int):Int:=([48,49,50,51,52,53,54,55,56,57,65,66,67,68,69,70]:List Int).getD ((c % 16).toNat*1+0) 0
def dig (c:Int):UInt8:=UInt8.ofNat (digI c).toNat
def dv:Nat->Int->Int
 | 0,c=>c
 | k+1,c=>dv k c / 16
def tail:Nat->Int->List UInt8
 | 0,_=>[]
 | k+1,c=>dig (dv k c)::tail k c
end Go.Proofs
