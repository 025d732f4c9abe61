import Derived.Test.YtnimkdbpoeondaaGreatDoorE1
import Derived.KernelRfl
set_option linter.all false
namespace Go.Sx
open Go Go.RowKit
def vT:Nat->List D->List (Nat × D)
 | _,[]=>[]
 | i,d::ds=>(i,d)::vT (i+1) ds
def resD1 (T:TT) (tm:List (Nat × D)) (ow:List Own):ResultVar->Option D
 | .tmp t=>lk tm t
 | .cell a t=>match T t,lk tm a with
  | some ti,some (.own i off)=>(match zf8 ti ow (.own i off) with|some ([],d)=>some d|_=>none)
  | _,_=>none
def zfj (T:TT) (tm:List (Nat × D)) (ow:List Own):List ResultVar->Option (List D)
 | []=>some []
 | r::rs=>match resD1 T tm ow r,zfj T tm ow rs with|some d,some ds=>some (d::ds)|_,_=>none
def zW:List D->D
 | [d]=>d
 | ds=>.tu ds
def zcl (ow:List Own):List DE->Option (List Own)
 | []=>some ow
 | .m i::is=>match ow[i]? with|some .defd=>zcl (zj ow i .gone) is|_=>none
 | .c _::is=>zcl ow is
 | .r _ _ _::is=>zcl ow is
def tbT (tb:List (List (Option TI))):TT:=fun t =>
 match tb[t / 16]? with
 | some r=>match r[t % 16]? with
  | some (some i)=>some i
  | _=>none
 | none=>none
def tbRow (P:Program) (n i:Nat):Nat->Nat->List (Option TI)
 | _,0=>[]
 | j,k+1=>if 16*i+j<n then zgu P (16*i+j)::tbRow P n i (j+1) k else []
def tbAll (P:Program) (n:Nat):Nat->Nat->List (List (Option TI))
 | _,0=>[]
 | i,k+1=>tbRow P n i 0 16::tbAll P n (i+1) k
theorem zkn (P:Program) (n i:Nat):∀ (k j q:Nat) (x:Option TI),(tbRow P n i j k)[q]?=some x->x=zgu P (16*i+(j+q))
 | 0,j,q,x,h=>by simp[tbRow] at h
 | k+1,j,q,x,h=>by
  simp only[tbRow] at h;split at h
  ·cases q with
   | zero=>simp at h;exact h.symm
   | succ q =>
    simp at h;have:=zkn P n i k (j+1) q x h;rw[this,show j+1+q=j+(q+1) by omega]
  ·simp at h
theorem zko (P:Program) (n:Nat):∀ (k i q:Nat) (r:List (Option TI)),(tbAll P n i k)[q]?=some r->r=tbRow P n (i+q) 0 16
 | 0,i,q,r,h=>by simp[tbAll] at h
 | k+1,i,q,r,h=>by
  simp only[tbAll] at h;cases q with
  | zero=>simp at h;exact h.symm
  | succ q =>
   simp at h;have:=zko P n k (i+1) q r h;rw[this,show i+1+q=i+(q+1) by omega]
theorem tbT_ok {P:Program}{tb:List (List (Option TI))}(_c m n:Nat) (h:tb=tbAll P n 0 m):TOk P (tbT tb):=by
 intro t i ht;unfold tbT at ht;split at ht
 ·rename_i r hr;split at ht
  ·rename_i i' hi;simp at ht;subst ht;rw[h] at hr;have h1:=zko _ _ _ _ _ _ hr;subst h1;have h2:=zkn _ _ _ _ _ _ _ hi;rw[h2,show 16*(0+t / 16)+(0+t % 16)=t by omega]
  ·simp at ht
 ·simp at ht
end Go.Sx
