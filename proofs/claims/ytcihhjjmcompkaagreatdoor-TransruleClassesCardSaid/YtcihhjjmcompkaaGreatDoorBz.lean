import Derived.Test.YtcihhjjmcompkaaGreatDoorRa0
import Derived.Test.YtcihhjjmcompkaaGreatDoorE6
set_option linter.unusedVariables false
set_option linter.unusedSimpArgs false
namespace Go.Proofs
open Go Go.Sx
variable {mx:Int}{pb:Bool}
def slD {α:Type} [Inhabited α] (sz:Nat) (enc:α→Nat→D) (l:List α):D:=.sl sz l.length fun i j=>enc (l.getD i default) j
def eqB (s x:ByteArray):Bool := @decide (s=x) (baDec s x)
theorem eqB_iff {s x:ByteArray}:eqB s x=true↔s=x:=by
 unfold eqB
 exact @decide_eq_true_iff _ (baDec s x)
theorem all_of {α:Type} [Inhabited α] {p:α→Bool}{l:List α}{k:Nat}(hk:k=l.length) (hd:∀ j,j<k→p (l.getD j default)=true):l.all p=true:=by
 subst hk
 rw[List.all_eq_true]
 intro c hc
 obtain ⟨i,hi,rfl⟩:=List.getElem_of_mem hc
 have:=hd i hi
 simpa[List.getD_eq_getElem?_getD,hi] using this
theorem not_all {α:Type} [Inhabited α] {p:α→Bool}{l:List α}{k:Nat}(hk:k<l.length) (hd:p (l.getD k default)=false):l.all p=false:=by
 rw[List.all_eq_false]
 refine ⟨l[k],List.getElem_mem _,?_⟩
 simp[List.getD_eq_getElem?_getD,hk] at hd
 simp[hd]
theorem all_get {α:Type} [Inhabited α] {p:α→Bool}{l:List α}(h:l.all p=true) {k:Nat}(hk:k<l.length):p (l.getD k default)=true:=by
 rw[List.all_eq_true] at h
 have:=h l[k] (List.getElem_mem _)
 simpa[List.getD_eq_getElem?_getD,hk] using this
def intD (x:Int):Nat→D
 | 0=>.v (.int .i64 x)
 | _=>.junk
def validB (c:Int):Bool:=bif decide (c≥0) then decide (c≤1114111) else false
theorem validB_iff {c:Int}:validB c=true↔0≤c∧c≤1114111:=by
 unfold validB
 by_cases h:c≥0<;>simp[h]<;>omega
def ctValid:Ct:={ ι:=Int,inp:=fun c=>[.v (.int .i64 c)],out:=fun c=>.v (.bool (validB c)),pre:=fun _=>True }
theorem valid_ok:Sound Tryz.prog (GlT mx pb) 90 ctValid:=by
 refine sound_by (cc:=false) Γ0_ok Tryz.T_ok Tryz.mixed Tryz.func90 rfl (by kernel_rfl) (fun _=>rfl) (fun _ _=>by show 1≤9;decide) ?_
 intro (c:Int) _
 refine gO ?_
 exact EntR.bool rfl
theorem rvalid_ok:Sound Tryz.prog (GlT mx pb) 91 ctValid:=by
 refine sound_by (cc:=false) Γ0_ok Tryz.T_ok Tryz.mixed Tryz.func91 rfl (by kernel_rfl) (fun _=>rfl) (fun _ _=>by show 1≤9;decide) ?_
 intro (c:Int) _
 refine gO ?_
 exact EntR.bool rfl
def nameC (b:Int):Bool:=(decide (b≥65)&&decide (b≤90))||(decide (b≥97)&&decide (b≤122))||(decide (b≥48)&&decide (b≤57))||(b==95)
def isNameB (s:ByteArray):Bool:=decide (1≤s.size)&&decide (s.size≤32)&&(List.range s.size).all fun i=>nameC (bAt s i)
def ctName:Ct:={ ι:=ByteArray,inp:=fun s=>[.v (.string s)],out:=fun s=>.v (.bool (isNameB s)),pre:=fun s=>s.size≤9223372036854775807 }
theorem name_no {s:ByteArray}{k:Nat}(hk:k<s.size) (h:nameC (bAt s k)=false):isNameB s=false:=by
 have:((List.range s.size).all fun i=>nameC (bAt s i))=false:=by
  rw[List.all_eq_false]
  exact ⟨k,by simpa using hk,by simp[h]⟩
 simp[isNameB,this]
theorem name_yes {s:ByteArray}(h:∀ j,j<s.size→nameC (bAt s j)=true):isNameB s=(decide (1≤s.size)&&decide (s.size≤32)):=by
 have:((List.range s.size).all fun i=>nameC (bAt s i))=true:=by
  rw[List.all_eq_true]
  intro i hi
  exact h i (by simpa using hi)
 simp[isNameB,this]
theorem next_of {p:Nat→Prop}{k:Nat}(h:∀ j,j<k→p j) (hk:p k):∀ j,j<k+1→p j:=by
 intro j hj
 by_cases hjk:j=k
 ·subst hjk;exact hk
 ·exact h j (by omega)
theorem empty_iff {s:ByteArray}:eqB s ⟨#[]⟩=true↔s.size=0:=by
 rw[eqB_iff]
 constructor
 ·rintro rfl;rfl
 ·intro h
  cases s with
  | mk a=>simp[ByteArray.size] at h;subst h;rfl
end Go.Proofs
namespace Go.Proofs
open Go Go.Sx
variable {mx:Int}{pb:Bool}
def ctNanI:Ct:={ ι:=Int,inp:=fun c=>[.v (.int .i64 c)],out:=fun _=>.v (.bool false),pre:=fun _=>True }
theorem nanI_ok:Sound Tryz.prog (GlT mx pb) 141 ctNanI:=by
 refine sound_by (cc:=false) Γ0_ok Tryz.T_ok Tryz.mixed Tryz.func141 rfl (by kernel_rfl) (fun _=>rfl) (fun _ _=>by show 1≤6;decide) ?_
 intro (c:Int) _
 refine gO ?_
 refine EntR.bool ?_
 simp
def cmpI (a b:Int):Int:=if a<b then -1 else if a>b then 1 else 0
def ctCmpI:Ct:={ ι:=Int × Int,inp:=fun x=>[.v (.int .i64 x.1),.v (.int .i64 x.2)],out:=fun x=>.v (.int .i64 (cmpI x.1 x.2)),pre:=fun _=>True }
def Γn1:Ctx:=fun f=>match f with
 | 141=>some (.pure ctNanI)
 | _=>none
theorem Γn1_ok:CtxOk Tryz.prog (GlT mx pb) Γn1:=by
 intro f h hh
 simp only[Γn1] at hh
 split at hh<;>simp at hh<;>subst hh
 ·exact nanI_ok
theorem cmpI_ok:Sound Tryz.prog (GlT mx pb) 96 ctCmpI:=by
 refine sound_by (cc:=false) Γn1_ok Tryz.T_ok Tryz.mixed Tryz.func96 rfl (by kernel_rfl) (fun _=>rfl) (fun _ _=>by show 2≤20;decide) ?_
 intro ((a:Int),(b:Int)) _
 refine gO ?_
 refine ⟨a,EntL.refl _,trivial,?_⟩
 refine gO ?_
 refine ⟨b,EntL.refl _,trivial,?_⟩
 refine gO ?_
 refine And.intro (fun h=>Bool.noConfusion (show false=true from h)) (fun _=>?_)
 refine gO ?_
 refine And.intro (fun h=>Bool.noConfusion (show false=true from h)) (fun _=>?_)
 refine gO ?_
 refine And.intro (fun h=>?_) (fun h=>?_)
 ·have h:a<b:=by simpa using h
  refine gO ?_
  exact EntR.int (by simp[cmpI,h])
 have h:¬a<b:=by simpa using h
 refine gO ?_
 refine And.intro (fun h1=>?_) (fun h1=>?_)
 ·have h1:a>b:=by simpa using h1
  refine gO ?_
  exact EntR.int (by simp[cmpI,h,h1])
 have h1:¬a>b:=by simpa using h1
 refine gO ?_
 exact EntR.int (by simp[cmpI,h,h1])
def orF (a b:Int) (i j:Nat):D:=(([.v (.int .i64 a),.v (.int .i64 b)]:List D)[i*1+j]?).getD .junk
def ctOr:Ct:={ ι:=Int × Int,inp:=fun x=>[.sl 1 2 (orF x.1 x.2)],out:=fun x=>.v (.int .i64 (if x.1=0 then x.2 else x.1)),pre:=fun _=>True }
theorem or_ok:Sound Tryz.prog (GlT mx pb) 95 ctOr:=by
 refine sound_by (cc:=false) Γ0_ok Tryz.T_ok Tryz.mixed Tryz.func95 rfl (by kernel_rfl) (fun _=>rfl) (fun _ _=>by show 1≤18;decide) ?_
 intro ((a:Int),(b:Int)) _
 refine gO ?_
 refine ⟨4,?_⟩
 refine gO ?_
 refine And.intro (fun _=>?_) (fun h=>Bool.noConfusion (show true=false from h))
 refine gO ?_
 refine And.intro ⟨by decide,by decide⟩ ?_
 refine gO ?_
 refine And.intro (fun h=>?_) (fun h=>?_)
 ·have h:(a != 0)=true:=h
  refine gO ?_
  exact EntR.int (by simp at h;simp[h])
 have h:(a != 0)=false:=h
 have h:a=0:=by simpa using h
 refine gO ?_
 refine And.intro ⟨by decide,by decide⟩ ?_
 refine gO ?_
 refine And.intro (fun _=>?_) (fun h=>Bool.noConfusion (show true=false from h))
 refine gO ?_
 refine And.intro ⟨by decide,by decide⟩ ?_
 refine gO ?_
 refine And.intro (fun h1=>?_) (fun h1=>?_)
 ·have h1:(b != 0)=true:=h1
  refine gO ?_
  exact EntR.int (by simp[h])
 have h1:(b != 0)=false:=h1
 have h1:b=0:=by simpa using h1
 refine gO ?_
 refine And.intro ⟨by decide,by decide⟩ ?_
 refine gO ?_
 refine And.intro (fun h=>Bool.noConfusion (show false=true from h)) (fun _=>?_)
 refine gO ?_
 exact EntR.int (by simp[h,h1])
def Γm1:Ctx:=fun f=>match f with
 | 96=>some (.pure ctCmpI)
 | 95=>some (.pure ctOr)
 | 90=>some (.pure ctValid)
 | 91=>some (.pure ctValid)
 | _=>none
theorem Γm1_ok:CtxOk Tryz.prog (GlT mx pb) Γm1:=by
 intro f h hh
 simp only[Γm1] at hh
 split at hh<;>simp at hh<;>subst hh
 ·exact cmpI_ok
 ·exact or_ok
 ·exact valid_ok
 ·exact rvalid_ok
end Go.Proofs
namespace Go.Proofs
open Go Go.Sx
variable {mx:Int}{pb:Bool}
def digI (c:Int):Int:=([48,49,50,51,52,53,54,55,56,57,65,66,67,68,69,70]:List Int).getD ((c % 16).toNat*1+0) 0
def dig (c:Int):UInt8:=UInt8.ofNat (digI c).toNat
def dv:Nat→Int→Int
 | 0,c=>c
 | k+1,c=>dv k c / 16
def tail:Nat→Int→List UInt8
 | 0,_=>[]
 | k+1,c=>dig (dv k c)::tail k c
def hexL (c:Int):List UInt8:=if validB c=true then (if dv 4 c=0 then tail 4 c else if dv 5 c=0 then tail 5 c else tail 6 c) else []
def hexS (c:Int):ByteArray:=⟨⟨hexL c⟩⟩
def ctHex:Ct:={ ι:=Int,inp:=fun c=>[.v (.int .i64 c)],out:=fun c=>.v (.string (hexS c)),pre:=fun _=>True }
theorem dv_nonneg {c:Int}(h:0≤c):∀ k,0≤dv k c
 | 0=>h
 | k+1=>by have:=dv_nonneg h k;simp only[dv];omega
theorem dv_le {c:Int}(h:0≤c):∀ k,dv k c≤c
 | 0=>Int.le_refl _
 | k+1=>by have:=dv_le h k;have:=dv_nonneg h k;simp only[dv];omega
def Γhx:Ctx:=fun f=>match f with
 | 90=>some (.pure ctValid)
 | 91=>some (.pure ctValid)
 | _=>none
theorem Γhx_ok:CtxOk Tryz.prog (GlT mx pb) Γhx:=by
 intro f h hh
 simp only[Γhx] at hh
 split at hh<;>simp at hh<;>subst hh
 ·exact valid_ok
 ·exact rvalid_ok
def tailD:Nat→Int→List D
 | 0,_=>[]
 | k+1,c=>.v (.int .u8 (digI (dv k c)))::tailD k c
def zer:Nat→List D→List D
 | 0,l=>l
 | k+1,l=>.v (.int .u8 0)::zer k l
def hexSt (c:Int) (k:Nat):St:=⟨[(0,.v (.int .i64 (dv k c))),(3,.own 0 0),(4,.v (.int .i64 ((6 - k:Nat):Int))),(9,.v (.int .i64 (k:Int)))],[.cells 180 (zer (6 - k) (tailD k c))],[]⟩
set_option maxHeartbeats 1000000 in
theorem hex_ok:Sound Tryz.prog (GlT mx pb) 98 ctHex:=by
 refine sound_by (cc:=false) Γhx_ok Tryz.T_ok Tryz.mixed Tryz.func98 rfl (by kernel_rfl) (fun _=>rfl) (fun _ _=>by show 1≤32;decide) ?_
 intro (c:Int) _
 refine gO ?_
 refine ⟨c,EntL.refl _,trivial,?_⟩
 refine gO ?_
 refine And.intro (fun h=>?_) (fun h=>?_)
 ·refine gO ?_
  refine EntR.str ?_
  have:validB c=false:=by simpa using h
  simp only[hexS,hexL,this]
  rfl
 have hv:validB c=true:=by simpa using h
 have hv':=validB_iff.1 hv
 have hn:∀ k,0≤dv k c:=dv_nonneg hv'.1
 have hm:∀ k,dv k c≤9223372036854775807:=fun k=>by have:=dv_le hv'.1 k;omega
 have hr:∀ k,0≤dv k c % 16∧dv k c % 16<(16:Nat):=fun k=>by omega
 refine gO ?_
 refine ⟨0,Nat,hexSt c,fun k=>k≤6∧(5≤k→¬dv 4 c=0)∧(6≤k→¬dv 5 c=0),fun k=>6 - k,fun _=>Nat.zero_le _,⟨0,⟨by omega,by omega,by omega⟩,StLe.of (by repeat' (first|exact trivial|exact Ent.refl _|exact rfl|refine And.intro ?_ ?_)) (by repeat' (first|exact trivial|exact EntL.refl _|exact rfl|refine And.intro ?_ ?_))⟩,?_⟩
 rintro k ⟨hk,hk4,hk5⟩
 match k,hk,hk4,hk5 with
 | 0,_,hk4,hk5 =>
  refine gO ?_
  refine And.intro (fun _=>?_) (fun h=>Bool.noConfusion (show true=false from h))
  refine gO ?_
  refine And.intro (fun h=>Bool.noConfusion (show false=true from h)) (fun _=>?_)
  refine gO ?_
  refine And.intro ⟨by decide,by decide⟩ ?_
  refine gO ?_
  refine And.intro ⟨hn 0,by decide,hm 0⟩ ?_
  refine gO ?_
  refine And.intro (hr 0) ?_
  refine gO ?_
  refine And.intro ⟨by decide,by decide⟩ ?_
  refine gO ?_
  refine And.intro ⟨hn 0,by decide,hm 0⟩ ?_
  refine gO ?_
  refine And.intro ⟨by decide,by decide⟩ ?_
  exact ⟨1,⟨by omega,by omega,by omega⟩,(by decide),StLe.of (by repeat' (first|exact trivial|exact Ent.refl _|exact rfl|refine And.intro ?_ ?_)) (by repeat' (first|exact trivial|exact EntL.refl _|exact rfl|refine And.intro ?_ ?_))⟩
 | 1,_,hk4,hk5 =>
  refine gO ?_
  refine And.intro (fun _=>?_) (fun h=>Bool.noConfusion (show true=false from h))
  refine gO ?_
  refine And.intro (fun h=>Bool.noConfusion (show false=true from h)) (fun _=>?_)
  refine gO ?_
  refine And.intro ⟨by decide,by decide⟩ ?_
  refine gO ?_
  refine And.intro ⟨hn 1,by decide,hm 1⟩ ?_
  refine gO ?_
  refine And.intro (hr 1) ?_
  refine gO ?_
  refine And.intro ⟨by decide,by decide⟩ ?_
  refine gO ?_
  refine And.intro ⟨hn 1,by decide,hm 1⟩ ?_
  refine gO ?_
  refine And.intro ⟨by decide,by decide⟩ ?_
  exact ⟨2,⟨by omega,by omega,by omega⟩,(by decide),StLe.of (by repeat' (first|exact trivial|exact Ent.refl _|exact rfl|refine And.intro ?_ ?_)) (by repeat' (first|exact trivial|exact EntL.refl _|exact rfl|refine And.intro ?_ ?_))⟩
 | 2,_,hk4,hk5 =>
  refine gO ?_
  refine And.intro (fun _=>?_) (fun h=>Bool.noConfusion (show true=false from h))
  refine gO ?_
  refine And.intro (fun h=>Bool.noConfusion (show false=true from h)) (fun _=>?_)
  refine gO ?_
  refine And.intro ⟨by decide,by decide⟩ ?_
  refine gO ?_
  refine And.intro ⟨hn 2,by decide,hm 2⟩ ?_
  refine gO ?_
  refine And.intro (hr 2) ?_
  refine gO ?_
  refine And.intro ⟨by decide,by decide⟩ ?_
  refine gO ?_
  refine And.intro ⟨hn 2,by decide,hm 2⟩ ?_
  refine gO ?_
  refine And.intro ⟨by decide,by decide⟩ ?_
  exact ⟨3,⟨by omega,by omega,by omega⟩,(by decide),StLe.of (by repeat' (first|exact trivial|exact Ent.refl _|exact rfl|refine And.intro ?_ ?_)) (by repeat' (first|exact trivial|exact EntL.refl _|exact rfl|refine And.intro ?_ ?_))⟩
 | 3,_,hk4,hk5 =>
  refine gO ?_
  refine And.intro (fun _=>?_) (fun h=>Bool.noConfusion (show true=false from h))
  refine gO ?_
  refine And.intro (fun h=>Bool.noConfusion (show false=true from h)) (fun _=>?_)
  refine gO ?_
  refine And.intro ⟨by decide,by decide⟩ ?_
  refine gO ?_
  refine And.intro ⟨hn 3,by decide,hm 3⟩ ?_
  refine gO ?_
  refine And.intro (hr 3) ?_
  refine gO ?_
  refine And.intro ⟨by decide,by decide⟩ ?_
  refine gO ?_
  refine And.intro ⟨hn 3,by decide,hm 3⟩ ?_
  refine gO ?_
  refine And.intro ⟨by decide,by decide⟩ ?_
  exact ⟨4,⟨by omega,by omega,by omega⟩,(by decide),StLe.of (by repeat' (first|exact trivial|exact Ent.refl _|exact rfl|refine And.intro ?_ ?_)) (by repeat' (first|exact trivial|exact EntL.refl _|exact rfl|refine And.intro ?_ ?_))⟩
 | 4,_,hk4,hk5 =>
  refine gO ?_
  refine And.intro (fun _=>?_) (fun h=>Bool.noConfusion (show true=false from h))
  refine gO ?_
  refine And.intro (fun h=>?_) (fun h=>?_)
  ·have h:(dv 4 c==0)=true:=h
   refine gO ?_
   refine And.intro ⟨by decide,by decide⟩ ?_
   refine gO ?_
   refine EntR.str ?_
   simp only[beq_iff_eq] at h
   simp only[hexS,hexL,hv,if_true,h]
   rfl
  have h:(dv 4 c==0)=false:=h
  have h:¬dv 4 c=0:=by simpa using h
  refine gO ?_
  refine And.intro ⟨by decide,by decide⟩ ?_
  refine gO ?_
  refine And.intro ⟨hn 4,by decide,hm 4⟩ ?_
  refine gO ?_
  refine And.intro (hr 4) ?_
  refine gO ?_
  refine And.intro ⟨by decide,by decide⟩ ?_
  refine gO ?_
  refine And.intro ⟨hn 4,by decide,hm 4⟩ ?_
  refine gO ?_
  refine And.intro ⟨by decide,by decide⟩ ?_
  exact ⟨5,⟨by omega,fun _=>h,by omega⟩,(by decide),StLe.of (by repeat' (first|exact trivial|exact Ent.refl _|exact rfl|refine And.intro ?_ ?_)) (by repeat' (first|exact trivial|exact EntL.refl _|exact rfl|refine And.intro ?_ ?_))⟩
 | 5,_,hk4,hk5 =>
  refine gO ?_
  refine And.intro (fun _=>?_) (fun h=>Bool.noConfusion (show true=false from h))
  refine gO ?_
  refine And.intro (fun h=>?_) (fun h=>?_)
  ·have h:(dv 5 c==0)=true:=h
   refine gO ?_
   refine And.intro ⟨by decide,by decide⟩ ?_
   refine gO ?_
   refine EntR.str ?_
   simp only[beq_iff_eq] at h
   have h4:=hk4 (by omega)
   simp only[hexS,hexL,hv,if_true,h,h4,if_false]
   rfl
  have h:(dv 5 c==0)=false:=h
  have h:¬dv 5 c=0:=by simpa using h
  refine gO ?_
  refine And.intro ⟨by decide,by decide⟩ ?_
  refine gO ?_
  refine And.intro ⟨hn 5,by decide,hm 5⟩ ?_
  refine gO ?_
  refine And.intro (hr 5) ?_
  refine gO ?_
  refine And.intro ⟨by decide,by decide⟩ ?_
  refine gO ?_
  refine And.intro ⟨hn 5,by decide,hm 5⟩ ?_
  refine gO ?_
  refine And.intro ⟨by decide,by decide⟩ ?_
  exact ⟨6,⟨by omega,fun _=>hk4 (by omega),fun _=>h⟩,(by decide),StLe.of (by repeat' (first|exact trivial|exact Ent.refl _|exact rfl|refine And.intro ?_ ?_)) (by repeat' (first|exact trivial|exact EntL.refl _|exact rfl|refine And.intro ?_ ?_))⟩
 | 6,_,hk4,hk5 =>
  refine gO ?_
  refine And.intro (fun h=>Bool.noConfusion (show false=true from h)) (fun _=>?_)
  refine gO ?_
  refine And.intro ⟨by decide,by decide⟩ ?_
  refine gO ?_
  refine EntR.str ?_
  have h4:=hk4 (by omega)
  have h5:=hk5 (by omega)
  simp only[hexS,hexL,hv,if_true,h4,h5,if_false]
  rfl
theorem tail_length (c:Int):∀ k,(tail k c).length=k
 | 0=>rfl
 | k+1=>by simp[tail,tail_length c k]
def digS:ByteArray:=⟨#[48,49,50,51,52,53,54,55,56,57,65,66,67,68,69,70]⟩
theorem digs_all:∀ m:Fin 16,(digS.data.toList.take (m.1+1)).drop m.1=[UInt8.ofNat (([48,49,50,51,52,53,54,55,56,57,65,66,67,68,69,70]:List Int).getD (m.1*1+0) 0).toNat]:=by decide
theorem bcut_dig {n:Int}:bcut digS (n % 16).toNat (n % 16+1).toNat=⟨⟨[dig n]⟩⟩:=by
 have h1:(n % 16+1).toNat=(n % 16).toNat+1:=by omega
 have h2:(n % 16).toNat<16:=by omega
 have:=digs_all ⟨(n % 16).toNat,h2⟩
 simp only[bcut,h1]
 exact congrArg (fun l=>(⟨⟨l⟩⟩:ByteArray)) this
theorem bcat_size (x y:ByteArray):(bcat x y).size=x.size+y.size:=by
 cases x;cases y;simp[bcat,ByteArray.size]
theorem bcat_assoc (x y z:ByteArray):bcat (bcat x y) z=bcat x (bcat y z):=by
 simp[bcat]
theorem size_mk (l:List UInt8):(⟨⟨l⟩⟩:ByteArray).size=l.length:=by simp[ByteArray.size]
theorem hexS_of {c:Int}(hv:validB c=true) {k:Nat}(hk:k≤6) (h4:4≤k) (h0:k<6→dv k c=0) (h5:5≤k→¬dv 4 c=0) (h6:6≤k→¬dv 5 c=0):(⟨⟨tail k c⟩⟩:ByteArray)=hexS c:=by
 have:k=4∨k=5∨k=6:=by omega
 rcases this with rfl|rfl|rfl
 ·simp only[hexS,hexL,hv,if_true,h0 (by omega)]
 ·simp only[hexS,hexL,hv,if_true,h5 (by omega),h0 (by omega),if_false]
 ·simp only[hexS,hexL,hv,if_true,h5 (by omega),h6 (by omega),if_false]
theorem hexS_size (c:Int):(hexS c).size≤6:=by
 unfold hexS hexL
 split
 ·split
  ·rw[size_mk,tail_length];omega
  ·split<;>rw[size_mk,tail_length]<;>omega
 ·simp[size_mk]
set_option maxHeartbeats 1000000 in
theorem rHex_ok:Sound Tryz.prog (GlT mx pb) 105 ctHex:=by
 refine sound_by (cc:=false) Γhx_ok Tryz.T_ok Tryz.mixed Tryz.func105 rfl (by kernel_rfl) (fun _=>rfl) (fun _ _=>by show 1≤25;decide) ?_
 intro (c:Int) _
 refine gO ?_
 refine ⟨c,EntL.refl _,trivial,?_⟩
 refine gO ?_
 refine And.intro (fun h=>?_) (fun h=>?_)
 ·refine gO ?_
  refine EntR.str ?_
  have:validB c=false:=by simpa using h
  simp only[hexS,hexL,this]
  rfl
 have hv:validB c=true:=by simpa using h
 have hv':=validB_iff.1 hv
 have hn:∀ k,0≤dv k c:=dv_nonneg hv'.1
 have hm:∀ k,dv k c≤9223372036854775807:=fun k=>by have:=dv_le hv'.1 k;omega
 have h60:dv 6 c=0:=by simp only[dv];omega
 refine gO ?_
 refine ⟨0,Nat,fun k=>⟨[(0,.v (.int .i64 (dv k c))),(3,.v (.string ⟨⟨tail k c⟩⟩))],[],[]⟩,fun k=>k≤6∧(5≤k→¬dv 4 c=0)∧(6≤k→¬dv 5 c=0),fun k=>6 - k,fun _=>Nat.zero_le _,⟨0,⟨by omega,by omega,by omega⟩,StLe.of (by repeat' (first|exact trivial|exact Ent.refl _|exact rfl|refine And.intro ?_ ?_)) trivial⟩,?_⟩
 rintro k ⟨hk,hk4,hk5⟩
 have hsz:(⟨⟨tail k c⟩⟩:ByteArray).size=k:=by rw[size_mk,tail_length]
 refine gO ?_
 refine And.intro (fun h=>?_) (fun h=>?_)
 ·have h:(bif decide (((⟨⟨tail k c⟩⟩:ByteArray).size:Int)<4) then true else decide (dv k c>0))=true:=h
  rw[hsz] at h
  have h:(k:Int)<4∨dv k c>0:=by
   by_cases h4:(k:Int)<4
   ·exact .inl h4
   ·right;simpa[h4] using h
  have hk6:k<6:=by
   rcases h with h|h
   ·omega
   ·by_cases hk6:k=6
    ·subst hk6;omega
    ·omega
  refine gO ?_
  refine And.intro ⟨hn k,by decide,hm k⟩ ?_
  refine gO ?_
  refine And.intro ⟨hn k,by decide,hm k⟩ ?_
  refine gO ?_
  refine And.intro (show fitsI64 (dv k c % 16+1) from ⟨by omega,by omega⟩) ?_
  refine gO ?_
  refine And.intro ?_ ?_
  ·show 0≤dv k c % 16∧dv k c % 16≤dv k c % 16+1∧dv k c % 16+1≤(16:Nat)
   omega
  refine gO ?_
  refine And.intro ?_ ?_
  ·show (bcut digS (dv k c % 16).toNat (dv k c % 16+1).toNat).size+(⟨⟨tail k c⟩⟩:ByteArray).size≤9223372036854775807
   rw[bcut_dig,hsz,size_mk]
   simp;omega
  refine gO ?_
  refine And.intro ⟨hn k,by decide,hm k⟩ ?_
  refine gO ?_
  refine ⟨k+1,⟨by omega,fun h5=>?_,fun h6=>?_⟩,(show 6 - (k+1)<6 - k by omega),StLe.of ⟨Ent.refl _,rfl,?_,rfl,trivial⟩ trivial⟩
  ·by_cases hk4':k=4
   ·subst hk4'
    rcases h with h|h<;>omega
   ·exact hk4 (by omega)
  ·have:k=5:=by omega
   subst this
   rcases h with h|h<;>omega
  ·show Ent (.v (.string (bcat (bcut digS (dv k c % 16).toNat (dv k c % 16+1).toNat) ⟨⟨tail k c⟩⟩))) (.v (.string ⟨⟨tail (k+1) c⟩⟩))
   rw[bcut_dig]
   exact Ent.refl _
 ·have h:(bif decide (((⟨⟨tail k c⟩⟩:ByteArray).size:Int)<4) then true else decide (dv k c>0))=false:=h
  rw[hsz] at h
  have h:¬(k:Int)<4∧¬dv k c>0:=by
   by_cases h4:(k:Int)<4
   ·simp[h4] at h
   ·exact ⟨h4,by simpa[h4] using h⟩
  have:=hn k
  refine gO ?_
  exact EntR.str (hexS_of hv hk (by omega) (fun _=>by omega) hk4 hk5)
end Go.Proofs
