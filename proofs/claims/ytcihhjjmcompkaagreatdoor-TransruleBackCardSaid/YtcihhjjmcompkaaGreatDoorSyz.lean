import Derived.Test.YtcihhjjmcompkaaGreatDoorCvz
import Derived.Test.YtcihhjjmcompkaaGreatDoorBz
import Derived.Test.YtcihhjjmcompkaaGreatDoorGc
import Derived.Test.YtcihhjjmcompkaaGreatDoorUz
set_option linter.unusedVariables false
set_option linter.unusedSimpArgs false
namespace Go.Proofs
open Go Go.Sx
variable {mx:Int}{pb:Bool}
theorem zjp {s:ByteArray}{k:Nat}(h:k<s.size):bAt s k=((s.data.toList[k]'h).toNat:Int):=by
 unfold bAt
 rw[List.getElem?_eq_getElem h]
 rfl
theorem u8_eqZ {a:UInt8}{c:UInt8}:((a.toNat:Int)=(c.toNat:Int))↔a=c:=by
 constructor
 ·intro h
  have:a.toNat=c.toNat:=by omega
  exact UInt8.toNat_inj.1 this
 ·intro h;rw[h]
def zdf:List UInt8→List UInt8
 | []=>[]
 | b::l=>if b=48 then zdf l else b::l
def zc2 (l:List UInt8):List UInt8:=if zdf l=[] then [48] else zdf l
theorem zjh:∀ l,(zdf l).length≤l.length
 | []=>Nat.le_refl _
 | b::l=>by
  have:=zjh l
  unfold zdf
  split<;>simp<;>omega
theorem dropZ_at {l:List UInt8}{k:Nat}(hk:k<l.length):zdf (l.drop k)=if l[k]=48 then zdf (l.drop (k+1)) else l.drop k:=by
 rw[List.drop_eq_getElem_cons hk,zdf]
theorem bcut1 (l:List UInt8) (k:Nat):zcd ⟨⟨l.drop k⟩⟩ 1 (l.drop k).length=⟨⟨l.drop (k+1)⟩⟩:=by
 show (⟨⟨((l.drop k).take (l.drop k).length).drop 1⟩⟩:ByteArray)=_
 rw[List.take_length,List.drop_drop]
theorem bAt_drop {l:List UInt8}{k:Nat}(h:k<l.length):bAt ⟨⟨l.drop k⟩⟩ 0=(l[k].toNat:Int):=by
 have hsk:(⟨⟨l.drop k⟩⟩:ByteArray).size=l.length - k:=by show (l.drop k).length=_;rw[List.length_drop]
 rw[zjp (by rw[hsk];omega)]
 show (((l.drop k)[0]'_).toNat:Int)=_
 rw[List.getElem_drop]
 rfl
def tzB (s:ByteArray):ByteArray:=⟨⟨zdf s.data.toList⟩⟩
theorem tzB_size (s:ByteArray):(tzB s).size≤s.size:=zjh _
def ctTrimB:Ct:={ ι:=ByteArray,inp:=fun s=>[.v (.string s),.v (.int .u8 48)],out:=fun s=>.v (.string (tzB s)),pre:=fun s=>s.size≤1000000 }
set_option maxHeartbeats 1000000 in
theorem trimB_ok:zay Tryz.prog (GlT mx pb) 113 ctTrimB:=by
 refine zah (cc:=true) zbj Tryz.T_ok Tryz.mixed Tryz.func113 rfl (by kernel_rfl) (fun _=>rfl) (fun _ _=>by show 2≤17;decide) ?_
 intro (s:ByteArray) (hs:s.size≤1000000)
 have hsz:s.data.toList.length=s.size:=rfl
 obtain ⟨l,hl⟩:∃ l,l=s.data.toList:=⟨_,rfl⟩
 have hs2:s=⟨⟨l⟩⟩:=by rw[hl]
 subst hs2
 repeat' (first|refine gl ?_|(first|refine br ?_ ?_|refine brF ?_ ?_)<;>intro q_<;>try simp only[nz] at q_)
 refine ⟨0,Nat,fun k=>⟨[(0,.v (.string ⟨⟨l.drop k⟩⟩)),(1,.v (.int .u8 48))],[],[]⟩,fun k=>k≤l.length∧zdf (l.drop k)=zdf l,fun k=>l.length - k,fun _=>Nat.zero_le _,⟨0,⟨Nat.zero_le _,by rw[List.drop_zero]⟩,zaf [] ⟨Ent.v (by rw[List.drop_zero]),rfl,zab _,rfl,trivial⟩ trivial (by decide)⟩,?_⟩
 rintro k ⟨hk,hd⟩
 have hsk:(⟨⟨l.drop k⟩⟩:ByteArray).size=l.length - k:=by show (l.drop k).length=_;rw[List.length_drop]
 by_cases hlt:k<l.length
 ·have hb:=bAt_drop hlt
  have h48:((l[k].toNat:Int)=48)↔l[k]=48:=u8_eqZ (c:=48)
  repeat' (first|refine gl ?_|(first|refine br ?_ ?_|refine brF ?_ ?_)<;>intro q_<;>try simp only[nz] at q_)
  ·exact ⟨k+1,⟨by omega,by rw[← hd,dropZ_at hlt,if_pos (h48.1 (hb.symm.trans q_))]⟩,(by show l.length - (k+1)<l.length - k;omega),zaf [] ⟨Ent.v (congrArg Value.string (bcut1 l k)),rfl,zab _,rfl,trivial⟩ trivial (by decide)⟩
  ·refine EntR.str ?_
   show (⟨⟨l.drop k⟩⟩:ByteArray)=⟨⟨zdf l⟩⟩
   rw[← hd,dropZ_at hlt,if_neg (fun h=>q_ (hb.trans (h48.2 h)))]
 ·have he:l.drop k=[]:=List.drop_eq_nil_of_le (by omega)
  repeat' (first|refine gl ?_|(first|refine br ?_ ?_|refine brF ?_ ?_)<;>intro q_<;>try simp only[nz] at q_)
  refine EntR.str ?_
  show (⟨⟨l.drop k⟩⟩:ByteArray)=⟨⟨zdf l⟩⟩
  rw[← hd,he]
  rfl
def zB:ByteArray:=⟨#[48]⟩
def ctTrimZ:Ct:={ ι:=ByteArray,inp:=fun s=>[.v (.string s),.v (.string zB)],out:=fun s=>.v (.string (tzB s)),pre:=fun s=>s.size≤1000000 }
noncomputable def Γtz:Ctx:=fun f=>match f with
 | 113=>some (.pure ctTrimB)
 | _=>none
theorem Γtz_ok:za1 Tryz.prog (GlT mx pb) Γtz:=by
 intro f h hh
 simp only[Γtz] at hh
 split at hh<;>simp at hh<;>subst hh
 ·exact trimB_ok
set_option maxHeartbeats 1000000 in
theorem trimZ_ok:zay Tryz.prog (GlT mx pb) 97 ctTrimZ:=by
 refine zah (cc:=true) Γtz_ok Tryz.T_ok Tryz.mixed Tryz.func97 rfl (by kernel_rfl) (fun _=>rfl) (fun _ _=>by show 2≤37;decide) ?_
 intro (s:ByteArray) (hs:s.size≤1000000)
 have p1:ctTrimB.pre s:=hs
 have hz1:(zB.size:Int)=1:=rfl
 have hz2:zB.size=1:=rfl
 by_cases h0:s=⟨#[]⟩
 ·subst h0
  repeat' (first|refine gd ?_|(first|refine br ?_ ?_|refine brF ?_ ?_)<;>intro q_<;>try simp only[nz] at q_)
  exact EntR.str rfl
 ·repeat' (first|refine gd ?_|(first|refine br ?_ ?_|refine brF ?_ ?_)<;>intro q_<;>try simp only[nz] at q_)
  exact EntR.str rfl
def zhq (c:Int):List UInt8:=[92,117,123]++zc2 (zfp c)++[125]
theorem shortL_len (c:Int):(zc2 (zfp c)).length≤6:=by
 have h1:=zjh (zfp c)
 have h2:(zfp c).length≤6:=hexS_size c
 unfold zc2
 split
 ·simp
 ·omega
theorem escL_len (c:Int):(zhq c).length≤10:=by
 have:=shortL_len c
 simp only[zhq,List.length_append,List.length_cons,List.length_nil]
 omega
def escS (c:Int):ByteArray:=⟨⟨zhq c⟩⟩
theorem zjf (c:Int):(escS c).size≤10:=escL_len c
def ctCode:Ct:={ ι:=Int,inp:=fun c=>[.v (.int .i64 c)],out:=fun c=>.v (.string (escS c)),pre:=fun c=>zbb c=true }
noncomputable def Γcd (mx:Int) (pb:Bool):Ctx:=fun f=>match f with
 | 98=>some (.pure ctHex)
 | 97=>some (.pure ctTrimZ)
 | _=>none
theorem Γcd_ok:za1 Tryz.prog (GlT mx pb) (Γcd mx pb):=by
 intro f h hh
 simp only[Γcd] at hh
 split at hh<;>simp at hh<;>subst hh
 ·exact hex_ok
 ·exact trimZ_ok
set_option maxHeartbeats 1000000 in
theorem code_ok:zay Tryz.prog (GlT mx pb) 51 ctCode:=by
 refine zah (cc:=true) Γcd_ok Tryz.T_ok Tryz.mixed Tryz.func51 rfl (by kernel_rfl) (fun _=>rfl) (fun _ _=>by show 1≤12;decide) ?_
 intro (c:Int) (hc:zbb c=true)
 have p1:ctTrimZ.pre (hexS c):=by have:=hexS_size c;show (hexS c).size≤1000000;omega
 have hl:(tzB (hexS c)).size≤6:=Nat.le_trans (tzB_size _) (hexS_size c)
 by_cases h0:tzB (hexS c)=⟨#[]⟩
 ·have h1:zdf (zfp c)=[]:=by
   have:=congrArg (fun b:ByteArray=>b.data.toList) h0
   exact this
  repeat' (first|refine gl ?_|(first|refine br ?_ ?_|refine brF ?_ ?_)<;>intro q_<;>try simp only[nz] at q_)
  refine EntR.str ?_
  show _=(⟨⟨zhq c⟩⟩:ByteArray)
  rw[zhq,zc2,if_pos h1]
  rfl
 ·have h1:¬zdf (zfp c)=[]:=fun h=>h0 (by show (⟨⟨zdf (zfp c)⟩⟩:ByteArray)=_;rw[h])
  repeat' (first|refine gl ?_|(first|refine br ?_ ?_|refine brF ?_ ?_)<;>intro q_<;>try simp only[nz] at q_)
  refine EntR.str ?_
  show _=(⟨⟨zhq c⟩⟩:ByteArray)
  rw[zhq,zc2,if_neg h1]
  rfl
end Go.Proofs
namespace Go.Proofs
open Go Go.Sx
variable {mx:Int}{pb:Bool}
def dashB:ByteArray:=⟨#[45]⟩
def rgW (b:ByteArray) (r:Rg):ByteArray:=if r.2=r.1 then zbq b (escS r.1) else zbq (zbq b (escS r.1)) (zbq dashB (escS r.2))
def zh4 (C:List Rg):Nat→ByteArray
 | 0=>⟨#[91]⟩
 | k+1=>rgW (zh4 C k) (C.getD k default)
def shutB:ByteArray:=⟨#[93]⟩
def zca (l:List Rg):ByteArray:=zbq (zh4 (canon l) (canon l).length) shutB
theorem rgW_size (b:ByteArray) (r:Rg):(rgW b r).size≤b.size+21:=by
 have h1:=zjf r.1
 have h2:=zjf r.2
 have h3:dashB.size=1:=rfl
 unfold rgW
 split<;>simp only[zba,h3]<;>omega
theorem setTK_size (C:List Rg):∀ k,(zh4 C k).size≤1+21*k
 | 0=>Nat.le_refl _
 | k+1=>by
  have h1:=setTK_size C k
  have h2:=rgW_size (zh4 C k) (C.getD k default)
  show (rgW _ _).size≤_
  omega
end Go.Proofs
