import Derived.Test.YtnimkdbpoeondaaGreatDoorBz
set_option linter.all false
set_option maxHeartbeats 4000000
namespace Go.Proofs
open Go Go.Sx
variable {mx:Int}{pb:Bool}
structure Mp where
 frm:Int
 to:List Int
 tag:ByteArray
instance:Inhabited Mp:=⟨⟨0,[],ByteArray.empty⟩⟩
def mpD (m:Mp):Nat->D
 | 0=>.v (.int .i64 m.frm)
 | 1=>slD 1 znt m.to
 | 2=>.v (.string m.tag)
 | _=>.junk
def mpA (m:Mp):D:=.ag [mpD m 0,mpD m 1,mpD m 2]
def za0 (l:List Mp):D:=slD 3 mpD l
def ctNanS:Ct:={ ι:=ByteArray,inp:=fun c=>[.v (.string c)],out:=fun _=>.v (.bool false),pre:=fun _=>True }
theorem nanS_ok:SS mx pb 278 ctNanS:=by
 refine sb (cc:=false) zH Tryz.func278 ?_;intro (c:ByteArray) _;refine gO ?_;refine ze ?_;show (!eqB c c)=false;rw[yC.2 rfl];rfl
def lessS (a b:ByteArray):Bool:=Op.bytesLess a.data.toList b.data.toList
def gtrS (a b:ByteArray):Bool := !(Op.bytesLess a.data.toList b.data.toList||a.data.toList==b.data.toList)
def cmpS (a b:ByteArray):Int:=if lessS a b=true then -1 else if gtrS a b=true then 1 else 0
def ctCmpS:Ct:={ ι:=ByteArray × ByteArray,inp:=fun x=>[.v (.string x.1),.v (.string x.2)],out:=fun x=>.v (.int .i64 (cmpS x.1 x.2)),pre:=fun _=>True }
def Γn:Ctx:=fun f=>match f with
 | 114=>some (.pure ctNanI)
 | 278=>some (.pure ctNanS)
 | _=>none
theorem Γn_ok:CK mx pb Γn:=by
 intro f h hh;simp only[Γn] at hh;split at hh<;>simp at hh<;>subst hh
 ·exact nanI_ok
 ·exact nanS_ok
theorem cmpS_ok:SS mx pb 277 ctCmpS:=by
 refine sb (cc:=false) Γn_ok Tryz.func277 ?_;intro ((a:ByteArray),(b:ByteArray)) _;refine gO ?_;refine ⟨a,eL,trivial,?_⟩
 refine gO ?_;refine ⟨b,eL,trivial,?_⟩
 refine gO ?_;refine And.intro (fun h=>Bool.noConfusion (show false=true from h)) (fun _=>?_)
 refine gO ?_;refine And.intro (fun h=>Bool.noConfusion (show false=true from h)) (fun _=>?_)
 refine gO ?_;refine And.intro (fun h=>?_) (fun h=>?_)
 ·have h:lessS a b=true:=h;refine gO ?_;exact zf (by simp[cmpS,h])
 have h:lessS a b=false:=h;refine gO ?_;refine And.intro (fun h1=>?_) (fun h1=>?_)
 ·have h1:gtrS a b=true:=h1;refine gO ?_;exact zf (by simp[cmpS,h,h1])
 have h1:gtrS a b=false:=h1;refine gO ?_;exact zf (by simp[cmpS,h,h1])
def cmpM (x y:Mp):Int:=if zoq x.frm y.frm=0 then cmpS x.tag y.tag else zoq x.frm y.frm
def zmi:Ct:={ ι:=Mp × Mp,inp:=fun x=>[mpA x.1,mpA x.2],out:=fun x=>.v (.int .i64 (cmpM x.1 x.2)),pre:=fun _=>True }
def Γm:Ctx:=fun f=>match f with
 | 86=>some (.pure ctCmpI)
 | 277=>some (.pure ctCmpS)
 | 85=>some (.pure ctOr)
 | 77=>some (.pure ctValid)
 | 81=>some (.pure ctValid)
 | _=>none
theorem Γm_ok:CK mx pb Γm:=by
 intro f h hh;simp only[Γm] at hh;split at hh<;>simp at hh<;>subst hh
 ·exact cmpI_ok
 ·exact cmpS_ok
 ·exact or_ok
 ·exact zci
 ·exact zcm
theorem compare_ok:SS mx pb 274 zmi:=by
 refine sb (cc:=false) Γm_ok Tryz.func274 ?_;intro ((x:Mp),(y:Mp)) _;refine gO ?_
 first|refine wo5 ?_|refine And.intro (by kernel_rfl) ?_
 refine gO ?_;refine ⟨(x.frm,y.frm),eL,fun _=>trivial,?_⟩
 refine gO ?_;refine ⟨(x.tag,y.tag),eL,fun _=>trivial,?_⟩
 refine gO ?_;refine ⟨(zoq x.frm y.frm,cmpS x.tag y.tag),eL,fun _=>trivial,?_⟩
 refine gO ?_;exact zf rfl
def keyD (m:Mp):D:=.ag [.v (.int .i64 m.frm),.v (.string m.tag)]
def ctKeyOf:Ct:={ ι:=Mp,inp:=fun x=>[mpA x],out:=fun x=>keyD x,pre:=fun _=>True }
theorem keyOf_ok:SS mx pb 275 ctKeyOf:=by
 refine sb (cc:=false) zH Tryz.func275 ?_;intro (x:Mp) _;refine gO ?_;exact eR
def zdc (a b:Mp):Bool:=bif decide (a.frm<b.frm) then true else (bif a.frm==b.frm then lessS a.tag b.tag else false)
def ctBefore:Ct:={ ι:=Mp × Mp,inp:=fun x=>[mpA x.1,mpA x.2],out:=fun x=>.v (.bool (zdc x.1 x.2)),pre:=fun _=>True }
theorem rbefore_ok:SS mx pb 213 ctBefore:=by
 refine sb (cc:=true) zH Tryz.func213 ?_;intro ((x:Mp),(y:Mp)) _;refine gT ?_;generalize hp:decide (x.frm<y.frm)=p;cases p with
 | true =>
  refine gT ?_;exact ze (by simp only[zdc,hp];rfl)
 | false =>
  refine gT ?_;generalize hq:(x.frm==y.frm)=q;cases q with
  | true =>
   refine gT ?_;exact ze (by simp only[zdc,hp,hq];rfl)
  | false =>
   refine gT ?_;exact ze (by simp only[zdc,hp,hq];rfl)
theorem isName_ok:SS mx pb 276 ctName:=by
 refine sb (cc:=true) zH Tryz.func276 ?_;intro (s:ByteArray) (hs:s.size<=9223372036854775807)
 refine gT ?_;generalize hp : @decide (s=⟨#[]⟩) (zed s ⟨#[]⟩)=p;have hp:eqB s ⟨#[]⟩=p:=hp;cases p with
 | true =>
  refine gT ?_;refine ze ?_;have:=zma.1 hp;simp[yh,this]
 | false =>
 refine gT ?_;refine And.intro (fun h=>?_) (fun h=>?_)
 ·have h:decide ((s.size:Int)>32)=true:=h;refine gT ?_;refine ze ?_;have h:¬s.size<=32:=by simp at h;omega
  simp[yh,h]
 have h:decide ((s.size:Int)>32)=false:=h;have h12:1<=s.size/\s.size<=32:=by
  have h0:¬s.size=0:=fun e=>by rw[zma.2 e] at hp;simp at hp
  simp at h;omega
 refine gO ?_;refine ⟨0,Nat,fun k=>⟨[(0,.v (.string s)),(14,.v (.int .i64 s.size)),(15,.v (.int .i64 k))],[],[]⟩,fun k=>k<=s.size/\∀ j,j<k->zA (bAt s j)=true,fun k=>s.size - k,fun _=>Nat.zero_le _,⟨0,⟨Nat.zero_le _,fun j hj=>by omega⟩,StLe.of tmS trivial⟩,?_⟩
 rintro k ⟨hk,hd⟩
 refine gO ?_;refine And.intro (fun h=>?_) (fun h=>?_)
 ·have h:k<s.size:=by simpa using h
  refine gO ?_;refine And.intro (by omega) ?_;refine gO ?_;refine gT ?_;generalize hp1:decide (bAt s ((k:Int)).toNat>=65)=p1;cases p1 with
  | false =>
   refine gT ?_;generalize hp3:decide (bAt s ((k:Int)).toNat>=97)=p3;cases p3 with
   | false =>
    refine gT ?_;generalize hp5:decide (bAt s ((k:Int)).toNat>=48)=p5;cases p5 with
    | false =>
     refine gT ?_;generalize hp7:(bAt s ((k:Int)).toNat != 95)=p7;cases p7 with
     | false =>
      have hq7:(bAt s ((k:Int)).toNat==95)=true:=by simpa[bne] using hp7
      have hy:zA (bAt s ((k:Int)).toNat)=true:=by
       simp only[zA,hp1,hp3,hp5,hq7];simp
      rw[Int.toNat_natCast] at hy;refine gT ?_;refine And.intro (show zs ((k:Int)+1) from ⟨by omega,by omega⟩) ?_;refine gT ?_;exact ⟨k+1,⟨by omega,zo hd hy⟩,(show s.size - (k+1)<s.size - k by omega),StLe.of tmS trivial⟩
     | true =>
      have hq7:(bAt s ((k:Int)).toNat==95)=false:=by simpa[bne] using hp7
      have hy:zA (bAt s ((k:Int)).toNat)=false:=by
       simp only[zA,hp1,hp3,hp5,hq7];simp
      rw[Int.toNat_natCast] at hy;refine gT ?_;exact ze (yQ h hy).symm
    | true =>
     refine gT ?_;generalize hp6:decide (bAt s ((k:Int)).toNat<=57)=p6;cases p6 with
     | false =>
      refine gT ?_;generalize hp7:(bAt s ((k:Int)).toNat != 95)=p7;cases p7 with
      | false =>
       have hq7:(bAt s ((k:Int)).toNat==95)=true:=by simpa[bne] using hp7
       have hy:zA (bAt s ((k:Int)).toNat)=true:=by
        simp only[zA,hp1,hp3,hp5,hp6,hq7];simp
       rw[Int.toNat_natCast] at hy;refine gT ?_;refine And.intro (show zs ((k:Int)+1) from ⟨by omega,by omega⟩) ?_;refine gT ?_;exact ⟨k+1,⟨by omega,zo hd hy⟩,(show s.size - (k+1)<s.size - k by omega),StLe.of tmS trivial⟩
      | true =>
       have hq7:(bAt s ((k:Int)).toNat==95)=false:=by simpa[bne] using hp7
       have hy:zA (bAt s ((k:Int)).toNat)=false:=by
        simp only[zA,hp1,hp3,hp5,hp6,hq7];simp
       rw[Int.toNat_natCast] at hy;refine gT ?_;exact ze (yQ h hy).symm
     | true =>
      have hy:zA (bAt s ((k:Int)).toNat)=true:=by
       simp only[zA,hp1,hp3,hp5,hp6];simp
      rw[Int.toNat_natCast] at hy;refine gT ?_;refine And.intro (show zs ((k:Int)+1) from ⟨by omega,by omega⟩) ?_;refine gT ?_;exact ⟨k+1,⟨by omega,zo hd hy⟩,(show s.size - (k+1)<s.size - k by omega),StLe.of tmS trivial⟩
   | true =>
    refine gT ?_;generalize hp4:decide (bAt s ((k:Int)).toNat<=122)=p4;cases p4 with
    | false =>
     refine gT ?_;generalize hp5:decide (bAt s ((k:Int)).toNat>=48)=p5;cases p5 with
     | false =>
      refine gT ?_;generalize hp7:(bAt s ((k:Int)).toNat != 95)=p7;cases p7 with
      | false =>
       have hq7:(bAt s ((k:Int)).toNat==95)=true:=by simpa[bne] using hp7
       have hy:zA (bAt s ((k:Int)).toNat)=true:=by
        simp only[zA,hp1,hp3,hp4,hp5,hq7];simp
       rw[Int.toNat_natCast] at hy;refine gT ?_;refine And.intro (show zs ((k:Int)+1) from ⟨by omega,by omega⟩) ?_;refine gT ?_;exact ⟨k+1,⟨by omega,zo hd hy⟩,(show s.size - (k+1)<s.size - k by omega),StLe.of tmS trivial⟩
      | true =>
       have hq7:(bAt s ((k:Int)).toNat==95)=false:=by simpa[bne] using hp7
       have hy:zA (bAt s ((k:Int)).toNat)=false:=by
        simp only[zA,hp1,hp3,hp4,hp5,hq7];simp
       rw[Int.toNat_natCast] at hy;refine gT ?_;exact ze (yQ h hy).symm
     | true =>
      refine gT ?_;generalize hp6:decide (bAt s ((k:Int)).toNat<=57)=p6;cases p6 with
      | false =>
       refine gT ?_;generalize hp7:(bAt s ((k:Int)).toNat != 95)=p7;cases p7 with
       | false =>
        have hq7:(bAt s ((k:Int)).toNat==95)=true:=by simpa[bne] using hp7
        have hy:zA (bAt s ((k:Int)).toNat)=true:=by
         simp only[zA,hp1,hp3,hp4,hp5,hp6,hq7];simp
        rw[Int.toNat_natCast] at hy;refine gT ?_;refine And.intro (show zs ((k:Int)+1) from ⟨by omega,by omega⟩) ?_;refine gT ?_;exact ⟨k+1,⟨by omega,zo hd hy⟩,(show s.size - (k+1)<s.size - k by omega),StLe.of tmS trivial⟩
       | true =>
        have hq7:(bAt s ((k:Int)).toNat==95)=false:=by simpa[bne] using hp7
        have hy:zA (bAt s ((k:Int)).toNat)=false:=by
         simp only[zA,hp1,hp3,hp4,hp5,hp6,hq7];simp
        rw[Int.toNat_natCast] at hy;refine gT ?_;exact ze (yQ h hy).symm
      | true =>
       have hy:zA (bAt s ((k:Int)).toNat)=true:=by
        simp only[zA,hp1,hp3,hp4,hp5,hp6];simp
       rw[Int.toNat_natCast] at hy;refine gT ?_;refine And.intro (show zs ((k:Int)+1) from ⟨by omega,by omega⟩) ?_;refine gT ?_;exact ⟨k+1,⟨by omega,zo hd hy⟩,(show s.size - (k+1)<s.size - k by omega),StLe.of tmS trivial⟩
    | true =>
     have hy:zA (bAt s ((k:Int)).toNat)=true:=by
      simp only[zA,hp1,hp3,hp4];simp
     rw[Int.toNat_natCast] at hy;refine gT ?_;refine And.intro (show zs ((k:Int)+1) from ⟨by omega,by omega⟩) ?_;refine gT ?_;exact ⟨k+1,⟨by omega,zo hd hy⟩,(show s.size - (k+1)<s.size - k by omega),StLe.of tmS trivial⟩
  | true =>
   refine gT ?_;generalize hp2:decide (bAt s ((k:Int)).toNat<=90)=p2;cases p2 with
   | false =>
    refine gT ?_;generalize hp3:decide (bAt s ((k:Int)).toNat>=97)=p3;cases p3 with
    | false =>
     refine gT ?_;generalize hp5:decide (bAt s ((k:Int)).toNat>=48)=p5;cases p5 with
     | false =>
      refine gT ?_;generalize hp7:(bAt s ((k:Int)).toNat != 95)=p7;cases p7 with
      | false =>
       have hq7:(bAt s ((k:Int)).toNat==95)=true:=by simpa[bne] using hp7
       have hy:zA (bAt s ((k:Int)).toNat)=true:=by
        simp only[zA,hp1,hp2,hp3,hp5,hq7];simp
       rw[Int.toNat_natCast] at hy;refine gT ?_;refine And.intro (show zs ((k:Int)+1) from ⟨by omega,by omega⟩) ?_;refine gT ?_;exact ⟨k+1,⟨by omega,zo hd hy⟩,(show s.size - (k+1)<s.size - k by omega),StLe.of tmS trivial⟩
      | true =>
       have hq7:(bAt s ((k:Int)).toNat==95)=false:=by simpa[bne] using hp7
       have hy:zA (bAt s ((k:Int)).toNat)=false:=by
        simp only[zA,hp1,hp2,hp3,hp5,hq7];simp
       rw[Int.toNat_natCast] at hy;refine gT ?_;exact ze (yQ h hy).symm
     | true =>
      refine gT ?_;generalize hp6:decide (bAt s ((k:Int)).toNat<=57)=p6;cases p6 with
      | false =>
       refine gT ?_;generalize hp7:(bAt s ((k:Int)).toNat != 95)=p7;cases p7 with
       | false =>
        have hq7:(bAt s ((k:Int)).toNat==95)=true:=by simpa[bne] using hp7
        have hy:zA (bAt s ((k:Int)).toNat)=true:=by
         simp only[zA,hp1,hp2,hp3,hp5,hp6,hq7];simp
        rw[Int.toNat_natCast] at hy;refine gT ?_;refine And.intro (show zs ((k:Int)+1) from ⟨by omega,by omega⟩) ?_;refine gT ?_;exact ⟨k+1,⟨by omega,zo hd hy⟩,(show s.size - (k+1)<s.size - k by omega),StLe.of tmS trivial⟩
       | true =>
        have hq7:(bAt s ((k:Int)).toNat==95)=false:=by simpa[bne] using hp7
        have hy:zA (bAt s ((k:Int)).toNat)=false:=by
         simp only[zA,hp1,hp2,hp3,hp5,hp6,hq7];simp
        rw[Int.toNat_natCast] at hy;refine gT ?_;exact ze (yQ h hy).symm
      | true =>
       have hy:zA (bAt s ((k:Int)).toNat)=true:=by
        simp only[zA,hp1,hp2,hp3,hp5,hp6];simp
       rw[Int.toNat_natCast] at hy;refine gT ?_;refine And.intro (show zs ((k:Int)+1) from ⟨by omega,by omega⟩) ?_;refine gT ?_;exact ⟨k+1,⟨by omega,zo hd hy⟩,(show s.size - (k+1)<s.size - k by omega),StLe.of tmS trivial⟩
    | true =>
     refine gT ?_;generalize hp4:decide (bAt s ((k:Int)).toNat<=122)=p4;cases p4 with
     | false =>
      refine gT ?_;generalize hp5:decide (bAt s ((k:Int)).toNat>=48)=p5;cases p5 with
      | false =>
       refine gT ?_;generalize hp7:(bAt s ((k:Int)).toNat != 95)=p7;cases p7 with
       | false =>
        have hq7:(bAt s ((k:Int)).toNat==95)=true:=by simpa[bne] using hp7
        have hy:zA (bAt s ((k:Int)).toNat)=true:=by
         simp only[zA,hp1,hp2,hp3,hp4,hp5,hq7];simp
        rw[Int.toNat_natCast] at hy;refine gT ?_;refine And.intro (show zs ((k:Int)+1) from ⟨by omega,by omega⟩) ?_;refine gT ?_;exact ⟨k+1,⟨by omega,zo hd hy⟩,(show s.size - (k+1)<s.size - k by omega),StLe.of tmS trivial⟩
       | true =>
        have hq7:(bAt s ((k:Int)).toNat==95)=false:=by simpa[bne] using hp7
        have hy:zA (bAt s ((k:Int)).toNat)=false:=by
         simp only[zA,hp1,hp2,hp3,hp4,hp5,hq7];simp
        rw[Int.toNat_natCast] at hy;refine gT ?_;exact ze (yQ h hy).symm
      | true =>
       refine gT ?_;generalize hp6:decide (bAt s ((k:Int)).toNat<=57)=p6;cases p6 with
       | false =>
        refine gT ?_;generalize hp7:(bAt s ((k:Int)).toNat != 95)=p7;cases p7 with
        | false =>
         have hq7:(bAt s ((k:Int)).toNat==95)=true:=by simpa[bne] using hp7
         have hy:zA (bAt s ((k:Int)).toNat)=true:=by
          simp only[zA,hp1,hp2,hp3,hp4,hp5,hp6,hq7];simp
         rw[Int.toNat_natCast] at hy;refine gT ?_;refine And.intro (show zs ((k:Int)+1) from ⟨by omega,by omega⟩) ?_;refine gT ?_;exact ⟨k+1,⟨by omega,zo hd hy⟩,(show s.size - (k+1)<s.size - k by omega),StLe.of tmS trivial⟩
        | true =>
         have hq7:(bAt s ((k:Int)).toNat==95)=false:=by simpa[bne] using hp7
         have hy:zA (bAt s ((k:Int)).toNat)=false:=by
          simp only[zA,hp1,hp2,hp3,hp4,hp5,hp6,hq7];simp
         rw[Int.toNat_natCast] at hy;refine gT ?_;exact ze (yQ h hy).symm
       | true =>
        have hy:zA (bAt s ((k:Int)).toNat)=true:=by
         simp only[zA,hp1,hp2,hp3,hp4,hp5,hp6];simp
        rw[Int.toNat_natCast] at hy;refine gT ?_;refine And.intro (show zs ((k:Int)+1) from ⟨by omega,by omega⟩) ?_;refine gT ?_;exact ⟨k+1,⟨by omega,zo hd hy⟩,(show s.size - (k+1)<s.size - k by omega),StLe.of tmS trivial⟩
     | true =>
      have hy:zA (bAt s ((k:Int)).toNat)=true:=by
       simp only[zA,hp1,hp2,hp3,hp4];simp
      rw[Int.toNat_natCast] at hy;refine gT ?_;refine And.intro (show zs ((k:Int)+1) from ⟨by omega,by omega⟩) ?_;refine gT ?_;exact ⟨k+1,⟨by omega,zo hd hy⟩,(show s.size - (k+1)<s.size - k by omega),StLe.of tmS trivial⟩
   | true =>
    have hy:zA (bAt s ((k:Int)).toNat)=true:=by
     simp only[zA,hp1,hp2];simp
    rw[Int.toNat_natCast] at hy;refine gT ?_;refine And.intro (show zs ((k:Int)+1) from ⟨by omega,by omega⟩) ?_;refine gT ?_;exact ⟨k+1,⟨by omega,zo hd hy⟩,(show s.size - (k+1)<s.size - k by omega),StLe.of tmS trivial⟩
 ·have h:k=s.size:=by simp at h;omega
  subst h;refine gO ?_;refine ze ?_;rw[zet hd];simp[h12]
theorem rname_ok:SS mx pb 233 ctName:=by
 refine sb (cc:=true) zH Tryz.func233 ?_;intro (s:ByteArray) (hs:s.size<=9223372036854775807)
 refine gO ?_;refine ⟨0,Nat,fun k=>⟨[(0,.v (.string s)),(3,.v (.int .i64 k))],[],[]⟩,fun k=>k<=s.size/\∀ j,j<k->zA (bAt s j)=true,fun k=>s.size - k,fun _=>Nat.zero_le _,⟨0,⟨Nat.zero_le _,fun j hj=>by omega⟩,StLe.of tmS trivial⟩,?_⟩
 rintro k ⟨hk,hd⟩
 refine gO ?_;refine And.intro (fun h=>?_) (fun h=>?_)
 ·have h:k<s.size:=by simpa using h
  refine gO ?_;refine And.intro (by omega) ?_;refine gO ?_;refine gT ?_;generalize hp1:decide (bAt s ((k:Int)).toNat>=65)=p1;cases p1 with
  | false =>
   refine gT ?_;generalize hp3:decide (bAt s ((k:Int)).toNat>=97)=p3;cases p3 with
   | false =>
    refine gT ?_;generalize hp5:decide (bAt s ((k:Int)).toNat>=48)=p5;cases p5 with
    | false =>
     refine gT ?_;generalize hp7:(bAt s ((k:Int)).toNat==95)=p7;cases p7 with
     | false =>
      have hy:zA (bAt s ((k:Int)).toNat)=false:=by
       simp only[zA,hp1,hp3,hp5,hp7];simp
      rw[Int.toNat_natCast] at hy;refine gT ?_;exact ze (yQ h hy).symm
     | true =>
      have hy:zA (bAt s ((k:Int)).toNat)=true:=by
       simp only[zA,hp1,hp3,hp5,hp7];simp
      rw[Int.toNat_natCast] at hy;refine gT ?_;refine And.intro (show zs ((k:Int)+1) from ⟨by omega,by omega⟩) ?_;refine gT ?_;exact ⟨k+1,⟨by omega,zo hd hy⟩,(show s.size - (k+1)<s.size - k by omega),StLe.of tmS trivial⟩
    | true =>
     refine gT ?_;generalize hp6:decide (bAt s ((k:Int)).toNat<=57)=p6;cases p6 with
     | false =>
      refine gT ?_;generalize hp7:(bAt s ((k:Int)).toNat==95)=p7;cases p7 with
      | false =>
       have hy:zA (bAt s ((k:Int)).toNat)=false:=by
        simp only[zA,hp1,hp3,hp5,hp6,hp7];simp
       rw[Int.toNat_natCast] at hy;refine gT ?_;exact ze (yQ h hy).symm
      | true =>
       have hy:zA (bAt s ((k:Int)).toNat)=true:=by
        simp only[zA,hp1,hp3,hp5,hp6,hp7];simp
       rw[Int.toNat_natCast] at hy;refine gT ?_;refine And.intro (show zs ((k:Int)+1) from ⟨by omega,by omega⟩) ?_;refine gT ?_;exact ⟨k+1,⟨by omega,zo hd hy⟩,(show s.size - (k+1)<s.size - k by omega),StLe.of tmS trivial⟩
     | true =>
      have hy:zA (bAt s ((k:Int)).toNat)=true:=by
       simp only[zA,hp1,hp3,hp5,hp6];simp
      rw[Int.toNat_natCast] at hy;refine gT ?_;refine And.intro (show zs ((k:Int)+1) from ⟨by omega,by omega⟩) ?_;refine gT ?_;exact ⟨k+1,⟨by omega,zo hd hy⟩,(show s.size - (k+1)<s.size - k by omega),StLe.of tmS trivial⟩
   | true =>
    refine gT ?_;generalize hp4:decide (bAt s ((k:Int)).toNat<=122)=p4;cases p4 with
    | false =>
     refine gT ?_;generalize hp5:decide (bAt s ((k:Int)).toNat>=48)=p5;cases p5 with
     | false =>
      refine gT ?_;generalize hp7:(bAt s ((k:Int)).toNat==95)=p7;cases p7 with
      | false =>
       have hy:zA (bAt s ((k:Int)).toNat)=false:=by
        simp only[zA,hp1,hp3,hp4,hp5,hp7];simp
       rw[Int.toNat_natCast] at hy;refine gT ?_;exact ze (yQ h hy).symm
      | true =>
       have hy:zA (bAt s ((k:Int)).toNat)=true:=by
        simp only[zA,hp1,hp3,hp4,hp5,hp7];simp
       rw[Int.toNat_natCast] at hy;refine gT ?_;refine And.intro (show zs ((k:Int)+1) from ⟨by omega,by omega⟩) ?_;refine gT ?_;exact ⟨k+1,⟨by omega,zo hd hy⟩,(show s.size - (k+1)<s.size - k by omega),StLe.of tmS trivial⟩
     | true =>
      refine gT ?_;generalize hp6:decide (bAt s ((k:Int)).toNat<=57)=p6;cases p6 with
      | false =>
       refine gT ?_;generalize hp7:(bAt s ((k:Int)).toNat==95)=p7;cases p7 with
       | false =>
        have hy:zA (bAt s ((k:Int)).toNat)=false:=by
         simp only[zA,hp1,hp3,hp4,hp5,hp6,hp7];simp
        rw[Int.toNat_natCast] at hy;refine gT ?_;exact ze (yQ h hy).symm
       | true =>
        have hy:zA (bAt s ((k:Int)).toNat)=true:=by
         simp only[zA,hp1,hp3,hp4,hp5,hp6,hp7];simp
        rw[Int.toNat_natCast] at hy;refine gT ?_;refine And.intro (show zs ((k:Int)+1) from ⟨by omega,by omega⟩) ?_;refine gT ?_;exact ⟨k+1,⟨by omega,zo hd hy⟩,(show s.size - (k+1)<s.size - k by omega),StLe.of tmS trivial⟩
      | true =>
       have hy:zA (bAt s ((k:Int)).toNat)=true:=by
        simp only[zA,hp1,hp3,hp4,hp5,hp6];simp
       rw[Int.toNat_natCast] at hy;refine gT ?_;refine And.intro (show zs ((k:Int)+1) from ⟨by omega,by omega⟩) ?_;refine gT ?_;exact ⟨k+1,⟨by omega,zo hd hy⟩,(show s.size - (k+1)<s.size - k by omega),StLe.of tmS trivial⟩
    | true =>
     have hy:zA (bAt s ((k:Int)).toNat)=true:=by
      simp only[zA,hp1,hp3,hp4];simp
     rw[Int.toNat_natCast] at hy;refine gT ?_;refine And.intro (show zs ((k:Int)+1) from ⟨by omega,by omega⟩) ?_;refine gT ?_;exact ⟨k+1,⟨by omega,zo hd hy⟩,(show s.size - (k+1)<s.size - k by omega),StLe.of tmS trivial⟩
  | true =>
   refine gT ?_;generalize hp2:decide (bAt s ((k:Int)).toNat<=90)=p2;cases p2 with
   | false =>
    refine gT ?_;generalize hp3:decide (bAt s ((k:Int)).toNat>=97)=p3;cases p3 with
    | false =>
     refine gT ?_;generalize hp5:decide (bAt s ((k:Int)).toNat>=48)=p5;cases p5 with
     | false =>
      refine gT ?_;generalize hp7:(bAt s ((k:Int)).toNat==95)=p7;cases p7 with
      | false =>
       have hy:zA (bAt s ((k:Int)).toNat)=false:=by
        simp only[zA,hp1,hp2,hp3,hp5,hp7];simp
       rw[Int.toNat_natCast] at hy;refine gT ?_;exact ze (yQ h hy).symm
      | true =>
       have hy:zA (bAt s ((k:Int)).toNat)=true:=by
        simp only[zA,hp1,hp2,hp3,hp5,hp7];simp
       rw[Int.toNat_natCast] at hy;refine gT ?_;refine And.intro (show zs ((k:Int)+1) from ⟨by omega,by omega⟩) ?_;refine gT ?_;exact ⟨k+1,⟨by omega,zo hd hy⟩,(show s.size - (k+1)<s.size - k by omega),StLe.of tmS trivial⟩
     | true =>
      refine gT ?_;generalize hp6:decide (bAt s ((k:Int)).toNat<=57)=p6;cases p6 with
      | false =>
       refine gT ?_;generalize hp7:(bAt s ((k:Int)).toNat==95)=p7;cases p7 with
       | false =>
        have hy:zA (bAt s ((k:Int)).toNat)=false:=by
         simp only[zA,hp1,hp2,hp3,hp5,hp6,hp7];simp
        rw[Int.toNat_natCast] at hy;refine gT ?_;exact ze (yQ h hy).symm
       | true =>
        have hy:zA (bAt s ((k:Int)).toNat)=true:=by
         simp only[zA,hp1,hp2,hp3,hp5,hp6,hp7];simp
        rw[Int.toNat_natCast] at hy;refine gT ?_;refine And.intro (show zs ((k:Int)+1) from ⟨by omega,by omega⟩) ?_;refine gT ?_;exact ⟨k+1,⟨by omega,zo hd hy⟩,(show s.size - (k+1)<s.size - k by omega),StLe.of tmS trivial⟩
      | true =>
       have hy:zA (bAt s ((k:Int)).toNat)=true:=by
        simp only[zA,hp1,hp2,hp3,hp5,hp6];simp
       rw[Int.toNat_natCast] at hy;refine gT ?_;refine And.intro (show zs ((k:Int)+1) from ⟨by omega,by omega⟩) ?_;refine gT ?_;exact ⟨k+1,⟨by omega,zo hd hy⟩,(show s.size - (k+1)<s.size - k by omega),StLe.of tmS trivial⟩
    | true =>
     refine gT ?_;generalize hp4:decide (bAt s ((k:Int)).toNat<=122)=p4;cases p4 with
     | false =>
      refine gT ?_;generalize hp5:decide (bAt s ((k:Int)).toNat>=48)=p5;cases p5 with
      | false =>
       refine gT ?_;generalize hp7:(bAt s ((k:Int)).toNat==95)=p7;cases p7 with
       | false =>
        have hy:zA (bAt s ((k:Int)).toNat)=false:=by
         simp only[zA,hp1,hp2,hp3,hp4,hp5,hp7];simp
        rw[Int.toNat_natCast] at hy;refine gT ?_;exact ze (yQ h hy).symm
       | true =>
        have hy:zA (bAt s ((k:Int)).toNat)=true:=by
         simp only[zA,hp1,hp2,hp3,hp4,hp5,hp7];simp
        rw[Int.toNat_natCast] at hy;refine gT ?_;refine And.intro (show zs ((k:Int)+1) from ⟨by omega,by omega⟩) ?_;refine gT ?_;exact ⟨k+1,⟨by omega,zo hd hy⟩,(show s.size - (k+1)<s.size - k by omega),StLe.of tmS trivial⟩
      | true =>
       refine gT ?_;generalize hp6:decide (bAt s ((k:Int)).toNat<=57)=p6;cases p6 with
       | false =>
        refine gT ?_;generalize hp7:(bAt s ((k:Int)).toNat==95)=p7;cases p7 with
        | false =>
         have hy:zA (bAt s ((k:Int)).toNat)=false:=by
          simp only[zA,hp1,hp2,hp3,hp4,hp5,hp6,hp7];simp
         rw[Int.toNat_natCast] at hy;refine gT ?_;exact ze (yQ h hy).symm
        | true =>
         have hy:zA (bAt s ((k:Int)).toNat)=true:=by
          simp only[zA,hp1,hp2,hp3,hp4,hp5,hp6,hp7];simp
         rw[Int.toNat_natCast] at hy;refine gT ?_;refine And.intro (show zs ((k:Int)+1) from ⟨by omega,by omega⟩) ?_;refine gT ?_;exact ⟨k+1,⟨by omega,zo hd hy⟩,(show s.size - (k+1)<s.size - k by omega),StLe.of tmS trivial⟩
       | true =>
        have hy:zA (bAt s ((k:Int)).toNat)=true:=by
         simp only[zA,hp1,hp2,hp3,hp4,hp5,hp6];simp
        rw[Int.toNat_natCast] at hy;refine gT ?_;refine And.intro (show zs ((k:Int)+1) from ⟨by omega,by omega⟩) ?_;refine gT ?_;exact ⟨k+1,⟨by omega,zo hd hy⟩,(show s.size - (k+1)<s.size - k by omega),StLe.of tmS trivial⟩
     | true =>
      have hy:zA (bAt s ((k:Int)).toNat)=true:=by
       simp only[zA,hp1,hp2,hp3,hp4];simp
      rw[Int.toNat_natCast] at hy;refine gT ?_;refine And.intro (show zs ((k:Int)+1) from ⟨by omega,by omega⟩) ?_;refine gT ?_;exact ⟨k+1,⟨by omega,zo hd hy⟩,(show s.size - (k+1)<s.size - k by omega),StLe.of tmS trivial⟩
   | true =>
    have hy:zA (bAt s ((k:Int)).toNat)=true:=by
     simp only[zA,hp1,hp2];simp
    rw[Int.toNat_natCast] at hy;refine gT ?_;refine And.intro (show zs ((k:Int)+1) from ⟨by omega,by omega⟩) ?_;refine gT ?_;exact ⟨k+1,⟨by omega,zo hd hy⟩,(show s.size - (k+1)<s.size - k by omega),StLe.of tmS trivial⟩
 ·have h:k=s.size:=by simp at h;omega
  subst h;refine gT ?_;generalize hp:decide ((s.size:Int)>=1)=p;cases p with
  | true =>
   refine gT ?_;refine ze ?_;rw[zet hd];have h1:1<=s.size:=by simp at hp;omega
   simp only[h1,decide_true,Bool.true_and];rw[decide_eq_decide];omega
  | false =>
   refine gT ?_;refine ze ?_;rw[zet hd];have h1:¬1<=s.size:=by simp at hp;omega
   simp[h1]
def vq (m:Mp):Bool:=m.to.all uj&&uj m.frm
def fitM (m:Mp):Prop:=m.to.length<=9223372036854775807/\m.tag.size<=9223372036854775807
def fitL (l:List Mp):Prop:=l.length<=9223372036854775807/\∀ k,k<l.length->fitM (l.getD k default)
def ctCodes:Ct:={ ι:=Mp,inp:=fun m=>[mpA m],out:=fun m=>.v (.bool (vq m)),pre:=fitM }
theorem rcodes_ok:SS mx pb 232 ctCodes:=by
 refine sb (cc:=false) Γm_ok Tryz.func232 ?_;intro (m:Mp) (hm:fitM m)
 have hl:=hm.1;refine gO ?_;refine ⟨0,Nat,fun k=>⟨[(1,.own 0 0),(3,.v (.int .i64 k))],[.cells 79 [mpD m 0,mpD m 1,mpD m 2]],[]⟩,fun k=>k<=m.to.length/\∀ j,j<k->uj (m.to.getD j default)=true,fun k=>m.to.length - k,fun _=>Nat.zero_le _,⟨0,⟨Nat.zero_le _,fun j hj=>by omega⟩,StLe.of tmS (by repeat' (first|exact trivial|exact eL|exact rfl|refine And.intro ?_ ?_))⟩,?_⟩
 rintro k ⟨hk,hd⟩
 refine gO ?_;refine And.intro (fun h=>?_) (fun h=>?_)
 ·have h:k<m.to.length:=by simpa using h
  refine gO ?_;refine And.intro (by omega) ?_;refine gO ?_;refine ⟨m.to.getD k default,eL,trivial,?_⟩
  refine gO ?_;refine And.intro (fun h1=>?_) (fun h1=>?_)
  ·have h1:(!uj (m.to.getD k default))=true:=h1;refine gO ?_;refine ze ?_;have h2:=vV (p:=uj) h (by simpa using h1)
   simp[vq,h2]
  ·have h1:(!uj (m.to.getD k default))=false:=h1;refine gO ?_;refine And.intro (show zs ((k:Int)+1) from ⟨by omega,by omega⟩) ?_;refine gO ?_;exact ⟨k+1,⟨by omega,zo hd (by simpa using h1)⟩,(show m.to.length - (k+1)<m.to.length - k by omega),StLe.of tmS (by repeat' (first|exact trivial|exact eL|exact rfl|refine And.intro ?_ ?_))⟩
 ·have h:k=m.to.length:=by simp at h;omega
  refine gO ?_;refine ⟨m.frm,eL,trivial,?_⟩
  refine gO ?_;refine ze ?_;have h2:=zd3 (p:=uj) h hd;simp[vq,h2]
def sameK (a b:Mp):Bool:=bif a.frm==b.frm then eqB a.tag b.tag else false
theorem zky {a b:Mp}:sameK a b=true↔a.frm=b.frm/\a.tag=b.tag:=by
 unfold sameK;by_cases h:a.frm=b.frm
 ·simp[h,yC]
 ·have:(a.frm==b.frm)=false:=by simpa using h
  simp[this,h]
def Dup (l:List Mp) (i j:Nat):Prop:=j<i/\i<l.length/\sameK (l.getD i default) (l.getD j default)=true
open Classical in
noncomputable def dupB (l:List Mp):Bool:=decide (∃ i j,Dup l i j)
theorem dup_yes {l:List Mp}{i j:Nat}(h:Dup l i j):dupB l=true:=by simp only[dupB,decide_eq_true_eq];exact ⟨i,j,h⟩
theorem dup_no {l:List Mp}(h:∀ i j,¬Dup l i j):dupB l=false:=by simp only[dupB,decide_eq_false_iff_not];rintro ⟨i,j,hd⟩;exact h i j hd
noncomputable def ctTwice:Ct:={ ι:=List Mp,inp:=fun l=>[za0 l],out:=fun l=>.v (.bool (dupB l)),pre:=fitL }
theorem rtwice_ok:SS mx pb 234 ctTwice:=by
 refine sb (cc:=false) zH Tryz.func234 ?_;intro (l:List Mp) (hl:fitL l)
 have hl:=hl.1;refine gO ?_;refine ⟨0,Nat,fun k=>⟨[(0,za0 l),(3,.v (.int .i64 k))],[],[]⟩,fun k=>k<=l.length/\∀ i j,i<k->¬Dup l i j,fun k=>l.length - k,fun _=>Nat.zero_le _,⟨0,⟨Nat.zero_le _,fun i j hj=>by omega⟩,StLe.of tmS trivial⟩,?_⟩
 rintro k ⟨hk,hd⟩
 refine gO ?_;refine And.intro (fun h=>?_) (fun h=>?_)
 ·have h:k<l.length:=by simpa using h
  refine gO ?_;refine ⟨0,Nat,fun q=>⟨[(0,za0 l),(3,.v (.int .i64 k)),(4,.v (.int .i64 q))],[],[]⟩,fun q=>q<=k/\∀ j,j<q->¬Dup l k j,fun q=>k - q,fun _=>Nat.zero_le _,⟨0,⟨Nat.zero_le _,fun j hj=>by omega⟩,StLe.of tmS trivial⟩,?_⟩
  rintro q ⟨hq,hdq⟩
  refine gO ?_;refine And.intro (fun h1=>?_) (fun h1=>?_)
  ·have h1:q<k:=by simpa using h1
   refine gO ?_
   first|refine wo5 ?_|refine And.intro (by kernel_rfl) ?_
   refine gO ?_;refine And.intro (fun _=>by omega) ?_;refine gO ?_;refine And.intro (fun _=>by omega) ?_;refine gO ?_;refine And.intro (fun _=>by omega) ?_;refine gO ?_;refine And.intro (fun _=>by omega) ?_;refine gO ?_;refine And.intro (fun h2=>?_) (fun h2=>?_)
   ·have h2:sameK (l.getD k default) (l.getD q default)=true:=h2;refine gO ?_;exact ze (dup_yes ⟨h1,h,h2⟩).symm
   ·have h2:sameK (l.getD k default) (l.getD q default)=false:=h2;refine gO ?_;refine And.intro (show zs ((q:Int)+1) from ⟨by omega,by omega⟩) ?_;refine gO ?_;exact ⟨q+1,⟨by omega,zo hdq (fun hdd=>by rw[hdd.2.2] at h2;simp at h2)⟩,(show k - (q+1)<k - q by omega),StLe.of tmS trivial⟩
  ·have h1:q=k:=by simp at h1;omega
   subst h1;refine gO ?_;refine And.intro (show zs ((q:Int)+1) from ⟨by omega,by omega⟩) ?_;refine gO ?_;refine ⟨q+1,⟨by omega,fun i j hi hdd=>?_⟩,(show l.length - (q+1)<l.length - q by omega),StLe.of tmS trivial⟩
   by_cases hiq:i=q
   ·subst hiq;exact hdq j hdd.1 hdd
   ·exact hd i j (by omega) hdd
 ·have h:k=l.length:=by simp at h;omega
  refine gO ?_;exact ze (dup_no fun i j hdd=>hd i j (by have:=hdd.2.1;omega) hdd).symm
def ze8 (m:Mp):Bool:=decide (m.to.length<=64)
def tagB (m:Mp):Bool:=eqB m.tag ⟨#[]⟩||yh m.tag
def yU (l:List Mp):Int:=bif l.all vq then (bif l.all ze8 then (bif l.all tagB then 0 else 6) else 2) else 1
def ctParts:Ct:={ ι:=List Mp,inp:=fun l=>[za0 l],out:=fun l=>.v (.int .i64 (yU l)),pre:=fitL }
def Γp:Ctx:=fun f=>match f with
 | 77=>some (.pure ctValid)
 | 276=>some (.pure ctName)
 | _=>none
theorem Γp_ok:CK mx pb Γp:=by
 intro f h hh;simp only[Γp] at hh;split at hh<;>simp at hh<;>subst hh
 ·exact zci
 ·exact isName_ok
theorem parts_ok:SS mx pb 273 ctParts:=by
 refine sb (cc:=false) Γp_ok Tryz.func273 ?_;intro (l:List Mp) (hl:fitL l)
 have hfm:=hl.2;have hl:=hl.1;refine gO ?_;refine ⟨0,Nat,fun k=>⟨[(0,za0 l),(11,za0 l),(12,.v (.int .i64 l.length)),(13,.v (.int .i64 k))],[],[]⟩,fun k=>k<=l.length/\∀ j,j<k->vq (l.getD j default)=true,fun k=>l.length - k,fun _=>Nat.zero_le _,⟨0,⟨Nat.zero_le _,fun j hj=>by omega⟩,StLe.of tmS trivial⟩,?_⟩
 rintro k ⟨hk,hd⟩
 refine gO ?_;refine And.intro (fun h=>?_) (fun h=>?_)
 ·have h:k<l.length:=by simpa using h
  have hto:=(hfm k h).1;refine gO ?_;refine And.intro (by omega) ?_;refine gO ?_;refine ⟨(l.getD k default).frm,eL,trivial,?_⟩
  refine gO ?_;refine And.intro (fun h1=>?_) (fun h1=>?_)
  ·have h1:(!uj (l.getD k default).frm)=true:=h1;refine gO ?_;refine zf ?_;have h2:=vV (p:=vq) h (by simp at h1;simp[vq,h1])
   simp[yU,h2]
  have h1:(!uj (l.getD k default).frm)=false:=h1;refine gO ?_;refine ⟨0,Nat,fun q=>⟨[(0,za0 l),(11,za0 l),(12,.v (.int .i64 l.length)),(13,.v (.int .i64 k)),(22,slD 1 znt (l.getD k default).to),(23,.v (.int .i64 (l.getD k default).to.length)),(24,.v (.int .i64 q))],[],[]⟩,fun q=>q<=(l.getD k default).to.length/\∀ j,j<q->uj ((l.getD k default).to.getD j default)=true,fun q=>(l.getD k default).to.length - q,fun _=>Nat.zero_le _,⟨0,⟨Nat.zero_le _,fun j hj=>by omega⟩,StLe.of tmS trivial⟩,?_⟩
  rintro q ⟨hq,hdq⟩
  refine gO ?_;refine And.intro (fun h2=>?_) (fun h2=>?_)
  ·have h2:(q:Int)<((l.getD k default).to.length:Int):=of_decide_eq_true h2;have h2:q<(l.getD k default).to.length:=by omega
   refine gO ?_;refine And.intro (by omega) ?_;refine gO ?_;refine ⟨(l.getD k default).to.getD q default,eL,trivial,?_⟩
   refine gO ?_;refine And.intro (fun h3=>?_) (fun h3=>?_)
   ·have h3:(!uj ((l.getD k default).to.getD q default))=true:=h3;refine gO ?_;refine zf ?_;have h4:=vV (p:=uj) h2 (by simpa using h3)
    have h5:=vV (p:=vq) h (by simp only[vq,h4,Bool.false_and])
    simp[yU,h5]
   ·have h3:(!uj ((l.getD k default).to.getD q default))=false:=h3;refine gO ?_;refine And.intro (show zs ((q:Int)+1) from ⟨by omega,by omega⟩) ?_;refine gO ?_;exact ⟨q+1,⟨by omega,zo hdq (by simpa using h3)⟩,(show (l.getD k default).to.length - (q+1)<(l.getD k default).to.length - q by omega),StLe.of tmS trivial⟩
  ·have h2:¬(q:Int)<((l.getD k default).to.length:Int):=of_decide_eq_false h2;have h2:q=(l.getD k default).to.length:=by omega
   refine gO ?_;refine And.intro (show zs ((k:Int)+1) from ⟨by omega,by omega⟩) ?_;refine gO ?_;refine ⟨k+1,⟨by omega,zo hd ?_⟩,(show l.length - (k+1)<l.length - k by omega),StLe.of tmS trivial⟩
   have h4:=zd3 (p:=uj) h2 hdq;simp only[Bool.not_eq_false'] at h1;simp only[vq,h4,h1,Bool.and_self]
 have h:k=l.length:=by simp at h;omega
 have hA:=zd3 (p:=vq) h hd;refine gO ?_;refine ⟨0,Nat,fun k=>⟨[(0,za0 l),(33,za0 l),(34,.v (.int .i64 l.length)),(35,.v (.int .i64 k))],[],[]⟩,fun k=>k<=l.length/\∀ j,j<k->ze8 (l.getD j default)=true,fun k=>l.length - k,fun _=>Nat.zero_le _,⟨0,⟨Nat.zero_le _,fun j hj=>by omega⟩,StLe.of tmS trivial⟩,?_⟩
 rintro k ⟨hk,hd⟩
 refine gO ?_;refine And.intro (fun h=>?_) (fun h=>?_)
 ·have h:k<l.length:=by simpa using h
  refine gO ?_;refine And.intro (by omega) ?_;refine gO ?_;refine And.intro (fun h1=>?_) (fun h1=>?_)
  ·have h1:((l.getD k default).to.length:Int)>64:=of_decide_eq_true h1;refine gO ?_;refine zf ?_;have h2:=vV (p:=ze8) h (by simp only[ze8,decide_eq_false_iff_not];omega)
   simp[yU,hA,h2]
  ·have h1:¬((l.getD k default).to.length:Int)>64:=of_decide_eq_false h1;refine gO ?_;refine And.intro (show zs ((k:Int)+1) from ⟨by omega,by omega⟩) ?_;refine gO ?_;exact ⟨k+1,⟨by omega,zo hd (by simp only[ze8,decide_eq_true_eq];omega)⟩,(show l.length - (k+1)<l.length - k by omega),StLe.of tmS trivial⟩
 have h:k=l.length:=by simp at h;omega
 have hB:=zd3 (p:=ze8) h hd;refine gO ?_;refine ⟨0,Nat,fun k=>⟨[(0,za0 l),(44,za0 l),(45,.v (.int .i64 l.length)),(46,.v (.int .i64 k))],[],[]⟩,fun k=>k<=l.length/\∀ j,j<k->tagB (l.getD j default)=true,fun k=>l.length - k,fun _=>Nat.zero_le _,⟨0,⟨Nat.zero_le _,fun j hj=>by omega⟩,StLe.of tmS trivial⟩,?_⟩
 rintro k ⟨hk,hd⟩
 refine gO ?_;refine And.intro (fun h=>?_) (fun h=>?_)
 ·have h:k<l.length:=by simpa using h
  refine gO ?_;refine And.intro (by omega) ?_;refine gO ?_;refine ⟨(l.getD k default).tag,eL,fun _=>(hfm k h).2,?_⟩
  refine gO ?_;refine And.intro (fun h1=>?_) (fun h1=>?_)
  ·have h1:(bif !(eqB (l.getD k default).tag ⟨#[]⟩) then !(yh (l.getD k default).tag) else false)=true:=h1;refine gO ?_;refine zf ?_;have h2:=vV (p:=tagB) h (by
    simp only[tagB]
    revert h1
    generalize eqB (l.getD k default).tag ⟨#[]⟩=x;generalize yh (l.getD k default).tag=y;cases x<;>cases y<;>simp)
   simp[yU,hA,hB,h2]
  ·have h1:(bif !(eqB (l.getD k default).tag ⟨#[]⟩) then !(yh (l.getD k default).tag) else false)=false:=h1;refine gO ?_;refine And.intro (show zs ((k:Int)+1) from ⟨by omega,by omega⟩) ?_;refine gO ?_;refine ⟨k+1,⟨by omega,zo hd ?_⟩,(show l.length - (k+1)<l.length - k by omega),StLe.of tmS trivial⟩
   simp only[tagB]
   revert h1
   generalize eqB (l.getD k default).tag ⟨#[]⟩=x;generalize yh (l.getD k default).tag=y;cases x<;>cases y<;>simp
 have h:k=l.length:=by simp at h;omega
 have hC:=zd3 (p:=tagB) h hd;refine gO ?_;exact zf (by simp[yU,hA,hB,hC])
noncomputable def yJ (l:List Mp):Int:=bif yU l==0 then (bif dupB l then 5 else 0) else yU l
noncomputable def zh3:Ct:={ ι:=List Mp,inp:=fun l=>[za0 l],out:=fun l=>.v (.int .i64 (yJ l)),pre:=fitL }
noncomputable def Γu:Ctx:=fun f=>match f with
 | 232=>some (.pure ctCodes)
 | 233=>some (.pure ctName)
 | 234=>some (.pure ctTwice)
 | _=>none
theorem Γu_ok:CK mx pb Γu:=by
 intro f h hh;simp only[Γu] at hh;split at hh<;>simp at hh<;>subst hh
 ·exact rcodes_ok
 ·exact rname_ok
 ·exact rtwice_ok
theorem zkz:SS mx pb 212 zh3:=by
 refine sb (cc:=false) Γu_ok Tryz.func212 ?_;intro (l:List Mp) (hl0:fitL l)
 have hfm:=hl0.2;have hl:=hl0.1;refine gO ?_;refine ⟨0,Nat,fun k=>⟨[(0,za0 l),(3,.v (.int .i64 k))],[],[]⟩,fun k=>k<=l.length/\∀ j,j<k->vq (l.getD j default)=true,fun k=>l.length - k,fun _=>Nat.zero_le _,⟨0,⟨Nat.zero_le _,fun j hj=>by omega⟩,StLe.of tmS trivial⟩,?_⟩
 rintro k ⟨hk,hd⟩
 refine gO ?_;refine And.intro (fun h=>?_) (fun h=>?_)
 ·have h:k<l.length:=by simpa using h
  refine gO ?_;refine And.intro (by omega) ?_;refine gO ?_;refine ⟨l.getD k default,eL,hfm k h,?_⟩
  refine gO ?_;refine And.intro (fun h1=>?_) (fun h1=>?_)
  ·have h1:(!vq (l.getD k default))=true:=h1;refine gO ?_;refine zf ?_;have h2:=vV (p:=vq) h (by simpa using h1)
   simp[yJ,yU,h2]
  ·have h1:(!vq (l.getD k default))=false:=h1;refine gO ?_;refine And.intro (show zs ((k:Int)+1) from ⟨by omega,by omega⟩) ?_;refine gO ?_;exact ⟨k+1,⟨by omega,zo hd (by simpa using h1)⟩,(show l.length - (k+1)<l.length - k by omega),StLe.of tmS trivial⟩
 have h:k=l.length:=by simp at h;omega
 have hA:=zd3 (p:=vq) h hd;refine gO ?_;refine ⟨0,Nat,fun k=>⟨[(0,za0 l),(4,.v (.int .i64 k))],[],[]⟩,fun k=>k<=l.length/\∀ j,j<k->ze8 (l.getD j default)=true,fun k=>l.length - k,fun _=>Nat.zero_le _,⟨0,⟨Nat.zero_le _,fun j hj=>by omega⟩,StLe.of tmS trivial⟩,?_⟩
 rintro k ⟨hk,hd⟩
 refine gO ?_;refine And.intro (fun h=>?_) (fun h=>?_)
 ·have h:k<l.length:=by simpa using h
  refine gO ?_;refine And.intro (by omega) ?_;refine gO ?_;refine And.intro (fun h1=>?_) (fun h1=>?_)
  ·have h1:((l.getD k default).to.length:Int)>64:=of_decide_eq_true h1;refine gO ?_;refine zf ?_;have h2:=vV (p:=ze8) h (by simp only[ze8,decide_eq_false_iff_not];omega)
   simp[yJ,yU,hA,h2]
  ·have h1:¬((l.getD k default).to.length:Int)>64:=of_decide_eq_false h1;refine gO ?_;refine And.intro (show zs ((k:Int)+1) from ⟨by omega,by omega⟩) ?_;refine gO ?_;exact ⟨k+1,⟨by omega,zo hd (by simp only[ze8,decide_eq_true_eq];omega)⟩,(show l.length - (k+1)<l.length - k by omega),StLe.of tmS trivial⟩
 have h:k=l.length:=by simp at h;omega
 have hB:=zd3 (p:=ze8) h hd;refine gO ?_;refine ⟨0,Nat,fun k=>⟨[(0,za0 l),(5,.v (.int .i64 k))],[],[]⟩,fun k=>k<=l.length/\∀ j,j<k->tagB (l.getD j default)=true,fun k=>l.length - k,fun _=>Nat.zero_le _,⟨0,⟨Nat.zero_le _,fun j hj=>by omega⟩,StLe.of tmS trivial⟩,?_⟩
 rintro k ⟨hk,hd⟩
 refine gO ?_;refine And.intro (fun h=>?_) (fun h=>?_)
 ·have h:k<l.length:=by simpa using h
  refine gO ?_;refine And.intro (by omega) ?_;refine gO ?_;refine And.intro (fun _=>by omega) ?_;refine gO ?_;refine ⟨(l.getD k default).tag,eL,fun _=>(hfm k h).2,?_⟩
  refine gO ?_;refine And.intro (fun h1=>?_) (fun h1=>?_)
  ·have h1:(bif !(eqB (l.getD k default).tag ⟨#[]⟩) then !(yh (l.getD k default).tag) else false)=true:=h1;refine gO ?_;refine zf ?_;have h2:=vV (p:=tagB) h (by
    simp only[tagB]
    revert h1
    generalize eqB (l.getD k default).tag ⟨#[]⟩=x;generalize yh (l.getD k default).tag=y;cases x<;>cases y<;>simp)
   simp[yJ,yU,hA,hB,h2]
  ·have h1:(bif !(eqB (l.getD k default).tag ⟨#[]⟩) then !(yh (l.getD k default).tag) else false)=false:=h1;refine gO ?_;refine And.intro (show zs ((k:Int)+1) from ⟨by omega,by omega⟩) ?_;refine gO ?_;refine ⟨k+1,⟨by omega,zo hd ?_⟩,(show l.length - (k+1)<l.length - k by omega),StLe.of tmS trivial⟩
   simp only[tagB]
   revert h1
   generalize eqB (l.getD k default).tag ⟨#[]⟩=x;generalize yh (l.getD k default).tag=y;cases x<;>cases y<;>simp
 have h:k=l.length:=by simp at h;omega
 have hC:=zd3 (p:=tagB) h hd;have h0:yU l=0:=by simp[yU,hA,hB,hC]
 refine gO ?_;refine ⟨l,eL,hl0,?_⟩
 refine gO ?_;refine And.intro (fun h1=>?_) (fun h1=>?_)
 ·have h1:dupB l=true:=h1;refine gO ?_;exact zf (by simp[yJ,h0,h1])
 ·have h1:dupB l=false:=h1;refine gO ?_;exact zf (by simp[yJ,h0,h1])
def zgp (l:List Mp):Nat->Bool
 | 0=>true
 | 1=>true
 | k+2=>zgp l (k+1)&&zdc (l.getD k default) (l.getD (k+1) default)
theorem zms {l:List Mp}:∀ {n k:Nat},zgp l n=true->k<=n->zgp l k=true
 | 0,k,h,hk=>by
  have:k=0:=by omega
  subst this;exact h
 | 1,k,h,hk=>by
  have:k=0\/k=1:=by omega
  rcases this with rfl|rfl<;>rfl
 | n+2,k,h,hk=>by
  by_cases hkn:k=n+2
  ·subst hkn;exact h
  ·simp only[zgp,Bool.and_eq_true] at h;exact zms h.1 (by omega)
theorem zmr {l:List Mp}{n k:Nat}(h:zgp l n=true) (hk:k+1<n):zdc (l.getD k default) (l.getD (k+1) default)=true:=by
 have:=zms h (k:=k+2) (by omega)
 simp only[zgp,Bool.and_eq_true] at this;exact this.2
theorem zfs:∀ x:List UInt8,Op.bytesLess x x=false
 | []=>rfl
 | a::x=>by simp[Op.bytesLess,zfs x]
theorem zhq:∀ {x y z:List UInt8},Op.bytesLess x y=true->Op.bytesLess y z=true->Op.bytesLess x z=true
 | [],[],z,h,_=>by simp[Op.bytesLess] at h
 | [],b::y,[],_,h=>by simp[Op.bytesLess] at h
 | [],b::y,c::z,_,_=>rfl
 | a::x,[],z,h,_=>by simp[Op.bytesLess] at h
 | a::x,b::y,[],_,h=>by simp[Op.bytesLess] at h
 | a::x,b::y,c::z,h,h'=>by
  simp only[Op.bytesLess,Bool.or_eq_true,decide_eq_true_eq,Bool.and_eq_true,beq_iff_eq] at h h' ⊢;rcases h with h|⟨rfl,h⟩
  ·rcases h' with h'|⟨rfl,h'⟩
   ·left;exact UInt8.lt_trans h h'
   ·left;exact h
  ·rcases h' with h'|⟨rfl,h'⟩
   ·left;exact h'
   ·right;exact ⟨rfl,zhq h h'⟩
theorem zlj {a b:Mp}:zdc a b=true↔a.frm<b.frm\/(a.frm=b.frm/\lessS a.tag b.tag=true):=by
 unfold zdc;by_cases h:a.frm<b.frm
 ·simp[h]
 ·by_cases h1:a.frm=b.frm
  ·simp[h1]
  ·have:(a.frm==b.frm)=false:=by simpa using h1
   simp[h,this,h1]
theorem zno {a b c:Mp}(h:zdc a b=true) (h':zdc b c=true):zdc a c=true:=by
 rw[zlj] at *
 rcases h with h|⟨h,h1⟩
 ·rcases h' with h'|⟨h',_⟩
  ·left;omega
  ·left;omega
 ·rcases h' with h'|⟨h',h2⟩
  ·left;omega
  ·right;exact ⟨by omega,zhq h1 h2⟩
theorem asc_less {l:List Mp}(h:zgp l l.length=true):∀ {i j:Nat},j<i->i<l.length->zdc (l.getD j default) (l.getD i default)=true
 | 0,j,hj,_=>by omega
 | i+1,j,hj,hi=>by
  have h1:=zmr h (k:=i) (by omega)
  by_cases hji:j=i
  ·subst hji;exact h1
  ·exact zno (asc_less h (by omega) (by omega)) h1
theorem asc_nodup {l:List Mp}(h:zgp l l.length=true):dupB l=false:=by
 refine dup_no fun i j hd=>?_;have h1:=asc_less h hd.1 hd.2.1;obtain ⟨e1,e2⟩:=zky.1 hd.2.2;rw[zlj,<- e1,<- e2] at h1;rcases h1 with h1|⟨_,h1⟩
 ·omega
 ·simp[lessS,zfs] at h1
noncomputable def xk (l:List Mp):Int:=bif yU l==0 then (bif zgp l l.length then 0 else (bif dupB l then 5 else 4)) else yU l
noncomputable def ctCheck:Ct:={ ι:=List Mp,inp:=fun l=>[za0 l],out:=fun l=>.v (.int .i64 (xk l)),pre:=fitL }
theorem zmm {a b:Mp}:decide (cmpM a b>=0) = !zdc a b:=by
 have hS:∀ x y:ByteArray,decide (cmpS x y>=0) = !lessS x y:=by
  intro x y;unfold cmpS;split
  ·rename_i h;simp[h]
  ·rename_i h;simp only[Bool.not_eq_true] at h;rw[h];split<;>simp
 have hI:zoq a.frm b.frm=0↔a.frm=b.frm:=by
  unfold zoq;split
  ·constructor
   ·intro h;simp at h
   ·omega
  ·split
   ·constructor
    ·intro h;simp at h
    ·omega
   ·constructor
    ·intro;omega
    ·intro;rfl
 unfold cmpM zdc;by_cases h:a.frm=b.frm
 ·rw[if_pos (hI.2 h),hS];have h1:¬a.frm<b.frm:=by omega
  have h2:(a.frm==b.frm)=true:=by simpa using h
  simp[h1,h2]
 ·rw[if_neg (fun e=>h (hI.1 e))];have h2:(a.frm==b.frm)=false:=by simpa using h
  unfold zoq;by_cases h1:a.frm<b.frm
  ·simp[h1]
  ·have h3:a.frm>b.frm:=by omega
   simp[h1,h2,h3]
def keyK (m:Mp):KV:=.st [.i .i64 m.frm,.s m.tag]
def zd6 (l:List Mp):Nat->KV->Option D
 | 0=>fun _=>none
 | k+1=>fun k'=>if k'=keyK (l.getD k default) then some (.v (.bool true)) else zd6 l k k'
theorem zfc {l:List Mp}{key:KV}{d:D}:∀ {k:Nat},zd6 l k key=some d->d=.v (.bool true)/\∃ j,j<k/\key=keyK (l.getD j default)
 | 0,h=>by simp[zd6] at h
 | k+1,h=>by
  simp only[zd6] at h;split at h
  ·rename_i hk;simp at h;exact ⟨h.symm,k,by omega,hk⟩
  ·obtain ⟨h1,j,h2,h3⟩:=zfc h;exact ⟨h1,j,by omega,h3⟩
theorem zkx {l:List Mp}{key:KV}:∀ {k:Nat},zd6 l k key=none->∀ j,j<k->key≠keyK (l.getD j default)
 | 0,_,j,hj=>by omega
 | k+1,h,j,hj=>by
  simp only[zd6] at h;split at h
  ·simp at h
  ·rename_i hk;by_cases hjk:j=k
   ·subst hjk;exact hk
   ·exact zkx h j (by omega)
theorem keyK_iff {a b:Mp}:keyK a=keyK b↔sameK a b=true:=by
 rw[zky];simp[keyK]
noncomputable def Γk:Ctx:=fun f=>match f with
 | 273=>some (.pure ctParts)
 | 274=>some (.pure zmi)
 | 275=>some (.pure ctKeyOf)
 | 212=>some (.pure zh3)
 | 213=>some (.pure ctBefore)
 | _=>none
theorem Γk_ok:CK mx pb Γk:=by
 intro f h hh;simp only[Γk] at hh;split at hh<;>simp at hh<;>subst hh
 ·exact parts_ok
 ·exact compare_ok
 ·exact keyOf_ok
 ·exact zkz
 ·exact rbefore_ok
theorem check_ok:SS mx pb 272 ctCheck:=by
 refine sb (cc:=false) Γk_ok Tryz.func272 ?_;intro (l:List Mp) (hl0:fitL l)
 have hl:=hl0.1;refine gO ?_;refine ⟨l,eL,hl0,?_⟩
 refine gO ?_;refine And.intro (fun h=>?_) (fun h=>?_)
 ·have h:(yU l != 0)=true:=h;refine gO ?_;refine zf ?_;have h:(yU l==0)=false:=by simpa[bne] using h
  simp[xk,h]
 have h:(yU l != 0)=false:=h;have h0:(yU l==0)=true:=by simpa[bne] using h
 refine gO ?_;refine ⟨0,Nat,fun k=>⟨[(0,za0 l),(4,.v (.bool (zgp l (k+1)))),(5,.v (.int .i64 ((k+1:Nat):Int)))],[],[]⟩,fun k=>k=0\/k+1<=l.length,fun k=>l.length - k,fun _=>Nat.zero_le _,⟨0,.inl rfl,StLe.of tmS trivial⟩,?_⟩
 intro k hk;refine gO ?_;refine And.intro (fun h=>?_) (fun h=>?_)
 ·have h:k+1<l.length:=by simp at h;omega
  refine gO ?_
  first|refine wo5 ?_|refine And.intro (by kernel_rfl) ?_
  refine gO ?_;refine And.intro (fun _=>show zs (((k+1:Nat):Int) - 1) from ⟨by omega,by omega⟩) ?_;refine gO ?_;refine And.intro (fun _=>by omega) ?_;refine gO ?_;refine And.intro (fun _=>by omega) ?_;refine gO ?_;refine ⟨(l.getD k default,l.getD (k+1) default),?_,fun _=>trivial,?_⟩
  ·have:(((k+1:Nat):Int) - 1).toNat=k:=by omega
   show EntL [mpA (l.getD (((k+1:Nat):Int) - 1).toNat default),mpA (l.getD (k+1) default)] _;rw[this];exact eL
  refine gO ?_;refine And.intro (fun h1=>?_) (fun h1=>?_)
  ·have h1:decide (cmpM (l.getD k default) (l.getD (k+1) default)>=0)=true:=h1;rw[zmm] at h1;refine gO ?_;refine And.intro (show zs (((k+1:Nat):Int)+1) from ⟨by omega,by omega⟩) ?_;refine gO ?_;refine ⟨k+1,.inr (by omega),(show l.length - (k+1)<l.length - k by omega),StLe.of ⟨eE,rfl,Ent.v ?_,rfl,eE,rfl,trivial⟩ trivial⟩
   simp only[Bool.not_eq_true'] at h1;simp only[zgp,h1,Bool.and_false]
  ·have h1:decide (cmpM (l.getD k default) (l.getD (k+1) default)>=0)=false:=h1;rw[zmm] at h1;refine gO ?_;refine And.intro (show zs (((k+1:Nat):Int)+1) from ⟨by omega,by omega⟩) ?_;refine gO ?_;refine ⟨k+1,.inr (by omega),(show l.length - (k+1)<l.length - k by omega),StLe.of ⟨eE,rfl,Ent.v ?_,rfl,eE,rfl,trivial⟩ trivial⟩
   simp only[Bool.not_eq_false'] at h1;simp only[zgp,h1,Bool.and_true]
 have hasc:zgp l (k+1)=zgp l l.length:=by
  have h:¬k+1<l.length:=by simp at h;omega
  rcases hk with rfl|hk
  ·have:l.length=0\/l.length=1:=by omega
   rcases this with e|e<;>rw[e]<;>rfl
  ·have:k+1=l.length:=by omega
   rw[this]
 refine gO ?_;refine And.intro (fun h1=>?_) (fun h1=>?_)
 ·have h1:zgp l (k+1)=true:=h1;refine gO ?_;exact zf (by simp[xk,h0,<- hasc,h1])
 have h1:zgp l (k+1)=false:=h1;rw[hasc] at h1;refine gO ?_;refine ⟨0,Nat,fun k=>⟨[(6,.mp 0),(33,za0 l),(34,.v (.int .i64 l.length)),(35,.v (.int .i64 k))],[.map 295 4 (.st [0,1]) (zd6 l k)],[]⟩,fun k=>k<=l.length/\∀ i j,i<k->¬Dup l i j,fun k=>l.length - k,fun _=>Nat.zero_le _,⟨0,⟨Nat.zero_le _,fun i j hj=>by omega⟩,StLe.ren [0] tmS ⟨⟨rfl,rfl,rfl,fun _=>trivial⟩,trivial⟩ (by decide)⟩,?_⟩
 rintro k ⟨hk,hd⟩
 refine gO ?_;refine And.intro (fun h=>?_) (fun h=>?_)
 ·have h:k<l.length:=by simpa using h
  refine gO ?_;refine And.intro (by omega) ?_;refine gO ?_;refine ⟨l.getD k default,eL,trivial,?_⟩
  refine gO ?_;refine And.intro (fun d hf=>?_) (fun hf=>?_)
  ·have hf:zd6 l k (keyK (l.getD k default))=some d:=hf;obtain ⟨rfl,j,hj,hjk⟩:=zfc hf;refine gO ?_;refine And.intro (fun _=>?_) (fun h=>Bool.noConfusion (show true=false from h))
   refine gO ?_;have hdup:=dup_yes (l:=l) (i:=k) (j:=j) ⟨hj,h,keyK_iff.1 hjk⟩
   exact zf (by simp[xk,h0,h1,hdup])
  ·have hf:zd6 l k (keyK (l.getD k default))=none:=hf;have hno:=zkx hf;refine gO ?_;refine And.intro (fun h=>Bool.noConfusion (show false=true from h)) (fun _=>?_)
   refine gO ?_;refine ⟨l.getD k default,eL,trivial,?_⟩
   refine gO ?_;refine And.intro (show zs ((k:Int)+1) from ⟨by omega,by omega⟩) ?_;refine gO ?_;refine ⟨k+1,⟨by omega,fun i j hi hdd=>?_⟩,(show l.length - (k+1)<l.length - k by omega),StLe.ren [0] tmS ⟨⟨rfl,rfl,rfl,fun key=>?_⟩,trivial⟩ (by decide)⟩
   ·by_cases hik:i=k
    ·subst hik;exact hno j hdd.1 (keyK_iff.2 hdd.2.2)
    ·exact hd i j (by omega) hdd
   ·show zmz [0] (zd6 l (k+1) key) (zd6 l (k+1) key)
    cases hs:zd6 l (k+1) key with
    | none=>trivial
    | some d =>
     obtain ⟨rfl,_⟩:=zfc hs;exact ⟨eE,rfl⟩
 ·have h:k=l.length:=by simp at h;omega
  refine gO ?_;have hdup:=dup_no (l:=l) fun i j hdd=>hd i j (by have:=hdd.2.1;omega) hdd;exact zf (by simp[xk,h0,h1,hdup])
theorem rcheck_ok:SS mx pb 196 ctCheck:=by
 refine sb (cc:=false) Γk_ok Tryz.func196 ?_;intro (l:List Mp) (hl0:fitL l)
 have hl:=hl0.1;refine gO ?_;refine ⟨l,eL,hl0,?_⟩
 refine gO ?_;refine And.intro (fun h=>?_) (fun h=>?_)
 ·have h:(yJ l != 0)=true:=h;refine gO ?_;refine zf ?_;by_cases h0:(yU l==0)=true
  ·simp only[yJ,h0,cond_true] at h ⊢;cases hdup:dupB l with
   | false=>rw[hdup] at h;simp at h
   | true =>
    have hasc:zgp l l.length=false:=by
     cases ha:zgp l l.length with
     | false=>rfl
     | true=>rw[asc_nodup ha] at hdup;simp at hdup
    simp[xk,h0,hasc,hdup]
  ·simp only[Bool.not_eq_true] at h0;simp[yJ,xk,h0]
 have h:(yJ l != 0)=false:=h;have h0:(yU l==0)=true/\dupB l=false:=by
  by_cases h0:(yU l==0)=true
  ·refine ⟨h0,?_⟩
   simp only[yJ,h0,cond_true] at h;cases hdup:dupB l with
   | false=>rfl
   | true=>rw[hdup] at h;simp at h
  ·simp only[Bool.not_eq_true] at h0;have h2:(yU l != 0)=false:=by simpa[yJ,h0] using h
   simp[bne,h0] at h2
 refine gO ?_;refine ⟨0,Nat,fun k=>⟨[(0,za0 l),(4,.v (.int .i64 ((k+1:Nat):Int)))],[],[]⟩,fun k=>(k=0\/k+1<=l.length)/\zgp l (k+1)=true,fun k=>l.length - k,fun _=>Nat.zero_le _,⟨0,⟨.inl rfl,rfl⟩,StLe.of tmS trivial⟩,?_⟩
 rintro k ⟨hk,ha⟩
 refine gO ?_;refine And.intro (fun h=>?_) (fun h=>?_)
 ·have h:k+1<l.length:=by simp at h;omega
  refine gO ?_
  first|refine wo5 ?_|refine And.intro (by kernel_rfl) ?_
  refine gO ?_;refine And.intro (fun _=>show zs (((k+1:Nat):Int) - 1) from ⟨by omega,by omega⟩) ?_;refine gO ?_;refine And.intro (fun _=>by omega) ?_;refine gO ?_;refine And.intro (fun _=>by omega) ?_;refine gO ?_;refine ⟨(l.getD k default,l.getD (k+1) default),?_,fun _=>trivial,?_⟩
  ·have:(((k+1:Nat):Int) - 1).toNat=k:=by omega
   show EntL [mpA (l.getD (((k+1:Nat):Int) - 1).toNat default),mpA (l.getD (k+1) default)] _;rw[this];exact eL
  refine gO ?_;refine And.intro (fun h1=>?_) (fun h1=>?_)
  ·have h1:(!zdc (l.getD k default) (l.getD (k+1) default))=true:=h1;refine gO ?_;refine zf ?_;have hasc:zgp l l.length=false:=by
    cases hx:zgp l l.length with
    | false=>rfl
    | true=>rw[zmr hx h] at h1;simp at h1
   simp[xk,h0.1,hasc,h0.2]
  ·have h1:(!zdc (l.getD k default) (l.getD (k+1) default))=false:=h1;refine gO ?_;refine And.intro (show zs (((k+1:Nat):Int)+1) from ⟨by omega,by omega⟩) ?_;refine gO ?_;refine ⟨k+1,⟨.inr (by omega),?_⟩,(show l.length - (k+1)<l.length - k by omega),StLe.of tmS trivial⟩
   simp only[Bool.not_eq_false'] at h1;simp only[zgp,ha,h1,Bool.and_self]
 ·have hasc:zgp l l.length=true:=by
   have h:¬k+1<l.length:=by simp at h;omega
   rcases hk with rfl|hk
   ·have:l.length=0\/l.length=1:=by omega
    rcases this with e|e<;>rw[e]<;>rfl
   ·have:k+1=l.length:=by omega
    rw[<- this];exact ha
  refine gO ?_;exact zf (by simp[xk,h0.1,hasc])
def ze9 (m:Mp):Bool := !(bif decide ((m.to.length:Int)>65) then true else decide ((m.tag.size:Int)>40))
def zck (l:List Mp):Bool:=(l.take 30).all ze9&&decide (l.length<=20)
def ctSmall:Ct:={ ι:=List Mp,inp:=fun l=>[za0 l],out:=fun l=>.v (.bool (zck l)),pre:=fun l=>l.length<=9223372036854775807 }
theorem zm6 {l:List Mp}(h:zck l=true):l.length<=20/\∀ k,k<l.length->(l.getD k default).to.length<=65/\(l.getD k default).tag.size<=40:=by
 simp only[zck,Bool.and_eq_true,decide_eq_true_eq,List.all_eq_true] at h;refine ⟨h.2,fun k hk=>?_⟩
 have h2:=h.2;have:=h.1 l[k] (by rw[List.mem_take_iff_getElem];exact ⟨k,by omega,rfl⟩)
 have e:l.getD k default=l[k]:=by simp[List.getD_eq_getElem?_getD,hk]
 rw[e];simp only[ze9] at this;by_cases h1:(l[k].to.length:Int)>65
 ·simp[h1] at this
 ·simp[h1] at this;omega
theorem yK {l:List Mp}(h:zck l=true):fitL l:=by
 obtain ⟨h1,h2⟩:=zm6 h;refine ⟨by omega,fun k hk=>?_⟩
 have:=h2 k hk;exact ⟨by omega,by omega⟩
theorem rsmall_ok:SS mx pb 13 ctSmall:=by
 refine sb (cc:=false) zH Tryz.func13 ?_;intro (l:List Mp) (hl:l.length<=9223372036854775807)
 refine gO ?_;refine ⟨0,Nat,fun k=>⟨[(0,za0 l),(3,.v (.int .i64 k))],[],[]⟩,fun k=>k<=l.length/\k<=30/\∀ j,j<k->ze9 (l.getD j default)=true,fun k=>l.length - k,fun _=>Nat.zero_le _,⟨0,⟨Nat.zero_le _,Nat.zero_le _,fun j hj=>by omega⟩,StLe.of tmS trivial⟩,?_⟩
 rintro k ⟨hk,hk3,hd⟩
 refine gO ?_;refine And.intro (fun h=>?_) (fun h=>?_)
 ·have h:k<l.length/\(k:Int)<30:=by simpa using h
  obtain ⟨h,h3⟩:=h;refine gO ?_;refine And.intro (by omega) ?_;refine gO ?_;refine And.intro (fun _=>by omega) ?_;refine gO ?_;refine And.intro (fun h1=>?_) (fun h1=>?_)
  ·have h1:(bif decide (((l.getD k default).to.length:Int)>65) then true else decide (((l.getD k default).tag.size:Int)>40))=true:=h1;refine gO ?_;refine ze ?_;have h2:(l.take 30).all ze9=false:=by
    rw[List.all_eq_false];refine ⟨l[k],by rw[List.mem_take_iff_getElem];exact ⟨k,by omega,rfl⟩,?_⟩
    have e:l.getD k default=l[k]:=by simp[List.getD_eq_getElem?_getD,h]
    rw[e] at h1;simp[ze9,h1]
   simp[zck,h2]
  ·have h1:(bif decide (((l.getD k default).to.length:Int)>65) then true else decide (((l.getD k default).tag.size:Int)>40))=false:=h1;refine gO ?_;refine And.intro (show zs ((k:Int)+1) from ⟨by omega,by omega⟩) ?_;refine gO ?_;exact ⟨k+1,⟨by omega,by omega,zo hd (by simp only[ze9,h1,Bool.not_false])⟩,(show l.length - (k+1)<l.length - k by omega),StLe.of tmS trivial⟩
 ·have h:k=l.length\/k=30:=by
   by_cases h1:k=l.length
   ·exact .inl h1
   ·have:k<l.length:=by omega
    simp[this] at h;right;omega
  refine gO ?_;refine ze ?_;have h2:(l.take 30).all ze9=true:=by
   rw[List.all_eq_true];intro c hc;rw[List.mem_take_iff_getElem] at hc;obtain ⟨i,hi,rfl⟩:=hc;have:=hd i (by omega)
   simpa[List.getD_eq_getElem?_getD,show i<l.length by omega] using this
  simp only[zck,h2,Bool.true_and];show decide ((l.length:Int)<=20)=_;rw[decide_eq_decide];omega
end Go.Proofs
