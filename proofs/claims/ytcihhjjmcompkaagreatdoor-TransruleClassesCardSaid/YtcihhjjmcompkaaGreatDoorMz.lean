import Derived.Test.YtcihhjjmcompkaaGreatDoorBz
set_option linter.unusedVariables false
set_option linter.unusedSimpArgs false
namespace Go.Proofs
open Go Go.Sx
variable {mx:Int}{pb:Bool}
structure Mp where
 frm:Int
 to:List Int
 tag:ByteArray
instance:Inhabited Mp:=⟨⟨0,[],ByteArray.empty⟩⟩
def mpD (m:Mp):Nat→D
 | 0=>.v (.int .i64 m.frm)
 | 1=>slD 1 intD m.to
 | 2=>.v (.string m.tag)
 | _=>.junk
def mpA (m:Mp):D:=.ag [mpD m 0,mpD m 1,mpD m 2]
def mpsD (l:List Mp):D:=slD 3 mpD l
def ctNanS:Ct:={ ι:=ByteArray,inp:=fun c=>[.v (.string c)],out:=fun _=>.v (.bool false),pre:=fun _=>True }
theorem nanS_ok:Sound Tryz.prog (GlT mx pb) 328 ctNanS:=by
 refine sound_by (cc:=false) Γ0_ok Tryz.T_ok Tryz.mixed Tryz.func328 rfl (by kernel_rfl) (fun _=>rfl) (fun _ _=>by show 1≤6;decide) ?_
 intro (c:ByteArray) _
 refine gO ?_
 refine EntR.bool ?_
 show (!eqB c c)=false
 rw[eqB_iff.2 rfl];rfl
def lessS (a b:ByteArray):Bool:=Op.bytesLess a.data.toList b.data.toList
def gtrS (a b:ByteArray):Bool := !(Op.bytesLess a.data.toList b.data.toList||a.data.toList==b.data.toList)
def cmpS (a b:ByteArray):Int:=if lessS a b=true then -1 else if gtrS a b=true then 1 else 0
def ctCmpS:Ct:={ ι:=ByteArray × ByteArray,inp:=fun x=>[.v (.string x.1),.v (.string x.2)],out:=fun x=>.v (.int .i64 (cmpS x.1 x.2)),pre:=fun _=>True }
def Γn:Ctx:=fun f=>match f with
 | 141=>some (.pure ctNanI)
 | 328=>some (.pure ctNanS)
 | _=>none
theorem Γn_ok:CtxOk Tryz.prog (GlT mx pb) Γn:=by
 intro f h hh
 simp only[Γn] at hh
 split at hh<;>simp at hh<;>subst hh
 ·exact nanI_ok
 ·exact nanS_ok
theorem cmpS_ok:Sound Tryz.prog (GlT mx pb) 327 ctCmpS:=by
 refine sound_by (cc:=false) Γn_ok Tryz.T_ok Tryz.mixed Tryz.func327 rfl (by kernel_rfl) (fun _=>rfl) (fun _ _=>by show 2≤20;decide) ?_
 intro ((a:ByteArray),(b:ByteArray)) _
 refine gO ?_
 refine ⟨a,EntL.refl _,trivial,?_⟩
 refine gO ?_
 refine ⟨b,EntL.refl _,trivial,?_⟩
 refine gO ?_
 refine And.intro (fun h=>Bool.noConfusion (show false=true from h)) (fun _=>?_)
 refine gO ?_
 refine And.intro (fun h=>Bool.noConfusion (show false=true from h)) (fun _=>?_)
 refine gO ?_
 refine And.intro (fun h=>?_) (fun h=>?_)
 ·have h:lessS a b=true:=h
  refine gO ?_
  exact EntR.int (by simp[cmpS,h])
 have h:lessS a b=false:=h
 refine gO ?_
 refine And.intro (fun h1=>?_) (fun h1=>?_)
 ·have h1:gtrS a b=true:=h1
  refine gO ?_
  exact EntR.int (by simp[cmpS,h,h1])
 have h1:gtrS a b=false:=h1
 refine gO ?_
 exact EntR.int (by simp[cmpS,h,h1])
def cmpM (x y:Mp):Int:=if cmpI x.frm y.frm=0 then cmpS x.tag y.tag else cmpI x.frm y.frm
def ctCompare:Ct:={ ι:=Mp × Mp,inp:=fun x=>[mpA x.1,mpA x.2],out:=fun x=>.v (.int .i64 (cmpM x.1 x.2)),pre:=fun _=>True }
def Γm:Ctx:=fun f=>match f with
 | 96=>some (.pure ctCmpI)
 | 327=>some (.pure ctCmpS)
 | 95=>some (.pure ctOr)
 | 90=>some (.pure ctValid)
 | 91=>some (.pure ctValid)
 | _=>none
theorem Γm_ok:CtxOk Tryz.prog (GlT mx pb) Γm:=by
 intro f h hh
 simp only[Γm] at hh
 split at hh<;>simp at hh<;>subst hh
 ·exact cmpI_ok
 ·exact cmpS_ok
 ·exact or_ok
 ·exact valid_ok
 ·exact rvalid_ok
theorem compare_ok:Sound Tryz.prog (GlT mx pb) 324 ctCompare:=by
 refine sound_by (cc:=false) Γm_ok Tryz.T_ok Tryz.mixed Tryz.func324 rfl (by kernel_rfl) (fun _=>rfl) (fun _ _=>by show 2≤17;decide) ?_
 intro ((x:Mp),(y:Mp)) _
 refine gO ?_
 first|refine wo5 ?_|refine And.intro (by kernel_rfl) ?_
 refine gO ?_
 refine ⟨(x.frm,y.frm),EntL.refl _,fun _=>trivial,?_⟩
 refine gO ?_
 refine ⟨(x.tag,y.tag),EntL.refl _,fun _=>trivial,?_⟩
 refine gO ?_
 refine ⟨(cmpI x.frm y.frm,cmpS x.tag y.tag),EntL.refl _,fun _=>trivial,?_⟩
 refine gO ?_
 exact EntR.int rfl
def keyD (m:Mp):D:=.ag [.v (.int .i64 m.frm),.v (.string m.tag)]
def ctKeyOf:Ct:={ ι:=Mp,inp:=fun x=>[mpA x],out:=fun x=>keyD x,pre:=fun _=>True }
theorem keyOf_ok:Sound Tryz.prog (GlT mx pb) 325 ctKeyOf:=by
 refine sound_by (cc:=false) Γ0_ok Tryz.T_ok Tryz.mixed Tryz.func325 rfl (by kernel_rfl) (fun _=>rfl) (fun _ _=>by show 1≤8;decide) ?_
 intro (x:Mp) _
 refine gO ?_
 exact EntR.of rfl (Ent.refl _)
def lessB (a b:Mp):Bool:=bif decide (a.frm<b.frm) then true else (bif a.frm==b.frm then lessS a.tag b.tag else false)
def ctBefore:Ct:={ ι:=Mp × Mp,inp:=fun x=>[mpA x.1,mpA x.2],out:=fun x=>.v (.bool (lessB x.1 x.2)),pre:=fun _=>True }
theorem rbefore_ok:Sound Tryz.prog (GlT mx pb) 152 ctBefore:=by
 refine sound_by (cc:=true) Γ0_ok Tryz.T_ok Tryz.mixed Tryz.func152 rfl (by kernel_rfl) (fun _=>rfl) (fun _ _=>by show 2≤24;decide) ?_
 intro ((x:Mp),(y:Mp)) _
 refine gT ?_
 generalize hp:decide (x.frm<y.frm)=p
 cases p with
 | true =>
  refine gT ?_
  exact EntR.bool (by simp only[lessB,hp];rfl)
 | false =>
  refine gT ?_
  generalize hq:(x.frm==y.frm)=q
  cases q with
  | true =>
   refine gT ?_
   exact EntR.bool (by simp only[lessB,hp,hq];rfl)
  | false =>
   refine gT ?_
   exact EntR.bool (by simp only[lessB,hp,hq];rfl)
set_option maxHeartbeats 1000000 in
theorem isName_ok:Sound Tryz.prog (GlT mx pb) 326 ctName:=by
 refine sound_by (cc:=true) Γ0_ok Tryz.T_ok Tryz.mixed Tryz.func326 rfl (by kernel_rfl) (fun _=>rfl) (fun _ _=>by show 1≤51;decide) ?_
 intro (s:ByteArray) (hs:s.size≤9223372036854775807)
 refine gT ?_
 generalize hp : @decide (s=⟨#[]⟩) (baDec s ⟨#[]⟩)=p
 have hp:eqB s ⟨#[]⟩=p:=hp
 cases p with
 | true =>
  refine gT ?_
  refine EntR.bool ?_
  have:=empty_iff.1 hp
  simp[isNameB,this]
 | false =>
 refine gT ?_
 refine And.intro (fun h=>?_) (fun h=>?_)
 ·have h:decide ((s.size:Int)>32)=true:=h
  refine gT ?_
  refine EntR.bool ?_
  have h:¬s.size≤32:=by simp at h;omega
  simp[isNameB,h]
 have h:decide ((s.size:Int)>32)=false:=h
 have h12:1≤s.size∧s.size≤32:=by
  have h0:¬s.size=0:=fun e=>by rw[empty_iff.2 e] at hp;simp at hp
  simp at h
  omega
 refine gO ?_
 refine ⟨0,Nat,fun k=>⟨[(0,.v (.string s)),(14,.v (.int .i64 s.size)),(15,.v (.int .i64 k))],[],[]⟩,fun k=>k≤s.size∧∀ j,j<k→nameC (bAt s j)=true,fun k=>s.size - k,fun _=>Nat.zero_le _,⟨0,⟨Nat.zero_le _,fun j hj=>by omega⟩,StLe.of (by repeat' (first|exact trivial|exact Ent.refl _|exact rfl|refine And.intro ?_ ?_)) trivial⟩,?_⟩
 rintro k ⟨hk,hd⟩
 refine gO ?_
 refine And.intro (fun h=>?_) (fun h=>?_)
 ·have h:k<s.size:=by simpa using h
  refine gO ?_
  refine And.intro (by omega) ?_
  refine gO ?_
  refine gT ?_
  generalize hp1:decide (bAt s ((k:Int)).toNat≥65)=p1
  cases p1 with
  | false =>
   refine gT ?_
   generalize hp3:decide (bAt s ((k:Int)).toNat≥97)=p3
   cases p3 with
   | false =>
    refine gT ?_
    generalize hp5:decide (bAt s ((k:Int)).toNat≥48)=p5
    cases p5 with
    | false =>
     refine gT ?_
     generalize hp7:(bAt s ((k:Int)).toNat != 95)=p7
     cases p7 with
     | false =>
      have hq7:(bAt s ((k:Int)).toNat==95)=true:=by simpa[bne] using hp7
      have hy:nameC (bAt s ((k:Int)).toNat)=true:=by
       simp only[nameC,hp1,hp3,hp5,hq7]
       simp
      rw[Int.toNat_natCast] at hy
      refine gT ?_
      refine And.intro (show fitsI64 ((k:Int)+1) from ⟨by omega,by omega⟩) ?_
      refine gT ?_
      exact ⟨k+1,⟨by omega,next_of hd hy⟩,(show s.size - (k+1)<s.size - k by omega),StLe.of (by repeat' (first|exact trivial|exact Ent.refl _|exact rfl|refine And.intro ?_ ?_)) trivial⟩
     | true =>
      have hq7:(bAt s ((k:Int)).toNat==95)=false:=by simpa[bne] using hp7
      have hy:nameC (bAt s ((k:Int)).toNat)=false:=by
       simp only[nameC,hp1,hp3,hp5,hq7]
       simp
      rw[Int.toNat_natCast] at hy
      refine gT ?_
      exact EntR.bool (name_no h hy).symm
    | true =>
     refine gT ?_
     generalize hp6:decide (bAt s ((k:Int)).toNat≤57)=p6
     cases p6 with
     | false =>
      refine gT ?_
      generalize hp7:(bAt s ((k:Int)).toNat != 95)=p7
      cases p7 with
      | false =>
       have hq7:(bAt s ((k:Int)).toNat==95)=true:=by simpa[bne] using hp7
       have hy:nameC (bAt s ((k:Int)).toNat)=true:=by
        simp only[nameC,hp1,hp3,hp5,hp6,hq7]
        simp
       rw[Int.toNat_natCast] at hy
       refine gT ?_
       refine And.intro (show fitsI64 ((k:Int)+1) from ⟨by omega,by omega⟩) ?_
       refine gT ?_
       exact ⟨k+1,⟨by omega,next_of hd hy⟩,(show s.size - (k+1)<s.size - k by omega),StLe.of (by repeat' (first|exact trivial|exact Ent.refl _|exact rfl|refine And.intro ?_ ?_)) trivial⟩
      | true =>
       have hq7:(bAt s ((k:Int)).toNat==95)=false:=by simpa[bne] using hp7
       have hy:nameC (bAt s ((k:Int)).toNat)=false:=by
        simp only[nameC,hp1,hp3,hp5,hp6,hq7]
        simp
       rw[Int.toNat_natCast] at hy
       refine gT ?_
       exact EntR.bool (name_no h hy).symm
     | true =>
      have hy:nameC (bAt s ((k:Int)).toNat)=true:=by
       simp only[nameC,hp1,hp3,hp5,hp6]
       simp
      rw[Int.toNat_natCast] at hy
      refine gT ?_
      refine And.intro (show fitsI64 ((k:Int)+1) from ⟨by omega,by omega⟩) ?_
      refine gT ?_
      exact ⟨k+1,⟨by omega,next_of hd hy⟩,(show s.size - (k+1)<s.size - k by omega),StLe.of (by repeat' (first|exact trivial|exact Ent.refl _|exact rfl|refine And.intro ?_ ?_)) trivial⟩
   | true =>
    refine gT ?_
    generalize hp4:decide (bAt s ((k:Int)).toNat≤122)=p4
    cases p4 with
    | false =>
     refine gT ?_
     generalize hp5:decide (bAt s ((k:Int)).toNat≥48)=p5
     cases p5 with
     | false =>
      refine gT ?_
      generalize hp7:(bAt s ((k:Int)).toNat != 95)=p7
      cases p7 with
      | false =>
       have hq7:(bAt s ((k:Int)).toNat==95)=true:=by simpa[bne] using hp7
       have hy:nameC (bAt s ((k:Int)).toNat)=true:=by
        simp only[nameC,hp1,hp3,hp4,hp5,hq7]
        simp
       rw[Int.toNat_natCast] at hy
       refine gT ?_
       refine And.intro (show fitsI64 ((k:Int)+1) from ⟨by omega,by omega⟩) ?_
       refine gT ?_
       exact ⟨k+1,⟨by omega,next_of hd hy⟩,(show s.size - (k+1)<s.size - k by omega),StLe.of (by repeat' (first|exact trivial|exact Ent.refl _|exact rfl|refine And.intro ?_ ?_)) trivial⟩
      | true =>
       have hq7:(bAt s ((k:Int)).toNat==95)=false:=by simpa[bne] using hp7
       have hy:nameC (bAt s ((k:Int)).toNat)=false:=by
        simp only[nameC,hp1,hp3,hp4,hp5,hq7]
        simp
       rw[Int.toNat_natCast] at hy
       refine gT ?_
       exact EntR.bool (name_no h hy).symm
     | true =>
      refine gT ?_
      generalize hp6:decide (bAt s ((k:Int)).toNat≤57)=p6
      cases p6 with
      | false =>
       refine gT ?_
       generalize hp7:(bAt s ((k:Int)).toNat != 95)=p7
       cases p7 with
       | false =>
        have hq7:(bAt s ((k:Int)).toNat==95)=true:=by simpa[bne] using hp7
        have hy:nameC (bAt s ((k:Int)).toNat)=true:=by
         simp only[nameC,hp1,hp3,hp4,hp5,hp6,hq7]
         simp
        rw[Int.toNat_natCast] at hy
        refine gT ?_
        refine And.intro (show fitsI64 ((k:Int)+1) from ⟨by omega,by omega⟩) ?_
        refine gT ?_
        exact ⟨k+1,⟨by omega,next_of hd hy⟩,(show s.size - (k+1)<s.size - k by omega),StLe.of (by repeat' (first|exact trivial|exact Ent.refl _|exact rfl|refine And.intro ?_ ?_)) trivial⟩
       | true =>
        have hq7:(bAt s ((k:Int)).toNat==95)=false:=by simpa[bne] using hp7
        have hy:nameC (bAt s ((k:Int)).toNat)=false:=by
         simp only[nameC,hp1,hp3,hp4,hp5,hp6,hq7]
         simp
        rw[Int.toNat_natCast] at hy
        refine gT ?_
        exact EntR.bool (name_no h hy).symm
      | true =>
       have hy:nameC (bAt s ((k:Int)).toNat)=true:=by
        simp only[nameC,hp1,hp3,hp4,hp5,hp6]
        simp
       rw[Int.toNat_natCast] at hy
       refine gT ?_
       refine And.intro (show fitsI64 ((k:Int)+1) from ⟨by omega,by omega⟩) ?_
       refine gT ?_
       exact ⟨k+1,⟨by omega,next_of hd hy⟩,(show s.size - (k+1)<s.size - k by omega),StLe.of (by repeat' (first|exact trivial|exact Ent.refl _|exact rfl|refine And.intro ?_ ?_)) trivial⟩
    | true =>
     have hy:nameC (bAt s ((k:Int)).toNat)=true:=by
      simp only[nameC,hp1,hp3,hp4]
      simp
     rw[Int.toNat_natCast] at hy
     refine gT ?_
     refine And.intro (show fitsI64 ((k:Int)+1) from ⟨by omega,by omega⟩) ?_
     refine gT ?_
     exact ⟨k+1,⟨by omega,next_of hd hy⟩,(show s.size - (k+1)<s.size - k by omega),StLe.of (by repeat' (first|exact trivial|exact Ent.refl _|exact rfl|refine And.intro ?_ ?_)) trivial⟩
  | true =>
   refine gT ?_
   generalize hp2:decide (bAt s ((k:Int)).toNat≤90)=p2
   cases p2 with
   | false =>
    refine gT ?_
    generalize hp3:decide (bAt s ((k:Int)).toNat≥97)=p3
    cases p3 with
    | false =>
     refine gT ?_
     generalize hp5:decide (bAt s ((k:Int)).toNat≥48)=p5
     cases p5 with
     | false =>
      refine gT ?_
      generalize hp7:(bAt s ((k:Int)).toNat != 95)=p7
      cases p7 with
      | false =>
       have hq7:(bAt s ((k:Int)).toNat==95)=true:=by simpa[bne] using hp7
       have hy:nameC (bAt s ((k:Int)).toNat)=true:=by
        simp only[nameC,hp1,hp2,hp3,hp5,hq7]
        simp
       rw[Int.toNat_natCast] at hy
       refine gT ?_
       refine And.intro (show fitsI64 ((k:Int)+1) from ⟨by omega,by omega⟩) ?_
       refine gT ?_
       exact ⟨k+1,⟨by omega,next_of hd hy⟩,(show s.size - (k+1)<s.size - k by omega),StLe.of (by repeat' (first|exact trivial|exact Ent.refl _|exact rfl|refine And.intro ?_ ?_)) trivial⟩
      | true =>
       have hq7:(bAt s ((k:Int)).toNat==95)=false:=by simpa[bne] using hp7
       have hy:nameC (bAt s ((k:Int)).toNat)=false:=by
        simp only[nameC,hp1,hp2,hp3,hp5,hq7]
        simp
       rw[Int.toNat_natCast] at hy
       refine gT ?_
       exact EntR.bool (name_no h hy).symm
     | true =>
      refine gT ?_
      generalize hp6:decide (bAt s ((k:Int)).toNat≤57)=p6
      cases p6 with
      | false =>
       refine gT ?_
       generalize hp7:(bAt s ((k:Int)).toNat != 95)=p7
       cases p7 with
       | false =>
        have hq7:(bAt s ((k:Int)).toNat==95)=true:=by simpa[bne] using hp7
        have hy:nameC (bAt s ((k:Int)).toNat)=true:=by
         simp only[nameC,hp1,hp2,hp3,hp5,hp6,hq7]
         simp
        rw[Int.toNat_natCast] at hy
        refine gT ?_
        refine And.intro (show fitsI64 ((k:Int)+1) from ⟨by omega,by omega⟩) ?_
        refine gT ?_
        exact ⟨k+1,⟨by omega,next_of hd hy⟩,(show s.size - (k+1)<s.size - k by omega),StLe.of (by repeat' (first|exact trivial|exact Ent.refl _|exact rfl|refine And.intro ?_ ?_)) trivial⟩
       | true =>
        have hq7:(bAt s ((k:Int)).toNat==95)=false:=by simpa[bne] using hp7
        have hy:nameC (bAt s ((k:Int)).toNat)=false:=by
         simp only[nameC,hp1,hp2,hp3,hp5,hp6,hq7]
         simp
        rw[Int.toNat_natCast] at hy
        refine gT ?_
        exact EntR.bool (name_no h hy).symm
      | true =>
       have hy:nameC (bAt s ((k:Int)).toNat)=true:=by
        simp only[nameC,hp1,hp2,hp3,hp5,hp6]
        simp
       rw[Int.toNat_natCast] at hy
       refine gT ?_
       refine And.intro (show fitsI64 ((k:Int)+1) from ⟨by omega,by omega⟩) ?_
       refine gT ?_
       exact ⟨k+1,⟨by omega,next_of hd hy⟩,(show s.size - (k+1)<s.size - k by omega),StLe.of (by repeat' (first|exact trivial|exact Ent.refl _|exact rfl|refine And.intro ?_ ?_)) trivial⟩
    | true =>
     refine gT ?_
     generalize hp4:decide (bAt s ((k:Int)).toNat≤122)=p4
     cases p4 with
     | false =>
      refine gT ?_
      generalize hp5:decide (bAt s ((k:Int)).toNat≥48)=p5
      cases p5 with
      | false =>
       refine gT ?_
       generalize hp7:(bAt s ((k:Int)).toNat != 95)=p7
       cases p7 with
       | false =>
        have hq7:(bAt s ((k:Int)).toNat==95)=true:=by simpa[bne] using hp7
        have hy:nameC (bAt s ((k:Int)).toNat)=true:=by
         simp only[nameC,hp1,hp2,hp3,hp4,hp5,hq7]
         simp
        rw[Int.toNat_natCast] at hy
        refine gT ?_
        refine And.intro (show fitsI64 ((k:Int)+1) from ⟨by omega,by omega⟩) ?_
        refine gT ?_
        exact ⟨k+1,⟨by omega,next_of hd hy⟩,(show s.size - (k+1)<s.size - k by omega),StLe.of (by repeat' (first|exact trivial|exact Ent.refl _|exact rfl|refine And.intro ?_ ?_)) trivial⟩
       | true =>
        have hq7:(bAt s ((k:Int)).toNat==95)=false:=by simpa[bne] using hp7
        have hy:nameC (bAt s ((k:Int)).toNat)=false:=by
         simp only[nameC,hp1,hp2,hp3,hp4,hp5,hq7]
         simp
        rw[Int.toNat_natCast] at hy
        refine gT ?_
        exact EntR.bool (name_no h hy).symm
      | true =>
       refine gT ?_
       generalize hp6:decide (bAt s ((k:Int)).toNat≤57)=p6
       cases p6 with
       | false =>
        refine gT ?_
        generalize hp7:(bAt s ((k:Int)).toNat != 95)=p7
        cases p7 with
        | false =>
         have hq7:(bAt s ((k:Int)).toNat==95)=true:=by simpa[bne] using hp7
         have hy:nameC (bAt s ((k:Int)).toNat)=true:=by
          simp only[nameC,hp1,hp2,hp3,hp4,hp5,hp6,hq7]
          simp
         rw[Int.toNat_natCast] at hy
         refine gT ?_
         refine And.intro (show fitsI64 ((k:Int)+1) from ⟨by omega,by omega⟩) ?_
         refine gT ?_
         exact ⟨k+1,⟨by omega,next_of hd hy⟩,(show s.size - (k+1)<s.size - k by omega),StLe.of (by repeat' (first|exact trivial|exact Ent.refl _|exact rfl|refine And.intro ?_ ?_)) trivial⟩
        | true =>
         have hq7:(bAt s ((k:Int)).toNat==95)=false:=by simpa[bne] using hp7
         have hy:nameC (bAt s ((k:Int)).toNat)=false:=by
          simp only[nameC,hp1,hp2,hp3,hp4,hp5,hp6,hq7]
          simp
         rw[Int.toNat_natCast] at hy
         refine gT ?_
         exact EntR.bool (name_no h hy).symm
       | true =>
        have hy:nameC (bAt s ((k:Int)).toNat)=true:=by
         simp only[nameC,hp1,hp2,hp3,hp4,hp5,hp6]
         simp
        rw[Int.toNat_natCast] at hy
        refine gT ?_
        refine And.intro (show fitsI64 ((k:Int)+1) from ⟨by omega,by omega⟩) ?_
        refine gT ?_
        exact ⟨k+1,⟨by omega,next_of hd hy⟩,(show s.size - (k+1)<s.size - k by omega),StLe.of (by repeat' (first|exact trivial|exact Ent.refl _|exact rfl|refine And.intro ?_ ?_)) trivial⟩
     | true =>
      have hy:nameC (bAt s ((k:Int)).toNat)=true:=by
       simp only[nameC,hp1,hp2,hp3,hp4]
       simp
      rw[Int.toNat_natCast] at hy
      refine gT ?_
      refine And.intro (show fitsI64 ((k:Int)+1) from ⟨by omega,by omega⟩) ?_
      refine gT ?_
      exact ⟨k+1,⟨by omega,next_of hd hy⟩,(show s.size - (k+1)<s.size - k by omega),StLe.of (by repeat' (first|exact trivial|exact Ent.refl _|exact rfl|refine And.intro ?_ ?_)) trivial⟩
   | true =>
    have hy:nameC (bAt s ((k:Int)).toNat)=true:=by
     simp only[nameC,hp1,hp2]
     simp
    rw[Int.toNat_natCast] at hy
    refine gT ?_
    refine And.intro (show fitsI64 ((k:Int)+1) from ⟨by omega,by omega⟩) ?_
    refine gT ?_
    exact ⟨k+1,⟨by omega,next_of hd hy⟩,(show s.size - (k+1)<s.size - k by omega),StLe.of (by repeat' (first|exact trivial|exact Ent.refl _|exact rfl|refine And.intro ?_ ?_)) trivial⟩
 ·have h:k=s.size:=by simp at h;omega
  subst h
  refine gO ?_
  refine EntR.bool ?_
  rw[name_yes hd]
  simp[h12]
set_option maxHeartbeats 1000000 in
theorem rname_ok:Sound Tryz.prog (GlT mx pb) 211 ctName:=by
 refine sound_by (cc:=true) Γ0_ok Tryz.T_ok Tryz.mixed Tryz.func211 rfl (by kernel_rfl) (fun _=>rfl) (fun _ _=>by show 1≤49;decide) ?_
 intro (s:ByteArray) (hs:s.size≤9223372036854775807)
 refine gO ?_
 refine ⟨0,Nat,fun k=>⟨[(0,.v (.string s)),(3,.v (.int .i64 k))],[],[]⟩,fun k=>k≤s.size∧∀ j,j<k→nameC (bAt s j)=true,fun k=>s.size - k,fun _=>Nat.zero_le _,⟨0,⟨Nat.zero_le _,fun j hj=>by omega⟩,StLe.of (by repeat' (first|exact trivial|exact Ent.refl _|exact rfl|refine And.intro ?_ ?_)) trivial⟩,?_⟩
 rintro k ⟨hk,hd⟩
 refine gO ?_
 refine And.intro (fun h=>?_) (fun h=>?_)
 ·have h:k<s.size:=by simpa using h
  refine gO ?_
  refine And.intro (by omega) ?_
  refine gO ?_
  refine gT ?_
  generalize hp1:decide (bAt s ((k:Int)).toNat≥65)=p1
  cases p1 with
  | false =>
   refine gT ?_
   generalize hp3:decide (bAt s ((k:Int)).toNat≥97)=p3
   cases p3 with
   | false =>
    refine gT ?_
    generalize hp5:decide (bAt s ((k:Int)).toNat≥48)=p5
    cases p5 with
    | false =>
     refine gT ?_
     generalize hp7:(bAt s ((k:Int)).toNat==95)=p7
     cases p7 with
     | false =>
      have hy:nameC (bAt s ((k:Int)).toNat)=false:=by
       simp only[nameC,hp1,hp3,hp5,hp7]
       simp
      rw[Int.toNat_natCast] at hy
      refine gT ?_
      exact EntR.bool (name_no h hy).symm
     | true =>
      have hy:nameC (bAt s ((k:Int)).toNat)=true:=by
       simp only[nameC,hp1,hp3,hp5,hp7]
       simp
      rw[Int.toNat_natCast] at hy
      refine gT ?_
      refine And.intro (show fitsI64 ((k:Int)+1) from ⟨by omega,by omega⟩) ?_
      refine gT ?_
      exact ⟨k+1,⟨by omega,next_of hd hy⟩,(show s.size - (k+1)<s.size - k by omega),StLe.of (by repeat' (first|exact trivial|exact Ent.refl _|exact rfl|refine And.intro ?_ ?_)) trivial⟩
    | true =>
     refine gT ?_
     generalize hp6:decide (bAt s ((k:Int)).toNat≤57)=p6
     cases p6 with
     | false =>
      refine gT ?_
      generalize hp7:(bAt s ((k:Int)).toNat==95)=p7
      cases p7 with
      | false =>
       have hy:nameC (bAt s ((k:Int)).toNat)=false:=by
        simp only[nameC,hp1,hp3,hp5,hp6,hp7]
        simp
       rw[Int.toNat_natCast] at hy
       refine gT ?_
       exact EntR.bool (name_no h hy).symm
      | true =>
       have hy:nameC (bAt s ((k:Int)).toNat)=true:=by
        simp only[nameC,hp1,hp3,hp5,hp6,hp7]
        simp
       rw[Int.toNat_natCast] at hy
       refine gT ?_
       refine And.intro (show fitsI64 ((k:Int)+1) from ⟨by omega,by omega⟩) ?_
       refine gT ?_
       exact ⟨k+1,⟨by omega,next_of hd hy⟩,(show s.size - (k+1)<s.size - k by omega),StLe.of (by repeat' (first|exact trivial|exact Ent.refl _|exact rfl|refine And.intro ?_ ?_)) trivial⟩
     | true =>
      have hy:nameC (bAt s ((k:Int)).toNat)=true:=by
       simp only[nameC,hp1,hp3,hp5,hp6]
       simp
      rw[Int.toNat_natCast] at hy
      refine gT ?_
      refine And.intro (show fitsI64 ((k:Int)+1) from ⟨by omega,by omega⟩) ?_
      refine gT ?_
      exact ⟨k+1,⟨by omega,next_of hd hy⟩,(show s.size - (k+1)<s.size - k by omega),StLe.of (by repeat' (first|exact trivial|exact Ent.refl _|exact rfl|refine And.intro ?_ ?_)) trivial⟩
   | true =>
    refine gT ?_
    generalize hp4:decide (bAt s ((k:Int)).toNat≤122)=p4
    cases p4 with
    | false =>
     refine gT ?_
     generalize hp5:decide (bAt s ((k:Int)).toNat≥48)=p5
     cases p5 with
     | false =>
      refine gT ?_
      generalize hp7:(bAt s ((k:Int)).toNat==95)=p7
      cases p7 with
      | false =>
       have hy:nameC (bAt s ((k:Int)).toNat)=false:=by
        simp only[nameC,hp1,hp3,hp4,hp5,hp7]
        simp
       rw[Int.toNat_natCast] at hy
       refine gT ?_
       exact EntR.bool (name_no h hy).symm
      | true =>
       have hy:nameC (bAt s ((k:Int)).toNat)=true:=by
        simp only[nameC,hp1,hp3,hp4,hp5,hp7]
        simp
       rw[Int.toNat_natCast] at hy
       refine gT ?_
       refine And.intro (show fitsI64 ((k:Int)+1) from ⟨by omega,by omega⟩) ?_
       refine gT ?_
       exact ⟨k+1,⟨by omega,next_of hd hy⟩,(show s.size - (k+1)<s.size - k by omega),StLe.of (by repeat' (first|exact trivial|exact Ent.refl _|exact rfl|refine And.intro ?_ ?_)) trivial⟩
     | true =>
      refine gT ?_
      generalize hp6:decide (bAt s ((k:Int)).toNat≤57)=p6
      cases p6 with
      | false =>
       refine gT ?_
       generalize hp7:(bAt s ((k:Int)).toNat==95)=p7
       cases p7 with
       | false =>
        have hy:nameC (bAt s ((k:Int)).toNat)=false:=by
         simp only[nameC,hp1,hp3,hp4,hp5,hp6,hp7]
         simp
        rw[Int.toNat_natCast] at hy
        refine gT ?_
        exact EntR.bool (name_no h hy).symm
       | true =>
        have hy:nameC (bAt s ((k:Int)).toNat)=true:=by
         simp only[nameC,hp1,hp3,hp4,hp5,hp6,hp7]
         simp
        rw[Int.toNat_natCast] at hy
        refine gT ?_
        refine And.intro (show fitsI64 ((k:Int)+1) from ⟨by omega,by omega⟩) ?_
        refine gT ?_
        exact ⟨k+1,⟨by omega,next_of hd hy⟩,(show s.size - (k+1)<s.size - k by omega),StLe.of (by repeat' (first|exact trivial|exact Ent.refl _|exact rfl|refine And.intro ?_ ?_)) trivial⟩
      | true =>
       have hy:nameC (bAt s ((k:Int)).toNat)=true:=by
        simp only[nameC,hp1,hp3,hp4,hp5,hp6]
        simp
       rw[Int.toNat_natCast] at hy
       refine gT ?_
       refine And.intro (show fitsI64 ((k:Int)+1) from ⟨by omega,by omega⟩) ?_
       refine gT ?_
       exact ⟨k+1,⟨by omega,next_of hd hy⟩,(show s.size - (k+1)<s.size - k by omega),StLe.of (by repeat' (first|exact trivial|exact Ent.refl _|exact rfl|refine And.intro ?_ ?_)) trivial⟩
    | true =>
     have hy:nameC (bAt s ((k:Int)).toNat)=true:=by
      simp only[nameC,hp1,hp3,hp4]
      simp
     rw[Int.toNat_natCast] at hy
     refine gT ?_
     refine And.intro (show fitsI64 ((k:Int)+1) from ⟨by omega,by omega⟩) ?_
     refine gT ?_
     exact ⟨k+1,⟨by omega,next_of hd hy⟩,(show s.size - (k+1)<s.size - k by omega),StLe.of (by repeat' (first|exact trivial|exact Ent.refl _|exact rfl|refine And.intro ?_ ?_)) trivial⟩
  | true =>
   refine gT ?_
   generalize hp2:decide (bAt s ((k:Int)).toNat≤90)=p2
   cases p2 with
   | false =>
    refine gT ?_
    generalize hp3:decide (bAt s ((k:Int)).toNat≥97)=p3
    cases p3 with
    | false =>
     refine gT ?_
     generalize hp5:decide (bAt s ((k:Int)).toNat≥48)=p5
     cases p5 with
     | false =>
      refine gT ?_
      generalize hp7:(bAt s ((k:Int)).toNat==95)=p7
      cases p7 with
      | false =>
       have hy:nameC (bAt s ((k:Int)).toNat)=false:=by
        simp only[nameC,hp1,hp2,hp3,hp5,hp7]
        simp
       rw[Int.toNat_natCast] at hy
       refine gT ?_
       exact EntR.bool (name_no h hy).symm
      | true =>
       have hy:nameC (bAt s ((k:Int)).toNat)=true:=by
        simp only[nameC,hp1,hp2,hp3,hp5,hp7]
        simp
       rw[Int.toNat_natCast] at hy
       refine gT ?_
       refine And.intro (show fitsI64 ((k:Int)+1) from ⟨by omega,by omega⟩) ?_
       refine gT ?_
       exact ⟨k+1,⟨by omega,next_of hd hy⟩,(show s.size - (k+1)<s.size - k by omega),StLe.of (by repeat' (first|exact trivial|exact Ent.refl _|exact rfl|refine And.intro ?_ ?_)) trivial⟩
     | true =>
      refine gT ?_
      generalize hp6:decide (bAt s ((k:Int)).toNat≤57)=p6
      cases p6 with
      | false =>
       refine gT ?_
       generalize hp7:(bAt s ((k:Int)).toNat==95)=p7
       cases p7 with
       | false =>
        have hy:nameC (bAt s ((k:Int)).toNat)=false:=by
         simp only[nameC,hp1,hp2,hp3,hp5,hp6,hp7]
         simp
        rw[Int.toNat_natCast] at hy
        refine gT ?_
        exact EntR.bool (name_no h hy).symm
       | true =>
        have hy:nameC (bAt s ((k:Int)).toNat)=true:=by
         simp only[nameC,hp1,hp2,hp3,hp5,hp6,hp7]
         simp
        rw[Int.toNat_natCast] at hy
        refine gT ?_
        refine And.intro (show fitsI64 ((k:Int)+1) from ⟨by omega,by omega⟩) ?_
        refine gT ?_
        exact ⟨k+1,⟨by omega,next_of hd hy⟩,(show s.size - (k+1)<s.size - k by omega),StLe.of (by repeat' (first|exact trivial|exact Ent.refl _|exact rfl|refine And.intro ?_ ?_)) trivial⟩
      | true =>
       have hy:nameC (bAt s ((k:Int)).toNat)=true:=by
        simp only[nameC,hp1,hp2,hp3,hp5,hp6]
        simp
       rw[Int.toNat_natCast] at hy
       refine gT ?_
       refine And.intro (show fitsI64 ((k:Int)+1) from ⟨by omega,by omega⟩) ?_
       refine gT ?_
       exact ⟨k+1,⟨by omega,next_of hd hy⟩,(show s.size - (k+1)<s.size - k by omega),StLe.of (by repeat' (first|exact trivial|exact Ent.refl _|exact rfl|refine And.intro ?_ ?_)) trivial⟩
    | true =>
     refine gT ?_
     generalize hp4:decide (bAt s ((k:Int)).toNat≤122)=p4
     cases p4 with
     | false =>
      refine gT ?_
      generalize hp5:decide (bAt s ((k:Int)).toNat≥48)=p5
      cases p5 with
      | false =>
       refine gT ?_
       generalize hp7:(bAt s ((k:Int)).toNat==95)=p7
       cases p7 with
       | false =>
        have hy:nameC (bAt s ((k:Int)).toNat)=false:=by
         simp only[nameC,hp1,hp2,hp3,hp4,hp5,hp7]
         simp
        rw[Int.toNat_natCast] at hy
        refine gT ?_
        exact EntR.bool (name_no h hy).symm
       | true =>
        have hy:nameC (bAt s ((k:Int)).toNat)=true:=by
         simp only[nameC,hp1,hp2,hp3,hp4,hp5,hp7]
         simp
        rw[Int.toNat_natCast] at hy
        refine gT ?_
        refine And.intro (show fitsI64 ((k:Int)+1) from ⟨by omega,by omega⟩) ?_
        refine gT ?_
        exact ⟨k+1,⟨by omega,next_of hd hy⟩,(show s.size - (k+1)<s.size - k by omega),StLe.of (by repeat' (first|exact trivial|exact Ent.refl _|exact rfl|refine And.intro ?_ ?_)) trivial⟩
      | true =>
       refine gT ?_
       generalize hp6:decide (bAt s ((k:Int)).toNat≤57)=p6
       cases p6 with
       | false =>
        refine gT ?_
        generalize hp7:(bAt s ((k:Int)).toNat==95)=p7
        cases p7 with
        | false =>
         have hy:nameC (bAt s ((k:Int)).toNat)=false:=by
          simp only[nameC,hp1,hp2,hp3,hp4,hp5,hp6,hp7]
          simp
         rw[Int.toNat_natCast] at hy
         refine gT ?_
         exact EntR.bool (name_no h hy).symm
        | true =>
         have hy:nameC (bAt s ((k:Int)).toNat)=true:=by
          simp only[nameC,hp1,hp2,hp3,hp4,hp5,hp6,hp7]
          simp
         rw[Int.toNat_natCast] at hy
         refine gT ?_
         refine And.intro (show fitsI64 ((k:Int)+1) from ⟨by omega,by omega⟩) ?_
         refine gT ?_
         exact ⟨k+1,⟨by omega,next_of hd hy⟩,(show s.size - (k+1)<s.size - k by omega),StLe.of (by repeat' (first|exact trivial|exact Ent.refl _|exact rfl|refine And.intro ?_ ?_)) trivial⟩
       | true =>
        have hy:nameC (bAt s ((k:Int)).toNat)=true:=by
         simp only[nameC,hp1,hp2,hp3,hp4,hp5,hp6]
         simp
        rw[Int.toNat_natCast] at hy
        refine gT ?_
        refine And.intro (show fitsI64 ((k:Int)+1) from ⟨by omega,by omega⟩) ?_
        refine gT ?_
        exact ⟨k+1,⟨by omega,next_of hd hy⟩,(show s.size - (k+1)<s.size - k by omega),StLe.of (by repeat' (first|exact trivial|exact Ent.refl _|exact rfl|refine And.intro ?_ ?_)) trivial⟩
     | true =>
      have hy:nameC (bAt s ((k:Int)).toNat)=true:=by
       simp only[nameC,hp1,hp2,hp3,hp4]
       simp
      rw[Int.toNat_natCast] at hy
      refine gT ?_
      refine And.intro (show fitsI64 ((k:Int)+1) from ⟨by omega,by omega⟩) ?_
      refine gT ?_
      exact ⟨k+1,⟨by omega,next_of hd hy⟩,(show s.size - (k+1)<s.size - k by omega),StLe.of (by repeat' (first|exact trivial|exact Ent.refl _|exact rfl|refine And.intro ?_ ?_)) trivial⟩
   | true =>
    have hy:nameC (bAt s ((k:Int)).toNat)=true:=by
     simp only[nameC,hp1,hp2]
     simp
    rw[Int.toNat_natCast] at hy
    refine gT ?_
    refine And.intro (show fitsI64 ((k:Int)+1) from ⟨by omega,by omega⟩) ?_
    refine gT ?_
    exact ⟨k+1,⟨by omega,next_of hd hy⟩,(show s.size - (k+1)<s.size - k by omega),StLe.of (by repeat' (first|exact trivial|exact Ent.refl _|exact rfl|refine And.intro ?_ ?_)) trivial⟩
 ·have h:k=s.size:=by simp at h;omega
  subst h
  refine gT ?_
  generalize hp:decide ((s.size:Int)≥1)=p
  cases p with
  | true =>
   refine gT ?_
   refine EntR.bool ?_
   rw[name_yes hd]
   have h1:1≤s.size:=by simp at hp;omega
   simp only[h1,decide_true,Bool.true_and]
   rw[decide_eq_decide]
   omega
  | false =>
   refine gT ?_
   refine EntR.bool ?_
   rw[name_yes hd]
   have h1:¬1≤s.size:=by simp at hp;omega
   simp[h1]
end Go.Proofs
namespace Go.Proofs
open Go Go.Sx
variable {mx:Int}{pb:Bool}
def codesB (m:Mp):Bool:=m.to.all validB&&validB m.frm
def fitM (m:Mp):Prop:=m.to.length≤9223372036854775807∧m.tag.size≤9223372036854775807
def fitL (l:List Mp):Prop:=l.length≤9223372036854775807∧∀ k,k<l.length→fitM (l.getD k default)
def ctCodes:Ct:={ ι:=Mp,inp:=fun m=>[mpA m],out:=fun m=>.v (.bool (codesB m)),pre:=fitM }
set_option maxHeartbeats 1000000 in
theorem rcodes_ok:Sound Tryz.prog (GlT mx pb) 210 ctCodes:=by
 refine sound_by (cc:=false) Γm_ok Tryz.T_ok Tryz.mixed Tryz.func210 rfl (by kernel_rfl) (fun _=>rfl) (fun _ _=>by show 1≤21;decide) ?_
 intro (m:Mp) (hm:fitM m)
 have hl:=hm.1
 refine gO ?_
 refine ⟨0,Nat,fun k=>⟨[(1,.own 0 0),(3,.v (.int .i64 k))],[.cells 149 [mpD m 0,mpD m 1,mpD m 2]],[]⟩,fun k=>k≤m.to.length∧∀ j,j<k→validB (m.to.getD j default)=true,fun k=>m.to.length - k,fun _=>Nat.zero_le _,⟨0,⟨Nat.zero_le _,fun j hj=>by omega⟩,StLe.of (by repeat' (first|exact trivial|exact Ent.refl _|exact rfl|refine And.intro ?_ ?_)) (by repeat' (first|exact trivial|exact EntL.refl _|exact rfl|refine And.intro ?_ ?_))⟩,?_⟩
 rintro k ⟨hk,hd⟩
 refine gO ?_
 refine And.intro (fun h=>?_) (fun h=>?_)
 ·have h:k<m.to.length:=by simpa using h
  refine gO ?_
  refine And.intro (by omega) ?_
  refine gO ?_
  refine ⟨m.to.getD k default,EntL.refl _,trivial,?_⟩
  refine gO ?_
  refine And.intro (fun h1=>?_) (fun h1=>?_)
  ·have h1:(!validB (m.to.getD k default))=true:=h1
   refine gO ?_
   refine EntR.bool ?_
   have h2:=not_all (p:=validB) h (by simpa using h1)
   simp[codesB,h2]
  ·have h1:(!validB (m.to.getD k default))=false:=h1
   refine gO ?_
   refine And.intro (show fitsI64 ((k:Int)+1) from ⟨by omega,by omega⟩) ?_
   refine gO ?_
   exact ⟨k+1,⟨by omega,next_of hd (by simpa using h1)⟩,(show m.to.length - (k+1)<m.to.length - k by omega),StLe.of (by repeat' (first|exact trivial|exact Ent.refl _|exact rfl|refine And.intro ?_ ?_)) (by repeat' (first|exact trivial|exact EntL.refl _|exact rfl|refine And.intro ?_ ?_))⟩
 ·have h:k=m.to.length:=by simp at h;omega
  refine gO ?_
  refine ⟨m.frm,EntL.refl _,trivial,?_⟩
  refine gO ?_
  refine EntR.bool ?_
  have h2:=all_of (p:=validB) h hd
  simp[codesB,h2]
def sameK (a b:Mp):Bool:=bif a.frm==b.frm then eqB a.tag b.tag else false
theorem sameK_iff {a b:Mp}:sameK a b=true↔a.frm=b.frm∧a.tag=b.tag:=by
 unfold sameK
 by_cases h:a.frm=b.frm
 ·simp[h,eqB_iff]
 ·have:(a.frm==b.frm)=false:=by simpa using h
  simp[this,h]
def Dup (l:List Mp) (i j:Nat):Prop:=j<i∧i<l.length∧sameK (l.getD i default) (l.getD j default)=true
open Classical in
noncomputable def dupB (l:List Mp):Bool:=decide (∃ i j,Dup l i j)
theorem dup_yes {l:List Mp}{i j:Nat}(h:Dup l i j):dupB l=true:=by simp only[dupB,decide_eq_true_eq];exact ⟨i,j,h⟩
theorem dup_no {l:List Mp}(h:∀ i j,¬Dup l i j):dupB l=false:=by simp only[dupB,decide_eq_false_iff_not];rintro ⟨i,j,hd⟩;exact h i j hd
noncomputable def ctTwice:Ct:={ ι:=List Mp,inp:=fun l=>[mpsD l],out:=fun l=>.v (.bool (dupB l)),pre:=fitL }
set_option maxHeartbeats 1000000 in
theorem rtwice_ok:Sound Tryz.prog (GlT mx pb) 212 ctTwice:=by
 refine sound_by (cc:=false) Γ0_ok Tryz.T_ok Tryz.mixed Tryz.func212 rfl (by kernel_rfl) (fun _=>rfl) (fun _ _=>by show 1≤40;decide) ?_
 intro (l:List Mp) (hl:fitL l)
 have hl:=hl.1
 refine gO ?_
 refine ⟨0,Nat,fun k=>⟨[(0,mpsD l),(3,.v (.int .i64 k))],[],[]⟩,fun k=>k≤l.length∧∀ i j,i<k→¬Dup l i j,fun k=>l.length - k,fun _=>Nat.zero_le _,⟨0,⟨Nat.zero_le _,fun i j hj=>by omega⟩,StLe.of (by repeat' (first|exact trivial|exact Ent.refl _|exact rfl|refine And.intro ?_ ?_)) trivial⟩,?_⟩
 rintro k ⟨hk,hd⟩
 refine gO ?_
 refine And.intro (fun h=>?_) (fun h=>?_)
 ·have h:k<l.length:=by simpa using h
  refine gO ?_
  refine ⟨0,Nat,fun q=>⟨[(0,mpsD l),(3,.v (.int .i64 k)),(4,.v (.int .i64 q))],[],[]⟩,fun q=>q≤k∧∀ j,j<q→¬Dup l k j,fun q=>k - q,fun _=>Nat.zero_le _,⟨0,⟨Nat.zero_le _,fun j hj=>by omega⟩,StLe.of (by repeat' (first|exact trivial|exact Ent.refl _|exact rfl|refine And.intro ?_ ?_)) trivial⟩,?_⟩
  rintro q ⟨hq,hdq⟩
  refine gO ?_
  refine And.intro (fun h1=>?_) (fun h1=>?_)
  ·have h1:q<k:=by simpa using h1
   refine gO ?_
   first|refine wo5 ?_|refine And.intro (by kernel_rfl) ?_
   refine gO ?_
   refine And.intro (fun _=>by omega) ?_
   refine gO ?_
   refine And.intro (fun _=>by omega) ?_
   refine gO ?_
   refine And.intro (fun _=>by omega) ?_
   refine gO ?_
   refine And.intro (fun _=>by omega) ?_
   refine gO ?_
   refine And.intro (fun h2=>?_) (fun h2=>?_)
   ·have h2:sameK (l.getD k default) (l.getD q default)=true:=h2
    refine gO ?_
    exact EntR.bool (dup_yes ⟨h1,h,h2⟩).symm
   ·have h2:sameK (l.getD k default) (l.getD q default)=false:=h2
    refine gO ?_
    refine And.intro (show fitsI64 ((q:Int)+1) from ⟨by omega,by omega⟩) ?_
    refine gO ?_
    exact ⟨q+1,⟨by omega,next_of hdq (fun hdd=>by rw[hdd.2.2] at h2;simp at h2)⟩,(show k - (q+1)<k - q by omega),StLe.of (by repeat' (first|exact trivial|exact Ent.refl _|exact rfl|refine And.intro ?_ ?_)) trivial⟩
  ·have h1:q=k:=by simp at h1;omega
   subst h1
   refine gO ?_
   refine And.intro (show fitsI64 ((q:Int)+1) from ⟨by omega,by omega⟩) ?_
   refine gO ?_
   refine ⟨q+1,⟨by omega,fun i j hi hdd=>?_⟩,(show l.length - (q+1)<l.length - q by omega),StLe.of (by repeat' (first|exact trivial|exact Ent.refl _|exact rfl|refine And.intro ?_ ?_)) trivial⟩
   by_cases hiq:i=q
   ·subst hiq;exact hdq j hdd.1 hdd
   ·exact hd i j (by omega) hdd
 ·have h:k=l.length:=by simp at h;omega
  refine gO ?_
  exact EntR.bool (dup_no fun i j hdd=>hd i j (by have:=hdd.2.1;omega) hdd).symm
def sizeB (m:Mp):Bool:=decide (m.to.length≤64)
def tagB (m:Mp):Bool:=eqB m.tag ⟨#[]⟩||isNameB m.tag
def partsE (l:List Mp):Int:=bif l.all codesB then (bif l.all sizeB then (bif l.all tagB then 0 else 6) else 2) else 1
def ctParts:Ct:={ ι:=List Mp,inp:=fun l=>[mpsD l],out:=fun l=>.v (.int .i64 (partsE l)),pre:=fitL }
def Γp:Ctx:=fun f=>match f with
 | 90=>some (.pure ctValid)
 | 326=>some (.pure ctName)
 | _=>none
theorem Γp_ok:CtxOk Tryz.prog (GlT mx pb) Γp:=by
 intro f h hh
 simp only[Γp] at hh
 split at hh<;>simp at hh<;>subst hh
 ·exact valid_ok
 ·exact isName_ok
set_option maxHeartbeats 2000000 in
theorem parts_ok:Sound Tryz.prog (GlT mx pb) 323 ctParts:=by
 refine sound_by (cc:=false) Γp_ok Tryz.T_ok Tryz.mixed Tryz.func323 rfl (by kernel_rfl) (fun _=>rfl) (fun _ _=>by show 1≤60;decide) ?_
 intro (l:List Mp) (hl:fitL l)
 have hfm:=hl.2
 have hl:=hl.1
 refine gO ?_
 refine ⟨0,Nat,fun k=>⟨[(0,mpsD l),(11,mpsD l),(12,.v (.int .i64 l.length)),(13,.v (.int .i64 k))],[],[]⟩,fun k=>k≤l.length∧∀ j,j<k→codesB (l.getD j default)=true,fun k=>l.length - k,fun _=>Nat.zero_le _,⟨0,⟨Nat.zero_le _,fun j hj=>by omega⟩,StLe.of (by repeat' (first|exact trivial|exact Ent.refl _|exact rfl|refine And.intro ?_ ?_)) trivial⟩,?_⟩
 rintro k ⟨hk,hd⟩
 refine gO ?_
 refine And.intro (fun h=>?_) (fun h=>?_)
 ·have h:k<l.length:=by simpa using h
  have hto:=(hfm k h).1
  refine gO ?_
  refine And.intro (by omega) ?_
  refine gO ?_
  refine ⟨(l.getD k default).frm,EntL.refl _,trivial,?_⟩
  refine gO ?_
  refine And.intro (fun h1=>?_) (fun h1=>?_)
  ·have h1:(!validB (l.getD k default).frm)=true:=h1
   refine gO ?_
   refine EntR.int ?_
   have h2:=not_all (p:=codesB) h (by simp at h1;simp[codesB,h1])
   simp[partsE,h2]
  have h1:(!validB (l.getD k default).frm)=false:=h1
  refine gO ?_
  refine ⟨0,Nat,fun q=>⟨[(0,mpsD l),(11,mpsD l),(12,.v (.int .i64 l.length)),(13,.v (.int .i64 k)),(22,slD 1 intD (l.getD k default).to),(23,.v (.int .i64 (l.getD k default).to.length)),(24,.v (.int .i64 q))],[],[]⟩,fun q=>q≤(l.getD k default).to.length∧∀ j,j<q→validB ((l.getD k default).to.getD j default)=true,fun q=>(l.getD k default).to.length - q,fun _=>Nat.zero_le _,⟨0,⟨Nat.zero_le _,fun j hj=>by omega⟩,StLe.of (by repeat' (first|exact trivial|exact Ent.refl _|exact rfl|refine And.intro ?_ ?_)) trivial⟩,?_⟩
  rintro q ⟨hq,hdq⟩
  refine gO ?_
  refine And.intro (fun h2=>?_) (fun h2=>?_)
  ·have h2:(q:Int)<((l.getD k default).to.length:Int):=of_decide_eq_true h2
   have h2:q<(l.getD k default).to.length:=by omega
   refine gO ?_
   refine And.intro (by omega) ?_
   refine gO ?_
   refine ⟨(l.getD k default).to.getD q default,EntL.refl _,trivial,?_⟩
   refine gO ?_
   refine And.intro (fun h3=>?_) (fun h3=>?_)
   ·have h3:(!validB ((l.getD k default).to.getD q default))=true:=h3
    refine gO ?_
    refine EntR.int ?_
    have h4:=not_all (p:=validB) h2 (by simpa using h3)
    have h5:=not_all (p:=codesB) h (by simp only[codesB,h4,Bool.false_and])
    simp[partsE,h5]
   ·have h3:(!validB ((l.getD k default).to.getD q default))=false:=h3
    refine gO ?_
    refine And.intro (show fitsI64 ((q:Int)+1) from ⟨by omega,by omega⟩) ?_
    refine gO ?_
    exact ⟨q+1,⟨by omega,next_of hdq (by simpa using h3)⟩,(show (l.getD k default).to.length - (q+1)<(l.getD k default).to.length - q by omega),StLe.of (by repeat' (first|exact trivial|exact Ent.refl _|exact rfl|refine And.intro ?_ ?_)) trivial⟩
  ·have h2:¬(q:Int)<((l.getD k default).to.length:Int):=of_decide_eq_false h2
   have h2:q=(l.getD k default).to.length:=by omega
   refine gO ?_
   refine And.intro (show fitsI64 ((k:Int)+1) from ⟨by omega,by omega⟩) ?_
   refine gO ?_
   refine ⟨k+1,⟨by omega,next_of hd ?_⟩,(show l.length - (k+1)<l.length - k by omega),StLe.of (by repeat' (first|exact trivial|exact Ent.refl _|exact rfl|refine And.intro ?_ ?_)) trivial⟩
   have h4:=all_of (p:=validB) h2 hdq
   simp only[Bool.not_eq_false'] at h1
   simp only[codesB,h4,h1,Bool.and_self]
 have h:k=l.length:=by simp at h;omega
 have hA:=all_of (p:=codesB) h hd
 refine gO ?_
 refine ⟨0,Nat,fun k=>⟨[(0,mpsD l),(33,mpsD l),(34,.v (.int .i64 l.length)),(35,.v (.int .i64 k))],[],[]⟩,fun k=>k≤l.length∧∀ j,j<k→sizeB (l.getD j default)=true,fun k=>l.length - k,fun _=>Nat.zero_le _,⟨0,⟨Nat.zero_le _,fun j hj=>by omega⟩,StLe.of (by repeat' (first|exact trivial|exact Ent.refl _|exact rfl|refine And.intro ?_ ?_)) trivial⟩,?_⟩
 rintro k ⟨hk,hd⟩
 refine gO ?_
 refine And.intro (fun h=>?_) (fun h=>?_)
 ·have h:k<l.length:=by simpa using h
  refine gO ?_
  refine And.intro (by omega) ?_
  refine gO ?_
  refine And.intro (fun h1=>?_) (fun h1=>?_)
  ·have h1:((l.getD k default).to.length:Int)>64:=of_decide_eq_true h1
   refine gO ?_
   refine EntR.int ?_
   have h2:=not_all (p:=sizeB) h (by simp only[sizeB,decide_eq_false_iff_not];omega)
   simp[partsE,hA,h2]
  ·have h1:¬((l.getD k default).to.length:Int)>64:=of_decide_eq_false h1
   refine gO ?_
   refine And.intro (show fitsI64 ((k:Int)+1) from ⟨by omega,by omega⟩) ?_
   refine gO ?_
   exact ⟨k+1,⟨by omega,next_of hd (by simp only[sizeB,decide_eq_true_eq];omega)⟩,(show l.length - (k+1)<l.length - k by omega),StLe.of (by repeat' (first|exact trivial|exact Ent.refl _|exact rfl|refine And.intro ?_ ?_)) trivial⟩
 have h:k=l.length:=by simp at h;omega
 have hB:=all_of (p:=sizeB) h hd
 refine gO ?_
 refine ⟨0,Nat,fun k=>⟨[(0,mpsD l),(44,mpsD l),(45,.v (.int .i64 l.length)),(46,.v (.int .i64 k))],[],[]⟩,fun k=>k≤l.length∧∀ j,j<k→tagB (l.getD j default)=true,fun k=>l.length - k,fun _=>Nat.zero_le _,⟨0,⟨Nat.zero_le _,fun j hj=>by omega⟩,StLe.of (by repeat' (first|exact trivial|exact Ent.refl _|exact rfl|refine And.intro ?_ ?_)) trivial⟩,?_⟩
 rintro k ⟨hk,hd⟩
 refine gO ?_
 refine And.intro (fun h=>?_) (fun h=>?_)
 ·have h:k<l.length:=by simpa using h
  refine gO ?_
  refine And.intro (by omega) ?_
  refine gO ?_
  refine ⟨(l.getD k default).tag,EntL.refl _,fun _=>(hfm k h).2,?_⟩
  refine gO ?_
  refine And.intro (fun h1=>?_) (fun h1=>?_)
  ·have h1:(bif !(eqB (l.getD k default).tag ⟨#[]⟩) then !(isNameB (l.getD k default).tag) else false)=true:=h1
   refine gO ?_
   refine EntR.int ?_
   have h2:=not_all (p:=tagB) h (by
    simp only[tagB]
    revert h1
    generalize eqB (l.getD k default).tag ⟨#[]⟩=x
    generalize isNameB (l.getD k default).tag=y
    cases x<;>cases y<;>simp)
   simp[partsE,hA,hB,h2]
  ·have h1:(bif !(eqB (l.getD k default).tag ⟨#[]⟩) then !(isNameB (l.getD k default).tag) else false)=false:=h1
   refine gO ?_
   refine And.intro (show fitsI64 ((k:Int)+1) from ⟨by omega,by omega⟩) ?_
   refine gO ?_
   refine ⟨k+1,⟨by omega,next_of hd ?_⟩,(show l.length - (k+1)<l.length - k by omega),StLe.of (by repeat' (first|exact trivial|exact Ent.refl _|exact rfl|refine And.intro ?_ ?_)) trivial⟩
   simp only[tagB]
   revert h1
   generalize eqB (l.getD k default).tag ⟨#[]⟩=x
   generalize isNameB (l.getD k default).tag=y
   cases x<;>cases y<;>simp
 have h:k=l.length:=by simp at h;omega
 have hC:=all_of (p:=tagB) h hd
 refine gO ?_
 exact EntR.int (by simp[partsE,hA,hB,hC])
end Go.Proofs
namespace Go.Proofs
open Go Go.Sx
variable {mx:Int}{pb:Bool}
noncomputable def unsortedE (l:List Mp):Int:=bif partsE l==0 then (bif dupB l then 5 else 0) else partsE l
noncomputable def ctUnsorted:Ct:={ ι:=List Mp,inp:=fun l=>[mpsD l],out:=fun l=>.v (.int .i64 (unsortedE l)),pre:=fitL }
noncomputable def Γu:Ctx:=fun f=>match f with
 | 210=>some (.pure ctCodes)
 | 211=>some (.pure ctName)
 | 212=>some (.pure ctTwice)
 | _=>none
theorem Γu_ok:CtxOk Tryz.prog (GlT mx pb) Γu:=by
 intro f h hh
 simp only[Γu] at hh
 split at hh<;>simp at hh<;>subst hh
 ·exact rcodes_ok
 ·exact rname_ok
 ·exact rtwice_ok
set_option maxHeartbeats 2000000 in
theorem runsorted_ok:Sound Tryz.prog (GlT mx pb) 151 ctUnsorted:=by
 refine sound_by (cc:=false) Γu_ok Tryz.T_ok Tryz.mixed Tryz.func151 rfl (by kernel_rfl) (fun _=>rfl) (fun _ _=>by show 1≤54;decide) ?_
 intro (l:List Mp) (hl0:fitL l)
 have hfm:=hl0.2
 have hl:=hl0.1
 refine gO ?_
 refine ⟨0,Nat,fun k=>⟨[(0,mpsD l),(3,.v (.int .i64 k))],[],[]⟩,fun k=>k≤l.length∧∀ j,j<k→codesB (l.getD j default)=true,fun k=>l.length - k,fun _=>Nat.zero_le _,⟨0,⟨Nat.zero_le _,fun j hj=>by omega⟩,StLe.of (by repeat' (first|exact trivial|exact Ent.refl _|exact rfl|refine And.intro ?_ ?_)) trivial⟩,?_⟩
 rintro k ⟨hk,hd⟩
 refine gO ?_
 refine And.intro (fun h=>?_) (fun h=>?_)
 ·have h:k<l.length:=by simpa using h
  refine gO ?_
  refine And.intro (by omega) ?_
  refine gO ?_
  refine ⟨l.getD k default,EntL.refl _,hfm k h,?_⟩
  refine gO ?_
  refine And.intro (fun h1=>?_) (fun h1=>?_)
  ·have h1:(!codesB (l.getD k default))=true:=h1
   refine gO ?_
   refine EntR.int ?_
   have h2:=not_all (p:=codesB) h (by simpa using h1)
   simp[unsortedE,partsE,h2]
  ·have h1:(!codesB (l.getD k default))=false:=h1
   refine gO ?_
   refine And.intro (show fitsI64 ((k:Int)+1) from ⟨by omega,by omega⟩) ?_
   refine gO ?_
   exact ⟨k+1,⟨by omega,next_of hd (by simpa using h1)⟩,(show l.length - (k+1)<l.length - k by omega),StLe.of (by repeat' (first|exact trivial|exact Ent.refl _|exact rfl|refine And.intro ?_ ?_)) trivial⟩
 have h:k=l.length:=by simp at h;omega
 have hA:=all_of (p:=codesB) h hd
 refine gO ?_
 refine ⟨0,Nat,fun k=>⟨[(0,mpsD l),(4,.v (.int .i64 k))],[],[]⟩,fun k=>k≤l.length∧∀ j,j<k→sizeB (l.getD j default)=true,fun k=>l.length - k,fun _=>Nat.zero_le _,⟨0,⟨Nat.zero_le _,fun j hj=>by omega⟩,StLe.of (by repeat' (first|exact trivial|exact Ent.refl _|exact rfl|refine And.intro ?_ ?_)) trivial⟩,?_⟩
 rintro k ⟨hk,hd⟩
 refine gO ?_
 refine And.intro (fun h=>?_) (fun h=>?_)
 ·have h:k<l.length:=by simpa using h
  refine gO ?_
  refine And.intro (by omega) ?_
  refine gO ?_
  refine And.intro (fun h1=>?_) (fun h1=>?_)
  ·have h1:((l.getD k default).to.length:Int)>64:=of_decide_eq_true h1
   refine gO ?_
   refine EntR.int ?_
   have h2:=not_all (p:=sizeB) h (by simp only[sizeB,decide_eq_false_iff_not];omega)
   simp[unsortedE,partsE,hA,h2]
  ·have h1:¬((l.getD k default).to.length:Int)>64:=of_decide_eq_false h1
   refine gO ?_
   refine And.intro (show fitsI64 ((k:Int)+1) from ⟨by omega,by omega⟩) ?_
   refine gO ?_
   exact ⟨k+1,⟨by omega,next_of hd (by simp only[sizeB,decide_eq_true_eq];omega)⟩,(show l.length - (k+1)<l.length - k by omega),StLe.of (by repeat' (first|exact trivial|exact Ent.refl _|exact rfl|refine And.intro ?_ ?_)) trivial⟩
 have h:k=l.length:=by simp at h;omega
 have hB:=all_of (p:=sizeB) h hd
 refine gO ?_
 refine ⟨0,Nat,fun k=>⟨[(0,mpsD l),(5,.v (.int .i64 k))],[],[]⟩,fun k=>k≤l.length∧∀ j,j<k→tagB (l.getD j default)=true,fun k=>l.length - k,fun _=>Nat.zero_le _,⟨0,⟨Nat.zero_le _,fun j hj=>by omega⟩,StLe.of (by repeat' (first|exact trivial|exact Ent.refl _|exact rfl|refine And.intro ?_ ?_)) trivial⟩,?_⟩
 rintro k ⟨hk,hd⟩
 refine gO ?_
 refine And.intro (fun h=>?_) (fun h=>?_)
 ·have h:k<l.length:=by simpa using h
  refine gO ?_
  refine And.intro (by omega) ?_
  refine gO ?_
  refine And.intro (fun _=>by omega) ?_
  refine gO ?_
  refine ⟨(l.getD k default).tag,EntL.refl _,fun _=>(hfm k h).2,?_⟩
  refine gO ?_
  refine And.intro (fun h1=>?_) (fun h1=>?_)
  ·have h1:(bif !(eqB (l.getD k default).tag ⟨#[]⟩) then !(isNameB (l.getD k default).tag) else false)=true:=h1
   refine gO ?_
   refine EntR.int ?_
   have h2:=not_all (p:=tagB) h (by
    simp only[tagB]
    revert h1
    generalize eqB (l.getD k default).tag ⟨#[]⟩=x
    generalize isNameB (l.getD k default).tag=y
    cases x<;>cases y<;>simp)
   simp[unsortedE,partsE,hA,hB,h2]
  ·have h1:(bif !(eqB (l.getD k default).tag ⟨#[]⟩) then !(isNameB (l.getD k default).tag) else false)=false:=h1
   refine gO ?_
   refine And.intro (show fitsI64 ((k:Int)+1) from ⟨by omega,by omega⟩) ?_
   refine gO ?_
   refine ⟨k+1,⟨by omega,next_of hd ?_⟩,(show l.length - (k+1)<l.length - k by omega),StLe.of (by repeat' (first|exact trivial|exact Ent.refl _|exact rfl|refine And.intro ?_ ?_)) trivial⟩
   simp only[tagB]
   revert h1
   generalize eqB (l.getD k default).tag ⟨#[]⟩=x
   generalize isNameB (l.getD k default).tag=y
   cases x<;>cases y<;>simp
 have h:k=l.length:=by simp at h;omega
 have hC:=all_of (p:=tagB) h hd
 have h0:partsE l=0:=by simp[partsE,hA,hB,hC]
 refine gO ?_
 refine ⟨l,EntL.refl _,hl0,?_⟩
 refine gO ?_
 refine And.intro (fun h1=>?_) (fun h1=>?_)
 ·have h1:dupB l=true:=h1
  refine gO ?_
  exact EntR.int (by simp[unsortedE,h0,h1])
 ·have h1:dupB l=false:=h1
  refine gO ?_
  exact EntR.int (by simp[unsortedE,h0,h1])
def ascK (l:List Mp):Nat→Bool
 | 0=>true
 | 1=>true
 | k+2=>ascK l (k+1)&&lessB (l.getD k default) (l.getD (k+1) default)
theorem ascK_mono {l:List Mp}:∀ {n k:Nat},ascK l n=true→k≤n→ascK l k=true
 | 0,k,h,hk=>by
  have:k=0:=by omega
  subst this
  exact h
 | 1,k,h,hk=>by
  have:k=0∨k=1:=by omega
  rcases this with rfl|rfl<;>rfl
 | n+2,k,h,hk=>by
  by_cases hkn:k=n+2
  ·subst hkn;exact h
  ·simp only[ascK,Bool.and_eq_true] at h
   exact ascK_mono h.1 (by omega)
theorem ascK_step {l:List Mp}{n k:Nat}(h:ascK l n=true) (hk:k+1<n):lessB (l.getD k default) (l.getD (k+1) default)=true:=by
 have:=ascK_mono h (k:=k+2) (by omega)
 simp only[ascK,Bool.and_eq_true] at this
 exact this.2
theorem less_irrefl:∀ x:List UInt8,Op.bytesLess x x=false
 | []=>rfl
 | a::x=>by simp[Op.bytesLess,less_irrefl x]
theorem less_trans:∀ {x y z:List UInt8},Op.bytesLess x y=true→Op.bytesLess y z=true→Op.bytesLess x z=true
 | [],[],z,h,_=>by simp[Op.bytesLess] at h
 | [],b::y,[],_,h=>by simp[Op.bytesLess] at h
 | [],b::y,c::z,_,_=>rfl
 | a::x,[],z,h,_=>by simp[Op.bytesLess] at h
 | a::x,b::y,[],_,h=>by simp[Op.bytesLess] at h
 | a::x,b::y,c::z,h,h'=>by
  simp only[Op.bytesLess,Bool.or_eq_true,decide_eq_true_eq,Bool.and_eq_true,beq_iff_eq] at h h' ⊢
  rcases h with h|⟨rfl,h⟩
  ·rcases h' with h'|⟨rfl,h'⟩
   ·left;exact UInt8.lt_trans h h'
   ·left;exact h
  ·rcases h' with h'|⟨rfl,h'⟩
   ·left;exact h'
   ·right;exact ⟨rfl,less_trans h h'⟩
theorem lessB_iff {a b:Mp}:lessB a b=true↔a.frm<b.frm∨(a.frm=b.frm∧lessS a.tag b.tag=true):=by
 unfold lessB
 by_cases h:a.frm<b.frm
 ·simp[h]
 ·by_cases h1:a.frm=b.frm
  ·simp[h1]
  ·have:(a.frm==b.frm)=false:=by simpa using h1
   simp[h,this,h1]
theorem lessB_trans {a b c:Mp}(h:lessB a b=true) (h':lessB b c=true):lessB a c=true:=by
 rw[lessB_iff] at *
 rcases h with h|⟨h,h1⟩
 ·rcases h' with h'|⟨h',_⟩
  ·left;omega
  ·left;omega
 ·rcases h' with h'|⟨h',h2⟩
  ·left;omega
  ·right;exact ⟨by omega,less_trans h1 h2⟩
theorem asc_less {l:List Mp}(h:ascK l l.length=true):∀ {i j:Nat},j<i→i<l.length→lessB (l.getD j default) (l.getD i default)=true
 | 0,j,hj,_=>by omega
 | i+1,j,hj,hi=>by
  have h1:=ascK_step h (k:=i) (by omega)
  by_cases hji:j=i
  ·subst hji;exact h1
  ·exact lessB_trans (asc_less h (by omega) (by omega)) h1
theorem asc_nodup {l:List Mp}(h:ascK l l.length=true):dupB l=false:=by
 refine dup_no fun i j hd=>?_
 have h1:=asc_less h hd.1 hd.2.1
 obtain ⟨e1,e2⟩:=sameK_iff.1 hd.2.2
 rw[lessB_iff,← e1,← e2] at h1
 rcases h1 with h1|⟨_,h1⟩
 ·omega
 ·simp[lessS,less_irrefl] at h1
noncomputable def checkE (l:List Mp):Int:=bif partsE l==0 then (bif ascK l l.length then 0 else (bif dupB l then 5 else 4)) else partsE l
noncomputable def ctCheck:Ct:={ ι:=List Mp,inp:=fun l=>[mpsD l],out:=fun l=>.v (.int .i64 (checkE l)),pre:=fitL }
theorem cmpM_less {a b:Mp}:decide (cmpM a b≥0) = !lessB a b:=by
 have hS:∀ x y:ByteArray,decide (cmpS x y≥0) = !lessS x y:=by
  intro x y
  unfold cmpS
  split
  ·rename_i h;simp[h]
  ·rename_i h
   simp only[Bool.not_eq_true] at h
   rw[h]
   split<;>simp
 have hI:cmpI a.frm b.frm=0↔a.frm=b.frm:=by
  unfold cmpI
  split
  ·constructor
   ·intro h;simp at h
   ·omega
  ·split
   ·constructor
    ·intro h;simp at h
    ·omega
   ·constructor
    ·intro;omega
    ·intro;rfl
 unfold cmpM lessB
 by_cases h:a.frm=b.frm
 ·rw[if_pos (hI.2 h),hS]
  have h1:¬a.frm<b.frm:=by omega
  have h2:(a.frm==b.frm)=true:=by simpa using h
  simp[h1,h2]
 ·rw[if_neg (fun e=>h (hI.1 e))]
  have h2:(a.frm==b.frm)=false:=by simpa using h
  unfold cmpI
  by_cases h1:a.frm<b.frm
  ·simp[h1]
  ·have h3:a.frm>b.frm:=by omega
   simp[h1,h2,h3]
def keyK (m:Mp):KV:=.st [.i .i64 m.frm,.s m.tag]
def seenF (l:List Mp):Nat→KV→Option D
 | 0=>fun _=>none
 | k+1=>fun k'=>if k'=keyK (l.getD k default) then some (.v (.bool true)) else seenF l k k'
theorem seen_some {l:List Mp}{key:KV}{d:D}:∀ {k:Nat},seenF l k key=some d→d=.v (.bool true)∧∃ j,j<k∧key=keyK (l.getD j default)
 | 0,h=>by simp[seenF] at h
 | k+1,h=>by
  simp only[seenF] at h
  split at h
  ·rename_i hk
   simp at h
   exact ⟨h.symm,k,by omega,hk⟩
  ·obtain ⟨h1,j,h2,h3⟩:=seen_some h
   exact ⟨h1,j,by omega,h3⟩
theorem seen_none {l:List Mp}{key:KV}:∀ {k:Nat},seenF l k key=none→∀ j,j<k→key≠keyK (l.getD j default)
 | 0,_,j,hj=>by omega
 | k+1,h,j,hj=>by
  simp only[seenF] at h
  split at h
  ·simp at h
  ·rename_i hk
   by_cases hjk:j=k
   ·subst hjk;exact hk
   ·exact seen_none h j (by omega)
theorem keyK_iff {a b:Mp}:keyK a=keyK b↔sameK a b=true:=by
 rw[sameK_iff]
 simp[keyK]
noncomputable def Γk:Ctx:=fun f=>match f with
 | 323=>some (.pure ctParts)
 | 324=>some (.pure ctCompare)
 | 325=>some (.pure ctKeyOf)
 | 151=>some (.pure ctUnsorted)
 | 152=>some (.pure ctBefore)
 | _=>none
theorem Γk_ok:CtxOk Tryz.prog (GlT mx pb) Γk:=by
 intro f h hh
 simp only[Γk] at hh
 split at hh<;>simp at hh<;>subst hh
 ·exact parts_ok
 ·exact compare_ok
 ·exact keyOf_ok
 ·exact runsorted_ok
 ·exact rbefore_ok
set_option maxHeartbeats 2000000 in
theorem check_ok:Sound Tryz.prog (GlT mx pb) 322 ctCheck:=by
 refine sound_by (cc:=false) Γk_ok Tryz.T_ok Tryz.mixed Tryz.func322 rfl (by kernel_rfl) (fun _=>rfl) (fun _ _=>by show 1≤47;decide) ?_
 intro (l:List Mp) (hl0:fitL l)
 have hl:=hl0.1
 refine gO ?_
 refine ⟨l,EntL.refl _,hl0,?_⟩
 refine gO ?_
 refine And.intro (fun h=>?_) (fun h=>?_)
 ·have h:(partsE l != 0)=true:=h
  refine gO ?_
  refine EntR.int ?_
  have h:(partsE l==0)=false:=by simpa[bne] using h
  simp[checkE,h]
 have h:(partsE l != 0)=false:=h
 have h0:(partsE l==0)=true:=by simpa[bne] using h
 refine gO ?_
 refine ⟨0,Nat,fun k=>⟨[(0,mpsD l),(4,.v (.bool (ascK l (k+1)))),(5,.v (.int .i64 ((k+1:Nat):Int)))],[],[]⟩,fun k=>k=0∨k+1≤l.length,fun k=>l.length - k,fun _=>Nat.zero_le _,⟨0,.inl rfl,StLe.of (by repeat' (first|exact trivial|exact Ent.refl _|exact rfl|refine And.intro ?_ ?_)) trivial⟩,?_⟩
 intro k hk
 refine gO ?_
 refine And.intro (fun h=>?_) (fun h=>?_)
 ·have h:k+1<l.length:=by simp at h;omega
  refine gO ?_
  first|refine wo5 ?_|refine And.intro (by kernel_rfl) ?_
  refine gO ?_
  refine And.intro (fun _=>show fitsI64 (((k+1:Nat):Int) - 1) from ⟨by omega,by omega⟩) ?_
  refine gO ?_
  refine And.intro (fun _=>by omega) ?_
  refine gO ?_
  refine And.intro (fun _=>by omega) ?_
  refine gO ?_
  refine ⟨(l.getD k default,l.getD (k+1) default),?_,fun _=>trivial,?_⟩
  ·have:(((k+1:Nat):Int) - 1).toNat=k:=by omega
   show EntL [mpA (l.getD (((k+1:Nat):Int) - 1).toNat default),mpA (l.getD (k+1) default)] _
   rw[this]
   exact EntL.refl _
  refine gO ?_
  refine And.intro (fun h1=>?_) (fun h1=>?_)
  ·have h1:decide (cmpM (l.getD k default) (l.getD (k+1) default)≥0)=true:=h1
   rw[cmpM_less] at h1
   refine gO ?_
   refine And.intro (show fitsI64 (((k+1:Nat):Int)+1) from ⟨by omega,by omega⟩) ?_
   refine gO ?_
   refine ⟨k+1,.inr (by omega),(show l.length - (k+1)<l.length - k by omega),StLe.of ⟨Ent.refl _,rfl,Ent.v ?_,rfl,Ent.refl _,rfl,trivial⟩ trivial⟩
   simp only[Bool.not_eq_true'] at h1
   simp only[ascK,h1,Bool.and_false]
  ·have h1:decide (cmpM (l.getD k default) (l.getD (k+1) default)≥0)=false:=h1
   rw[cmpM_less] at h1
   refine gO ?_
   refine And.intro (show fitsI64 (((k+1:Nat):Int)+1) from ⟨by omega,by omega⟩) ?_
   refine gO ?_
   refine ⟨k+1,.inr (by omega),(show l.length - (k+1)<l.length - k by omega),StLe.of ⟨Ent.refl _,rfl,Ent.v ?_,rfl,Ent.refl _,rfl,trivial⟩ trivial⟩
   simp only[Bool.not_eq_false'] at h1
   simp only[ascK,h1,Bool.and_true]
 have hasc:ascK l (k+1)=ascK l l.length:=by
  have h:¬k+1<l.length:=by simp at h;omega
  rcases hk with rfl|hk
  ·have:l.length=0∨l.length=1:=by omega
   rcases this with e|e<;>rw[e]<;>rfl
  ·have:k+1=l.length:=by omega
   rw[this]
 refine gO ?_
 refine And.intro (fun h1=>?_) (fun h1=>?_)
 ·have h1:ascK l (k+1)=true:=h1
  refine gO ?_
  exact EntR.int (by simp[checkE,h0,← hasc,h1])
 have h1:ascK l (k+1)=false:=h1
 rw[hasc] at h1
 refine gO ?_
 refine ⟨0,Nat,fun k=>⟨[(6,.mp 0),(33,mpsD l),(34,.v (.int .i64 l.length)),(35,.v (.int .i64 k))],[.map 325 4 (.st [0,1]) (seenF l k)],[]⟩,fun k=>k≤l.length∧∀ i j,i<k→¬Dup l i j,fun k=>l.length - k,fun _=>Nat.zero_le _,⟨0,⟨Nat.zero_le _,fun i j hj=>by omega⟩,StLe.ren [0] (by repeat' (first|exact trivial|exact Ent.refl _|exact rfl|refine And.intro ?_ ?_)) ⟨⟨rfl,rfl,rfl,fun _=>trivial⟩,trivial⟩ (by decide)⟩,?_⟩
 rintro k ⟨hk,hd⟩
 refine gO ?_
 refine And.intro (fun h=>?_) (fun h=>?_)
 ·have h:k<l.length:=by simpa using h
  refine gO ?_
  refine And.intro (by omega) ?_
  refine gO ?_
  refine ⟨l.getD k default,EntL.refl _,trivial,?_⟩
  refine gO ?_
  refine And.intro (fun d hf=>?_) (fun hf=>?_)
  ·have hf:seenF l k (keyK (l.getD k default))=some d:=hf
   obtain ⟨rfl,j,hj,hjk⟩:=seen_some hf
   refine gO ?_
   refine And.intro (fun _=>?_) (fun h=>Bool.noConfusion (show true=false from h))
   refine gO ?_
   have hdup:=dup_yes (l:=l) (i:=k) (j:=j) ⟨hj,h,keyK_iff.1 hjk⟩
   exact EntR.int (by simp[checkE,h0,h1,hdup])
  ·have hf:seenF l k (keyK (l.getD k default))=none:=hf
   have hno:=seen_none hf
   refine gO ?_
   refine And.intro (fun h=>Bool.noConfusion (show false=true from h)) (fun _=>?_)
   refine gO ?_
   refine ⟨l.getD k default,EntL.refl _,trivial,?_⟩
   refine gO ?_
   refine And.intro (show fitsI64 ((k:Int)+1) from ⟨by omega,by omega⟩) ?_
   refine gO ?_
   refine ⟨k+1,⟨by omega,fun i j hi hdd=>?_⟩,(show l.length - (k+1)<l.length - k by omega),StLe.ren [0] (by repeat' (first|exact trivial|exact Ent.refl _|exact rfl|refine And.intro ?_ ?_)) ⟨⟨rfl,rfl,rfl,fun key=>?_⟩,trivial⟩ (by decide)⟩
   ·by_cases hik:i=k
    ·subst hik
     exact hno j hdd.1 (keyK_iff.2 hdd.2.2)
    ·exact hd i j (by omega) hdd
   ·show OptRen [0] (seenF l (k+1) key) (seenF l (k+1) key)
    cases hs:seenF l (k+1) key with
    | none=>trivial
    | some d =>
     obtain ⟨rfl,_⟩:=seen_some hs
     exact ⟨Ent.refl _,rfl⟩
 ·have h:k=l.length:=by simp at h;omega
  refine gO ?_
  have hdup:=dup_no (l:=l) fun i j hdd=>hd i j (by have:=hdd.2.1;omega) hdd
  exact EntR.int (by simp[checkE,h0,h1,hdup])
set_option maxHeartbeats 2000000 in
theorem rcheck_ok:Sound Tryz.prog (GlT mx pb) 110 ctCheck:=by
 refine sound_by (cc:=false) Γk_ok Tryz.T_ok Tryz.mixed Tryz.func110 rfl (by kernel_rfl) (fun _=>rfl) (fun _ _=>by show 1≤27;decide) ?_
 intro (l:List Mp) (hl0:fitL l)
 have hl:=hl0.1
 refine gO ?_
 refine ⟨l,EntL.refl _,hl0,?_⟩
 refine gO ?_
 refine And.intro (fun h=>?_) (fun h=>?_)
 ·have h:(unsortedE l != 0)=true:=h
  refine gO ?_
  refine EntR.int ?_
  by_cases h0:(partsE l==0)=true
  ·simp only[unsortedE,h0,cond_true] at h ⊢
   cases hdup:dupB l with
   | false=>rw[hdup] at h;simp at h
   | true =>
    have hasc:ascK l l.length=false:=by
     cases ha:ascK l l.length with
     | false=>rfl
     | true=>rw[asc_nodup ha] at hdup;simp at hdup
    simp[checkE,h0,hasc,hdup]
  ·simp only[Bool.not_eq_true] at h0
   simp[unsortedE,checkE,h0]
 have h:(unsortedE l != 0)=false:=h
 have h0:(partsE l==0)=true∧dupB l=false:=by
  by_cases h0:(partsE l==0)=true
  ·refine ⟨h0,?_⟩
   simp only[unsortedE,h0,cond_true] at h
   cases hdup:dupB l with
   | false=>rfl
   | true=>rw[hdup] at h;simp at h
  ·simp only[Bool.not_eq_true] at h0
   have h2:(partsE l != 0)=false:=by simpa[unsortedE,h0] using h
   simp[bne,h0] at h2
 refine gO ?_
 refine ⟨0,Nat,fun k=>⟨[(0,mpsD l),(4,.v (.int .i64 ((k+1:Nat):Int)))],[],[]⟩,fun k=>(k=0∨k+1≤l.length)∧ascK l (k+1)=true,fun k=>l.length - k,fun _=>Nat.zero_le _,⟨0,⟨.inl rfl,rfl⟩,StLe.of (by repeat' (first|exact trivial|exact Ent.refl _|exact rfl|refine And.intro ?_ ?_)) trivial⟩,?_⟩
 rintro k ⟨hk,ha⟩
 refine gO ?_
 refine And.intro (fun h=>?_) (fun h=>?_)
 ·have h:k+1<l.length:=by simp at h;omega
  refine gO ?_
  first|refine wo5 ?_|refine And.intro (by kernel_rfl) ?_
  refine gO ?_
  refine And.intro (fun _=>show fitsI64 (((k+1:Nat):Int) - 1) from ⟨by omega,by omega⟩) ?_
  refine gO ?_
  refine And.intro (fun _=>by omega) ?_
  refine gO ?_
  refine And.intro (fun _=>by omega) ?_
  refine gO ?_
  refine ⟨(l.getD k default,l.getD (k+1) default),?_,fun _=>trivial,?_⟩
  ·have:(((k+1:Nat):Int) - 1).toNat=k:=by omega
   show EntL [mpA (l.getD (((k+1:Nat):Int) - 1).toNat default),mpA (l.getD (k+1) default)] _
   rw[this]
   exact EntL.refl _
  refine gO ?_
  refine And.intro (fun h1=>?_) (fun h1=>?_)
  ·have h1:(!lessB (l.getD k default) (l.getD (k+1) default))=true:=h1
   refine gO ?_
   refine EntR.int ?_
   have hasc:ascK l l.length=false:=by
    cases hx:ascK l l.length with
    | false=>rfl
    | true=>rw[ascK_step hx h] at h1;simp at h1
   simp[checkE,h0.1,hasc,h0.2]
  ·have h1:(!lessB (l.getD k default) (l.getD (k+1) default))=false:=h1
   refine gO ?_
   refine And.intro (show fitsI64 (((k+1:Nat):Int)+1) from ⟨by omega,by omega⟩) ?_
   refine gO ?_
   refine ⟨k+1,⟨.inr (by omega),?_⟩,(show l.length - (k+1)<l.length - k by omega),StLe.of (by repeat' (first|exact trivial|exact Ent.refl _|exact rfl|refine And.intro ?_ ?_)) trivial⟩
   simp only[Bool.not_eq_false'] at h1
   simp only[ascK,ha,h1,Bool.and_self]
 ·have hasc:ascK l l.length=true:=by
   have h:¬k+1<l.length:=by simp at h;omega
   rcases hk with rfl|hk
   ·have:l.length=0∨l.length=1:=by omega
    rcases this with e|e<;>rw[e]<;>rfl
   ·have:k+1=l.length:=by omega
    rw[← this];exact ha
  refine gO ?_
  exact EntR.int (by simp[checkE,h0.1,hasc])
def shortM (m:Mp):Bool := !(bif decide ((m.to.length:Int)>65) then true else decide ((m.tag.size:Int)>40))
def smallB (l:List Mp):Bool:=(l.take 30).all shortM&&decide (l.length≤20)
def ctSmall:Ct:={ ι:=List Mp,inp:=fun l=>[mpsD l],out:=fun l=>.v (.bool (smallB l)),pre:=fun l=>l.length≤9223372036854775807 }
theorem small_facts {l:List Mp}(h:smallB l=true):l.length≤20∧∀ k,k<l.length→(l.getD k default).to.length≤65∧(l.getD k default).tag.size≤40:=by
 simp only[smallB,Bool.and_eq_true,decide_eq_true_eq,List.all_eq_true] at h
 refine ⟨h.2,fun k hk=>?_⟩
 have h2:=h.2
 have:=h.1 l[k] (by rw[List.mem_take_iff_getElem];exact ⟨k,by omega,rfl⟩)
 have e:l.getD k default=l[k]:=by simp[List.getD_eq_getElem?_getD,hk]
 rw[e]
 simp only[shortM] at this
 by_cases h1:(l[k].to.length:Int)>65
 ·simp[h1] at this
 ·simp[h1] at this
  omega
theorem small_fit {l:List Mp}(h:smallB l=true):fitL l:=by
 obtain ⟨h1,h2⟩:=small_facts h
 refine ⟨by omega,fun k hk=>?_⟩
 have:=h2 k hk
 exact ⟨by omega,by omega⟩
set_option maxHeartbeats 1000000 in
theorem rsmall_ok:Sound Tryz.prog (GlT mx pb) 61 ctSmall:=by
 refine sound_by (cc:=false) Γ0_ok Tryz.T_ok Tryz.mixed Tryz.func61 rfl (by kernel_rfl) (fun _=>rfl) (fun _ _=>by show 1≤33;decide) ?_
 intro (l:List Mp) (hl:l.length≤9223372036854775807)
 refine gO ?_
 refine ⟨0,Nat,fun k=>⟨[(0,mpsD l),(3,.v (.int .i64 k))],[],[]⟩,fun k=>k≤l.length∧k≤30∧∀ j,j<k→shortM (l.getD j default)=true,fun k=>l.length - k,fun _=>Nat.zero_le _,⟨0,⟨Nat.zero_le _,Nat.zero_le _,fun j hj=>by omega⟩,StLe.of (by repeat' (first|exact trivial|exact Ent.refl _|exact rfl|refine And.intro ?_ ?_)) trivial⟩,?_⟩
 rintro k ⟨hk,hk3,hd⟩
 refine gO ?_
 refine And.intro (fun h=>?_) (fun h=>?_)
 ·have h:k<l.length∧(k:Int)<30:=by simpa using h
  obtain ⟨h,h3⟩:=h
  refine gO ?_
  refine And.intro (by omega) ?_
  refine gO ?_
  refine And.intro (fun _=>by omega) ?_
  refine gO ?_
  refine And.intro (fun h1=>?_) (fun h1=>?_)
  ·have h1:(bif decide (((l.getD k default).to.length:Int)>65) then true else decide (((l.getD k default).tag.size:Int)>40))=true:=h1
   refine gO ?_
   refine EntR.bool ?_
   have h2:(l.take 30).all shortM=false:=by
    rw[List.all_eq_false]
    refine ⟨l[k],by rw[List.mem_take_iff_getElem];exact ⟨k,by omega,rfl⟩,?_⟩
    have e:l.getD k default=l[k]:=by simp[List.getD_eq_getElem?_getD,h]
    rw[e] at h1
    simp[shortM,h1]
   simp[smallB,h2]
  ·have h1:(bif decide (((l.getD k default).to.length:Int)>65) then true else decide (((l.getD k default).tag.size:Int)>40))=false:=h1
   refine gO ?_
   refine And.intro (show fitsI64 ((k:Int)+1) from ⟨by omega,by omega⟩) ?_
   refine gO ?_
   exact ⟨k+1,⟨by omega,by omega,next_of hd (by simp only[shortM,h1,Bool.not_false])⟩,(show l.length - (k+1)<l.length - k by omega),StLe.of (by repeat' (first|exact trivial|exact Ent.refl _|exact rfl|refine And.intro ?_ ?_)) trivial⟩
 ·have h:k=l.length∨k=30:=by
   by_cases h1:k=l.length
   ·exact .inl h1
   ·have:k<l.length:=by omega
    simp[this] at h
    right;omega
  refine gO ?_
  refine EntR.bool ?_
  have h2:(l.take 30).all shortM=true:=by
   rw[List.all_eq_true]
   intro c hc
   rw[List.mem_take_iff_getElem] at hc
   obtain ⟨i,hi,rfl⟩:=hc
   have:=hd i (by omega)
   simpa[List.getD_eq_getElem?_getD,show i<l.length by omega] using this
  simp only[smallB,h2,Bool.true_and]
  show decide ((l.length:Int)≤20)=_
  rw[decide_eq_decide]
  omega
end Go.Proofs
namespace Go.Proofs
open Go Go.Sx
variable {mx:Int}{pb:Bool}
theorem check_codes {l:List Mp}(h:checkE l=0):partsE l=0:=by
 unfold checkE at h
 cases e:partsE l==0
 ·rw[e] at h;simpa using h
 ·simpa using e
theorem parts_codes {l:List Mp}(h:partsE l=0):l.all codesB=true∧l.all sizeB=true∧l.all tagB=true:=by
 unfold partsE at h
 cases h1:l.all codesB<;>cases h2:l.all sizeB<;>cases h3:l.all tagB<;>simp_all
theorem all_at {p:Mp→Bool}{l:List Mp}(h:l.all p=true) {k:Nat}(hk:k<l.length):p (l.getD k default)=true:=by
 have e:l.getD k default=l[k]:=by simp[List.getD_eq_getElem?_getD,hk]
 rw[e]
 exact List.all_eq_true.1 h _ (List.getElem_mem hk)
theorem valid_asc {l:List Mp}(h:checkE l=0):ascK l l.length=true∧∀ k,k<l.length→0≤(l.getD k default).frm∧(l.getD k default).frm≤1114111:=by
 unfold checkE at h
 cases hp:(partsE l==0) with
 | false =>
  rw[hp] at h
  simp only[cond_false] at h
  rw[h] at hp;simp at hp
 | true =>
  rw[hp] at h
  simp only[cond_true] at h
  refine ⟨?_,fun k hk=>?_⟩
  ·cases ha:ascK l l.length with
   | true=>rfl
   | false =>
    rw[ha] at h
    cases hd:dupB l<;>rw[hd] at h<;>simp at h
  ·have hp:partsE l=0:=eq_of_beq hp
   unfold partsE at hp
   cases hc:l.all codesB with
   | true =>
    have:=all_get hc hk
    simp only[codesB,Bool.and_eq_true] at this
    exact validB_iff.1 this.2
   | false =>
    rw[hc] at hp;simp at hp
end Go.Proofs
