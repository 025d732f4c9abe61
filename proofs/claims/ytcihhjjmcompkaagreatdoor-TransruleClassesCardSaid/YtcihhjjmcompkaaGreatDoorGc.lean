import Derived.Test.YtcihhjjmcompkaaGreatDoorSh
import Derived.Test.YtcihhjjmcompkaaGreatDoorEa
import Derived.Test.YtcihhjjmcompkaaGreatDoorBz
import Derived.Test.YtcihhjjmcompkaaGreatDoorC2
import Derived.Test.YtcihhjjmcompkaaGreatDoorC1
import Derived.WalkSmall
set_option linter.unusedVariables false
set_option linter.unusedSimpArgs false
namespace Go.Proofs
open Go Go.Sx Go.RowKit
variable {mx:Int}{pb:Bool}
def listB (l:List UInt8):ByteArray:=⟨⟨l⟩⟩
theorem ascii_all {l:List UInt8}(h:l.all (fun b=>decide (b.toNat<128))=true):∀ (j:Nat) b,l[j]?=some b→b.toNat<128:=by
 intro j b hb
 have:=List.all_eq_true.1 h b (List.mem_of_getElem? hb)
 simpa using this
def blanks:ByteArray:=⟨#[32,9,13]⟩
def trimB (s:ByteArray):ByteArray:=listB (Lib.trimS s.data.toList [32,9,13])
def ctTrim:Ct:={ ι:=ByteArray,inp:=fun s=>[.v (.string s),.v (.string blanks)],out:=fun s=>.v (.string (trimB s)),pre:=fun s=>s.size≤9223372036854775807 }
theorem trim_ok:Sound Tryz.prog (GlT mx pb) 68 ctTrim:=by
 refine sound_calls Tryz.func68 (by kernel_rfl) (by kernel_rfl) (fun _=>rfl) fun s hs M w us hfit hG hr=>?_
 have:=two_vals hr
 subst this
 refine (Any.strings_Trim_laid Tryz.lays160 (by kernel_rfl) s blanks w hs (by decide) (ascii_all (by decide))).mono ?_
 rintro e w' ⟨rfl,hb⟩
 exact ⟨_,rfl,rfl,hb⟩
def stops:ByteArray:=⟨#[59,35,10]⟩
def anyB (s:ByteArray):Bool:=Lib.containsAny s.data.toList [59,35,10]
def ctAny:Ct:={ ι:=ByteArray,inp:=fun s=>[.v (.string s),.v (.string stops)],out:=fun s=>.v (.bool (anyB s)),pre:=fun s=>s.size<4294967281∧s.data.toList.all (fun b=>decide (b.toNat<128))=true }
def ctContains:Ct:={ ι:=ByteArray × ByteArray,inp:=fun x=>[.v (.string x.1),.v (.string x.2)],out:=fun x=>.v (.bool (Lib.contains x.1.data.toList x.2.data.toList)),pre:=fun x=>x.1.size<4294967281 }
def strD (x:ByteArray):Nat→D
 | 0=>.v (.string x)
 | _=>.junk
instance:Inhabited ByteArray:=⟨⟨#[]⟩⟩
def joinB (xs:List ByteArray) (sep:ByteArray):ByteArray:=listB (Lib.join (xs.map (·.data.toList)) sep.data.toList)
def ctJoinS:Ct:={ ι:=List ByteArray × ByteArray,inp:=fun x=>[slD 1 strD x.1,.v (.string x.2)],out:=fun x=>.v (.string (joinB x.1 x.2)),pre:=fun x=>x.1.length≤140737488355328∧(joinB x.1 x.2).size≤140737488355328 }
end Go.Proofs
namespace Go.Proofs
open Go Go.Sx
variable {mx:Int}{pb:Bool}
def emB (x:ByteArray):Bool := @decide (x=⟨#[]⟩) (baDec x ⟨#[]⟩)
def spB:ByteArray:=⟨#[32]⟩
def smB:ByteArray:=⟨#[59,32]⟩
def nlB:ByteArray:=⟨#[10]⟩
theorem emB_iff {x:ByteArray}:emB x=true↔x=⟨#[]⟩:=eqB_iff
theorem size_nil {x:ByteArray}(h:x.data.toList=[]):x=⟨#[]⟩:=by
 rcases x with ⟨⟨l⟩⟩
 simp at h
 subst h
 rfl
theorem bcat_empty (a:ByteArray):bcat a ⟨#[]⟩=a:=by
 rcases a with ⟨⟨l⟩⟩
 show (⟨⟨l++[]⟩⟩:ByteArray)=_
 rw[List.append_nil]
theorem getD_map {α β:Type} [Inhabited α] [Inhabited β] (f:α→β) {l:List α}{k:Nat}(h:k<l.length):(l.map f).getD k default=f (l.getD k default):=by
 simp[List.getD_eq_getElem?_getD,h]
theorem sound_less {P:Program}{Gl:Nat→Option D}{f:FuncId}{ct ct':Ct}(h:Sound P Gl f ct) (φ:ct'.ι→ct.ι) (hi:∀ x,ct'.inp x=ct.inp (φ x)) (hp:∀ x,ct'.pre x→ct.pre (φ x)) (ho:∀ x,ct'.pre x→ct.out (φ x)=ct'.out x):Sound P Gl f ct':=by
 refine ⟨h.1,fun x=>by rw[hi];exact h.2.1 _,fun x hx M w us hf hg hr n=>?_⟩
 have:=h.2.2 (φ x) (hp x hx) M w us hf hg (by rw[← hi];exact hr) n
 rw[ho x hx] at this
 exact this
theorem ent_sl1 {α:Type} [Inhabited α] {sz:Nat}{enc:α→Nat→D}{a:α}{f:Nat→Nat→D}(h:∀ j,j<sz→Ent (f 0 j) (enc a j)):Ent (.sl sz 1 f) (slD sz enc [a]):=Ent.sl rfl fun i hi j hj=>by
 have:i=0:=by omega
 subst this
 exact h j hj
theorem ent_sl2 {α:Type} [Inhabited α] {sz:Nat}{enc:α→Nat→D}{a b:α}{f:Nat→Nat→D}(h:∀ j,j<sz→Ent (f 0 j) (enc a j)) (k:∀ j,j<sz→Ent (f 1 j) (enc b j)):Ent (.sl sz 2 f) (slD sz enc [a,b]):=Ent.sl rfl fun i hi j hj=>by
 match i,hi with
 | 0,_=>exact h j hj
 | 1,_=>exact k j hj
theorem lt1 {p:Nat→Prop}(h:p 0):∀ j,j<1→p j:=fun j hj=>by
 have:j=0:=by omega
 subst this
 exact h
theorem lt5 {p:Nat→Prop}(h0:p 0) (h1:p 1) (h2:p 2) (h3:p 3) (h4:p 4):∀ j,j<5→p j:=fun j hj=>by
 match j,hj with
 | 0,_=>exact h0
 | 1,_=>exact h1
 | 2,_=>exact h2
 | 3,_=>exact h3
 | 4,_=>exact h4
end Go.Proofs
namespace Go.Proofs
open Go Go.Sx Go.RowKit
variable {mx:Int}{pb:Bool}
def cutA (s sep:ByteArray):ByteArray:=listB (Lib.cut s.data.toList sep.data.toList).1
def cutZ (s sep:ByteArray):ByteArray:=listB (Lib.cut s.data.toList sep.data.toList).2.1
def cutF (s sep:ByteArray):Bool:=(Lib.cut s.data.toList sep.data.toList).2.2
def ctCutS:Ct:={ ι:=ByteArray × ByteArray,inp:=fun x=>[.v (.string x.1),.v (.string x.2)],out:=fun x=>.tu [.v (.string (cutA x.1 x.2)),.v (.string (cutZ x.1 x.2)),.v (.bool (cutF x.1 x.2))],pre:=fun x=>x.1.size<4294967281 }
theorem tu3 {M:Mem}{E:List Value}{x y z:Value}:Rep M E (.tu [.v x,.v y,.v z]) (.tuple #[x,y,z]):=by
 simp only[Rep]
 refine ⟨_,rfl,?_⟩
 simp only[RepL,Rep]
 exact ⟨_,_,rfl,rfl,_,_,rfl,rfl,_,_,rfl,rfl,rfl⟩
theorem tu2 {M:Mem}{E:List Value}{x y:Value}:Rep M E (.tu [.v x,.v y]) (.tuple #[x,y]):=by
 simp only[Rep]
 refine ⟨_,rfl,?_⟩
 simp only[RepL,Rep]
 exact ⟨_,_,rfl,rfl,_,_,rfl,rfl,rfl⟩
theorem cutS_ok:Sound Tryz.prog (GlT mx pb) 67 ctCutS:=by
 refine sound_calls Tryz.func67 (by kernel_rfl) (by kernel_rfl) (fun _=>rfl) fun x hs M w us hfit hG hr=>?_
 have:=two_vals hr
 subst this
 refine (Any.strings_Cut Tryz.lays145 x.1 x.2 mx w hs (gl_cell hfit hG rfl)).mono ?_
 rintro e w' ⟨rfl,n,rfl⟩
 exact ⟨_,rfl,tu3,below_drewN (Below.refl _ _) n⟩
end Go.Proofs
namespace Go.Proofs
open Go Go.Sx
variable {mx:Int}{pb:Bool}
def codesK (t:List Int):Nat→ByteArray
 | 0=>⟨#[]⟩
 | k+1=>bcat (if k=0 then codesK t k else bcat (codesK t k) spB) (hexS (t.getD k default))
def codesS (t:List Int):ByteArray:=codesK t t.length
theorem join_snoc (xs:List (List UInt8)) (y sep:List UInt8):Lib.join (xs++[y]) sep=if xs=[] then y else Lib.join xs sep++sep++y:=by
 cases xs with
 | nil=>simp[Lib.join_one]
 | cons x r =>
  rw[if_neg (by simp),List.cons_append,Lib.join_cons,Lib.join_cons]
  have:=Lib.joinTail_take_succ sep (r++[y]) r.length y (by simp)
  rw[List.take_of_length_le (by simp),List.take_left] at this
  rw[this]
  simp
theorem codes_join (t:List Int):∀ k,k≤t.length→joinB ((t.take k).map hexS) spB=codesK t k
 | 0,_=>rfl
 | k+1,hk=>by
  have ih:=codes_join t k (by omega)
  rw[take_at (show k<t.length by omega),List.map_append]
  unfold joinB
  rw[List.map_append]
  show listB (Lib.join (_++[(hexS (t.getD k default)).data.toList]) _)=_
  rw[join_snoc]
  unfold joinB at ih
  have e:Lib.join (((t.take k).map hexS).map fun x=>x.data.toList) spB.data.toList=(codesK t k).data.toList:=by
   rw[← ih];rfl
  by_cases h0:k=0
  ·subst h0
   simp only[List.take_zero,List.map_nil,if_true]
   rfl
  ·have hne:¬(((t.take k).map hexS).map fun x=>x.data.toList)=[]:=by
    intro hh
    have:=congrArg List.length hh
    rw[List.length_map,List.length_map,List.length_take] at this
    simp only[List.length_nil] at this
    omega
   rw[if_neg hne,e]
   simp only[codesK,h0,if_false]
   unfold bcat listB
   simp
theorem codesK_size (t:List Int):∀ k,(codesK t k).size≤7*k
 | 0=>by simp[codesK,ByteArray.size]
 | k+1=>by
  have h1:=codesK_size t k
  have h2:=hexS_size (t.getD k default)
  have h3:spB.size=1:=rfl
  simp only[codesK,bcat_size]
  split<;>(try rw[bcat_size])<;>omega
def allV (t:List Int):Bool:=t.all validB
def ctValidT:Ct:={ ι:=List Int,inp:=fun t=>[slD 1 intD t],out:=fun t=>.v (.bool (allV t)),pre:=fun t=>t.length≤1000000 }
def Γta:Ctx:=fun f=>match f with
 | 90=>some (.pure ctValid)
 | 91=>some (.pure ctValid)
 | 98=>some (.pure ctHex)
 | 105=>some (.pure ctHex)
 | _=>none
theorem Γta_ok:CtxOk Tryz.prog (GlT mx pb) Γta:=by
 intro f h hh
 simp only[Γta] at hh
 split at hh<;>simp at hh<;>subst hh
 ·exact valid_ok
 ·exact rvalid_ok
 ·exact hex_ok
 ·exact rHex_ok
def codesD (t:List Int):D:=if allV t=true then .tu [.v (.string (codesS t)),.v (.int .i64 0)] else .tu [.v (.string ⟨#[]⟩),.v (.int .i64 1)]
theorem codesD_pd (t:List Int):pd (codesD t)=true:=by unfold codesD;split<;>rfl
def ctCodesT:Ct:={ ι:=List Int,inp:=fun t=>[slD 1 intD t],out:=codesD,pre:=fun t=>t.length≤100000 }
end Go.Proofs
namespace Go.Proofs
open Go Go.Sx
variable {mx:Int}{pb:Bool}
def Γtb:Ctx:=fun f=>match f with
 | 98=>some (.pure ctHex)
 | _=>none
theorem Γtb_ok:CtxOk Tryz.prog (GlT mx pb) Γtb:=by
 intro f h hh
 simp only[Γtb] at hh
 split at hh<;>simp at hh<;>subst hh
 ·exact hex_ok
theorem hex_snoc {t:List Int}{k:Nat}(h:k<t.length):(t.take k).map hexS++[hexS (t.getD k default)]=(t.take (k+1)).map hexS:=by
 rw[take_at h,List.map_append];rfl
end Go.Proofs
namespace Go.Proofs
open Go Go.Sx Go.RowKit
variable {mx:Int}{pb:Bool}
def upS (s:ByteArray):ByteArray:=listB (Lib.toUpperA s.data.toList)
def ctUp:Ct:={ ι:=ByteArray,inp:=fun s=>[.v (.string s)],out:=fun s=>.v (.string (upS s)),pre:=fun s=>s.size≤140737488355328∧s.data.toList.all (fun b=>decide (b.toNat<128))=true }
theorem one_string {M:Mem}{E:List Value}{x:Value}{us:Array Value}(h:RepL M E [.v x] us.toList):us = #[x]:=by
 simp only[RepL,Rep] at h
 obtain ⟨u,r,h1,rfl,rfl⟩:=h
 apply Array.ext';simpa using h1
theorem up_ok:Sound Tryz.prog (GlT mx pb) 130 ctUp:=by
 refine sound_calls Tryz.func130 (by kernel_rfl) (by kernel_rfl) (fun _=>rfl) fun s hs M w us hfit hG hr=>?_
 have:=one_string hr
 subst this
 refine (Any.strings_ToUpper_ascii Tryz.lays158 Tryz.Builder_Extra_158 s w hs.1 (ascii_all hs.2)).mono ?_
 rintro e w' ⟨rfl,hb⟩
 exact ⟨_,rfl,rfl,hb⟩
def upG:List D→Option D
 | [.v (.string s)]=>if decide (s.size≤64)&&s.data.toList.all (fun b=>decide (b.toNat<128)) then some (.v (.string (upS s))) else none
 | _=>none
theorem upG_ok {ds:List D}{d:D}(h:upG ds=some d):Sound Tryz.prog (GlT mx pb) 130 ⟨Unit,fun _=>ds,fun _=>d,fun _=>True⟩:=by
 unfold upG at h
 split at h<;>try (simp at h;done)
 rename_i s
 split at h<;>try (simp at h;done)
 rename_i hc
 rw[Bool.and_eq_true,decide_eq_true_eq] at hc
 simp only[Option.some.injEq] at h
 subst h
 exact sound_less up_ok (fun _=>s) (fun _=>rfl) (fun _ _=>⟨by omega,hc.2⟩) (fun _ _=>rfl)
end Go.Proofs
namespace Go.Proofs
open Go Go.Sx
variable {mx:Int}{pb:Bool}
def Γbc:Ctx:=fun f=>match f with
 | 139=>some (.ext sameG)
 | _=>none
theorem Γbc_ok:CtxOk Tryz.prog (GlT mx pb) Γbc:=by
 intro f h hh
 simp only[Γbc] at hh
 split at hh<;>simp at hh<;>subst hh
 exact same_ok
noncomputable def cCopy:Code:=(Tryz.f92.body).getD .skip
noncomputable def cWStr:Code:=(Tryz.f49.body).getD .skip
noncomputable def cWByte:Code:=(Tryz.f174.body).getD .skip
noncomputable def cBStr:Code:=(Tryz.f52.body).getD .skip
noncomputable def Γbw (mx:Int) (pb:Bool):Ctx:=fun f=>match f with
 | 92=>some (.gen (inlW true Γbc Tryz.T (GlT mx pb) Tryz.f92 cCopy))
 | _=>none
theorem Γbw_ok:CtxOk Tryz.prog (GlT mx pb) (Γbw mx pb):=by
 intro f h hh
 simp only[Γbw] at hh
 split at hh<;>simp at hh<;>subst hh
 exact soundT_inlW Γbc_ok Tryz.T_ok Tryz.mixed Tryz.func92 rfl (by kernel_rfl)
end Go.Proofs
namespace Go.Proofs
open Go Go.Sx
variable {mx:Int}{pb:Bool}
def hpB (s t:ByteArray):Bool:=decide (t.size≤s.size)&&eqB (bcut s 0 t.size) t
def ctHP:Ct:={ ι:=ByteArray × ByteArray,inp:=fun x=>[.v (.string x.1),.v (.string x.2)],out:=fun x=>.v (.bool (hpB x.1 x.2)),pre:=fun _=>True }
set_option maxHeartbeats 1000000 in
theorem slHP_ok:Sound Tryz.prog (GlT mx pb) 206 ctHP:=by
 refine sound_by (cc:=true) Γ0_ok Tryz.T_ok Tryz.mixed Tryz.func206 rfl (by kernel_rfl) (fun _=>rfl) (fun _ _=>by show 2≤18;decide) ?_
 rintro ⟨(s:ByteArray),(t:ByteArray)⟩ _
 repeat' (first|refine gl ?_|(first|refine br ?_ ?_|refine brF ?_ ?_)<;>intro q_<;>try simp only[nz] at q_)
 ·refine entR_eq ?_ rfl
  show D.v (.bool (eqB (bcut s 0 ((t.size:Int)).toNat) t))=D.v (.bool (hpB s t))
  unfold hpB
  rw[decide_eq_true (show t.size≤s.size by omega),Bool.true_and]
  rfl
 ·refine entR_eq ?_ rfl
  show D.v (.bool false)=D.v (.bool (hpB s t))
  unfold hpB
  rw[decide_eq_false (show ¬t.size≤s.size by omega),Bool.false_and]
def Γhp:Ctx:=fun f=>match f with
 | 206=>some (.pure ctHP)
 | _=>none
theorem Γhp_ok:CtxOk Tryz.prog (GlT mx pb) Γhp:=by
 intro f h hh
 simp only[Γhp] at hh
 split at hh<;>simp at hh<;>subst hh
 ·exact slHP_ok
theorem stHP_ok:Sound Tryz.prog (GlT mx pb) 148 ctHP:=by
 refine sound_by (cc:=true) Γhp_ok Tryz.T_ok Tryz.mixed Tryz.func148 rfl (by kernel_rfl) (fun _=>rfl) (fun _ _=>by show 2≤8;decide) ?_
 rintro ⟨(s:ByteArray),(t:ByteArray)⟩ _
 have pp:ctHP.pre (s,t):=trivial
 repeat' (first|refine gl ?_|(first|refine br ?_ ?_|refine brF ?_ ?_)<;>intro q_<;>try simp only[nz] at q_)
 exact EntR.of rfl (Ent.refl _)
end Go.Proofs
