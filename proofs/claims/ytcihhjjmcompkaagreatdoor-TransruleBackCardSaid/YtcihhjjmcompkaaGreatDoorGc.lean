import Derived.Test.YtcihhjjmcompkaaGreatDoorSh
import Derived.Test.YtcihhjjmcompkaaGreatDoorEa
import Derived.Test.YtcihhjjmcompkaaGreatDoorBz
import Derived.Test.YtcihhjjmcompkaaGreatDoorC2
import Derived.Test.YtcihhjjmcompkaaGreatDoorC1
import Derived.WalkSmall
set_option linter.unusedVariables false
set_option linter.unusedSimpArgs false
namespace Go.Proofs
open Go Go.Sx Go.RowKit
variable {mx:Int}{pb:Bool}
def zea (l:List UInt8):ByteArray:=⟨⟨l⟩⟩
theorem ascii_all {l:List UInt8}(h:l.all (fun b=>decide (b.toNat<128))=true):∀ (j:Nat) b,l[j]?=some b→b.toNat<128:=by
 intro j b hb
 have:=List.all_eq_true.1 h b (List.mem_of_getElem? hb)
 simpa using this
def blanks:ByteArray:=⟨#[32,9,13]⟩
def stops:ByteArray:=⟨#[59,35,10]⟩
def zg7 (x:ByteArray):Nat→D
 | 0=>.v (.string x)
 | _=>.junk
instance:Inhabited ByteArray:=⟨⟨#[]⟩⟩
end Go.Proofs
namespace Go.Proofs
open Go Go.Sx
variable {mx:Int}{pb:Bool}
theorem size_nil {x:ByteArray}(h:x.data.toList=[]):x=⟨#[]⟩:=by
 rcases x with ⟨⟨l⟩⟩
 simp at h
 subst h
 rfl
theorem sound_less {P:Program}{Gl:Nat→Option D}{f:FuncId}{ct ct':Ct}(h:zay P Gl f ct) (φ:ct'.ι→ct.ι) (hi:∀ x,ct'.inp x=ct.inp (φ x)) (hp:∀ x,ct'.pre x→ct.pre (φ x)) (ho:∀ x,ct'.pre x→ct.out (φ x)=ct'.out x):zay P Gl f ct':=by
 refine ⟨h.1,fun x=>by rw[hi];exact h.2.1 _,fun x hx M w us hf hg hr n=>?_⟩
 have:=h.2.2 (φ x) (hp x hx) M w us hf hg (by rw[← hi];exact hr) n
 rw[ho x hx] at this
 exact this
theorem ent_sl1 {α:Type} [Inhabited α] {sz:Nat}{enc:α→Nat→D}{a:α}{f:Nat→Nat→D}(h:∀ j,j<sz→Ent (f 0 j) (enc a j)):Ent (.sl sz 1 f) (slD sz enc [a]):=Ent.sl rfl fun i hi j hj=>by
 have:i=0:=by omega
 subst this
 exact h j hj
theorem lt1 {p:Nat→Prop}(h:p 0):∀ j,j<1→p j:=fun j hj=>by
 have:j=0:=by omega
 subst this
 exact h
end Go.Proofs
namespace Go.Proofs
open Go Go.Sx Go.RowKit
variable {mx:Int}{pb:Bool}
def cutA (s sep:ByteArray):ByteArray:=zea (Lib.cut s.data.toList sep.data.toList).1
def cutZ (s sep:ByteArray):ByteArray:=zea (Lib.cut s.data.toList sep.data.toList).2.1
def cutF (s sep:ByteArray):Bool:=(Lib.cut s.data.toList sep.data.toList).2.2
def ctCutS:Ct:={ ι:=ByteArray × ByteArray,inp:=fun x=>[.v (.string x.1),.v (.string x.2)],out:=fun x=>.tu [.v (.string (cutA x.1 x.2)),.v (.string (cutZ x.1 x.2)),.v (.bool (cutF x.1 x.2))],pre:=fun x=>x.1.size<4294967281 }
theorem tu3 {M:Mem}{E:List Value}{x y z:Value}:Rep M E (.tu [.v x,.v y,.v z]) (.tuple #[x,y,z]):=by
 simp only[Rep]
 refine ⟨_,rfl,?_⟩
 simp only[RepL,Rep]
 exact ⟨_,_,rfl,rfl,_,_,rfl,rfl,_,_,rfl,rfl,rfl⟩
theorem tu2 {M:Mem}{E:List Value}{x y:Value}:Rep M E (.tu [.v x,.v y]) (.tuple #[x,y]):=by
 simp only[Rep]
 refine ⟨_,rfl,?_⟩
 simp only[RepL,Rep]
 exact ⟨_,_,rfl,rfl,_,_,rfl,rfl,rfl⟩
theorem cutS_ok:zay Tryz.prog (GlT mx pb) 67 ctCutS:=by
 refine zik Tryz.func67 (by kernel_rfl) (by kernel_rfl) (fun _=>rfl) fun x hs M w us hfit hG hr=>?_
 have:=two_vals hr
 subst this
 refine (Any.strings_Cut Tryz.lays145 x.1 x.2 mx w hs (gl_cell hfit hG rfl)).mono ?_
 rintro e w' ⟨rfl,n,rfl⟩
 exact ⟨_,rfl,tu3,below_drewN (Below.refl _ _) n⟩
end Go.Proofs
namespace Go.Proofs
open Go Go.Sx
variable {mx:Int}{pb:Bool}
end Go.Proofs
namespace Go.Proofs
open Go Go.Sx
variable {mx:Int}{pb:Bool}
end Go.Proofs
namespace Go.Proofs
open Go Go.Sx Go.RowKit
variable {mx:Int}{pb:Bool}
def upS (s:ByteArray):ByteArray:=zea (Lib.toUpperA s.data.toList)
def ctUp:Ct:={ ι:=ByteArray,inp:=fun s=>[.v (.string s)],out:=fun s=>.v (.string (upS s)),pre:=fun s=>s.size≤140737488355328∧s.data.toList.all (fun b=>decide (b.toNat<128))=true }
theorem one_string {M:Mem}{E:List Value}{x:Value}{us:Array Value}(h:RepL M E [.v x] us.toList):us = #[x]:=by
 simp only[RepL,Rep] at h
 obtain ⟨u,r,h1,rfl,rfl⟩:=h
 apply Array.ext';simpa using h1
theorem up_ok:zay Tryz.prog (GlT mx pb) 130 ctUp:=by
 refine zik Tryz.func130 (by kernel_rfl) (by kernel_rfl) (fun _=>rfl) fun s hs M w us hfit hG hr=>?_
 have:=one_string hr
 subst this
 refine (Any.strings_ToUpper_ascii Tryz.lays158 Tryz.Builder_Extra_158 s w hs.1 (ascii_all hs.2)).mono ?_
 rintro e w' ⟨rfl,hb⟩
 exact ⟨_,rfl,rfl,hb⟩
def upG:List D→Option D
 | [.v (.string s)]=>if decide (s.size≤64)&&s.data.toList.all (fun b=>decide (b.toNat<128)) then some (.v (.string (upS s))) else none
 | _=>none
theorem upG_ok {ds:List D}{d:D}(h:upG ds=some d):zay Tryz.prog (GlT mx pb) 130 ⟨Unit,fun _=>ds,fun _=>d,fun _=>True⟩:=by
 unfold upG at h
 split at h<;>try (simp at h;done)
 rename_i s
 split at h<;>try (simp at h;done)
 rename_i hc
 rw[Bool.and_eq_true,decide_eq_true_eq] at hc
 simp only[Option.some.injEq] at h
 subst h
 exact sound_less up_ok (fun _=>s) (fun _=>rfl) (fun _ _=>⟨by omega,hc.2⟩) (fun _ _=>rfl)
end Go.Proofs
namespace Go.Proofs
open Go Go.Sx
variable {mx:Int}{pb:Bool}
def Γbc:Ctx:=fun f=>match f with
 | 139=>some (.ext sameG)
 | _=>none
theorem Γbc_ok:za1 Tryz.prog (GlT mx pb) Γbc:=by
 intro f h hh
 simp only[Γbc] at hh
 split at hh<;>simp at hh<;>subst hh
 exact same_ok
noncomputable def cCopy:Code:=(Tryz.f92.body).getD .skip
noncomputable def cWStr:Code:=(Tryz.f49.body).getD .skip
noncomputable def cBStr:Code:=(Tryz.f52.body).getD .skip
noncomputable def Γbw (mx:Int) (pb:Bool):Ctx:=fun f=>match f with
 | 92=>some (.gen (ziq true Γbc Tryz.T (GlT mx pb) Tryz.f92 cCopy))
 | _=>none
theorem Γbw_ok:za1 Tryz.prog (GlT mx pb) (Γbw mx pb):=by
 intro f h hh
 simp only[Γbw] at hh
 split at hh<;>simp at hh<;>subst hh
 exact zax Γbc_ok Tryz.T_ok Tryz.mixed Tryz.func92 rfl (by kernel_rfl)
end Go.Proofs
namespace Go.Proofs
open Go Go.Sx
variable {mx:Int}{pb:Bool}
def hpB (s t:ByteArray):Bool:=decide (t.size≤s.size)&&eqB (zcd s 0 t.size) t
def ctHP:Ct:={ ι:=ByteArray × ByteArray,inp:=fun x=>[.v (.string x.1),.v (.string x.2)],out:=fun x=>.v (.bool (hpB x.1 x.2)),pre:=fun _=>True }
set_option maxHeartbeats 1000000 in
theorem slHP_ok:zay Tryz.prog (GlT mx pb) 206 ctHP:=by
 refine zah (cc:=true) zbj Tryz.T_ok Tryz.mixed Tryz.func206 rfl (by kernel_rfl) (fun _=>rfl) (fun _ _=>by show 2≤18;decide) ?_
 rintro ⟨(s:ByteArray),(t:ByteArray)⟩ _
 repeat' (first|refine gl ?_|(first|refine br ?_ ?_|refine brF ?_ ?_)<;>intro q_<;>try simp only[nz] at q_)
 ·refine zaj ?_ rfl
  show D.v (.bool (eqB (zcd s 0 ((t.size:Int)).toNat) t))=D.v (.bool (hpB s t))
  unfold hpB
  rw[decide_eq_true (show t.size≤s.size by omega),Bool.true_and]
  rfl
 ·refine zaj ?_ rfl
  show D.v (.bool false)=D.v (.bool (hpB s t))
  unfold hpB
  rw[decide_eq_false (show ¬t.size≤s.size by omega),Bool.false_and]
def Γhp:Ctx:=fun f=>match f with
 | 206=>some (.pure ctHP)
 | _=>none
theorem Γhp_ok:za1 Tryz.prog (GlT mx pb) Γhp:=by
 intro f h hh
 simp only[Γhp] at hh
 split at hh<;>simp at hh<;>subst hh
 ·exact slHP_ok
theorem stHP_ok:zay Tryz.prog (GlT mx pb) 148 ctHP:=by
 refine zah (cc:=true) Γhp_ok Tryz.T_ok Tryz.mixed Tryz.func148 rfl (by kernel_rfl) (fun _=>rfl) (fun _ _=>by show 2≤8;decide) ?_
 rintro ⟨(s:ByteArray),(t:ByteArray)⟩ _
 have pp:ctHP.pre (s,t):=trivial
 repeat' (first|refine gl ?_|(first|refine br ?_ ?_|refine brF ?_ ?_)<;>intro q_<;>try simp only[nz] at q_)
 exact EntR.of rfl (zab _)
end Go.Proofs
