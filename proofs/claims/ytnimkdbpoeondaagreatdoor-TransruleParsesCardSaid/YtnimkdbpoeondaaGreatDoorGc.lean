import Derived.Test.YtnimkdbpoeondaaGreatDoorSh
import Derived.Test.YtnimkdbpoeondaaGreatDoorC2
import Derived.WalkSmall
set_option linter.all false
set_option maxHeartbeats 4000000
namespace Go.Proofs
open Go Go.Sx Go.RowKit
variable {L:List (List Rg)}{E:List Value}{M:Mem}
variable {mx:Int}{pb:Bool}
def ve (l:List UInt8):ByteArray:=⟨⟨l⟩⟩
theorem zmq {l:List UInt8}(h:l.all (fun b=>decide (b.toNat<128))=true):∀ (j:Nat) b,l[j]?=some b->b.toNat<128:=by
 intro j b hb;have:=List.all_eq_true.1 h b (List.mem_of_getElem? hb)
 simpa using this
def blanks:ByteArray:=⟨#[32,9,13]⟩
def stops:ByteArray:=⟨#[59,35,10]⟩
def vg (x:ByteArray):Nat->D
 | 0=>.v (.string x)
 | _=>.junk
instance:Inhabited ByteArray:=⟨⟨#[]⟩⟩
open Go Go.Sx
theorem size_nil {x:ByteArray}(h:x.data.toList=[]):x=⟨#[]⟩:=by
 rcases x with ⟨⟨l⟩⟩
 simp at h;subst h;rfl
theorem zhc {P:Program}{Gl:Nat->Option D}{f:FuncId}{ct ct':Ct}(h:Sound P Gl f ct) (φ:ct'.ι->ct.ι) (hi:∀ x,ct'.inp x=ct.inp (φ x)) (hp:∀ x,ct'.pre x->ct.pre (φ x)) (ho:∀ x,ct'.pre x->ct.out (φ x)=ct'.out x):Sound P Gl f ct':=by
 refine ⟨h.1,fun x=>by rw[hi];exact h.2.1 _,fun x hx M w us hf hg hr n=>?_⟩
 have:=h.2.2 (φ x) (hp x hx) M w us hf hg (by rw[<- hi];exact hr) n;rw[ho x hx] at this;exact this
theorem zdl {α:Type} [Inhabited α] {sz:Nat}{enc:α->Nat->D}{a:α}{f:Nat->Nat->D}(h:∀ j,j<sz->Ent (f 0 j) (enc a j)):Ent (.sl sz 1 f) (slD sz enc [a]):=Ent.sl rfl fun i hi j hj=>by
 have:i=0:=by omega
 subst this;exact h j hj
theorem lt1 {p:Nat->Prop}(h:p 0):∀ j,j<1->p j:=fun j hj=>by
 have:j=0:=by omega
 subst this;exact h
def vx (s sep:ByteArray):ByteArray:=ve (Lib.cut s.data.toList sep.data.toList).1
def cutZ (s sep:ByteArray):ByteArray:=ve (Lib.cut s.data.toList sep.data.toList).2.1
def cutF (s sep:ByteArray):Bool:=(Lib.cut s.data.toList sep.data.toList).2.2
def ctCutS:Ct:={ ι:=ByteArray × ByteArray,inp:=fun x=>[.v (.string x.1),.v (.string x.2)],out:=fun x=>.tu [.v (.string (vx x.1 x.2)),.v (.string (cutZ x.1 x.2)),.v (.bool (cutF x.1 x.2))],pre:=fun x=>x.1.size<4294967281 }
theorem tu3 {x y z:Value}:Rep M E (.tu [.v x,.v y,.v z]) (.tuple #[x,y,z]):=by
 simp only[Rep];refine ⟨_,rfl,?_⟩
 simp only[RepL,Rep];exact ⟨_,_,rfl,rfl,_,_,rfl,rfl,_,_,rfl,rfl,rfl⟩
theorem tu2 {x y:Value}:Rep M E (.tu [.v x,.v y]) (.tuple #[x,y]):=by
 simp only[Rep];refine ⟨_,rfl,?_⟩
 simp only[RepL,Rep];exact ⟨_,_,rfl,rfl,_,_,rfl,rfl,rfl⟩
theorem cutS_ok:SS mx pb 17 ctCutS:=by
 refine zb9 Tryz.func17 (by kernel_rfl) (by kernel_rfl) (fun _=>rfl) fun x hs M w us hfit hG hr=>?_;have:=zig hr;subst this;refine (Any.strings_Cut Tryz.lays145 x.1 x.2 mx w hs (gl_cell hfit hG rfl)).mono ?_;rintro e w' ⟨rfl,n,rfl⟩
 exact ⟨_,rfl,tu3,below_drewN (Below.refl _ _) n⟩
def upS (s:ByteArray):ByteArray:=ve (Lib.toUpperA s.data.toList)
def ctUp:Ct:={ ι:=ByteArray,inp:=fun s=>[.v (.string s)],out:=fun s=>.v (.string (upS s)),pre:=fun s=>s.size<=140737488355328/\s.data.toList.all (fun b=>decide (b.toNat<128))=true }
theorem one_string {x:Value}{us:Array Value}(h:RepL M E [.v x] us.toList):us = #[x]:=by
 simp only[RepL,Rep] at h;obtain ⟨u,r,h1,rfl,rfl⟩:=h;apply Array.ext';simpa using h1
theorem up_ok:SS mx pb 56 ctUp:=by
 refine zb9 Tryz.func56 (by kernel_rfl) (by kernel_rfl) (fun _=>rfl) fun s hs M w us hfit hG hr=>?_;have:=one_string hr;subst this;refine (Any.strings_ToUpper_ascii Tryz.lays158 Tryz.Builder_Extra_158 s w hs.1 (zmq hs.2)).mono ?_;rintro e w' ⟨rfl,hb⟩
 exact ⟨_,rfl,rfl,hb⟩
def upG:List D->Option D
 | [.v (.string s)]=>if decide (s.size<=64)&&s.data.toList.all (fun b=>decide (b.toNat<128)) then some (.v (.string (upS s))) else none
 | _=>none
theorem upG_ok {ds:List D}{d:D}(h:upG ds=some d):SS mx pb 56 ⟨Unit,fun _=>ds,fun _=>d,fun _=>True⟩:=by
 unfold upG at h;split at h<;>try (simp at h;done)
 rename_i s;split at h<;>try (simp at h;done)
 rename_i hc;rw[Bool.and_eq_true,decide_eq_true_eq] at hc;simp only[Option.some.injEq] at h;subst h;exact zhc up_ok (fun _=>s) (fun _=>rfl) (fun _ _=>⟨by omega,hc.2⟩) (fun _ _=>rfl)
def hpB (s t:ByteArray):Bool:=decide (t.size<=s.size)&&eqB (zN s 0 t.size) t
def ctHP:Ct:={ ι:=ByteArray × ByteArray,inp:=fun x=>[.v (.string x.1),.v (.string x.2)],out:=fun x=>.v (.bool (hpB x.1 x.2)),pre:=fun _=>True }
theorem slHP_ok:SS mx pb 104 ctHP:=by
 refine sb (cc:=true) zH Tryz.func104 ?_;rintro ⟨(s:ByteArray),(t:ByteArray)⟩ _
 repeat' first|refine gl ?_|refine bs ?_ ?_<;>intro q_
 ·refine zd ?_ rfl;show D.v (.bool (eqB (zN s 0 ((t.size:Int)).toNat) t))=D.v (.bool (hpB s t))
  unfold hpB;rw[decide_eq_true (show t.size<=s.size by omega),Bool.true_and];rfl
 ·refine zd ?_ rfl;show D.v (.bool false)=D.v (.bool (hpB s t))
  unfold hpB;rw[decide_eq_false (show ¬t.size<=s.size by omega),Bool.false_and]
def Γhp:Ctx:=fun f=>match f with
 | 104=>some (.pure ctHP)
 | _=>none
theorem Γhp_ok:CK mx pb Γhp:=by
 intro f h hh;simp only[Γhp] at hh;split at hh<;>simp at hh<;>subst hh
 ·exact slHP_ok
theorem stHP_ok:SS mx pb 72 ctHP:=by
 refine sb (cc:=true) Γhp_ok Tryz.func72 ?_;rintro ⟨(s:ByteArray),(t:ByteArray)⟩ _;have pp:ctHP.pre (s,t):=trivial;refine gl ?_;exact eR
def ctSm2:Ct:={ ι:=List Rg,inp:=fun l=>[zR l],out:=fun l=>.v (.bool (decide ((l.length:Int)<=12))),pre:=fun _=>True }
theorem r2Small_ok:SS mx pb 10 ctSm2:=by
 refine sb (cc:=true) zH Tryz.func10 ?_;intro (l:List Rg) _;refine gl ?_;exact ze rfl
theorem zgj {l:List Rg}(h:l.length<=12):(canon l).length<=1000:=by
 have:=zK l;omega
def ctVs:Ct:={ ι:=List Rg,inp:=fun l=>[zR l],out:=fun l=>.v (.bool (decide (canon l=l))),pre:=fun l=>l.length<=12 }
noncomputable def Γvs:Ctx:=fun f=>match f with
 | 107=>some (.pure ctMakeR)
 | 51=>some (.pure ctSameS)
 | _=>none
theorem Γvs_ok:CK mx pb Γvs:=by
 intro f h hh;simp only[Γvs] at hh;split at hh<;>simp at hh<;>subst hh
 ·exact zaw
 ·exact zfk
theorem rVs_ok:SS mx pb 111 ctVs:=by
 refine sb (cc:=true) Γvs_ok Tryz.func111 ?_;intro (l:List Rg) (hl:l.length<=12)
 have p1:ctMakeR.pre l:=(by show l.length<=10000;omega)
 have hc:=zgj hl;have p2:ctSameS.pre (l,canon l):=⟨by show l.length<=1000000;omega,by show (canon l).length<=1000000;omega⟩
 refine gl ?_;refine ze ?_;by_cases h:canon l=l
 ·rw[decide_eq_true h,decide_eq_true h.symm]
 ·rw[decide_eq_false h,decide_eq_false (fun e=>h e.symm)]
noncomputable def Γvp (mx:Int) (pb:Bool):Ctx:=fun f=>match f with
 | 53=>some (.pure ctMake)
 | _=>none
theorem Γvp_ok:CK mx pb (Γvp mx pb):=by
 intro f h hh;simp only[Γvp] at hh;split at hh<;>simp at hh<;>subst hh
 ·exact yX
theorem pVs_ok:SS mx pb 76 ctVs:=by
 refine sb (cc:=true) Γvp_ok Tryz.func76 ?_;intro (l:List Rg) (hl:l.length<=12)
 have p1:ctMake.pre l:=⟨by omega,.inl hl⟩
 have hc:=zgj hl
 repeat' first|refine gl ?_|refine bs ?_ ?_<;>intro q_
 ·exact ze (decide_eq_false fun e=>q_ (by rw[e])).symm
 have hle:(canon l).length=l.length:=by omega
 refine ⟨0,Nat,fun k=>⟨[(1,.own 0 0),(17,xE (canon l)),(18,.v (.int .i64 (canon l).length)),(19,.v (.int .i64 k))],[.cells 31 [xE l]],[]⟩,fun k=>k<=(canon l).length/\∀ j,j<k->(canon l).getD j default=l.getD j default,fun k=>(canon l).length - k,fun _=>Nat.zero_le _,⟨0,⟨Nat.zero_le _,fun j hj=>by omega⟩,(sr [0])⟩,?_⟩
 rintro k ⟨hk,hd⟩
 by_cases hlt:k<(canon l).length
 ·repeat' first|refine gl ?_|refine bs ?_ ?_<;>intro q_
  ·refine ze (decide_eq_false fun e=>?_).symm;rw[e] at q_;simp at q_
  ·exact ⟨k+1,⟨by omega,zo hd (Prod.ext q_.1 q_.2.1)⟩,(by show _ - (k+1)<_ - k;omega),(sr [0])⟩
 ·refine gl ?_;exact ze (decide_eq_true (zdk hle fun j hj=>hd j (by omega))).symm
structure Tl where
 bef:List (List Rg)
 mat:List (List Rg)
 aft:List (List Rg)
 res:List Rg
instance:Inhabited Tl:=⟨⟨[],[],[],[]⟩⟩
def stD (l:List Rg):Nat->D
 | 0=>xE l
 | _=>.junk
def zb6 (L:List (List Rg)):D:=slD 1 stD L
def tlD (x:Tl):Nat->D
 | 0=>zb6 x.bef
 | 1=>zb6 x.mat
 | 2=>zb6 x.aft
 | 3=>xE x.res
 | _=>.junk
def tlA (x:Tl):D:=.ag [tlD x 0,tlD x 1,tlD x 2,tlD x 3]
def tlsD (l:List Tl):D:=slD 4 tlD l
def smS (L:List (List Rg)):Prop:=L.length<=10/\∀ i,i<L.length->(L.getD i default).length<=12
def smT (x:Tl):Prop:=smS x.bef/\smS x.mat/\smS x.aft/\x.res.length<=20
def okS (s:List Rg):Prop:=canon s=s/\¬s.length=0
instance (s:List Rg):Decidable (okS s):=inferInstanceAs (Decidable (_/\_))
def rgtS (L:List (List Rg)):Prop:=∀ i,i<L.length->okS (L.getD i default)
open Classical in
noncomputable def rgtB (L:List (List Rg)):Bool:=decide (rgtS L)
theorem rgtB_t (h:rgtS L):true=rgtB L:=(@decide_eq_true _ (Classical.propDecidable _) h).symm
theorem rgtB_f (h:¬rgtS L):false=rgtB L:=(@decide_eq_false _ (Classical.propDecidable _) h).symm
theorem zbc:rgtB L=true↔rgtS L:=by
 unfold rgtB;exact @decide_eq_true_iff _ (Classical.propDecidable _)
theorem zlo {α:Type} [Inhabited α] {l:List α}{i:Nat}(h:i<l.length):l.getD i default∈l:=by
 rw[List.getD_eq_getElem?_getD,List.getElem?_eq_getElem h];exact List.getElem_mem h
theorem zir:rgtS L↔∀ s∈L,okS s:=by
 constructor
 ·intro h s hs;obtain ⟨i,hi,rfl⟩:=List.getElem_of_mem hs;have:=h i hi;rw[List.getD_eq_getElem?_getD,List.getElem?_eq_getElem hi] at this;exact this
 ·intro h i hi;exact h _ (zlo hi)
theorem rgtS_app {A B:List (List Rg)}:rgtS (A++B)↔rgtS A/\rgtS B:=by
 rw[zir,zir,zir];constructor
 ·intro h;exact ⟨fun s hs=>h s (List.mem_append_left _ hs),fun s hs=>h s (List.mem_append_right _ hs)⟩
 ·rintro ⟨h,k⟩ s hs;exact (List.mem_append.1 hs).elim (h s) (k s)
def szT (x:Tl):Prop:=1<=x.mat.length/\x.mat.length<=8/\x.bef.length<=8/\x.aft.length<=8/\x.res.length<=16
instance (x:Tl):Decidable (szT x):=inferInstanceAs (Decidable (_/\_))
def zm7 (x:Tl):Prop:=rgtS x.bef/\rgtS x.mat/\rgtS x.aft
def pcOk (n:Nat) (p:Rg):Prop:=(p.2=0/\uj p.1=true)\/(p.1=0/\1<=p.2/\p.2<=n)
instance (n:Nat) (p:Rg):Decidable (pcOk n p):=inferInstanceAs (Decidable (_\/_))
def pcsOk (x:Tl):Prop:=∀ i,i<x.res.length->pcOk x.mat.length (x.res.getD i default)
open Classical in
noncomputable def ziw (x:Tl):Int:=if szT x then (if zm7 x then (if pcsOk x then 0 else 1) else 11) else 2
theorem zld {x:Tl}(h:¬szT x):ziw x=2:=if_neg h
theorem zfo {x:Tl}(h:szT x) (k:¬zm7 x):ziw x=11:=by rw[ziw,if_pos h,if_neg k]
theorem zhk {x:Tl}(h:szT x) (k:zm7 x) (p:¬pcsOk x):ziw x=1:=by rw[ziw,if_pos h,if_pos k,if_neg p]
theorem oneE_ok {x:Tl}(h:szT x) (k:zm7 x) (p:pcsOk x):ziw x=0:=by rw[ziw,if_pos h,if_pos k,if_pos p]
noncomputable def chkE:List Tl->Int
 | []=>0
 | x::l=>if ziw x=0 then chkE l else ziw x
theorem zos:∀ {l:List Tl}{k:Nat},k<l.length->(∀ j,j<k->ziw (l.getD j default)=0)->¬ziw (l.getD k default)=0->chkE l=ziw (l.getD k default)
 | [],k,h,_,_=>by simp at h
 | x::l,0,_,_,h=>if_neg h
 | x::l,k+1,hk,hn,h=>by
  have h0:ziw x=0:=hn 0 (by omega)
  rw[chkE,if_pos h0];exact zos (l:=l) (by simpa using hk) (fun j hj=>hn (j+1) (by omega)) h
theorem chkE_0:∀ {l:List Tl},(∀ j,j<l.length->ziw (l.getD j default)=0)->chkE l=0
 | [],_=>rfl
 | x::l,h=>by
  have h0:ziw x=0:=h 0 (by simp)
  rw[chkE,if_pos h0];exact chkE_0 (l:=l) fun j hj=>h (j+1) (by simpa using hj)
noncomputable def ctRgt:Ct:={ ι:=List (List Rg),inp:=fun L=>[zb6 L],out:=fun L=>.v (.bool (rgtB L)),pre:=smS }
noncomputable def ctOneE:Ct:={ ι:=Tl,inp:=fun x=>[tlA x],out:=fun x=>.v (.int .i64 (ziw x)),pre:=smT }
end Go.Proofs
