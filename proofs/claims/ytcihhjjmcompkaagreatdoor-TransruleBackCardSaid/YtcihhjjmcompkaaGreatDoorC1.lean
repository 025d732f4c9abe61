import Derived.Test.YtcihhjjmcompkaaGreatDoorBz
import Derived.Test.YtcihhjjmcompkaaGreatDoorP1
import Derived.Test.YtcihhjjmcompkaaGreatDoorE6
set_option linter.unusedVariables false
set_option linter.unusedSimpArgs false
namespace Go.Proofs
open Go Go.Sx
def zgi:D:=.v (.slice none 0 0)
theorem StLe.two {tm tm':List (Nat × D)}{ow ow':List Own}(h1:renT [0,1] tm tm') (h2:renO [0,1] ow [0,1] ow'):StLe 2 ⟨tm,ow,[]⟩ ⟨tm',ow',[]⟩ :=
 zaq [0,1] h1 h2 (by decide) (by decide) (by simp)
theorem zhu {j:Nat}:((j:Int) - 1).toNat=j - 1:=by omega
theorem drop_at {α:Type} [Inhabited α] {l:List α}{k:Nat}(h:k<l.length):l.drop k=l.getD k default::l.drop (k+1):=by
 rw[List.drop_eq_getElem_cons h]
 simp[List.getD_eq_getElem?_getD,h]
theorem take_at {α:Type} [Inhabited α] {l:List α}{k:Nat}(hk:k<l.length):l.take (k+1)=l.take k++[l.getD k default]:=by
 rw[List.take_add_one]
 simp[List.getD_eq_getElem?_getD,hk]
theorem next_at {p:Nat→Prop}{k:Nat}(h:∀ j,j<k→p j) (hk:p k):∀ j,j<k+1→p j:=fun j hj=>by
 by_cases e:j=k
 ·subst e;exact hk
 ·exact h j (by omega)
theorem eq_of_getD {α:Type} [Inhabited α] {l m:List α}(h:l.length=m.length) (hd:∀ j,j<l.length→l.getD j default=m.getD j default):l=m:=by
 refine List.ext_getElem h fun i h1 h2=>?_
 have:=hd i h1
 simpa[List.getD_eq_getElem?_getD,h1,h2] using this
theorem own_appL {α:Type} [Inhabited α] {ρ:List Nat}{e sz:Nat}{enc:α→Nat→D}{l m:List α}:zgh ρ (.row e sz (l.length+m.length) (catF l.length (fun i j=>enc (l.getD i default) j) fun i j=>enc (m.getD i default) j)) (zb3 e sz enc (l++m)):=by
 refine ⟨rfl,rfl,by simp,fun a ha j hj=>Ent.of_eq ?_⟩
 show catF _ _ _ a j=enc ((l++m).getD a default) j
 unfold catF
 by_cases h:a<l.length
 ·rw[if_pos h]
  simp only[List.getD_eq_getElem?_getD]
  rw[List.getElem?_append_left h]
 ·rw[if_neg h]
  simp only[List.getD_eq_getElem?_getD]
  rw[List.getElem?_append_right (by omega)]
def flatL {α:Type}(sz:Nat) (enc:α→Nat→D) (l:List α):List D:=l.flatMap fun a=>(List.range sz).map (enc a)
theorem flatL_get {α:Type} [Inhabited α] {sz:Nat}{enc:α→Nat→D}:∀ {l:List α}{i j:Nat},i<l.length→j<sz→(flatL sz enc l)[i*sz+j]?=some (enc (l.getD i default) j)
 | [],i,j,h,_=>by simp at h
 | a::l,0,j,_,hj=>by
  have:flatL sz enc (a::l)=(List.range sz).map (enc a)++flatL sz enc l:=rfl
  rw[this,List.getElem?_append_left (by simpa using hj)]
  simp[hj]
 | a::l,i+1,j,h,hj=>by
  have ih:=flatL_get (enc:=enc) (l:=l) (i:=i) (j:=j) (by simpa using h) hj
  have:flatL sz enc (a::l)=(List.range sz).map (enc a)++flatL sz enc l:=rfl
  rw[this,List.getElem?_append_right (by simp;rw[Nat.add_mul];omega)]
  have e:(i+1)*sz+j - ((List.range sz).map (enc a)).length=i*sz+j:=by simp;rw[Nat.add_mul];omega
  rw[e,ih]
  rfl
theorem ent_lit {α:Type} [Inhabited α] {sz n:Nat}{enc:α→Nat→D}{cs:List D}{l:List α}(hn:n=l.length) (hc:cs=flatL sz enc l):Ent (.sl sz n fun i j=>(cs[i*sz+j]?).getD .junk) (slD sz enc l):=by
 subst hn hc
 refine Ent.sl rfl fun i hi j hj=>Ent.of_eq ?_
 rw[flatL_get hi hj]
 rfl
end Go.Proofs
namespace Go.Proofs
open Go Go.Sx
variable {mx:Int}{pb:Bool}
def rgD (r:Rg):Nat→D
 | 0=>.v (.int .i64 r.1)
 | 1=>.v (.int .i64 r.2)
 | _=>.junk
def zdu (l:List Rg):D:=slD 2 rgD l
def rgC (a b:Rg):Int:=if cmpI a.1 b.1=0 then cmpI a.2 b.2 else cmpI a.1 b.1
def rgLt (a b:Rg):Bool:=decide (rgC a b<0)
theorem rgLt_iff {a b:Rg}:rgLt a b=true↔a.1<b.1∨(a.1=b.1∧a.2<b.2):=by
 unfold rgLt rgC cmpI
 simp only[decide_eq_true_eq]
 split<;>split<;>(try split)<;>omega
theorem rgLt_no {a b:Rg}:rgLt a b=false↔b.1<a.1∨(a.1=b.1∧b.2≤a.2):=by
 rw[← Bool.not_eq_true,rgLt_iff];omega
end Go.Proofs
namespace Go.Proofs
open Go Go.Sx
variable {mx:Int}{pb:Bool}
def zge (l:List Rg):Nat→List Rg
 | 0=>[]
 | k+1=>if (zha (l.getD k default)).1≤(zha (l.getD k default)).2 then zge l k++[zha (l.getD k default)] else zge l k
theorem clipK_len (l:List Rg):∀ k,(zge l k).length≤k
 | 0=>by simp[zge]
 | k+1=>by
  have:=clipK_len l k
  simp only[zge]
  split
  ·simp;omega
  ·omega
theorem clipK_ok (l:List Rg):∀ k,∀ r∈zge l k,0≤r.1∧r.1≤r.2∧r.2≤1114111
 | 0,r,h=>by simp[zge] at h
 | k+1,r,h=>by
  simp only[zge] at h
  split at h
  ·rename_i h1
   rcases List.mem_append.1 h with h|h
   ·exact clipK_ok l k r h
   ·rw[List.mem_singleton.1 h];simp only[zha] at h1 ⊢;omega
  ·exact clipK_ok l k r h
theorem clipK_mem (l:List Rg) (c:Int):∀ k,k≤l.length→(inR (zge l k) c↔(0≤c∧c≤1114111)∧inR (l.take k) c)
 | 0,_=>by simp[zge,inR]
 | k+1,hk=>by
  have ih:=clipK_mem l c k (by omega)
  have e:l.take (k+1)=l.take k++[l.getD k default]:=by
   rw[List.take_add_one]
   simp[List.getD_eq_getElem?_getD,show k<l.length by omega]
  rw[e,zcb,zb9]
  simp only[zge,zfo,or_false]
  split
  ·rename_i h1
   rw[zcb,ih,zb9]
   simp only[zfo,or_false,zha]
   constructor
   ·rintro (h|h)
    ·exact ⟨h.1,.inl h.2⟩
    ·exact ⟨by omega,.inr (by omega)⟩
   ·rintro ⟨h,h2|h2⟩
    ·exact .inl ⟨h,h2⟩
    ·exact .inr (by omega)
  ·rename_i h1
   rw[ih]
   simp only[zha] at h1
   constructor
   ·rintro ⟨h,h2⟩;exact ⟨h,.inl h2⟩
   ·rintro ⟨h,h2|h2⟩
    ·exact ⟨h,h2⟩
    ·exfalso;omega
structure MrgInv (P:List Rg) (k:Nat) (out:List Rg):Prop where
 canon:Canon out
 mem:∀ c,inR out c↔inR (P.take k) c
 lo:∀ r∈out,∀ j,k≤j→j<P.length→r.1≤(P.getD j default).1
theorem take_snoc {P:List Rg}{k:Nat}(hk:k<P.length):P.take (k+1)=P.take k++[P.getD k default]:=by
 rw[List.take_add_one]
 simp[List.getD_eq_getElem?_getD,hk]
theorem mrg_app {P out:List Rg}{k:Nat}(h:MrgInv P k out) (hk:k<P.length) (hok:∀ r∈P,0≤r.1∧r.1≤r.2∧r.2≤1114111) (hs:∀ p q,p<q→q<P.length→(P.getD p default).1≤(P.getD q default).1)
  (hc:¬(out.length>0∧(P.getD k default).1≤(out.getD (out.length - 1) default).2+1)):MrgInv P (k+1) (out++[P.getD k default]):=by
 have hr:=hok _ (zd5 hk)
 refine ⟨Canon.snoc h.canon hr fun t ht=>?_,fun c=>?_,fun r hr' j hj hjl=>?_⟩
 ·have hpos:0<out.length:=List.length_pos_of_mem ht
  have hlast:(out.getD (out.length - 1) default).2+1<(P.getD k default).1:=by
   rcases Int.lt_or_le ((out.getD (out.length - 1) default).2+1) ((P.getD k default).1) with h1|h1
   ·exact h1
   ·exact absurd ⟨hpos,h1⟩ hc
  obtain ⟨i,hi,rfl⟩:=List.getElem_of_mem ht
  rcases Nat.lt_or_ge i (out.length - 1) with h1|h1
  ·have h2:=List.pairwise_iff_getElem.1 h.canon.sep i (out.length - 1) hi (by omega) h1
   have h3:=h.canon.ok _ (List.getElem_mem (show out.length - 1<out.length by omega))
   have e:out.getD (out.length - 1) default=out[out.length - 1]'(by omega):=by simp[List.getD_eq_getElem?_getD,show out.length - 1<out.length by omega]
   rw[e] at hlast
   omega
  ·have e:out.getD (out.length - 1) default=out[i]:=by
    have:i=out.length - 1:=by omega
    subst this
    simp[List.getD_eq_getElem?_getD,hi]
   rw[e] at hlast
   exact hlast
 ·rw[zcb,h.mem c,take_snoc hk,zcb]
 ·rcases List.mem_append.1 hr' with h1|h1
  ·exact h.lo r h1 j (by omega) hjl
  ·rw[List.mem_singleton.1 h1];exact hs k j (by omega) hjl
theorem mrg_set {P out:List Rg}{k:Nat}(h:MrgInv P k out) (hk:k<P.length) (hok:∀ r∈P,0≤r.1∧r.1≤r.2∧r.2≤1114111)
  (hpos:0<out.length) (hc:(P.getD k default).1≤(out.getD (out.length - 1) default).2+1):
  MrgInv P (k+1) (out.set (out.length - 1) ((out.getD (out.length - 1) default).1,max (out.getD (out.length - 1) default).2 (P.getD k default).2)):=by
 obtain ⟨init,x,rfl⟩:∃ init x,out=init++[x]:=⟨out.dropLast,out.getLast (by intro e;simp[e] at hpos),(List.dropLast_concat_getLast _).symm⟩
 have ex:(init++[x]).getD ((init++[x]).length - 1) default=x:=by simp[List.getD_eq_getElem?_getD]
 rw[ex] at hc ⊢
 have es:(init++[x]).set ((init++[x]).length - 1) (x.1,max x.2 (P.getD k default).2)=init++[(x.1,max x.2 (P.getD k default).2)]:=by simp[List.set_append_right]
 rw[es]
 have hr:=hok _ (zd5 hk)
 have hx:=h.canon.ok x (by simp)
 have hp:=List.pairwise_append.1 h.canon.sep
 have hlo:=h.lo x (by simp) k (Nat.le_refl _) hk
 refine ⟨Canon.snoc ⟨fun t ht=>h.canon.ok t (by simp[ht]),hp.1⟩ (by simp only;omega) (fun t ht=>hp.2.2 t ht x (by simp)),fun c=>?_,fun r hr' j hj hjl=>?_⟩
 ·have hm:=h.mem c
  rw[zcb] at hm
  rw[take_snoc hk,zcb,zcb,← hm,zb9,zb9,zb9]
  simp only[zfo,or_false,or_assoc]
  refine or_congr_right ?_
  omega
 ·rcases List.mem_append.1 hr' with h1|h1
  ·exact h.lo r (by simp[h1]) j (by omega) hjl
  ·rw[List.mem_singleton.1 h1];exact h.lo x (by simp) j (by omega) hjl
theorem inR_perm {l m:List Rg}(h:l.Perm m) (c:Int):inR l c↔inR m c:=by
 unfold inR
 constructor
 ·rintro ⟨r,hr,h1⟩;exact ⟨r,h.mem_iff.1 hr,h1⟩
 ·rintro ⟨r,hr,h1⟩;exact ⟨r,h.mem_iff.2 hr,h1⟩
end Go.Proofs
