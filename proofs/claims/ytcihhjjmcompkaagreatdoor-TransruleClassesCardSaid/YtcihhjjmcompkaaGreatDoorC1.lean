import Derived.Test.YtcihhjjmcompkaaGreatDoorBz
import Derived.Test.YtcihhjjmcompkaaGreatDoorP1
import Derived.Test.YtcihhjjmcompkaaGreatDoorE6
set_option linter.unusedVariables false
set_option linter.unusedSimpArgs false
namespace Go.Proofs
open Go Go.Sx
theorem own_swap {α:Type} [Inhabited α] {ρ:List Nat}{e sz:Nat}{enc:α→Nat→D}{X:List α}{a b:Nat}{c1 c2:List D}(hab:a=b+1) (ha:a<X.length)
  (h1:∀ j,j<sz→c1[j]?=some (enc (X.getD b default) j)) (h2:∀ j,j<sz→c2[j]?=some (enc (X.getD a default) j)):
  OwnRen ρ (.row e sz X.length (updF (updF (fun i j=>enc (X.getD i default) j) a 0 c1) b 0 c2)) (rowL e sz enc (swp X b)):=by
 refine ⟨rfl,rfl,swp_length.symm,fun i hi j hj=>?_⟩
 show Ent _ (enc ((swp X b).getD i default) j)
 rw[swp_getD (by omega)]
 unfold updF
 simp only[Nat.zero_le,if_true,Nat.sub_zero,h1 j hj,h2 j hj]
 by_cases hb:i=b
 ·simp only[hb,if_true];subst hab;exact Ent.refl _
 ·by_cases h3:i=b+1
  ·have e1:i=a:=by omega
   rw[if_neg hb,if_neg hb,if_pos e1,if_pos h3];exact Ent.refl _
  ·have e1:¬i=a:=by omega
   rw[if_neg hb,if_neg hb,if_neg e1,if_neg h3];exact Ent.refl _
def nilV:D:=.v (.slice none 0 0)
theorem StLe.two {tm tm':List (Nat × D)}{ow ow':List Own}(h1:renT [0,1] tm tm') (h2:renO [0,1] ow [0,1] ow'):StLe 2 ⟨tm,ow,[]⟩ ⟨tm',ow',[]⟩ :=
 StLe.renm [0,1] h1 h2 (by decide) (by decide) (by simp)
theorem toNat_pred {j:Nat}:((j:Int) - 1).toNat=j - 1:=by omega
theorem StLe.three {tm tm':List (Nat × D)}{ow ow':List Own}(h1:renT [0,1,2] tm tm') (h2:renO [0,1,2] ow [0,1,2] ow'):StLe 3 ⟨tm,ow,[]⟩ ⟨tm',ow',[]⟩ :=
 StLe.renm [0,1,2] h1 h2 (by decide) (by decide) (by simp)
theorem own_app2 {α:Type} [Inhabited α] {ρ:List Nat}{e sz:Nat}{enc:α→Nat→D}{l:List α}{x y:α}{g1 g2:Nat→Nat→D}(h1:∀ j,j<sz→Ent (g1 0 j) (enc x j)) (h2:∀ j,j<sz→Ent (g2 0 j) (enc y j)):
  OwnRen ρ (.row e sz (l.length+1+1) (catF (l.length+1) (catF l.length (fun i j=>enc (l.getD i default) j) g1) g2)) (rowL e sz enc (l++[x]++[y])):=by
 refine ⟨rfl,rfl,by simp,fun a ha j hj=>?_⟩
 show Ent _ (enc ((l++[x]++[y]).getD a default) j)
 rw[getD_snoc,List.length_append,List.length_singleton]
 unfold catF
 by_cases h3:a<l.length+1
 ·rw[if_pos h3,if_pos h3,getD_snoc]
  by_cases h4:a<l.length
  ·rw[if_pos h4,if_pos h4];exact Ent.refl _
  ·have:a=l.length:=by omega
   subst this
   rw[if_neg h4,if_neg h4,if_pos rfl,Nat.sub_self];exact h1 j hj
 ·have:a=l.length+1:=by omega
  subst this
  rw[if_neg h3,if_neg h3,if_pos rfl,Nat.sub_self];exact h2 j hj
theorem ent_app {α:Type} [Inhabited α] {sz:Nat}{enc:α→Nat→D}{l:List α}{x:α}{g:Nat→Nat→D}(hg:∀ j,j<sz→Ent (g 0 j) (enc x j)):Ent (.sl sz (l.length+1) (catF l.length (fun i j=>enc (l.getD i default) j) g)) (slD sz enc (l++[x])):=by
 obtain ⟨_,_,h1,h2⟩:=own_app (ρ:=[]) (e:=0) (l:=l) (x:=x) hg
 exact Ent.sl h1 h2
theorem drop_at {α:Type} [Inhabited α] {l:List α}{k:Nat}(h:k<l.length):l.drop k=l.getD k default::l.drop (k+1):=by
 rw[List.drop_eq_getElem_cons h]
 simp[List.getD_eq_getElem?_getD,h]
theorem take_at {α:Type} [Inhabited α] {l:List α}{k:Nat}(hk:k<l.length):l.take (k+1)=l.take k++[l.getD k default]:=by
 rw[List.take_add_one]
 simp[List.getD_eq_getElem?_getD,hk]
theorem bif_dec {p q:Prop} [Decidable p] [Decidable q]:(bif decide p then decide q else false)=true↔p∧q:=by
 by_cases h:p<;>simp[h]
theorem bif_no {p q:Prop} [Decidable p] [Decidable q]:(bif decide p then decide q else false)=false↔¬(p∧q):=by
 by_cases h:p<;>simp[h]
theorem next_at {p:Nat→Prop}{k:Nat}(h:∀ j,j<k→p j) (hk:p k):∀ j,j<k+1→p j:=fun j hj=>by
 by_cases e:j=k
 ·subst e;exact hk
 ·exact h j (by omega)
theorem eq_of_getD {α:Type} [Inhabited α] {l m:List α}(h:l.length=m.length) (hd:∀ j,j<l.length→l.getD j default=m.getD j default):l=m:=by
 refine List.ext_getElem h fun i h1 h2=>?_
 have:=hd i h1
 simpa[List.getD_eq_getElem?_getD,h1,h2] using this
theorem own_appL {α:Type} [Inhabited α] {ρ:List Nat}{e sz:Nat}{enc:α→Nat→D}{l m:List α}:OwnRen ρ (.row e sz (l.length+m.length) (catF l.length (fun i j=>enc (l.getD i default) j) fun i j=>enc (m.getD i default) j)) (rowL e sz enc (l++m)):=by
 refine ⟨rfl,rfl,by simp,fun a ha j hj=>Ent.of_eq ?_⟩
 show catF _ _ _ a j=enc ((l++m).getD a default) j
 unfold catF
 by_cases h:a<l.length
 ·rw[if_pos h]
  simp only[List.getD_eq_getElem?_getD]
  rw[List.getElem?_append_left h]
 ·rw[if_neg h]
  simp only[List.getD_eq_getElem?_getD]
  rw[List.getElem?_append_right (by omega)]
def flatL {α:Type}(sz:Nat) (enc:α→Nat→D) (l:List α):List D:=l.flatMap fun a=>(List.range sz).map (enc a)
theorem flatL_get {α:Type} [Inhabited α] {sz:Nat}{enc:α→Nat→D}:∀ {l:List α}{i j:Nat},i<l.length→j<sz→(flatL sz enc l)[i*sz+j]?=some (enc (l.getD i default) j)
 | [],i,j,h,_=>by simp at h
 | a::l,0,j,_,hj=>by
  have:flatL sz enc (a::l)=(List.range sz).map (enc a)++flatL sz enc l:=rfl
  rw[this,List.getElem?_append_left (by simpa using hj)]
  simp[hj]
 | a::l,i+1,j,h,hj=>by
  have ih:=flatL_get (enc:=enc) (l:=l) (i:=i) (j:=j) (by simpa using h) hj
  have:flatL sz enc (a::l)=(List.range sz).map (enc a)++flatL sz enc l:=rfl
  rw[this,List.getElem?_append_right (by simp;rw[Nat.add_mul];omega)]
  have e:(i+1)*sz+j - ((List.range sz).map (enc a)).length=i*sz+j:=by simp;rw[Nat.add_mul];omega
  rw[e,ih]
  rfl
theorem ent_lit {α:Type} [Inhabited α] {sz n:Nat}{enc:α→Nat→D}{cs:List D}{l:List α}(hn:n=l.length) (hc:cs=flatL sz enc l):Ent (.sl sz n fun i j=>(cs[i*sz+j]?).getD .junk) (slD sz enc l):=by
 subst hn hc
 refine Ent.sl rfl fun i hi j hj=>Ent.of_eq ?_
 rw[flatL_get hi hj]
 rfl
end Go.Proofs
namespace Go.Proofs
open Go Go.Sx
variable {mx:Int}{pb:Bool}
def rgD (r:Rg):Nat→D
 | 0=>.v (.int .i64 r.1)
 | 1=>.v (.int .i64 r.2)
 | _=>.junk
def rgA (r:Rg):D:=.ag [rgD r 0,rgD r 1]
def rgsD (l:List Rg):D:=slD 2 rgD l
def rgC (a b:Rg):Int:=if cmpI a.1 b.1=0 then cmpI a.2 b.2 else cmpI a.1 b.1
def rgLt (a b:Rg):Bool:=decide (rgC a b<0)
theorem rgLt_iff {a b:Rg}:rgLt a b=true↔a.1<b.1∨(a.1=b.1∧a.2<b.2):=by
 unfold rgLt rgC cmpI
 simp only[decide_eq_true_eq]
 split<;>split<;>(try split)<;>omega
theorem rgLt_no {a b:Rg}:rgLt a b=false↔b.1<a.1∨(a.1=b.1∧b.2≤a.2):=by
 rw[← Bool.not_eq_true,rgLt_iff];omega
def ctRgC:Ct:={ ι:=Rg × Rg,inp:=fun x=>[rgA x.1,rgA x.2],out:=fun x=>.v (.int .i64 (rgC x.1 x.2)),pre:=fun _=>True }
theorem rgC_ok:Sound Tryz.prog (GlT mx pb) 94 ctRgC:=by
 refine sound_by (cc:=false) Γm1_ok Tryz.T_ok Tryz.mixed Tryz.func94 rfl (by kernel_rfl) (fun _=>rfl) (fun _ _=>by show 2≤17;decide) ?_
 intro ((a:Rg),(b:Rg)) _
 refine gA ?_
 refine ⟨(a.1,b.1),EntL.refl _,fun _=>trivial,?_⟩
 refine gA ?_
 refine ⟨(a.2,b.2),EntL.refl _,fun _=>trivial,?_⟩
 refine gA ?_
 refine ⟨(cmpI a.1 b.1,cmpI a.2 b.2),EntL.refl _,fun _=>trivial,?_⟩
 refine gA ?_
 exact EntR.int rfl
end Go.Proofs
namespace Go.Proofs
open Go Go.Sx
variable {mx:Int}{pb:Bool}
def clipK (l:List Rg):Nat→List Rg
 | 0=>[]
 | k+1=>if (clipR (l.getD k default)).1≤(clipR (l.getD k default)).2 then clipK l k++[clipR (l.getD k default)] else clipK l k
theorem clipK_len (l:List Rg):∀ k,(clipK l k).length≤k
 | 0=>by simp[clipK]
 | k+1=>by
  have:=clipK_len l k
  simp only[clipK]
  split
  ·simp;omega
  ·omega
theorem clipK_ok (l:List Rg):∀ k,∀ r∈clipK l k,0≤r.1∧r.1≤r.2∧r.2≤1114111
 | 0,r,h=>by simp[clipK] at h
 | k+1,r,h=>by
  simp only[clipK] at h
  split at h
  ·rename_i h1
   rcases List.mem_append.1 h with h|h
   ·exact clipK_ok l k r h
   ·rw[List.mem_singleton.1 h];simp only[clipR] at h1 ⊢;omega
  ·exact clipK_ok l k r h
theorem clipK_mem (l:List Rg) (c:Int):∀ k,k≤l.length→(inR (clipK l k) c↔(0≤c∧c≤1114111)∧inR (l.take k) c)
 | 0,_=>by simp[clipK,inR]
 | k+1,hk=>by
  have ih:=clipK_mem l c k (by omega)
  have e:l.take (k+1)=l.take k++[l.getD k default]:=by
   rw[List.take_add_one]
   simp[List.getD_eq_getElem?_getD,show k<l.length by omega]
  rw[e,inR_append,inR_cons]
  simp only[clipK,inR_nil,or_false]
  split
  ·rename_i h1
   rw[inR_append,ih,inR_cons]
   simp only[inR_nil,or_false,clipR]
   constructor
   ·rintro (h|h)
    ·exact ⟨h.1,.inl h.2⟩
    ·exact ⟨by omega,.inr (by omega)⟩
   ·rintro ⟨h,h2|h2⟩
    ·exact .inl ⟨h,h2⟩
    ·exact .inr (by omega)
  ·rename_i h1
   rw[ih]
   simp only[clipR] at h1
   constructor
   ·rintro ⟨h,h2⟩;exact ⟨h,.inl h2⟩
   ·rintro ⟨h,h2|h2⟩
    ·exact ⟨h,h2⟩
    ·exfalso;omega
structure MrgInv (P:List Rg) (k:Nat) (out:List Rg):Prop where
 canon:Canon out
 mem:∀ c,inR out c↔inR (P.take k) c
 lo:∀ r∈out,∀ j,k≤j→j<P.length→r.1≤(P.getD j default).1
theorem take_snoc {P:List Rg}{k:Nat}(hk:k<P.length):P.take (k+1)=P.take k++[P.getD k default]:=by
 rw[List.take_add_one]
 simp[List.getD_eq_getElem?_getD,hk]
theorem mrg_app {P out:List Rg}{k:Nat}(h:MrgInv P k out) (hk:k<P.length) (hok:∀ r∈P,0≤r.1∧r.1≤r.2∧r.2≤1114111) (hs:∀ p q,p<q→q<P.length→(P.getD p default).1≤(P.getD q default).1)
  (hc:¬(out.length>0∧(P.getD k default).1≤(out.getD (out.length - 1) default).2+1)):MrgInv P (k+1) (out++[P.getD k default]):=by
 have hr:=hok _ (getD_mem hk)
 refine ⟨Canon.snoc h.canon hr fun t ht=>?_,fun c=>?_,fun r hr' j hj hjl=>?_⟩
 ·have hpos:0<out.length:=List.length_pos_of_mem ht
  have hlast:(out.getD (out.length - 1) default).2+1<(P.getD k default).1:=by
   rcases Int.lt_or_le ((out.getD (out.length - 1) default).2+1) ((P.getD k default).1) with h1|h1
   ·exact h1
   ·exact absurd ⟨hpos,h1⟩ hc
  obtain ⟨i,hi,rfl⟩:=List.getElem_of_mem ht
  rcases Nat.lt_or_ge i (out.length - 1) with h1|h1
  ·have h2:=List.pairwise_iff_getElem.1 h.canon.sep i (out.length - 1) hi (by omega) h1
   have h3:=h.canon.ok _ (List.getElem_mem (show out.length - 1<out.length by omega))
   have e:out.getD (out.length - 1) default=out[out.length - 1]'(by omega):=by simp[List.getD_eq_getElem?_getD,show out.length - 1<out.length by omega]
   rw[e] at hlast
   omega
  ·have e:out.getD (out.length - 1) default=out[i]:=by
    have:i=out.length - 1:=by omega
    subst this
    simp[List.getD_eq_getElem?_getD,hi]
   rw[e] at hlast
   exact hlast
 ·rw[inR_append,h.mem c,take_snoc hk,inR_append]
 ·rcases List.mem_append.1 hr' with h1|h1
  ·exact h.lo r h1 j (by omega) hjl
  ·rw[List.mem_singleton.1 h1];exact hs k j (by omega) hjl
theorem mrg_set {P out:List Rg}{k:Nat}(h:MrgInv P k out) (hk:k<P.length) (hok:∀ r∈P,0≤r.1∧r.1≤r.2∧r.2≤1114111)
  (hpos:0<out.length) (hc:(P.getD k default).1≤(out.getD (out.length - 1) default).2+1):
  MrgInv P (k+1) (out.set (out.length - 1) ((out.getD (out.length - 1) default).1,max (out.getD (out.length - 1) default).2 (P.getD k default).2)):=by
 obtain ⟨init,x,rfl⟩:∃ init x,out=init++[x]:=⟨out.dropLast,out.getLast (by intro e;simp[e] at hpos),(List.dropLast_concat_getLast _).symm⟩
 have ex:(init++[x]).getD ((init++[x]).length - 1) default=x:=by simp[List.getD_eq_getElem?_getD]
 rw[ex] at hc ⊢
 have es:(init++[x]).set ((init++[x]).length - 1) (x.1,max x.2 (P.getD k default).2)=init++[(x.1,max x.2 (P.getD k default).2)]:=by simp[List.set_append_right]
 rw[es]
 have hr:=hok _ (getD_mem hk)
 have hx:=h.canon.ok x (by simp)
 have hp:=List.pairwise_append.1 h.canon.sep
 have hlo:=h.lo x (by simp) k (Nat.le_refl _) hk
 refine ⟨Canon.snoc ⟨fun t ht=>h.canon.ok t (by simp[ht]),hp.1⟩ (by simp only;omega) (fun t ht=>hp.2.2 t ht x (by simp)),fun c=>?_,fun r hr' j hj hjl=>?_⟩
 ·have hm:=h.mem c
  rw[inR_append] at hm
  rw[take_snoc hk,inR_append,inR_append,← hm,inR_cons,inR_cons,inR_cons]
  simp only[inR_nil,or_false,or_assoc]
  refine or_congr_right ?_
  omega
 ·rcases List.mem_append.1 hr' with h1|h1
  ·exact h.lo r (by simp[h1]) j (by omega) hjl
  ·rw[List.mem_singleton.1 h1];exact h.lo x (by simp) j (by omega) hjl
theorem rgLt_asym:∀ x y,rgLt x y=true→rgLt y x=false:=fun x y h=>by rw[rgLt_iff] at h;rw[rgLt_no];omega
theorem rgLt_tr:∀ x y z,rgLt y x=false→rgLt z y=false→rgLt z x=false:=fun x y z h1 h2=>by rw[rgLt_no] at h1 h2 ⊢;omega
theorem sorted_ok {L:List Rg}:AscTo rgLt (outerS rgLt L (L.length - 1)) L.length:=by
 rcases Nat.eq_zero_or_pos L.length with h|h
 ·intro p q h1 h2;omega
 ·have:=outerS_asc rgLt_asym rgLt_tr (L:=L) (k:=L.length - 1) (by omega)
  rw[show L.length - 1+1=L.length by omega] at this
  exact this
theorem sorted_perm {L:List Rg}:(outerS rgLt L (L.length - 1)).Perm L:=by
 rcases Nat.eq_zero_or_pos L.length with h|h
 ·rw[h];exact List.Perm.refl _
 ·exact outerS_perm rgLt (by omega)
theorem inR_perm {l m:List Rg}(h:l.Perm m) (c:Int):inR l c↔inR m c:=by
 unfold inR
 constructor
 ·rintro ⟨r,hr,h1⟩;exact ⟨r,h.mem_iff.1 hr,h1⟩
 ·rintro ⟨r,hr,h1⟩;exact ⟨r,h.mem_iff.2 hr,h1⟩
theorem mrg_done {l out:List Rg}(h:MrgInv (outerS rgLt (clipK l l.length) ((clipK l l.length).length - 1)) (clipK l l.length).length out):out=canon l:=by
 refine canon_of h.canon fun c=>?_
 rw[h.mem c]
 have e:((outerS rgLt (clipK l l.length) ((clipK l l.length).length - 1)).take (clipK l l.length).length)=outerS rgLt (clipK l l.length) ((clipK l l.length).length - 1):=List.take_of_length_le (by rw[outerS_length];exact Nat.le_refl _)
 rw[e,inR_perm sorted_perm,clipK_mem l c _ (Nat.le_refl _),List.take_length]
theorem clipK_asc {l:List Rg}(hok:∀ r∈l,0≤r.1∧r.2≤1114111) (h:AscTo rgLt l l.length):∀ k,k≤l.length→AscTo rgLt (clipK l k) (clipK l k).length∧∀ r∈clipK l k,∀ j,k≤j→j<l.length→rgLt (clipR (l.getD j default)) r=false
 | 0,_=>⟨fun p q h1 h2=>by simp[clipK] at h2,fun r hr=>by simp[clipK] at hr⟩
 | k+1,hk=>by
  obtain ⟨ih1,ih2⟩:=clipK_asc hok h k (by omega)
  have step:∀ j,k+1≤j→j<l.length→rgLt (clipR (l.getD j default)) (clipR (l.getD k default))=false:=by
   intro j hj hjl
   have:=h k j (by omega) hjl
   have:=hok _ (getD_mem hjl)
   have:=hok _ (getD_mem (show k<l.length by omega))
   rw[rgLt_no] at *
   simp only[clipR]
   omega
  simp only[clipK]
  split
  ·refine ⟨fun p q hpq hq=>?_,fun r hr j hj hjl=>?_⟩
   ·simp only[List.length_append,List.length_singleton] at hq
    rw[getD_snoc,getD_snoc]
    rcases Nat.lt_or_ge q (clipK l k).length with h1|h1
    ·rw[if_pos h1,if_pos (by omega)];exact ih1 p q hpq h1
    ·have:q=(clipK l k).length:=by omega
     subst this
     rw[if_neg (by omega),if_pos rfl,if_pos hpq]
     exact ih2 _ (getD_mem hpq) k (Nat.le_refl _) (by omega)
   ·rcases List.mem_append.1 hr with h1|h1
    ·exact ih2 r h1 j (by omega) hjl
    ·rw[List.mem_singleton.1 h1];exact step j hj hjl
  ·exact ⟨ih1,fun r hr j hj hjl=>ih2 r hr j (by omega) hjl⟩
end Go.Proofs
