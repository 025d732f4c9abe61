import Derived.Test.YtcihhjjmcompkaaGreatDoorDvb
import Derived.Test.YtcihhjjmcompkaaGreatDoorDh1
set_option linter.unusedVariables false
set_option linter.unusedSimpArgs false
namespace Go.Proofs
open Go Go.Sx
variable {mx:Int}{pb:Bool}
def anyR (X:List Rg) (x:Nat):Bool:=X.any fun r=>decide (r.1≤(x:Int))&&decide ((x:Int)≤r.2)
theorem anyR_iff {X:List Rg}{x:Nat}:anyR X x=true↔inR X x:=by simp[anyR,inR]
theorem cnt_or {p q:Nat→Bool}:∀ (l:List Nat),(∀ x∈l,¬(p x=true∧q x=true))→l.countP (fun x=>p x||q x)=l.countP p+l.countP q
 | [],_=>rfl
 | x::l,h=>by
  have ih:=cnt_or (p:=p) (q:=q) l fun y hy=>h y (List.mem_cons_of_mem _ hy)
  have hx:=h x (List.mem_cons_self ..)
  rw[List.countP_cons,List.countP_cons,List.countP_cons,ih]
  cases hp:p x<;>cases hq:q x
  ·simp
  ·simp;omega
  ·simp;omega
  ·exact absurd ⟨hp,hq⟩ hx
theorem cnt_iv (a b:Nat):∀ N,(List.range N).countP (fun x=>decide (a≤x)&&decide (x<b))=min b N - min a N
 | 0=>by simp
 | N+1=>by
  rw[List.range_succ,List.countP_append,cnt_iv a b N,List.countP_cons,List.countP_nil]
  by_cases h1:a≤N<;>by_cases h2:N<b
  ·simp[h1,h2];omega
  ·simp[h1,h2];omega
  ·simp[h1,h2];omega
  ·simp[h1,h2];omega
theorem cnt_rg {r:Rg}(h:0≤r.1∧r.1≤r.2) {N:Nat}(hN:r.2<N):(((List.range N).countP (fun x:Nat=>decide (r.1≤(x:Int))&&decide ((x:Int)≤r.2)):Nat):Int)=r.2 - r.1+1:=by
 have e:(List.range N).countP (fun x:Nat=>decide (r.1≤(x:Int))&&decide ((x:Int)≤r.2))=(List.range N).countP (fun x=>decide (r.1.toNat≤x)&&decide (x<r.2.toNat+1)):=by
  refine List.countP_congr fun x _=>?_
  rw[Bool.and_eq_true,Bool.and_eq_true,decide_eq_true_iff,decide_eq_true_iff,decide_eq_true_iff,decide_eq_true_iff]
  omega
 rw[e,cnt_iv]
 omega
theorem any_take {X:List Rg}{k:Nat}(hk:k<X.length) (x:Nat):anyR (X.take (k+1)) x=(anyR (X.take k) x||(decide ((X.getD k default).1≤(x:Int))&&decide ((x:Int)≤(X.getD k default).2))):=by
 unfold anyR
 rw[take_at hk,List.any_append]
 simp only[List.any_cons,List.any_nil,Bool.or_false]
theorem cnR_any {X:List Rg}(h:Canon X) {N:Nat}(hN:1114111<N):∀ k,k≤X.length→cnR X k=(((List.range N).countP (anyR (X.take k)):Nat):Int)
 | 0,_=>by
  show (0:Int)=_
  rw[List.countP_eq_zero.2 fun x _=>by simp[anyR]]
  rfl
 | k+1,hk=>by
  have hr:=h.ok _ (getD_mem' (show k<X.length by omega))
  have hs:∀ x∈List.range N,¬(anyR (X.take k) x=true∧(decide ((X.getD k default).1≤(x:Int))&&decide ((x:Int)≤(X.getD k default).2))=true):=by
   rintro x _ ⟨h1,h2⟩
   obtain ⟨r,hr,h3,h4⟩:=anyR_iff.1 h1
   obtain ⟨n,hn,rfl⟩:=List.getElem_of_mem hr
   rw[List.length_take] at hn
   have:=List.pairwise_iff_getElem.1 h.sep n k (by omega) (by omega) (by omega)
   rw[List.getElem_take] at h4
   have hg:X.getD k default=X[k]:=by simp[List.getD_eq_getElem?_getD,show k<X.length by omega]
   rw[hg,Bool.and_eq_true,decide_eq_true_iff,decide_eq_true_iff] at h2
   omega
  have e:(List.range N).countP (anyR (X.take (k+1)))=(List.range N).countP (fun x=>anyR (X.take k) x||(decide ((X.getD k default).1≤(x:Int))&&decide ((x:Int)≤(X.getD k default).2))):=List.countP_congr fun x _=>by rw[any_take (by omega)]
  show cnR X k+(_ - _+1)=_
  rw[e,cnt_or _ hs,Int.natCast_add,cnt_rg ⟨hr.1,hr.2.1⟩ (by omega),← cnR_any h hN k (by omega)]
theorem cnR_all {X:List Rg}(h:Canon X) {N:Nat}(hN:1114111<N):cnR X X.length=(((List.range N).countP (anyR X):Nat):Int):=by
 have:=cnR_any h hN X.length (Nat.le_refl _)
 rw[List.take_length] at this
 exact this
def totK (L:List (List Rg)):Nat→Int
 | 0=>0
 | k+1=>totK L k+cnR (L.getD k default) (L.getD k default).length
def anyL (L:List (List Rg)) (x:Nat):Bool:=L.any fun X=>anyR X x
theorem anyL_take {L:List (List Rg)}{k:Nat}(hk:k<L.length) (x:Nat):anyL (L.take (k+1)) x=(anyL (L.take k) x||anyR (L.getD k default) x):=by
 unfold anyL
 rw[take_at hk,List.any_append]
 simp only[List.any_cons,List.any_nil,Bool.or_false]
theorem totK_any {S L:List (List Rg)}(h:Cls S L) {N:Nat}(hN:1114111<N):∀ k,k≤L.length→totK L k=(((List.range N).countP (anyL (L.take k)):Nat):Int)
 | 0,_=>by
  show (0:Int)=_
  rw[List.countP_eq_zero.2 fun x _=>by simp[anyL]]
  rfl
 | k+1,hk=>by
  have hs:∀ x∈List.range N,¬(anyL (L.take k) x=true∧anyR (L.getD k default) x=true):=by
   rintro x _ ⟨h1,h2⟩
   obtain ⟨X,hX,h3⟩:=List.any_eq_true.1 h1
   obtain ⟨n,hn,rfl⟩:=List.getElem_of_mem hX
   rw[List.length_take] at hn
   have:=List.pairwise_iff_getElem.1 h.apart n k (by omega) (by omega) (by omega)
   rw[List.getElem_take] at h3
   have hg:L.getD k default=L[k]:=by simp[List.getD_eq_getElem?_getD,show k<L.length by omega]
   rw[hg] at h2
   exact this x ⟨anyR_iff.1 h3,anyR_iff.1 h2⟩
  have e:(List.range N).countP (anyL (L.take (k+1)))=(List.range N).countP (fun x=>anyL (L.take k) x||anyR (L.getD k default) x):=List.countP_congr fun x _=>by rw[anyL_take (by omega)]
  show totK L k+cnR _ _=_
  rw[e,cnt_or _ hs,Int.natCast_add,← totK_any h hN k (by omega),cnR_all (okS_canon (h.ok _ (getD_mem' (by omega)))) hN]
theorem tot_gen {S L:List (List Rg)}(h:Cls S L) (N:Nat) (hN:N=1114112):totK L L.length=N:=by
 rw[totK_any h (N:=N) (by omega) L.length (Nat.le_refl _),List.take_length]
 have:(List.range N).countP (anyL L)=(List.range N).length:=List.countP_eq_length.2 fun x hx=>by
  obtain ⟨X,hX,hin⟩:=h.cov x ⟨by omega,by have:=List.mem_range.1 hx;omega⟩
  exact List.any_eq_true.2 ⟨X,hX,anyR_iff.2 hin⟩
 rw[this,List.length_range]
theorem tot_all {S L:List (List Rg)}(h:Cls S L):totK L L.length=1114112:=tot_gen h 1114112 rfl
theorem totK_bd {L:List (List Rg)}(h:∀ X∈L,okS X) {m:Nat}(hm:∀ i,i<L.length→(L.getD i default).length≤m):∀ k,k≤L.length→0≤totK L k∧totK L k≤1114112*m*k
 | 0,_=>⟨Int.le_refl _,by show (0:Int)≤_;simp⟩
 | k+1,hk=>by
  obtain ⟨h1,h2⟩:=totK_bd h hm k (by omega)
  obtain ⟨g1,g2⟩:=cnR_bd (okS_canon (h _ (getD_mem' (show k<L.length by omega)))) _ (Nat.le_refl _)
  have:=hm k (by omega)
  have e:(1114112:Int)*((L.getD k default).length:Nat)≤1114112*m:=by omega
  show 0≤totK L k+_∧totK L k+_≤_
  rw[Int.natCast_add,Int.mul_add]
  simp only[Int.natCast_one,Int.mul_one]
  omega
def hitK (L:List (List Rg)) (c:Int):Nat→Int
 | 0=>0
 | k+1=>if hasB (L.getD k default) c=true then hitK L c k+1 else hitK L c k
theorem hitK_y {L:List (List Rg)}{c:Int}{k:Nat}(h:hasB (L.getD k default) c=true):hitK L c (k+1)=hitK L c k+1:=if_pos h
theorem hitK_n {L:List (List Rg)}{c:Int}{k:Nat}(h:¬hasB (L.getD k default) c=true):hitK L c (k+1)=hitK L c k:=if_neg h
theorem hitK_bd (L:List (List Rg)) (c:Int):∀ k,0≤hitK L c k∧hitK L c k≤k
 | 0=>⟨Int.le_refl _,Int.le_refl _⟩
 | k+1=>by
  have:=hitK_bd L c k
  unfold hitK
  split<;>omega
theorem hit_out {L:List (List Rg)}{c:Int}(hc:¬(0≤c∧c≤1114111)):∀ k,hitK L c k=0
 | 0=>rfl
 | k+1=>by
  rw[hitK_n fun h=>hc (hasB_iff.1 h).1]
  exact hit_out hc k
theorem hit_one {S L:List (List Rg)}(h:Cls S L) {c:Int}(hc:0≤c∧c≤1114111):∃ j,j<L.length∧∀ k,k≤L.length→hitK L c k=if j<k then 1 else 0:=by
 obtain ⟨X,hX,hin⟩:=h.cov c hc
 obtain ⟨j,hj,rfl⟩:=List.getElem_of_mem hX
 have hy:hasB (L.getD j default) c=true:=by
  rw[show L.getD j default=L[j] by simp[List.getD_eq_getElem?_getD,hj]]
  exact hasB_iff.2 ⟨hc,hin⟩
 have hn:∀ k,k<L.length→k≠j→¬hasB (L.getD k default) c=true:=by
  intro k hk hne hh
  rw[show L.getD k default=L[k] by simp[List.getD_eq_getElem?_getD,hk]] at hh
  have hh:=(hasB_iff.1 hh).2
  rcases Nat.lt_or_ge k j with h1|h1
  ·exact List.pairwise_iff_getElem.1 h.apart k j hk hj h1 c ⟨hh,hin⟩
  ·exact List.pairwise_iff_getElem.1 h.apart j k hj hk (by omega) c ⟨hin,hh⟩
 refine ⟨j,hj,fun k=>?_⟩
 induction k with
 | zero=>intro _;rfl
 | succ k ih =>
  intro hk
  have ih:=ih (by omega)
  by_cases e:k=j
  ·subst e
   rw[hitK_y hy,ih,if_neg (Nat.lt_irrefl _),if_pos (Nat.lt_succ_self _)]
   rfl
  ·rw[hitK_n (hn k (by omega) e),ih]
   by_cases h1:j<k
   ·rw[if_pos h1,if_pos (by omega)]
   ·rw[if_neg h1,if_neg (by omega)]
def lasK (L:List (List Rg)):Nat→Int
 | 0 => -1
 | k+1=>hdR (L.getD k default)
theorem las_lt {S L:List (List Rg)}(h:Cls S L) {k:Nat}(hk:k<L.length):lasK L k<hdR (L.getD k default):=by
 have g:∀ i (hi:i<L.length),L.getD i default=L[i]:=fun i hi=>by simp[List.getD_eq_getElem?_getD,hi]
 match k,hk with
 | 0,hk =>
  have:=(hd_in (h.ok _ (getD_mem' hk))).1
  show (-1:Int)<_
  omega
 | k+1,hk =>
  have:=List.pairwise_iff_getElem.1 h.asc k (k+1) (by omega) hk (by omega)
  show hdR (L.getD k default)<_
  rw[g k (by omega),g (k+1) hk]
  exact this
end Go.Proofs
