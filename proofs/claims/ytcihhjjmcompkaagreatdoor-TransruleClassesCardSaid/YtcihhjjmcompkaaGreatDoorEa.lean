import Derived.Test.YtcihhjjmcompkaaGreatDoorE6
set_option linter.unusedVariables false
set_option linter.unusedSimpArgs false
namespace Go.Sx
open Go Go.RowKit
theorem fits_below {M:Mem}{w w':World}(h:M.fits w) (hb:Below w.heap.size w w'):M.fits w':=by
 intro b o hbo
 have hf:=h b o hbo
 obtain ⟨y,hy⟩:=hf.some
 have hlt:b<w.heap.size:=(Array.getElem?_eq_some_iff.1 hy).1
 rw[hb.block b hlt]
 exact hf
theorem sound_calls {P:Program}{Gl:Nat→Option D}{f:FuncId}{ct:Ct}{fn:Func}(hf:P.funcs[f]?=some fn) (hname:(fn.name == "runtime.NumGoroutine")=false) (hbody:fn.body.isNone=false) (hpd:∀ x,pdL (ct.inp x)=true)
  (h:∀ x,ct.pre x→∀ (M:Mem) (w:World) (us:Array Value),M.fits w→GlOk M Gl→RepL M [] (ct.inp x) us.toList →
   Calls P f us w fun e w'=>∃ v,e=.returned v∧Rep M [] (ct.out x) v∧Below w.heap.size w w'):Sound P Gl f ct:=by
 refine ⟨⟨fn,hf,hname,hbody⟩,hpd,fun x hx M w us hfit hG hr n=>callsIn_wide.2 ((h x hx M w us hfit hG hr).mono ?_)⟩
 rintro e w' ⟨v,rfl,hv,hb⟩
 exact ⟨M,v,rfl,Mem.le_refl _,fun b o hbo=>.inl hbo,fits_below hfit hb,hv,hb⟩
theorem gl_cell {M:Mem}{w:World}{Gl:Nat→Option D}{g:Nat}{v:Value}(hfit:M.fits w) (hG:GlOk M Gl) (hg:Gl g=some (.pt 1 fun _=>.v v)):w.cell? ⟨g,0,none⟩=some v:=by
 have h:=hG g _ hg
 simp only[Rep] at h
 obtain ⟨ad,h5,h6⟩:=h
 obtain ⟨x,h7,_,h8⟩:=h6 0 (by omega)
 simp at h5;subst h5
 rw[h8] at h7
 exact Mem.cell_fits hfit h7
theorem two_vals {M:Mem}{E:List Value}{x y:Value}{us:Array Value}(h:RepL M E [.v x,.v y] us.toList):us = #[x,y]:=by
 simp only[RepL,Rep] at h
 obtain ⟨u,r,h1,rfl,v,r',rfl,rfl,rfl⟩:=h
 apply Array.ext';simpa using h1
end Go.Sx
namespace Go.Sx
open Go Go.RowKit
class BoolIs (c:Bool) (p n:outParam Prop):Prop where
 t:c=true→p
 f:c=false→n
 x:p→n→False
instance (priority:=low) boolIsV {c:Bool}:BoolIs c (c=true) (c=false):=⟨id,id,fun a b=>by rw[a] at b;exact Bool.noConfusion b⟩
instance boolIsD {p:Prop}{d:Decidable p}:BoolIs (@decide p d) p (¬p):=⟨of_decide_eq_true,of_decide_eq_false,fun a b=>b a⟩
instance boolIsE {a b:Int}:BoolIs (a==b) (a=b) (¬a=b):=⟨fun h=>by simpa using h,fun h=>by simpa using h,fun a b=>b a⟩
instance boolIsN {a b:Int}:BoolIs (a != b) (¬a=b) (a=b):=⟨fun h=>by simpa using h,fun h=>by simpa using h,fun a b=>a b⟩
instance boolIsNot {c:Bool}{p n:Prop} [h:BoolIs c p n]:BoolIs (!c) n p:=⟨fun e=>h.f (by simpa using e),fun e=>h.t (by simpa using e),fun a b=>h.x b a⟩
instance boolIsAnd {c d:Bool}{p n q m:Prop} [h:BoolIs c p n] [k:BoolIs d q m]:BoolIs (c&&d) (p∧q) (n∨m):=⟨fun e=>by simp at e;exact ⟨h.t e.1,k.t e.2⟩,fun e=>by
 cases hc:c
 ·exact .inl (h.f hc)
 ·rw[hc] at e;exact .inr (k.f (by simpa using e)),fun a b=>b.elim (h.x a.1) (k.x a.2)⟩
instance boolIsOr {c d:Bool}{p n q m:Prop} [h:BoolIs c p n] [k:BoolIs d q m]:BoolIs (c||d) (p∨q) (n∧m):=⟨fun e=>by
 cases hc:c
 ·rw[hc] at e;exact .inr (k.t (by simpa using e))
 ·exact .inl (h.t hc),fun e=>by simp at e;exact ⟨h.f e.1,k.f e.2⟩,fun a b=>a.elim (fun a=>h.x a b.1) (fun a=>k.x a b.2)⟩
theorem br {c:Bool}{p n x y:Prop} [h:BoolIs c p n] (a:p→x) (b:n→y):(c=true→x)∧(c=false→y):=⟨fun e=>a (h.t e),fun e=>b (h.f e)⟩
theorem brF {c:Bool}{p n x y:Prop} [h:BoolIs c p n] (a:n→x) (b:p→y):(c=false→x)∧(c=true→y):=⟨fun e=>a (h.f e),fun e=>b (h.t e)⟩
theorem bt1 {c:Bool}{p n x y:Prop} [h:BoolIs c p n] (a:x) (e:p:=by first|assumption|omega):(c=true→x)∧(c=false→y):=⟨fun _=>a,fun f=>(h.x e (h.f f)).elim⟩
theorem bt0 {c:Bool}{p n x y:Prop} [h:BoolIs c p n] (a:x) (e:p:=by with_reducible exact Eq.refl _):(c=true→x)∧(c=false→y):=⟨fun _=>a,fun f=>(h.x e (h.f f)).elim⟩
theorem bt2 {c:Bool}{p n x y:Prop} [h:BoolIs c p n] (b:y) (e:n:=by first|assumption|omega):(c=true→x)∧(c=false→y):=⟨fun f=>(h.x (h.t f) e).elim,fun _=>b⟩
theorem bt3 {c:Bool}{p n x y:Prop} [h:BoolIs c p n] (a:x) (e:n:=by first|assumption|omega):(c=false→x)∧(c=true→y):=⟨fun _=>a,fun f=>(h.x (h.t f) e).elim⟩
theorem bt4 {c:Bool}{p n x y:Prop} [h:BoolIs c p n] (b:y) (e:p:=by first|assumption|omega):(c=false→x)∧(c=true→y):=⟨fun f=>(h.x e (h.f f)).elim,fun _=>b⟩
theorem mem_getD {α:Type} [Inhabited α] {l:List α}{k:Nat}(h:k<l.length):l.getD k default∈l:=by
 have e:l.getD k default=l[k]:=by simp[List.getD_eq_getElem?_getD,h]
 rw[e]
 exact List.getElem_mem h
theorem lit_size (l:List UInt8):(ByteArray.mk l.toArray).size=l.length:=rfl
theorem bcat_size' (x y:ByteArray):(bcat x y).size=x.size+y.size:=by
 cases x;cases y;simp[bcat,ByteArray.size]
theorem wnb {p q:Prop}(k:q) (h:p:=by simp only[fitsI64,Int.toNat_natCast,Src.len,bcat_size',lit_size,List.length_cons,List.length_nil];omega):p∧q:=⟨h,k⟩
theorem wca {α:Type}{P Q R:α→Prop}(x:α) (h:P x) (k:R x) (q:Q x:=by first|exact trivial|assumption|omega|(refine And.intro ?_ ?_<;>omega)):∃ x,P x∧Q x∧R x:=⟨x,h,q,k⟩
theorem wcb {α:Type}{P Q R:α→Prop}{c:Prop}(x:α) (h:P x) (k:R x) (q:c→Q x:=by intro _;first|exact trivial|assumption|omega|(refine And.intro ?_ ?_<;>omega)):∃ x,P x∧(c→Q x)∧R x:=⟨x,h,q,k⟩
theorem wa {a n:Nat}{q:Prop}(k:q) (h:Nat.ble a n=true:=by exact rfl):a≤n∧q:=⟨Nat.le_of_ble_eq_true h,k⟩
theorem ga {p q:Prop}(k:q) (h:q∧True→p:=by intro hq;(repeat (first|refine wk1 ?_|refine wk2 ?_|refine wk3 ?_|refine wt1 ?_|refine wt2 ?_|refine wt3 ?_|refine wt4 ?_|refine wca _ (EntL.refl _) ?_|refine wcb _ (EntL.refl _) ?_|refine bt1 ?_|refine bt2 ?_|refine bt3 ?_|refine bt4 ?_|refine wn1 ?_|refine wn2 ?_|refine wnb ?_|refine wa ?_|refine wn5 ?_|refine wo5 ?_));exact hq.1):p:=h ⟨k,trivial⟩
theorem gw {p q:Prop}(k:q) (h:q∧True→p:=by intro hq;(first|refine wk1 ?_|refine wk2 ?_|refine wk3 ?_|refine wt1 ?_|refine wt2 ?_|refine wt3 ?_|refine wt4 ?_|refine wca _ (EntL.refl _) ?_|refine wcb _ (EntL.refl _) ?_|refine bt1 ?_|refine bt2 ?_|refine bt3 ?_|refine bt4 ?_|refine wn1 ?_|refine wn2 ?_|refine wnb ?_|refine wa ?_|refine wn5 ?_|refine wo5 ?_);(repeat (first|refine wk1 ?_|refine wk2 ?_|refine wk3 ?_|refine wt1 ?_|refine wt2 ?_|refine wt3 ?_|refine wt4 ?_|refine wca _ (EntL.refl _) ?_|refine wcb _ (EntL.refl _) ?_|refine bt1 ?_|refine bt2 ?_|refine bt3 ?_|refine bt4 ?_|refine wn1 ?_|refine wn2 ?_|refine wnb ?_|refine wa ?_|refine wn5 ?_|refine wo5 ?_));exact hq.1):p:=h ⟨k,trivial⟩
theorem gl {p q:Prop}(k:q) (h:q∧True→p:=by intro hq;(first|refine wk1 ?_|refine wk2 ?_|refine wk3 ?_|refine wt1 ?_|refine wt2 ?_|refine wt3 ?_|refine wt4 ?_|refine wca _ (EntL.refl _) ?_|refine wcb _ (EntL.refl _) ?_|refine wca () (EntL.refl _) ?_|refine wcb () (EntL.refl _) ?_|refine bt0 ?_|refine bt1 ?_|refine bt2 ?_|refine bt3 ?_|refine bt4 ?_|refine wn1 ?_|refine wn2 ?_|refine wnb ?_|refine wa ?_|refine wn5 ?_|refine wo5 ?_);(repeat (first|refine wk1 ?_|refine wk2 ?_|refine wk3 ?_|refine wt1 ?_|refine wt2 ?_|refine wt3 ?_|refine wt4 ?_|refine wca _ (EntL.refl _) ?_|refine wcb _ (EntL.refl _) ?_|refine wca () (EntL.refl _) ?_|refine wcb () (EntL.refl _) ?_|refine bt0 ?_|refine bt1 ?_|refine bt2 ?_|refine bt3 ?_|refine bt4 ?_|refine wn1 ?_|refine wn2 ?_|refine wnb ?_|refine wa ?_|refine wn5 ?_|refine wo5 ?_));exact hq.1):p:=h ⟨k,trivial⟩
theorem bk1 {c:Bool}{x y:Prop}(a:x) (e:c=true:=by decide +kernel):(c=true→x)∧(c=false→y):=⟨fun _=>a,fun f=>Bool.noConfusion (e.symm.trans f)⟩
theorem bk2 {c:Bool}{x y:Prop}(b:y) (e:c=false:=by decide +kernel):(c=true→x)∧(c=false→y):=⟨fun f=>Bool.noConfusion (f.symm.trans e),fun _=>b⟩
theorem gd {p q:Prop}(k:q) (h:q∧True→p:=by intro hq;(first|refine wk1 ?_|refine wk2 ?_|refine wk3 ?_|refine bk1 ?_|refine bk2 ?_|refine wt1 ?_|refine wt2 ?_|refine wt3 ?_|refine wt4 ?_|refine wca _ (EntL.refl _) ?_|refine wcb _ (EntL.refl _) ?_|refine wca () (EntL.refl _) ?_|refine wcb () (EntL.refl _) ?_|refine bt0 ?_|refine bt1 ?_|refine bt2 ?_|refine bt3 ?_|refine bt4 ?_|refine wn1 ?_|refine wn2 ?_|refine wnb ?_|refine wa ?_|refine wn5 ?_|refine wo5 ?_);(repeat (first|refine wk1 ?_|refine wk2 ?_|refine wk3 ?_|refine bk1 ?_|refine bk2 ?_|refine wt1 ?_|refine wt2 ?_|refine wt3 ?_|refine wt4 ?_|refine wca _ (EntL.refl _) ?_|refine wcb _ (EntL.refl _) ?_|refine wca () (EntL.refl _) ?_|refine wcb () (EntL.refl _) ?_|refine bt0 ?_|refine bt1 ?_|refine bt2 ?_|refine bt3 ?_|refine bt4 ?_|refine wn1 ?_|refine wn2 ?_|refine wnb ?_|refine wa ?_|refine wn5 ?_|refine wo5 ?_));exact hq.1):p:=h ⟨k,trivial⟩
theorem entR_eq {d d':D}(h:d=d') (hp:pd d=true):EntR d d':=h ▸ EntR.of hp (Ent.refl _)
theorem entR_eq' {d d':D}(hp:pd d'=true) (h:d=d'):EntR d d':=h ▸ EntR.of (h ▸ hp) (Ent.refl _)
theorem nz:(∀ n:Nat,((n:Int)).toNat=n)∧(∀ n:Nat,n*1=n)∧∀ n:Nat,n+0=n:=⟨Int.toNat_natCast,Nat.mul_one,Nat.add_zero⟩
theorem nr {α β:Type}:(∀ (f:α→β) (a:α) (l:List α),List.map f (a::l)=f a::List.map f l)∧∀ f:α→β,List.map f []=[]:=⟨fun _ _ _=>rfl,fun _=>rfl⟩
theorem ns {α:Type}:(∀ (a:α) (l m:List α),a::l++m=a::(l++m))∧(∀ l:List α,[]++l=l)∧(∀ l:List α,l++[]=l)∧(∀ (a:α) (l:List α),(a::l).length=l.length+1)∧(([]:List α).length=0)∧∀ l m:List α,(l++m).length=l.length+m.length:=⟨fun _ _ _=>rfl,fun _=>rfl,List.append_nil,fun _ _=>rfl,rfl,fun _ _=>List.length_append⟩
end Go.Sx
namespace Go.Sx
open Go Go.RowKit
section
variable {B:Nat}{w0 w:World}{M0 M:Mem}{E:List Value}{ow:List Own}
theorem Holds.one {o:Own}{v:Value}(h:Holds B M E w o v):v.oneCell'=true:=by
 cases o with
 | cells t l=>simp only[Holds] at h;obtain ⟨b,cs,rfl,_⟩:=h;rfl
 | row e sz n f =>
  simp only[Holds] at h
  obtain ⟨xs,hown,_⟩:=h
  rcases hown.2 with ⟨rfl,rfl⟩|⟨g,cap,cur,rfl,_⟩<;>rfl
 | rowo e n f =>
  simp only[Holds] at h
  obtain ⟨xs,hown,_⟩:=h
  rcases hown.2 with ⟨rfl,rfl⟩|⟨g,cap,cur,rfl,_⟩<;>rfl
 | bytes e s =>
  simp only[Holds] at h
  obtain ⟨⟨xs,hown,_⟩,_⟩:=h
  rcases hown.2 with ⟨rfl,_⟩|⟨g,cap,cur,rfl,_⟩<;>rfl
 | frozen sz n f=>simp only[Holds,Rep] at h;obtain ⟨a,c,rfl,_⟩:=h;rfl
 | map k v sh f=>simp only[Holds] at h;obtain ⟨b,es,ck,rfl,_⟩:=h;rfl
 | lp st pe=>simp only[Holds] at h;obtain ⟨b,r,rfl,_⟩:=h;rfl
 | defd=>simp only[Holds] at h;obtain ⟨b,rfl,_⟩:=h;rfl
 | iter s p=>simp only[Holds] at h;obtain ⟨b,rfl,_⟩:=h;rfl
 | gone=>exact h
theorem get_some {l:List Value}{n:Nat}(h:n<l.length):∃ v,l[n]?=some v:=⟨l[n],List.getElem?_eq_getElem h⟩
theorem WRel.kill (h:WRel B w0 M0 M E ow w) {i:Nat}{o:Own}(ho:ow[i]?=some o):WRel B w0 M0 M E (setOwn ow i .gone) w :=
 h.swap ho (fun hl=>by simp[Own.live] at hl) fun v _ hH=>by simp only[Holds];exact hH.one
theorem WRel.push (h:WRel B w0 M0 M E ow w) {o:Own}{v:Value}(hH:Holds B M E w o v) (hn:∀ (i:Nat) (p:Own) (u:Value) (b:Nat),ow[i]?=some p→E[i]?=some u→p.live=true→o.live=true→blkOf u=some b→blkOf v=some b→False):WRel B w0 M0 M (E++[v]) (ow++[o]) w:=by
 have hE:=EnvLe.append E [v]
 have up:∀ {p:Own}{u:Value},Holds B M E w p u→Holds B M (E++[v]) w p u:=fun hp=>hp.frame (fun _ _ _=>rfl) (Mem.le_refl _) hE (fun b hf hb=>(hp.lt (Own.free_live hf) hb).2.2 hf)
 refine ⟨h.fits,h.base,h.below,by simp[h.len],fun j p u hp hu=>?_,fun j k p p' u u' b hp hp' hl1 hl2 hu hu' hb hb'=>?_,h.mle,h.new⟩
 ·rcases Nat.lt_or_ge j ow.length with hj|hj
  ·rw[List.getElem?_append_left hj] at hp
   rw[List.getElem?_append_left (by rw[h.len];exact hj)] at hu
   exact up (h.holds _ _ _ hp hu)
  ·rw[List.getElem?_append_right hj] at hp
   rw[List.getElem?_append_right (by rw[h.len];exact hj),h.len] at hu
   have h0:j - ow.length=0:=by
    rcases Nat.eq_zero_or_pos (j - ow.length) with h0|h0
    ·exact h0
    ·rw[List.getElem?_eq_none (by simp;omega)] at hp;simp at hp
   rw[h0] at hp hu
   simp at hp hu
   subst hp hu
   exact up hH
 ·have cs:∀ (j:Nat) (p:Own) (u:Value),(ow++[o])[j]?=some p→(E++[v])[j]?=some u→(ow[j]?=some p∧E[j]?=some u)∨(j=ow.length∧p=o∧u=v):=by
   intro j p u hp hu
   rcases Nat.lt_or_ge j ow.length with hj|hj
   ·rw[List.getElem?_append_left hj] at hp
    rw[List.getElem?_append_left (by rw[h.len];exact hj)] at hu
    exact .inl ⟨hp,hu⟩
   ·rw[List.getElem?_append_right hj] at hp
    rw[List.getElem?_append_right (by rw[h.len];exact hj),h.len] at hu
    have h0:j - ow.length=0:=by
     rcases Nat.eq_zero_or_pos (j - ow.length) with h0|h0
     ·exact h0
     ·rw[List.getElem?_eq_none (by simp;omega)] at hp;simp at hp
    rw[h0] at hp hu
    simp at hp hu
    exact .inr ⟨by omega,hp.symm,hu.symm⟩
  rcases cs j p u hp hu with ⟨a1,a2⟩|⟨rfl,rfl,rfl⟩<;>rcases cs k p' u' hp' hu' with ⟨b1,b2⟩|⟨rfl,rfl,rfl⟩
  ·exact h.inj _ _ _ _ _ _ _ a1 b1 hl1 hl2 a2 b2 hb hb'
  ·exact (hn _ _ _ _ a1 a2 hl1 hl2 hb hb').elim
  ·exact (hn _ _ _ _ b1 b2 hl2 hl1 hb' hb).elim
  ·rfl
end
theorem StLe.refl (m:Nat) (s:St):StLe m s s:=⟨rfl,fun _ _ _ _ _ M E _ _ hW hR=>⟨M,E,Mem.le_refl _,fun _ _ _ h=>h,fun _ _ _ h=>h,hW,hR⟩⟩
theorem StLe.kill {m i:Nat}{o:Own}{tm:List (Nat × D)}{ow:List Own}{df:List DE}(h:ow[i]?=some o):StLe m ⟨tm,ow,df⟩ ⟨tm,setOwn ow i .gone,df⟩ :=
 ⟨rfl,fun _ _ _ _ _ M E _ _ hW hR=>⟨M,E,Mem.le_refl _,fun _ _ _ h=>h,fun _ _ _ h=>h,hW.kill h,hR⟩⟩
def killL:List Nat→List Own→List Own
 | [],ow=>ow
 | i::is,ow=>killL is (setOwn ow i .gone)
theorem StLe.kills {m:Nat}{tm:List (Nat × D)}{df:List DE}:∀ {is:List Nat}{ow:List Own},(∀ i∈is,i<ow.length)→StLe m ⟨tm,ow,df⟩ ⟨tm,killL is ow,df⟩
 | [],ow,_=>StLe.refl _ _
 | i::is,ow,h=>StLe.trans (StLe.kill (o:=ow[i]'(h i (by simp))) (List.getElem?_eq_getElem _)) (StLe.kills fun j hj=>by rw[length_setOwn];exact h j (by simp[hj]))
theorem StLe.killsB {m:Nat}{tm:List (Nat × D)}{df:List DE}{is:List Nat}{ow:List Own}(h:(is.all fun i=>Nat.blt i ow.length)=true):StLe m ⟨tm,ow,df⟩ ⟨tm,killL is ow,df⟩ :=
 StLe.kills fun i hi=>by
  have:=List.all_eq_true.1 h i hi
  exact Nat.le_of_ble_eq_true this
theorem StLe.move {m i j r t e sz n:Nat}{f:Nat→Nat→D}{l:List D}{tm:List (Nat × D)}{ow:List Own}{df:List DE}(h:ow[i]?=some (.cells t l)) (hj:l[j]?=some (.row r)) (hr:ow[r]?=some (.row e sz n f)):StLe m ⟨tm,ow,df⟩ ⟨tm,setOwn (setOwn ow r .gone++[.row e sz n f]) i (.cells t (l.set j (.row ow.length))),df⟩:=by
 refine ⟨rfl,?_⟩
 intro B w0 M0 dv N M E w a hW hR
 obtain ⟨v,hv⟩:=get_some (l:=E) (n:=r) (by rw[hW.len];exact get_lt hr)
 have hH:=hW.holds _ _ _ hr hv
 have hir:i≠r:=fun e=>by subst e;rw[h] at hr;simp at hr
 have hW1:=hW.kill hr
 have hW2:WRel B w0 M0 M (E++[v]) (setOwn ow r .gone++[.row e sz n f]) w:=by
  refine hW1.push hH fun k p u b hp hu hl _ hb hb'=>?_
  rw[getElem?_setOwn] at hp
  split at hp
  ·rename_i hk;subst hk
   split at hp<;>simp at hp
   subst hp;simp[Own.live] at hl
  ·rename_i hk
   exact hk (hW.inj _ _ _ _ _ _ _ hr hp rfl hl hv hu hb' hb)
 have hi:(setOwn ow r .gone++[Own.row e sz n f])[i]?=some (.cells t l):=by
  rw[List.getElem?_append_left (by rw[length_setOwn];exact get_lt h),getElem?_setOwn,if_neg (fun e=>hir e.symm)];exact h
 refine ⟨M,E++[v],Mem.le_refl _,fun i v _ hv=>EnvLe.append _ _ _ _ hv,fun i _ b hb=>EnvLe.append _ _ _ _ hb,hW2.swap hi (fun _=>rfl) fun v' _ hH'=>?_,hR.mono (Mem.le_refl _) (EnvLe.append _ _)⟩
 simp only[Holds] at hH' ⊢
 obtain ⟨b,cs,q1,q2,q3,q4,q5⟩:=hH'
 refine ⟨b,cs,q1,q2,RepL.setOne q3 fun u hu=>?_,q4,q5⟩
 obtain ⟨u',hu',hr'⟩:=RepL.get q3 hj
 rw[hu] at hu'
 simp only[Option.some.injEq] at hu'
 subst hu'
 simp only[Rep] at hr' ⊢
 rw[List.getElem?_append_left (by rw[hW.len];exact get_lt hr),hv] at hr'
 simp only[Option.some.injEq] at hr'
 subst hr'
 rw[← hW.len,List.getElem?_append_right (Nat.le_refl _)]
 simp
theorem StLe.frz {m i j r t e sz n:Nat}{f:Nat→Nat→D}{l:List D}{tm:List (Nat × D)}{ow:List Own}{df:List DE}(h:ow[i]?=some (.cells t l)) (hj:l[j]?=some (.row r)) (hr:ow[r]?=some (.row e sz n f)):StLe m ⟨tm,ow,df⟩ ⟨tm,setOwn (setOwn ow r (.frozen sz n f)) i (.cells t (l.set j (.sl sz n f))),df⟩:=by
 refine ⟨rfl,?_⟩
 intro B w0 M0 dv N M E w a hW hR
 obtain ⟨v,hv⟩:=get_some (l:=E) (n:=r) (by rw[hW.len];exact get_lt hr)
 have hir:i≠r:=fun e=>by subst e;rw[h] at hr;simp at hr
 obtain ⟨M',hle,hW1,hrep⟩:=hW.freeze hr rfl hv
 have hi:(setOwn ow r (.frozen sz n f))[i]?=some (.cells t l):=by
  rw[getElem?_setOwn,if_neg (fun e=>hir e.symm)];exact h
 refine ⟨M',E,hle,fun i v _ hv=>hv,fun i _ b hb=>hb,hW1.swap hi (fun _=>rfl) fun v' _ hH'=>?_,hR.mono hle (EnvLe.refl _)⟩
 simp only[Holds] at hH' ⊢
 obtain ⟨b,cs,q1,q2,q3,q4,q5⟩:=hH'
 refine ⟨b,cs,q1,q2,RepL.setOne q3 fun u hu=>?_,q4,q5⟩
 obtain ⟨u',hu',hr'⟩:=RepL.get q3 hj
 rw[hu] at hu'
 simp only[Option.some.injEq] at hu'
 subst hu'
 simp only[Rep] at hr'
 rw[hv] at hr'
 simp only[Option.some.injEq] at hr'
 subst hr'
 exact hrep
end Go.Sx
namespace Go.Sx
open Go Go.RowKit
theorem StLe.moveB {m i j r t e:Nat}{s:ByteArray}{l:List D}{tm:List (Nat × D)}{ow:List Own}{df:List DE}(h:ow[i]?=some (.cells t l)) (hj:l[j]?=some (.row r)) (hr:ow[r]?=some (.bytes e s)):StLe m ⟨tm,ow,df⟩ ⟨tm,setOwn (setOwn ow r .gone++[.bytes e s]) i (.cells t (l.set j (.row ow.length))),df⟩:=by
 refine ⟨rfl,?_⟩
 intro B w0 M0 dv N M E w a hW hR
 obtain ⟨v,hv⟩:=get_some (l:=E) (n:=r) (by rw[hW.len];exact get_lt hr)
 have hH:=hW.holds _ _ _ hr hv
 have hir:i≠r:=fun e=>by subst e;rw[h] at hr;simp at hr
 have hW1:=hW.kill hr
 have hW2:WRel B w0 M0 M (E++[v]) (setOwn ow r .gone++[.bytes e s]) w:=by
  refine hW1.push hH fun k p u b hp hu hl _ hb hb'=>?_
  rw[getElem?_setOwn] at hp
  split at hp
  ·rename_i hk;subst hk
   split at hp<;>simp at hp
   subst hp;simp[Own.live] at hl
  ·rename_i hk
   exact hk (hW.inj _ _ _ _ _ _ _ hr hp rfl hl hv hu hb' hb)
 have hi:(setOwn ow r .gone++[Own.bytes e s])[i]?=some (.cells t l):=by
  rw[List.getElem?_append_left (by rw[length_setOwn];exact get_lt h),getElem?_setOwn,if_neg (fun e=>hir e.symm)];exact h
 refine ⟨M,E++[v],Mem.le_refl _,fun i v _ hv=>EnvLe.append _ _ _ _ hv,fun i _ b hb=>EnvLe.append _ _ _ _ hb,hW2.swap hi (fun _=>rfl) fun v' _ hH'=>?_,hR.mono (Mem.le_refl _) (EnvLe.append _ _)⟩
 simp only[Holds] at hH' ⊢
 obtain ⟨b,cs,q1,q2,q3,q4,q5⟩:=hH'
 refine ⟨b,cs,q1,q2,RepL.setOne q3 fun u hu=>?_,q4,q5⟩
 obtain ⟨u',hu',hr'⟩:=RepL.get q3 hj
 rw[hu] at hu'
 simp only[Option.some.injEq] at hu'
 subst hu'
 simp only[Rep] at hr' ⊢
 rw[List.getElem?_append_left (by rw[hW.len];exact get_lt hr),hv] at hr'
 simp only[Option.some.injEq] at hr'
 subst hr'
 rw[← hW.len,List.getElem?_append_right (Nat.le_refl _)]
 simp
end Go.Sx
namespace Go.Proofs
open Go Go.Sx
theorem Ent.tu2 {a b c d:D}(h:Ent a c) (k:Ent b d):Ent (.tu [a,b]) (.tu [c,d]):=by
 intro M E u hu
 simp only[Rep] at hu ⊢
 obtain ⟨us,rfl,hh⟩:=hu
 exact ⟨us,rfl,EntL.cons h (EntL.cons k (EntL.refl _)) _ _ _ hh⟩
theorem Ent.tu3 {a b c x y z:D}(h:Ent a x) (k:Ent b y) (m:Ent c z):Ent (.tu [a,b,c]) (.tu [x,y,z]):=by
 intro M E u hu
 simp only[Rep] at hu ⊢
 obtain ⟨us,rfl,hh⟩:=hu
 exact ⟨us,rfl,EntL.cons h (EntL.cons k (EntL.cons m (EntL.refl _))) _ _ _ hh⟩
end Go.Proofs
namespace Go.Sx
open Go Go.RowKit
section
variable {cc:Bool}{Γ:Ctx}{T:TT}{Gl:Nat→Option D}{N:Nat}{Y:Ys}{all l:List Oper}{tm:List (Nat × D)}{ow:List Own}{k:List (Nat × D)→List Own→Prop}
variable {t s q tt ty:Nat}{pos:String}{after:Array Edge}
theorem opndR_row {r:Nat}{o:Own}(hs:lk tm s=some (.row r)) (ho:ow[r]?=some o) (hl:o.live=true):opndR Gl (fun _ _=>false) tm [] ow (.tmp s)=some (.row r):=by
 have h1:opnd Gl (fun _ _=>false) tm [] (.tmp s)=some (.row r):=hs
 unfold opndR
 rw[h1]
 dsimp only
 rw[ho]
 cases o<;>first|rfl|(simp[Own.live] at hl;done)
theorem opndR_else {d:D}(hs:lk tm s=some d) (hd:∀ i,d≠.row i):opndR Gl (fun _ _=>false) tm [] ow (.tmp s)=some d:=by
 have h1:opnd Gl (fun _ _=>false) tm [] (.tmp s)=some d:=hs
 unfold opndR
 rw[h1]
 cases d<;>first|rfl|exact absurd rfl (hd _)
theorem xMv {r:Nat}{o:Own}(hs:lk tm s=some (.row r)) (ho:ow[r]?=some o) (hl:o.live=true) (ht:t<N) (h:WkO cc Γ T Gl N Y all l (setT tm t (.row r)) [] ow k):stepO (WkO cc Γ T Gl N Y all) cc Γ Y T Gl N all (⟨some t,.move (.tmp s),ty,pos,after,none⟩::l) tm [] ow k:=by
 simp only[stepO,exOp,evPure,opndR_row hs ho hl,Need,putK,if_pos ht,freeG,if_true]
 exact h
theorem xAs {r:Nat}{o:Own}(hs:lk tm s=some (.row r)) (ho:ow[r]?=some o) (hl:o.live=true) (ht:t<N) (h:WkO cc Γ T Gl N Y all l (setT tm t (.row r)) [] ow k):stepO (WkO cc Γ T Gl N Y all) cc Γ Y T Gl N all (⟨some t,.assign (.tmp s),ty,pos,after,none⟩::l) tm [] ow k:=by
 simp only[stepO,exOp,evPure,opndR_row hs ho hl,Need,putK,if_pos ht,freeG,if_true]
 exact h
theorem xLen {r e n sz:Nat}{f:Nat→D}{ag:Bool}{z:Option (List Value)}{e1 esz by1:Nat}{mo:More}(hs:lk tm s=some (.row r)) (ho:ow[r]?=some (.rowo e n f)) (hT:T tt=some ⟨sz,ag,z,.slice e1 esz by1,mo⟩) (ht:t<N) (h:WkO cc Γ T Gl N Y all l (setT tm t (.v (.int .i64 n))) [] ow k):
  stepO (WkO cc Γ T Gl N Y all) cc Γ Y T Gl N all (⟨some t,.call ⟨.builtin .len,⟨[.tmp s]⟩,⟨[tt]⟩⟩,ty,pos,after,none⟩::l) tm [] ow k:=by
 simp only[stepO,exOp,evPure,opndR_row hs ho rfl,hT,evLen,ho,Need,putK,if_pos ht,freeG,if_true]
 exact h
theorem xIx {r e n sz:Nat}{f:Nat→D}{ag:Bool}{z:Option (List Value)}{e1 by1:Nat}{mo:More}{j:Int}(hs:lk tm s=some (.row r)) (ho:ow[r]?=some (.rowo e n f)) (hq:lk tm q=some (.v (.int .i64 j))) (hT:T tt=some ⟨sz,ag,z,.slice e1 1 by1,mo⟩) (ht:t<N) (hj:0≤j∧j<n) (h:WkO cc Γ T Gl N Y all l (setT tm t (.rp r 1 j.toNat 0)) [] ow k):
  stepO (WkO cc Γ T Gl N Y all) cc Γ Y T Gl N all (⟨some t,.indexAddr tt (.tmp s) (.tmp q),ty,pos,after,none⟩::l) tm [] ow k:=by
 simp only[stepO,exOp,evPure,opndR_row hs ho rfl,opndR_else hq (fun _ e=>nomatch e),hT,evIndexAddr,ho,Need,putK,if_pos ht,freeG,if_true]
 exact ⟨hj,h⟩
theorem xLd {r e n a:Nat}{f:Nat→D}{z:Option (List Value)}{kd:TK}{mo:More}(hs:lk tm s=some (.rp r 1 a 0)) (ho:ow[r]?=some (.rowo e n f)) (hT:T tt=some ⟨1,false,z,kd,mo⟩) (ht:t<N) (ha:a<n) (h:WkO cc Γ T Gl N Y all l (setT tm t (f a)) [] ow k):
  stepO (WkO cc Γ T Gl N Y all) cc Γ Y T Gl N all (⟨some t,.load tt (.tmp s),ty,pos,after,none⟩::l) tm [] ow k:=by
 simp only[stepO,exOp,evPure,opndR_else hs (fun _ e=>nomatch e),hT,evLoad,ho,and_self,if_true,Need,putK,if_pos ht,freeG]
 exact ⟨ha,h⟩
theorem xSt {r e n a j:Nat}{f:Nat→D}{ag:Bool}{z:Option (List Value)}{kd:TK}{mo:More}{o:Own}(hs:lk tm s=some (.rp r 1 a 0)) (ho:ow[r]?=some (.rowo e n f)) (hq:lk tm q=some (.row j)) (hoj:ow[j]?=some o) (hl:o.live=true) (hT:T tt=some ⟨1,ag,z,kd,mo⟩) (ha:a<n) (h:WkO cc Γ T Gl N Y all l tm [] (setOwn ow r (.rowo e n fun b=>if b=a then .row j else f b)) k):
  stepO (WkO cc Γ T Gl N Y all) cc Γ Y T Gl N all (⟨none,.store tt (.tmp s) (.tmp q),ty,pos,after,none⟩::l) tm [] ow k:=by
 simp only[stepO,exOp,evPure,evNew,evNewD,evOwn,opndR_else hs (fun _ e=>nomatch e),opndR_row hq hoj hl,hT,ho,cellsD,oneD,if_true,List.length_cons,List.length_nil,evStore,and_self,Need,putK]
 exact ⟨ha,h⟩
theorem xApO {r e n m:Nat}{f:Nat→D}{g:Nat→Nat→D}{sz:Nat}{ag:Bool}{z:Option (List Value)}{by1:Nat}{mo:More}{ag2:Bool}{zz:List Value}{kd2:TK}{mo2:More}(hs:lk tm s=some (.row r)) (ho:ow[r]?=some (.rowo e n f)) (hq:lk tm q=some (.sl 1 m g)) (hT:T tt=some ⟨sz,ag,z,.slice e 1 by1,mo⟩) (hTe:T e=some ⟨1,ag2,some zz,kd2,mo2⟩) (hz:zz.length=1) (ht:t<N)
  (h1:n+m≤9223372036854775807) (h2:(n+m)*by1≤140737488355328) (h:WkO cc Γ T Gl N Y all l (setT tm t (.row ow.length)) [] (setOwn ow r .gone++[.rowo e (n+m) fun a=>if a<n then f a else g (a - n) 0]) k):
  stepO (WkO cc Γ T Gl N Y all) cc Γ Y T Gl N all (⟨some t,.call ⟨.builtin .append,⟨[.tmp s,.tmp q]⟩,⟨[tt,tt]⟩⟩,ty,pos,after,none⟩::l) tm [] ow k:=by
 have e1:opnd Gl (fun _ _=>false) tm [] (.tmp s)=some (.row r):=hs
 simp only[stepO,exOp,e1,opndR_else hq (fun _ e=>nomatch e),evApp,hT,hTe,hz,srcOf,if_true,and_self,Nat.lt_irrefl,Nat.zero_lt_one,srcTy,beq_self_eq_true,isRow,Bool.false_eq_true,if_false,ho,Need,putK,if_pos ht,freeG,goneO]
 exact ⟨h1,h2,h⟩
theorem xAp {r e n m esz:Nat}{f:Nat→Nat→D}{g:Nat→Nat→D}{sz:Nat}{ag:Bool}{z:Option (List Value)}{by1:Nat}{mo:More}{ag2:Bool}{zz:List Value}{kd2:TK}{mo2:More}(hs:lk tm s=some (.row r)) (ho:ow[r]?=some (.row e esz n f)) (hq:lk tm q=some (.sl esz m g)) (hT:T tt=some ⟨sz,ag,z,.slice e esz by1,mo⟩) (hTe:T e=some ⟨esz,ag2,some zz,kd2,mo2⟩) (hz:zz.length=esz) (hp:0<esz) (ht:t<N)
  (h1:n+m≤9223372036854775807) (h2:(n+m)*by1≤140737488355328) (h:WkO cc Γ T Gl N Y all l (setT tm t (.row ow.length)) [] (setOwn ow r .gone++[.row e esz (n+m) (catF n f g)]) k):
  stepO (WkO cc Γ T Gl N Y all) cc Γ Y T Gl N all (⟨some t,.call ⟨.builtin .append,⟨[.tmp s,.tmp q]⟩,⟨[tt,tt]⟩⟩,ty,pos,after,none⟩::l) tm [] ow k:=by
 have e1:opnd Gl (fun _ _=>false) tm [] (.tmp s)=some (.row r):=hs
 simp only[stepO,exOp,e1,opndR_else hq (fun _ e=>nomatch e),evApp,hT,hTe,hz,srcOf,if_true,and_self,hp,srcTy,beq_self_eq_true,isRow,Bool.false_eq_true,if_false,ho,Need,putK,if_pos ht,freeG,goneO,Src.len,Src.fn]
 exact ⟨h1,h2,h⟩
theorem xApN {e m esz:Nat}{g:Nat→Nat→D}{sz:Nat}{ag:Bool}{z:Option (List Value)}{by1:Nat}{mo:More}{ag2:Bool}{zz:List Value}{kd2:TK}{mo2:More}(hs:lk tm s=some (.v (.slice none 0 0))) (hq:lk tm q=some (.sl esz m g)) (hT:T tt=some ⟨sz,ag,z,.slice e esz by1,mo⟩) (hTe:T e=some ⟨esz,ag2,some zz,kd2,mo2⟩) (hz:zz.length=esz) (hp:0<esz) (ht:t<N)
  (h1:m≤9223372036854775807) (h2:m*by1≤140737488355328) (h:WkO cc Γ T Gl N Y all l (setT tm t (.row ow.length)) [] (ow++[.row e esz m g]) k):
  stepO (WkO cc Γ T Gl N Y all) cc Γ Y T Gl N all (⟨some t,.call ⟨.builtin .append,⟨[.tmp s,.tmp q]⟩,⟨[tt,tt]⟩⟩,ty,pos,after,none⟩::l) tm [] ow k:=by
 have e1:opnd Gl (fun _ _=>false) tm [] (.tmp s)=some (.v (.slice none 0 0)):=hs
 simp only[stepO,exOp,e1,opndR_else hq (fun _ e=>nomatch e),evApp,hT,hTe,hz,srcOf,if_true,and_self,hp,srcTy,beq_self_eq_true,Need,putK,if_pos ht,freeG,goneO]
 exact ⟨h1,h2,h⟩
theorem xLk {i kt vt:Nat}{sh:KS}{f:KV→Option D}{kd:D}{key:KV}{sz:Nat}{ag:Bool}{z:Option (List Value)}{mo:More}{ki vi:TI}{zd:D}(hs:lk tm s=some (.mp i)) (hq:lk tm q=some kd) (hr:∀ i,kd≠.row i) (hT:T tt=some ⟨sz,ag,z,.map kt vt,mo⟩) (hk:T kt=some ki) (hv:T vt=some vi) (ho:ow[i]?=some (.map kt vt sh f)) (hkv:kvOf kd=some key) (h1:ksOf ki=some sh) (h2:kvSh key=sh) (hz:zeroD vi=some zd) (ht:t<N)
  (h:(∀ d,f key=some d→WkO cc Γ T Gl N Y all l (setT tm t (.tu [d,.v (.bool true)])) [] ow k)∧(f key=none→WkO cc Γ T Gl N Y all l (setT tm t (.tu [zd,.v (.bool false)])) [] ow k)):
  stepO (WkO cc Γ T Gl N Y all) cc Γ Y T Gl N all (⟨some t,.lookup tt (.tmp s) (.tmp q) true,ty,pos,after,none⟩::l) tm [] ow k:=by
 have e1:opnd Gl (fun _ _=>false) tm [] (.tmp s)=some (.mp i):=hs
 have e2:opnd Gl (fun _ _=>false) tm [] (.tmp q)=some kd:=hq
 simp only[stepO,exOp,e1,e2,hT,hk,hv,ho,hkv,h1,h2,and_self,if_true,hz,putK,if_pos ht,freeG]
 exact h
theorem xMu {i kt vt:Nat}{sh:KS}{f:KV→Option D}{kd d:D}{key:KV}{sz:Nat}{ag:Bool}{z:Option (List Value)}{mo:More}{ki:TI}{x:Nat}(hs:lk tm s=some (.mp i)) (hq:lk tm q=some kd) (hr:∀ i,kd≠.row i) (hx:lk tm x=some d) (hd:∀ i,d≠.row i) (hT:T tt=some ⟨sz,ag,z,.map kt vt,mo⟩) (hk:T kt=some ki) (ho:ow[i]?=some (.map kt vt sh f)) (hkv:kvOf kd=some key) (h1:ksOf ki=some sh) (h2:kvSh key=sh)
  (h:WkO cc Γ T Gl N Y all l tm [] (setOwn ow i (.map kt vt sh fun k'=>if k'=key then some d else f k')) k):
  stepO (WkO cc Γ T Gl N Y all) cc Γ Y T Gl N all (⟨none,.mapUpdate tt (.tmp s) (.tmp q) (.tmp x),ty,pos,after,none⟩::l) tm [] ow k:=by
 simp only[stepO,exOp,evPure,evNew,evNewD,evOwn,opndR_else hs (fun _ e=>nomatch e),opndR_else hq hr,opndR_else hx hd,hT,hk,ho,hkv,h1,h2,and_self,if_true,Need,putK]
 exact h
end
theorem StLe.tms {m:Nat}{tm tm':List (Nat × D)}{ow:List Own}{df:List DE}(h:∀ t d',lk tm' t=some d'→∃ d,lk tm t=some d∧Ent d d'):StLe m ⟨tm,ow,df⟩ ⟨tm',ow,df⟩:=by
 refine ⟨rfl,?_⟩
 intro B w0 M0 dv N M E w a hW hR
 refine ⟨M,E,Mem.le_refl _,fun _ _ _ h=>h,fun _ _ _ h=>h,hW,⟨hR.size,hR.defers,fun t d' ht=>?_,fun _ _ _ _ hh=>by simp[lkG] at hh⟩⟩
 obtain ⟨d,h1,h2⟩:=h t d' ht
 exact h2 _ _ _ (hR.tmps _ _ h1)
def subTm (tm:List (Nat × D)):List (Nat × D)→Prop
 | []=>True
 | (t,d')::r=>(match lk tm t with|some d=>Ent d d'|none=>False)∧subTm tm r
theorem subTm_get {tm:List (Nat × D)}:∀ {l:List (Nat × D)},subTm tm l→∀ t d',lk l t=some d'→∃ d,lk tm t=some d∧Ent d d'
 | [],_,t,d',h=>by simp[lk] at h
 | (s,x)::r,hs,t,d',h=>by
  simp only[subTm] at hs
  simp only[lk] at h
  split at h
  ·rename_i hst
   simp only[Option.some.injEq] at h
   subst h hst
   cases hl:lk tm s with
   | none=>rw[hl] at hs;exact hs.1.elim
   | some d=>rw[hl] at hs;exact ⟨d,rfl,hs.1⟩
  ·exact subTm_get hs.2 t d' h
theorem StLe.sub {m:Nat}{tm tm':List (Nat × D)}{ow:List Own}{df:List DE}(h:subTm tm tm'):StLe m ⟨tm,ow,df⟩ ⟨tm',ow,df⟩:=StLe.tms (subTm_get h)
theorem look_app {os:List Own}{x:Own}{i:Nat}:(os++[x])[i]?=if i=os.length then some x else os[i]?:=by
 by_cases h:i=os.length
 ·rw[if_pos h,h,List.getElem?_append_right (Nat.le_refl _)]
  simp
 ·rw[if_neg h]
  rcases Nat.lt_or_ge i os.length with h1|h1
  ·rw[List.getElem?_append_left h1]
  ·rw[List.getElem?_eq_none (by simp;omega),List.getElem?_eq_none h1]
theorem StLe.nilRowo {m t:Nat}{tm:List (Nat × D)}{ow:List Own}{df:List DE}(e:Nat) (f:Nat→D) (h:lk tm t=some (.v (.slice none 0 0))):StLe m ⟨tm,ow,df⟩ ⟨setT tm t (.row ow.length),ow++[.rowo e 0 f],df⟩:=by
 refine ⟨rfl,?_⟩
 intro B w0 M0 dv N M E w a hW hR
 have hW2:WRel B w0 M0 M (E++[.slice none 0 0]) (ow++[.rowo e 0 f]) w:=hW.grown (grownBy_self w) (fun g hg=>by simp[blkOf] at hg) ⟨[],World.ownsRow_nil _ _ _ _,fun a ha=>by omega,fun g hg=>by simp[Value.ownBlock] at hg⟩
 refine ⟨M,E++[.slice none 0 0],Mem.le_refl _,fun i v _ hv=>EnvLe.append _ _ _ _ hv,fun i _ b hb=>EnvLe.append _ _ _ _ hb,hW2,⟨hR.size,hR.defers,fun s d hs=>?_,fun _ _ _ _ hh=>by simp[lkG] at hh⟩⟩
 rw[lk_setT] at hs
 split at hs
 ·rename_i hst
  simp only[Option.some.injEq] at hs
  subst hs hst
  have h1:=hR.tmps _ _ h
  simp only[Rep] at h1
  simp only[Rep]
  rw[h1,← hW.len,List.getElem?_append_right (Nat.le_refl _)]
  simp
 ·exact Rep.mono (Mem.le_refl _) (EnvLe.append _ _) _ _ (hR.tmps _ _ hs)
section
variable {B:Nat}{w0 w:World}{M0 M:Mem}{E:List Value}{ow:List Own}
theorem WRel.freezeAll {e sz:Nat}(ρ:Nat→Nat) (len:Nat→Nat) (g:Nat→Nat→Nat→D):∀ (n:Nat) {M:Mem}{ow:List Own},WRel B w0 M0 M E ow w→(∀ a,a<n→ow[ρ a]?=some (.row e sz (len a) (g a)))→(∀ a b,a<n→b<n→ρ a=ρ b→a=b) →
  ∃ M' ow',M.le M'∧WRel B w0 M0 M' E ow' w∧(∀ i,(∀ a,a<n→i≠ρ a)→ow'[i]?=ow[i]?)∧∀ a,a<n→∀ u,E[ρ a]?=some u→Rep M' [] (.sl sz (len a) (g a)) u
 | 0,M,ow,hW,_,_=>⟨M,ow,Mem.le_refl _,hW,fun _ _=>rfl,fun a ha=>absurd ha (Nat.not_lt_zero _)⟩
 | n+1,M,ow,hW,hr,hi=>by
  obtain ⟨M1,ow1,l1,hW1,s1,r1⟩:=WRel.freezeAll ρ len g n hW (fun a ha=>hr a (by omega)) (fun a b ha hb=>hi a b (by omega) (by omega))
  have hn:ow1[ρ n]?=some (.row e sz (len n) (g n)):=by
   rw[s1 _ fun a ha h=>absurd (hi n a (by omega) (by omega) h) (by omega)]
   exact hr n (by omega)
  obtain ⟨v,hv⟩:=get_some (l:=E) (n:=ρ n) (by rw[hW1.len];exact get_lt hn)
  obtain ⟨M2,l2,hW2,r2⟩:=hW1.freeze hn rfl hv
  refine ⟨M2,_,Mem.le_trans l1 l2,hW2,fun i hne=>?_,fun a ha u hu=>?_⟩
  ·rw[getElem?_setOwn,if_neg (fun e=>hne n (by omega) e.symm)]
   exact s1 i fun a ha=>hne a (by omega)
  ·rcases Nat.lt_or_ge a n with h1|h1
   ·exact Rep.mono l2 (EnvLe.refl _) _ _ (r1 a h1 u hu)
   ·obtain rfl:a=n:=by omega
    rw[hv] at hu
    simp only[Option.some.injEq] at hu
    subst hu
    exact r2.mono (Mem.le_refl _) (EnvLe.refl _)
end
def colT (tm:List (Nat × D)) (r L:Nat) (X:D):List (Nat × D)→Prop
 | []=>True
 | (t,d')::rest=>(match lk tm t with|some d=>(Ent d d'∧pd d'=true)∨(d=.row r∧Ent X d'∧pd d'=true)∨(d=.row L∧d'=.row 0)|none=>False)∧colT tm r L X rest
theorem colT_get {tm:List (Nat × D)}{r L:Nat}{X:D}:∀ {l:List (Nat × D)},colT tm r L X l→∀ t d',lk l t=some d'→∃ d,lk tm t=some d∧((Ent d d'∧pd d'=true)∨(d=.row r∧Ent X d'∧pd d'=true)∨(d=.row L∧d'=.row 0))
 | [],_,t,d',h=>by simp[lk] at h
 | (s,x)::rest,hs,t,d',h=>by
  simp only[colT] at hs
  simp only[lk] at h
  split at h
  ·rename_i hst
   simp only[Option.some.injEq] at h
   subst h hst
   cases hl:lk tm s with
   | none=>rw[hl] at hs;exact hs.1.elim
   | some d=>rw[hl] at hs;exact ⟨d,rfl,hs.1⟩
  ·exact colT_get hs.2 t d' h
theorem StLe.collect {tm tm':List (Nat × D)}{os:List Own}{r n e e2 sz eR szR nR:Nat}{fR:Nat→Nat→D}{f:Nat→D}{ρ len:Nat→Nat}{g:Nat→Nat→Nat→D}
  (hr:os[r]?=some (.rowo e n f)) (hf:∀ a,a<n→f a=.row (ρ a)) (hrow:∀ a,a<n→os[ρ a]?=some (.row e2 sz (len a) (g a))) (hinj:∀ a b,a<n→b<n→ρ a=ρ b→a=b)
  (htm:colT tm r os.length (.sl 1 n fun a _=>.sl sz (len a) (g a)) tm'):StLe 0 ⟨tm,os++[.row eR szR nR fR],[]⟩ ⟨tm',[.row eR szR nR fR],[]⟩:=by
 refine ⟨rfl,?_⟩
 intro B w0 M0 dv N M E w a hW hR
 have up:∀ {j:Nat}{o:Own},os[j]?=some o→(os++[Own.row eR szR nR fR])[j]?=some o:=fun {j o} h=>by rw[List.getElem?_append_left (get_lt h)];exact h
 obtain ⟨M1,ow1,l1,hW1,s1,r1⟩:=WRel.freezeAll ρ len g n hW (fun a ha=>up (hrow a ha)) hinj
 have hne:∀ a,a<n→r≠ρ a:=fun a ha e=>by have:=hrow a ha;rw[← e,hr] at this;simp at this
 have hrl:=get_lt hr
 have hL:∀ a,a<n→os.length≠ρ a:=fun a ha e=>by have:=get_lt (hrow a ha);omega
 have hr1:ow1[r]?=some (.rowo e n f):=(s1 r hne).trans (up hr)
 have hR1:ow1[os.length]?=some (.row eR szR nR fR):=by
  rw[s1 _ hL,List.getElem?_append_right (Nat.le_refl _)]
  simp
 obtain ⟨v,hv⟩:=get_some (l:=E) (n:=r) (by rw[hW1.len];exact get_lt hr1)
 obtain ⟨vR,hvR⟩:=get_some (l:=E) (n:=os.length) (by rw[hW1.len];exact get_lt hR1)
 have hW2:WRel B w0 M0 M1 E (setOwn ow1 r (.row e 1 n fun a _=>.sl sz (len a) (g a))) w:=hW1.swap hr1 (fun _=>rfl) fun u hu hH=>by
  simp only[Holds] at hH ⊢
  obtain ⟨xs,q1,q2,q3⟩:=hH
  refine ⟨xs,q1,fun a ha j hj=>?_,q3⟩
  obtain ⟨x,x1,x2,x3⟩:=q2 a ha
  have hj0:j=0:=by omega
  subst hj0
  refine ⟨x,by rw[Nat.mul_one,Nat.add_zero];exact x1,x2,?_⟩
  rw[hf a ha] at x3
  simp only[Rep] at x3
  exact r1 a ha x x3
 have hr2:(setOwn ow1 r (.row e 1 n fun a _=>.sl sz (len a) (g a)))[r]?=some (.row e 1 n fun a _=>.sl sz (len a) (g a)):=by
  rw[getElem?_setOwn,if_pos rfl,if_pos (get_lt hr1)]
 obtain ⟨M2,l2,hW3,r3⟩:=hW2.freeze hr2 rfl hv
 have hR3:(setOwn (setOwn ow1 r (.row e 1 n fun a _=>.sl sz (len a) (g a))) r (.frozen 1 n fun a _=>.sl sz (len a) (g a)))[os.length]?=some (.row eR szR nR fR):=by
  rw[getElem?_setOwn,if_neg (by omega),getElem?_setOwn,if_neg (by omega)]
  exact hR1
 have hH:=hW3.holds _ _ _ hR3 hvR
 refine ⟨M2,[vR],Mem.le_trans l1 l2,fun i v hi=>absurd hi (Nat.not_lt_zero _),fun i hi=>by simp at hi,⟨hW3.fits,hW3.base,hW3.below,rfl,fun i o u ho hu=>?_,fun i j o o' u u' b ho ho' _ _ _ _ _ _=>?_,hW3.mle,hW3.new⟩,⟨hR.size,hR.defers,fun t d' ht=>?_,fun _ _ _ _ hh=>by simp[lkG] at hh⟩⟩
 ·have hi:=get_lt ho
  simp only[List.length_cons,List.length_nil] at hi
  have hi0:i=0:=by omega
  subst hi0
  simp only[List.getElem?_cons_zero,Option.some.injEq] at ho hu
  subst ho hu
  exact hH
 ·have h1:=get_lt ho
  have h2:=get_lt ho'
  simp only[List.length_cons,List.length_nil] at h1 h2
  omega
 ·obtain ⟨d,hd,h|h|h⟩:=colT_get htm t d' ht
  ·exact Rep.pd _ _ h.2 (h.1 _ _ _ (Rep.mono (Mem.le_trans l1 l2) (EnvLe.refl _) _ _ (hR.tmps _ _ hd)))
  ·obtain ⟨rfl,h1,h2⟩:=h
   have hu:=hR.tmps _ _ hd
   simp only[Rep] at hu
   rw[hv] at hu
   simp only[Option.some.injEq] at hu
   rw[← hu]
   exact Rep.pd _ _ h2 (h1 _ _ _ r3)
  ·obtain ⟨rfl,rfl⟩:=h
   have hu:=hR.tmps _ _ hd
   simp only[Rep] at hu ⊢
   rw[hvR] at hu
   simp only[Option.some.injEq] at hu
   rw[← hu]
   rfl
end Go.Sx
