import Derived.Test.YtnimkdbpoeondaaGreatDoorE6
set_option linter.all false
namespace Go.Sx
open Go Go.RowKit
variable {p n x y:Prop}{tm:List (Nat × D)}{c:Bool}{Gl:Nat->Option D}{df:List DE}{v:Value}{o:Own}{α:Type}
theorem fits_below {M:Mem}{w w':World}(h:M.fits w) (hb:Below w.heap.size w w'):M.fits w':=by
 intro b o hbo;have hf:=h b o hbo;obtain ⟨y,hy⟩:=hf.some;have hlt:b<w.heap.size:=(Array.getElem?_eq_some_iff.1 hy).1;rw[hb.block b hlt];exact hf
theorem zb9 {P:Program}{f:FuncId}{ct:Ct}{fn:Func}(hf:P.funcs[f]?=some fn) (hname:(fn.name == "runtime.NumGoroutine")=false) (hbody:fn.body.isNone=false) (hpd:∀ x,pdL (ct.inp x)=true)
  (h:∀ x,ct.pre x->∀ (M:Mem) (w:World) (us:Array Value),M.fits w->GlOk M Gl->RepL M [] (ct.inp x) us.toList ->
   Calls P f us w fun e w'=>∃ v,e=.returned v/\Rep M [] (ct.out x) v/\Below w.heap.size w w'):Sound P Gl f ct:=by
 refine ⟨⟨fn,hf,hname,hbody⟩,hpd,fun x hx M w us hfit hG hr n=>callsIn_wide.2 ((h x hx M w us hfit hG hr).mono ?_)⟩
 rintro e w' ⟨v,rfl,hv,hb⟩
 exact ⟨M,v,rfl,za _,fun b o hbo=>.inl hbo,fits_below hfit hb,hv,hb⟩
theorem gl_cell {M:Mem}{w:World}{g:Nat}(hfit:M.fits w) (hG:GlOk M Gl) (hg:Gl g=some (.pt 1 fun _=>.v v)):w.cell? ⟨g,0,none⟩=some v:=by
 have h:=hG g _ hg;simp only[Rep] at h;obtain ⟨ad,h5,h6⟩:=h;obtain ⟨x,h7,_,h8⟩:=h6 0 (by omega)
 simp at h5;subst h5;rw[h8] at h7;exact Mem.cell_fits hfit h7
theorem zig {M:Mem}{E:List Value}{x y:Value}{us:Array Value}(h:RepL M E [.v x,.v y] us.toList):us = #[x,y]:=by
 simp only[RepL,Rep] at h;obtain ⟨u,r,h1,rfl,v,r',rfl,rfl,rfl⟩:=h;apply Array.ext';simpa using h1
class BoolIs (c:Bool) (p n:outParam Prop):Prop where
 t:c=true->p
 f:c=false->n
 x:p->n->False
instance (priority:=low) boolIsV {c:Bool}:BoolIs c (c=true) (c=false):=⟨id,id,fun a b=>by rw[a] at b;exact Bool.noConfusion b⟩
instance boolIsD {p:Prop}{d:Decidable p}:BoolIs (@decide p d) p (¬p):=⟨of_decide_eq_true,of_decide_eq_false,fun a b=>b a⟩
instance boolIsE {a b:Int}:BoolIs (a==b) (a=b) (¬a=b):=⟨fun h=>by simpa using h,fun h=>by simpa using h,fun a b=>b a⟩
instance boolIsN {a b:Int}:BoolIs (a != b) (¬a=b) (a=b):=⟨fun h=>by simpa using h,fun h=>by simpa using h,fun a b=>a b⟩
instance boolIsNot {c:Bool}{p n:Prop} [h:BoolIs c p n]:BoolIs (!c) n p:=⟨fun e=>h.f (by simpa using e),fun e=>h.t (by simpa using e),fun a b=>h.x b a⟩
instance boolIsAnd {c d:Bool}{p n q m:Prop} [h:BoolIs c p n] [k:BoolIs d q m]:BoolIs (c&&d) (p/\q) (n\/m):=⟨fun e=>by simp at e;exact ⟨h.t e.1,k.t e.2⟩,fun e=>by
 cases hc:c
 ·exact .inl (h.f hc)
 ·rw[hc] at e;exact .inr (k.f (by simpa using e)),fun a b=>b.elim (h.x a.1) (k.x a.2)⟩
instance boolIsOr {c d:Bool}{p n q m:Prop} [h:BoolIs c p n] [k:BoolIs d q m]:BoolIs (c||d) (p\/q) (n/\m):=⟨fun e=>by
 cases hc:c
 ·rw[hc] at e;exact .inr (k.t (by simpa using e))
 ·exact .inl (h.t hc),fun e=>by simp at e;exact ⟨h.f e.1,k.f e.2⟩,fun a b=>a.elim (fun a=>h.x a b.1) (fun a=>k.x a b.2)⟩
theorem br [h:BoolIs c p n] (a:p->x) (b:n->y):(c=true->x)/\(c=false->y):=⟨fun e=>a (h.t e),fun e=>b (h.f e)⟩
theorem brF [h:BoolIs c p n] (a:n->x) (b:p->y):(c=false->x)/\(c=true->y):=⟨fun e=>a (h.f e),fun e=>b (h.t e)⟩
theorem bt1 [h:BoolIs c p n] (a:x) (e:p:=by first|assumption|omega):(c=true->x)/\(c=false->y):=⟨fun _=>a,fun f=>(h.x e (h.f f)).elim⟩
theorem bt0 [h:BoolIs c p n] (a:x) (e:p:=by with_reducible exact Eq.refl _):(c=true->x)/\(c=false->y):=⟨fun _=>a,fun f=>(h.x e (h.f f)).elim⟩
theorem bt2 [h:BoolIs c p n] (b:y) (e:n:=by first|assumption|omega):(c=true->x)/\(c=false->y):=⟨fun f=>(h.x (h.t f) e).elim,fun _=>b⟩
theorem bt3 [h:BoolIs c p n] (a:x) (e:n:=by first|assumption|omega):(c=false->x)/\(c=true->y):=⟨fun _=>a,fun f=>(h.x (h.t f) e).elim⟩
theorem bt4 [h:BoolIs c p n] (b:y) (e:p:=by first|assumption|omega):(c=false->x)/\(c=true->y):=⟨fun f=>(h.x e (h.f f)).elim,fun _=>b⟩
theorem lit_size (l:List UInt8):(ByteArray.mk l.toArray).size=l.length:=rfl
theorem bcat_size' (x y:ByteArray):(yt x y).size=x.size+y.size:=by
 cases x;cases y;simp[yt,ByteArray.size]
theorem wnb {p q:Prop}(k:q) (h:p:=by simp only[zs,Int.toNat_natCast,Src.len,bcat_size',lit_size,List.length_cons,List.length_nil];omega):p/\q:=⟨h,k⟩
theorem wca {P Q R:α->Prop}(x:α) (h:P x) (k:R x) (q:Q x:=by first|exact trivial|assumption|omega|(refine And.intro ?_ ?_<;>omega)):∃ x,P x/\Q x/\R x:=⟨x,h,q,k⟩
theorem wcb {P Q R:α->Prop}{c:Prop}(x:α) (h:P x) (k:R x) (q:c->Q x:=by intro _;first|exact trivial|assumption|omega|(refine And.intro ?_ ?_<;>omega)):∃ x,P x/\(c->Q x)/\R x:=⟨x,h,q,k⟩
theorem wa {a n:Nat}{q:Prop}(k:q) (h:Nat.ble a n=true:=by exact rfl):a<=n/\q:=⟨Nat.le_of_ble_eq_true h,k⟩
theorem ga {p q:Prop}(k:q) (h:q/\True->p:=by intro hq;(repeat (first|refine wk1 ?_|refine wk2 ?_|refine wk3 ?_|refine wt1 ?_|refine wt2 ?_|refine wt3 ?_|refine wt4 ?_|refine wca _ eL ?_|refine wcb _ eL ?_|refine bt1 ?_|refine bt2 ?_|refine bt3 ?_|refine bt4 ?_|refine wn1 ?_|refine wn2 ?_|refine wnb ?_|refine wa ?_|refine wn5 ?_|refine wo5 ?_));exact hq.1):p:=h ⟨k,trivial⟩
theorem gw {p q:Prop}(k:q) (h:q/\True->p:=by intro hq;(first|refine wk1 ?_|refine wk2 ?_|refine wk3 ?_|refine wt1 ?_|refine wt2 ?_|refine wt3 ?_|refine wt4 ?_|refine wca _ eL ?_|refine wcb _ eL ?_|refine bt1 ?_|refine bt2 ?_|refine bt3 ?_|refine bt4 ?_|refine wn1 ?_|refine wn2 ?_|refine wnb ?_|refine wa ?_|refine wn5 ?_|refine wo5 ?_);(repeat (first|refine wk1 ?_|refine wk2 ?_|refine wk3 ?_|refine wt1 ?_|refine wt2 ?_|refine wt3 ?_|refine wt4 ?_|refine wca _ eL ?_|refine wcb _ eL ?_|refine bt1 ?_|refine bt2 ?_|refine bt3 ?_|refine bt4 ?_|refine wn1 ?_|refine wn2 ?_|refine wnb ?_|refine wa ?_|refine wn5 ?_|refine wo5 ?_));exact hq.1):p:=h ⟨k,trivial⟩
theorem gl {p q:Prop}(k:q) (h:q/\True->p:=by intro hq;(first|refine wk1 ?_|refine wk2 ?_|refine wk3 ?_|refine wt1 ?_|refine wt2 ?_|refine wt3 ?_|refine wt4 ?_|refine wca _ eL ?_|refine wcb _ eL ?_|refine wca () eL ?_|refine wcb () eL ?_|refine bt0 ?_|refine bt1 ?_|refine bt2 ?_|refine bt3 ?_|refine bt4 ?_|refine wn1 ?_|refine wn2 ?_|refine wnb ?_|refine wa ?_|refine wn5 ?_|refine wo5 ?_);(repeat (first|refine wk1 ?_|refine wk2 ?_|refine wk3 ?_|refine wt1 ?_|refine wt2 ?_|refine wt3 ?_|refine wt4 ?_|refine wca _ eL ?_|refine wcb _ eL ?_|refine wca () eL ?_|refine wcb () eL ?_|refine bt0 ?_|refine bt1 ?_|refine bt2 ?_|refine bt3 ?_|refine bt4 ?_|refine wn1 ?_|refine wn2 ?_|refine wnb ?_|refine wa ?_|refine wn5 ?_|refine wo5 ?_));exact hq.1):p:=h ⟨k,trivial⟩
theorem bk1 {x y:Prop}(a:x) (e:c=true:=by decide +kernel):(c=true->x)/\(c=false->y):=⟨fun _=>a,fun f=>Bool.noConfusion (e.symm.trans f)⟩
theorem bk2 {x y:Prop}(b:y) (e:c=false:=by decide +kernel):(c=true->x)/\(c=false->y):=⟨fun f=>Bool.noConfusion (f.symm.trans e),fun _=>b⟩
theorem gd {p q:Prop}(k:q) (h:q/\True->p:=by intro hq;(first|refine wk1 ?_|refine wk2 ?_|refine wk3 ?_|refine bk1 ?_|refine bk2 ?_|refine wt1 ?_|refine wt2 ?_|refine wt3 ?_|refine wt4 ?_|refine wca _ eL ?_|refine wcb _ eL ?_|refine wca () eL ?_|refine wcb () eL ?_|refine bt0 ?_|refine bt1 ?_|refine bt2 ?_|refine bt3 ?_|refine bt4 ?_|refine wn1 ?_|refine wn2 ?_|refine wnb ?_|refine wa ?_|refine wn5 ?_|refine wo5 ?_);(repeat (first|refine wk1 ?_|refine wk2 ?_|refine wk3 ?_|refine bk1 ?_|refine bk2 ?_|refine wt1 ?_|refine wt2 ?_|refine wt3 ?_|refine wt4 ?_|refine wca _ eL ?_|refine wcb _ eL ?_|refine wca () eL ?_|refine wcb () eL ?_|refine bt0 ?_|refine bt1 ?_|refine bt2 ?_|refine bt3 ?_|refine bt4 ?_|refine wn1 ?_|refine wn2 ?_|refine wnb ?_|refine wa ?_|refine wn5 ?_|refine wo5 ?_));exact hq.1):p:=h ⟨k,trivial⟩
theorem zd {d d':D}(h:d=d') (hp:pd d=true):EntR d d':=h ▸ EntR.of hp eE
theorem nz:(∀ n:Nat,((n:Int)).toNat=n)/\(∀ n:Nat,n*1=n)/\∀ n:Nat,n+0=n:=⟨Int.toNat_natCast,Nat.mul_one,Nat.add_zero⟩
theorem nr {α β:Type}:(∀ (f:α->β) (a:α) (l:List α),List.map f (a::l)=f a::List.map f l)/\∀ f:α->β,List.map f []=[]:=⟨fun _ _ _=>rfl,fun _=>rfl⟩
theorem ns:(∀ (a:α) (l m:List α),a::l++m=a::(l++m))/\(∀ l:List α,[]++l=l)/\(∀ l:List α,l++[]=l)/\(∀ (a:α) (l:List α),(a::l).length=l.length+1)/\(([]:List α).length=0)/\∀ l m:List α,(l++m).length=l.length+m.length:=⟨fun _ _ _=>rfl,fun _=>rfl,List.append_nil,fun _ _=>rfl,rfl,fun _ _=>List.length_append⟩
class BV (c b:Bool) (p q:outParam Prop):Prop where
 t:c=b->p
 f:c=(!b)->q
instance bvT {c:Bool}{p n:Prop} [h:BoolIs c p n]:BV c true p n:=⟨h.t,fun e=>h.f e⟩
instance bvF {c:Bool}{p n:Prop} [h:BoolIs c p n]:BV c false n p:=⟨h.f,fun e=>h.t e⟩
theorem bs {c b:Bool}{p q p' q' x y:Prop} [h:BV c b p q] (a:p'->x) (e:q'->y) (f:p->p':=by intro hp;first|(simp only[nz] at hp;exact hp)|(show False;simp only[nz] at hp;done)|exact hp) (g:q->q':=by intro hp;first|(simp only[nz] at hp;exact hp)|(show False;simp only[nz] at hp;done)|exact hp):(c=b->x)/\(c=(!b)->y):=⟨fun z=>a (f (h.t z)),fun z=>e (g (h.f z))⟩
theorem nq:(∀ (x:Own) (l:List Own) (n:Nat) (o:Own),zj (x::l) (n+1) o=x::zj l n o)/\(∀ (x:Own) (l:List Own) (o:Own),zj (x::l) 0 o=o::l)/\(∀ (l:List Own) (j:Nat),xb l (some j)=zj l j .gone)/\(∀ l:List Own,xb l none=l)/\∀ n:Nat,0+n=n:=⟨fun _ _ _ _=>rfl,fun _ _ _=>rfl,fun _ _=>rfl,fun _=>rfl,Nat.zero_add⟩
section
variable {B:Nat}{w0 w:World}{M0 M:Mem}{E:List Value}{ow:List Own}
theorem Holds.one (h:Holds B M E w o v):v.oneCell'=true:=by
 cases o with
 | cells t l=>simp only[Holds] at h;obtain ⟨b,cs,rfl,_⟩:=h;rfl
 | row e sz n f =>
  simp only[Holds] at h;obtain ⟨xs,hown,_⟩:=h;rcases hown.2 with ⟨rfl,rfl⟩|⟨g,cap,cur,rfl,_⟩<;>rfl
 | bytes e s =>
  simp only[Holds] at h;obtain ⟨⟨xs,hown,_⟩,_⟩:=h;rcases hown.2 with ⟨rfl,_⟩|⟨g,cap,cur,rfl,_⟩<;>rfl
 | frozen sz n f=>simp only[Holds,Rep] at h;obtain ⟨a,c,rfl,_⟩:=h;rfl
 | map k v sh f=>simp only[Holds] at h;obtain ⟨b,es,ck,rfl,_⟩:=h;rfl
 | lp st pe=>simp only[Holds] at h;obtain ⟨b,r,rfl,_⟩:=h;rfl
 | defd=>simp only[Holds] at h;obtain ⟨b,rfl,_⟩:=h;rfl
 | iter s p=>simp only[Holds] at h;obtain ⟨b,rfl,_⟩:=h;rfl
 | gone=>exact h
theorem zje {l:List Value}{n:Nat}(h:n<l.length):∃ v,l[n]?=some v:=⟨l[n],List.getElem?_eq_getElem h⟩
theorem WRel.kill (h:WRel B w0 M0 M E ow w) {i:Nat}(ho:ow[i]?=some o):WRel B w0 M0 M E (zj ow i .gone) w :=
 h.swap ho (fun hl=>by simp[Own.live] at hl) fun v _ hH=>by simp only[Holds];exact hH.one
theorem WRel.push (h:WRel B w0 M0 M E ow w) (hH:Holds B M E w o v) (hn:∀ (i:Nat) (p:Own) (u:Value) (b:Nat),ow[i]?=some p->E[i]?=some u->p.live=true->o.live=true->zL u=some b->zL v=some b->False):WRel B w0 M0 M (E++[v]) (ow++[o]) w:=by
 have hE:=zu E [v]
 have up:∀ {p:Own}{u:Value},Holds B M E w p u->Holds B M (E++[v]) w p u:=fun hp=>hp.frame (fun _ _ _=>rfl) (za _) hE (fun b hf hb=>(hp.lt (Own.free_live hf) hb).2.2 hf)
 refine ⟨h.fits,h.base,h.below,by simp[h.len],fun j p u hp hu=>?_,fun j k p p' u u' b hp hp' hl1 hl2 hu hu' hb hb'=>?_,h.mle,h.new⟩
 ·rcases Nat.lt_or_ge j ow.length with hj|hj
  ·rw[List.getElem?_append_left hj] at hp;rw[List.getElem?_append_left (by rw[h.len];exact hj)] at hu;exact up (h.holds _ _ _ hp hu)
  ·rw[List.getElem?_append_right hj] at hp;rw[List.getElem?_append_right (by rw[h.len];exact hj),h.len] at hu;have h0:j - ow.length=0:=by
    rcases Nat.eq_zero_or_pos (j - ow.length) with h0|h0
    ·exact h0
    ·rw[List.getElem?_eq_none (by simp;omega)] at hp;simp at hp
   rw[h0] at hp hu;simp at hp hu;subst hp hu;exact up hH
 ·have cs:∀ (j:Nat) (p:Own) (u:Value),(ow++[o])[j]?=some p->(E++[v])[j]?=some u->(ow[j]?=some p/\E[j]?=some u)\/(j=ow.length/\p=o/\u=v):=by
   intro j p u hp hu;rcases Nat.lt_or_ge j ow.length with hj|hj
   ·rw[List.getElem?_append_left hj] at hp;rw[List.getElem?_append_left (by rw[h.len];exact hj)] at hu;exact .inl ⟨hp,hu⟩
   ·rw[List.getElem?_append_right hj] at hp;rw[List.getElem?_append_right (by rw[h.len];exact hj),h.len] at hu;have h0:j - ow.length=0:=by
     rcases Nat.eq_zero_or_pos (j - ow.length) with h0|h0
     ·exact h0
     ·rw[List.getElem?_eq_none (by simp;omega)] at hp;simp at hp
    rw[h0] at hp hu;simp at hp hu;exact .inr ⟨by omega,hp.symm,hu.symm⟩
  rcases cs j p u hp hu with ⟨a1,a2⟩|⟨rfl,rfl,rfl⟩<;>rcases cs k p' u' hp' hu' with ⟨b1,b2⟩|⟨rfl,rfl,rfl⟩
  ·exact h.inj _ _ _ _ _ _ _ a1 b1 hl1 hl2 a2 b2 hb hb'
  ·exact (hn _ _ _ _ a1 a2 hl1 hl2 hb hb').elim
  ·exact (hn _ _ _ _ b1 b2 hl2 hl1 hb' hb).elim
  ·rfl
end
theorem StLe.refl (m:Nat) (s:St):StLe m s s:=⟨rfl,fun _ _ _ _ _ M E _ _ hW hR=>⟨M,E,za _,fun _ _ _ h=>h,fun _ _ _ h=>h,hW,hR⟩⟩
theorem StLe.kill {m i:Nat}{ow:List Own}(h:ow[i]?=some o):StLe m ⟨tm,ow,df⟩ ⟨tm,zj ow i .gone,df⟩ :=
 ⟨rfl,fun _ _ _ _ _ M E _ _ hW hR=>⟨M,E,za _,fun _ _ _ h=>h,fun _ _ _ h=>h,hW.kill h,hR⟩⟩
theorem StLe.move {m i j r t e sz n:Nat}{f:Nat->Nat->D}{l:List D}{ow:List Own}(h:ow[i]?=some (.cells t l)) (hj:l[j]?=some (.row r)) (hr:ow[r]?=some (.row e sz n f)):StLe m ⟨tm,ow,df⟩ ⟨tm,zj (zj ow r .gone++[.row e sz n f]) i (.cells t (l.set j (.row ow.length))),df⟩:=by
 refine ⟨rfl,?_⟩
 intro B w0 M0 dv N M E w a hW hR;obtain ⟨v,hv⟩:=zje (l:=E) (n:=r) (by rw[hW.len];exact zE hr)
 have hH:=hW.holds _ _ _ hr hv;have hir:i≠r:=fun e=>by subst e;rw[h] at hr;simp at hr
 have hW1:=hW.kill hr;have hW2:WRel B w0 M0 M (E++[v]) (zj ow r .gone++[.row e sz n f]) w:=by
  refine hW1.push hH fun k p u b hp hu hl _ hb hb'=>?_;rw[zt] at hp;split at hp
  ·rename_i hk;subst hk;split at hp<;>simp at hp;subst hp;simp[Own.live] at hl
  ·rename_i hk;exact hk (hW.inj _ _ _ _ _ _ _ hr hp rfl hl hv hu hb' hb)
 have hi:(zj ow r .gone++[Own.row e sz n f])[i]?=some (.cells t l):=by
  rw[List.getElem?_append_left (by rw[zJ];exact zE h),zt,if_neg (fun e=>hir e.symm)];exact h
 refine ⟨M,E++[v],za _,fun i v _ hv=>zu _ _ _ _ hv,fun i _ b hb=>zu _ _ _ _ hb,hW2.swap hi (fun _=>rfl) fun v' _ hH'=>?_,hR.mono (za _) (zu _ _)⟩
 simp only[Holds] at hH' ⊢;obtain ⟨b,cs,q1,q2,q3,q4,q5⟩:=hH';refine ⟨b,cs,q1,q2,RepL.setOne q3 fun u hu=>?_,q4,q5⟩
 obtain ⟨u',hu',hr'⟩:=RepL.get q3 hj;rw[hu] at hu';simp only[Option.some.injEq] at hu';subst hu';simp only[Rep] at hr' ⊢;rw[List.getElem?_append_left (by rw[hW.len];exact zE hr),hv] at hr';simp only[Option.some.injEq] at hr';subst hr';rw[<- hW.len,List.getElem?_append_right (Nat.le_refl _)];simp
theorem StLe.frz {m i j r t e sz n:Nat}{f:Nat->Nat->D}{l:List D}{ow:List Own}(h:ow[i]?=some (.cells t l)) (hj:l[j]?=some (.row r)) (hr:ow[r]?=some (.row e sz n f)):StLe m ⟨tm,ow,df⟩ ⟨tm,zj (zj ow r (.frozen sz n f)) i (.cells t (l.set j (.sl sz n f))),df⟩:=by
 refine ⟨rfl,?_⟩
 intro B w0 M0 dv N M E w a hW hR;obtain ⟨v,hv⟩:=zje (l:=E) (n:=r) (by rw[hW.len];exact zE hr)
 have hir:i≠r:=fun e=>by subst e;rw[h] at hr;simp at hr
 obtain ⟨M',hle,hW1,hrep⟩:=hW.freeze hr rfl hv;have hi:(zj ow r (.frozen sz n f))[i]?=some (.cells t l):=by
  rw[zt,if_neg (fun e=>hir e.symm)];exact h
 refine ⟨M',E,hle,fun i v _ hv=>hv,fun i _ b hb=>hb,hW1.swap hi (fun _=>rfl) fun v' _ hH'=>?_,hR.mono hle (zc _)⟩
 simp only[Holds] at hH' ⊢;obtain ⟨b,cs,q1,q2,q3,q4,q5⟩:=hH';refine ⟨b,cs,q1,q2,RepL.setOne q3 fun u hu=>?_,q4,q5⟩
 obtain ⟨u',hu',hr'⟩:=RepL.get q3 hj;rw[hu] at hu';simp only[Option.some.injEq] at hu';subst hu';simp only[Rep] at hr';rw[hv] at hr';simp only[Option.some.injEq] at hr';subst hr';exact hrep
end Go.Sx
namespace Go.Sx
open Go Go.RowKit
end Go.Sx
namespace Go.Proofs
open Go Go.Sx
theorem Ent.tu2 {a b c d:D}(h:Ent a c) (k:Ent b d):Ent (.tu [a,b]) (.tu [c,d]):=by
 intro M E u hu;simp only[Rep] at hu ⊢;obtain ⟨us,rfl,hh⟩:=hu;exact ⟨us,rfl,EntL.cons h (EntL.cons k eL) _ _ _ hh⟩
theorem Ent.tu3 {a b c x y z:D}(h:Ent a x) (k:Ent b y) (m:Ent c z):Ent (.tu [a,b,c]) (.tu [x,y,z]):=by
 intro M E u hu;simp only[Rep] at hu ⊢;obtain ⟨us,rfl,hh⟩:=hu;exact ⟨us,rfl,EntL.cons h (EntL.cons k (EntL.cons m eL)) _ _ _ hh⟩
end Go.Proofs
