import Derived.Test.YtnimkdbpoeondaaGreatDoorE2
import Derived.Lib.UnsafeStr
import Derived.Laws.Append
import Derived.Laws.AppendOwn
import Derived.Laws.OwnMore
import Derived.Lib.AppendStr
set_option linter.all false
namespace Go.Sx
open Go Go.RowKit
variable {v:Value}{f:Nat->Nat->D}{b:Nat}{o:Own}{i:Nat}
section
variable {P:Program}{T:TT}{B:Nat}{w0 w w':World}{M0 M M':Mem}{E E':List Value}{ow:List Own}
theorem yP {o:Obj}(h:w.heap[b]?=some o):b<w.heap.size:=by
 rcases Nat.lt_or_ge b w.heap.size with h'|h'
 ·exact h'
 ·simp[Array.getElem?_eq_none h'] at h
theorem Fits.lt {o:Kn}(h:Fits o (w.heap[b]?)):b<w.heap.size:=by
 obtain ⟨y,hy⟩:=h.some;exact yP hy
theorem HoldsRow.lt {e sz n:Nat}(h:HoldsRow B M w e sz n f v) (hb:zL v=some b):b<w.heap.size/\B<=b/\M b=none:=by
 obtain ⟨xs,hown,_,hm⟩:=h;rcases hown.2 with ⟨rfl,_⟩|⟨g,cap,cur,rfl,h2,h3,_⟩
 ·simp[zL] at hb
 ·simp[zL] at hb;subst hb;exact ⟨yP h3,h2,hm g rfl⟩
theorem Holds.lt (h:Holds B M E w o v) (hl:o.live=true) (hb:zL v=some b):b<w.heap.size/\B<=b/\(o.free=true->M b=none):=by
 cases o with
 | cells t l =>
  simp only[Holds] at h;obtain ⟨b',cs,rfl,hh,_,hm,hB⟩:=h;simp[zL] at hb;subst hb;exact ⟨yP hh,hB,fun _=>hm⟩
 | row e sz n f=>obtain ⟨h1,h2,h3⟩:=HoldsRow.lt h hb;exact ⟨h1,h2,fun _=>h3⟩
 | bytes e s=>obtain ⟨h1,h2,h3⟩:=HoldsRow.lt h.1 hb;exact ⟨h1,h2,fun _=>h3⟩
 | map k v sh f =>
  simp only[Holds] at h;obtain ⟨b',es,ck,rfl,hh,_,hm,hB⟩:=h;simp[zL] at hb;subst hb;exact ⟨yP hh,hB,fun _=>hm⟩
 | lp st pe =>
  simp only[Holds] at h;obtain ⟨b',r,rfl,hh,_,_,_,hB⟩:=h;simp[zL] at hb;subst hb;exact ⟨yP hh,hB,fun hf=>by simp[Own.free] at hf⟩
 | defd =>
  simp only[Holds] at h;obtain ⟨b',rfl,hh,hm,hB⟩:=h;simp[zL] at hb;subst hb;exact ⟨yP hh,hB,fun _=>hm⟩
 | iter =>
  simp only[Holds] at h;obtain ⟨b',rfl,hh,hm,hB⟩:=h;simp[zL] at hb;subst hb;exact ⟨yP hh,hB,fun _=>hm⟩
 | frozen=>simp[Own.live] at hl
 | gone=>simp[Own.live] at hl
theorem Own.free_live (h:o.free=true):o.live=true:=by cases o<;>simp_all[Own.free,Own.live]
theorem vL {g:Nat}(h:v.ownBlock=some g):zL v=some g:=by
 cases v<;>simp_all[Value.ownBlock,zL];rename_i a' _ _;cases a'<;>simp_all
theorem HoldsRow.frame {e sz n:Nat}(h:HoldsRow B M w e sz n f v) (hw:∀ b,zL v=some b->w'.heap[b]?=w.heap[b]?) (hM:M.le M') (hn:∀ b,zL v=some b->M' b=none):HoldsRow B M' w' e sz n f v:=by
 obtain ⟨xs,hown,hr,hm⟩:=h;refine ⟨xs,⟨hown.1,?_⟩,fun a ha j hj=>?_,fun g hg=>hn g (vL hg)⟩
 ·rcases hown.2 with h1|⟨g,cap,cur,h1,h2,h3,h4⟩
  ·exact .inl h1
  ·exact .inr ⟨g,cap,cur,h1,h2,by rw[hw g (by rw[h1];rfl)];exact h3,h4⟩
 ·obtain ⟨x,h1,h2,h3⟩:=hr a ha j hj;exact ⟨x,h1,h2,Rep.mono hM (zc _) _ _ h3⟩
theorem MapRep.mono {sh:KS}{f:KV->Option D}{es:List MapEntry}(h:MapRep M E sh f es) (hM:M.le M') (hE:EnvLe E E'):MapRep M' E' sh f es :=
 ⟨fun k d hd=>by obtain ⟨j,e,h1,h2,h3⟩:=h.has k d hd;exact ⟨j,e,h1,h2,Rep.mono hM hE _ _ h3⟩,h.lacks,h.keys,h.once⟩
theorem Holds.frame (h:Holds B M E w o v) (hw:∀ b,o.live=true->zL v=some b->w'.heap[b]?=w.heap[b]?) (hM:M.le M') (hE:EnvLe E E')
  (hn:∀ b,o.free=true->zL v=some b->M' b=none):Holds B M' E' w' o v:=by
 cases o with
 | cells t l =>
  simp only[Holds] at h ⊢;obtain ⟨b',cs,rfl,hh,hr,hm,hB⟩:=h;exact ⟨b',cs,rfl,by rw[hw b' rfl rfl];exact hh,RepL.mono hM hE _ _ hr,hn b' rfl rfl,hB⟩
 | row e sz n f=>exact HoldsRow.frame h (fun b hb=>hw b rfl hb) hM (fun b hb=>hn b rfl hb)
 | bytes e s=>exact ⟨HoldsRow.frame h.1 (fun b hb=>hw b rfl hb) hM (fun b hb=>hn b rfl hb),h.2⟩
 | map k v sh f =>
  simp only[Holds] at h ⊢;obtain ⟨b',es,ck,rfl,hh,hr,hm,hB⟩:=h;exact ⟨b',es,ck,rfl,by rw[hw b' rfl rfl];exact hh,hr.mono hM hE,hn b' rfl rfl,hB⟩
 | lp st pe =>
  simp only[Holds] at h ⊢;obtain ⟨b',r,rfl,hh,h1,h2,⟨r0,h3⟩,hB⟩:=h;exact ⟨b',r,rfl,by rw[hw b' rfl rfl];exact hh,h1,h2,⟨r0,hM _ _ h3⟩,hB⟩
 | defd =>
  simp only[Holds] at h ⊢;obtain ⟨b',rfl,hh,hm,hB⟩:=h;exact ⟨b',rfl,by rw[hw b' rfl rfl];exact hh,hn b' rfl rfl,hB⟩
 | iter s pos =>
  simp only[Holds] at h ⊢;obtain ⟨b',rfl,hh,hm,hB⟩:=h;exact ⟨b',rfl,by rw[hw b' rfl rfl];exact hh,hn b' rfl rfl,hB⟩
 | frozen sz n f =>
  simp only[Holds] at h ⊢;exact Rep.mono hM (zc _) _ _ h
 | gone=>exact h
theorem zl {α:Type}{l:List α}{x y:α}(h:(l++[x])[i]?=some y):l[i]?=some y\/(i=l.length/\x=y):=by
 rcases Nat.lt_or_ge i l.length with hi|hi
 ·rw[List.getElem?_append_left hi] at h;exact .inl h
 ·rw[List.getElem?_append_right hi] at h;rcases Nat.lt_or_ge 0 (i - l.length) with h0|h0
  ·rw[List.getElem?_eq_none (by simp;omega)] at h;simp at h
  ·have:i=l.length:=by omega
   subst this;simp at h;exact .inr ⟨rfl,h⟩
theorem zE {α:Type}{l:List α}{x:α}(h:l[i]?=some x):i<l.length:=by
 rcases Nat.lt_or_ge i l.length with h'|h'
 ·exact h'
 ·simp[List.getElem?_eq_none h'] at h
theorem WRel.alloc (h:WRel B w0 M0 M E ow w) {t:TypeId}{l:List D}{cs:Array Value}(hl:RepL M E l cs.toList):
  WRel B w0 M0 M (E++[.pointer (some ⟨w.heap.size,0,none⟩)]) (ow++[.cells t l]) (w.alloc (.cells cs t (0,0))):=by
 have hnew:M w.heap.size=none:=by
  cases hm:M w.heap.size with
  | none=>rfl
  | some o=>have:=(h.fits _ _ hm).lt;omega
 refine ⟨fun b o hb=>?_,by simp;have:=h.base;omega,h.below.alloc h.base _,by simp[h.len],fun i o v ho hv=>?_,fun i j o o' v v' b ho ho' hl1 hl2 hv hv' hb hb'=>?_,h.mle,h.new⟩
 ·have:=h.fits _ _ hb;rw[heap_alloc_old _ _ _ this.lt];exact this
 ·rcases zl ho with ho|⟨rfl,rfl⟩
  ·have hi:=zE ho;rw[List.getElem?_append_left (by rw[h.len];exact hi)] at hv;have hH:=h.holds _ _ _ ho hv;exact hH.frame (fun b hlv hb=>heap_alloc_old _ _ _ (hH.lt hlv hb).1) (za _) (zu _ _) (fun b hf hb=>(hH.lt (Own.free_live hf) hb).2.2 hf)
  ·rw[<- h.len,List.getElem?_append_right (Nat.le_refl _)] at hv;simp at hv;subst hv;simp only[Holds];exact ⟨_,cs,rfl,heap_alloc_new _ _,RepL.mono (za _) (zu _ _) _ _ hl,hnew,h.base⟩
 ·have key:∀ (i:Nat) (o:Own) (v:Value) (b:Nat),ow[i]?=some o->o.live=true->(E++[Value.pointer (some ⟨w.heap.size,0,none⟩)])[i]?=some v->zL v=some b->E[i]?=some v/\b<w.heap.size:=by
   intro i o v b ho hlv hv hb;rw[List.getElem?_append_left (by rw[h.len];exact zE ho)] at hv;exact ⟨hv,((h.holds _ _ _ ho hv).lt hlv hb).1⟩
  rcases zl ho with ho1|⟨rfl,rfl⟩<;>rcases zl ho' with ho2|⟨rfl,rfl⟩
  ·exact h.inj _ _ _ _ _ _ _ ho1 ho2 hl1 hl2 (key _ _ _ _ ho1 hl1 hv hb).1 (key _ _ _ _ ho2 hl2 hv' hb').1 hb hb'
  ·have hlt:=(key _ _ _ _ ho1 hl1 hv hb).2;rw[<- h.len,List.getElem?_append_right (Nat.le_refl _)] at hv';simp at hv';subst hv';simp[zL] at hb';omega
  ·have hlt:=(key _ _ _ _ ho2 hl2 hv' hb').2;rw[<- h.len,List.getElem?_append_right (Nat.le_refl _)] at hv;simp at hv;subst hv;simp[zL] at hb;omega
  ·rfl
theorem WRel.allocOwn (h:WRel B w0 M0 M E ow w) {oN:Own}{vN:Value}{ob:Obj}(hb:zL vN=some w.heap.size\/zL vN=none) (hH:Holds B M (E++[vN]) (w.alloc ob) oN vN):
  WRel B w0 M0 M (E++[vN]) (ow++[oN]) (w.alloc ob):=by
 refine ⟨fun b o hb=>?_,by simp;have:=h.base;omega,h.below.alloc h.base _,by simp[h.len],fun i o v ho hv=>?_,fun i j o o' v v' b ho ho' hl1 hl2 hv hv' hb1 hb2=>?_,h.mle,h.new⟩
 ·have:=h.fits _ _ hb;rw[heap_alloc_old _ _ _ this.lt];exact this
 ·rcases zl ho with ho|⟨rfl,rfl⟩
  ·have hi:=zE ho;rw[List.getElem?_append_left (by rw[h.len];exact hi)] at hv;have hH:=h.holds _ _ _ ho hv;exact hH.frame (fun b hlv hb=>heap_alloc_old _ _ _ (hH.lt hlv hb).1) (za _) (zu _ _) (fun b hf hb=>(hH.lt (Own.free_live hf) hb).2.2 hf)
  ·rw[<- h.len,List.getElem?_append_right (Nat.le_refl _)] at hv;simp at hv;subst hv;exact hH
 ·have key:∀ (i:Nat) (o:Own) (u:Value) (b:Nat),ow[i]?=some o->o.live=true->(E++[vN])[i]?=some u->zL u=some b->E[i]?=some u/\b<w.heap.size:=by
   intro i o u b ho hlv hv hb;rw[List.getElem?_append_left (by rw[h.len];exact zE ho)] at hv;exact ⟨hv,((h.holds _ _ _ ho hv).lt hlv hb).1⟩
  have last:∀ (u:Value) (b:Nat),(E++[vN])[ow.length]?=some u->zL u=some b->b=w.heap.size:=by
   intro u b hu hbu;rw[<- h.len,List.getElem?_append_right (Nat.le_refl _)] at hu;simp at hu;subst hu;rcases hb with hb|hb
   ·rw[hb] at hbu;simp at hbu;exact hbu.symm
   ·rw[hb] at hbu;simp at hbu
  rcases zl ho with ho1|⟨rfl,rfl⟩<;>rcases zl ho' with ho2|⟨rfl,rfl⟩
  ·exact h.inj _ _ _ _ _ _ _ ho1 ho2 hl1 hl2 (key _ _ _ _ ho1 hl1 hv hb1).1 (key _ _ _ _ ho2 hl2 hv' hb2).1 hb1 hb2
  ·have hlt:=(key _ _ _ _ ho1 hl1 hv hb1).2;have:=last _ _ hv' hb2;omega
  ·have hlt:=(key _ _ _ _ ho2 hl2 hv' hb2).2;have:=last _ _ hv hb1;omega
  ·rfl
theorem WRel.fresh (h:WRel B w0 M0 M E ow w):M w.heap.size=none:=by
 cases hm:M w.heap.size with
 | none=>rfl
 | some o=>have:=(h.fits _ _ hm).lt;omega
theorem WRel.allocRow (h:WRel B w0 M0 M E ow w) {e sz:Nat}:WRel B w0 M0 M (E++[.slice (some ⟨w.heap.size,0,none⟩) 0 0]) (ow++[.row e sz 0 f]) (w.alloc (.cells #[] e (0,0))):=by
 refine h.allocOwn (.inl rfl) ?_;refine ⟨[],⟨by simp,.inr ⟨w.heap.size,0,#[],rfl,h.base,heap_alloc_new _ _,Nat.le_refl _,by simp[maxLen],by simp,by simp⟩⟩,fun a ha=>by omega,fun g hg=>?_⟩
 simp[Value.ownBlock] at hg;subst hg;exact h.fresh
theorem WRel.newData (h:WRel B w0 M0 M E ow w) (cs:Array Value) (e:TypeId):
  ∃ M',M.le M'/\WRel B w0 M0 M' E ow (w.alloc (.cells cs e (0,0)))/\∀ j,M'.cell ⟨w.heap.size,j,none⟩=cs[j]?:=by
 have hfr:=h.fresh;refine ⟨fun b=>if b=w.heap.size then some (.cells cs e (0,0)) else M b,fun b o hb=>?_,⟨fun b o hb=>?_,by simp;have:=h.base;omega,h.below.alloc h.base _,h.len,fun i o v ho hv=>?_,h.inj,fun b o hb=>?_,fun b o hb=>?_⟩,fun j=>by simp[Mem.cell]⟩
 ·have:b≠w.heap.size:=fun e=>by subst e;rw[hfr] at hb;simp at hb
  simp[this,hb]
 ·by_cases hbe:b=w.heap.size
  ·subst hbe;simp at hb;subst hb;exact heap_alloc_new _ _
  ·simp[hbe] at hb;have:=h.fits _ _ hb;rw[heap_alloc_old _ _ _ this.lt];exact this
 ·have hH:=h.holds _ _ _ ho hv;refine hH.frame (fun b hlv hb=>heap_alloc_old _ _ _ (hH.lt hlv hb).1) (fun b o hb=>?_) (zc _) (fun b hf hb=>?_)
  ·have:b≠w.heap.size:=fun e=>by subst e;rw[hfr] at hb;simp at hb
   simp[this,hb]
  ·have hq:=hH.lt (Own.free_live hf) hb;have:b≠w.heap.size:=by omega
   simp[this,hq.2.2 hf]
 ·have hq:=h.mle _ _ hb;have:b≠w.heap.size:=fun e=>by subst e;rw[hfr] at hq;simp at hq
  simp[this,hq]
 ·by_cases hbe:b=w.heap.size
  ·subst hbe;exact .inr h.base
  ·simp[hbe] at hb;exact h.new _ _ hb
theorem zt:∀ {ow:List Own}{i j:Nat}{o:Own},(zj ow i o)[j]?=if i=j then (if i<ow.length then some o else none) else ow[j]?
 | [],i,j,o=>by simp[zj]
 | x::ow,0,0,o=>by simp[zj]
 | x::ow,0,j+1,o=>by simp[zj]
 | x::ow,i+1,0,o=>by simp[zj]
 | x::ow,i+1,j+1,o=>by simp[zj,zt]
theorem zJ:∀ {ow:List Own}{i:Nat}{o:Own},(zj ow i o).length=ow.length
 | [],_,_=>rfl
 | _::_,0,_=>rfl
 | _::ow,i+1,o=>by simp[zj,zJ]
theorem WRel.update (h:WRel B w0 M0 M E ow w) {o o':Own}(ho:ow[i]?=some o) (hf:o.free=true) (hv:E[i]?=some v) (hb:zL v=some b)
  (hw:∀ k,k≠b->w'.heap[k]?=w.heap[k]?) (hsz:w'.heap.size=w.heap.size) (hos:w'.os=w.os) (htape:w'.tape=w.tape) (hout:w'.output=w.output) (hH:Holds B M E w' o' v):
  WRel B w0 M0 M E (zj ow i o') w':=by
 have hlv:=Own.free_live hf;have hlt:=(h.holds _ _ _ ho hv).lt hlv hb;refine ⟨fun c x hc=>?_,by rw[hsz];exact h.base,h.below.trans ⟨hos,htape,hout,by omega,fun k hk=>hw k (by omega)⟩,by simp[zJ,h.len],fun j p u hp hu=>?_,fun j k p p' u u' c hp hp' hl1 hl2 hu hu' hc hc'=>?_,h.mle,h.new⟩
 ·rw[hw c (fun e=>by subst e;rw[hlt.2.2 hf] at hc;simp at hc)];exact h.fits _ _ hc
 ·rw[zt] at hp;split at hp
  ·rename_i hij;subst hij;rw[if_pos (zE ho)] at hp;simp at hp;subst hp;rw[hv] at hu;simp at hu;subst hu;exact hH
  ·rename_i hij;have hHj:=h.holds _ _ _ hp hu;refine hHj.frame (fun c hl hc=>hw c (fun e=>?_)) (za _) (zc _) (fun c hf' hc=>(hHj.lt (Own.free_live hf') hc).2.2 hf')
   subst e;exact hij (h.inj _ _ _ _ _ _ _ ho hp hlv hl hv hu hb hc)
 ·have back:∀ (j:Nat) (p:Own),(zj ow i o')[j]?=some p->p.live=true->∃ q:Own,ow[j]?=some q/\q.live=true:=by
   intro j p hp hl;rw[zt] at hp;split at hp
   ·rename_i hij;subst hij;exact ⟨o,ho,hlv⟩
   ·exact ⟨p,hp,hl⟩
  obtain ⟨q,hq,hql⟩:=back _ _ hp hl1;obtain ⟨q',hq',hql'⟩:=back _ _ hp' hl2;exact h.inj _ _ _ _ _ _ _ hq hq' hql hql' hu hu' hc hc'
theorem zbv {b off:Nat}{t:TypeId}:∀ (vs:List Value) (k:Nat) (w:World) (cs:Array Value) (l':List Value),w.heap[b]?=some (.cells cs t (0,0))->(∀ v∈vs,v.oneCell'=true)->splice cs.toList (off+k) vs=some l' ->
  ∃ w',(storeCells ⟨b,off,none⟩ vs k).run P w=.ok () w'/\w'.heap[b]?=some (.cells l'.toArray t (0,0))/\(∀ j,j≠b->w'.heap[j]?=w.heap[j]?)/\w'.heap.size=w.heap.size/\w'.os=w.os/\w'.tape=w.tape/\w'.output=w.output
 | [],k,w,cs,l',h,_,hs=>by
  have:=zc9 _ _ _ hs;subst this;exact ⟨w,by simp[storeCells],by simpa using h,fun _ _=>rfl,rfl,rfl,rfl,rfl⟩
 | v::vs,k,w,cs,l',h,h1,hs=>by
  obtain ⟨s1,s2,s3,s4⟩:=xT hs;have hk:off+k<cs.size:=by simp at s2;omega
  have hcell:w.cell? ⟨b,off+k,none⟩=some cs[off+k]:=by
   rw[cell_of_row w b (off+k) cs t (0,0) h];simp[hk]
  have hfr:=frozen_of_row w b (off+k) cs t h;have hset:=heap_setCell_same w b (off+k) cs t v h;obtain ⟨w',r1,r2,r3,r4,r5,r6,r7⟩:=zbv vs (k+1) (w.setCell ⟨b,off+k,none⟩ v) (cs.setIfInBounds (off+k) v) l' hset (fun x hx=>h1 x (by simp[hx])) (by
   rw[Array.toList_setIfInBounds];exact zc8 hs)
  refine ⟨w',?_,r2,fun j hj=>(r3 j hj).trans (heap_setCell_other _ _ _ _ hj),by rw[r4];simp,r5,r6,r7⟩
  have hst:=run_store P w ⟨b,off+k,none⟩ v .plain (h1 v (by simp))
  rw[hcell] at hst;simp only[hfr] at hst;simp only[storeCells,Sem.run_bind,xn];simp at hst;rw[hst];simpa using r1
end
end Go.Sx
namespace Go.Sx
open Go Go.RowKit
section
variable {P:Program}{T:TT}{B:Nat}{w0 w w':World}{M0 M M':Mem}{E E':List Value}{ow:List Own}
theorem WRel.freeze (h:WRel B w0 M0 M E ow w) {i:Nat}{o:Own}{e:TypeId}{sz n:Nat}{f:Nat->Nat->D}{u:Value}(ho:ow[i]?=some o) (hro:zd7 o=some (e,sz,n,f)) (hE:E[i]?=some u):
  ∃ M',M.le M'/\WRel B w0 M0 M' E (zj ow i (.frozen sz n f)) w/\Rep M' E (.sl sz n f) u:=by
 have hH:=h.holds _ _ _ ho hE;have hlive:o.live=true:=by cases o<;>simp_all[zd7,Own.live]
 obtain ⟨xs,hown,hrep,hMg⟩:=hH.toRow hro;have hshape:∃ M',M.le M'/\M'.fits w/\(∀ b o,M' b=some o->M0 b=some o\/B<=b)/\Rep M' [] (.sl sz n f) u/\(∀ b,M b=none->zL u≠some b->M' b=none):=by
  rcases hown.2 with ⟨rfl,rfl⟩|⟨g,cap,cur,rfl,h2,h3,h4,h5,h6,h7⟩
  ·refine ⟨M,za _,h.fits,h.new,?_,fun b hb _=>hb⟩
   simp only[Rep];exact ⟨none,0,rfl,Nat.le_refl _,fun h0=>by omega⟩
  ·have hg:M g=none:=hMg g rfl;refine ⟨fun b=>if b=g then some (.cells cur e (0,0)) else M b,fun b o hb=>?_,fun b o hb=>?_,fun b o hb=>?_,?_,fun b hb hne=>?_⟩
   ·have:b≠g:=fun e=>by subst e;rw[hg] at hb;simp at hb
    simp[this,hb]
   ·by_cases hbg:b=g
    ·subst hbg;simp at hb;subst hb;exact h3
    ·simp[hbg] at hb;exact h.fits _ _ hb
   ·by_cases hbg:b=g
    ·subst hbg;exact .inr h2
    ·simp[hbg] at hb;exact h.new _ _ hb
   ·simp only[Rep];refine ⟨_,cap,rfl,h4,fun _=>⟨_,rfl,fun a ha j hj=>?_⟩⟩
    obtain ⟨x,x1,x2,x3⟩:=hrep a ha j hj;refine ⟨x,?_,x2,Rep.mono (fun b o hb=>?_) (zc _) _ _ x3⟩
    ·rw[xn,Nat.zero_add];have hpos:a*sz+j<n*sz:=by
      have:(a+1)*sz<=n*sz:=Nat.mul_le_mul_right _ (by omega)
      rw[Nat.add_mul] at this;omega
     rw[<- h7,List.getElem?_take_of_lt hpos] at x1;simpa[Mem.cell] using x1
    ·have:b≠g:=fun e=>by subst e;rw[hg] at hb;simp at hb
     simp[this,hb]
   ·have:b≠g:=fun e=>by subst e;exact hne rfl
    simp[this,hb]
 obtain ⟨M',hle,hfit,hnew,hrep',hnone⟩:=hshape;refine ⟨M',hle,⟨hfit,h.base,h.below,by simp[zJ,h.len],fun j p v hp hv=>?_,fun j k p p' v v' b hp hp' hl1 hl2 hv hv' hb hb'=>?_,zp h.mle hle,hnew⟩,Rep.mono (za _) (EnvLe.nil _) _ _ hrep'⟩
 ·rw[zt] at hp;split at hp
  ·rename_i hij;subst hij;rw[if_pos (zE ho)] at hp;simp at hp;subst hp;rw[hE] at hv;simp at hv;subst hv;simp only[Holds];exact hrep'
  ·rename_i hij;have hHj:=h.holds _ _ _ hp hv;refine hHj.frame (fun _ _ _=>rfl) hle (zc _) (fun b hf hb=>hnone b ((hHj.lt (Own.free_live hf) hb).2.2 hf) (fun hbu=>?_))
   exact hij (h.inj _ _ _ _ _ _ _ ho hp hlive (Own.free_live hf) hE hv hbu hb)
 ·have back:∀ (j:Nat) (p:Own),(zj ow i (.frozen sz n f))[j]?=some p->p.live=true->ow[j]?=some p:=by
   intro j p hp hl;rw[zt] at hp;split at hp
   ·rename_i hij;subst hij;rw[if_pos (zE ho)] at hp;simp at hp;subst hp;simp[Own.live] at hl
   ·exact hp
  exact h.inj _ _ _ _ _ _ _ (back _ _ hp hl1) (back _ _ hp' hl2) hl1 hl2 hv hv' hb hb'
mutual
theorem zcz:∀ (d:D) {ow ow':List Own}{d':D}{M:Mem}{u:Value},frz ow d=(d',ow')->WRel B w0 M0 M E ow w->Rep M E d u->∃ M',M.le M'/\WRel B w0 M0 M' E ow' w/\Rep M' E d' u
 | .row i,ow,ow',d',M,u,h,hW,hu=>by
  simp only[frz] at h;split at h
  ·rename_i e sz n f ho;simp at h;obtain ⟨rfl,rfl⟩:=h;simp only[Rep] at hu;exact hW.freeze ho rfl hu
  ·rename_i e s ho;simp at h;obtain ⟨rfl,rfl⟩:=h;simp only[Rep] at hu;exact hW.freeze ho rfl hu
  ·rename_i sz n f ho;simp at h;obtain ⟨rfl,rfl⟩:=h;simp only[Rep] at hu;have hH:=hW.holds _ _ _ ho hu;simp only[Holds] at hH;exact ⟨M,za _,hW,Rep.mono (za _) (EnvLe.nil _) _ _ hH⟩
  ·simp at h;obtain ⟨rfl,rfl⟩:=h;exact ⟨M,za _,hW,hu⟩
 | .ag l,ow,ow',d',M,u,h,hW,hu=>by
  simp only[frz] at h;cases hl:zew ow l with
  | mk l' ow1 =>
   rw[hl] at h;simp at h;obtain ⟨rfl,rfl⟩:=h;simp only[Rep] at hu;obtain ⟨us,rfl,hus⟩:=hu;obtain ⟨M',h1,h2,h3⟩:=xc l hl hW hus;exact ⟨M',h1,h2,by simp only[Rep];exact ⟨us,rfl,h3⟩⟩
 | .tu l,ow,ow',d',M,u,h,hW,hu=>by
  simp only[frz] at h;cases hl:zew ow l with
  | mk l' ow1 =>
   rw[hl] at h;simp at h;obtain ⟨rfl,rfl⟩:=h;simp only[Rep] at hu;obtain ⟨us,rfl,hus⟩:=hu;obtain ⟨M',h1,h2,h3⟩:=xc l hl hW hus;exact ⟨M',h1,h2,by simp only[Rep];exact ⟨us,rfl,h3⟩⟩
 | .v x,ow,ow',d',M,u,h,hW,hu=>by simp only[frz] at h;simp at h;obtain ⟨rfl,rfl⟩:=h;exact ⟨M,za _,hW,hu⟩
 | .sl a b c,ow,ow',d',M,u,h,hW,hu=>by simp only[frz] at h;simp at h;obtain ⟨rfl,rfl⟩:=h;exact ⟨M,za _,hW,hu⟩
 | .pt a b,ow,ow',d',M,u,h,hW,hu=>by simp only[frz] at h;simp at h;obtain ⟨rfl,rfl⟩:=h;exact ⟨M,za _,hW,hu⟩
 | .own a b,ow,ow',d',M,u,h,hW,hu=>by simp only[frz] at h;simp at h;obtain ⟨rfl,rfl⟩:=h;exact ⟨M,za _,hW,hu⟩
 | .rp a b c e,ow,ow',d',M,u,h,hW,hu=>by simp only[frz] at h;simp at h;obtain ⟨rfl,rfl⟩:=h;exact ⟨M,za _,hW,hu⟩
 | .fn a b,ow,ow',d',M,u,h,hW,hu=>by simp only[frz] at h;simp at h;obtain ⟨rfl,rfl⟩:=h;exact ⟨M,za _,hW,hu⟩
 | .ifc a b,ow,ow',d',M,u,h,hW,hu=>by simp only[frz] at h;simp at h;obtain ⟨rfl,rfl⟩:=h;exact ⟨M,za _,hW,hu⟩
 | .yl a,ow,ow',d',M,u,h,hW,hu=>by simp only[frz] at h;simp at h;obtain ⟨rfl,rfl⟩:=h;exact ⟨M,za _,hW,hu⟩
 | .mp a,ow,ow',d',M,u,h,hW,hu=>by simp only[frz] at h;simp at h;obtain ⟨rfl,rfl⟩:=h;exact ⟨M,za _,hW,hu⟩
 | .os a b c,ow,ow',d',M,u,h,hW,hu=>by simp only[frz] at h;simp at h;obtain ⟨rfl,rfl⟩:=h;exact ⟨M,za _,hW,hu⟩
 | .sd a,ow,ow',d',M,u,h,hW,hu=>by simp only[frz] at h;simp at h;obtain ⟨rfl,rfl⟩:=h;exact ⟨M,za _,hW,hu⟩
 | .junk,ow,ow',d',M,u,h,hW,hu=>by simp only[frz] at h;simp at h;obtain ⟨rfl,rfl⟩:=h;exact ⟨M,za _,hW,hu⟩
theorem xc:∀ (l:List D) {ow ow':List Own}{l':List D}{M:Mem}{us:List Value},zew ow l=(l',ow')->WRel B w0 M0 M E ow w->RepL M E l us->∃ M',M.le M'/\WRel B w0 M0 M' E ow' w/\RepL M' E l' us
 | [],ow,ow',l',M,us,h,hW,hu=>by simp only[zew] at h;simp at h;obtain ⟨rfl,rfl⟩:=h;exact ⟨M,za _,hW,hu⟩
 | d::ds,ow,ow',l',M,us,h,hW,hu=>by
  simp only[zew] at h;cases hd:frz ow d with
  | mk d' ow1 =>
   rw[hd] at h;simp only at h;cases hl:zew ow1 ds with
   | mk ds' ow2 =>
    rw[hl] at h;simp at h;obtain ⟨rfl,rfl⟩:=h;simp only[RepL] at hu;obtain ⟨u,r,rfl,hu1,hr⟩:=hu;obtain ⟨M1,h1,h2,h3⟩:=zcz d hd hW hu1;obtain ⟨M2,h4,h5,h6⟩:=xc ds hl h2 (RepL.mono h1 (zc _) _ _ hr)
    exact ⟨M2,zp h1 h4,h5,RepL.cons (Rep.mono h4 (zc _) _ _ h3) h6⟩
end
theorem xq (hW:WRel B w0 M0 M E ow w) {d:D}{u:Value}(h:Rep M E d u):Rep M E (res ow d) u:=by
 cases d<;>simp only[res]<;>try exact h
 case row i =>
  split
  ·rename_i sz n f ho;simp only[Rep] at h;have hH:=hW.holds _ _ _ ho h;simp only[Holds] at hH;exact Rep.mono (za _) (EnvLe.nil _) _ _ hH
  ·exact h
mutual
theorem resA_sound (hW:WRel B w0 M0 M E ow w):∀ (d:D) (u:Value),Rep M E d u->Rep M E (zd8 ow d) u
 | .row i,u,h=>by
  simp only[zd8];split
  ·rename_i sz n f ho;simp only[Rep] at h;have hH:=hW.holds _ _ _ ho h;simp only[Holds] at hH;exact Rep.mono (za _) (EnvLe.nil _) _ _ hH
  ·exact h
 | .ag l,u,h=>by
  simp only[Rep,zd8] at h ⊢;obtain ⟨us,rfl,hl⟩:=h;exact ⟨us,rfl,xX hW _ _ hl⟩
 | .tu l,u,h=>by
  simp only[Rep,zd8] at h ⊢;obtain ⟨us,rfl,hl⟩:=h;exact ⟨us,rfl,xX hW _ _ hl⟩
 | .v _,u,h=>by simpa only[zd8] using h
 | .sl _ _ _,u,h=>by simpa only[zd8] using h
 | .pt _ _,u,h=>by simpa only[zd8] using h
 | .own _ _,u,h=>by simpa only[zd8] using h
 | .rp _ _ _ _,u,h=>by simpa only[zd8] using h
 | .fn _ _,u,h=>by simpa only[zd8] using h
 | .ifc _ _,u,h=>by simpa only[zd8] using h
 | .yl _,u,h=>by simpa only[zd8] using h
 | .mp _,u,h=>by simpa only[zd8] using h
 | .os _ _ _,u,h=>by simpa only[zd8] using h
 | .sd _,u,h=>by simpa only[zd8] using h
 | .junk,u,h=>by simpa only[zd8] using h
theorem xX (hW:WRel B w0 M0 M E ow w):∀ (l:List D) (us:List Value),RepL M E l us->RepL M E (zgs ow l) us
 | [],us,h=>by simpa only[zgs] using h
 | d::ds,us,h=>by
  simp only[RepL,zgs] at h ⊢;obtain ⟨u,r,rfl,hd,hr⟩:=h;exact ⟨u,r,rfl,resA_sound hW _ _ hd,xX hW _ _ hr⟩
end
end
end Go.Sx
namespace Go.Sx
open Go Go.RowKit
variable {es:List MapEntry}{kt:TypeId}{ti:TI}{key:KV}{sh:KS}
section
variable {P:Program}{T:TT}{B:Nat}{w0 w w':World}{M0 M M':Mem}{E E':List Value}{ow:List Own}
theorem kaV_inj {a b:KA}(h:kaV a=kaV b):a=b:=by
 cases a<;>cases b<;>simp_all[kaV]
theorem kaVs_inj:∀ {a b:List KA},a.map kaV=b.map kaV->a=b
 | [],[],_=>rfl
 | [],_::_,h=>by simp at h
 | _::_,[],h=>by simp at h
 | x::a,y::b,h=>by
  simp at h;rw[kaV_inj h.1,kaVs_inj h.2]
theorem zi8 {a b:KV}(h:kvV a=kvV b):a=b:=by
 cases a<;>cases b<;>simp[kvV] at h ⊢ <;> first|exact h|exact kaVs_inj h
theorem ba_beq (x y:ByteArray):(x==y)=true↔x=y:=by
 cases x with|mk a=>cases y with|mk b =>
 show (a==b)=true↔_;simp
theorem zm9 (n:Nat):∀ v:KA,Instr.sameBits n (kaV v) (kaV v)=true
 | .i _ _=>by simp[kaV,Instr.sameBits]
 | .s _=>by simp[kaV,Instr.sameBits,ba_beq]
 | .b _=>by simp[kaV,Instr.sameBits]
theorem zdp (n:Nat):∀ l:List KA,((l.map kaV).zip (l.map kaV)).all (fun (x,y)=>Instr.sameBits n x y)=true
 | []=>rfl
 | a::l=>by
  simp only[List.map_cons,List.zip_cons_cons,List.all_cons,Bool.and_eq_true];exact ⟨zm9 n a,zdp n l⟩
theorem zm8 (v:KV):Instr.sameBits 10000 (kvV v) (kvV v)=true:=by
 cases v with
 | i=>simp[kvV,Instr.sameBits]
 | s=>simp[kvV,Instr.sameBits,ba_beq]
 | b=>simp[kvV,Instr.sameBits]
 | st l =>
  simp only[kvV,Instr.sameBits,Bool.and_eq_true];exact ⟨by simp,zdp 9999 l⟩
theorem ksOf_td {td:TypeDesc}(hk:ti.kind=zeg P td) (h:ksOf ti=some sh):(∃ k,td=.int k/\sh=.i k)\/(td=.string/\sh=.s)\/(td=.bool/\sh=.b)\/(∃ ks,sh=.st ks/\ti.more.flat=some ks):=by
 unfold ksOf at h;split at h
 ·rename_i k hk';simp at h;subst h;exact .inl ⟨k,zcj (hk ▸ hk'),rfl⟩
 ·rename_i hk';simp at h;subst h;exact .inr (.inl ⟨uA (hk ▸ hk'),rfl⟩)
 ·rename_i hk';simp at h;subst h;exact .inr (.inr (.inl ⟨zkm (hk ▸ hk'),rfl⟩))
 ·split at h
  ·rename_i ks hf;simp at h;subst h;exact .inr (.inr (.inr ⟨ks,rfl,hf⟩))
  ·simp at h
 ·simp at h
def kaD (l:List KA):List D:=l.map fun x=>.v (kaV x)
theorem znr:∀ l:List KA,RepL M E (kaD l) (l.map kaV)
 | []=>RepL.nil
 | _::l=>RepL.cons (zk _) (znr l)
theorem kaSh_lt {x:KA}(h:zll x<3):(∃ n,x=.i .i64 n)\/(∃ c,x=.s c)\/(∃ c,x=.b c):=by
 cases x with
 | i k n=>cases k<;>simp[zll] at h<;>exact .inl ⟨n,rfl⟩
 | s c=>exact .inr (.inl ⟨c,rfl⟩)
 | b c=>exact .inr (.inr ⟨c,rfl⟩)
theorem evEqL_ka:∀ {ks:List Nat}{a b:List KA},(∀ k∈ks,k<3)->a.map zll=ks->b.map zll=ks->yW ks (kaD a) (kaD b)=some (decide (a=b))
 | ks,[],[],_,ha,_=>by simp at ha;subst ha;simp[kaD,yW]
 | ks,[],y::b,_,ha,hb=>by simp at ha;subst ha;simp at hb
 | ks,x::a,[],_,ha,hb=>by simp at hb;subst hb;simp at ha
 | ks,x::a,y::b,hks,ha,hb=>by
  simp only[List.map_cons] at ha hb;subst ha;simp only[List.cons.injEq] at hb;have ih:=evEqL_ka (ks:=a.map zll) (a:=a) (b:=b) (fun k hk=>hks k (by simp[hk])) rfl hb.2;have e1:kaD (x::a)=.v (kaV x)::kaD a:=rfl;have e2:kaD (y::b)=.v (kaV y)::kaD b:=rfl;rw[e1,e2];have h1:=hb.1;have h2:zll x<3:=hks _ (by simp)
  have h3:zll y<3:=by rw[h1];exact h2
  rcases kaSh_lt h2 with ⟨n,rfl⟩|⟨c,rfl⟩|⟨c,rfl⟩<;>rcases kaSh_lt h3 with ⟨n',rfl⟩|⟨c',rfl⟩|⟨c',rfl⟩<;>simp[zll] at h1
  ·simp only[zll,kaV,yW,ih,if_true,Option.some.injEq];rw[Bool.eq_iff_iff];simp
  ·simp only[zll,kaV,yW,ih,Option.some.injEq];rw[Bool.eq_iff_iff];simp
  ·simp only[zll,kaV,yW,ih,Option.some.injEq];rw[Bool.eq_iff_iff];simp
theorem zl0:∀ {fs:List Field}{i:Nat}{ks:List Nat},uY P i fs=some ks->∀ k∈ks,k<3
 | [],i,ks,h=>by simp[uY] at h;subst h;simp
 | f::fs,i,ks,h=>by
  simp only[uY] at h;split at h
  ·rename_i k0 hk0;split at h
   ·split at h
    ·rename_i ks' hks';simp at h;subst h;intro k hk;simp at hk;rcases hk with rfl|hk
     ·unfold flatK at hk0;split at hk0<;>simp at hk0<;>omega
     ·exact zl0 hks' k hk
    ·simp at h
   ·simp at h
  ·simp at h
theorem zf0 {ks:List Nat}(hti:zgu P kt=some ti) (h:ti.more.flat=some ks) {l:List KA}(hl:l.map zll=ks):∃ fs,P.underlying kt=some (.struct fs)/\uY P 0 fs.toList=some ks/\P.stoodInHeld kt=false:=by
 obtain ⟨i,ds,hi,hd,rfl⟩:=zi hti;simp only[flatOf] at h;split at h
 ·rename_i fs;split at h
  ·rename_i ks' hks';split at h
   ·rename_i hc;simp at h;subst h;exact ⟨fs,hd,hks',hc.1⟩
   ·simp at h
  ·split at h
   ·split at h
    ·simp at h;subst h;cases l with
     | nil=>simp at hl
     | cons x l =>
      simp only[List.map_cons,List.cons.injEq] at hl;obtain ⟨hx,_⟩:=hl;unfold zll at hx;split at hx<;>omega
    ·simp at h
   ·simp at h
 ·simp at h
theorem sameNow_kv {td:TypeDesc}(h:(∃ k,td=.int k/\sh=.i k)\/(td=.string/\sh=.s)\/(td=.bool/\sh=.b)) {a b:KV}(ha:zcb a=sh) (hb:zcb b=sh):Instr.sameNow td (kvV a) (kvV b)=some (decide (a=b)):=by
 rcases h with ⟨k,rfl,rfl⟩|⟨rfl,rfl⟩|⟨rfl,rfl⟩
 ·cases a<;>simp[zcb] at ha;cases b<;>simp[zcb] at hb;subst ha;subst hb;simp[kvV,Instr.sameNow];rw[Bool.eq_iff_iff];simp
 ·cases a<;>simp[zcb] at ha;cases b<;>simp[zcb] at hb;simp[kvV,Instr.sameNow];rw[Bool.eq_iff_iff];simp[ba_beq]
 ·cases a<;>simp[zcb] at ha;cases b<;>simp[zcb] at hb;simp[kvV,Instr.sameNow];rw[Bool.eq_iff_iff];simp
def FindOk (key:KV) (es:List MapEntry) (i:Nat):Option (Nat × Value)->Prop
 | some (j,v)=>i<=j/\∃ e,es[j - i]?=some e/\e.key=kvV key/\v=e.val
 | none=>∀ e∈es,e.key≠kvV key
theorem FindOk.here {e:MapEntry}{i:Nat}(h:e.key=kvV key):FindOk key (e::es) i (some (i,e.val)):=⟨Nat.le_refl _,e,by simp,h,rfl⟩
theorem FindOk.next {key k:KV}{e:MapEntry}{i:Nat}{r:Option (Nat × Value)}(h1:e.key=kvV k) (hkk:key≠k) (h2:FindOk key es (i+1) r):FindOk key (e::es) i r:=by
 cases r with
 | none =>
  intro e' he';simp at he';rcases he' with rfl|he'
  ·rw[h1];exact fun e=>hkk (zi8 e).symm
  ·exact h2 e' he'
 | some p =>
  obtain ⟨j,v⟩:=p;obtain ⟨hle,e',h3,h4⟩:=h2;refine ⟨by omega,e',?_,h4⟩
  rw[show j - i=(j - (i+1))+1 by omega];simpa using h3
theorem vp {td:TypeDesc}{sh:KS}(h:(∃ k,td=.int k/\sh=.i k)\/(td=.string/\sh=.s)\/(td=.bool/\sh=.b)) {key:KV}(hk:zcb key=sh):∀ (es:List MapEntry) (i:Nat),(∀ e∈es,∃ k,e.key=kvV k/\zcb k=sh) ->
  ∃ r,Instr.findNow td (kvV key) es i=some r/\FindOk key es i r
 | [],i,_=>⟨none,rfl,fun e he=>by simp at he⟩
 | e::es,i,hes=>by
  obtain ⟨k,hk1,hk2⟩:=hes e (by simp)
  have hs:=sameNow_kv h hk hk2;rw[<- hk1] at hs;by_cases hkk:key=k
  ·subst hkk;exact ⟨some (i,e.val),by simp[Instr.findNow,hs],.here hk1⟩
  ·obtain ⟨r,h1,h2⟩:=vp h hk es (i+1) (fun e' he'=>hes e' (by simp[he']))
   exact ⟨r,by simp[Instr.findNow,hs,hkk,h1],.next hk1 hkk h2⟩
theorem zk0 {ks:List Nat}(hti:zgu P kt=some ti) (h:ti.more.flat=some ks) {a b:List KA}(ha:a.map zll=ks) (hb:b.map zll=ks):(Op.equal kt (kvV (.st a)) (kvV (.st b))).run P w=.ok (decide (a=b)) w:=by
 obtain ⟨fs,hd,hfs,hst⟩:=zf0 hti h ha;have hf:P.fieldsOf kt=fs:=by simp[Program.fieldsOf,hd]
 show (Op.equalIn 10000 kt (.agg (a.map kaV).toArray) (.agg (b.map kaV).toArray)).run P w=_;rw[run_equalIn_struct w 9999 kt _ _ (by rw[hf];exact hd) hst,hf];exact xf (M:=fun _=>none) (E:=[]) (d:=9998) hfs (evEqL_ka (zl0 hfs) ha hb) (znr a) (znr b) rfl rfl
theorem za2 {kt:TypeId}{ti:TI}{ks:List Nat}(hti:zgu P kt=some ti) (h:ti.more.flat=some ks) {a:List KA}(hk:a.map zll=ks):∀ (es:List MapEntry) (i:Nat),(∀ e∈es,∃ k,e.key=kvV k/\zcb k=.st ks) ->
  ∃ r,(Instr.findAsking kt (kvV (.st a)) es i).run P w=.ok r w/\FindOk (.st a) es i r
 | [],i,_=>⟨none,by simp[Instr.findAsking],fun e he=>by simp at he⟩
 | e::es,i,hes=>by
  obtain ⟨k,hk1,hk2⟩:=hes e (by simp)
  cases k with
  | st b =>
   simp only[zcb,KS.st.injEq] at hk2;have hs:=zk0 (w:=w) hti h hk hk2;rw[<- hk1] at hs;by_cases hkk:a=b
   ·subst hkk;exact ⟨some (i,e.val),by simp[Instr.findAsking,hs],.here hk1⟩
   ·obtain ⟨r,h1,h2⟩:=za2 hti h hk es (i+1) (fun e' he'=>hes e' (by simp[he']))
    exact ⟨r,by simp[Instr.findAsking,hs,hkk,h1],.next hk1 (fun e=>hkk (by cases e;rfl)) h2⟩
  | i=>simp[zcb] at hk2
  | s=>simp[zcb] at hk2
  | b=>simp[zcb] at hk2
theorem zg3 {fs:Array Field}{v:Value}:∀ (es:List MapEntry) (i:Nat),Instr.findNow (.struct fs) v es i=none\/es=[]
 | [],_=>.inr rfl
 | e::es,i=>.inl (by simp[Instr.findNow,Instr.sameNow])
theorem zfe (hti:zgu P kt=some ti) (h:ksOf ti=some sh) (hk:zcb key=sh) (hes:∀ e∈es,∃ k,e.key=kvV k/\zcb k=sh):
  ∃ r,(Instr.findKey kt (kvV key) es).run P w=.ok r w/\FindOk key es 0 r:=by
 obtain ⟨inf,td,hi,hd,rfl⟩:=zi hti;rcases ksOf_td (td:=td) rfl h with h'|h'|h'|⟨ks,rfl,hf⟩
 ·obtain ⟨r,h1,h2⟩:=vp (.inl h') hk es 0 hes;exact ⟨r,by simp[Instr.findKey,zb hd,h1],h2⟩
 ·obtain ⟨r,h1,h2⟩:=vp (.inr (.inl h')) hk es 0 hes;exact ⟨r,by simp[Instr.findKey,zb hd,h1],h2⟩
 ·obtain ⟨r,h1,h2⟩:=vp (.inr (.inr h')) hk es 0 hes;exact ⟨r,by simp[Instr.findKey,zb hd,h1],h2⟩
 ·cases key with
  | st a =>
   simp only[zcb,KS.st.injEq] at hk;obtain ⟨r,h1,h2⟩:=za2 (w:=w) hti hf hk es 0 hes;obtain ⟨fs,hd',_,_⟩:=zf0 hti hf hk;refine ⟨r,?_,h2⟩
   simp only[Instr.findKey,Sem.run_bind,zb hd',Result.andThen_ok];rcases zg3 (fs:=fs) (v:=kvV (.st a)) es 0 with h3|rfl
   ·rw[h3];exact h1
   ·simp[Instr.findAsking] at h1;subst h1;simp[Instr.findNow]
  | i=>simp[zcb] at hk
  | s=>simp[zcb] at hk
  | b=>simp[zcb] at hk
theorem zgh {em:Bool}{n:Nat}{xs:Array Value}:∀ (fs:List Field) (i:Nat) (ks:List Nat),uY P i fs=some ks->xs.size=i+ks.length ->
  (forIn fs PUnit.unit (fun f _=>do
    if f.name ≠ "_" then Instr.checkKey em (n+1) f.type (<- part f.type xs f.offset)
    pure (ForInStep.yield PUnit.unit)):Sem PUnit).run P w=.ok PUnit.unit w
 | [],_,_,_,_=>by simp
 | f::fs,i,ks,h,hx=>by
  simp only[uY] at h;split at h
  ·rename_i k0 hk0;split at h
   ·rename_i hc;split at h
    ·rename_i ks' hks';simp at h;subst h;have hp:P.plainKey f.type=true:=by
      unfold flatK at hk0;split at hk0<;>simp at hk0<;>rename_i hu<;>simp[Program.plainKey,hu]
     have hlt:f.offset<xs.size:=by rw[hc.1,hx];simp
     have p1:=run_part_plain (P:=P) w hp (xs:=xs) (off:=f.offset) (Array.getElem?_eq_getElem hlt)
     have p2:(Instr.checkKey em (n+1) f.type xs[f.offset]).run P w=.ok () w:=by
      unfold flatK at hk0;split at hk0<;>simp at hk0<;>rename_i hu<;>simp[Instr.checkKey,zb hu]
     simp only[List.forIn_cons,Sem.run_bind,hc.2,ne_eq,not_false_eq_true,if_true,Result.andThen_ok,p1,p2,Sem.run_pure];exact zgh fs (i+1) ks' hks' (by rw[hx];simp;omega)
    ·simp at h
   ·simp at h
  ·simp at h
theorem zdq (hti:zgu P kt=some ti) (h:ksOf ti=some sh) {b:Bool}{n:Nat}(hk:zcb key=sh):(Instr.checkKey b (n+2) kt (kvV key)).run P w=.ok () w:=by
 obtain ⟨inf,td,hi,hd,rfl⟩:=zi hti;rcases ksOf_td (td:=td) rfl h with ⟨k,rfl,rfl⟩|⟨rfl,rfl⟩|⟨rfl,rfl⟩|⟨ks,rfl,hf⟩
 ·simp[Instr.checkKey,zb hd]
 ·simp[Instr.checkKey,zb hd]
 ·simp[Instr.checkKey,zb hd]
 ·cases key with
  | st a =>
   simp only[zcb,KS.st.injEq] at hk;obtain ⟨fs,hd',hfs,_⟩:=zf0 hti hf hk;rw[show n+2=(n+1)+1 from rfl,Instr.checkKey];simp only[Sem.run_bind,zb hd',Result.andThen_ok,kvV];rw[<- Array.forIn_toList];have hc:=zgh (P:=P) (w:=w) (em:=b) (n:=n) (xs:=(a.map kaV).toArray) fs.toList 0 ks hfs (by rw[<- hk];simp)
   exact congrArg (fun r:Result PUnit=>r.andThen fun _ w'=>Sem.run P (pure ()) w') hc
  | i=>simp[zcb] at hk
  | s=>simp[zcb] at hk
  | b=>simp[zcb] at hk
theorem zcx:∀ {l:List D}{ks:List KA}{us:List Value},znq l=some ks->RepL M E l us->us=ks.map kaV
 | [],ks,us,h,hu=>by
  simp[znq] at h;subst h;simpa[RepL] using hu
 | d::l,ks,us,h,hu=>by
  simp only[RepL] at hu;obtain ⟨u,r,rfl,h1,h2⟩:=hu;unfold znq at h;split at h
  ·simp_all
  ·rename_i e1;simp at e1;obtain ⟨rfl,rfl⟩:=e1;split at h
   ·rename_i r' hr;simp at h;subst h;rw[zcx hr h2];simp only[Rep] at h1;subst h1;rfl
   ·simp at h
  ·rename_i e1;simp at e1;obtain ⟨rfl,rfl⟩:=e1;split at h
   ·rename_i r' hr;simp at h;subst h;rw[zcx hr h2];simp only[Rep] at h1;subst h1;rfl
   ·simp at h
  ·rename_i e1;simp at e1;obtain ⟨rfl,rfl⟩:=e1;split at h
   ·rename_i r' hr;simp at h;subst h;rw[zcx hr h2];simp only[Rep] at h1;subst h1;rfl
   ·simp at h
  ·simp at h
theorem kvOf_rep {d:D}{u:Value}(h:kvOf d=some key) (hu:Rep M E d u):u=kvV key:=by
 unfold kvOf at h;split at h
 ·simp at h;subst h;simpa only[Rep,kvV] using hu
 ·simp at h;subst h;simpa only[Rep,kvV] using hu
 ·simp at h;subst h;simpa only[Rep,kvV] using hu
 ·split at h
  ·rename_i ks hks;simp at h;subst h;simp only[Rep] at hu;obtain ⟨us,rfl,h1⟩:=hu;have:=zcx hks h1;simp only[kvV,<- this]
  ·simp at h
 ·simp at h
end
end Go.Sx
namespace Go.Sx
open Go Go.RowKit
variable {cs:Array Value}{t:TypeId}{ow':List Own}
section
variable {P:Program}{T:TT}{B:Nat}{w0 w w':World}{M0 M M':Mem}{E E':List Value}{ow:List Own}
theorem zb7 {α:Type}:∀ (l:List α) (o:Nat) (cs:List α),o+cs.length<=l.length->∃ l',splice l o cs=some l'
 | l,0,[],_=>⟨l,by simp[splice]⟩
 | [],0,c::cs,h=>by simp at h
 | x::l,0,c::cs,h=>by
  obtain ⟨l',hl⟩:=zb7 l 0 cs (by simp at h;omega)
  exact ⟨c::l',by simp[splice,hl]⟩
 | [],n+1,cs,h=>by simp at h
 | x::l,n+1,cs,h=>by
  obtain ⟨l',hl⟩:=zb7 l n cs (by simp at h;omega)
  exact ⟨x::l',by simp[splice,hl]⟩
theorem zbe (hW:WRel B w0 M0 M E ow w):∀ {cs:List D}{us:List Value},oneL cs=true->RepL M E cs us->∀ v∈us,v.oneCell'=true
 | [],us,_,h=>by simp[RepL] at h;subst h;simp
 | d::cs,us,h1,h=>by
  simp only[RepL] at h;obtain ⟨u,r,rfl,hu,hr⟩:=h;simp[oneL] at h1;intro v hv;simp at hv;rcases hv with rfl|hv
  ·exact zgq hW h1.1 hu
  ·exact zbe hW h1.2 hr v hv
theorem Rep.plain {d:D}{u:Value}(h:plain d=true) (hu:Rep M E d u):Rep M E' d u:=by
 cases d<;>simp[Sx.plain] at h<;>simpa only[Rep] using hu
theorem zbd:∀ {cs:List D}{j:Nat}{d:D},zcs cs=true->cs[j]?=some d->Sx.plain d=true
 | [],j,d,_,h=>by simp at h
 | c::cs,0,d,h1,h=>by simp[zcs] at h1;simp at h;subst h;exact h1.1
 | c::cs,j+1,d,h1,h=>by simp[zcs] at h1;simp at h;exact zbd h1.2 h
theorem zfd {i:TypeInfo}{b off:Nat}{tt:TypeId}{v:Value}{l':List Value}(hi:P.info? t=some i) (hsz:v.cells.size=i.size) (hb:w.heap[b]?=some (.cells cs tt (0,0))) (h1:∀ x∈v.cells.toList,x.oneCell'=true)
  (hs:splice cs.toList off v.cells.toList=some l'):
  ∃ w',(Instr.storeAt t (.pointer (some ⟨b,off,none⟩)) v).run P w=.ok () w'/\w'.heap[b]?=some (.cells l'.toArray tt (0,0))/\(∀ j,j≠b->w'.heap[j]?=w.heap[j]?)/\w'.heap.size=w.heap.size/\w'.os=w.os/\w'.tape=w.tape/\w'.output=w.output:=by
 obtain ⟨w',r1,r2⟩:=zbv (P:=P) (b:=b) (off:=off) (t:=tt) v.cells.toList 0 w cs l' hb h1 (by simpa using hs)
 refine ⟨w',?_,r2⟩
 simp only[Instr.storeAt,Sem.run_bind,zS,Result.andThen_ok,storeVar,zw hi];simp[hsz,r1]
theorem zjl {i:TypeInfo}{p d:D}{u x:Value}{cs:List D}{vs:List DP}(hi:P.info? t=some i) (hcs:zc6 d=some cs) (hlen:cs.length=i.size) (hst:zjm ow p d=some (vs,ow')) (hvs:xB vs) (hW:WRel B w0 M0 M E ow w) (hpr:Rep M E p u) (hx:Rep M E d x):
  ∃ w',(Instr.storeAt t u x).run P w=.ok () w'/\WRel B w0 M0 M E ow' w':=by
 have hr:=zdo hW hcs hx;have hcl:x.cells.size=i.size:=by have:=hr.length;simp at this;omega
 unfold zjm at hst;split at hst
 ·rename_i j off cs' hcs';rw[hcs] at hcs';simp at hcs';subst hcs';split at hst<;>try (simp at hst;done)
  rename_i tt l ho;split at hst<;>try (simp at hst;done)
  rename_i hone;split at hst<;>try (simp at hst;done)
  rename_i l' hsp;simp at hst;obtain ⟨rfl,rfl⟩:=hst;simp only[Rep] at hpr;obtain ⟨b,hE,rfl⟩:=hpr;have hH:=hW.holds _ _ _ ho hE;simp only[Holds] at hH;obtain ⟨b',cells,hb',hheap,hrl,hMb,hB⟩:=hH;simp at hb';subst hb';obtain ⟨us',h4,h5⟩:=RepL.splice hrl hr hsp;obtain ⟨w',r1,r2,r3,r4,r5,r6,r7⟩:=zfd (P:=P) (t:=t) hi hcl hheap (zbe hW hone hr) h4;refine ⟨w',r1,?_⟩
  refine hW.update (b:=b) ho rfl hE rfl r3 r4 r5 r6 r7 ?_;simp only[Holds];exact ⟨b,us'.toArray,rfl,r2,by simpa using h5,hMb,hB⟩
 ·rename_i j sz aa off cs' hcs';rw[hcs] at hcs';simp at hcs';subst hcs';split at hst<;>try (simp at hst;done)
  rename_i o ho;split at hst<;>try (simp at hst;done)
  rename_i e sz' n f hro;split at hst<;>try (simp at hst;done)
  rename_i hc;obtain ⟨rfl,hle,hpl,hone⟩:=hc;simp at hst;obtain ⟨rfl,rfl⟩:=hst;simp only[xB,and_true] at hvs;simp only[Rep] at hpr;obtain ⟨hv,b,hE,hb,rfl⟩:=hpr;have hfree:o.free=true:=by cases o<;>simp_all[zd7,Own.free]
  obtain ⟨xs,hown,hrep,hMg⟩:=(hW.holds _ _ _ ho hE).toRow hro;obtain ⟨g',cap,cur,rfl,h2,h3,h4,h5,h6⟩:=vm hown (by omega)
  simp[zne] at hb;subst hb;rw[xn,Nat.zero_add];have hlr:=hr.length;have hlen2:aa*sz+off+cs.length<=n*sz:=by
   have:(aa+1)*sz<=n*sz:=Nat.mul_le_mul_right _ (by omega)
   rw[Nat.add_mul] at this;omega
  have hcapn:n*sz<=cap*sz:=Nat.mul_le_mul_right _ h4;obtain ⟨l',hl'⟩:=zb7 cur.toList (aa*sz+off) x.cells.toList (by rw[<- hlr];simp;omega)
  obtain ⟨s1,s2,s3,s4⟩:=xT hl';obtain ⟨w',r1,r2,r3,r4,r5,r6,r7⟩:=zfd (P:=P) (t:=t) hi hcl h3 (zbe hW hone hr) hl';refine ⟨w',r1,?_⟩
  refine hW.update (b:=g') ho hfree hE rfl r3 r4 r5 r6 r7 ?_;have hxl:xs.length=n*sz:=hown.1;refine ⟨l'.take (n*sz),⟨by rw[List.length_take,s1];simp;omega,.inr ⟨g',cap,l'.toArray,rfl,h2,r2,h4,?_,?_,by simp⟩⟩,fun a' ha' j hj=>?_,hMg⟩
  ·rcases hown.2 with ⟨hh,_⟩|⟨_,_,_,hh,_,_,_,hh2,_⟩
   ·simp at hh
   ·simp at hh;obtain ⟨_,_,rfl⟩:=hh;exact hh2
  ·simp[s1,h5]
  ·obtain ⟨y,y1,y2,y3⟩:=hrep a' ha' j hj;have hpos:a'*sz+j<n*sz:=by
    have:(a'+1)*sz<=n*sz:=Nat.mul_le_mul_right _ (by omega)
    rw[Nat.add_mul] at this;omega
   have hy:cur.toList[a'*sz+j]?=some y:=by
    rw[<- h6,List.getElem?_take_of_lt hpos] at y1;exact y1
   rw[List.getElem?_take_of_lt hpos];by_cases haa:a'=aa
   ·subst haa;by_cases hoff:off<=j
    ·cases hcj:cs[j - off]? with
     | none =>
      have hjj:cs.length<=j - off:=by simpa using hcj
      refine ⟨y,?_,y2,by simpa[updF,hoff,hcj] using y3⟩
      rw[s4 _ (.inr (by rw[<- hlr];omega))];exact hy
     | some dc =>
      have hjj:=zE hcj;obtain ⟨uc,hu1,hu2⟩:=RepL.get hr hcj;refine ⟨uc,?_,zbe hW hone hr uc (List.mem_of_getElem? hu1),by simpa[updF,hoff,hcj] using hu2.plain (zbd hpl hcj)⟩
      have:=s3 (j - off) (by rw[<- hlr];exact hjj)
      rw[show a'*sz+off+(j - off)=a'*sz+j by omega] at this;rw[this];exact hu1
    ·refine ⟨y,?_,y2,by simpa[updF,hoff] using y3⟩
     rw[s4 _ (.inl (by omega))];exact hy
   ·refine ⟨y,?_,y2,by simpa[updF,haa] using y3⟩
    rw[s4 _ ?_];· exact hy
    rcases Nat.lt_or_gt_of_ne haa with hlt|hgt
    ·left;have:(a'+1)*sz<=aa*sz:=Nat.mul_le_mul_right _ (by omega)
     rw[Nat.add_mul] at this;omega
    ·right;have:(aa+1)*sz<=a'*sz:=Nat.mul_le_mul_right _ (by omega)
     rw[Nat.add_mul] at this;rw[<- hlr];omega
 ·simp at hst
theorem WRel.drop (h:WRel B w0 M0 M E ow w) (i:Nat):WRel B w0 M0 M E (zj ow i .gone) w:=by
 refine ⟨h.fits,h.base,h.below,by simp[zJ,h.len],fun j p v hp hv=>?_,fun j k p p' v v' b hp hp' hl1 hl2 hv hv' hb hb'=>?_,h.mle,h.new⟩
 ·rw[zt] at hp;split at hp
  ·rename_i hij;subst hij;split at hp<;>simp at hp;subst hp;exact zgq h (d:=.row i) rfl (by simp only[Rep];exact hv)
  ·exact h.holds _ _ _ hp hv
 ·have back:∀ (j:Nat) (p:Own),(zj ow i .gone)[j]?=some p->p.live=true->ow[j]?=some p:=by
   intro j p hp hl;rw[zt] at hp;split at hp
   ·split at hp<;>simp at hp;subst hp;simp[Own.live] at hl
   ·exact hp
  exact h.inj _ _ _ _ _ _ _ (back _ _ hp hl1) (back _ _ hp' hl2) hl1 hl2 hv hv' hb hb'
theorem WRel.endIn (h:WRel B w0 M0 M E ow w) {i:Nat}{o:Own}{v:Value}{b:Nat}(ho:ow[i]?=some o) (hf:o.free=true) (hv:E[i]?=some v) (hb:zL v=some b)
  (hw:∀ k,k≠b->w'.heap[k]?=w.heap[k]?) (hsz:w'.heap.size=w.heap.size) (hos:w'.os=w.os) (htape:w'.tape=w.tape) (hout:w'.output=w.output):WRel B w0 M0 M E (zj ow i .gone) w' :=
 h.update (o':=.gone) ho hf hv hb hw hsz hos htape hout (zgq h (d:=.row i) rfl (by simp only[Rep];exact hv))
theorem zn6 (w:World) (a:Addr) (n:Nat):(∀ k,k≠a.block->(w.freeze a n).heap[k]?=w.heap[k]?)/\(w.freeze a n).heap.size=w.heap.size/\(w.freeze a n).os=w.os/\(w.freeze a n).tape=w.tape/\(w.freeze a n).output=w.output:=by
 unfold World.freeze;split
 ·exact ⟨fun _ _=>rfl,rfl,rfl,rfl,rfl⟩
 ·refine ⟨fun k hk=>?_,by simp,rfl,rfl,rfl⟩
  rw[Array.getElem?_modify,if_neg (fun e=>hk e.symm)]
theorem byteTy_u8 (hT:TOk P T) {e:TypeId}(h:zgn T e=true):P.underlying e=some (.int .u8):=by
 unfold zgn at h;split at h
 ·rename_i hTe;obtain ⟨i,d,_,hd,hti⟩:=zi (hT _ _ hTe)
  have hk:TK.int .u8=zeg P d:=congrArg TI.kind hti;rw[hd,zcj hk.symm]
 ·exact absurd h (by decide)
theorem zeros_eq1 {zv:Value}{n:Nat}(hz:0<zv.cells.size):((Array.range (n*zv.cells.size)).map (zv.cells[· % zv.cells.size]!)).toList=(List.range (n*zv.cells.toList.length)).map fun i=>zv.cells.toList.getD (i % zv.cells.toList.length) (.tuple #[]):=by
 rw[Array.toList_map,Array.toList_range];have hl:zv.cells.toList.length=zv.cells.size:=by simp
 rw[hl];refine List.map_congr_left fun i _=>?_;have h1:i % zv.cells.size<zv.cells.size:=Nat.mod_lt _ hz;simp[getElem!_pos,h1]
theorem WRel.mark (h:WRel B w0 M0 M E ow w) {i b:Nat}{l:List D}{fr:Nat × Nat}(ho:ow[i]?=some (.cells t l)) (hE:E[i]?=some (.pointer (some ⟨b,0,none⟩)))
  (hb:w'.heap[b]?=some (.cells cs t fr)) (hw:∀ k,k≠b->w'.heap[k]?=w.heap[k]?) (hsz:w'.heap.size=w.heap.size) (hos:w'.os=w.os) (htape:w'.tape=w.tape) (hout:w'.output=w.output):
  ∃ M',M.le M'/\WRel B w0 M0 M' E (zj ow i .gone) w'/\∀ j,M'.cell ⟨b,j,none⟩=cs[j]?:=by
 have hlt:=(h.holds _ _ _ ho hE).lt rfl (b:=b) rfl;have hMb:M b=none:=hlt.2.2 rfl;have h1:WRel B w0 M0 M E (zj ow i .gone) w':=h.update ho rfl hE rfl hw hsz hos htape hout (o':=.gone) (by simp only[Holds];rfl)
 have hle:M.le (fun c=>if c=b then some (.cells cs t fr) else M c):=fun c x hc=>by
  have:c≠b:=fun e=>by subst e;rw[hMb] at hc;simp at hc
  simp[this,hc]
 refine ⟨fun c=>if c=b then some (.cells cs t fr) else M c,hle,⟨fun c x hc=>?_,h1.base,h1.below,h1.len,fun j p u hp hu=>?_,h1.inj,zp h1.mle hle,fun c x hc=>?_⟩,fun j=>by simp[Mem.cell]⟩
 ·by_cases hcb:c=b
  ·subst hcb;simp at hc;subst hc;exact hb
  ·simp[hcb] at hc;exact h1.fits _ _ hc
 ·have hHj:=h1.holds _ _ _ hp hu;refine hHj.frame (fun _ _ _=>rfl) hle (zc _) (fun c hf hc=>?_)
  have hn:=(hHj.lt (Own.free_live hf) hc).2.2 hf;have hcb:c≠b:=by
   intro e;subst e;rw[zt] at hp;split at hp
   ·rename_i hij;subst hij;rw[if_pos (zE ho)] at hp;simp at hp;subst hp;simp[Own.free] at hf
   ·rename_i hij;exact hij (h.inj _ _ _ _ _ _ _ ho hp rfl (Own.free_live hf) hE hu rfl hc)
  simp[hcb,hn]
 ·by_cases hcb:c=b
  ·subst hcb;exact .inr hlt.2.1
  ·simp[hcb] at hc;exact h1.new _ _ hc
theorem zn5 (w:World) {b:Nat}(h:w.heap[b]?=some (.cells cs t (0,0))) (n:Nat):(w.freeze ⟨b,n,none⟩ 1).heap[b]?=some (.cells cs t (n,n+1))/\(∀ k,k≠b->(w.freeze ⟨b,n,none⟩ 1).heap[k]?=w.heap[k]?)/\(w.freeze ⟨b,n,none⟩ 1).heap.size=w.heap.size/\(w.freeze ⟨b,n,none⟩ 1).os=w.os/\(w.freeze ⟨b,n,none⟩ 1).tape=w.tape/\(w.freeze ⟨b,n,none⟩ 1).output=w.output:=by
 unfold World.freeze;rw[if_neg (by decide)];refine ⟨?_,fun k hk=>?_,by simp,rfl,rfl,rfl⟩
 ·simp[Array.getElem?_modify,h]
 ·simp[Array.getElem?_modify,Ne.symm hk]
theorem zf7 (hT:TOk P T) {op:Op}{g:zib}{ρ:Operand->Value}{vs:List DP}{d:D}(h:zl5 T op g ow=some (vs,d,ow')) (hvs:xB vs) (hg:∀ x d,g x=some d->Rep M E d (ρ x)) (hW:WRel B w0 M0 M E ow w)
  (dst:Option Tmp) (ty:TypeId) (pos:String) (after:Array Edge) (guard:Option (Nat × Bool)):∃ u w' M' E',((execOp ρ ⟨dst,op,ty,pos,after,guard⟩).run P w=.ok (.value u) w'\/((execOp ρ ⟨dst,op,ty,pos,after,guard⟩).run P w=.ok .skip w'/\u=undef)) /\
   M.le M'/\Rep M' E' d u/\WRel B w0 M0 M' E' ow' w'/\EnvLe E E':=by
 unfold zl5 at h;split at h
 case h_1 e =>
  split at h<;>try (simp at h;done)
  rename_i hTt;simp at h;obtain ⟨rfl,rfl,rfl⟩:=h;obtain ⟨i,td,hi,hd,he⟩:=zi (hT _ _ hTt)
  simp only[TI.mk.injEq] at he;obtain ⟨zv,hzv,hzc⟩:=Option.map_eq_some_iff.1 he.2.2.1.symm;refine ⟨_,_,M,_,.inl (by simp[execOp,Instr.alloc,yO hi hzv,newVar,newRow];rfl),za _,?_,hW.alloc (cs:=zv.cells) (by rw[hzc];exact RepL.vals _),zu _ _⟩
  simp only[Rep];exact ⟨_,by rw[<- hW.len,List.getElem?_append_right (Nat.le_refl _)];simp,rfl⟩
 case h_2 e x =>
  split at h<;>try (simp at h;done)
  rename_i d' hx;split at h<;>try (simp at h;done)
  rename_i cs hcs;split at h<;>try (simp at h;done)
  simp at h;obtain ⟨rfl,rfl,rfl⟩:=h;have hr:=zdo hW hcs (hg _ _ hx)
  refine ⟨_,_,M,_,.inl (by simp[execOp,Instr.box,newVar,newRow];rfl),za _,?_,hW.alloc (cs:=(ρ x).cells) hr,zu _ _⟩
  simp only[Rep];exact ⟨_,by rw[<- hW.len,List.getElem?_append_right (Nat.le_refl _)];simp,rfl⟩
 case h_3 t =>
  split at h<;>try (simp at h;done)
  rename_i e esz by' mo hTt;simp at h;obtain ⟨rfl,rfl,rfl⟩:=h;obtain ⟨i,td,hi,hd,he⟩:=zi (hT _ _ hTt)
  simp only[TI.mk.injEq] at he;obtain ⟨rfl,ei,hei,rfl,rfl⟩:=zM he.2.2.2.1.symm;refine ⟨.slice (some ⟨w.heap.size,0,none⟩) 0 0,w.alloc (.cells #[] e (0,0)),M,E++[.slice (some ⟨w.heap.size,0,none⟩) 0 0],.inl ?_,za _,?_,hW.allocRow,zu _ _⟩
  ·simp[execOp,Instr.buildSlice,zb hd,zw hei,Instr.fill,newRow];have h0:Array.map (fun (_:Nat)=>(default:Value)) (Array.range 0) = #[]:=by simp
   rw[h0]
  ·simp only[Rep];rw[<- hW.len,List.getElem?_append_right (Nat.le_refl _)];simp
 case h_4 t a x =>
  split at h<;>try (simp at h;done)
  rename_i ti p dd hTt hp hx;obtain ⟨M1,d',ow1,hle,hW1,hd1,h⟩:∃ M1 d' ow1,M.le M1/\WRel B w0 M0 M1 E ow1 w/\Rep M1 E d' (ρ x)/\(match zc6 d' with
    | some cs=>if cs.length=ti.size then (match zjm ow1 p d' with|some (vs,ow')=>some (vs,D.junk,ow')|none=>none) else none
    | none=>none)=some (vs,d,ow'):=by
   split at h;rename_i d' ow1 heq;split at heq
   ·obtain ⟨M1,h1,h2,h3⟩:=zcz dd heq hW (hg _ _ hx)
    exact ⟨M1,d',ow1,h1,h2,h3,h⟩
   ·simp at heq;obtain ⟨rfl,rfl⟩:=heq;exact ⟨M,_,_,za _,hW,hg _ _ hx,h⟩
  split at h<;>try (simp at h;done)
  rename_i cs hcs;split at h<;>try (simp at h;done)
  rename_i hlen;split at h<;>try (simp at h;done)
  rename_i vs' ow'' hst;simp at h;obtain ⟨rfl,rfl,rfl⟩:=h;obtain ⟨i,td,hi,hd,he⟩:=zi (hT _ _ hTt)
  rw[he] at hlen;obtain ⟨w',r1,r2⟩:=zjl (P:=P) (t:=t) hi hcs hlen hst hvs hW1 (Rep.mono hle (zc _) _ _ (hg _ _ hp)) hd1;exact ⟨undef,w',M1,E,.inr ⟨by simp[execOp,r1],rfl⟩,hle,by simp[Rep],r2,zc _⟩
 case h_5 t =>
  split at h<;>try (simp at h;done)
  rename_i k v hTt;split at h<;>try (simp at h;done)
  rename_i ki hTk;split at h<;>try (simp at h;done)
  rename_i sh hsh;simp at h;obtain ⟨rfl,rfl,rfl⟩:=h;refine ⟨.map (some w.heap.size),w.alloc (.map #[] 0),M,E++[.pointer (some ⟨w.heap.size,0,none⟩)],.inl ?_,za _,?_,?_,zu _ _⟩
  ·simp[execOp,Instr.makeMap]
  ·simp only[Rep];exact ⟨w.heap.size,by rw[<- hW.len,List.getElem?_append_right (Nat.le_refl _)];simp,rfl⟩
  ·refine hW.allocOwn (.inl rfl) ?_;simp only[Holds];refine ⟨w.heap.size,#[],0,rfl,heap_alloc_new _ _,⟨fun k d h=>by simp at h,fun k _ e he=>by simp at he,fun e he=>by simp at he,fun j j' e e' he=>by simp at he⟩,hW.fresh,hW.base⟩
 case h_6 t m k x =>
  split at h<;>try (simp at h;done)
  rename_i kt vt i kd dd hTt hm hk hx;split at h<;>try (simp at h;done)
  rename_i ki kt' vt' sh f key hTk ho hkv;split at h<;>try (simp at h;done)
  rename_i hc;obtain ⟨rfl,rfl,hsh,hks⟩:=hc;simp at h;obtain ⟨rfl,rfl,rfl⟩:=h;obtain ⟨i1,td,hi1,hd1,he1⟩:=zi (hT _ _ hTt)
  simp only[TI.mk.injEq] at he1;obtain rfl:=tkOf_map he1.2.2.2.1.symm;have hmv:=hg _ _ hm;simp only[Rep] at hmv;obtain ⟨b,hE,hmu⟩:=hmv;have hH:=hW.holds _ _ _ ho hE;simp only[Holds] at hH;obtain ⟨b',es,ck,hb',hheap,hmr,hMb,hB⟩:=hH;simp at hb';subst hb';have hku:=kvOf_rep hkv (hg _ _ hk)
  obtain ⟨r,hr1,hr2⟩:=zfe (P:=P) (w:=w) (hT _ _ hTk) hsh hks hmr.keys;have hck:=zdq (P:=P) (w:=w) (b:=false) (n:=9998) (hT _ _ hTk) hsh hks;have hset:∀ ob:Obj,(setObj b ob).run P w=.ok () { w with heap:=w.heap.setIfInBounds b ob }:=fun ob=>by simp[setObj,Sem.run,hheap]
  have hgetm:(getObj b).run P w=.ok (.map es ck) w:=by simp[getObj,Sem.run,hheap]
  have hbl:b<w.heap.size:=yP hheap;have fin:∀ (es':Array MapEntry) (ck':Nat),MapRep M E sh (fun k'=>if k'=key then some dd else f k') es'.toList->WRel B w0 M0 M E (zj ow i (.map kt' vt' sh fun k'=>if k'=key then some dd else f k')) { w with heap:=w.heap.setIfInBounds b (.map es' ck') }:=by
   intro es' ck' hmr';refine hW.update (b:=b) ho rfl hE rfl (fun k hk=>?_) (by simp) rfl rfl rfl ?_
   ·rw[Array.getElem?_setIfInBounds_ne (fun e=>hk e.symm)]
   ·simp only[Holds];exact ⟨b,es',ck',rfl,by simp[hbl],hmr',hMb,hB⟩
  have same:∀ v:KV,Instr.sameBits 10000 (kvV v) (kvV v)=true:=by
   intro v;exact zm8 v
  cases r with
  | none =>
   refine ⟨undef,{ w with heap:=w.heap.setIfInBounds b (.map (es.push { key:=kvV key,val:=ρ x,born:=ck }) (ck+1)) },M,E,.inr ⟨?_,rfl⟩,za _,by simp[Rep],fin _ _ ?_,zc _⟩
   ·simp[execOp,Instr.mapUpdate,zb hd1,hmu,hku,hgetm,hck,hr1,hset]
   ·simp only[FindOk] at hr2;refine ⟨fun k d hkd=>?_,fun k hkn e he=>?_,fun e he=>?_,fun j j' e e' he he' hkk=>?_⟩
    ·by_cases hkk:k=key
     ·subst hkk;simp at hkd;subst hkd;exact ⟨es.size,{ key:=kvV k,val:=ρ x,born:=ck },by simp,rfl,hg _ _ hx⟩
     ·simp[hkk] at hkd;obtain ⟨j,e,h1,h2,h3⟩:=hmr.has k d hkd;exact ⟨j,e,by rw[Array.toList_push,List.getElem?_append_left (zE h1)];exact h1,h2,h3⟩
    ·by_cases hkk:k=key
     ·subst hkk;simp at hkn
     ·simp[hkk] at hkn;simp at he;rcases he with he|rfl
      ·exact hmr.lacks k hkn e (by simpa using he)
      ·exact fun e=>hkk (zi8 e).symm
    ·simp at he;rcases he with he|rfl
     ·exact hmr.keys e (by simpa using he)
     ·exact ⟨key,rfl,hks⟩
    ·simp only[Array.toList_push] at he he';rcases zl he with h1|⟨rfl,rfl⟩<;>rcases zl he' with h2|⟨rfl,rfl⟩
     ·exact hmr.once _ _ _ _ h1 h2 hkk
     ·exact absurd hkk (hr2 e (List.mem_of_getElem? h1))
     ·exact absurd hkk.symm (hr2 e' (List.mem_of_getElem? h2))
     ·rfl
  | some p =>
   obtain ⟨j0,v0⟩:=p;simp only[FindOk,Nat.sub_zero] at hr2;obtain ⟨_,e0,he0,hk0,hv0⟩:=hr2;have hj0:es[j0]?=some e0:=by simpa using he0
   refine ⟨undef,{ w with heap:=w.heap.setIfInBounds b (.map (es.modify j0 fun e=>{ e with key:=kvV key,val:=ρ x }) ck) },M,E,.inr ⟨?_,rfl⟩,za _,by simp[Rep],fin _ _ ?_,zc _⟩
   ·simp[execOp,Instr.mapUpdate,zb hd1,hmu,hku,hgetm,hck,hr1,hset,Instr.keyThatStays,hj0,hk0,same]
   ·have hmod:∀ (j:Nat) (e:MapEntry),(es.modify j0 fun e=>{ e with key:=kvV key,val:=ρ x }).toList[j]?=some e->(j=j0/\e.key=kvV key/\e.val=ρ x)\/(j≠j0/\es.toList[j]?=some e):=by
     intro j e he;by_cases hj:j=j0
     ·subst hj;left;rw[Array.getElem?_toList,Array.getElem?_modify,if_pos rfl,hj0] at he;simp at he;rw[<- he];exact ⟨rfl,rfl,rfl⟩
     ·right;refine ⟨hj,?_⟩
      rw[Array.getElem?_toList,Array.getElem?_modify,if_neg (fun e=>hj e.symm)] at he;simpa using he
    have hold:∀ (j:Nat) (e:MapEntry),j≠j0->es.toList[j]?=some e->(es.modify j0 fun e=>{ e with key:=kvV key,val:=ρ x }).toList[j]?=some e:=by
     intro j e hj he;rw[Array.getElem?_toList,Array.getElem?_modify,if_neg (fun e=>hj e.symm)];simpa using he
    refine ⟨fun k d hkd=>?_,fun k hkn e he=>?_,fun e he=>?_,fun j j' e e' he he' hkk=>?_⟩
    ·by_cases hkk:k=key
     ·subst hkk;simp at hkd;subst hkd;exact ⟨j0,{ e0 with key:=kvV k,val:=ρ x },by rw[Array.getElem?_toList,Array.getElem?_modify,if_pos rfl,hj0];rfl,rfl,hg _ _ hx⟩
     ·simp[hkk] at hkd;obtain ⟨j,e,h1,h2,h3⟩:=hmr.has k d hkd;have:j≠j0:=fun e'=>by subst e';rw[he0] at h1;simp at h1;subst h1;rw[hk0] at h2;exact hkk (zi8 h2).symm
      exact ⟨j,e,hold j e this h1,h2,h3⟩
    ·by_cases hkk:k=key
     ·subst hkk;simp at hkn
     ·simp[hkk] at hkn;obtain ⟨j,hj⟩:=List.getElem?_of_mem he;rcases hmod j e hj with ⟨_,h1,_⟩|⟨_,h1⟩
      ·rw[h1];exact fun e=>hkk (zi8 e).symm
      ·exact hmr.lacks k hkn e (List.mem_of_getElem? h1)
    ·obtain ⟨j,hj⟩:=List.getElem?_of_mem he;rcases hmod j e hj with ⟨_,h1,_⟩|⟨_,h1⟩
     ·exact ⟨key,h1,hks⟩
     ·exact hmr.keys e (List.mem_of_getElem? h1)
    ·rcases hmod j e he with ⟨rfl,h1,_⟩|⟨hne,h1⟩<;>rcases hmod j' e' he' with ⟨rfl,h2,_⟩|⟨hne',h2⟩
     ·rfl
     ·exact absurd (hmr.once _ _ _ _ he0 h2 (by rw[hk0,<- h1,hkk])) (fun e=>hne' e.symm)
     ·exact absurd (hmr.once _ _ _ _ h1 he0 (by rw[hkk,h2,hk0])) hne
     ·exact hmr.once _ _ _ _ h1 h2 hkk
 case h_7 t x lo hi =>
  split at h<;>try (simp at h;done)
  rename_i e s by' i l hh hTt hx hl hhh;split at h<;>try (simp at h;done)
  rename_i sz n f ow1 heq;split at h<;>try (simp at h;done)
  rename_i hsz;split at h<;>try (simp at h;done)
  rename_i vs' d' hev;simp at h;obtain ⟨rfl,rfl,rfl⟩:=h;obtain ⟨M1,hle,hW1,hr1⟩:=zcz (.row i) heq hW (hg _ _ hx)
  obtain ⟨ii,td,hii,hd,he⟩:=zi (hT _ _ hTt)
  simp only[TI.mk.injEq] at he;obtain ⟨rfl,ei,hei,rfl,rfl⟩:=zM he.2.2.2.1.symm;subst hsz;obtain ⟨z,h1,h2⟩:=vw (P:=P) (w:=w) (M:=M1) (E:=E) hd hei (fun _ _ _ e=>by simp at e;exact e.1.symm) hev hvs hr1 (ui (fun x d hx=>Rep.mono hle (zc _) _ _ (hg x d hx)) hl) (ui (fun x d hx=>Rep.mono hle (zc _) _ _ (hg x d hx)) hhh)
  exact ⟨z,w,M1,E,.inl (by simp[execOp,h1]),hle,h2,hW1,zc _⟩
 case h_8 p n pt it =>
  split at h
  ·rename_i hp hn;simp at h;obtain ⟨rfl,rfl,rfl⟩:=h;have h1:=hg _ _ hp;have h2:=hg _ _ hn;simp only[Rep] at h1 h2;refine ⟨_,w,M,E,.inl ?_,za _,zk _,hW,zc _⟩
   simp[execOp,resolve,invoke,builtin,h1,h2,Lib.run_unsafeString_none];rfl
  ·rename_i i m hp hn;split at h<;>try (simp at h;done)
   rename_i e s ho;split at h<;>try (simp at h;done)
   rename_i e' mo hTp;split at h<;>try (simp at h;done)
   rename_i hee;subst hee;split at h<;>try (simp at h;done)
   rename_i hTe;simp at h;obtain ⟨rfl,rfl,rfl⟩:=h;simp only[xB,and_true] at hvs;subst hvs;have h1:=hg _ _ hp;have h2:=hg _ _ hn;simp only[Rep] at h1 h2;obtain ⟨a,nn,c,q,hE,hpu,hq1,hq2⟩:=h1;have hH:=hW.holds _ _ _ ho hE;simp only[Holds] at hH;obtain ⟨⟨xs,hown,hrep,hMg⟩,hcap⟩:=hH;obtain ⟨i1,td1,hi1,hd1,he1⟩:=zi (hT _ _ hTp)
   simp only[TI.mk.injEq] at he1;obtain rfl:=zef he1.2.2.2.1.symm;obtain ⟨i2,td2,hi2,hd2,he2⟩:=zi (hT _ _ hTe)
   simp only[TI.mk.injEq] at he2;have hss:s.size=s.data.toList.length:=rfl;have hs:(⟨⟨s.data.toList⟩⟩:ByteArray)=s:=rfl;by_cases h0:s.size=0
   ·refine ⟨.string s,w,M,E,.inl ?_,za _,zk _,hW.drop i,zc _⟩
    have hse:s=.empty:=by
     rw[<- hs];have:s.data.toList=[]:=by rw[hss] at h0;exact List.length_eq_zero_iff.1 h0
     rw[this];rfl
    have:=Lib.run_unsafeString_none (P:=P) w pt it ty q;rw[h0] at h2;simp at h2;simp[execOp,resolve,invoke,builtin,hpu,h2];rw[this,hse];rfl
   ·rcases hown.2 with ⟨hv,hz⟩|⟨g',cap,cur,hv,hB,hg',hnc,hcm,hcs,htake⟩
    ·exact absurd hz h0
    ·simp at hv;obtain ⟨rfl,rfl,rfl⟩:=hv;have hq:=hq2 _ rfl (hcap _ _ _ rfl)
     subst hq;have hsz1:P.cellsOf e'=1:=by simp[Program.cellsOf,hi2];omega
     have hcell:∀ (j:Nat) (x:UInt8),s.data.toList[j]?=some x->w.cell? ((⟨g',0,none⟩:Addr).add j)=some (.int .u8 x.toNat):=by
      intro j x hj;have hjl:=zE hj;obtain ⟨y,y1,_,y3⟩:=hrep j (by omega) 0 (by omega)
      simp only[vK,Rep] at y3;rw[xn,Nat.zero_add,cell_of_row w g' j cur e' (0,0) hg',<- Array.getElem?_toList];have y1':xs[j]?=some y:=by simpa using y1
      rw[<- htake,List.getElem?_take_of_lt (by omega)] at y1';rw[y1',y3,bAt,hj];rfl
     have hrun:=Lib.run_unsafeString_row (P:=P) w pt it ty e' hd1 hsz1 g' cur.size (by simp[World.shape?,hg']) s.data.toList (fun e=>h0 (by rw[hss,e];rfl)) (by rw[hcs];omega) (by rw[<- hss];simp only[maxLen] at hcm;omega) hcell;obtain ⟨f1,f2,f3,f4,f5⟩:=zn6 w ⟨g',0,none⟩ s.data.toList.length;refine ⟨.string s,w.freeze ⟨g',0,none⟩ s.data.toList.length,M,E,.inl ?_,za _,zk _,hW.endIn (b:=g') ho rfl hE rfl f1 f2 f3 f4 f5,zc _⟩
     rw[hss] at h2;simp[execOp,resolve,invoke,builtin,hpu,h2];simp at hrun;rw[hrun];rfl
  ·simp at h
 case h_9 t x =>
  split at h<;>try (simp at h;done)
  rename_i mo s hTt hx;simp at h;obtain ⟨rfl,rfl,rfl⟩:=h;obtain ⟨i1,td,hi1,hd1,he1⟩:=zi (hT _ _ hTt)
  simp only[TI.mk.injEq] at he1;obtain rfl:=uA he1.2.2.2.1.symm;have hxs:=hg _ _ hx;simp only[Rep] at hxs;refine ⟨.pointer (some ⟨w.heap.size,0,none⟩),w.alloc (.stringIter s 0),M,E++[.pointer (some ⟨w.heap.size,0,none⟩)],.inl ?_,za _,?_,?_,zu _ _⟩
  ·simp[execOp,Instr.range,zb hd1,hxs]
  ·simp only[Rep];exact ⟨w.heap.size,by rw[<- hW.len,List.getElem?_append_right (Nat.le_refl _)];simp,rfl⟩
  ·refine hW.allocOwn (.inl rfl) ?_;simp only[Holds];exact ⟨w.heap.size,rfl,heap_alloc_new _ _,hW.fresh,hW.base⟩
 case h_10 x =>
  split at h<;>try (simp at h;done)
  rename_i i hx;split at h<;>try (simp at h;done)
  rename_i s pos ho;have hxs:=hg _ _ hx;simp only[Rep] at hxs;obtain ⟨b,hE,hxs⟩:=hxs;have hH:=hW.holds _ _ _ ho hE;simp only[Holds] at hH;obtain ⟨b',hb',hheap,hMb,hB⟩:=hH;simp at hb';subst hb';have hget:(getObj b).run P w=.ok (.stringIter s pos) w:=by simp[getObj,Sem.run,hheap]
  have hbl:b<w.heap.size:=yP hheap;split at h
  ·rename_i hlt;simp at h;obtain ⟨rfl,rfl,rfl⟩:=h;have hset:∀ ob:Obj,(setObj b ob).run P w=.ok () { w with heap:=w.heap.setIfInBounds b ob }:=fun ob=>by simp[setObj,Sem.run,hheap]
   refine ⟨.tuple #[.bool true,.int .i64 pos,.int .i32 (Utf8.decode s pos).1],{ w with heap:=w.heap.setIfInBounds b (.stringIter s (pos+(Utf8.decode s pos).2)) },M,E,.inl ?_,za _,?_,?_,zc _⟩
   ·simp[execOp,Instr.next,hxs,hget,hlt,hset,goInt]
   ·simp only[Rep];exact ⟨_,rfl,RepL.cons (zk _) (RepL.cons (zk _) (RepL.cons (zk _) RepL.nil))⟩
   ·refine hW.update (b:=b) ho rfl hE rfl (fun k hk=>?_) (by simp) rfl rfl rfl ?_
    ·rw[Array.getElem?_setIfInBounds_ne (fun e=>hk e.symm)]
    ·simp only[Holds];exact ⟨b,rfl,by simp[hbl],hMb,hB⟩
  ·rename_i hlt;simp at h;obtain ⟨rfl,rfl,rfl⟩:=h;refine ⟨.tuple #[.bool false],w,M,E,.inl ?_,za _,?_,hW,zc _⟩
   ·simp[execOp,Instr.next,hxs,hget,hlt]
   ·simp only[Rep];exact ⟨_,rfl,RepL.cons (zk _) RepL.nil⟩
 case h_11 t l c =>
  split at h<;>try (simp at h;done)
  rename_i e esz by' mo k1 n1 k2 n2 hTt hl hc;split at h<;>try (simp at h;done)
  rename_i sz0 ag z kk fl hTe;split at h<;>try (simp at h;done)
  rename_i hcond;obtain ⟨hzl,hpos,hs0,hone⟩:=hcond;simp only[Option.some.injEq,Prod.mk.injEq] at h;obtain ⟨rfl,rfl,rfl⟩:=h;simp only[xB,and_true] at hvs;obtain ⟨h0,rfl,hcells,hbytes⟩:=hvs;obtain ⟨i1,td,hi1,hd1,he1⟩:=zi (hT _ _ hTt)
  simp only[TI.mk.injEq] at he1;obtain ⟨rfl,ei,hei,rfl,rfl⟩:=zM he1.2.2.2.1.symm;obtain ⟨i2,td2,hi2,hd2,he2⟩:=zi (hT _ _ hTe)
  simp only[TI.mk.injEq] at he2;rw[hei] at hi2;simp at hi2;subst hi2;obtain ⟨zv,hzv,hzc⟩:=Option.map_eq_some_iff.1 he2.2.2.1.symm;have hzs:zv.cells.size=ei.size:=by rw[<- hzl,<- hzc];simp
  have hxl:=hg _ _ hl;have hxc:=hg _ _ hc;simp only[Rep] at hxl hxc;obtain ⟨n,rfl⟩:∃ n:Nat,n1=(n:Int):=⟨n1.toNat,by omega⟩
  simp only[Int.toNat_natCast] at hcells hbytes;have hn63:n<=16777216:=Nat.le_trans (Nat.le_mul_of_pos_right n hpos) hcells;have hb':(ei.bytes:Int)*(n:Int)<=281474976710656:=by
   have:((ei.bytes*n:Nat):Int)<=281474976710656:=by omega
   rwa [Int.natCast_mul] at this
  have hrun:=run_makeSlice (P:=P) w t e ei zv hd1 hei hzv k1 k2 n n (by omega) (Int.le_refl _) (by simpa using hcells) hb' (by omega)
  simp only[Int.toNat_natCast] at hrun;refine ⟨.slice (some ⟨w.heap.size,0,none⟩) n n,w.alloc (.cells (madeCells zv.cells (n*ei.size)) e),M,E++[.slice (some ⟨w.heap.size,0,none⟩) n n],.inl ?_,za _,?_,?_,zu _ _⟩
  ·simp[execOp,hxl,hxc,hrun]
  ·simp only[Rep];rw[<- hW.len,List.getElem?_append_right (Nat.le_refl _)];simp
  ·refine hW.allocOwn (.inl rfl) ?_;simp only[Holds,HoldsRow,Int.toNat_natCast];refine ⟨_,World.ownsRow_lit w _ n hW.base (by simp only[maxLen];omega) (size_madeCells _ _),fun a ha j hj=>?_,fun g hgb=>?_⟩
   ·refine ⟨z.getD j undef,?_,?_,zk _⟩
    ·have hlt:a*ei.size+j<n*ei.size:=by
      have:(a+1)*ei.size<=n*ei.size:=Nat.mul_le_mul_right _ ha;rw[Nat.succ_mul] at this;omega
     have hm:(a*ei.size+j) % ei.size=j:=by rw[Nat.mul_comm,Nat.mul_add_mod];exact Nat.mod_eq_of_lt hj
     have hjz:j<zv.cells.size:=by rw[hzs];exact hj
     rw[Array.getElem?_toList];simp only[madeCells,Array.getElem?_map,hzs];rw[Array.getElem?_eq_getElem (by simpa using hlt)];simp only[Option.map_some,Array.getElem_range,hm,<- hzc];rw[List.getD_eq_getElem?_getD,Array.getElem?_toList,Array.getElem?_eq_getElem hjz];simp[hjz]
    ·have hjz:j<z.length:=by rw[hzl];exact hj
     rw[List.all_eq_true] at hone;have:=hone z[j] (List.getElem_mem _)
     rw[List.getD_eq_getElem?_getD,List.getElem?_eq_getElem hjz];simpa using this
   ·simp[Value.ownBlock] at hgb;subst hgb;exact hW.fresh
 case h_12 t ps =>
  split at h<;>try (simp at h;done)
  rename_i e by' mo hTt;split at h<;>try (simp at h;done)
  rename_i z ds hTe hps;split at h<;>try (simp at h;done)
  rename_i hcond;obtain ⟨hby,hzl⟩:=hcond;split at h<;>try (simp at h;done)
  rename_i cs hfill;simp only[Option.some.injEq,Prod.mk.injEq] at h;obtain ⟨rfl,rfl,rfl⟩:=h;obtain ⟨i1,td,hi1,hd1,he1⟩:=zi (hT _ _ hTt)
  simp only[TI.mk.injEq] at he1;obtain ⟨rfl,ei,hei,hes,_⟩:=zM he1.2.2.2.1.symm;obtain ⟨i2,td2,hi2,hd2,he2⟩:=zi (hT _ _ hTe)
  simp only[TI.mk.injEq] at he2;rw[hei] at hi2;simp at hi2;subst hi2;obtain ⟨zv,hzv,hzc⟩:=Option.map_eq_some_iff.1 he2.2.2.1.symm;have hzs:zv.cells.size=1:=by rw[<- hzl,<- hzc];simp
  have hz0:=zeros_eq1 (zv:=zv) (n:=3) (by omega)
  have hP:RepP M E ds (ps.map fun x=>(x.1,ρ x.2)).toList:=by simpa using uo hg hps
  obtain ⟨us',h1,h2⟩:=zbg hW (place:=fun i=>some (i*1,1)) (fun _=>rfl) hP hfill (us:=(Array.range (3*zv.cells.size)).map (zv.cells[· % zv.cells.size]!)) (by
   rw[hz0,hzc];exact RepL.vals _)
  refine ⟨.slice (some ⟨w.heap.size,0,none⟩) 3 3,w.alloc (.cells us' e (0,0)),M,E++[.pointer (some ⟨w.heap.size,0,none⟩)],.inl ?_,za _,?_,hW.alloc h2,zu _ _⟩
  ·rw[hzs] at h1;have hes':ei.size=1:=hes.symm;simp only[execOp,Instr.buildSlice,Sem.run_bind,zb hd1,Result.andThen_ok,zw hei,hes'];simp only[show ¬(3*1>2 ^ 24) by decide,show (3*1:Nat)≠0 by decide,if_false,Sem.run_bind,yO hei hzv,Result.andThen_ok,Sem.run_pure];rw[hzs,h1];simp[newRow]
  ·simp only[Rep];exact ⟨w.heap.size,0,3,by rw[<- hW.len,List.getElem?_append_right (Nat.le_refl _)];simp,rfl,Nat.le_refl _,fun _=>rfl⟩
 case h_13 ta tb x =>
  split at h<;>try (simp at h;done)
  rename_i e by' mo i n hTa hx;split at h<;>try (simp at h;done)
  rename_i e' l ho;split at h<;>try (simp at h;done)
  rename_i hc;obtain ⟨rfl,hl,hn,hby,hpl,hone⟩:=hc;simp only[Option.some.injEq,Prod.mk.injEq] at h;obtain ⟨rfl,rfl,rfl⟩:=h;obtain ⟨i1,td,hi1,hd1,he1⟩:=zi (hT _ _ hTa)
  simp only[TI.mk.injEq] at he1;obtain ⟨rfl,ei,hei,_,_⟩:=zM he1.2.2.2.1.symm;have he:=byteTy_u8 hT hby;have h1:=hg _ _ hx;simp only[Rep] at h1;obtain ⟨b0,o,cap,hE,hu,hcap,hoff⟩:=h1;obtain rfl:=hoff hn;have hH:=hW.holds _ _ _ ho hE;simp only[Holds] at hH;obtain ⟨b',cs,hb',hheap,hrep,_,_⟩:=hH;simp at hb';subst hb';obtain ⟨f1,f2,f3,f4,f5,f6⟩:=zn5 w hheap cs.size;obtain ⟨M',hle,hW',hcell⟩:=hW.mark ho hE f1 f2 f3 f4 f5 f6;have hsh:w.shape? b0=some (e',cs.size):=by unfold World.shape?;rw[hheap]
  refine ⟨ρ x,w.freeze ⟨b0,cs.size,none⟩ 1,M',E,.inl ?_,hle,?_,hW',zc _⟩
  ·have hrun:(convert ta ta (ρ x)).run P w=.ok (ρ x) (w.freeze ⟨b0,cs.size,none⟩ 1):=by
    rw[hu];simp[convert,zb hd1,zb he,markStringish,hsh]
   simp only[execOp,Sem.run_bind,hrun];rfl
  ·simp only[Rep];refine ⟨_,cap,hu,hcap,fun _=>⟨_,rfl,fun q hq j hj=>?_⟩⟩
   obtain rfl:j=0:=by omega
   have hlt:q<l.length:=by omega
   have hget:=List.getElem?_eq_getElem hlt;obtain ⟨x,x1,x2⟩:=RepL.get hrep hget;refine ⟨x,?_,zbe hW hone hrep x (List.mem_of_getElem? x1),?_⟩
   ·rw[xn,Nat.zero_add,show q*1+0=q by omega,hcell];simpa using x1
   ·rw[hget];exact Rep.mono hle (zc _) _ _ (x2.plain (zbd hpl hget))
 case h_14=>simp at h
end
end Go.Sx
namespace Go.Sx
open Go Go.RowKit
section
variable {P:Program}{T:TT}{B:Nat}{w0 w w':World}{M0 M M':Mem}{E E':List Value}{ow:List Own}
theorem run_app {t ty e:TypeId}{i:TypeInfo}{z:Value}(ht:P.underlying t=some (.slice e)) (hi:P.info? e=some i) (hz:i.zero=some z) (hzs:z.cells.size=i.size) (hsz:0<i.size)
  {v:Value}{n:Nat}{xs:List Value}(hown:w.ownsRow B e i.size v n xs) {a:Option Addr}{m c:Nat}{news:List Value}(hl:news.length=m*i.size) (hnews:0<m->∃ ad,a=some ad/\∀ j u,news[j]?=some u->w.cell? (ad.add j)=some u)
  (h1:∀ u∈news,u.oneCell'=true) (h63:n+m<=9223372036854775807) (hby:(n+m)*i.bytes<=140737488355328) (hbase:B<=w.heap.size):
  ∃ v' w',(Builtin.append_ #[t,t] ty #[v,.slice a m c]).run P w=.ok v' w'/\w'.ownsRow B e i.size v' (n+m) (xs++news)/\w.grownBy w' (zL v)/\(∀ g,zL v'=some g->zL v=some g\/w.heap.size<=g)/\(m=0->v'=v):=by
 have hbo:zL v=v.ownBlock:=by
  rcases hown.2 with ⟨rfl,_⟩|⟨g,cap,cur,rfl,_⟩<;>rfl
 rcases Nat.eq_zero_or_pos m with rfl|hm
 ·have hnil:news=[]:=by simpa using hl
  subst hnil;have hf:(Builtin.firstCells i.size 0 (.slice a 0 c)).run P w=.ok #[] w:=by
   cases a<;>simp[Builtin.firstCells,loadCells,loadCellsFrom]
  rcases hown.2 with ⟨rfl,rfl⟩|⟨g,cap,cur,rfl,q1,q2,q3,q4⟩
  ·refine ⟨.slice none 0 0,w,?_,by simpa using hown,⟨rfl,rfl,rfl,Nat.le_refl _,fun _ _ _=>rfl⟩,fun g hg=>by simp[zL] at hg,fun _=>rfl⟩
   simp[Builtin.append_,zb ht,zw hi,Builtin.lenOf,hf]
  ·refine ⟨.slice (some ⟨g,0,none⟩) n cap,w,?_,by simpa using hown,⟨rfl,rfl,rfl,Nat.le_refl _,fun _ _ _=>rfl⟩,fun g' hg=>.inl hg,fun _=>rfl⟩
   simp[Builtin.append_,zb ht,zw hi,Builtin.lenOf,hf,q3,storeCells]
 ·obtain ⟨ad,rfl,hc⟩:=hnews hm;obtain ⟨v',w',hr,ho',hg',_⟩:=run_append_own (P:=P) w B t ty e i z i.size i.bytes ht hi hz rfl rfl hzs hsz v n xs hown ad m c news hl hc h1 (by simp only[maxLen];omega) hby hbase;refine ⟨v',w',hr,ho',by rw[hbo];exact hg',fun g hg=>?_,fun h0=>by omega⟩
  rcases hown.2 with ⟨rfl,rfl⟩|⟨g0,cap,cur,rfl,q1,q2,q3,q4,q5,q6⟩
  ·have:=run_append_nil (P:=P) w t ty e i z ht hi hz ad m c news hl hc hm (by omega) (by simp at hby;omega)
   rw[this] at hr;simp at hr;rw[<- hr.1] at hg;simp[zL] at hg;exact .inr (by omega)
  ·by_cases hroom:n+m<=cap
   ·obtain ⟨w2,hr2,_,_⟩:=run_append_fits (P:=P) w B t ty e i i.size ht hi rfl g0 n cap xs hown ad m c news hl hc h1 hroom;rw[hr2] at hr;simp at hr;rw[<- hr.1] at hg;exact .inl hg
   ·have hcur:∀ j u,xs[j]?=some u->w.cell? ((⟨g0,0,none⟩:Addr).add j)=some u:=by
     intro j u hj;rw[xn,Nat.zero_add,cell_of_row w g0 j cur e (0,0) q2,<- Array.getElem?_toList];rw[<- q6] at hj;have hjl:=zE hj;simp at hjl;rw[List.getElem?_take_of_lt (by omega)] at hj;exact hj
    have:=run_append_grow (P:=P) w t ty e i z ht hi hz ⟨g0,0,none⟩ n cap xs hown.1 hcur ad m c news hl hc (by omega) (by omega) (growslice_fits (by omega) hby)
    rw[this] at hr;simp at hr;rw[<- hr.1] at hg;simp[zL] at hg;exact .inr (by omega)
theorem znd {t u ty e:TypeId}{i:TypeInfo}(ht:P.underlying t=some (.slice e)) (hu:P.underlying u=some .string) (hi:P.info? e=some i) (hz:i.zero=some (.int .u8 0)) (hs1:i.size=1) (hb1:i.bytes=1)
  {v:Value}{n:Nat}{xs:List Value}(hown:w.ownsRow B e 1 v n xs) (s:ByteArray) (h63:n+s.size<=9223372036854775807) (hby:n+s.size<=140737488355328) (hbase:B<=w.heap.size):
  ∃ v' w',(Builtin.append_ #[t,u] ty #[v,.string s]).run P w=.ok v' w'/\w'.ownsRow B e 1 v' (n+s.size) (xs++Lib.strCells s)/\w.grownBy w' (zL v)/\(∀ g,zL v'=some g->zL v=some g\/w.heap.size<=g)/\(s.size=0->v'=v):=by
 have hbo:zL v=v.ownBlock:=by
  rcases hown.2 with ⟨rfl,_⟩|⟨g,cap,cur,rfl,_⟩<;>rfl
 obtain ⟨v',w',hr,ho',hg',hnil⟩:=Lib.run_append_own_string (P:=P) w B t u ty e i ht hu hi hz hs1 hb1 v n xs hown s (by simp only[maxLen];omega) hby hbase;have fresh:(∀ g,zL v'=some g->zL v=some g\/w.heap.size<=g)/\(s.size=0->v'=v):=by
  rcases hown.2 with ⟨rfl,rfl⟩|⟨g0,cap,cur,rfl,q1,q2,q3,q4,q5,q6⟩
  ·by_cases h0:s.size=0
   ·have:=hnil.2 ⟨rfl,h0⟩
    subst this;exact ⟨fun g hg=>by simp[zL] at hg,fun _=>rfl⟩
   ·have:=run_append_nil_string (P:=P) w t u ty e i (.int .u8 0) ht hu hi hz s (by omega) (by omega) (by rw[hb1];omega)
    rw[this] at hr;simp at hr;rw[<- hr.1];exact ⟨fun g hg=>by simp[zL] at hg;exact .inr (by omega),fun h=>absurd h h0⟩
  ·by_cases hroom:n+s.size<=cap
   ·have hfit:n+s.size<=cur.size:=by rw[q5];omega
    have:=Lib.run_append_room_string (P:=P) w t u ty e i ht hu hi hs1 g0 n cap cur q2 s hroom hfit;rw[this] at hr;simp at hr;rw[<- hr.1];exact ⟨fun g hg=>.inl hg,fun h=>by rw[h];rfl⟩
   ·have hcur:∀ j u,xs[j]?=some u->w.cell? ((⟨g0,0,none⟩:Addr).add j)=some u:=by
     intro j u hj;rw[xn,Nat.zero_add,cell_of_row w g0 j cur e (0,0) q2,<- Array.getElem?_toList];rw[<- q6] at hj;have hjl:=zE hj;simp at hjl;rw[List.getElem?_take_of_lt (by omega)] at hj;exact hj
    have:=Lib.run_append_grow_string (P:=P) w t u ty e i (.int .u8 0) ht hu hi hz ⟨g0,0,none⟩ n cap xs (by rw[hs1];exact hown.1) hcur s (by omega) (by omega) (growslice_fits (by omega) (by rw[hb1];omega))
    rw[this] at hr;simp at hr;rw[<- hr.1];exact ⟨fun g hg=>by simp[zL] at hg;exact .inr (by omega),fun h=>by omega⟩
 exact ⟨v',w',hr,ho',by rw[hbo];exact hg',fresh.1,fresh.2⟩
theorem WRel.renew (h:WRel B w0 M0 M E ow w) {i:Nat}{o oN:Own}{v vN:Value}(ho:ow[i]?=some o) (hf:o.free=true) (hv:E[i]?=some v) (hgrow:w.grownBy w' (zL v)) (hfresh:∀ g,zL vN=some g->zL v=some g\/w.heap.size<=g)
  (hH:Holds B M (E++[vN]) w' oN vN):WRel B w0 M0 M (E++[vN]) (zj ow i .gone++[oN]) w':=by
 have hlv:=Own.free_live hf;have hlt:∀ b,zL v=some b->b<w.heap.size/\B<=b/\M b=none:=fun b hb=>by
  obtain ⟨h1,h2,h3⟩:=(h.holds _ _ _ ho hv).lt hlv hb;exact ⟨h1,h2,h3 hf⟩
 have hsame:∀ b,b<w.heap.size->zL v≠some b->w'.heap[b]?=w.heap[b]?:=fun b hb hne=>hgrow.block b hb (fun e=>hne e.symm)
 have hlast:(E++[vN])[ow.length]?=some vN:=by rw[<- h.len,List.getElem?_append_right (Nat.le_refl _)];simp
 have old:∀ {j:Nat}{p:Own}{u:Value},(zj ow i .gone)[j]?=some p->(E++[vN])[j]?=some u->E[j]?=some u/\((j=i/\p=.gone)\/(j≠i/\ow[j]?=some p)):=by
  intro j p u hp hu;have hj:=zE hp;rw[zJ] at hj;rw[List.getElem?_append_left (by rw[h.len];exact hj)] at hu;refine ⟨hu,?_⟩
  rw[zt] at hp;split at hp
  ·rename_i hij;subst hij;rw[if_pos (zE ho)] at hp;simp at hp;exact .inl ⟨rfl,hp.symm⟩
  ·rename_i hij;exact .inr ⟨fun e=>hij e.symm,hp⟩
 refine ⟨fun b ob hb=>?_,Nat.le_trans h.base hgrow.size,h.below.trans ⟨hgrow.os,hgrow.tape,hgrow.output,hgrow.size,fun q hq=>hsame q (Nat.lt_of_lt_of_le hq h.base) (fun hbu=>?_)⟩,by simp[zJ,h.len],fun j p u hp hu=>?_,fun j j' p p' u1 u2 b hp hp' hl1 hl2 hu1 hu2 hb1 hb2=>?_,h.mle,h.new⟩
 ·have hfit:=h.fits _ _ hb;rw[hsame b hfit.lt (fun hbu=>by rw[(hlt b hbu).2.2] at hb;simp at hb)];exact hfit
 ·have:=(hlt q hbu).2.1;omega
 ·rcases zl hp with hp1|⟨rfl,rfl⟩
  ·obtain ⟨hu',⟨rfl,rfl⟩|⟨hne,hp2⟩⟩:=old hp1 hu
   ·exact zgq h (d:=.row j) rfl (by simp only[Rep];exact hu')
   ·have hHj:=h.holds _ _ _ hp2 hu';exact hHj.frame (fun b hl hb=>hsame b (hHj.lt hl hb).1 (fun hbu=>hne (h.inj _ _ _ _ _ _ _ hp2 ho hl hlv hu' hv hb hbu))) (za _) (zu _ _) (fun b hf' hb=>(hHj.lt (Own.free_live hf') hb).2.2 hf')
  ·rw[zJ,hlast] at hu;simp at hu;subst hu;exact hH
 ·have key:∀ {j:Nat}{p:Own}{u:Value}{b:Nat},(zj ow i .gone)[j]?=some p->p.live=true->(E++[vN])[j]?=some u->zL u=some b->ow[j]?=some p/\E[j]?=some u/\j≠i/\b<w.heap.size:=by
   intro j p u b hp hl hu hb;obtain ⟨hu',⟨rfl,rfl⟩|⟨hne,hp2⟩⟩:=old hp hu
   ·simp[Own.live] at hl
   ·exact ⟨hp2,hu',hne,((h.holds _ _ _ hp2 hu').lt hl hb).1⟩
  rcases zl hp with hp1|⟨rfl,rfl⟩<;>rcases zl hp' with hp2|⟨rfl,rfl⟩
  ·obtain ⟨a1,a2,a3,a4⟩:=key hp1 hl1 hu1 hb1;obtain ⟨c1,c2,c3,c4⟩:=key hp2 hl2 hu2 hb2;exact h.inj _ _ _ _ _ _ _ a1 c1 hl1 hl2 a2 c2 hb1 hb2
  ·obtain ⟨a1,a2,a3,a4⟩:=key hp1 hl1 hu1 hb1;rw[zJ,hlast] at hu2;simp at hu2;subst hu2;rcases hfresh b hb2 with hh|hh
   ·exact absurd (h.inj _ _ _ _ _ _ _ a1 ho hl1 hlv a2 hv hb1 hh) a3
   ·omega
  ·obtain ⟨a1,a2,a3,a4⟩:=key hp2 hl2 hu2 hb2;rw[zJ,hlast] at hu1;simp at hu1;subst hu1;rcases hfresh b hb1 with hh|hh
   ·exact absurd (h.inj _ _ _ _ _ _ _ a1 ho hl2 hlv a2 hv hb2 hh) a3
   ·omega
  ·rfl
theorem WRel.grown (h:WRel B w0 M0 M E ow w) {oN:Own}{vN:Value}(hgrow:w.grownBy w' none) (hfresh:∀ g,zL vN=some g->w.heap.size<=g)
  (hH:Holds B M (E++[vN]) w' oN vN):WRel B w0 M0 M (E++[vN]) (ow++[oN]) w':=by
 have hsame:∀ b,b<w.heap.size->w'.heap[b]?=w.heap[b]?:=fun b hb=>hgrow.block b hb (by simp)
 have hlast:(E++[vN])[ow.length]?=some vN:=by rw[<- h.len,List.getElem?_append_right (Nat.le_refl _)];simp
 refine ⟨fun b ob hb=>?_,Nat.le_trans h.base hgrow.size,h.below.trans ⟨hgrow.os,hgrow.tape,hgrow.output,hgrow.size,fun q hq=>hsame q (Nat.lt_of_lt_of_le hq h.base)⟩,by simp[h.len],fun j p u hp hu=>?_,fun j j' p p' u1 u2 b hp hp' hl1 hl2 hu1 hu2 hb1 hb2=>?_,h.mle,h.new⟩
 ·have hfit:=h.fits _ _ hb;rw[hsame b hfit.lt];exact hfit
 ·rcases zl hp with hp1|⟨rfl,rfl⟩
  ·rw[List.getElem?_append_left (by rw[h.len];exact zE hp1)] at hu;have hHj:=h.holds _ _ _ hp1 hu;exact hHj.frame (fun b hl hb=>hsame b (hHj.lt hl hb).1) (za _) (zu _ _) (fun b hf hb=>(hHj.lt (Own.free_live hf) hb).2.2 hf)
  ·rw[hlast] at hu;simp at hu;subst hu;exact hH
 ·have key:∀ {j:Nat}{p:Own}{u:Value}{b:Nat},ow[j]?=some p->p.live=true->(E++[vN])[j]?=some u->zL u=some b->E[j]?=some u/\b<w.heap.size:=by
   intro j p u b hp hl hu hb;rw[List.getElem?_append_left (by rw[h.len];exact zE hp)] at hu;exact ⟨hu,((h.holds _ _ _ hp hu).lt hl hb).1⟩
  rcases zl hp with hp1|⟨rfl,rfl⟩<;>rcases zl hp' with hp2|⟨rfl,rfl⟩
  ·exact h.inj _ _ _ _ _ _ _ hp1 hp2 hl1 hl2 (key hp1 hl1 hu1 hb1).1 (key hp2 hl2 hu2 hb2).1 hb1 hb2
  ·have:=(key hp1 hl1 hu1 hb1).2;rw[hlast] at hu2;simp at hu2;subst hu2;have:=hfresh b hb2;omega
  ·have:=(key hp2 hl2 hu2 hb2).2;rw[hlast] at hu1;simp at hu1;subst hu1;have:=hfresh b hb1;omega
  ·rfl
def SrcAt (M:Mem) (w:World) (sz:Nat) (q:Src) (y:Value):Prop :=
 match q with
 | .str s=>y=.string s
 | .data m g=>∃ (a:Option Addr) (c:Nat) (news:List Value),y=.slice a m c/\news.length=m*sz/\(0<m->∃ ad,a=some ad/\∀ (j:Nat) (u:Value),news[j]?=some u->w.cell? (ad.add j)=some u)/\(∀ u∈news,u.oneCell'=true) /\
   ∀ q,q<m->∀ j,j<sz->∃ x,news[q*sz+j]?=some x/\x.oneCell'=true/\Rep M [] (g q j) x
theorem zm4 {sz:Nat}{u8:Bool}{x:D}{q:Src}{y:Value}(hpos:0<sz) (hsrc:srcOf sz u8 ow x=some q) (hW:WRel B w0 M0 M E ow w) (hx:Rep M E x y):SrcAt M w sz q y/\(∀ s,q=.str s->u8=true/\sz=1):=by
 have data:∀ (m:Nat) (g:Nat->Nat->D) (a:Option Addr) (cap:Nat),(0<m->∃ ad,a=some ad/\∀ i,i<m->∀ j,j<sz->∃ x,w.cell? (ad.add (i*sz+j))=some x/\x.oneCell'=true/\Rep M [] (g i j) x)->SrcAt M w sz (.data m g) (.slice a m cap):=by
  intro m g a cap hc;simp only[SrcAt];rcases Nat.eq_zero_or_pos m with rfl|hm
  ·exact ⟨a,cap,[],rfl,by simp,fun h=>by omega,by simp,fun q hq=>by omega⟩
  ·obtain ⟨ad,rfl,hcell⟩:=hc hm;have hall:∀ j,j<m*sz->∃ x,w.cell? (ad.add j)=some x/\x.oneCell'=true/\Rep M [] (g (j / sz) (j % sz)) x:=by
    intro j hj;have h1:j / sz<m:=Nat.div_lt_of_lt_mul (by rw[Nat.mul_comm];exact hj)
    have h2:j % sz<sz:=Nat.mod_lt _ hpos;have:=hcell _ h1 _ h2;rw[show j / sz*sz+j % sz=j by rw[Nat.mul_comm];exact Nat.div_add_mod j sz] at this;exact this
   obtain ⟨news,hn1,hn2⟩:∃ news:List Value,news.length=m*sz/\∀ j x,news[j]?=some x->w.cell? (ad.add j)=some x/\x.oneCell'=true/\Rep M [] (g (j / sz) (j % sz)) x:=by
    refine ⟨(List.range (m*sz)).map fun j=>(w.cell? (ad.add j)).getD undef,by simp,fun j x hx=>?_⟩
    rw[List.getElem?_map,Option.map_eq_some_iff] at hx;obtain ⟨j',hj',rfl⟩:=hx;have hjl:=zE hj';simp only[List.length_range] at hjl;rw[List.getElem?_range hjl] at hj';simp only[Option.some.injEq] at hj';subst hj';obtain ⟨y,y1,y2,y3⟩:=hall j hjl;simp[y1,y2,y3]
   refine ⟨some ad,cap,news,rfl,hn1,fun _=>⟨ad,rfl,fun j u hu=>(hn2 j u hu).1⟩,fun u hu=>?_,fun q hq j hj=>?_⟩
   ·obtain ⟨j,hj⟩:=List.getElem?_of_mem hu;exact (hn2 j u hj).2.1
   ·have hlt:q*sz+j<news.length:=by
     rw[hn1];have:(q+1)*sz<=m*sz:=Nat.mul_le_mul_right _ (by omega)
     rw[Nat.add_mul] at this;omega
    have hget:=List.getElem?_eq_getElem hlt;obtain ⟨_,y2,y3⟩:=hn2 _ _ hget;refine ⟨_,hget,y2,?_⟩
    have e1:(q*sz+j) / sz=q:=by
     rw[Nat.mul_comm,Nat.mul_add_div hpos,Nat.div_eq_of_lt hj,Nat.add_zero]
    have e2:(q*sz+j) % sz=j:=by
     rw[Nat.mul_comm,Nat.mul_add_mod,Nat.mod_eq_of_lt hj]
    rw[e1,e2] at y3;exact y3
 unfold srcOf at hsrc;split at hsrc
 ·split at hsrc<;>try (simp at hsrc;done)
  rename_i hsz;simp at hsrc;subst hsrc;subst hsz;simp only[Rep] at hx;obtain ⟨a,cap,rfl,_,hc⟩:=hx;refine ⟨data _ _ a cap (fun hm=>?_),fun s h=>by simp at h⟩
  obtain ⟨ad,h1,h2⟩:=hc hm;exact ⟨ad,h1,fun i hi j hj=>by obtain ⟨x,x1,x2⟩:=h2 i hi j hj;exact ⟨x,Mem.cell_fits hW.fits x1,x2⟩⟩
 ·simp at hsrc;subst hsrc;simp only[Rep] at hx;subst hx;exact ⟨data _ _ none 0 (fun hm=>by omega),fun s h=>by simp at h⟩
 ·split at hsrc<;>try (simp at hsrc;done)
  rename_i hc;simp at hsrc;subst hsrc;simp only[Rep] at hx;subst hx;simp at hc;exact ⟨rfl,fun s _=>hc⟩
 ·split at hsrc<;>try (simp at hsrc;done)
  rename_i o ho;split at hsrc<;>try (simp at hsrc;done)
  rename_i e sz' m g hro;split at hsrc<;>try (simp at hsrc;done)
  rename_i hsz;simp at hsrc;subst hsrc;subst hsz;simp only[Rep] at hx;obtain ⟨xs,hown,hrep,_⟩:=(hW.holds _ _ _ ho hx).toRow hro;rcases hown.2 with ⟨rfl,rfl⟩|⟨g0,cap,cur,rfl,q1,q2,q3,q4,q5,q6⟩
  ·exact ⟨data _ _ none 0 (fun hm=>by omega),fun s h=>by simp at h⟩
  ·refine ⟨data _ _ _ cap (fun hm=>⟨_,rfl,fun i hi j hj=>?_⟩),fun s h=>by simp at h⟩
   obtain ⟨x,x1,x2,x3⟩:=hrep i hi j hj;refine ⟨x,?_,x2,x3⟩
   rw[xn,Nat.zero_add,cell_of_row w g0 _ cur e (0,0) q2,<- Array.getElem?_toList];rw[<- q6,List.getElem?_take_of_lt] at x1
   ·exact x1
   ·have:(i+1)*sz'<=m*sz':=Nat.mul_le_mul_right _ (by omega)
    rw[Nat.add_mul] at this;omega
 ·simp at hsrc
theorem bAt_cat (x y:ByteArray) (i:Nat):bAt (yt x y) i=if i<x.size then bAt x i else bAt y (i - x.size):=by
 have hs:x.size=x.data.toList.length:=rfl;simp only[bAt,yt];by_cases h:i<x.size
 ·rw[if_pos h,List.getElem?_append_left (by rw[<- hs];exact h)]
 ·rw[if_neg h,List.getElem?_append_right (by rw[<- hs];omega),hs]
theorem size_cat (x y:ByteArray):(yt x y).size=x.size+y.size:=by
 show (x.data.toList++y.data.toList).length=x.data.toList.length+y.data.toList.length;simp
theorem told_spec {q:Src}{vs:List DP}{c:ByteArray}(h:q.told=some (vs,c)) (hvs:xB vs):c.size=q.len/\∀ i,i<q.len->q.fn i 0=.v (.int .u8 (bAt c i)):=by
 unfold Src.told at h;split at h
 ·simp at h;obtain ⟨rfl,rfl⟩:=h;exact ⟨rfl,fun i _=>rfl⟩
 ·simp at h;obtain ⟨rfl,rfl⟩:=h;exact ⟨rfl,fun i hi=>by simp[Src.len] at hi⟩
 ·split at h<;>simp at h;rename_i g x hx;obtain ⟨rfl,rfl⟩:=h;simp only[xB,and_true] at hvs;refine ⟨rfl,fun i hi=>?_⟩
  simp only[Src.len] at hi;have:i=0:=by omega
  subst this;simp only[Src.fn,hx];have:bAt ⟨⟨[UInt8.ofNat x.toNat]⟩⟩ 0=x:=by
   simp[bAt];omega
  rw[this]
 ·simp at h
theorem zoh (hT:TOk P T) {t t' ty:TypeId}{s x:D}{u y:Value}{vs:List DP}{i:Option Nat}{o:Own}(h:evApp T t t' ow s x=some (vs,i,o)) (hvs:xB vs) (hW:WRel B w0 M0 M E ow w) (hs:Rep M E s u) (hx:Rep M E x y):
  ∃ v' w',(Builtin.append_ #[t,t'] ty #[u,y]).run P w=.ok v' w'/\WRel B w0 M0 M (E++[v']) (xb ow i++[o]) w':=by
 unfold evApp at h;split at h<;>try (simp at h;done)
 rename_i e esz by' mo hTt;split at h<;>try (simp at h;done)
 rename_i sz0 ag z k2 fl2 hTe;split at h<;>try (simp at h;done)
 rename_i hcond;obtain ⟨hzl,hpos,hs0⟩:=hcond;split at h<;>try (simp at h;done)
 rename_i q hsrc;split at h<;>try (simp at h;done)
 rename_i hty;obtain ⟨i1,td,hi1,hd1,he1⟩:=zi (hT _ _ hTt)
 simp only[TI.mk.injEq] at he1;obtain ⟨rfl,ei,hei,rfl,rfl⟩:=zM he1.2.2.2.1.symm;obtain ⟨i2,td2,hi2,hd2,he2⟩:=zi (hT _ _ hTe)
 simp only[TI.mk.injEq] at he2;rw[hei] at hi2;simp at hi2;subst hi2;obtain ⟨zv,hzv,hzc⟩:=Option.map_eq_some_iff.1 he2.2.2.1.symm;have hzs:zv.cells.size=ei.size:=by rw[<- hzl,<- hzc];simp
 obtain ⟨hat,hstr⟩:=zm4 hpos hsrc hW hx
 -- the run,whatever the source
 have run:∀ {v:Value}{n:Nat}{xs:List Value},w.ownsRow B e ei.size v n xs->n+q.len<=9223372036854775807->(n+q.len)*ei.bytes<=140737488355328 ->
   ∃ v' w' news,(Builtin.append_ #[t,t'] ty #[v,y]).run P w=.ok v' w'/\w'.ownsRow B e ei.size v' (n+q.len) (xs++news)/\w.grownBy w' (zL v)/\(∀ g,zL v'=some g->zL v=some g\/w.heap.size<=g)/\(q.len=0->v'=v) /\
    (∀ a,a<q.len->∀ j,j<ei.size->∃ x,news[a*ei.size+j]?=some x/\x.oneCell'=true/\Rep M [] (q.fn a j) x):=by
  intro v n xs hown h1 h2;cases q with
  | data m g =>
   simp only[srcTy,beq_iff_eq] at hty;subst hty;simp only[SrcAt] at hat;obtain ⟨a,c,news,rfl,hn1,hn2,hn3,hn4⟩:=hat;obtain ⟨v',w',hr,hown',hgrow,hfresh,hz⟩:=run_app (P:=P) (ty:=ty) (c:=c) hd1 hei hzv hzs hpos hown hn1 hn2 hn3 h1 h2 hW.base;exact ⟨v',w',news,hr,hown',hgrow,hfresh,hz,hn4⟩
  | str b =>
   obtain ⟨hu8,hsz1⟩:=hstr b rfl;simp only[SrcAt] at hat;subst hat;simp only[srcTy] at hty;split at hty<;>try (simp at hty;done)
   rename_i hTt';have hb1:ei.bytes=1:=by simpa using hty
   obtain ⟨i3,td3,hi3,hd3,he3⟩:=zi (hT _ _ hTt')
   simp only[TI.mk.injEq] at he3;obtain rfl:=uA he3.2.2.2.1.symm;unfold zgn at hu8;split at hu8<;>try (simp at hu8;done)
   rename_i n0 fl3 ms3 sf3 fa3 hTe';rw[hTe] at hTe';simp at hTe';obtain ⟨rfl,rfl,hz',rfl,rfl⟩:=hTe';have hn0:n0=0:=by simpa using hu8
   subst hn0;subst hz';have hzv':zv=.int .u8 0:=by
    have hzok:zokOf ei td2=true:=by
     have:=he2.2.2.2.2;simp only[More.mk.injEq] at this;exact this.2.2.2.2.symm
    simp only[zokOf,hzv] at hzok;have hag:zbt td2=false:=he2.2.1.symm;cases zv<;>first
     | (rw[hag] at hzok;simp at hzok;done)
     | (simp[Value.cells] at hzc;done)
     | (simp[Value.cells] at hzc;obtain ⟨rfl,rfl⟩:=hzc;rfl)
   subst hzv';rw[hsz1] at hown;simp only[Src.len,hb1,Nat.mul_one] at h1 h2;obtain ⟨v',w',hr,hown',hgrow,hfresh,hz⟩:=znd (P:=P) (ty:=ty) hd1 hd3 hei hzv hsz1 hb1 hown b h1 h2 hW.base;refine ⟨v',w',Lib.strCells b,hr,by rw[hsz1];exact hown',hgrow,hfresh,hz,fun a ha j hj=>?_⟩
   rw[hsz1] at hj ⊢;have hj0:j=0:=by omega
   subst hj0;simp only[Src.len] at ha;have hss:b.size=b.data.toList.length:=rfl;have hal:a<b.data.toList.length:=by omega
   refine ⟨.int .u8 (bAt b a),?_,rfl,by simp only[Src.fn,vK];exact zk _⟩
   have hg:=List.getElem?_eq_getElem hal;rw[Nat.mul_one,Nat.add_zero,Lib.strCells,List.getElem?_map,bAt,hg];rfl
 -- the new row
 have rowN:∀ {w':World}{v':Value}{n:Nat}{f:Nat->Nat->D}{xs news:List Value},w'.ownsRow B e ei.size v' (n+q.len) (xs++news)->xs.length=n*ei.size->(∀ a,a<n->∀ j,j<ei.size->∃ x,xs[a*ei.size+j]?=some x/\x.oneCell'=true/\Rep M [] (f a j) x) ->
   (∀ a,a<q.len->∀ j,j<ei.size->∃ x,news[a*ei.size+j]?=some x/\x.oneCell'=true/\Rep M [] (q.fn a j) x)->(∀ b,zL v'=some b->M b=none)->HoldsRow B M w' e ei.size (n+q.len) (zgi n f q.fn) v':=by
  intro w' v' n f xs news hown' hxl hrep hn4 hM;refine ⟨xs++news,hown',fun a ha j hj=>?_,fun g hg=>hM g (vL hg)⟩
  by_cases hqn:a<n
  ·obtain ⟨x,x1,x2,x3⟩:=hrep a hqn j hj;exact ⟨x,by rw[List.getElem?_append_left (zE x1)];exact x1,x2,by simpa[zgi,hqn] using x3⟩
  ·obtain ⟨x,x1,x2,x3⟩:=hn4 (a - n) (by omega) j hj;refine ⟨x,?_,x2,by simpa[zgi,hqn] using x3⟩
   have hmul:n*ei.size<=a*ei.size:=Nat.mul_le_mul_right _ (by omega)
   rw[List.getElem?_append_right (by rw[hxl];omega),hxl];have:a*ei.size+j - n*ei.size=(a - n)*ei.size+j:=by
    rw[Nat.sub_mul];omega
   rw[this];exact x1
 have fresh:∀ {b:Nat},w.heap.size<=b->M b=none:=by
  intro b hb;cases hm:M b with
  | none=>rfl
  | some ob=>have:=(hW.fits _ _ hm).lt;omega
 have capOk:∀ {w':World}{v v':Value}{n m:Nat}{xs:List Value},w'.ownsRow B e ei.size v' (n+m) xs->(m=0->v'=v)->(∀ a k c,v=.slice (some a) k c->c≠0)->∀ a k c,v'=.slice (some a) k c->c≠0:=by
  intro w' v v' n m xs hown' hz hc a k c hv;by_cases hm:m=0
  ·exact hc a k c ((hz hm).symm.trans hv)
  ·obtain ⟨g,cap,cur,h1,_,_,h2,_⟩:=vm hown' (by omega)
   rw[h1] at hv;simp at hv;omega
 split at h
 ·rename_i j;split at h<;>try (simp at h;done)
  split at h<;>try (simp at h;done)
  ·rename_i e' b ho;split at h<;>try (simp at h;done)
   rename_i hc2;obtain ⟨rfl,hsz1⟩:=hc2;simp only[Rep] at hs;have hH:=hW.holds _ _ _ ho hs;simp only[Holds] at hH;obtain ⟨⟨xs,hown,hrep,hMg⟩,hcap⟩:=hH;rw[hsz1] at hown hrep;have hMu:∀ g,zL u=some g->M g=none:=fun g hg=>((hW.holds _ _ _ ho hs).lt rfl hg).2.2 rfl;split at h
   ·rename_i vs' c htold;simp at h;obtain ⟨rfl,rfl,rfl⟩:=h;simp only[xB] at hvs;obtain ⟨v',w',news,hr,hown',hgrow,hfresh,hz,hn4⟩:=run hown hvs.1 hvs.2.1;obtain ⟨hcs,hcf⟩:=told_spec htold hvs.2.2;refine ⟨v',w',hr,hW.renew ho rfl hs hgrow hfresh ?_⟩
    refine ⟨?_,capOk hown' hz hcap⟩
    have hR:=rowN (f:=vK b) hown' hown.1 hrep hn4 (fun g hg=>by
     rcases hfresh g hg with h1|h1
     ·exact hMu g h1
     ·exact fresh h1)
    rw[size_cat,hcs];rw[<- hsz1] at hR;obtain ⟨xs2,r1,r2,r3⟩:=hR;refine ⟨xs2,r1,fun a ha j hj=>?_,r3⟩
    have hj0:j=0:=by omega
    subst hj0;obtain ⟨x,x1,x2,x3⟩:=r2 a ha 0 (by omega)
    refine ⟨x,x1,x2,?_⟩
    simp only[zgi] at x3;simp only[vK,bAt_cat];by_cases hab:a<b.size
    ·rw[if_pos hab] at x3 ⊢;exact x3
    ·rw[if_neg hab] at x3 ⊢;rw[hcf (a - b.size) (by omega)] at x3;exact x3
   ·simp at h;obtain ⟨rfl,rfl,rfl⟩:=h;simp only[xB,and_true] at hvs;obtain ⟨v',w',news,hr,hown',hgrow,hfresh,hz,hn4⟩:=run hown hvs.1 hvs.2;refine ⟨v',w',hr,hW.renew ho rfl hs hgrow hfresh ?_⟩
    have hR:=rowN (f:=vK b) hown' hown.1 hrep hn4 (fun g hg=>by
     rcases hfresh g hg with h1|h1
     ·exact hMu g h1
     ·exact fresh h1)
    simp only[Holds];rw[hsz1];exact hR
  ·rename_i e' sz n f ho;split at h<;>try (simp at h;done)
   rename_i hc2;obtain ⟨rfl,rfl⟩:=hc2;simp at h;obtain ⟨rfl,rfl,rfl⟩:=h;simp only[xB,and_true] at hvs;simp only[Rep] at hs;have hH:=hW.holds _ _ _ ho hs;simp only[Holds] at hH;obtain ⟨xs,hown,hrep,hMg⟩:=hH;have hMu:∀ g,zL u=some g->M g=none:=fun g hg=>((hW.holds _ _ _ ho hs).lt rfl hg).2.2 rfl;obtain ⟨v',w',news,hr,hown',hgrow,hfresh,hz,hn4⟩:=run hown hvs.1 hvs.2;refine ⟨v',w',hr,hW.renew ho rfl hs hgrow hfresh ?_⟩
   exact rowN hown' hown.1 hrep hn4 (fun g hg=>by
    rcases hfresh g hg with h1|h1
    ·exact hMu g h1
    ·exact fresh h1)
 ·simp only[Rep] at hs;subst hs;have hown0:=World.ownsRow_nil w B e ei.size;split at h
  ·rename_i b;split at h<;>try (simp at h;done)
   rename_i hsz1;simp at h;obtain ⟨rfl,rfl,rfl⟩:=h;simp only[xB,and_true] at hvs;obtain ⟨v',w',news,hr,hown',hgrow,hfresh,hz,hn4⟩:=run hown0 (by simpa[Src.len] using hvs.1) (by simpa[Src.len] using hvs.2)
   refine ⟨v',w',hr,hW.grown hgrow (fun g hg=>(hfresh g hg).elim (fun h1=>by simp[zL] at h1) id) ?_⟩
   refine ⟨?_,capOk hown' hz (fun a k c hh=>by simp at hh)⟩
   rw[hsz1];simp only[Nat.zero_add,List.nil_append,Src.len] at hown';exact ⟨news,hown',hn4,fun g hg=>fresh ((hfresh g (vL hg)).elim (fun h1=>by simp[zL] at h1) id)⟩
  ·rename_i m g;simp at h;obtain ⟨rfl,rfl,rfl⟩:=h;simp only[xB,and_true] at hvs;obtain ⟨v',w',news,hr,hown',hgrow,hfresh,hz,hn4⟩:=run hown0 (by simpa[Src.len] using hvs.1) (by simpa[Src.len] using hvs.2)
   refine ⟨v',w',hr,hW.grown hgrow (fun g hg=>(hfresh g hg).elim (fun h1=>by simp[zL] at h1) id) ?_⟩
   simp only[Nat.zero_add,List.nil_append,Src.len] at hown';exact ⟨news,hown',hn4,fun g hg=>fresh ((hfresh g (vL hg)).elim (fun h1=>by simp[zL] at h1) id)⟩
 ·simp at h
end
end Go.Sx
namespace Go.Sx
open Go Go.RowKit
variable {ρ:Operand->Value}
section
variable {P:Program}{T:TT}{B:Nat}{w0 w w':World}{M0 M M':Mem}{E E':List Value}{ow:List Own}
theorem zeros_eq {zv:Value}{n:Nat}(hz:0<zv.cells.size):((Array.range (n*zv.cells.size)).map (zv.cells[· % zv.cells.size]!)).toList=(List.range (n*zv.cells.toList.length)).map fun i=>zv.cells.toList.getD (i % zv.cells.toList.length) (.tuple #[]):=by
 rw[Array.toList_map,Array.toList_range];have hl:zv.cells.toList.length=zv.cells.size:=by simp
 rw[hl];refine List.map_congr_left fun i _=>?_;have h1:i % zv.cells.size<zv.cells.size:=Nat.mod_lt _ hz;simp[getElem!_pos,h1]
theorem newSlice (hT:TOk P T) {t e esz by' len sz0:Nat}{z:List Value}{ds:List (Nat × D)}{cs:List D}{ps:Array (Nat × Value)}{ti ti2:TI}(hTt:T t=some ti) (hk:ti.kind=.slice e esz by') (hTe:T e=some ti2) (hsz2:ti2.size=sz0) (hz2:ti2.zero=some z)
  (hcond:0<len/\len*esz<=16777216/\z.length=esz/\0<esz/\sz0=esz) (hfill:zeb (fun i=>some (i*esz,esz)) (zkh len z) ds=some cs) (hpl:zcs cs=true/\oneL cs=true) (hP:RepP M E ds ps.toList) (hW:WRel B w0 M0 M E ow w):
  ∃ u w' M',(Instr.buildSlice t len ps).run P w=.ok u w'/\M.le M'/\Rep M' E (.sl esz len fun i j=>(cs[i*esz+j]?).getD .junk) u/\WRel B w0 M0 M' E ow w':=by
 obtain ⟨hlen,h24,hzl,hpos,hs0⟩:=hcond;obtain ⟨i1,td,hi1,hd1,rfl⟩:=zi (hT _ _ hTt)
 obtain ⟨rfl,ei,hei,rfl,rfl⟩:=zM hk;obtain ⟨i2,td2,hi2,hd2,rfl⟩:=zi (hT _ _ hTe)
 rw[hei] at hi2;simp at hi2;subst hi2;obtain ⟨zv,hzv,hzc⟩:=Option.map_eq_some_iff.1 hz2;have hzs:zv.cells.size=ei.size:=by rw[<- hzl,<- hzc];simp
 have hz0:=zeros_eq (zv:=zv) (n:=len) (by omega)
 obtain ⟨us',h1,h2⟩:=zbg hW (place:=fun i=>some (i*ei.size,ei.size)) (fun _=>rfl) hP hfill (us:=(Array.range (len*zv.cells.size)).map (zv.cells[· % zv.cells.size]!)) (by
  rw[hz0,hzc];exact RepL.vals _)
 have hul:us'.size=len*ei.size:=by
  have:=h2.length;have hfl:cs.length=len*ei.size:=by
   have:∀ (l:List (Nat × D)) (c c':List D),zeb (fun i=>some (i*ei.size,ei.size)) c l=some c'->c'.length=c.length:=by
    intro l
    induction l with
    | nil=>intro c c' hh;simp[zeb] at hh;rw[hh]
    | cons x l ih =>
     intro c c' hh;obtain ⟨xi,xd⟩:=x;simp only[zeb] at hh;split at hh<;>try (simp at hh;done)
     split at hh<;>try (simp at hh;done)
     split at hh<;>try (simp at hh;done)
     rename_i c2 hc2;rw[ih _ _ hh,(xT hc2).1]
   rw[this _ _ _ hfill];simp[zkh,hzl]
  simp at this;omega
 obtain ⟨M',hle,hW',hcell⟩:=hW.newData us' e;refine ⟨.slice (some ⟨w.heap.size,0,none⟩) len len,w.alloc (.cells us' e (0,0)),M',?_,hle,?_,hW'⟩
 ·have hne:len*ei.size≠0:=Nat.mul_ne_zero (by omega) (by omega)
  have h24':¬(len*ei.size>2 ^ 24):=by omega
  rw[hzs] at h1;simp only[Instr.buildSlice,Sem.run_bind,zb hd1,Result.andThen_ok,zw hei,h24',if_false];simp only[hne,if_false,Sem.run_bind,yO hei hzv,Result.andThen_ok,Sem.run_pure];rw[hzs,h1];simp[newRow]
 ·simp only[Rep];refine ⟨_,len,rfl,Nat.le_refl _,fun _=>⟨_,rfl,fun q hq j hj=>?_⟩⟩
  have hlt:q*ei.size+j<cs.length:=by
   have:=h2.length;simp at this;have h3:(q+1)*ei.size<=len*ei.size:=Nat.mul_le_mul_right _ (by omega)
   rw[Nat.add_mul] at h3;omega
  have hget:=List.getElem?_eq_getElem hlt;obtain ⟨x,x1,x2⟩:=RepL.get h2 hget;refine ⟨x,?_,zbe hW hpl.2 h2 x (List.mem_of_getElem? x1),?_⟩
  ·rw[xn,Nat.zero_add,hcell];simpa using x1
  ·rw[hget];exact Rep.mono hle (zc _) _ _ (x2.plain (zbd hpl.1 hget))
theorem zdy (hT:TOk P T) {op:Op}{g:zib}{d:D}(h:ur T op g ow=some d) (hg:∀ x d,g x=some d->Rep M E d (ρ x)) (hW:WRel B w0 M0 M E ow w)
  (dst:Option Tmp) (ty:TypeId) (pos:String) (after:Array Edge) (guard:Option (Nat × Bool)):∃ u w' M',(execOp ρ ⟨dst,op,ty,pos,after,guard⟩).run P w=.ok (.value u) w'/\M.le M'/\Rep M' E d u/\WRel B w0 M0 M' E ow w':=by
 unfold ur at h;split at h<;>try (simp at h;done)
 ·rename_i x ats;split at h<;>try (simp at h;done)
  ·rename_i hx;simp at h;subst h;have h1:=hg _ _ hx;simp only[Rep] at h1;exact ⟨.pointer none,w,M,by simp[execOp,resolve,invoke,builtin,h1,Lib.run_unsafeSliceData_nil],za _,zk _,hW⟩
  ·rename_i i hx;split at h<;>try (simp at h;done)
   rename_i e s ho;simp at h;subst h;have h1:=hg _ _ hx;simp only[Rep] at h1;have hH:=hW.holds _ _ _ ho h1;simp only[Holds] at hH;obtain ⟨⟨xs,hown,_,_⟩,hcap⟩:=hH;obtain ⟨a,cap,hv⟩:=uU hown;cases a with
   | none =>
    refine ⟨.pointer none,w,M,by simp[execOp,resolve,invoke,builtin,hv,Lib.run_unsafeSliceData_nil],za _,?_,hW⟩
    simp only[Rep];exact ⟨none,_,cap,none,by rw[h1,hv],rfl,fun _=>rfl,fun ad hh=>by simp at hh⟩
   | some ad =>
    have hc:=hcap _ _ _ hv;refine ⟨.pointer (some ad),w,M,by simp[execOp,resolve,invoke,builtin,hv,Lib.run_unsafeSliceData_row _ _ _ _ _ _ hc],za _,?_,hW⟩
    simp only[Rep];exact ⟨some ad,_,cap,some ad,by rw[h1,hv],rfl,fun hh=>by simp at hh,fun ad' hh _=>hh⟩
 ·rename_i t len ps;split at h<;>try (simp at h;done)
  rename_i hTt;split at h<;>try (simp at h;done)
  rename_i hTe hps;split at h<;>try (simp at h;done)
  rename_i hcond;split at h<;>try (simp at h;done)
  rename_i cs hfill;split at h<;>try (simp at h;done)
  rename_i hpl;simp at h;subst h;obtain ⟨u,w',M',h1,h2,h3,h4⟩:=newSlice (ps:=ps.map fun x=>(x.1,ρ x.2)) hT hTt rfl hTe rfl rfl hcond hfill hpl (by simpa using uo hg hps) hW;refine ⟨u,w',M',?_,h2,h3,h4⟩
  simp only[execOp,Sem.run_bind];rw[h1];rfl
theorem zhx:∀ (l:List (Nat × D)) {ow ow':List Own}{l':List (Nat × D)}{M:Mem}{us:List (Nat × Value)},frzP ow l=(l',ow')->WRel B w0 M0 M E ow w->RepP M E l us->∃ M',M.le M'/\WRel B w0 M0 M' E ow' w/\RepP M' E l' us
 | [],ow,ow',l',M,us,h,hW,hu=>by simp only[frzP] at h;simp at h;obtain ⟨rfl,rfl⟩:=h;cases hu;exact ⟨M,za _,hW,.nil⟩
 | (i,d)::ds,ow,ow',l',M,us,h,hW,hu=>by
  simp only[frzP] at h;cases hd:frz ow d with
  | mk d' ow1 =>
   rw[hd] at h;simp only at h;cases hl:frzP ow1 ds with
   | mk ds' ow2 =>
    rw[hl] at h;simp at h;obtain ⟨rfl,rfl⟩:=h;cases hu with
    | cons hu1 hr =>
     obtain ⟨M1,h1,h2,h3⟩:=zcz d hd hW hu1;have mono:∀ {M1:Mem}{l:List (Nat × D)}{us:List (Nat × Value)},M.le M1->RepP M E l us->RepP M1 E l us:=by
      intro M1 l us hle hp
      induction hp with
      | nil=>exact .nil
      | cons hq _ ih=>exact .cons (Rep.mono hle (zc _) _ _ hq) ih
     obtain ⟨M2,h4,h5,h6⟩:=zhx ds hl h2 (mono h1 hr)
     exact ⟨M2,zp h1 h4,h5,.cons (Rep.mono h4 (zc _) _ _ h3) h6⟩
theorem zod (hT:TOk P T) {op:Op}{g:zib}{d:D}{ow':List Own}(h:evNew T op g ow=some (d,ow')) (hg:∀ x d,g x=some d->Rep M E d (ρ x)) (hW:WRel B w0 M0 M E ow w)
  (dst:Option Tmp) (ty:TypeId) (pos:String) (after:Array Edge) (guard:Option (Nat × Bool)):∃ u w' M',(execOp ρ ⟨dst,op,ty,pos,after,guard⟩).run P w=.ok (.value u) w'/\M.le M'/\Rep M' E d u/\WRel B w0 M0 M' E ow' w':=by
 unfold evNew at h;split at h
 ·rename_i t len ps;split at h<;>try (simp at h;done)
  rename_i hTt;split at h<;>try (simp at h;done)
  rename_i ds0 hTe hps;split at h;rename_i ds ow1 hfz;split at h<;>try (simp at h;done)
  rename_i hcond0;have hcond:=hcond0.1;split at h<;>try (simp at h;done)
  rename_i cs hfill;split at h<;>try (simp at h;done)
  rename_i hpl;simp at h;obtain ⟨rfl,rfl⟩:=h;obtain ⟨M1,hle,hW1,hP1⟩:=zhx ds0 hfz hW (uo hg hps)
  obtain ⟨u,w',M',h1,h2,h3,h4⟩:=newSlice (ps:=ps.map fun x=>(x.1,ρ x.2)) hT hTt rfl hTe rfl rfl hcond hfill hpl (by simpa using hP1) hW1;refine ⟨u,w',M',?_,zp hle h2,h3,h4⟩
  simp only[execOp,Sem.run_bind];rw[h1];rfl
 ·split at h<;>try (simp at h;done)
  rename_i dd hd;simp at h;obtain ⟨rfl,rfl⟩:=h;exact zdy hT hd hg hW dst ty pos after guard
end
end Go.Sx
namespace Go.Sx
open Go Go.RowKit
variable {tm:List (Nat × D)}{a:Act}{N:Nat}{gs:Gs}
section
variable {P:Program}{T:TT}{B:Nat}{w0 w w':World}{M0 M M':Mem}{E E':List Value}{ow:List Own}{dv:List Deferred}
theorem EnvLe.trans {E1 E2 E3:List Value}(h:EnvLe E1 E2) (k:EnvLe E2 E3):EnvLe E1 E3:=fun _ _ hb=>k _ _ (h _ _ hb)
theorem zP {t:Nat}{u:Value}(hN:a.tmps.size=N) (ht:t<N) (s:Nat):(a.put (some t) u).tmps.getD s undef=if s=t then u else a.tmps.getD s undef:=by
 simp only[Act.put,Array.getD_eq_getD_getElem?,Array.getElem?_setIfInBounds];by_cases h:s=t
 ·subst h;simp[hN,ht]
 ·have:t≠s:=fun e=>h e.symm;simp[h,this]
theorem zdf:∀ {gs:Gs}{t:Nat},zg2 gs t=true->∀ {s g:Nat}{b:Bool}{d:D},lkG gs s=some (g,b,d)->s≠t/\g≠t
 | [],t,_,s,g,b,d,h=>by simp[lkG] at h
 | (s',g',b',d')::r,t,hf,s,g,b,d,h=>by
  simp only[zg2] at hf;split at hf<;>try (simp at hf;done)
  split at hf<;>try (simp at hf;done)
  rename_i h1 h2;simp only[lkG] at h;split at h
  ·rename_i hs;simp at h;obtain ⟨rfl,rfl,rfl⟩:=h;exact ⟨by rw[<- hs];exact h1,h2⟩
  ·exact zdf hf h
theorem TRel.put (h:TRel dv N M E tm gs a) (hM:M.le M') (hE:EnvLe E E') {t:Nat}{d:D}{u:Value}(hu:Rep M' E' d u) (ht:t<N) (hf:zg2 gs t=true):
  TRel dv N M' E' (zaf tm t d) gs (a.put (some t) u):=by
 refine ⟨by simp[Act.put,h.size],by simp[Act.put,h.defers],fun s x hs=>?_,fun s g b x hs hb=>?_⟩
 ·rw[zP h.size ht];rw[za1] at hs;split at hs
  ·rename_i hst;simp at hs;subst hs;subst hst;simpa using hu
  ·rename_i hst;rw[if_neg (fun e=>hst e.symm)];exact Rep.mono hM hE _ _ (h.tmps _ _ hs)
 ·obtain ⟨h1,h2⟩:=zdf hf hs;rw[zP h.size ht,if_neg h2] at hb;rw[zP h.size ht,if_neg h1];exact Rep.mono hM hE _ _ (h.guarded _ _ _ _ hs hb)
theorem TRel.mono (h:TRel dv N M E tm gs a) (hM:M.le M') (hE:EnvLe E E'):TRel dv N M' E' tm gs a :=
 ⟨h.size,h.defers,fun _ _ hs=>Rep.mono hM hE _ _ (h.tmps _ _ hs),fun _ _ _ _ hs hb=>Rep.mono hM hE _ _ (h.guarded _ _ _ _ hs hb)⟩
def GlOk (M:Mem) (Gl:Nat->Option D):Prop:=∀ g d,Gl g=some d->Rep M [] d (.pointer (some ⟨g,0,none⟩))
theorem zC {Gl:Nat->Option D}{ok:Nat->Bool->Bool}(hT:TRel dv N M E tm gs a) (hG:GlOk M Gl) (hok:∀ s b,ok s b=true->a.tmps.getD s undef=.bool b)
  {x:Operand}{d:D}(h:xO Gl ok tm gs x=some d):Rep M E d (a.eval x):=by
 cases x with
 | tmp t =>
  simp only[xO] at h;split at h
  ·rename_i s b d' hs;split at h
   ·rename_i hk;simp at h;subst h;exact hT.guarded _ _ _ _ hs (hok _ _ hk)
   ·simp at h
  ·exact hT.tmps _ _ h
 | const v=>simp only[xO] at h;simp at h;subst h;exact zk _
 | global g=>simp only[xO] at h;exact Rep.mono (za _) (EnvLe.nil _) _ _ (hG _ _ h)
 | func f =>
  simp only[xO] at h;simp at h;subst h;simp only[Rep];exact ⟨#[],rfl,RepL.nil⟩
theorem zlh (hT:TOk P T) {t kt vt:TypeId}{ti ki vi:TI}(hTt:T t=some ti) (hk:ti.kind=.map kt vt) (hTk:T kt=some ki) (hTv:T vt=some vi) {i:Nat}{sh:KS}{f:KV->Option D}{key:KV}{kd z:D}{u v:Value}{ok:Bool}(ho:ow[i]?=some (.map kt vt sh f)) (hsh:ksOf ki=some sh) (hks:zcb key=sh)
  (hz:zeroD vi=some z) (hkv:kvOf kd=some key) (hW:WRel B w0 M0 M E ow w) (hu:Rep M E (.mp i) u) (hv:Rep M E kd v):
  ∃ r,(Instr.lookup t u v ok).run P w=.ok r w/\((∃ d,f key=some d/\Rep M E (if ok then .tu [d,.v (.bool true)] else d) r)\/(f key=none/\Rep M E (if ok then .tu [z,.v (.bool false)] else z) r)):=by
 obtain ⟨i1,td,hi1,hd1,rfl⟩:=zi (hT _ _ hTt)
 obtain rfl:=tkOf_map hk;simp only[Rep] at hu;obtain ⟨b,hE,rfl⟩:=hu;have hH:=hW.holds _ _ _ ho hE;simp only[Holds] at hH;obtain ⟨b',es,ck,hb',hheap,hmr,hMb,hB⟩:=hH;simp at hb';subst hb';have hku:=kvOf_rep hkv hv;subst hku;obtain ⟨r,hr1,hr2⟩:=zfe (P:=P) (w:=w) (hT _ _ hTk) hsh hks hmr.keys;have hck:=zdq (P:=P) (w:=w) (b:=es.isEmpty) (n:=9998) (hT _ _ hTk) hsh hks;have hgetm:(getObj b).run P w=.ok (.map es ck) w:=by simp[getObj,Sem.run,hheap]
 obtain ⟨zv,hzv,hzr⟩:=zki (P:=P) (w:=w) (M:=M) (E:=E) (hT _ _ hTv) hz;cases r with
 | none =>
  simp only[FindOk] at hr2;have hnone:f key=none:=by
   cases hf:f key with
   | none=>rfl
   | some d =>
    obtain ⟨j,e,h1,h2,_⟩:=hmr.has key d hf;exact absurd h2 (hr2 e (List.mem_of_getElem? h1))
  refine ⟨_,by simp[Instr.lookup,zb hd1,hgetm,hck,hr1,hzv];rfl,.inr ⟨hnone,?_⟩⟩
  cases ok with
  | true=>simp only[if_true,Rep];exact ⟨_,rfl,RepL.cons hzr (RepL.cons (zk _) RepL.nil)⟩
  | false=>exact hzr
 | some p =>
  obtain ⟨j0,v0⟩:=p;simp only[FindOk,Nat.sub_zero] at hr2;obtain ⟨_,e0,he0,hk0,rfl⟩:=hr2;have hsome:∃ d,f key=some d:=by
   cases hf:f key with
   | some d=>exact ⟨d,rfl⟩
   | none=>exact absurd hk0 (hmr.lacks key hf e0 (List.mem_of_getElem? he0))
  obtain ⟨d,hd⟩:=hsome;obtain ⟨j,e,h1,h2,h3⟩:=hmr.has key d hd;have:=hmr.once _ _ _ _ he0 h1 (hk0.trans h2.symm)
  subst this;rw[he0] at h1;simp at h1;subst h1;refine ⟨_,by simp[Instr.lookup,zb hd1,hgetm,hck,hr1];rfl,.inl ⟨d,hd,?_⟩⟩
  cases ok with
  | true=>simp only[if_true,Rep];exact ⟨_,rfl,RepL.cons h3 (RepL.cons (zk _) RepL.nil)⟩
  | false=>exact h3
end
end Go.Sx
