import Derived.Test.YtnimkdbpoeondaaGreatDoorEa
import Derived.Shelf.SlSortCmp.NoneTotal
import Derived.RowKit3
import Derived.Lib.Small
import Derived.LoopN
import Derived.Laws.Cover1
import Derived.WalkKit
import Derived.Laws.NewBlocks
import Derived.Deep.QuietTactic
import Derived.BigQuiet
import Derived.Deep.RegionWith
import Derived.StillTailTactics
import Derived.Test.YtnimkdbpoeondaaGreatDoorP1
set_option linter.all false
set_option maxHeartbeats 4000000
namespace Go.Sx
open Go Go.RowKit
section
variable {B:Nat}{w0 w w':World}{M0 M:Mem}{E:List Value}{ow:List Own}
theorem WRel.turn (h:WRel B w0 M0 M E ow w) {i:Nat}{o o':Own}{v:Value}(ho:ow[i]?=some o) (hf:o.free=true) (hv:E[i]?=some v) (hgrow:w.grownBy w' (zL v)) (hH:Holds B M E w' o' v):
  WRel B w0 M0 M E (zj ow i o') w':=by
 have hlv:=Own.free_live hf;have hlt:∀ b,zL v=some b->b<w.heap.size/\B<=b/\M b=none:=fun b hb=>by
  obtain ⟨h1,h2,h3⟩:=(h.holds _ _ _ ho hv).lt hlv hb;exact ⟨h1,h2,h3 hf⟩
 have hsame:∀ b,b<w.heap.size->zL v≠some b->w'.heap[b]?=w.heap[b]?:=fun b hb hne=>hgrow.block b hb (fun e=>hne e.symm)
 refine ⟨fun c x hc=>?_,Nat.le_trans h.base hgrow.size,h.below.trans ⟨hgrow.os,hgrow.tape,hgrow.output,hgrow.size,fun q hq=>hsame q (Nat.lt_of_lt_of_le hq h.base) (fun hbu=>?_)⟩,by simp[zJ,h.len],fun j p u hp hu=>?_,fun j k p p' u u' c hp hp' hl1 hl2 hu hu' hc hc'=>?_,h.mle,h.new⟩
 ·have hfit:=h.fits _ _ hc;rw[hsame c hfit.lt (fun hbu=>by rw[(hlt c hbu).2.2] at hc;simp at hc)];exact hfit
 ·have:=(hlt q hbu).2.1;omega
 ·rw[zt] at hp;split at hp
  ·rename_i hij;subst hij;rw[if_pos (zE ho)] at hp;simp at hp;subst hp;rw[hv] at hu;simp at hu;subst hu;exact hH
  ·rename_i hij;have hHj:=h.holds _ _ _ hp hu;exact hHj.frame (fun c hl hc=>hsame c (hHj.lt hl hc).1 (fun hbu=>hij (h.inj _ _ _ _ _ _ _ ho hp hlv hl hv hu hbu hc))) (za _) (zc _) (fun c hf' hc=>(hHj.lt (Own.free_live hf') hc).2.2 hf')
 ·have back:∀ (j:Nat) (p:Own),(zj ow i o')[j]?=some p->p.live=true->∃ q:Own,ow[j]?=some q/\q.live=true:=by
   intro j p hp hl;rw[zt] at hp;split at hp
   ·rename_i hij;subst hij;exact ⟨o,ho,hlv⟩
   ·exact ⟨p,hp,hl⟩
  obtain ⟨q,hq,hql⟩:=back _ _ hp hl1;obtain ⟨q',hq',hql'⟩:=back _ _ hp' hl2;exact h.inj _ _ _ _ _ _ _ hq hq' hql hql' hu hu' hc hc'
end
theorem perm_pairs {α β:Type}{b b':List β}(h:b.Perm b'):∀ z:List (α × β),z.map Prod.snd=b->∃ z':List (α × β),z'.Perm z/\z'.map Prod.snd=b':=by
 induction h with
 | nil=>intro z hz;exact ⟨z,List.Perm.refl _,hz⟩
 | cons x _ ih =>
  intro z hz
  match z,hz with
  | p::z,hz =>
   simp at hz;obtain ⟨z',h1,h2⟩:=ih z hz.2;exact ⟨p::z',h1.cons p,by simp[hz.1,h2]⟩
 | swap x y l =>
  intro z hz
  match z,hz with
  | p::q::z,hz =>
   simp at hz;exact ⟨q::p::z,List.Perm.swap p q z,by simp[hz.1,hz.2.1,hz.2.2]⟩
 | trans _ _ ih1 ih2 =>
  intro z hz;obtain ⟨z1,a1,a2⟩:=ih1 z hz;obtain ⟨z2,b1,b2⟩:=ih2 z1 a2;exact ⟨z2,b1.trans a1,b2⟩
section
variable {α:Type} [Inhabited α]
theorem zkt (encV:α->List Value) (k:Nat) {w:World}{blk n:Nat}{cur:Array Value}{e:TypeId}(d':Array α) (os:Array Obj) (hb:w.heap[blk]?=some (.cells cur e (0,0))) (hs:d'.size*k<=cur.size):
  w.grownBy (Go.Proofs.sortWorldK encV k w blk 0 n d' os) (some blk)/\∃ cur':Array Value,(Go.Proofs.sortWorldK encV k w blk 0 n d' os).heap[blk]?=some (.cells cur' e (0,0))/\cur'.size=cur.size/\cur'.toList.take (d'.size*k)=(Go.Sort.flatK encV k d').toList:=by
 have hlt:blk<w.heap.size:=(Array.getElem?_eq_some_iff.1 hb).1;have hh:(Go.Proofs.sortWorldK encV k w blk 0 n d' os).heap=w.heap.modify blk (Go.Sort.onCells (Go.Sort.putCells id 0 (Go.Sort.flatK encV k d')))++os:=rfl;refine ⟨⟨rfl,rfl,rfl,by rw[hh];simp,fun q hq hne=>?_⟩,Go.Sort.putCells id 0 (Go.Sort.flatK encV k d') cur,?_,by simp[Go.Sort.putCells],?_⟩
 ·rw[hh,Array.getElem?_append_left (by simpa using hq),Array.getElem?_modify,if_neg (fun e=>hne (by rw[e]))]
 ·rw[hh,Array.getElem?_append_left (by simpa using hlt),Array.getElem?_modify,if_pos rfl,hb];rfl
 ·apply List.ext_getElem?;intro t;rw[List.getElem?_take,Array.getElem?_toList,Array.getElem?_toList];by_cases ht:t<d'.size*k
  ·rw[if_pos ht];simp only[Go.Sort.putCells,Array.getElem?_mapIdx];rw[Array.getElem?_eq_getElem (by omega),Option.map_some,if_pos ⟨Nat.zero_le _,by simpa using ht⟩,Array.getElem?_eq_getElem (by simpa using ht)];simp only[id,Nat.sub_zero];rw[getElem!_pos _ t (by simpa using ht)]
  ·rw[if_neg ht,Array.getElem?_eq_none (by simpa using ht)]
def sortT {β:Type} [Inhabited β] (sz:Nat) (g:FuncId) (enc:β->Nat->D) (lt:β->β->Bool):Tr:=fun _ ds ow k =>
 (∃ (i e n:Nat) (f:Nat->Nat->D) (l:List β),ds=[.row i,.fn g []]/\ow[i]?=some (.row e sz n f)/\n=l.length/\(∀ a,a<n->∀ j,j<sz->Ent (f a j) (enc (l.getD a default) j))/\l.length<4611686018427387904 /\
  ∀ l':List β,l'.Perm l->(∀ p q,p<q->q<l'.length->lt (l'.getD q default) (l'.getD p default)=false)->k (.tu []) (zj ow i (.row e sz l'.length fun a j=>enc (l'.getD a default) j))) \/
  (ds=[.v (.slice none 0 0),.fn g []]/\k (.tu []) ow)
theorem sort_sound {β:Type} [Inhabited β] {P:Program}{Gl:Nat->Option D}{f g:FuncId}{sz:Nat}{enc:β->Nat->D}{lt:β->β->Bool}(hf:Enters P f) (hg:Enters P g)
  (encV:α->List Value) (cf:α->α->Int) (hk:∀ x,(encV x).length=sz) (hpos:0<sz) (h1:∀ x,∀ v∈encV x,v.oneCell'=true)
  (hS:∀ blk cap (d:Array α) w,Go.Sort.HoldsK encV sz w blk 0 d->blk<w.heap.size->d.size<4611686018427387904 ->
   Calls P f #[.slice (some ⟨blk,0,none⟩) d.size cap,.func (.func g) #[] #[]] w fun e w'=>e=.returned (.tuple #[])/\∃ d' n os,Go.Sort.PermIn 0 d.size d d'/\Go.Sort.SortedIn (Go.Proofs.ltOf cf) 0 d.size d'/\w'=Go.Proofs.sortWorldK encV sz w blk 0 n d' os)
  (hN:∀ p cap fv w,Calls P f #[.slice p 0 cap,fv] w fun e w'=>e=.returned (.tuple #[])/\w'=w)
  (R:Mem->β->α->Prop)
  (hR:∀ M x cs,cs.length=sz->(∀ j,j<sz->∃ u,cs[j]?=some u/\u.oneCell'=true/\Rep M [] (enc x j) u)->∃ y:α,encV y=cs/\R M x y)
  (hB:∀ M x y,R M x y->∀ j,j<sz->∃ u,(encV y)[j]?=some u/\u.oneCell'=true/\Rep M [] (enc x j) u)
  (hlt:∀ M x y x' y',R M x y->R M x' y'->lt x x'=Go.Proofs.ltOf cf y y'):SoundT P Gl f (sortT sz g enc lt):=by
 refine ⟨hf,?_⟩
 rintro Y ds ow k (⟨i,e,n,f0,l,rfl,hrow,hn,hent,hlen,hK⟩|⟨rfl,hK⟩) B w0 M0 M E w us hW hG hY hr n'
 ·refine callsIn_wide.2 ?_;simp only[RepL] at hr;obtain ⟨v,r,hus,hv,u2,r2,rfl,hu2,rfl⟩:=hr;simp only[Rep] at hv hu2;obtain ⟨cs,rfl,hcs⟩:=hu2;simp only[RepL] at hcs;have hcs:cs = #[]:=by apply Array.ext';simpa using hcs
  subst hcs;have hus:us = #[v,.func (.func g) #[] #[]]:=by apply Array.ext';simpa using hus
  subst hus;have hH:=hW.holds _ _ _ hrow hv;simp only[Holds] at hH;obtain ⟨xs,hown,hcells,hM⟩:=hH;rcases Nat.eq_zero_or_pos n with h0|h0
  ·subst h0;obtain ⟨a,cap,rfl⟩:=uU hown;have hl0:l=[]:=List.length_eq_zero_iff.1 hn.symm;subst hl0;refine (hN a cap _ w).mono ?_;rintro e' w' ⟨rfl,rfl⟩
   refine ⟨.tu [],_,M,E,_,rfl,hK [] (List.Perm.refl _) (fun p q _ hq=>by simp at hq),za _,zc _,hW.swap hrow (fun _=>rfl) (fun v' hv' hH'=>?_),by simp[Rep,RepL]⟩
   simp only[Holds] at hH' ⊢;obtain ⟨ys,a1,a2,a3⟩:=hH';exact ⟨ys,a1,fun a ha=>by simp at ha,a3⟩
  ·rcases hown.2 with ⟨_,hn0⟩|⟨blk,cap,cur,rfl,b2,b3,b4,b4',b5,b6⟩
   ·omega
   have hxl:xs.length=n*sz:=hown.1;have hblt:blk<w.heap.size:=(Array.getElem?_eq_some_iff.1 b3).1
   -- the elements
   have hex:∀ a,∃ y:α,a<n->encV y=(xs.drop (a*sz)).take sz/\R M (l.getD a default) y:=by
    intro a;by_cases ha:a<n
    ·have hle:a*sz+sz<=n*sz:=by
      have:=Nat.mul_le_mul_right sz (show a+1<=n from ha)
      rwa [Nat.add_mul,Nat.one_mul] at this
     obtain ⟨y,y1,y2⟩:=hR M (l.getD a default) ((xs.drop (a*sz)).take sz) (by simp;omega) (fun j hj=>by
      obtain ⟨x,x1,x2,x3⟩:=hcells a ha j hj;refine ⟨x,?_,x2,hent a ha j hj _ _ _ x3⟩
      rw[List.getElem?_take,if_pos hj,List.getElem?_drop];exact x1)
     exact ⟨y,fun _=>⟨y1,y2⟩⟩
    ·exact ⟨default,fun h=>absurd h ha⟩
   obtain ⟨F,hF⟩:=Classical.axiomOfChoice hex;have hd:∀ a,a<n->((List.range n).map F).toArray[a]! = F a:=fun a ha=>by
    rw[getElem!_pos _ a (by simpa using ha)];simp
   generalize hde:((List.range n).map F).toArray=d at hd;have hds:d.size=n:=by rw[<- hde];simp
   have hdl:d.toList=(List.range n).map F:=by rw[<- hde]
   have hhold:Go.Sort.HoldsK encV sz w blk 0 d:=by
    intro t ht;have ht':t<n*sz:=by simpa[hds] using ht
    have hq:t / sz<n:=Nat.div_lt_of_lt_mul (by rwa [Nat.mul_comm] at ht')
    constructor
    ·rw[cell_of_row w blk (0+t) cur e (0,0) b3,Go.Sort.get_flatK _ _ _ t (by rw[hds];exact ht'),hd _ hq,(hF _ hq).1];simp only[id];have hm:t % sz<sz:=Nat.mod_lt _ hpos;have hdm:=Nat.div_add_mod t sz;rw[Nat.mul_comm] at hdm;have hle:t / sz*sz+t % sz<xs.length:=by rw[hxl,hdm];exact ht'
     rw[getElem!_pos _ (t % sz) (by simp;omega)];rw[List.getElem_take,List.getElem_drop];rw[Nat.zero_add,<- Array.getElem?_toList];have e1:cur.toList[t]?=xs[t]?:=by
      rw[<- b6,List.getElem?_take,if_pos ht']
     rw[e1]
     conv=>lhs;rw[<- hdm]
     exact List.getElem?_eq_getElem hle
    ·exact frozen_of_row w blk (0+t) cur e b3
   have:=hS blk cap d w hhold hblt (by rw[hds,hn];exact hlen)
   rw[hds] at this;refine this.mono ?_;rintro e' w' ⟨rfl,d',m,os,hperm,hsort,rfl⟩
   have hds':d'.size=n:=by rw[hperm.1,hds]
   -- the same order of the plain elements
   have hpl:d.toList.Perm d'.toList:=by
    have:=hperm.2.2;rw[<- hds,Array.extract_size,hds,<- hds',Array.extract_size] at this;exact this.symm
   obtain ⟨z',hz1,hz2⟩:=perm_pairs (α:=β) hpl (l.zip d.toList) (by
    apply List.map_snd_zip;simp[hds,hn])
   have hzl:(l.zip d.toList).map Prod.fst=l:=by
    apply List.map_fst_zip;simp[hds,hn]
   have hrel:∀ p∈l.zip d.toList,R M p.1 p.2:=by
    intro p hp;obtain ⟨a,ha,rfl⟩:=List.getElem_of_mem hp;have ha':a<n:=by simp at ha;omega
    rw[List.getElem_zip];have h2:=(hF a ha').2;have e1:l.getD a default=l[a]'(by omega):=by simp[List.getD_eq_getElem?_getD,show a<l.length by omega]
    rw[e1] at h2;have e2:d.toList[a]'(by simp[hds];exact ha')=F a:=by
     simp only[hdl,List.getElem_map,List.getElem_range]
    have key:∀ y,y=F a->R M (l[a]'(by omega)) y:=fun y hy=>by rw[hy];exact h2
    exact key _ e2
   have hzn:z'.length=n:=by rw[hz1.length_eq];simp[hds,hn]
   have hpair:∀ a,a<n->R M ((z'.map Prod.fst).getD a default) d'[a]! := by
    intro a ha;have e1:(z'.map Prod.fst).getD a default=(z'[a]'(by omega)).1:=by simp[List.getD_eq_getElem?_getD,show a<z'.length by omega]
    have e2:d'[a]! = (z'[a]'(by omega)).2:=by
     rw[getElem!_pos _ a (by omega)];have h3:d'.toList[a]?=some (z'[a]'(by omega)).2:=by
      rw[<- hz2,List.getElem?_map,List.getElem?_eq_getElem (by omega)];rfl
     rw[Array.getElem?_toList,Array.getElem?_eq_getElem (by omega)] at h3;exact Option.some.inj h3
    rw[e1,e2];exact hrel _ (hz1.mem_iff.1 (List.getElem_mem _))
   have hl'n:(z'.map Prod.fst).length=n:=by simp[hzn]
   obtain ⟨g1,cur',c1,c2,c3⟩:=zkt (n:=m) encV sz d' os b3 (by rw[hds',b5];exact Nat.mul_le_mul_right _ b4)
   refine ⟨.tu [],_,M,E,_,rfl,hK (z'.map Prod.fst) ?_ ?_,za _,zc _,hW.turn hrow rfl hv (by simpa[zL] using g1) ?_,by simp[Rep,RepL]⟩
   ·have:=hz1.map Prod.fst
    rwa [hzl] at this
   ·intro p q hpq hq;rw[hl'n] at hq;rw[hlt M _ _ _ _ (hpair q hq) (hpair p (by omega))];exact hsort p q (Nat.zero_le _) hpq hq
   ·simp only[Holds];rw[hl'n];refine ⟨(Go.Sort.flatK encV sz d').toList,⟨by simp[hds'],.inr ⟨blk,cap,cur',rfl,b2,c1,b4,b4',by rw[c2,b5],by rw[<- hds'];exact c3⟩⟩,fun a ha j hj=>?_,hM⟩
    have hle:a*sz+j<d'.size*sz:=by
     have:=Nat.mul_le_mul_right sz (show a+1<=n from ha)
     rw[Nat.add_mul,Nat.one_mul] at this;rw[hds'];omega
    obtain ⟨u,u1,u2,u3⟩:=hB M _ _ (hpair a ha) j hj;refine ⟨u,?_,u2,u3⟩
    rw[Array.getElem?_toList,Array.getElem?_eq_getElem (by simpa using hle),<- getElem!_pos,Go.Sort.get_flatK _ _ _ _ hle];have d1:(a*sz+j) / sz=a:=by
     rw[Nat.mul_comm,Nat.mul_add_div hpos,Nat.div_eq_of_lt hj,Nat.add_zero]
    have d2:(a*sz+j) % sz=j:=by
     rw[Nat.mul_comm,Nat.mul_add_mod,Nat.mod_eq_of_lt hj]
    rw[d1,d2,getElem!_pos _ j (by rw[hk];exact hj)];rw[List.getElem?_eq_getElem (by rw[hk];exact hj)] at u1;exact u1
 ·refine callsIn_wide.2 ?_;simp only[RepL] at hr;obtain ⟨v,r,hus,hv,u2,r2,rfl,hu2,rfl⟩:=hr;have hv:v=.slice none 0 0:=hv;subst hv;have hus:us = #[.slice none 0 0,u2]:=by apply Array.ext';simpa using hus
  subst hus;refine (hN none 0 u2 w).mono ?_;rintro e' w' ⟨rfl,rfl⟩
  exact ⟨.tu [],_,M,E,ow,rfl,hK,za _,zc _,hW,by simp[Rep,RepL]⟩
end
end Go.Sx
namespace Go.Proofs
open Go.Shelf
theorem fkSoz{α:Type}{a b:α}{o:Option α}(h:o=some a) (e:a=b:=by kernel_rfl):o=some b:=h.trans (congrArg some e)
def Tryz.sortRg_ren:Go.Shelf.Ren:=⟨fun|6=>83|15=>113|14=>112|28=>146|29=>147|20=>138|21=>139|22=>140|23=>141|24=>142|25=>143|26=>144|27=>145|46=>175|47=>176|48=>177|49=>178|50=>179|57=>199|n=>n,fun|22=>29|24=>111|25=>135|3=>3|39=>143|0=>0|53=>163|55=>155|4=>4|46=>185|45=>184|50=>189|5=>5|9=>9|66=>209|70=>213|76=>224|77=>225|n=>n,fun|n=>n⟩
theorem Tryz.sortRg:Go.Proofs.SlLaysF0.n6 Tryz.prog Tryz.sortRg_ren:={
 mixed:=by kernel_rfl
 f6:=⟨Tryz.f83.name,by decide,fkSoz Tryz.func83⟩
 f14:=⟨Tryz.f112.name,by decide,fkSoz Tryz.func112⟩
 f15:=fkSoz Tryz.func113
 f20:=⟨Tryz.f138.name,by decide,fkSoz Tryz.func138⟩
 f21:=⟨Tryz.f139.name,by decide,fkSoz Tryz.func139⟩
 f22:=⟨Tryz.f140.name,by decide,fkSoz Tryz.func140⟩
 f23:=⟨Tryz.f141.name,by decide,fkSoz Tryz.func141⟩
 f24:=⟨Tryz.f142.name,by decide,fkSoz Tryz.func142⟩
 f25:=⟨Tryz.f143.name,by decide,fkSoz Tryz.func143⟩
 f26:=⟨Tryz.f144.name,by decide,fkSoz Tryz.func144⟩
 f27:=⟨Tryz.f145.name,by decide,fkSoz Tryz.func145⟩
 f28:=fkSoz Tryz.func146
 f29:=fkSoz Tryz.func147
 f46:=⟨Tryz.f175.name,by decide,fkSoz Tryz.func175⟩
 f47:=fkSoz Tryz.func176
 f48:=fkSoz Tryz.func177
 f49:=⟨Tryz.f178.name,by decide,fkSoz Tryz.func178⟩
 f50:=⟨Tryz.f179.name,by decide,fkSoz Tryz.func179⟩
 f57:=⟨Tryz.f199.name,by decide,fkSoz Tryz.func199⟩
 t0:=Tryz.underlying0
 a0:=Tryz.isAgg0
 z0:=Tryz.sizeOf0
 v0:=Tryz.zeroValue0
 t3:=Tryz.underlying3
 a3:=Tryz.isAgg3
 z3:=Tryz.sizeOf3
 v3:=Tryz.zeroValue3
 t4:=Tryz.underlying4
 a4:=Tryz.isAgg4
 z4:=Tryz.sizeOf4
 v4:=Tryz.zeroValue4
 t5:=Tryz.underlying5
 a5:=Tryz.isAgg5
 z5:=Tryz.sizeOf5
 v5:=Tryz.zeroValue5
 t9:=Tryz.underlying9
 a9:=Tryz.isAgg9
 z9:=Tryz.sizeOf9
 v9:=Tryz.zeroValue9
 t22:=Tryz.underlying29
 a22:=Tryz.isAgg29
 z22:=Tryz.sizeOf29
 v22:=Tryz.zeroValue29
 t25:=Tryz.underlying135
 a25:=Tryz.isAgg135
 z25:=Tryz.sizeOf135
 v25:=Tryz.zeroValue135
 t39:=Tryz.underlying143
 a39:=Tryz.isAgg143
 z39:=Tryz.sizeOf143
 v39:=Tryz.zeroValue143
 t45:=Tryz.underlying184
 a45:=Tryz.isAgg184
 z45:=Tryz.sizeOf184
 v45:=Tryz.zeroValue184
 t46:=Tryz.underlying185
 a46:=Tryz.isAgg185
 z46:=Tryz.sizeOf185
 v46:=Tryz.zeroValue185
 t50:=Tryz.underlying189
 a50:=Tryz.isAgg189
 z50:=Tryz.sizeOf189
 v50:=Tryz.zeroValue189
 t53:=Tryz.underlying163
 a53:=Tryz.isAgg163
 z53:=Tryz.sizeOf163
 v53:=Tryz.zeroValue163
 t55:=Tryz.underlying155
 a55:=Tryz.isAgg155
 z55:=Tryz.sizeOf155
 v55:=Tryz.zeroValue155
 t66:=Tryz.underlying209
 a66:=Tryz.isAgg209
 z66:=Tryz.sizeOf209
 v66:=Tryz.zeroValue209
 t70:=Tryz.underlying213
 a70:=Tryz.isAgg213
 z70:=Tryz.sizeOf213
 v70:=Tryz.zeroValue213
 t76:=Tryz.underlying224
 a76:=Tryz.isAgg224
 z76:=Tryz.sizeOf224
 v76:=Tryz.zeroValue224
 t77:=Tryz.underlying225
 a77:=Tryz.isAgg225
 z77:=Tryz.sizeOf225
 v77:=Tryz.zeroValue225 }
open Go Go.RowKit Go.Shelf Go.Lib Go.Sort
def zj0 (a b:Int):Int:=if a<b then -1 else if a>b then 1 else 0
def orRn (a b:Int):Int:=if a=0 then b else a
theorem nanR (s:Int) (w:World):Calls Tryz.prog 114 #[.int .i64 s] w fun e w'=>e=.returned (.bool false)/\w'=w:=by
 go_enter Tryz.func114,Tryz.ntmps114
 go_wp2
 go_ret
 exact ⟨by simp,rfl⟩
theorem cmpR (a b:Int) (w:World):Calls Tryz.prog 86 #[.int .i64 a,.int .i64 b] w fun e w'=>e=.returned (.int .i64 (zj0 a b))/\w'=w:=by
 have hn:=fun s W=>nanR s W
 go_enter Tryz.func86,Tryz.ntmps86
 go_wp2_with (go_at_call 114;refine (hn _ _).mono ?_;rintro e w' ⟨rfl,hw⟩;rw[hw])
 all_goals (go_ret;refine ⟨?_,rfl⟩;unfold zj0;(repeat' split)<;>first|rfl|(exfalso;omega))
theorem orR (a b:Int) (blk:Nat) (w:World) (h0:w.cell? ⟨blk,0,none⟩=some (.int .i64 a)) (h1:w.cell? ⟨blk,1,none⟩=some (.int .i64 b)):Calls Tryz.prog 85 #[.slice (some ⟨blk,0,none⟩) 2 2] w fun e w'=>e=.returned (.int .i64 (orRn a b))/\w'=w:=by
 go_enter Tryz.func85,Tryz.ntmps85
 go_wp2
 refine wp_loop_rounds 3 ?_;rw[rounds_succ]
 go_wp2
 all_goals try (rw[rounds_succ];go_wp2)
 all_goals try (rw[rounds_succ];go_wp2)
 all_goals (go_ret;exact ⟨by simp_all[orRn],rfl⟩)
set_option maxRecDepth 20000 in
theorem compR (a b c d:Int) (W:World):Calls Tryz.prog 84 #[.agg #[.int .i64 a,.int .i64 b],.agg #[.int .i64 c,.int .i64 d]] W fun e w'=>e=.returned (.int .i64 (orRn (zj0 a c) (zj0 b d)))/\∃ q os',w'=grow (W.drewN q) os':=by
 have hi:=fun a b W=>cmpR a b W;have ho:=fun a b blk w h0 h1=>orR a b blk w h0 h1
 go_enter Tryz.func84,Tryz.ntmps84
 go_wp2
 generalize hw1:World.alloc (World.alloc W _) _=w1;have c1:w1.cell? ⟨W.heap.size,0,none⟩=some (.int .i64 a):=by clear hi ho;subst hw1;go_simp
 have c2:w1.cell? ⟨W.heap.size,1,none⟩=some (.int .i64 b):=by clear hi ho;subst hw1;go_simp
 have c3:w1.cell? ⟨W.heap.size+1,0,none⟩=some (.int .i64 c):=by clear hi ho;subst hw1;go_simp
 have c4:w1.cell? ⟨W.heap.size+1,1,none⟩=some (.int .i64 d):=by clear hi ho;subst hw1;go_simp
 refine wp_region_still_tail 10 (by kernel_rfl) (by kernel_rfl) ?_;change wpStill _ _ (World.drew w1) (fun a'=>wpList _ _ _ _ a' (World.drew w1)) _ _;simp only[List.take_succ_cons,List.take_zero,List.drop_succ_cons,List.drop_zero]
 iterate 4 still_step
 still_call (hi a c _)
 iterate 4 still_step
 still_call (hi b d _)
 refine wpStill_nil ?_
 go_wp2_with (go_at_call 85;refine (ho (zj0 a c) (zj0 b d) w1.heap.size _ (by go_simp) (by go_simp)).mono ?_;rintro e w' ⟨rfl,rfl⟩)
 go_ret
 exact ⟨rfl,1,_,by rw[<- hw1,alloc_eq_grow,alloc_eq_grow,alloc_eq_grow,grow_grow,grow_grow];rfl⟩
open Go Go.Sx Go.RowKit Go.Lib Go.Sort Go.Shelf
variable {mx:Int}{pb:Bool}
def rgV (r:Rg):List Value:=[.int .i64 r.1,.int .i64 r.2]
def cfR (x y:Rg):Int:=orRn (zj0 x.1 y.1) (zj0 x.2 y.2)
theorem ltR_of (x y:Rg):ltOf cfR x y=rgLt x y:=by
 unfold ltOf cfR orRn zj0 rgLt rgC zoq;by_cases h1:x.1<y.1
 ·simp[h1]
 ·by_cases h2:x.1>y.1
  ·simp[h1,h2]
  ·by_cases h3:x.2<y.2
   ·simp[h1,h2,h3]
   ·by_cases h4:x.2>y.2<;>simp[h1,h2,h3,h4]
theorem swoR:SWO (ltOf cfR) where
 irrefl x:=by rw[ltR_of];rw[<- Bool.not_eq_true,zis];omega
 trans x y z h1 h2:=by rw[ltR_of,zis] at *;omega
 ntrans x y z h1 h2:=by rw[ltR_of,rgLt_no] at *;omega
theorem entersR:Sx.Enters Tryz.prog 84:=⟨_,Tryz.func84,by kernel_rfl,by kernel_rfl⟩
theorem sortR_ok:SoundT Tryz.prog (GlT mx pb) 83 (sortT 2 84 rgD rgLt):=by
 refine sort_sound (α:=Rg) ⟨_,Tryz.func83,by kernel_rfl,by kernel_rfl⟩ entersR rgV cfR (fun _=>rfl) (by decide) (fun x v hv=>by
   simp[rgV] at hv;rcases hv with rfl|rfl<;>rfl) ?_ ?_ (fun _ x y=>x=y) ?_ ?_ ?_
 ·intro blk cap d w hH hblk hsz;exact AnyQ.slices_SortFunc Tryz.sortRg 2 Tryz.isAgg111 Tryz.sizeOf111 rgV (fun _=>rfl) (fun x v hv=>by simp[rgV] at hv;rcases hv with rfl|rfl<;>rfl) cfR swoR 84 #[] blk 0 cap d w (fun args w=>yj entersR) (fun _ _ _ _ x y=>compR x.1 x.2 y.1 y.2 _) hH hblk hsz
 ·intro p cap fv w;exact AnyF.slices_SortFunc_none Tryz.sortRg p cap fv w
 ·intro M x cs hl hc;have g:∀ j v,j<2->rgD x j=.v v->cs[j]?=some v:=fun j v hj he=>by
   obtain ⟨u,h1,_,h3⟩:=hc j hj;rw[he] at h3;rw[h1];exact congrArg some h3
  refine ⟨x,?_,rfl⟩
  match cs,hl with
  | [a,b],_ =>
   have e0:=Option.some.inj (g 0 _ (by decide) rfl)
   have e1:=Option.some.inj (g 1 _ (by decide) rfl)
   rw[e0,e1];rfl
 ·rintro M x y rfl j hj
  match j,hj with
  | 0,_=>exact ⟨_,rfl,rfl,rfl⟩
  | 1,_=>exact ⟨_,rfl,rfl,rfl⟩
 ·rintro M x y x' y' rfl rfl;exact (ltR_of x x').symm
open Go Go.Sx
def owR (L:List Rg):List Own:=[.cells 31 [zke],zG 111 2 rgD L]
theorem yS {ρ:List Nat}:xP ρ (.cells 31 [zke]) (.cells 31 [zke]):=eZ
def zR (l:List Rg):D:=.ag [xE l]
def zbz (l:List Rg):Prop:=l.length<4194304/\(l.length<=12\/((∀ r∈l,0<=r.1/\r.2<=1114111)/\AscTo rgLt l l.length)\/True)
def ctMake:Ct:={ ι:=List Rg,inp:=fun l=>[xE l],out:=fun l=>zR (canon l),pre:=zbz }
theorem mrg_doneP {l X out:List Rg}(hp:X.Perm (vJ l l.length)) (h:MrgInv X X.length out):out=canon l:=by
 refine zj4 h.canon fun c=>?_;rw[h.mem c,List.take_length,inR_perm hp,zmn l c _ (Nat.le_refl _),List.take_length]
noncomputable def Γrk (mx:Int) (pb:Bool):Ctx:=fun f=>match f with
 | 83=>some (.gen (sortT 2 84 rgD rgLt))
 | _=>none
theorem Γrk_ok:CK mx pb (Γrk mx pb):=by
 intro f h hh;simp only[Γrk] at hh;split at hh<;>simp at hh<;>subst hh;exact sortR_ok
theorem yX:SS mx pb 53 ctMake:=by
 refine sb (cc:=true) Γrk_ok Tryz.func53 ?_;intro (l:List Rg) ⟨(hl:l.length<4194304),_⟩
 refine gA ?_;refine ⟨0,Nat,fun k=>⟨[(2,.own 0 0),(3,.row 1),(11,xE l),(12,.v (.int .i64 l.length)),(13,.v (.int .i64 k))],owR (vJ l k),[]⟩,fun k=>k<=l.length,fun k=>l.length - k,fun _=>Nat.zero_le _,⟨0,Nat.zero_le _,StLe.trans (StLe.nilRow (t:=3) 111 2 (fun _ _=>.junk) rfl) (StLe.ren [0,1] tmS ⟨yS,yg,trivial⟩ (by decide))⟩,?_⟩
 intro k hk;have hk:k<=l.length:=hk;have hcl:=zmo l k;refine gA ?_;refine And.intro (fun h=>?_) (fun h=>?_)
 ·have h:k<l.length:=by have:=of_decide_eq_true h;omega
  refine gA ?_;refine And.intro (fun h1=>?_) (fun h1=>?_)
  ·have h1:(zan (l.getD k default)).1<=(zan (l.getD k default)).2:=of_decide_eq_true h1;have e:vJ l (k+1)=vJ l k++[zan (l.getD k default)]:=by simp only[vJ,h1,if_true]
   refine gA ?_;exact ⟨k+1,(show k+1<=l.length by omega),(show l.length - (k+1)<l.length - k by omega),StLe.ren [0,4] tmS ⟨yS,by rw[e];exact zF (fun j hj=>by match j,hj with|0,_=>exact eE|1,_=>exact eE),trivial⟩ (by decide)⟩
  ·have h1:¬(zan (l.getD k default)).1<=(zan (l.getD k default)).2:=of_decide_eq_false h1;have e:vJ l (k+1)=vJ l k:=by simp only[vJ,h1,if_false]
   refine gA ?_;exact ⟨k+1,(show k+1<=l.length by omega),(show l.length - (k+1)<l.length - k by omega),StLe.ren [0,1] tmS ⟨yS,own_eq e.symm,trivial⟩ (by decide)⟩
 ·have h:k=l.length:=by have:=of_decide_eq_false h;omega
  subst h;have hok:=zj2 l l.length;have hdone:=fun X out=>mrg_doneP (l:=l) (X:=X) (out:=out)
  refine gA ?_;generalize vJ l l.length=P at hcl hok hdone ⊢;refine .inl ⟨_,_,_,_,P,rfl,rfl,rfl,fun a ha j hj=>eE,by omega,fun X hp hs=>?_⟩
  have hXl:X.length=P.length:=hp.length_eq;have hXok:∀ r∈X,0<=r.1/\r.1<=r.2/\r.2<=1114111:=fun r hr=>hok r (hp.mem_iff.1 hr)
  have hXs:∀ p q,p<q->q<X.length->(X.getD p default).1<=(X.getD q default).1:=fun p q h1 h2=>by
   have:=hs p q h1 h2;rw[rgLt_no] at this;omega
  have hdone:=fun out=>hdone X out hp;refine gA ?_;refine ⟨0,Nat × List Rg,fun|(k,out)=>⟨[(2,.own 0 0),(7,.row 2),(36,.row 1),(37,.v (.int .i64 X.length)),(38,.v (.int .i64 k))],[.cells 31 [zke],zG 111 2 rgD X,zG 111 2 rgD out],[]⟩,fun|(k,out)=>k<=X.length/\out.length<=k/\MrgInv X k out,fun x=>X.length - x.1,fun _=>Nat.zero_le _,⟨(0,[]),⟨Nat.zero_le _,Nat.le_refl _,⟨Canon.nil,fun c=>by simp[inR],fun r hr=>by simp at hr⟩⟩,?_⟩,?_⟩
  ·exact StLe.trans (StLe.nilRow (t:=7) 111 2 (fun _ _=>.junk) rfl) (StLe.ren [0,1,2] tmS ⟨yS,own_refl,yg,trivial⟩ (by decide))
  rintro ⟨k,out⟩ ⟨hk,hol,hI⟩
  refine gA ?_;refine And.intro (fun h=>?_) (fun h=>?_)
  ·have h:k<X.length:=by have:=of_decide_eq_true h;omega
   refine gA ?_;generalize hp:decide ((out.length:Int)>0)=p;cases p with
   | true =>
    have hp:0<out.length:=by have:=of_decide_eq_true hp;omega
    have hlast:=hI.canon.ok _ (xw (show out.length - 1<out.length by omega))
    rw[<- uJ] at hlast;refine gA ?_;refine And.intro (fun hc=>?_) (fun hc=>?_)
    ·have hc:(X.getD k default).1<=(out.getD ((out.length:Int) - 1).toNat default).2+1:=of_decide_eq_true hc;rw[uJ] at hc;have hI':=mrg_set hI h hXok hp hc;refine gA ?_;exact ⟨(k+1,_),⟨by omega,by rw[List.length_set];omega,hI'⟩,(show X.length - (k+1)<X.length - k by omega),StLe.ren [0,1,2] tmS ⟨yS,own_refl,by rw[<- uJ];exact zni (fun j hj=>by match j,hj with|0,_=>exact eE|1,_=>exact eE) (by omega),trivial⟩ (by decide)⟩
    ·have hc:¬(X.getD k default).1<=(out.getD ((out.length:Int) - 1).toNat default).2+1:=of_decide_eq_false hc;rw[uJ] at hc;have hI':=mrg_app hI h hXok hXs (fun hh=>hc hh.2)
     refine gA ?_;exact ⟨(k+1,out++[X.getD k default]),⟨by omega,by rw[List.length_append,List.length_singleton];omega,hI'⟩,(show X.length - (k+1)<X.length - k by omega),StLe.ren [0,1,4] tmS ⟨yS,own_refl,zF (fun j hj=>by match j,hj with|0,_=>exact eE|1,_=>exact eE),trivial⟩ (by decide)⟩
   | false =>
    have hp:¬out.length>0:=by have:=of_decide_eq_false hp;omega
    have hI':=mrg_app hI h hXok hXs (fun hh=>hp hh.1)
    refine gA ?_;exact ⟨(k+1,out++[X.getD k default]),⟨by omega,by rw[List.length_append,List.length_singleton];omega,hI'⟩,(show X.length - (k+1)<X.length - k by omega),StLe.ren [0,1,4] tmS ⟨yS,own_refl,zF (fun j hj=>by match j,hj with|0,_=>exact eE|1,_=>exact eE),trivial⟩ (by decide)⟩
  ·have h:k=X.length:=by have:=of_decide_eq_false h;omega
   subst h;have e:=hdone _ hI;subst e;refine gA ?_;exact eR
end Go.Proofs
