import Derived.Test.YtnimkdbpoeondaaGreatDoorE4
import Derived.LoopNIn
import Derived.RangeFuncRecord
import Derived.RangeFuncLeaves
import Derived.Test.YtnimkdbpoeondaaGreatDoorEs
set_option linter.all false
namespace Go.Sx
open Go Go.RowKit
variable {Q:Exit->Act->World->Prop}{dv:List Deferred}{k:Exit->St->Prop}{cs:List Frame}{c:Code}{a:Act}
section
variable {P:Program}{T:TT}{B:Nat}{w0 w w':World}{M0 M M':Mem}{E E' E0:List Value}{ow:List Own}
def DvOk (P:Program) (m:Nat) (E:List Value):List DE->List Deferred->Prop
 | [],dv=>dv=[]
 | .m i::is,dv=>∃ b r,E[i]?=some (.pointer (some ⟨b,0,none⟩))/\dv={ target:=.collected b,args := #[] }::r/\DvOk P m E is r
 | .c f::is,dv=>∃ cs r,(zb5 P f/\cs.size=2)/\dv={ target:=.fn (.func f) cs,args := #[] }::r/\DvOk P m E is r
 | .r f i j::is,dv=>∃ b b' r,(zb5 P f/\i<m/\j<m/\E[i]?=some (.pointer (some ⟨b,0,none⟩))/\E[j]?=some (.pointer (some ⟨b',0,none⟩)))/\dv={ target:=.fn (.func f) #[.pointer (some ⟨b,0,none⟩),.pointer (some ⟨b',0,none⟩)],args := #[] }::r/\DvOk P m E is r
theorem DvOk.mono {m:Nat}:∀ {df:List DE}{dv:List Deferred},DvOk P m E df dv->EnvLe E E'->DvOk P m E' df dv
 | [],dv,h,_=>h
 | .m i::is,dv,h,hE=>by
  obtain ⟨b,r,h1,h2,h3⟩:=h;exact ⟨b,r,hE _ _ h1,h2,h3.mono hE⟩
 | .c f::is,dv,h,hE=>by
  obtain ⟨b,r,h1,h2,h3⟩:=h;exact ⟨b,r,h1,h2,h3.mono hE⟩
 | .r f i j::is,dv,h,hE=>by
  obtain ⟨b,b',r,⟨h0,hi,hj,h1,h1'⟩,h2,h3⟩:=h;exact ⟨b,b',r,⟨h0,hi,hj,hE _ _ h1,hE _ _ h1'⟩,h2,h3.mono hE⟩
theorem DvOk.monoP {m:Nat}:∀ {df:List DE}{dv:List Deferred},DvOk P m E df dv->(∀ i,DE.m i∈df->∀ b,E[i]?=some (.pointer (some ⟨b,0,none⟩))->E'[i]?=some (.pointer (some ⟨b,0,none⟩)))->(∀ (i:Nat) (v:Value),i<m->E[i]?=some v->E'[i]?=some v)->DvOk P m E' df dv
 | [],dv,h,_,_=>h
 | .m i::is,dv,h,hE,hm=>by
  obtain ⟨b,r,h1,h2,h3⟩:=h;exact ⟨b,r,hE i (by simp) b h1,h2,h3.monoP (fun j hj=>hE j (by simp[hj])) hm⟩
 | .c f::is,dv,h,hE,hm=>by
  obtain ⟨b,r,h1,h2,h3⟩:=h;exact ⟨b,r,h1,h2,h3.monoP (fun j hj=>hE j (by simp[hj])) hm⟩
 | .r f i j::is,dv,h,hE,hm=>by
  obtain ⟨b,b',r,⟨h0,hi,hj,h1,h1'⟩,h2,h3⟩:=h;exact ⟨b,b',r,⟨h0,hi,hj,hm _ _ hi h1,hm _ _ hj h1'⟩,h2,h3.monoP (fun j hj=>hE j (by simp[hj])) hm⟩
theorem zge:∀ {L l:List Oper}{y:Nat},zab L=some (l,y)->∃ at' ty pos after,L=l++[⟨none,.defer ⟨.value (.tmp y),#[],at'⟩,ty,pos,after,none⟩]
 | [],l,y,h=>by simp[zab] at h
 | o::r,l,y,h=>by
  unfold zab at h;split at h
  ·simp at h
  ·rename_i heq;simp at heq h;obtain ⟨rfl,rfl⟩:=heq;obtain ⟨rfl,rfl⟩:=h;exact ⟨_,_,_,_,rfl⟩
  ·rename_i o' r' _ heq;simp at heq;obtain ⟨rfl,rfl⟩:=heq;split at h
   ·rename_i l' y' h';simp at h;obtain ⟨rfl,rfl⟩:=h;obtain ⟨a1,a2,a3,a4,rfl⟩:=zge h';exact ⟨a1,a2,a3,a4,rfl⟩
   ·simp at h
theorem WRel.turnLoop (h:WRel B w0 M0 M E ow w) {i l:Nat}{st:LoopState}{pe:Option Code}{r:Loop}(ho:ow[i]?=some (.lp st pe)) (hE:E[i]?=some (.pointer (some ⟨l,0,none⟩))) (hl:w.heap[l]?=some (.loop r)) (st':LoopState) (pe':Option Code):
  WRel B w0 M0 M E (zj ow i (.lp st' pe')) (w.putObj l (.loop { r with state:=st',pending:=pe' })):=by
 have hll:=yP hl;have hH:=h.holds _ _ _ ho hE;simp only[Holds] at hH;obtain ⟨b',r',hb',hheap,hst,hpe,⟨r0,hr0⟩,hB⟩:=hH;simp at hb';subst hb';rw[hl] at hheap;simp at hheap;subst hheap;have hf0:=h.fits _ _ hr0;simp only[Fits] at hf0;obtain ⟨st0,pe0,hf0⟩:=hf0;rw[hl] at hf0;simp at hf0;refine ⟨fun c x hc=>?_,by simp;exact h.base,h.below.trans ⟨rfl,rfl,rfl,by simp,fun k hk=>World.putObj_heap_other (by omega)⟩,by simp[zJ,h.len],fun j p u hp hu=>?_,fun j k p p' u u' c hp hp' hl1 hl2 hu hu' hc hc'=>?_,h.mle,h.new⟩
 ·by_cases hcl:c=l
  ·subst hcl;rw[hr0] at hc;simp at hc;subst hc;rw[World.putObj_heap_same hll];simp only[Fits];exact ⟨st',pe',by rw[hf0]⟩
  ·rw[World.putObj_heap_other hcl];exact h.fits _ _ hc
 ·rw[zt] at hp;split at hp
  ·rename_i hij;subst hij;rw[if_pos (zE ho)] at hp;simp at hp;subst hp;rw[hE] at hu;simp at hu;subst hu;simp only[Holds];exact ⟨l,_,rfl,World.putObj_heap_same hll,rfl,rfl,⟨r0,hr0⟩,hB⟩
  ·rename_i hij;have hHj:=h.holds _ _ _ hp hu;refine hHj.frame (fun c hl' hc=>World.putObj_heap_other (fun e=>?_)) (za _) (zc _) (fun c hf hc=>(hHj.lt (Own.free_live hf) hc).2.2 hf)
   subst e;exact hij (h.inj _ _ _ _ _ _ _ ho hp rfl hl' hE hu rfl hc)
 ·have back:∀ (j:Nat) (p:Own),(zj ow i (.lp st' pe'))[j]?=some p->p.live=true->∃ q:Own,ow[j]?=some q/\q.live=true:=by
   intro j p hp hl;rw[zt] at hp;split at hp
   ·rename_i hij;subst hij;exact ⟨_,ho,rfl⟩
   ·exact ⟨p,hp,hl⟩
  obtain ⟨q,hq,hql⟩:=back _ _ hp hl1;obtain ⟨q',hq',hql'⟩:=back _ _ hp' hl2;exact h.inj _ _ _ _ _ _ _ hq hq' hql hql' hu hu' hc hc'
theorem WRel.allocLoop (h:WRel B w0 M0 M E ow w) (r:Loop):∃ M',M.le M'/\M' w.heap.size=some (.loop r)/\WRel B w0 M0 M' (E++[.pointer (some ⟨w.heap.size,0,none⟩)]) (ow++[.lp r.state r.pending]) (w.alloc (.loop r)):=by
 have hfr:=h.fresh;have hle:M.le (fun b=>if b=w.heap.size then some (.loop r) else M b):=fun b o hb=>by
  have:b≠w.heap.size:=fun e=>by subst e;rw[hfr] at hb;simp at hb
  simp[this,hb]
 refine ⟨fun b=>if b=w.heap.size then some (.loop r) else M b,hle,by simp,?_⟩
 refine ⟨fun b o hb=>?_,by simp;have:=h.base;omega,h.below.alloc h.base _,by simp[h.len],fun i o v ho hv=>?_,fun i j o o' v v' b ho ho' hl1 hl2 hv hv' hb1 hb2=>?_,zp h.mle hle,fun b o hb=>?_⟩
 ·by_cases hbe:b=w.heap.size
  ·subst hbe;simp at hb;subst hb;rw[heap_alloc_new];simp only[Fits];exact ⟨r.state,r.pending,rfl⟩
  ·simp[hbe] at hb;have:=h.fits _ _ hb;rw[heap_alloc_old _ _ _ this.lt];exact this
 ·rcases zl ho with ho|⟨rfl,rfl⟩
  ·have hi:=zE ho;rw[List.getElem?_append_left (by rw[h.len];exact hi)] at hv;have hH:=h.holds _ _ _ ho hv;refine hH.frame (fun b hlv hb=>heap_alloc_old _ _ _ (hH.lt hlv hb).1) hle (zu _ _) (fun b hf hb=>?_)
   have hq:=hH.lt (Own.free_live hf) hb;have:b≠w.heap.size:=by omega
   simp[this,hq.2.2 hf]
  ·rw[<- h.len,List.getElem?_append_right (Nat.le_refl _)] at hv;simp at hv;subst hv;simp only[Holds];exact ⟨_,r,rfl,heap_alloc_new _ _,rfl,rfl,⟨r,by simp⟩,h.base⟩
 ·have key:∀ (i:Nat) (o:Own) (u:Value) (b:Nat),ow[i]?=some o->o.live=true->(E++[Value.pointer (some ⟨w.heap.size,0,none⟩)])[i]?=some u->zL u=some b->E[i]?=some u/\b<w.heap.size:=by
   intro i o u b ho hlv hv hb;rw[List.getElem?_append_left (by rw[h.len];exact zE ho)] at hv;exact ⟨hv,((h.holds _ _ _ ho hv).lt hlv hb).1⟩
  have last:∀ (u:Value) (b:Nat),(E++[Value.pointer (some ⟨w.heap.size,0,none⟩)])[ow.length]?=some u->zL u=some b->b=w.heap.size:=by
   intro u b hu hbu;rw[<- h.len,List.getElem?_append_right (Nat.le_refl _)] at hu;simp at hu;subst hu;simpa[zL] using hbu.symm
  rcases zl ho with ho1|⟨rfl,rfl⟩<;>rcases zl ho' with ho2|⟨rfl,rfl⟩
  ·exact h.inj _ _ _ _ _ _ _ ho1 ho2 hl1 hl2 (key _ _ _ _ ho1 hl1 hv hb1).1 (key _ _ _ _ ho2 hl2 hv' hb2).1 hb1 hb2
  ·have hlt:=(key _ _ _ _ ho1 hl1 hv hb1).2;have:=last _ _ hv' hb2;omega
  ·have hlt:=(key _ _ _ _ ho2 hl2 hv' hb2).2;have:=last _ _ hv hb1;omega
  ·rfl
 ·by_cases hbe:b=w.heap.size
  ·subst hbe;exact .inr h.base
  ·simp[hbe] at hb;exact h.new _ _ hb
theorem WRel.allocDefd (h:WRel B w0 M0 M E ow w):WRel B w0 M0 M (E++[.pointer (some ⟨w.heap.size,0,none⟩)]) (ow++[.defd]) (w.alloc (.deferred (some []))):=by
 refine h.allocOwn (.inl rfl) ?_;simp only[Holds];exact ⟨_,rfl,heap_alloc_new _ _,h.fresh,h.base⟩
theorem WRel.rebase (h:WRel B w0 M M' E ow w) (hm:M0.le M) (hn:∀ b o,M b=some o->M0 b=some o\/B<=b):WRel B w0 M0 M' E ow w :=
 ⟨h.fits,h.base,h.below,h.len,h.holds,h.inj,zp hm h.mle,fun b o hb=>by
  rcases h.new _ _ hb with h5|h5
  ·exact hn _ _ h5
  ·exact .inr h5⟩
theorem WRel.self (h:WRel B w0 M0 M E ow w):WRel B w0 M M E ow w :=
 ⟨h.fits,h.base,h.below,h.len,h.holds,h.inj,za _,fun _ _ hb=>.inl hb⟩
theorem zfa {N:Nat}:∀ (ps:List Nat) (ds:List D) (us:List Value) {tm tm':List (Nat × D)}{tmps:Array Value},zkv N ps ds tm=some tm'->RepL M E ds us->TRel [] N M E tm [] { tmps:=tmps,defers:=[] } ->
  TRel [] N M E tm' [] { tmps:=(ps.zip us).foldl (fun t (x:Nat × Value)=>t.setIfInBounds x.1 x.2) tmps,defers:=[] }/\ps.length=us.length
 | [],[],us,tm,tm',tmps,h,hr,hT=>by
  simp[zkv] at h;subst h;simp[RepL] at hr;subst hr;exact ⟨hT,rfl⟩
 | [],d::ds,us,tm,tm',tmps,h,hr,hT=>by simp[zkv] at h
 | p::ps,[],us,tm,tm',tmps,h,hr,hT=>by simp[zkv] at h
 | p::ps,d::ds,us,tm,tm',tmps,h,hr,hT=>by
  simp only[zkv] at h;split at h<;>try (simp at h;done)
  rename_i hp;simp only[RepL] at hr;obtain ⟨u,r,rfl,hu,hr⟩:=hr;have hput:TRel [] N M E (zaf tm p d) [] { tmps:=tmps.setIfInBounds p u,defers:=[] }:=hT.put (t:=p) (za _) (zc _) hu hp rfl;obtain ⟨h1,h2⟩:=zfa ps ds r h hr hput;exact ⟨by simpa using h1,by simp[h2]⟩
theorem xS {b:Frame}{k:List Item}{w:World}:step P (lone (b.atR a (.code (.scope c)::k)) cs w)=.next (lone (b.atR a (.code c::.inScope c::k)) cs w):=
 step_lone_go (by simp[stepG,stepG.exec,Frame.atR])
theorem zih {b:Frame}{k:List Item}{w:World}:step P (lone (b.atR a (.inScope c::k)) cs w)=.next (lone (b.atR a k) cs w):=
 step_lone_go (by simp[stepG,stepG.exec,Frame.atR])
def noGoto (Q:Exit->Act->World->Prop):Exit->Act->World->Prop
 | .goto _,_,_=>False
 | e,a,w=>Q e a w
theorem wpIn_scope {F:Fence}{n:Nat}{w:World}(h:c.wpIn F n P (noGoto Q) a w):(Code.scope c).wpIn F n P Q a w:=by
 intro b k cs hro hb hr;have h0:(lone (b.atR a (.code (.scope c)::k)) cs w).fenced P F:=fenced_calm hb hr rfl;obtain ⟨e,a₁,w₁,hq,harr⟩:=h b (.inScope c::k) cs hro hb hr;cases e with
 | normal=>exact ⟨.normal,a₁,w₁,hq,.head h0 xS (StepsIn.trans harr (.one (fenced_calm hb hr rfl) zih))⟩
 | exit id' =>
  have hx:exitTo id' (.inScope c::k)=exitTo id' k:=by simp[exitTo]
  exact ⟨.exit id',a₁,w₁,hq,fun k' hk=>.head h0 xS (harr.1 k' (by rw[hx];exact hk)),
   fun hr' hk=>let ⟨k₁,h1,h2⟩:=harr.2 hr' (by rw[hx];exact hk);⟨k₁,h1,.head h0 xS h2⟩⟩
 | goto l=>exact hq.elim
 | ret=>exact ⟨_,a₁,w₁,hq,.of_steps (.one h0 xS) harr⟩
 | panic ch=>exact ⟨_,a₁,w₁,hq,.of_steps (.one h0 xS) harr⟩
 | outgrown=>exact ⟨_,a₁,w₁,hq,.of_steps (.one h0 xS) harr⟩
abbrev era:Exit->Exit
 | .panic _=>.panic []
 | e=>e
abbrev dropP:Exit->List (Nat × D)->List (Nat × D)
 | .panic _,tm=>tm.tail
 | _,tm=>tm
abbrev PanOk (M:Mem) (N:Nat):Exit->List (Nat × D)->Prop
 | .panic ch,tm=>∃ d v r,tm=(N,d)::r/\ch=[{ v,recovered:=false }]/\Rep M [] d v
 | _,_=>True
def Post (P:Program) (m:Nat) (N B:Nat) (w0:World) (M0:Mem) (E0:List Value) (k:Exit->St->Prop) (e:Exit) (a:Act) (w:World):Prop :=
 ∃ M' E' s' dv,EnvLe E0 E'/\k (era e) s'/\WRel B w0 M0 M' E' s'.ow w/\TRel dv N M' E' (dropP e s'.tm) [] a/\DvOk P m E' s'.df dv/\PanOk M' N e s'.tm
theorem zep {m N:Nat}{Y:Ys}{df:List DE}(hE:EnvLe E0 E) (hD:DvOk P m E df dv) (hQ:∀ ch a' w',Post P m N B w0 M0 E0 k (.panic ch) a' w'->Q (.panic ch) a' w'):PanAt dv N B w0 M0 M E (Y.wp N df k) Q :=
 fun tm ow d M' E' a w' v h1 _ h3 h4 h5 h6=>hQ _ a w' ⟨M',E',⟨(N,d)::tm,ow,df⟩,dv,hE.trans h3,h1,h4,h5,hD.mono h3,d,v,tm,rfl,rfl,h6⟩
theorem panAt_wpD {m N:Nat}{b:Bool}{Y:Ys}{df:List DE}(hE:EnvLe E0 E) (hD:DvOk P m E df dv) (hQ:∀ ch a' w',Post P m N B w0 M0 E0 k (.panic ch) a' w'->Q (.panic ch) a' w'):PanAt dv N B w0 M0 M E (Y.wpD b N df k) Q :=
 fun tm ow d M' E' a w' v h1 _ h3 h4 h5 h6=>hQ _ a w' ⟨M',E',⟨(N,d)::tm,ow,df⟩,dv,hE.trans h3,h1.2,h4,h5,hD.mono h3,d,v,tm,rfl,rfl,h6⟩
theorem zng (pf:FuncId->Bool):∀ l:List Oper,zao pf l<=l.length
 | []=>by simp[zao]
 | ⟨_,op,_,_,_,_⟩::r=>by
  simp only[zao];split
  ·have:=zng pf r;simp;omega
  ·simp
theorem yH {cc:Bool}{Γ:Ctx}{Gl:Nat->Option D}(hΓ:CtxOk P Gl Γ) (hT:TOk P T) (hmix:P.follows .mixedOrders=true) {N:Nat}{n:Nat}:∀ (c:Code) {M0:Mem}{E0:List Value}{Y:Ys}{m:Nat}{R:Bool}{ro:Option Nat}{s:St}{k:Exit->St->Prop}{M:Mem}{E:List Value}{dv:List Deferred}{a:Act}{w:World}{Q:Exit->Act->World->Prop},
  ex cc Γ T Gl N c Y m R s k->GlOk M0 Gl->YOk P Gl B w0 M0 E0 Y->E0.length<=m->(R=false->ro=none)->WRel B w0 M0 M E s.ow w->TRel dv N M E s.tm [] a->DvOk P m E s.df dv->EnvLe E0 E->(∀ e a' w',Post P m N B w0 M0 E0 k e a' w'->Q e a' w')->c.wpIn (FW ro) n P Q a w
 | .skip,M0,E0,Y,m,R,ro,s,k,M,E,dv,a,w,Q,h,hG,hY,hm,hRo,hW,hR,hD,hE,hQ=>by
  simp only[ex] at h;exact wpIn_skip (hQ _ _ _ ⟨M,E,s,dv,hE,h,hW,hR,hD,trivial⟩)
 | .label _,M0,E0,Y,m,R,ro,s,k,M,E,dv,a,w,Q,h,hG,hY,hm,hRo,hW,hR,hD,hE,hQ=>by
  simp only[ex] at h;exact wpIn_label (hQ _ _ _ ⟨M,E,s,dv,hE,h,hW,hR,hD,trivial⟩)
 | .region id ops false,M0,E0,Y,m,R,ro,⟨tm,ow,df⟩,k,M,E,dv,a,w,Q,h,hG,hY,hm,hRo,hW,hR,hD,hE,hQ=>by
  simp only[ex] at h;refine wpIn_region ?_;split at h
  ·have:=vZ hΓ hT ops.toList 0 (ops:=ops) (ro:=ro) (n:=n) (Q:=Q) rfl h hW hR (hG.mono hW.mle) (hY.mono hW.mle hE) (zep hE hD fun ch=>hQ (.panic ch)) (fun a' w' ⟨M',E',tm',ow',q1,q2,q3,q4,q5⟩=>hQ .normal _ _ ⟨M',E',⟨tm',ow',df⟩,dv,hE.trans q2,q3,q4,q5,hD.mono q2,trivial⟩)
   simpa[List.range_eq_range'] using this
  ·rename_i l y hsp;obtain ⟨at',ty,pos,after,hL⟩:=zge hsp;have hsz:ops.size=l.length+1:=by
    have:=congrArg List.length hL;simpa using this
   have hget:ops[l.length]?=some ⟨none,.defer ⟨.value (.tmp y),#[],at'⟩,ty,pos,after,none⟩:=by
    have:ops.toList[l.length]?=some ⟨none,.defer ⟨.value (.tmp y),#[],at'⟩,ty,pos,after,none⟩:=by
     rw[hL,List.getElem?_append_right (Nat.le_refl _),Nat.sub_self];rfl
    simpa using this
   have hrg:List.range ops.size=List.range' 0 l.length++[l.length]:=by
    rw[hsz,List.range_succ,List.range_eq_range']
   rw[hrg];refine zbu _ _ _ ?_;refine uq hΓ hT l _ 0 (ops:=ops) (ro:=ro) (n:=n) (by rw[List.drop_zero];exact hL) h hW hR (hG.mono hW.mle) (hY.mono hW.mle hE) (zep hE hD fun ch=>hQ (.panic ch)) ?_;rintro a' w' ⟨M',E',tm',ow',q1,q2,q3,q4,q5⟩
   show wpOpsIn (FW ro) n P ops Q [l.length] a' w';unfold exDf at q3;split at q3<;>try exact q3.elim
   rename_i f x1 x2 hlk;have hv:=q5.tmps _ _ hlk;simp only[Rep] at hv;obtain ⟨cs,hv,hcs⟩:=hv;have tail:ro=none->∀ df2,k .normal ⟨tm',ow',df2⟩->DvOk P m E' df2 ({ target:=.fn (.func f) cs,args := #[] }::dv)->wpOpsIn (FW ro) n P ops Q [l.length] a' w':=by
    intro hro df2 hk hdv;subst hro;simp only[wpOpsIn,hget];have hw:Region.wanted ⟨none,.defer ⟨.value (.tmp y),#[],at'⟩,ty,pos,after,none⟩ (yielded ops a'.tmps)=true:=rfl;simp only[hw,if_true];refine ⟨fun _ _=>trivial,?_⟩
    have hrun:((⟨none,.defer ⟨.value (.tmp y),#[],at'⟩,ty,pos,after,none⟩:Oper).semAt (FW none).round a'.eval).run P w'=.ok (.defer { target:=.fn (.func f) cs,args := #[] }) w':=by
     show ((execOp a'.eval ⟨none,.defer ⟨.value (.tmp y),#[],at'⟩,ty,pos,after,none⟩).run P w')=_;have he:a'.eval (.tmp y)=.func (.func f) #[] cs:=hv;simp only[execOp,resolve,he,Deferred.ofValue];simp
    rw[hrun];show Q .normal ({ a' with defers:={ target:=.fn (.func f) cs,args := #[] }::a'.defers }.put none undef) w';refine hQ .normal _ _ ⟨M',E',⟨tm',ow',df2⟩,{ target:=.fn (.func f) cs,args := #[] }::dv,hE.trans q2,hk,q4,?_,hdv,trivial⟩
    exact ⟨q5.size,by show _::a'.defers=_;rw[q5.defers],q5.tmps,q5.guarded⟩
   split at q3<;>try exact q3.elim
   ·rename_i hqf;have hDQ:zb5 P f:=hΓ _ _ hqf;exact tail (hRo rfl) _ q3 ⟨cs,dv,⟨hDQ,by have:=hcs.length;simpa using this.symm⟩,rfl,hD.mono q2⟩
   ·rename_i hqf;have hDQ:zb5 P f:=hΓ _ _ hqf;split at q3<;>try exact q3.elim
    obtain ⟨hi,hj,q3⟩:=q3;simp only[RepL,Rep] at hcs;obtain ⟨u1,r1,hcs,⟨b1,hb1,rfl⟩,u2,r2,rfl,⟨b2,hb2,rfl⟩,rfl⟩:=hcs;have hcs':cs = #[.pointer (some ⟨b1,0,none⟩),.pointer (some ⟨b2,0,none⟩)]:=by
     apply Array.ext';rw[hcs]
    subst hcs';exact tail (hRo rfl) _ q3 ⟨b1,b2,dv,⟨hDQ,hi,hj,hb1,hb2⟩,rfl,hD.mono q2⟩
 | .region id ops true,M0,E0,Y,m,R,ro,⟨tm,ow,df⟩,k,M,E,dv,a,w,Q,h,hG,hY,hm,hRo,hW,hR,hD,hE,hQ=>by
  simp only[ex] at h;rcases h with h|⟨sch,hs1,hs2⟩
  ·split at h
   ·have h1:=h.1;simp only[zfp,Bool.or_eq_true,Bool.and_eq_true,Bool.not_eq_true'] at h1;by_cases hod:vD ops.toList (zao (xr Γ) ops.toList)=true
    ·exact zl3 hΓ hT hmix (by simpa using zng (xr Γ) ops.toList) hod h.2 hW hR (hG.mono hW.mle) (hY.mono hW.mle hE) (panAt_wpD hE hD fun ch=>hQ (.panic ch)) (fun a' w' ⟨M',E',tm',ow',q1,q2,q3,q4,q5⟩=>hQ .normal _ _ ⟨M',E',⟨tm',ow',df⟩,dv,hE.trans q2,q3,q4,q5,hD.mono q2,trivial⟩)
    ·rcases h1 with h1|⟨hRf,h1⟩
     ·exact absurd h1 hod
     ·obtain rfl:=hRo hRf;exact zjj hΓ hT hmix (by simpa using zng (xr Γ) ops.toList) h1 h.2 hW hR (hG.mono hW.mle) (hY.mono hW.mle hE) (fun tm ow d hh=>hod hh.1) (fun a' w' ⟨M',E',tm',ow',q1,q2,q3,q4,q5⟩=>hQ .normal _ _ ⟨M',E',⟨tm',ow',df⟩,dv,hE.trans q2,q3,q4,q5,hD.mono q2,trivial⟩)
   ·rename_i t e hal;exact zjk hΓ hT hmix hal h.1 h.2 hW hR (hG.mono hW.mle) (hY.mono hW.mle hE) (zep hE hD fun ch=>hQ (.panic ch)) (fun a' w' ⟨M',E',tm',ow',q1,q2,q3,q4,q5⟩=>hQ .normal _ _ ⟨M',E',⟨tm',ow',df⟩,dv,hE.trans q2,q3,q4,q5,hD.mono q2,trivial⟩)
  ·exact zn9 hΓ hT hmix hs1 hs2 hW hR (hG.mono hW.mle) (hY.mono hW.mle hE) (zep hE hD fun ch=>hQ (.panic ch)) (fun a' w' ⟨M',E',tm',ow',q1,q2,q3,q4,q5⟩=>hQ .normal _ _ ⟨M',E',⟨tm',ow',df⟩,dv,hE.trans q2,q3,q4,q5,hD.mono q2,trivial⟩)
 | .seq c1 c2,M0,E0,Y,m,R,ro,s,k,M,E,dv,a,w,Q,h,hG,hY,hm,hRo,hW,hR,hD,hE,hQ=>by
  simp only[ex] at h;refine wpIn_seq (yH hΓ hT hmix c1 h hG hY hm hRo hW hR hD hE ?_)
  rintro e a' w' ⟨M',E',s',dv',q1,q2,q3,q4,q5,q6⟩
  cases e with
  | normal=>exact yH hΓ hT hmix c2 q2 hG hY hm hRo q3 q4 q5 q1 hQ
  | exit i=>exact hQ _ _ _ ⟨M',E',s',dv',q1,q2,q3,q4,q5,q6⟩
  | goto i=>exact hQ _ _ _ ⟨M',E',s',dv',q1,q2,q3,q4,q5,q6⟩
  | ret=>exact hQ _ _ _ ⟨M',E',s',dv',q1,q2,q3,q4,q5,q6⟩
  | panic i=>exact hQ _ _ _ ⟨M',E',s',dv',q1,q2,q3,q4,q5,q6⟩
  | outgrown=>exact hQ _ _ _ ⟨M',E',s',dv',q1,q2,q3,q4,q5,q6⟩
 | .cond c c1 c2,M0,E0,Y,m,R,ro,⟨tm,ow,df⟩,k,M,E,dv,a,w,Q,h,hG,hY,hm,hRo,hW,hR,hD,hE,hQ=>by
  simp only[ex] at h;split at h
  ·rename_i t hc;have hv:=zC hR (hG.mono hW.mle) (fun s b hb=>by simp at hb) hc;simp only[Rep] at hv;refine wpIn_cond_split hv (fun ht=>?_) (fun ht=>?_)
   ·exact yH hΓ hT hmix c1 (h.1 ht) hG hY hm hRo hW hR hD hE hQ
   ·exact yH hΓ hT hmix c2 (h.2 ht) hG hY hm hRo hW hR hD hE hQ
  ·exact h.elim
 | .block id c,M0,E0,Y,m,R,ro,s,k,M,E,dv,a,w,Q,h,hG,hY,hm,hRo,hW,hR,hD,hE,hQ=>by
  simp only[ex] at h;refine wpIn_block (yH hΓ hT hmix c h hG hY hm hRo hW hR hD hE ?_)
  rintro e a' w' ⟨M',E',s',dv',q1,q2,q3,q4,q5,q6⟩
  cases e with
  | exit i =>
   simp only[Exit.inBlock];by_cases hi:i=id
   ·simp only[hi,if_true] at q2 ⊢;exact hQ _ _ _ ⟨M',E',s',dv',q1,q2,q3,q4,q5,q6⟩
   ·simp only[hi,if_false] at q2 ⊢;exact hQ _ _ _ ⟨M',E',s',dv',q1,q2,q3,q4,q5,q6⟩
  | normal=>exact hQ _ _ _ ⟨M',E',s',dv',q1,q2,q3,q4,q5,q6⟩
  | goto i=>exact hQ _ _ _ ⟨M',E',s',dv',q1,q2,q3,q4,q5,q6⟩
  | ret=>exact hQ _ _ _ ⟨M',E',s',dv',q1,q2,q3,q4,q5,q6⟩
  | panic i=>exact hQ _ _ _ ⟨M',E',s',dv',q1,q2,q3,q4,q5,q6⟩
  | outgrown=>exact hQ _ _ _ ⟨M',E',s',dv',q1,q2,q3,q4,q5,q6⟩
 | .scope c,M0,E0,Y,m,R,ro,s,k,M,E,dv,a,w,Q,h,hG,hY,hm,hRo,hW,hR,hD,hE,hQ=>by
  simp only[ex] at h;refine wpIn_scope (yH hΓ hT hmix c h hG hY hm hRo hW hR hD hE ?_)
  rintro e a' w' ⟨M',E',s',dv',q1,q2,q3,q4,q5,q6⟩
  cases e with
  | goto i=>exact q2.elim
  | normal=>exact hQ _ _ _ ⟨M',E',s',dv',q1,q2,q3,q4,q5,q6⟩
  | exit i=>exact hQ _ _ _ ⟨M',E',s',dv',q1,q2,q3,q4,q5,q6⟩
  | ret=>exact hQ _ _ _ ⟨M',E',s',dv',q1,q2,q3,q4,q5,q6⟩
  | panic i=>exact hQ _ _ _ ⟨M',E',s',dv',q1,q2,q3,q4,q5,q6⟩
  | outgrown=>exact hQ _ _ _ ⟨M',E',s',dv',q1,q2,q3,q4,q5,q6⟩
 | .exit id,M0,E0,Y,m,R,ro,s,k,M,E,dv,a,w,Q,h,hG,hY,hm,hRo,hW,hR,hD,hE,hQ=>by
  simp only[ex] at h;exact wpIn_exit (hQ _ _ _ ⟨M,E,s,dv,hE,h,hW,hR,hD,trivial⟩)
 | .ret,M0,E0,Y,m,R,ro,s,k,M,E,dv,a,w,Q,h,hG,hY,hm,hRo,hW,hR,hD,hE,hQ=>by
  simp only[ex] at h;exact wpIn_ret (hQ _ _ _ ⟨M,E,s,dv,hE,h,hW,hR,hD,trivial⟩)
 | .loop c,M0,E0,Y,m,R,ro,s,k,M,E,dv,a,w,Q,h,hG,hY,hm,hRo,hW,hR,hD,hE,hQ=>by
  simp only[ex] at h;obtain ⟨q,h⟩:=h;cases q with
  | succ q =>
   refine wpIn_loop_rounds q ?_;have key:∀ (q:Nat) (s:St) (M:Mem) (E:List Value) (dv:List Deferred) (a:Act) (w:World),uH (fun s k=>ex cc Γ T Gl N c Y m R s k) k q s->WRel B w0 M0 M E s.ow w->TRel dv N M E s.tm [] a->DvOk P m E s.df dv->EnvLe E0 E->Code.roundsIn (FW ro) n P c Q q a w:=by
    intro q
    induction q with
    | zero=>intro s M E dv a w h;simp[uH] at h
    | succ q ih =>
     intro s M E dv a w h hW hR hD hE;simp only[uH] at h;refine yH hΓ hT hmix c h hG hY hm hRo hW hR hD hE ?_;rintro e a' w' ⟨M',E',s',dv',q1,q2,q3,q4,q5,q6⟩
     cases e with
     | normal=>exact ih s' M' E' dv' a' w' q2 q3 q4 q5 q1
     | exit i=>exact hQ _ _ _ ⟨M',E',s',dv',q1,q2,q3,q4,q5,q6⟩
     | goto i=>exact hQ _ _ _ ⟨M',E',s',dv',q1,q2,q3,q4,q5,q6⟩
     | ret=>exact hQ _ _ _ ⟨M',E',s',dv',q1,q2,q3,q4,q5,q6⟩
     | panic i=>exact hQ _ _ _ ⟨M',E',s',dv',q1,q2,q3,q4,q5,q6⟩
     | outgrown=>exact hQ _ _ _ ⟨M',E',s',dv',q1,q2,q3,q4,q5,q6⟩
   exact key q s M E dv a w h hW hR hD hE
  | zero =>
  obtain ⟨ι,S,H,μ,hmS,⟨i0,hi0,hle0⟩,hround⟩:=h;let rel:Nat->Act->World->Prop:=fun q a w=>∃ i M E dv,H i/\μ i=q/\EnvLe E0 E/\WRel B w0 M0 M E (S i).ow w/\TRel dv N M E (S i).tm [] a/\DvOk P m E (S i).df dv
  have enter:∀ {s:St}{i:ι}{M:Mem}{E:List Value}{dv:List Deferred}{a:Act}{w:World},StLe m s (S i)->H i->WRel B w0 M0 M E s.ow w->TRel dv N M E s.tm [] a->DvOk P m E s.df dv->EnvLe E0 E->rel (μ i) a w:=by
   intro s i M E dv a w hle hi hW hR hD hE;obtain ⟨hdf,hle⟩:=hle;obtain ⟨M',E',q1,q2,q3,q5,q6⟩:=hle _ _ _ _ _ _ _ _ _ hW hR;refine ⟨i,M',E',dv,hi,rfl,fun j v hj=>q2 j v ?_ (hE _ _ hj),q5,q6,?_⟩
   ·have:=zE hj;omega
   ·rw[hdf];exact hD.monoP (fun j hj b hb=>q3 j hj b hb) q2
  have hex:∀ a w,(∃ q,rel q a w)->∃ q,rel q a w/\∀ q',rel q' a w->q<=q':=fun a w hh=>least (fun q=>rel q a w) hh
  let I:Act->World->Prop:=fun a w=>∃ q,rel q a w;let ν:Act->World->Nat:=fun a w=>open Classical in if hh:∃ q,rel q a w then Classical.choose (hex a w hh) else 0;have hν:∀ a w,I a w->rel (ν a w) a w/\∀ q,rel q a w->ν a w<=q:=by
   intro a w hh;have hh':∃ q,rel q a w:=hh;have:=Classical.choose_spec (hex a w hh')
   simp only[ν,dif_pos hh'];exact this
  refine wpIn_loop I ν ⟨_,enter hle0 hi0 hW hR hD hE⟩ ?_;intro a w hI;obtain ⟨⟨i,M1,E1,dv1,h1,h2,h3,h4,h5,h6⟩,_⟩:=hν a w hI;refine yH hΓ hT hmix c (hround i h1) hG hY hm hRo h4 h5 h6 h3 ?_;rintro e a' w' ⟨M',E',s',dv',q1,q2,q3,q4,q5,q6⟩
  cases e with
  | normal =>
   obtain ⟨j,hj,hlt,hle⟩:=q2;have hr:=enter hle hj q3 q4 q5 q1;refine ⟨⟨_,hr⟩,?_⟩
   have:=(hν a' w' ⟨_,hr⟩).2 _ hr;omega
  | exit i=>exact hQ _ _ _ ⟨M',E',s',dv',q1,q2,q3,q4,q5,q6⟩
  | goto i=>exact hQ _ _ _ ⟨M',E',s',dv',q1,q2,q3,q4,q5,q6⟩
  | ret=>exact hQ _ _ _ ⟨M',E',s',dv',q1,q2,q3,q4,q5,q6⟩
  | panic i=>exact hQ _ _ _ ⟨M',E',s',dv',q1,q2,q3,q4,q5,q6⟩
  | outgrown=>exact hQ _ _ _ ⟨M',E',s',dv',q1,q2,q3,q4,q5,q6⟩
 | .rangeFunc g ps as bd,M0,E0,Y,m,true,ro,s,k,M,E,dv,a,w,Q,h,hG,hY,hm,hRo,hW,hR,hD,hE,hQ=>by simp[ex] at h
 | .rangeFunc g ps as bd,M0,E0,Y,m,false,ro,⟨tm,ow,df⟩,k,M,E,dv,a,w,Q,h,hG,hY,hm,hRo,hW,hR,hD,hE,hQ=>by
  simp only[ex] at h;split at h<;>try exact h.elim
  rename_i gf caps hg;split at h<;>try exact h.elim
  rename_i tr hΓg;have hro:ro=none:=hRo rfl;subst hro;have hST:SoundT P Gl gf tr:=hΓ _ _ hΓg;have hgv:=zC hR (hG.mono hW.mle) (fun s b hb=>by simp at hb) hg;simp only[Rep] at hgv;obtain ⟨cs,hgv,hcs⟩:=hgv;refine wpIn_rangeFunc fun fn _=>?_;let rec0:Loop:={ state:=.ready,pending:=none,fn,tmps:=a.tmps,params:=ps,assign:=as,body:=bd,defers:=w.heap.size }
  have hW1:=hW.allocDefd;obtain ⟨M1,hle1,hM1,hW2⟩:=hW1.allocLoop rec0;have hsz:(w.alloc (.deferred (some []))).heap.size=w.heap.size+1:=World.size_alloc _ _;rw[hsz] at hM1 hW2;let l:=w.heap.size+1;let E1:=E++[Value.pointer (some ⟨w.heap.size,0,none⟩)]++[Value.pointer (some ⟨l,0,none⟩)]
  let w1:=(w.alloc (.deferred (some []))).alloc (.loop rec0)
  have hEE1:EnvLe E E1:=(zu _ _).trans (zu _ _)
  have hlen:E.length=ow.length:=hW.len;have hEl:E1[ow.length+1]?=some (.pointer (some ⟨l,0,none⟩)):=by
   simp only[E1];rw[List.getElem?_append_right (by simp[hlen])];simp[hlen]
  have hEd:E1[ow.length]?=some (.pointer (some ⟨w.heap.size,0,none⟩)):=by
   simp only[E1];rw[List.getElem?_append_left (by simp[hlen]),List.getElem?_append_right (by simp[hlen])];simp[hlen]
  have hW2':WRel B w0 M0 M1 E1 (ow++[.defd,.lp .ready none]) w1:=by
   have:ow++[Own.defd,.lp .ready none]=ow++[.defd]++[.lp rec0.state rec0.pending]:=by simp[rec0]
   rw[this];exact hW2
  have hGl1:GlOk M1 Gl:=(hG.mono hW.mle).mono hle1
  -- a round
  have hYr:YOk P Gl B w0 M1 E1 ⟨fun j=>if j=ow.length+1 then some (zk4 (fun m s k=>ex cc Γ T Gl N as Y m true s k) (fun m s k=>ex cc Γ T Gl N bd Y m true s k) N tm ps.toList (ow.length+1)) else Y.lp j,fun _ _ _=>False⟩:=by
   intro j t ht;by_cases hj:j=ow.length+1
   ·subst hj;simp only[if_true,Option.some.injEq] at ht;subst ht;refine ⟨l,hEl,fun ds ow' k' hk' Mr M' E' w' us hM' hE' hW' hG' hds nn=>?_⟩
    simp only[zk4] at hk';split at hk'<;>try exact hk'.elim
    rename_i tm' htm';have hfit:=hW'.fits _ _ (hM' _ _ hM1)
    simp only[Fits] at hfit;obtain ⟨st,pe,hfit⟩:=hfit;have hR0:TRel [] N M' E' tm [] { tmps:=a.tmps,defers:=[] }:=by
     have:=hR.mono (zp hle1 hM') (hEE1.trans hE')
     exact ⟨this.size,rfl,this.tmps,this.guarded⟩
    obtain ⟨hR1,hlen1⟩:=zfa ps.toList ds us.toList htm' hds hR0;have hzip:(ps.zip us).foldl (fun tmps (x:Nat × Value)=>tmps.setIfInBounds x.1 x.2) a.tmps=(ps.toList.zip us.toList).foldl (fun t (x:Nat × Value)=>t.setIfInBounds x.1 x.2) a.tmps:=by
     rw[<- Array.foldl_toList,Array.toList_zip]
    have hyl:=run_yield (P:=P) (args:=us) hfit (by simp at hlen1;exact hlen1.symm)
    refine ⟨fn,(ps.zip us).foldl (fun tmps (x:Nat × Value)=>tmps.setIfInBounds x.1 x.2) a.tmps,as,bd,hyl,?_⟩
    rw[hzip];refine roundIn_of_wpIn trivial ?_;have hWs:=hW'.self;have hGr:=hG';have hYr:YOk P Gl B w0 M' E' Y:=(hY.mono hW.mle hE).mono (zp hle1 hM') (hEE1.trans hE')
    refine yH (ro:=some l) hΓ hT hmix as hk' hGr hYr (by rw[hW'.len];exact Nat.le_refl _) (fun h=>by simp at h) hWs hR1 rfl (zc _) ?_;rintro e a2 w2 ⟨M2,E2,s2,dv2,q1,q2,q3,q4,q5,q6⟩
    have hEl2:∀ {E2:List Value},EnvLe E' E2->E2[ow.length+1]?=some (.pointer (some ⟨l,0,none⟩)):=fun hh=>hh _ _ (hE' _ _ hEl)
    cases e with
    | normal =>
     dsimp only at q2;split at q2<;>try exact q2.elim
     rename_i p ho2 hdf2;rw[hdf2] at q5;have hdv2:dv2=[]:=q5;subst hdv2;have hH2:=q3.holds _ _ _ ho2 (hEl2 q1)
     simp only[Holds] at hH2;obtain ⟨b2,r2,hb2,hheap2,hst2,hpe2,_,_⟩:=hH2;simp at hb2;subst hb2;have hturn:=q3.turnLoop ho2 (hEl2 q1) hheap2 .busy p;refine ⟨_,run_beginRound hheap2 hst2,?_⟩
     have hrec:({ r2 with state:=.busy }:Loop)={ r2 with state:=.busy,pending:=p }:=by rw[<- hpe2]
     rw[hrec];refine yH (ro:=some l) hΓ hT hmix bd q2 hGr hYr (by rw[hW'.len];exact Nat.le_refl _) (fun h=>by simp at h) hturn q4 rfl q1 ?_;rintro e3 a3 w3 ⟨M3,E3,s3,dv3,p1,p2,p3,p4,p5,p6⟩
     split at p2<;>try exact p2.elim
     rename_i st3 pe3 ho3 hdf3;have hH3:=p3.holds _ _ _ ho3 (hEl2 p1)
     simp only[Holds] at hH3;obtain ⟨b3,r3,hb3,hheap3,hst3,hpe3,_,_⟩:=hH3;simp at hb3;subst hb3;have fin:∀ (jump:Option Code) (st':LoopState),st'=(if jump.isNone then .ready else .done)->k' (.v (.bool jump.isNone)) (zj s3.ow (ow.length+1) (.lp st' jump)) ->
       ∃ v w',(Instr.endRound l jump).run P w3=.ok v w'/\∃ d u M'' E'' ow',Ending.returned v=.returned u/\k' d ow'/\M'.le M''/\EnvLe E' E''/\WRel B w0 Mr M'' E'' ow' w'/\Rep M'' E'' d u:=by
      intro jump st' hst hk;refine ⟨_,_,run_endRound jump hheap3,_,_,M3,E3,_,rfl,hk,p3.mle,p1,?_,zk _⟩
      rw[<- hst];exact (p3.turnLoop ho3 (hEl2 p1) hheap3 st' jump).rebase hW'.mle hW'.new
     cases e3 with
     | normal=>exact fin none .ready rfl p2
     | ret=>exact fin (some .ret) .done rfl p2
     | exit id=>exact fin (some (.exit id)) .done rfl p2
     | goto i=>exact p2.elim
     | panic i=>exact p2.elim
     | outgrown=>exact p2.elim
    | exit i=>exact q2.elim
    | goto i=>exact q2.elim
    | ret=>exact q2.elim
    | panic i=>exact q2.elim
    | outgrown=>exact q2.elim
   ·simp only[hj,if_false] at ht;obtain ⟨l',h1,h2⟩:=((hY.mono hW.mle hE).mono hle1 hEE1) j t ht;exact ⟨l',h1,h2⟩
  have hcs1:RepL M1 E1 (.yl (ow.length+1)::caps) (#[Value.func (.yield l) #[] #[]]++cs).toList:=by
   have e0:(#[Value.func (.yield l) #[] #[]]++cs).toList=Value.func (.yield l) #[] #[]::cs.toList:=by simp
   rw[e0];refine RepL.cons ?_ (RepL.mono hle1 hEE1 _ _ hcs)
   simp only[Rep];exact ⟨l,hEl,rfl⟩
  have hcall:=hST.2 _ _ _ _ h B w0 M0 M1 E1 w1 (#[Value.func (.yield l) #[] #[]]++cs) hW2' hGl1 hYr hcs1 (n - 1)
  refine ⟨l,[{ target:=.collected w.heap.size,args := #[] }],w1,{ target:=.fn (.func gf) cs,args := #[Value.func (.yield l) #[] #[]] },w1,gf,#[Value.func (.yield l) #[] #[]]++cs,w1,run_enterLoop_outer fn a.tmps ps as bd,?_,fun _ _=>trivial,?_,fun hh=>by simp[FW,Fence.wide] at hh,?_⟩
  ·simp only[resolve];rw[hgv];simp[Deferred.ofValue,Act.eval]
  ·have:=yj (w:=w1) (args := #[Value.func (.yield l) #[] #[]]++cs) hST.1;simp only[invoke];exact this
  ·refine CallsIn.mono (F:=FW none) hcall ?_;rintro e w3 ⟨d,u,M3,E3,ow3,rfl,hk,hM3,hE3,hW3,_⟩
   have hEl3:=hE3 _ _ hEl;have hR3:∀ (M':Mem) (E':List Value),M3.le M'->EnvLe E3 E'->TRel ([{ target:=.collected w.heap.size,args := #[] }]++dv) N M' E' tm [] { a with defers:=[{ target:=.collected w.heap.size,args := #[] }]++a.defers }:=by
    intro M' E' h1 h2;have:=hR.mono (zp (zp hle1 hM3) h1) ((hEE1.trans hE3).trans h2)
    exact ⟨this.size,by rw[hR.defers],this.tmps,this.guarded⟩
   have hD3:DvOk P m E3 (.m ow.length::df) ([{ target:=.collected w.heap.size,args := #[] }]++dv):=
    ⟨w.heap.size,dv,hE3 _ _ hEd,rfl,hD.mono (hEE1.trans hE3)⟩
   have fin:∀ (st:LoopState) (pe:Option Code),ow3[ow.length+1]?=some (.lp st pe)->st≠.busy->∀ e,(e=.normal\/e=.ret\/∃ id,e=.exit id)->k e ⟨tm,zj ow3 (ow.length+1) (.lp .exhausted pe),.m ow.length::df⟩ ->
     ∃ w4,(Instr.endLoop l).run P w3=.ok pe w4/\Q e { a with defers:=[{ target:=.collected w.heap.size,args := #[] }]++a.defers } w4:=by
    intro st pe ho3 hst e he hke;have hH3:=hW3.holds _ _ _ ho3 hEl3;simp only[Holds] at hH3;obtain ⟨b3,r3,hb3,hheap3,hst3,hpe3,_,_⟩:=hH3;simp at hb3;subst hb3;have hturn:=hW3.turnLoop ho3 hEl3 hheap3 .exhausted pe;refine ⟨w3.putObj l (.loop { r3 with state:=.exhausted,pending:=pe }),?_,?_⟩
    ·have:=run_endLoop (P:=P) hheap3 (by rw[hst3];exact hst)
     rw[hpe3] at this;rw[this]
    ·rcases he with rfl|rfl|⟨id,rfl⟩<;>exact hQ _ _ _ ⟨M3,E3,⟨tm,_,.m ow.length::df⟩,_,(hE.trans hEE1).trans hE3,hke,hturn,hR3 M3 E3 (za _) (zc _),hD3,trivial⟩
   show ∃ jump w₄,(Instr.endLoop l).run P w3=.ok jump w₄/\_
   split at hk<;>try exact hk.elim
   ·rename_i st hst ho3;obtain ⟨w4,h1,h2⟩:=fin _ _ ho3 (by intro e;subst e;simp_all) _ (by simp) hk;exact ⟨none,w4,h1,h2⟩
   ·rename_i st hst ho3;obtain ⟨w4,h1,h2⟩:=fin _ _ ho3 (by intro e;subst e;simp_all) _ (by simp) hk;exact ⟨_,w4,h1,wpIn_ret h2⟩
   ·rename_i st id hst ho3;obtain ⟨w4,h1,h2⟩:=fin _ _ ho3 (by intro e;subst e;simp_all) _ (by simp) hk;exact ⟨_,w4,h1,wpIn_exit h2⟩
 | .goto _,M0,E0,Y,m,R,ro,s,k,M,E,dv,a,w,Q,h,hG,hY,hm,hRo,hW,hR,hD,hE,hQ=>by simp[ex] at h
 | .refuse _,M0,E0,Y,m,R,ro,s,k,M,E,dv,a,w,Q,h,hG,hY,hm,hRo,hW,hR,hD,hE,hQ=>by simp[ex] at h
end
end Go.Sx
namespace Go.Sx
open Go Go.RowKit
variable {Gl:Nat->Option D}{us:List Value}{fn:Func}
def fin (T:TT) (rs:List ResultVar) (s:St) (k:D->List Own->Prop):Prop :=
 match s with
 | ⟨tm,ow,df⟩=>match zcl ow df with
  | some ow1=>(match zfj T tm ow1 rs with
   | some ds=>(match zew ow1 ds with|(ds',ow')=>k (zW ds') ow')
   | none=>False)
  | none=>False
def fin0 (T:TT) (rs:List ResultVar) (s:St) (k:D->List Own->Prop):Prop :=
 match s with
 | ⟨tm,ow,df⟩=>match zcl ow df with
  | some ow1=>(match zfj T tm ow1 rs with
   | some ds=>k (zW ds) ow1
   | none=>False)
  | none=>False
def EntR (d d':D):Prop:=∀ M E u,Rep M E d u->Rep M [] d' u
section
variable {P:Program}{T:TT}{B:Nat}{w0 w:World}{M0 M:Mem}{E:List Value}{dv:List Deferred}
def retV:List Value->Value
 | [u]=>u
 | us=>.tuple us.toArray
def resF (tmps:Array Value):ResultVar->Sem Value
 | .tmp t=>pure (tmps.getD t undef)
 | .cell x t=>do loadVar t (<- asAddr (tmps.getD x undef))
theorem results_eq (fn:Func) (tmps:Array Value):results fn tmps=(do let vs <- fn.results.mapM (resF tmps);pure (if h:vs.size=1 then vs[0] else .tuple vs):Sem Value):=by
 unfold results;refine congrArg (fun F=>(do let vs <- fn.results.mapM F;pure (if h:vs.size=1 then vs[0] else .tuple vs):Sem Value)) ?_;funext r;cases r<;>rfl
theorem xY (hT:TOk P T) {N:Nat}{tm:List (Nat × D)}{ow:List Own}{a:Act}(hW:WRel B w0 M0 M E ow w) (hR:TRel dv N M E tm [] a):∀ (rs:List ResultVar) {ds:List D},zfj T tm ow rs=some ds ->
  ∃ us:List Value,RepL M E ds us/\(rs.mapM (m:=Sem) (resF a.tmps)).run P w=.ok us w
 | [],ds,h=>by
  simp[zfj] at h;subst h;exact ⟨[],RepL.nil,by simp⟩
 | r::rs,ds,h=>by
  simp only[zfj] at h;split at h
  ·rename_i d ds' h1 h2;simp at h;subst h;obtain ⟨us,hus,hrun⟩:=xY hT hW hR rs h2;cases r with
   | tmp t =>
    simp only[resD1] at h1;refine ⟨_::us,RepL.cons (hR.tmps _ _ h1) hus,?_⟩
    rw[List.mapM_cons];simp only[resF,Sem.run_bind,Sem.run_pure,Result.andThen_ok];rw[hrun];rfl
   | cell x t =>
    simp only[resD1] at h1;split at h1
    ·rename_i ti i off hTt hx;split at h1
     ·rename_i d' hl;simp at h1;subst h1;have hx':=hR.tmps _ _ hx;obtain ⟨y,hy1,hy2⟩:=zdz (hT _ _ hTt) hl trivial hW hx';refine ⟨y::us,RepL.cons hy2 hus,?_⟩
      simp only[Rep] at hx';obtain ⟨b,_,hu⟩:=hx';rw[List.mapM_cons];rw[hu] at hy1;simp only[resF,hu];simp only[Instr.loadAt,Sem.run_bind,zS,Result.andThen_ok] at hy1;have hasA:(asAddr (.pointer (some ⟨b,off,none⟩))).run P w=.ok ⟨b,off,none⟩ w:=rfl;simp only[Sem.run_bind,hasA,Result.andThen_ok,hy1];rw[hrun];rfl
     ·simp at h1
    ·simp at h1
  ·simp at h
theorem xV {tmps:Array Value}(h:(fn.results.toList.mapM (m:=Sem) (resF tmps)).run P w=.ok us w):
  (results fn tmps).run P w=.ok (retV us) w:=by
 have hm:(fn.results.mapM (m:=Sem) (resF tmps)).run P w=.ok us.toArray w:=by
  rw[Array.mapM_eq_mapM_toList,Sem.run_map,h];rfl
 rw[results_eq,Sem.run_bind,hm];simp only[Result.andThen_ok,Sem.run_pure]
 match us with
 | []=>simp[retV]
 | [u]=>simp[retV]
 | u::v::r=>simp[retV]
theorem Rep.ret {ds:List D}(h:RepL M E ds us):Rep M E (zW ds) (retV us):=by
 match ds,us,h with
 | [],us,h=>simp[RepL] at h;subst h;simp only[zW,Rep];exact ⟨#[],rfl,RepL.nil⟩
 | [d],us,h =>
  simp only[RepL] at h;obtain ⟨u,r,rfl,hu,rfl⟩:=h;exact hu
 | d::e::ds,us,h =>
  have h':=h;simp only[RepL] at h;obtain ⟨u,r,rfl,hu,v,r',rfl,hv,hr⟩:=h;simp only[zW,Rep];exact ⟨_,rfl,by simpa using h'⟩
theorem lk_parTm:∀ (ds:List D) (i t:Nat) (d:D),lk (vT i ds) t=some d->i<=t/\ds[t - i]?=some d
 | [],i,t,d,h=>by simp[vT,lk] at h
 | x::ds,i,t,d,h=>by
  simp only[vT,lk] at h;split at h
  ·rename_i hi;subst hi;simp at h;subst h;simp
  ·rename_i hi;obtain ⟨h1,h2⟩:=lk_parTm ds (i+1) t d h;refine ⟨by omega,?_⟩
   rw[show t - i=(t - (i+1))+1 by omega];simpa using h2
theorem TRel.start {N:Nat}{ds:List D}{us:Array Value}(h:RepL M E ds us.toList) (hN:ds.length<=N):TRel [] N M E (vT 0 ds) [] { tmps:=us++Array.replicate (N - us.size) undef,defers:=[] }:=by
 have hl:=h.length;refine ⟨by simp at hl ⊢;omega,rfl,fun t d ht=>?_,fun _ _ _ _ hh=>by simp[lkG] at hh⟩
 obtain ⟨_,h2⟩:=lk_parTm ds 0 t d ht;obtain ⟨u,h3,h4⟩:=RepL.get h h2;have:(us++Array.replicate (N - us.size) undef).getD t undef=u:=by
  have h5:us[t]?=some u:=by simpa using h3
  have h6:t<us.size:=by
   rcases Nat.lt_or_ge t us.size with h'|h'
   ·exact h'
   ·simp[Array.getElem?_eq_none h'] at h5
  rw[Array.getD_eq_getD_getElem?,Array.getElem?_append_left h6,h5];rfl
 rw[this];exact h4
theorem WRel.start (h:M.fits w):WRel w.heap.size w M M [] [] w :=
 ⟨h,Nat.le_refl _,Below.refl _ _,rfl,fun i o v ho=>by simp at ho,fun i j o o' v v' b ho=>by simp at ho,za _,fun b o hb=>.inl hb⟩
theorem xU {fn:Func}{m n:Nat}{R:Ending->World->Prop}{tmps:Array Value}:∀ (df:List DE) {ow ow1:List Own}{dv:List Deferred}{w:World},zcl ow df=some ow1->WRel B w0 M0 M E ow w->DvOk P m E df dv ->
  (∀ w',WRel B w0 M0 M E ow1 w'->∃ v,(results fn tmps).run P w'=.ok v w'/\R (.returned v) w')->LeavesInM Fence.wide n P fn tmps R dv .returning w
 | [],ow,ow1,dv,w,h,hW,hD,hk=>by
  simp[zcl] at h;subst h;have:dv=[]:=hD;subst this;exact hk w hW
 | .m i::is,ow,ow1,dv,w,h,hW,hD,hk=>by
  simp only[zcl] at h;split at h<;>try (simp at h;done)
  rename_i ho;obtain ⟨b,r,h1,h2,h3⟩:=hD;subst h2;have hH:=hW.holds _ _ _ ho h1;simp only[Holds] at hH;obtain ⟨b',hb',hheap,_,_⟩:=hH;simp at hb';subst hb';refine ⟨by simp,.inl ⟨b,_,rfl,run_takeDeferred hheap,?_⟩⟩
  refine xU is h (hW.endIn ho rfl h1 rfl (fun k hk=>?_) ?_ rfl rfl rfl) h3 hk
  ·simp[World.putObj,Ne.symm hk]
  ·simp[World.putObj]
 | .c f::is,ow,ow1,dv,w,h,hW,hD,hk=>by
  simp only[zcl] at h;obtain ⟨cs,r,h1,h2,h3⟩:=hD;subst h2;refine ⟨by simp,.inr ⟨fun hh=>by simp[Fence.wide] at hh,.func f,cs,f,cs,rfl,?_,fun _ _=>trivial,?_⟩⟩
  ·show (callFunc f (#[]++cs)).run P w=_;rw[Array.empty_append];exact yj h1.1.1
  ·refine CallsDIn.mono (h1.1.2 (n - 1) cs w h1.2) ?_;rintro e u' w' ⟨⟨v,rfl⟩,rfl,hb⟩
   exact xU is h (hW.call (za _) (fun b o hb=>.inl hb) (fun c x hc=>by have hf:=hW.fits _ _ hc;rw[hb.block c hf.lt];exact hf) hb) h3 hk
 | .r f i j::is,ow,ow1,dv,w,h,hW,hD,hk=>by
  simp only[zcl] at h;obtain ⟨b,b',r,⟨h1,_,_,_,_⟩,h2,h3⟩:=hD;subst h2;refine ⟨by simp,.inr ⟨fun hh=>by simp[Fence.wide] at hh,.func f,#[.pointer (some ⟨b,0,none⟩),.pointer (some ⟨b',0,none⟩)],f,#[.pointer (some ⟨b,0,none⟩),.pointer (some ⟨b',0,none⟩)],rfl,?_,fun _ _=>trivial,?_⟩⟩
  ·show (callFunc f (#[] ++ #[.pointer (some ⟨b,0,none⟩),.pointer (some ⟨b',0,none⟩)])).run P w=_;rw[Array.empty_append];exact yj h1.1
  ·refine CallsDIn.mono (h1.2 (n - 1) _ w rfl) ?_;rintro e u' w' ⟨⟨v,rfl⟩,rfl,hb⟩
   exact xU is h (hW.call (za _) (fun b o hb=>.inl hb) (fun c x hc=>by have hf:=hW.fits _ _ hc;rw[hb.block c hf.lt];exact hf) hb) h3 hk
theorem YOk.none:YOk P Gl B w0 M E Ys.none:=fun i t h=>by simp[Ys.none] at h
theorem sound_of {cc:Bool}{Γ:Ctx}(hΓ:CtxOk P Gl Γ) (hT:TOk P T) (hmix:P.follows .mixedOrders=true) {f:FuncId}{c:Code}{ct:Ct}(hf:P.funcs[f]?=some fn) (hb:fn.body=some c) (hname:(fn.name == "runtime.NumGoroutine")=false) (hpd:∀ x,pdL (ct.inp x)=true)
  (hlen:∀ x,ct.pre x->(ct.inp x).length<=fn.ntmps)
  (h:∀ x,ct.pre x->ex cc Γ T Gl fn.ntmps c Ys.none 0 false ⟨vT 0 (ct.inp x),[],[]⟩ fun e s=>match e with | .ret=>fin T fn.results.toList s fun d _=>EntR d (ct.out x) | .normal=>fin T fn.results.toList s fun d _=>EntR d (ct.out x)|_=>False):Sound P Gl f ct:=by
 refine ⟨⟨fn,hf,hname,by simp[hb]⟩,hpd,fun x hx M w us hfit hG hrep n=>?_⟩
 refine callsIn_of_wp_marks hf hb trivial ?_;refine yH (ro:=none) (E0:=[]) hΓ hT hmix c (h x hx) hG YOk.none (Nat.zero_le _) (fun _=>rfl) (WRel.start hfit) (TRel.start hrep (hlen x hx)) rfl (zc _) ?_;rintro e a' w' ⟨M',E',s',dv',q1,q2,q3,q4,q5,q6⟩
 have key:TRel dv' fn.ntmps M' E' s'.tm [] a'->fin T fn.results.toList s' (fun d _=>EntR d (ct.out x))->LeavesInM Fence.wide n P fn a'.tmps (fun e w'=>∃ M' u,e=.returned u/\M.le M'/\(∀ b o,M' b=some o->M b=some o\/w.heap.size<=b)/\M'.fits w'/\Rep M' [] (ct.out x) u/\Below w.heap.size w w') a'.defers .returning w':=by
  intro q4 hfin;obtain ⟨tm,ow,df⟩:=s';simp only[fin] at hfin;split at hfin
  ·rename_i ow1 hsh;split at hfin
   ·rename_i ds hds;rw[q4.defers];refine xU df hsh q3 q5 fun w2 hW2=>?_;obtain ⟨us',h1,h2⟩:=xY hT hW2 q4 _ hds;cases hfr:zew ow1 ds with
    | mk ds' ow' =>
     rw[hfr] at hfin;obtain ⟨M2,h3,h4,h5⟩:=xc ds hfr hW2 h1;exact ⟨_,xV h2,M2,_,rfl,h4.mle,h4.new,h4.fits,hfin _ _ _ (Rep.ret h5),h4.below⟩
   ·exact hfin.elim
  ·exact hfin.elim
 cases e with
 | normal=>exact key q4 q2
 | ret=>exact key q4 q2
 | exit i=>exact q2.elim
 | goto i=>exact q2.elim
 | panic i=>exact q2.elim
 | outgrown=>exact q2.elim
def inlT (cc:Bool) (Γ:Ctx) (T:TT) (Gl:Nat->Option D) (fn:Func) (c:Code):Tr:=fun Y ds ow k =>
 ds.length<=fn.ntmps/\ex cc Γ T Gl fn.ntmps c Y ow.length false ⟨vT 0 ds,ow,[]⟩ fun e s=>match e with | .ret=>fin0 T fn.results.toList s k | .normal=>fin0 T fn.results.toList s k|_=>False
theorem zhd {cc:Bool}{Γ:Ctx}(hΓ:CtxOk P Gl Γ) (hT:TOk P T) (hmix:P.follows .mixedOrders=true) {f:FuncId}{c:Code}(hf:P.funcs[f]?=some fn) (hb:fn.body=some c) (hname:(fn.name == "runtime.NumGoroutine")=false):SoundT P Gl f (inlT cc Γ T Gl fn c):=by
 refine ⟨⟨fn,hf,hname,by simp[hb]⟩,fun Y ds ow k ⟨hlen,h⟩ B w0 M0 M E w us hW hG hY hrep n=>?_⟩
 refine callsIn_of_wp_marks hf hb trivial ?_;refine yH (ro:=none) (E0:=E) (m:=ow.length) (M0:=M) hΓ hT hmix c h hG hY (by rw[hW.len];exact Nat.le_refl _) (fun _=>rfl) hW.self (TRel.start hrep hlen) rfl (zc _) ?_;rintro e a' w' ⟨M',E',s',dv',q1,q2,q3,q4,q5,q6⟩
 have key:TRel dv' fn.ntmps M' E' s'.tm [] a'->fin0 T fn.results.toList s' k->LeavesInM Fence.wide n P fn a'.tmps (fun e w'=>∃ d u M' E' ow',e=.returned u/\k d ow'/\M.le M'/\EnvLe E E'/\WRel B w0 M0 M' E' ow' w'/\Rep M' E' d u) a'.defers .returning w':=by
  intro q4 hfin;obtain ⟨tm,ow1,df⟩:=s';simp only[fin0] at hfin;split at hfin
  ·rename_i ow2 hsh;split at hfin
   ·rename_i ds' hds;rw[q4.defers];refine xU df hsh q3 q5 fun w2 hW2=>?_;obtain ⟨us',h1,h2⟩:=xY hT hW2 q4 _ hds;exact ⟨_,xV h2,_,_,M',E',ow2,rfl,hfin,q3.mle,q1,hW2.rebase hW.mle hW.new,Rep.ret h1⟩
   ·exact hfin.elim
  ·exact hfin.elim
 cases e with
 | normal=>exact key q4 q2
 | ret=>exact key q4 q2
 | exit i=>exact q2.elim
 | goto i=>exact q2.elim
 | panic i=>exact q2.elim
 | outgrown=>exact q2.elim
end
end Go.Sx
