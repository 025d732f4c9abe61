import Derived.Test.YtnimkdbpoeondaaGreatDoorE3
import Derived.DefersIn
import Derived.ControlIn
set_option linter.all false
namespace Go.Sx
open Go Go.RowKit
variable {k:List (Nat × D)->List Own->Prop}{Q:Exit->Act->World->Prop}{tm:List (Nat × D)}{Gl:Nat->Option D}{dst:Option Nat}{N:Nat}{gs:Gs}{Y:Ys}{a:Act}
def FW (ro:Option Nat):Fence:={ Fence.wide with round:=ro }
def Enters (P:Program) (f:FuncId):Prop:=∃ fn,P.funcs[f]?=some fn/\(fn.name == "runtime.NumGoroutine")=false/\fn.body.isNone=false
mutual
theorem Rep.pd {M:Mem}{E E':List Value}:∀ (d:D) (u:Value),Sx.pd d=true->Rep M E d u->Rep M E' d u
 | .v x,u,_,h=>by simpa only[Rep] using h
 | .sl _ _ _,u,_,h=>by simpa only[Rep] using h
 | .pt _ _,u,_,h=>by simpa only[Rep] using h
 | .ag l,u,hp,h=>by
  simp only[Rep] at h ⊢;obtain ⟨us,rfl,hl⟩:=h;exact ⟨us,rfl,RepL.pd _ _ (by simpa[Sx.pd] using hp) hl⟩
 | .tu l,u,hp,h=>by
  simp only[Rep] at h ⊢;obtain ⟨us,rfl,hl⟩:=h;exact ⟨us,rfl,RepL.pd _ _ (by simpa[Sx.pd] using hp) hl⟩
 | .own _ _,u,hp,_=>by simp[Sx.pd] at hp
 | .row _,u,hp,_=>by simp[Sx.pd] at hp
 | .rp _ _ _ _,u,hp,_=>by simp[Sx.pd] at hp
 | .fn g l,u,hp,h=>by
  simp only[Rep] at h ⊢;obtain ⟨us,rfl,hl⟩:=h;exact ⟨us,rfl,RepL.pd _ _ (by simpa[Sx.pd] using hp) hl⟩
 | .ifc t d,u,hp,h=>by
  simp only[Rep] at h ⊢;obtain ⟨x,rfl,hx⟩:=h;exact ⟨x,rfl,Rep.pd _ _ (by simpa[Sx.pd] using hp) hx⟩
 | .yl _,u,hp,_=>by simp[Sx.pd] at hp
 | .mp _,u,hp,_=>by simp[Sx.pd] at hp
 | .os _ _ _,u,hp,_=>by simp[Sx.pd] at hp
 | .sd _,u,hp,_=>by simp[Sx.pd] at hp
 | .junk,u,_,_=>by simp[Rep]
theorem RepL.pd {M:Mem}{E E':List Value}:∀ (l:List D) (us:List Value),Sx.pdL l=true->RepL M E l us->RepL M E' l us
 | [],us,_,h=>by simpa only[RepL] using h
 | d::ds,us,hp,h=>by
  simp only[RepL] at h ⊢;obtain ⟨u,r,rfl,hd,hr⟩:=h;simp[Sx.pdL] at hp;exact ⟨u,r,rfl,Rep.pd _ _ hp.1 hd,RepL.pd _ _ hp.2 hr⟩
end
def Sound (P:Program) (Gl:Nat->Option D) (f:FuncId) (ct:Ct):Prop :=
 Enters P f/\(∀ x,pdL (ct.inp x)=true)/\∀ x,ct.pre x->∀ (M:Mem) (w:World) (us:Array Value),M.fits w->GlOk M Gl->RepL M [] (ct.inp x) us.toList ->
  ∀ n,CallsIn Fence.wide n P f us w fun e w'=>∃ M' u,e=.returned u/\M.le M'/\(∀ b o,M' b=some o->M b=some o\/w.heap.size<=b)/\M'.fits w'/\Rep M' [] (ct.out x) u/\Below w.heap.size w w'
def YieldsTo (P:Program) (l:Nat) (us:Array Value) (w:World) (n:Nat) (R:Ending->World->Prop):Prop :=
 ∃ f tmps assign body,(Instr.yield l us).run P w=.ok (.round l f tmps assign body) w/\RoundIn Fence.wide n P l f tmps assign body w R
def YOk (P:Program) (Gl:Nat->Option D) (B:Nat) (w0:World) (M:Mem) (E:List Value) (Y:Ys):Prop :=
 ∀ i t,Y.lp i=some t->∃ l,E[i]?=some (.pointer (some ⟨l,0,none⟩))/\∀ ds ow k,t ds ow k->∀ M0 M' E' w (us:Array Value),M.le M'->EnvLe E E'->WRel B w0 M0 M' E' ow w->GlOk M' Gl->RepL M' E' ds us.toList ->
  ∀ n,YieldsTo P l us w n fun e w'=>∃ d u M'' E'' ow',e=.returned u/\k d ow'/\M'.le M''/\EnvLe E' E''/\WRel B w0 M0 M'' E'' ow' w'/\Rep M'' E'' d u
theorem YOk.mono {P:Program}{B:Nat}{w0:World}{M M1:Mem}{E E1:List Value}(h:YOk P Gl B w0 M E Y) (hM:M.le M1) (hE:EnvLe E E1):YOk P Gl B w0 M1 E1 Y:=by
 intro i t ht;obtain ⟨l,h1,h2⟩:=h i t ht;exact ⟨l,hE _ _ h1,fun ds ow k hk M0 M' E' w us hM' hE'=>h2 ds ow k hk M0 M' E' w us (zp hM hM') (hE.trans hE')⟩
def SoundT (P:Program) (Gl:Nat->Option D) (f:FuncId) (tr:Tr):Prop :=
 Enters P f/\∀ Y ds ow k,tr Y ds ow k->∀ B w0 M0 M E w (us:Array Value),WRel B w0 M0 M E ow w->GlOk M Gl->YOk P Gl B w0 M E Y->RepL M E ds us.toList ->
  ∀ n,CallsIn Fence.wide n P f us w fun e w'=>∃ d u M' E' ow',e=.returned u/\k d ow'/\M.le M'/\EnvLe E E'/\WRel B w0 M0 M' E' ow' w'/\Rep M' E' d u
def zh9 (P:Program) (Gl:Nat->Option D) (f:FuncId) (g:List D->Option D):Prop:=∀ ds d,g ds=some d->∀ (M:Mem) (E:List Value) (us:Array Value) (w:World),M.fits w->GlOk M Gl->RepL M E ds us.toList->∃ u,(callFunc f us).run P w=.ok (.value u) w/\Rep M E d u
def zb5 (P:Program) (f:FuncId):Prop:=Enters P f/\∀ (n:Nat) (cs:Array Value) (w:World),cs.size=2->CallsDIn Fence.wide n P f cs .returning w fun e u' w'=>(∃ v,e=.returned v)/\u'=.returning/\Below w.heap.size w w'
def SoundO (P:Program) (Gl:Nat->Option D) (f:FuncId) (oc:Oc):Prop :=
 Enters P f/\(∀ x,pdL (oc.before x)=true)/\(∀ x,pdL (oc.inp x)=true)/\(∀ x,pdL (oc.after x)=true)/\∀ x,oc.pre x->∀ (M:Mem) (w:World) (us:Array Value) (b:Nat) (cs:Array Value),M.fits w->GlOk M Gl->M b=none->w.heap[b]?=some (.cells cs oc.t (0,0))->RepL M [] (oc.before x) cs.toList->us.toList=.pointer (some ⟨b,0,none⟩)::us.toList.tail->RepL M [] (oc.inp x) us.toList.tail ->
  ∀ n,CallsIn Fence.wide n P f us w fun e w'=>∃ M' cs',M.le M'/\(∀ c o,M' c=some o->M c=some o\/w.heap.size<=c)/\M'.fits w'/\Below 0 w w'/\(∀ c,c<w.heap.size->c≠b->w'.heap[c]?=w.heap[c]?)/\w'.heap[b]?=some (.cells cs' oc.t (0,0))/\RepL M' [] (oc.after x) cs'.toList /\
   match oc.res x with
   | .inl d=>∃ u,e=.returned u/\Rep M' [] d u
   | .inr d=>∃ v,e=.panicked [{ v,recovered:=false }]/\Rep M' [] d v
def HdOk (P:Program) (Gl:Nat->Option D) (f:FuncId):Hd->Prop
 | .pure ct=>Sound P Gl f ct
 | .obj oc=>SoundO P Gl f oc
 | .gen tr=>SoundT P Gl f tr
 | .ext g=>zh9 P Gl f g
 | .quiet=>zb5 P f
 | .recov=>zb5 P f
def CtxOk (P:Program) (Gl:Nat->Option D) (Γ:Ctx):Prop:=∀ f h,Γ f=some h->HdOk P Gl f h
section
variable {P:Program}{T:TT}{B:Nat}{w0 w w':World}{M0 M M':Mem}{E E':List Value}{ow:List Own}{dv:List Deferred}
theorem GlOk.mono (h:GlOk M Gl) (hM:M.le M'):GlOk M' Gl:=fun g d hd=>Rep.mono hM (zc _) _ _ (h g d hd)
theorem WRel.call (h:WRel B w0 M0 M E ow w) (hle:M.le M') (hnew:∀ b o,M' b=some o->M b=some o\/w.heap.size<=b) (hfit:M'.fits w') (hb:Below w.heap.size w w'):WRel B w0 M0 M' E ow w':=by
 refine ⟨hfit,Nat.le_trans h.base hb.size,h.below.trans (hb.mono h.base),h.len,fun i o v ho hv=>?_,h.inj,zp h.mle hle,fun b o hbo=>?_⟩
 ·have hH:=h.holds _ _ _ ho hv;refine hH.frame (fun b hl hbk=>hb.block b (hH.lt hl hbk).1) hle (zc _) (fun b hf hbk=>?_)
  obtain ⟨h1,h2,h3'⟩:=hH.lt (Own.free_live hf) hbk;have h3:=h3' hf;cases hm:M' b with
  | none=>rfl
  | some o' =>
   rcases hnew _ _ hm with h4|h4
   ·rw[h3] at h4;simp at h4
   ·omega
 ·rcases hnew _ _ hbo with h4|h4
  ·exact h.new _ _ h4
  ·exact .inr (Nat.le_trans h.base h4)
theorem WRel.callO (h:WRel B w0 M0 M E ow w) {i b:Nat}{t:TypeId}{l l':List D}{cs':Array Value}(ho:ow[i]?=some (.cells t l)) (hE:E[i]?=some (.pointer (some ⟨b,0,none⟩))) (hle:M.le M') (hnew:∀ c o,M' c=some o->M c=some o\/w.heap.size<=c) (hfit:M'.fits w') (hb:Below 0 w w')
  (hoth:∀ c,c<w.heap.size->c≠b->w'.heap[c]?=w.heap[c]?) (hcell:w'.heap[b]?=some (.cells cs' t (0,0))) (hrep:RepL M' E l' cs'.toList):WRel B w0 M0 M' E (zj ow i (.cells t l')) w':=by
 have hlt:=(h.holds _ _ _ ho hE).lt (o:=.cells t l) rfl (b:=b) rfl;have hMb:M b=none:=hlt.2.2 rfl;have hnone:∀ c,c<w.heap.size->M c=none->M' c=none:=by
  intro c hc hm;cases hm':M' c with
  | none=>rfl
  | some o' =>
   rcases hnew _ _ hm' with h4|h4
   ·rw[hm] at h4;simp at h4
   ·omega
 refine ⟨hfit,Nat.le_trans h.base hb.size,h.below.trans ⟨hb.os,hb.tape,hb.output,hb.size,fun k hk=>hoth k (by have:=h.base;omega) (by have:=hlt.2.1;omega)⟩,by simp[zJ,h.len],fun j p u hp hu=>?_,fun j k p p' u u' c hp hp' hl1 hl2 hu hu' hc hc'=>?_,zp h.mle hle,fun c o hco=>?_⟩
 ·rw[zt] at hp;split at hp
  ·rename_i hij;subst hij;rw[if_pos (zE ho)] at hp;simp at hp;subst hp;rw[hE] at hu;simp at hu;subst hu;simp only[Holds];exact ⟨b,cs',rfl,hcell,hrep,hnone b hlt.1 hMb,hlt.2.1⟩
  ·rename_i hij;have hHj:=h.holds _ _ _ hp hu;refine hHj.frame (fun c hl' hc=>hoth c (hHj.lt hl' hc).1 (fun e=>?_)) hle (zc _) (fun c hf hc=>hnone c (hHj.lt (Own.free_live hf) hc).1 ((hHj.lt (Own.free_live hf) hc).2.2 hf))
   subst e;exact hij (h.inj _ _ _ _ _ _ _ ho hp rfl hl' hE hu rfl hc)
 ·have back:∀ (j:Nat) (p:Own),(zj ow i (.cells t l'))[j]?=some p->p.live=true->∃ q:Own,ow[j]?=some q/\q.live=true:=by
   intro j p hp hl;rw[zt] at hp;split at hp
   ·rename_i hij;subst hij;exact ⟨_,ho,rfl⟩
   ·exact ⟨p,hp,hl⟩
  obtain ⟨q,hq,hql⟩:=back _ _ hp hl1;obtain ⟨q',hq',hql'⟩:=back _ _ hp' hl2;exact h.inj _ _ _ _ _ _ _ hq hq' hql hql' hu hu' hc hc'
 ·rcases hnew _ _ hco with h4|h4
  ·exact h.new _ _ h4
  ·exact .inr (Nat.le_trans h.base h4)
theorem yj {f:FuncId}{args:Array Value}(h:Enters P f):(callFunc f args).run P w=.ok (.enter f args) w:=by
 obtain ⟨fn,h1,h2,h3⟩:=h;simp only[callFunc,Sem.run_bind,run_program,Result.andThen_ok,h1];simp[h2,h3]
theorem zlg {t:TypeId}{ti:TI}{name:String}{f:Nat}{v:Value}(hti:zgu P t=some ti) (h:methOf ti name=some f):(method (P.types.size+Made.depth) t v name).run P w=.ok (f,v) w:=by
 obtain ⟨i,d,hi,hd,rfl⟩:=zi hti;unfold methOf at h;split at h<;>simp at h;rename_i nm f' hfind;subst h;simp only[znn] at hfind;split at hfind
 ·simp at hfind
 ·rename_i hnp;rw[List.find?_map] at hfind;simp only[Option.map_eq_some_iff,Prod.mk.injEq] at hfind;obtain ⟨m,hm,_,hfn⟩:=hfind;have hfind':i.methods.find? (fun x=>x.name==name)=some m:=by
   rw[<- Array.find?_toList];exact hm
  split at hfn<;>try (simp at hfn;done)
  rename_i g hg;split at hfn<;>try (simp at hfn;done)
  rename_i hp;simp at hfn;subst hfn;have hpl:m.path.toList=[]:=by simpa[Array.isEmpty_iff] using hp
  have hfuel:P.types.size+Made.depth=(P.types.size+Made.depth - 1)+1:=by
   have:0<Made.depth:=by decide
   omega
  rw[hfuel];simp only[method,Sem.run_bind];rw[show (typeInfo t).run P w=.ok i w by simp[typeInfo,hi]];simp only[Result.andThen_ok,hfind',hpl,follow,Sem.run_pure,hg,Sem.run_bind];have hrec:(receiverAt t (.val v) false (if m.path.isEmpty then some ((name.splitOn ".").getLastD name) else none)).run P w=.ok v w:=by
   simp only[receiverAt,Sem.run_bind,zb hd,Result.andThen_ok];cases d<;>first|rfl|exact absurd rfl (hnp _)
  rw[hrec];rfl
theorem zid {ro:Option Nat}{n:Nat}{o:Oper}{K:Act->World->Prop}(hd:∀ c,o.op≠.defer c) (h:o.uponIn (FW ro) n P a K Q ((execOp a.eval o).run P w)):o.wpIn (FW ro) n P a w K Q :=
 ⟨fun _ _=>trivial,by rw[Oper.semAt_eq _ _ _ hd];exact h⟩
def Next (dv:List Deferred) (N B:Nat) (w0:World) (M0 M:Mem) (E:List Value) (gs:Gs) (k:List (Nat × D)->List Own->Prop) (a:Act) (w:World):Prop :=
 ∃ M' E' tm' ow',M.le M'/\EnvLe E E'/\k tm' ow'/\WRel B w0 M0 M' E' ow' w/\TRel dv N M' E' tm' gs a
theorem zU {d:D}{ow':List Own}{u:Value}{E0:List Value}{Mb:Mem}(h:zen N dst gs d tm fun tm'=>k tm' ow') (hT:TRel dv N M E tm gs a)
  (hM:M.le M') (hE:EnvLe E E') (hW:WRel B w0 M0 M' E' ow' w') (hu:Rep M' E' d u) (hMb:Mb.le M) (hE0:EnvLe E0 E):Next dv N B w0 M0 Mb E0 gs k (a.put dst u) w':=by
 unfold zen at h;split at h
 ·rename_i t;split at h<;>try exact h.elim
  split at h<;>try exact h.elim
  rename_i h1 h2;exact ⟨M',E',_,_,zp hMb hM,hE0.trans hE,h,hW,hT.put hM hE hu h1 h2⟩
 ·exact ⟨M',E',_,_,zp hMb hM,hE0.trans hE,h,hW,by simpa[Act.put] using hT.mono hM hE⟩
def PanAt (dv:List Deferred) (N B:Nat) (w0:World) (M0 Mb:Mem) (E0:List Value) (Y:Ys) (Q:Exit->Act->World->Prop):Prop :=
 ∀ tm ow d M' E' a w' v,Y.pan tm ow d->Mb.le M'->EnvLe E0 E'->WRel B w0 M0 M' E' ow w'->TRel dv N M' E' tm [] a->Rep M' [] d v->Q (.panic [{ v,recovered:=false }]) a w'
theorem PanAt.mono (h:PanAt dv N B w0 M0 M E Y Q) (hM:M.le M') (hE:EnvLe E E'):PanAt dv N B w0 M0 M' E' Y Q :=
 fun tm ow d M1 E1 a w' v h1 h2 h3 h4 h5 h6=>h tm ow d M1 E1 a w' v h1 (zp hM h2) (hE.trans h3) h4 h5 h6
theorem PanAt.none:PanAt dv N B w0 M0 M E Ys.none Q:=fun _ _ _ _ _ _ _ _ h=>h.elim
theorem PanAt.of (h:∀ tm ow d,¬Y.pan tm ow d):PanAt dv N B w0 M0 M E Y Q:=fun _ _ _ _ _ _ _ _ h'=>(h _ _ _ h').elim
theorem TRel.dropG (h:TRel dv N M E tm gs a):TRel dv N M E tm [] a :=
 ⟨h.size,h.defers,h.tmps,fun _ _ _ _ hh=>by simp[lkG] at hh⟩
theorem za3 {Γ:Ctx}(hΓ:CtxOk P Gl Γ) {f:FuncId}{ds:List D}(h:zf6 Γ Y N f dst ds tm gs ow k)
  {a:Act}(hW:WRel B w0 M0 M E ow w) (hR:TRel dv N M E tm gs a) (hG:GlOk M Gl) (hY:YOk P Gl B w0 M E Y) {us:Array Value}(hds:RepL M E ds us.toList) {ro:Option Nat}{n:Nat}{o:Oper}(hdst:o.dst=dst) (Q:Exit->Act->World->Prop) (hP:PanAt dv N B w0 M0 M E Y Q):
  o.uponIn (FW ro) n P a (Next dv N B w0 M0 M E gs k) Q ((callFunc f us).run P w):=by
 unfold zf6 at h;split at h
 ·rename_i ct hf;have hS:Sound P Gl f ct:=hΓ _ _ hf;rw[yj hS.1];cases hfr:zew ow ds with
  | mk ds' ow' =>
   rw[hfr] at h;obtain ⟨x,hent,hpre,hput⟩:=h;obtain ⟨M1,hle1,hW1,hrep1⟩:=xc ds hfr hW hds;have hin:=RepL.pd _ _ (hS.2.1 x) (hent _ _ _ hrep1) (E':=[])
   refine ⟨fun hh=>by simp[FW,Fence.wide] at hh,?_⟩
   refine CallsIn.mono (F:=FW ro) (hS.2.2 x hpre M1 w us hW1.fits (hG.mono hle1) hin (n - 1)) ?_;rintro e w' ⟨M',u,rfl,hle,hnew,hfit,hrep,hb⟩
   rw[hdst];exact zU hput hR (zp hle1 hle) (zc _) (hW1.call hle hnew hfit hb) (Rep.mono (za _) (EnvLe.nil _) _ _ hrep) (za _) (zc _)
 ·rename_i oc hf;have hS:SoundO P Gl f oc:=hΓ _ _ hf;rw[yj hS.1];split at h<;>try exact h.elim
  rename_i i rest;cases hfr:zew ow rest with
  | mk rest' ow' =>
   rw[hfr] at h;dsimp only at h;split at h<;>try exact h.elim
   rename_i t l hoi;obtain ⟨rfl,x,hent,henti,hpre,hres⟩:=h;simp only[RepL] at hds;obtain ⟨u0,r0,hus,hu0,hrest⟩:=hds;obtain ⟨M1,hle1,hW1,hrep1⟩:=xc rest hfr hW hrest;simp only[Rep] at hu0;obtain ⟨b,hEb,rfl⟩:=hu0;have hHo:=hW1.holds _ _ _ hoi hEb;simp only[Holds] at hHo;obtain ⟨b',cs,hb',hheap,hcs,hMb,hBb⟩:=hHo;simp at hb';subst hb';have hbef:=RepL.pd _ _ (hS.2.1 x) (hent _ _ _ (xX hW1 _ _ hcs)) (E':=[])
   have hinp:=RepL.pd _ _ (hS.2.2.1 x) (henti _ _ _ hrep1) (E':=[])
   have htl:us.toList.tail=r0:=by rw[hus];rfl
   refine ⟨fun hh=>by simp[FW,Fence.wide] at hh,?_⟩
   refine CallsIn.mono (F:=FW ro) (hS.2.2.2.2 x hpre M1 w us b cs hW1.fits (hG.mono hle1) hMb hheap hbef (by rw[hus];rfl) (by rw[htl];exact hinp) (n - 1)) ?_;rintro e w' ⟨M',cs',hle,hnew,hfit,hbel,hoth,hcell,haft,hr⟩
   have hW2:=hW1.callO hoi hEb hle hnew hfit hbel hoth hcell (RepL.mono (za _) (EnvLe.nil _) _ _ haft)
   cases hx:oc.res x with
   | inl d =>
    rw[hx] at hr hres;obtain ⟨u,rfl,hu⟩:=hr;rw[hdst];exact zU hres hR (zp hle1 hle) (zc _) hW2 (Rep.mono (za _) (EnvLe.nil _) _ _ hu) (za _) (zc _)
   | inr d =>
    rw[hx] at hr hres;obtain ⟨v,rfl,hv⟩:=hr;exact hP _ _ _ M' E a w' v hres (zp hle1 hle) (zc _) hW2 (hR.dropG.mono (zp hle1 hle) (zc _)) hv
 ·rename_i tr hf;have hS:SoundT P Gl f tr:=hΓ _ _ hf;rw[yj hS.1];refine ⟨fun hh=>by simp[FW,Fence.wide] at hh,?_⟩
  refine CallsIn.mono (F:=FW ro) (hS.2 _ _ _ _ h B w0 M0 M E w us hW hG hY hds (n - 1)) ?_;rintro e w' ⟨d,u,M',E',ow',rfl,hk,hle,hEP,hW',hrep⟩
  rw[hdst];exact zU hk hR hle hEP hW' hrep (za _) (zc _)
 ·rename_i g hf;have hS:zh9 P Gl f g:=hΓ _ _ hf;split at h
  ·rename_i d hgd;obtain ⟨u,hrun,hu⟩:=hS _ _ hgd M E us w hW.fits hG hds;rw[hrun];show Next dv N B w0 M0 M E gs k (a.put o.dst u) w;rw[hdst];exact zU h hR (za _) (zc _) hW hu (za _) (zc _)
  ·exact h.elim
 ·exact h.elim
 ·exact h.elim
 ·exact h.elim
theorem zdh {cc:Bool}{Γ:Ctx}(hΓ:CtxOk P Gl Γ) (hT:TOk P T) {op:Op}(h:zkf cc Γ Y T Gl N op dst tm gs ow k)
  {a:Act}(hW:WRel B w0 M0 M E ow w) (hR:TRel dv N M E tm gs a) (hG:GlOk M Gl) (hY:YOk P Gl B w0 M E Y) {ro:Option Nat}{n:Nat}(ty:TypeId) (pos:String) (after:Array Edge) (guard:Option (Nat × Bool)) (Q:Exit->Act->World->Prop) (hP:PanAt dv N B w0 M0 M E Y Q):
  (⟨dst,op,ty,pos,after,guard⟩:Oper).wpIn (FW ro) n P a w (Next dv N B w0 M0 M E gs k) Q:=by
 have hnd:∀ c,op≠.defer c:=by rintro c rfl;simp[zkf,zY,evNew,ur,zl5,zho] at h
 refine zid hnd ?_;have hok:∀ s b,(fun (_:Nat) (_:Bool)=>false) s b=true->a.tmps.getD s undef=.bool b:=by intro s b h;simp at h
 unfold zkf at h;split at h
 ·-- pick
  rename_i s x y;split at h
  ·split at h<;>try exact h.elim
   rename_i t hc;have h1:=zC hR hG hok hc;simp only[Rep] at h1;have hrun:(execOp a.eval ⟨dst,.pick (.tmp s) x y,ty,pos,after,guard⟩).run P w=.ok (.value (if t then a.eval x else a.eval y)) w:=by
    simp only[execOp,h1];simp[asBool]
   rw[hrun];cases t with
   | true =>
    have h2:=h.1 rfl;split at h2<;>try exact h2.elim
    rename_i d hd;exact zU h2 hR (za _) (zc _) hW (zC hR hG hok hd) (za _) (zc _)
   | false =>
    have h2:=h.2 rfl;split at h2<;>try exact h2.elim
    rename_i d hd;exact zU h2 hR (za _) (zc _) hW (zC hR hG hok hd) (za _) (zc _)
  ·split at h<;>try exact h.elim
   rename_i c xa yb hc hx hy;split at h<;>try exact h.elim
   rename_i d hd;unfold pickD at hd;split at hd
   ·rename_i t px py;simp at hd;subst hd;have h1:=zC hR hG hok hc;simp only[Rep] at h1;have hrun:∃ u,(execOp a.eval ⟨dst,.pick (.tmp s) x y,ty,pos,after,guard⟩).run P w=.ok (.value u) w/\u=.bool (cond t px py):=by
     refine ⟨_,by simp only[execOp,h1];simp[asBool];rfl,?_⟩
     cases t with
     | true =>
      have hx':=zC hR hG (ok:=fun s' b'=>s'==s&&b') (fun s' b' hb=>by
       simp at hb;obtain ⟨rfl,rfl⟩:=hb;simpa[Act.eval] using h1) hx
      simp only[Rep] at hx';simp[hx']
     | false =>
      have hy':=zC hR hG (ok:=fun s' b'=>s'==s && !b') (fun s' b' hb=>by
       simp at hb;obtain ⟨rfl,rfl⟩:=hb;simpa[Act.eval] using h1) hy
      simp only[Rep] at hy';simp[hy']
    obtain ⟨u,hr,rfl⟩:=hrun;rw[hr];exact zU h hR (za _) (zc _) hW (zk _) (za _) (zc _)
   ·simp at hd
 ·-- a call
  rename_i f args ats;split at h<;>try exact h.elim
  rename_i ds hds;have hds':=vX (ρ:=a.eval) (M:=M) (E:=E) (fun x d hx=>zC hR hG hok hx) hds;have hup:=za3 hΓ h hW hR hG hY (us:=args.map a.eval) (by simpa using hds') (ro:=ro) (n:=n) (o:=⟨dst,.call ⟨.value (.func f),args,ats⟩,ty,pos,after,guard⟩) rfl Q hP;have hcall:(execOp a.eval ⟨dst,.call ⟨.value (.func f),args,ats⟩,ty,pos,after,guard⟩).run P w=(callFunc f (args.map a.eval)).run P w:=by
   show (callFunc f (#[]++args.map a.eval ++ #[])).run P w=_;simp
  rw[hcall];exact hup
 ·-- a call of a function's value
  rename_i y args ats;split at h<;>try exact h.elim
  ·rename_i f caps ds hy hds;have hds':=vX (ρ:=a.eval) (M:=M) (E:=E) (fun x d hx=>zC hR hG hok hx) hds;have hfv:=zC hR hG hok hy;simp only[Rep] at hfv;obtain ⟨cs,hfv,hcs⟩:=hfv;have hup:=za3 hΓ h hW hR hG hY (us:=args.map a.eval++cs) (by simpa using RepL.append hds' hcs) (ro:=ro) (n:=n) (o:=⟨dst,.call ⟨.value (.tmp y),args,ats⟩,ty,pos,after,guard⟩) rfl Q hP;have hcall:(execOp a.eval ⟨dst,.call ⟨.value (.tmp y),args,ats⟩,ty,pos,after,guard⟩).run P w=(callFunc f (args.map a.eval++cs)).run P w:=by
    simp only[execOp,resolve,hfv,Deferred.ofValue,Sem.run_bind,Sem.run_pure,Result.andThen_ok,invoke];simp
   rw[hcall];exact hup
  ·rename_i i ds hy hds;split at h<;>try exact h.elim
   rename_i t ht;have hds':=vX (ρ:=a.eval) (M:=M) (E:=E) (fun x d hx=>zC hR hG hok hx) hds;have hfv:=zC hR hG hok hy;simp only[Rep] at hfv;obtain ⟨l,hEl,hfv⟩:=hfv;obtain ⟨l',hE',hyl⟩:=hY i t ht;rw[hEl] at hE';simp at hE';subst hE';obtain ⟨f,tmps,as,bd,hr,hround⟩:=hyl _ _ _ h M0 M E w (args.map a.eval) (za _) (zc _) hW hG (by simpa using hds') (n - 1)
   have hcall:(execOp a.eval ⟨dst,.call ⟨.value (.tmp y),args,ats⟩,ty,pos,after,guard⟩).run P w=.ok (.round l f tmps as bd) w:=by
    simp only[execOp,resolve,hfv,Deferred.ofValue,Sem.run_bind,Sem.run_pure,Result.andThen_ok,invoke];simp;exact hr
   rw[hcall];refine ⟨fun hh=>by simp[FW,Fence.wide] at hh,?_⟩
   refine RoundIn.mono (F:=FW ro) hround ?_;rintro e w' ⟨d,u,M',E',ow',rfl,hk,hle,hEP,hW',hrep⟩
   exact zU hk hR hle hEP hW' hrep (za _) (zc _)
 ·-- a method's call
  rename_i y name args ats;split at h<;>try exact h.elim
  rename_i t d ds hy hds;split at h<;>try exact h.elim
  rename_i ti hti;split at h<;>try exact h.elim
  rename_i f hf;have hds':=vX (ρ:=a.eval) (M:=M) (E:=E) (fun x d hx=>zC hR hG hok hx) hds;have hfv:=zC hR hG hok hy;simp only[Rep] at hfv;obtain ⟨rv,hfv,hrv⟩:=hfv;have hup:=za3 hΓ h hW hR hG hY (us := #[rv]++args.map a.eval) (by
   have e0:(#[rv]++args.map a.eval).toList=rv::(args.map a.eval).toList:=by simp
   rw[e0];simp only[RepL];exact ⟨rv,_,rfl,hrv,by simpa using hds'⟩) (ro:=ro) (n:=n) (o:=⟨dst,.call ⟨.invoke y name,args,ats⟩,ty,pos,after,guard⟩) rfl Q hP
  have hm:=zlg (w:=w) (v:=rv) (hT _ _ hti) hf;have hcall:(execOp a.eval ⟨dst,.call ⟨.invoke y name,args,ats⟩,ty,pos,after,guard⟩).run P w=(callFunc f (#[rv]++args.map a.eval)).run P w:=by
   have e1:(execOp a.eval ⟨dst,.call ⟨.invoke y name,args,ats⟩,ty,pos,after,guard⟩).run P w=(callMethod (a.eval y) name ((#[a.eval y]++args.map a.eval).extract 1 (#[a.eval y]++args.map a.eval).size)).run P w:=by
    have h0:(#[a.eval y]++args.map a.eval)[0]?=some (a.eval y):=by
     rw[Array.getElem?_append_left (by simp)];rfl
    simp[execOp,resolve,invoke,h0]
   have e2:(#[a.eval y]++args.map a.eval).extract 1 (#[a.eval y]++args.map a.eval).size=args.map a.eval:=by
    apply Array.ext';simp;exact List.take_of_length_le (by simp)
   rw[e1,e2,hfv];simp only[callMethod,Sem.run_bind,run_program,Result.andThen_ok];rw[hm];rfl
  rw[hcall];exact hup
 ·-- append
  rename_i sx xx t t';split at h<;>try exact h.elim
  rename_i ds dx hds hdx;split at h<;>try exact h.elim
  rename_i vs i o hev;rw[vW] at h;have hs:=zC hR hG hok hds;have hx:Rep M E dx (a.eval xx):=by
   rw[uh,Option.map_eq_some_iff] at hdx;obtain ⟨d0,h1,rfl⟩:=hdx;exact xq hW (zC hR hG hok h1)
  obtain ⟨v',w',hr,hW'⟩:=zoh (ty:=ty) hT hev h.1 hW hs hx;have hrun:(execOp a.eval ⟨dst,.call ⟨.builtin .append,#[sx,xx],#[t,t']⟩,ty,pos,after,guard⟩).run P w=.ok (.value v') w':=by
   simp[execOp,resolve,invoke,builtin,hr]
  rw[hrun];exact zU h.2 hR (za _) (zu _ _) hW' (by simp only[Rep];rw[<- hW.len,List.getElem?_append_right (Nat.le_refl _)];simp) (za _) (zc _)
 ·-- a look-up
  rename_i t x ix ok;split at h<;>try exact h.elim
  rename_i kt vt mo i kd hTt hx hix;split at h<;>try exact h.elim
  rename_i ki vi kt' vt' sh f key hTk hTv ho hkv;split at h<;>try exact h.elim
  rename_i hc;obtain ⟨rfl,rfl,hsh,hks⟩:=hc;split at h<;>try exact h.elim
  rename_i z hz;obtain ⟨r,hr1,hr2⟩:=zlh (P:=P) (ok:=ok) hT hTt rfl hTk hTv ho hsh hks hz hkv hW (zC hR hG hok hx) (zC hR hG hok hix)
  have hrun:(execOp a.eval ⟨dst,.lookup t x ix ok,ty,pos,after,guard⟩).run P w=.ok (.value r) w:=by
   simp[execOp,hr1]
  rw[hrun];rcases hr2 with ⟨d,hd,hrep⟩|⟨hn,hrep⟩
  ·exact zU (h.1 d hd) hR (za _) (zc _) hW hrep (za _) (zc _)
  ·exact zU (h.2 hn) hR (za _) (zc _) hW hrep (za _) (zc _)
 ·-- a fall
  rename_i x;split at h<;>try exact h.elim
  rename_i t d hx;obtain ⟨hp,hpan⟩:=h;rw[uh,Option.map_eq_some_iff] at hx;obtain ⟨d0,h1,h2⟩:=hx;have hv:=xq hW (zC hR hG hok h1)
  rw[h2] at hv;have hv':=hv;simp only[Rep] at hv;obtain ⟨x1,hx1,_⟩:=hv;have hrun:(execOp a.eval ⟨dst,.panic x,ty,pos,after,guard⟩).run P w=.halt (.panic (.iface t x1)) w:=by
   have he:a.eval x=.iface t x1:=hx1;simp only[execOp,he];rfl
  rw[hrun];rw[hx1] at hv';exact hP _ _ _ M E a w _ hpan (za _) (zc _) hW hR.dropG (Rep.pd _ _ (by simpa[Sx.pd] using hp) hv')
 ·-- the others
  split at h
  ·rename_i vs d hev;rw[vW] at h;obtain ⟨u,hr,hrep⟩:=za4 (ρ:=a.eval) hT hev h.1 (fun x d hx=>by
    rw[uh,Option.map_eq_some_iff] at hx;obtain ⟨d0,h1,rfl⟩:=hx;exact xq hW (zC hR hG hok h1)) hW dst ty pos after guard
   rw[hr];exact zU h.2 hR (za _) (zc _) hW hrep (za _) (zc _)
  ·split at h
   ·rename_i d ow' hev;obtain ⟨u,w',M',hr,hle,hrep,hW'⟩:=zod (ρ:=a.eval) hT hev (fun x d hx=>by
     rw[uh,Option.map_eq_some_iff] at hx;obtain ⟨d0,h1,rfl⟩:=hx;exact xq hW (zC hR hG hok h1)) hW dst ty pos after guard
    rw[hr];exact zU h hR hle (zc _) hW' hrep (za _) (zc _)
   ·split at h
    ·rename_i vs d ow' hev;rw[vW] at h;obtain ⟨u,w',M',E',hr,hle,hrep,hW',hEE⟩:=zf7 (ρ:=a.eval) hT hev h.1 (fun x d hx=>by
      rw[uh,Option.map_eq_some_iff] at hx;obtain ⟨d0,h1,rfl⟩:=hx;exact xq hW (zC hR hG hok h1)) hW dst ty pos after guard
     rcases hr with hr|⟨hr,rfl⟩
     ·rw[hr];exact zU h.2 hR hle hEE hW' hrep (za _) (zc _)
     ·rw[hr];exact zU h.2 hR hle hEE hW' hrep (za _) (zc _)
    ·split at h
     ·rename_i n neg hev;obtain ⟨q,hq,hr⟩:=zle (ρ:=a.eval) hT hev (fun x d hx=>by
       rw[uh,Option.map_eq_some_iff] at hx;obtain ⟨d0,h1,rfl⟩:=hx;exact xq hW (zC hR hG hok h1)) hW dst ty pos after guard
      rw[hr];exact zU (h q hq) hR (za _) (zc _) hW (zk _) (za _) (zc _)
     ·exact h.elim
end
end Go.Sx
namespace Go.Sx
open Go Go.RowKit
variable {tm:List (Nat × D)}{Gl:Nat->Option D}{N:Nat}{gs:Gs}
section
variable {P:Program}{T:TT}{B:Nat}{w0 w w':World}{M0 M M':Mem}{E E':List Value}{ow:List Own}{dv:List Deferred}
theorem TRel.putG {a:Act}(h:TRel dv N M E tm gs a) (hM:M.le M') {t s:Nat}{b:Bool}{d:D}{u:Value}(hu:a.tmps.getD s undef=.bool b->Rep M' E d u) (ht:t<N) (hf:zg2 gs t=true) (hne:t≠s):
  TRel dv N M' E (zaf tm t .junk) ((t,s,b,d)::gs) (a.put (some t) u):=by
 refine ⟨by simp[Act.put,h.size],by simp[Act.put,h.defers],fun r x hs=>?_,fun r g c x hs hb=>?_⟩
 ·rw[zP h.size ht];rw[za1] at hs;split at hs
  ·simp at hs;subst hs;simp[Rep]
  ·rename_i hst;rw[if_neg (fun e=>hst e.symm)];exact Rep.mono hM (zc _) _ _ (h.tmps _ _ hs)
 ·simp only[lkG] at hs;split at hs
  ·rename_i hst;simp at hs;obtain ⟨rfl,rfl,rfl⟩:=hs;rw[zP h.size ht,if_neg (fun e=>hne e.symm)] at hb;rw[zP h.size ht,if_pos hst.symm];exact hu hb
  ·rename_i hst;obtain ⟨h1,h2⟩:=zdf hf hs;rw[zP h.size ht,if_neg h2] at hb;rw[zP h.size ht,if_neg h1];exact Rep.mono hM (zc _) _ _ (h.guarded _ _ _ _ hs hb)
theorem TRel.drop {a:Act}(h:TRel dv N M E tm gs a):TRel dv N M E tm [] a :=
 ⟨h.size,h.defers,h.tmps,fun _ _ _ _ hh=>by simp[lkG] at hh⟩
theorem zoc {Γ:Ctx}(hΓ:CtxOk P Gl Γ) (hT:TOk P T) {op:Op}{dst:Option Nat}{s j:Nat}{b:Bool}{k:List (Nat × D)->Gs->Prop}(h:exOpG Γ T Gl N op dst s b tm gs ow k)
  {ops:Array Oper}(hj:∃ oj,ops[j]?=some oj/\oj.dst=some s)
  {a:Act}(hW:WRel B w0 M0 M E ow w) (hR:TRel dv N M E tm gs a) (hG:GlOk M Gl) {ro:Option Nat}{n:Nat}(ty:TypeId) (pos:String) (after:Array Edge) (K:Act->World->Prop) (Q:Exit->Act->World->Prop)
  (hK:∀ a' w',(∃ M' tm' gs',M.le M'/\k tm' gs'/\WRel B w0 M0 M' E ow w'/\TRel dv N M' E tm' gs' a')->K a' w'):
  if Region.wanted ⟨dst,op,ty,pos,after,some (j,b)⟩ (yielded ops a.tmps) then (⟨dst,op,ty,pos,after,some (j,b)⟩:Oper).wpIn (FW ro) n P a w K Q
  else (∀ f,(⟨dst,op,ty,pos,after,some (j,b)⟩:Oper).about P w a.eval=some f->(FW ro).fn f)/\K (a.put dst undef) w:=by
 unfold exOpG at h;split at h
 ·rename_i t dst hgs htm;split at h<;>try exact h.elim
  split at h<;>try exact h.elim
  split at h<;>try exact h.elim
  rename_i hN hfree hne;have hsv:a.tmps.getD s undef=.bool t:=by simpa only[Rep] using hR.tmps _ _ htm
  have hsome:a.tmps[s]?=some (.bool t):=by
   rw[Array.getD_eq_getD_getElem?] at hsv;cases hs:a.tmps[s]? with
   | none=>rw[hs] at hsv;simp[undef] at hsv
   | some x=>rw[hs] at hsv;simp at hsv;rw[hsv]
  obtain ⟨oj,hoj,hdj⟩:=hj;have hy:yielded ops a.tmps j=some t:=by simp[yielded,hoj,hdj,hsome]
  have hw:Region.wanted ⟨some dst,op,ty,pos,after,some (j,b)⟩ (yielded ops a.tmps)=(t==b):=by
   simp[Region.wanted,hy]
  rw[hw];have hok:t=b->∀ s' b',(s'==s&&b'==b)=true->a.tmps.getD s' undef=.bool b':=by
   rintro rfl s' b' hb;simp at hb;obtain ⟨rfl,rfl⟩:=hb;exact hsv
  by_cases htb:t=b
  ·simp only[htb,beq_self_eq_true,if_true];have hnd:∀ c,op≠.defer c:=by rintro c rfl;simp[zY] at h
   refine zid hnd ?_;split at h
   ·rename_i f args ats;split at h
    ·rename_i ct ds hf hds;have hS:Sound P Gl f ct:=hΓ _ _ hf;obtain ⟨x,hent,hpre,hk⟩:=h;have hcall:(execOp a.eval ⟨some dst,.call ⟨.value (.func f),args,ats⟩,ty,pos,after,some (j,b)⟩).run P w=.ok (.enter f (args.map a.eval)) w:=by
      have:=yj (w:=w) (args := #[]++args.map a.eval ++ #[]) hS.1;show (callFunc f (#[]++args.map a.eval ++ #[])).run P w=_;rw[this];simp
     rw[hcall];have hds':=vX (ρ:=a.eval) (M:=M) (E:=E) (fun x d hx=>zC hR hG (hok htb) hx) hds;have hin:=RepL.pd _ _ (hS.2.1 x) (hent _ _ _ (xX hW _ _ hds')) (E':=[])
     refine ⟨fun hh=>by simp[FW,Fence.wide] at hh,?_⟩
     refine CallsIn.mono (F:=FW ro) (hS.2.2 x (hpre htb) M w (args.map a.eval) hW.fits hG (by simpa using hin) (n - 1)) ?_;rintro e w' ⟨M',u,rfl,hle,hnew,hfit,hrep,hb⟩
     exact hK _ _ ⟨M',_,_,hle,hk,hW.call hle hnew hfit hb,hR.putG hle (fun _=>Rep.mono (za _) (EnvLe.nil _) _ _ hrep) hN hfree hne⟩
    ·exact h.elim
   ·split at h
    ·rename_i vs d hev;rw[yZ] at h;obtain ⟨u,hr,hrep⟩:=za4 (ρ:=a.eval) hT hev (h.1 htb) (fun x d hx=>by
      rw[uh,Option.map_eq_some_iff] at hx;obtain ⟨d0,h1,rfl⟩:=hx;exact xq hW (zC hR hG (hok htb) h1)) hW (some dst) ty pos after (some (j,b))
     rw[hr];exact hK _ _ ⟨M,_,_,za _,h.2,hW,hR.putG (za _) (fun _=>hrep) hN hfree hne⟩
    ·exact h.elim
  ·have:(t==b)=false:=by simpa using htb
   simp only[this,Bool.false_eq_true,if_false];refine ⟨fun _ _=>trivial,?_⟩
   have hno:∀ d,a.tmps.getD s undef=.bool b->Rep M E d undef:=by
    intro d hb;rw[hsv] at hb;simp at hb;exact absurd hb htb
   split at h
   ·split at h
    ·obtain ⟨x,_,_,hk⟩:=h;exact hK _ _ ⟨M,_,_,za _,hk,hW,hR.putG (za _) (hno _) hN hfree hne⟩
    ·exact h.elim
   ·split at h
    ·rename_i vs d hev;rw[yZ] at h;exact hK _ _ ⟨M,_,_,za _,h.2,hW,hR.putG (za _) (hno _) hN hfree hne⟩
    ·exact h.elim
 ·exact h.elim
theorem bne_not {x b:Bool}(h:¬x=b):x = !b:=by cases x<;>cases b<;>simp_all
theorem uq {cc:Bool}{Γ:Ctx}{Y:Ys}{Gl:Nat->Option D}(hΓ:CtxOk P Gl Γ) (hT:TOk P T) {N:Nat}{ops:Array Oper}{ro:Option Nat}{n:Nat}{Q:Exit->Act->World->Prop}:∀ (r tl:List Oper) (i:Nat) {tm:List (Nat × D)}{gs:Gs}{ow:List Own}{k:List (Nat × D)->List Own->Prop}{M:Mem}{E:List Value}{a:Act}{w:World},
  ops.toList.drop i=r++tl->yV cc Γ Y T Gl N ops.toList r tm gs ow k->WRel B w0 M0 M E ow w->TRel dv N M E tm gs a->GlOk M Gl->YOk P Gl B w0 M E Y->PanAt dv N B w0 M0 M E Y Q ->
  (∀ a' w',Next dv N B w0 M0 M E [] k a' w'->Q .normal a' w')->wpOpsIn (FW ro) n P ops Q (List.range' i r.length) a w
 | [],tl,i,tm,gs,ow,k,M,E,a,w,hr,h,hW,hR,hG,hY,hP,hQ=>by
  simp only[yV] at h;simp only[List.length_nil,List.range'_zero,wpOpsIn];exact hQ _ _ ⟨M,E,tm,ow,za _,zc _,h,hW,hR.drop⟩
 | ⟨dst,op,ty,pos,after,guard⟩::r,tl,i,tm,gs,ow,k,M,E,a,w,hr,h,hW,hR,hG,hY,hP,hQ=>by
  have hget:ops[i]?=some ⟨dst,op,ty,pos,after,guard⟩:=by
   have:(ops.toList.drop i)[0]?=some ⟨dst,op,ty,pos,after,guard⟩:=by rw[hr];rfl
   simpa using this
  have hdrop:ops.toList.drop (i+1)=r++tl:=by
   have:=congrArg List.tail hr;simpa using this
  rw[List.length_cons,List.range'_succ,wpOpsIn_cons];unfold wpOpIn;simp only[hget];have next:∀ {k':List (Nat × D)->List Own->Prop}{a':Act}{w':World},(∀ tm' ow',k' tm' ow'->yV cc Γ Y T Gl N ops.toList r tm' gs ow' k)->Next dv N B w0 M0 M E gs k' a' w'->wpOpsIn (FW ro) n P ops Q (List.range' (i+1) r.length) a' w':=by
   rintro k' a' w' hk' ⟨M',E',tm',ow',hle,hEP,hk,hW',hR'⟩
   exact uq hΓ hT r tl (i+1) hdrop (hk' _ _ hk) hW' hR' (hG.mono hle) (hY.mono hle hEP) (hP.mono hle hEP) (fun a'' w'' ⟨M2,E2,t2,o2,q1,q2,q3,q4,q5⟩=>hQ _ _ ⟨M2,E2,t2,o2,zp hle q1,hEP.trans q2,q3,q4,q5⟩)
  cases guard with
  | none =>
   simp only[yV] at h;have hw:Region.wanted ⟨dst,op,ty,pos,after,none⟩ (yielded ops a.tmps)=true:=rfl;simp only[hw,if_true];exact Oper.wpIn_mono (fun a' w' hn=>next (fun _ _ h=>h) hn) (zdh hΓ hT h hW hR hG hY ty pos after none Q hP)
  | some g =>
   obtain ⟨j,b⟩:=g;simp only[yV] at h;split at h<;>try exact h.elim
   rename_i s op' ty' pos' after' guard' hj;have hj':ops[j]?=some ⟨some s,op',ty',pos',after',guard'⟩:=by simpa using hj
   split at h
   ·-- all is told
    have skip:∀ (v:Value),a.tmps.getD s undef=v->v≠.bool b->zen N dst gs (.v undef) tm (fun tm'=>yV true Γ Y T Gl N ops.toList r tm' gs ow k) ->
      if Region.wanted ⟨dst,op,ty,pos,after,some (j,b)⟩ (yielded ops a.tmps) then (⟨dst,op,ty,pos,after,some (j,b)⟩:Oper).wpIn (FW ro) n P a w (wpOpsIn (FW ro) n P ops Q (List.range' (i+1) r.length)) Q
      else (∀ f,(⟨dst,op,ty,pos,after,some (j,b)⟩:Oper).about P w a.eval=some f->(FW ro).fn f)/\wpOpsIn (FW ro) n P ops Q (List.range' (i+1) r.length) (a.put dst undef) w:=by
     intro v hv hne hp;have hnw:Region.wanted ⟨dst,op,ty,pos,after,some (j,b)⟩ (yielded ops a.tmps)=false:=by
      have hy:yielded ops a.tmps j≠some b:=by
       intro hy;simp only[yielded,hj',Option.bind_some] at hy;cases hs:a.tmps[s]? with
       | none=>simp[hs] at hy
       | some x =>
        rw[Array.getD_eq_getD_getElem?,hs] at hv;simp at hv;subst hv;simp only[hs] at hy;cases x<;>simp at hy;subst hy;exact hne rfl
      simpa[Region.wanted] using hy
     rw[hnw];simp only[Bool.false_eq_true,if_false];refine ⟨fun _ _=>trivial,?_⟩
     exact next (k':=fun tm' ow'=>yV true Γ Y T Gl N ops.toList r tm' gs ow' k) (fun _ _ h=>h) (zU hp hR (za _) (zc _) hW (zk _) (za _) (zc _))
    split at h<;>try exact h.elim
    ·rename_i x hgs htm;have hsv:a.tmps.getD s undef=.bool x:=by simpa only[Rep] using hR.tmps _ _ htm
     by_cases hxb:x=b
     ·have hsome:a.tmps[s]?=some (.bool x):=by
       rw[Array.getD_eq_getD_getElem?] at hsv;cases hs:a.tmps[s]? with
       | none=>rw[hs] at hsv;simp[undef] at hsv
       | some x=>rw[hs] at hsv;simp at hsv;rw[hsv]
      have hw:Region.wanted ⟨dst,op,ty,pos,after,some (j,b)⟩ (yielded ops a.tmps)=true:=by
       simp[Region.wanted,yielded,hj',hsome,hxb]
      rw[hw];simp only[if_true];exact Oper.wpIn_mono (fun a' w' hn=>next (fun _ _ h=>h) hn) (zdh hΓ hT (h.1 hxb) hW hR hG hY ty pos after (some (j,b)) Q hP)
     ·exact skip _ hsv (fun e=>hxb (by simpa using e)) (h.2 (bne_not hxb))
    ·rename_i vs hgs htm;have hsv:a.tmps.getD s undef=.tuple vs:=by simpa only[Rep] using hR.tmps _ _ htm
     exact skip _ hsv (by simp) h
   ·refine zoc hΓ hT h (ops:=ops) ⟨_,hj',rfl⟩ hW hR hG ty pos after _ Q ?_;rintro a' w' ⟨M',tm',gs',hle,hk,hW',hR'⟩
    exact uq hΓ hT r tl (i+1) hdrop hk hW' hR' (hG.mono hle) (hY.mono hle (zc _)) (hP.mono hle (zc _)) (fun a'' w'' ⟨M2,E2,t2,o2,q1,q2,q3,q4,q5⟩=>hQ _ _ ⟨M2,E2,t2,o2,zp hle q1,q2,q3,q4,q5⟩)
theorem vZ {cc:Bool}{Γ:Ctx}{Y:Ys}(hΓ:CtxOk P Gl Γ) (hT:TOk P T) {ops:Array Oper}{ro:Option Nat}{n:Nat}{Q:Exit->Act->World->Prop}:∀ (r:List Oper) (i:Nat) {tm:List (Nat × D)}{gs:Gs}{ow:List Own}{k:List (Nat × D)->List Own->Prop}{M:Mem}{E:List Value}{a:Act}{w:World},
  ops.toList.drop i=r->yV cc Γ Y T Gl N ops.toList r tm gs ow k->WRel B w0 M0 M E ow w->TRel dv N M E tm gs a->GlOk M Gl->YOk P Gl B w0 M E Y->PanAt dv N B w0 M0 M E Y Q ->
  (∀ a' w',Next dv N B w0 M0 M E [] k a' w'->Q .normal a' w')->wpOpsIn (FW ro) n P ops Q (List.range' i r.length) a w:=fun r i _ _ _ _ _ _ _ _ hr=>uq hΓ hT r [] i (by rw[hr,List.append_nil])
theorem zbu {F:Fence}{n:Nat}{ops:Array Oper}{Q:Exit->Act->World->Prop}{l2:List Nat}:∀ (l1:List Nat) (a:Act) (w:World),
  wpOpsIn F n P ops (fun e a w=>match e with | .normal=>wpOpsIn F n P ops Q l2 a w|e=>Q e a w) l1 a w->wpOpsIn F n P ops Q (l1++l2) a w
 | [],a,w,h=>h
 | i::r,a,w,h=>by
  have ih:=zbu (F:=F) (n:=n) (ops:=ops) (Q:=Q) (l2:=l2) r;simp only[List.cons_append,wpOpsIn] at h ⊢;cases ho:ops[i]? with
  | none=>simp only[ho] at h ⊢;exact ih _ _ h
  | some o =>
   simp only[ho] at h ⊢;split at h
   ·rename_i hw;rw[if_pos hw];refine ⟨h.1,?_⟩
    have h2:=(Oper.wpIn_mono (fun a w hh=>ih a w hh) h).2
    revert h2
    generalize (o.semAt F.round a.eval).run P w=res;intro h2;cases res with
    | ok nx w'=>cases nx<;>exact h2
    | halt hh w'=>cases hh<;>exact h2
   ·rename_i hw;rw[if_neg hw];exact ⟨h.1,ih _ _ h.2⟩
theorem least (p:Nat->Prop) (h:∃ m,p m):∃ m,p m/\∀ k,p k->m<=k:=by
 obtain ⟨m,hm⟩:=h
 induction m using Nat.strongRecOn with
 | _ m ih =>
  by_cases hh:∃ k,k<m/\p k
  ·obtain ⟨k,hk,hp⟩:=hh;exact ih k hk hp
  ·refine ⟨m,hm,fun k hk=>?_⟩
   rcases Nat.lt_or_ge k m with hlt|hge
   ·exact absurd ⟨k,hlt,hk⟩ hh
   ·exact hge
end
end Go.Sx
namespace Go.Sx
open Go Go.RowKit
variable {tm:List (Nat × D)}{ok:Nat->Bool->Bool}{op:Op}
theorem zhu {g g':zib}:∀ {l:List Operand},(∀ x∈l,g x=g' x)->zgt g l=zgt g' l
 | [],_=>rfl
 | x::l,h=>by simp only[zgt,h x (by simp),zhu (l:=l) (fun y hy=>h y (by simp[hy]))]
theorem vv {g g':zib}:∀ {l:List (Nat × Operand)},(∀ p∈l,g p.2=g' p.2)->yG g l=yG g' l
 | [],_=>rfl
 | (i,x)::l,h=>by simp only[yG,h (i,x) (by simp),vv (l:=l) (fun y hy=>h y (by simp[hy]))]
theorem zhv {g g':zib}:∀ {o:Option Operand},(∀ x∈o.toList,g x=g' x)->getO g o=getO g' o
 | none,_=>rfl
 | some x,h=>by simp only[getO,h x (by simp)]
theorem zl4 {T:TT}{g g':zib}{ow:List Own}(h:∀ x∈op.operands.toList,g x=g' x):zY T op g ow=zY T op g' ow:=by
 cases op with
 | move x=>simp only[zY,h x (by simp[Op.operands])]
 | assign x=>simp only[zY,h x (by simp[Op.operands])]
 | build t ps =>
  have:yG g ps.toList=yG g' ps.toList:=vv fun p hp=>h p.2 (by
   simp only[Op.operands,List.toList_toArray,List.mem_map];exact ⟨p,hp,rfl⟩)
  simp only[zY,this]
 | load t a=>simp only[zY,h a (by simp[Op.operands])]
 | nilCheck x=>simp only[zY,h x (by simp[Op.operands])]
 | binOp b t x y t2=>simp only[zY,h x (by simp[Op.operands]),h y (by simp[Op.operands])]
 | unOp u t x=>simp only[zY,h x (by simp[Op.operands])]
 | fieldAddr t x k=>simp only[zY,h x (by simp[Op.operands])]
 | field t x k=>simp only[zY,h x (by simp[Op.operands])]
 | indexAddr t x i=>simp only[zY,h x (by simp[Op.operands]),h i (by simp[Op.operands])]
 | index t x i=>simp only[zY,h x (by simp[Op.operands]),h i (by simp[Op.operands])]
 | extract x i=>simp only[zY,h x (by simp[Op.operands])]
 | typeAssert x t a c=>cases c<;>simp only[zY,h x (by simp[Op.operands])]
 | convert a b x=>simp only[zY,h x (by simp[Op.operands])]
 | slice t x lo hi mx =>
  have h1:getO g lo=getO g' lo:=zhv fun y hy=>h y (by simp[Op.operands] at hy ⊢;simp[hy])
  have h2:getO g hi=getO g' hi:=zhv fun y hy=>h y (by simp[Op.operands] at hy ⊢;simp[hy])
  cases mx<;>simp only[zY,h x (by simp[Op.operands]),h1,h2]
 | makeInterface t x=>simp only[zY,h x (by simp[Op.operands])]
 | makeFunc fn first caps =>
  have h1:zgt g caps.toList=zgt g' caps.toList:=zhu fun y hy=>h y (by simp[Op.operands] at hy ⊢;simp[hy])
  unfold zY;split<;>simp_all
 | call c =>
  obtain ⟨callee,args,ats⟩:=c;unfold zY;split<;>try (first|rfl|contradiction)
  all_goals (rename_i heq;simp only[Op.call.injEq,Call.mk.injEq] at heq;obtain ⟨rfl,rfl,_⟩:=heq;simp_all[Op.operands,Call.operands])
 | _=>rfl
theorem zl6 {T:TT}{g g':zib}{ow:List Own}(h:∀ x∈op.operands.toList,g x=g' x):ur T op g ow=ur T op g' ow:=by
 cases op with
 | call c =>
  obtain ⟨callee,args,ats⟩:=c;unfold ur;split<;>try (first|rfl|contradiction)
  all_goals (rename_i heq;simp only[Op.call.injEq,Call.mk.injEq] at heq;obtain ⟨rfl,rfl,_⟩:=heq;simp_all[Op.operands,Call.operands])
 | buildSlice t n ps =>
  have:yG g ps.toList=yG g' ps.toList:=vv fun p hp=>h p.2 (by
   simp only[Op.operands,List.toList_toArray,List.mem_map];exact ⟨p,hp,rfl⟩)
  simp only[ur,this]
 | _=>rfl
section
variable {P:Program}{T:TT}{B:Nat}{w0 w w':World}{M0 M M':Mem}{E E':List Value}{ow:List Own}{Γ:Ctx}{Gl:Nat->Option D}{cc:Bool}
theorem exQ_ex {c:Prop}{gs:Gs}{k:D->Prop}(h:exQ cc Γ T Gl op ok c tm gs ow k):∃ d,exQ cc Γ T Gl op ok c tm gs ow (· = d)/\k d:=by
 unfold exQ at h ⊢;split at h
 ·split at h
  ·split at h<;>try exact h.elim
   rename_i x hx;cases x with
   | true =>
    have h1:=h.1 rfl;split at h1<;>try exact h1.elim
    rename_i d hd;exact ⟨d,⟨fun _=>rfl,fun e=>by simp at e⟩,h1⟩
   | false =>
    have h1:=h.2 rfl;split at h1<;>try exact h1.elim
    rename_i d hd;exact ⟨d,⟨fun e=>by simp at e,fun _=>rfl⟩,h1⟩
  ·split at h
   ·split at h
    ·rename_i d hd;exact ⟨d,by simp,h⟩
    ·exact h.elim
   ·exact h.elim
 ·split at h
  ·rename_i ct ds hf hds;obtain ⟨x,h1,h2,h3⟩:=h;exact ⟨_,⟨x,h1,h2,rfl⟩,h3⟩
  ·exact h.elim
 ·split at h
  ·rename_i vs d hev;rw[yZ] at h;exact ⟨d,by rw[yZ];exact ⟨h.1,rfl⟩,h.2⟩
  ·split at h
   ·rename_i d hev;exact ⟨d,rfl,h⟩
   ·exact h.elim
theorem vI (hΓ:CtxOk P Gl Γ) (hT:TOk P T) {c:Prop}{gs:Gs}{d:D}(h:exQ cc Γ T Gl op ok c tm gs ow (· = d)) (hc:c)
  {a:Act}(hW:WRel B w0 M0 M E ow w) (hG:GlOk M Gl) (hok:∀ s b,ok s b=true->a.tmps.getD s undef=.bool b)
  (hops:∀ x∈op.operands.toList,∀ ok' d',(∀ s b,ok' s b=true->a.tmps.getD s undef=.bool b)->xO Gl ok' tm gs x=some d'->Rep M E d' (a.eval x))
  {ro:Option Nat}{n:Nat}(dst:Option Tmp) (ty:TypeId) (pos:String) (after:Array Edge) (guard:Option (Nat × Bool)) (Q:Exit->Act->World->Prop):
  (⟨dst,op,ty,pos,after,guard⟩:Oper).wpIn (FW ro) n P a w (fun a' w'=>∃ M' u,a'=a.put dst u/\M.le M'/\WRel B w0 M0 M' E ow w'/\Rep M' E d u) Q:=by
 have hnd:∀ c,op≠.defer c:=by rintro c rfl;simp[exQ,zY,ur] at h
 refine zid hnd ?_;have hres:∀ x∈op.operands.toList,∀ d',um Gl ok tm gs ow x=some d'->Rep M E d' (a.eval x):=by
  intro x hx d' hd';rw[uh,Option.map_eq_some_iff] at hd';obtain ⟨d0,h1,rfl⟩:=hd';exact xq hW (hops x hx ok d0 hok h1)
 unfold exQ at h;split at h
 ·rename_i s x y;split at h
  ·split at h<;>try exact h.elim
   rename_i t hcx;have h1:=hops (.tmp s) (by simp[Op.operands]) ok _ hok hcx;simp only[Rep] at h1;have hrun:(execOp a.eval ⟨dst,.pick (.tmp s) x y,ty,pos,after,guard⟩).run P w=.ok (.value (if t then a.eval x else a.eval y)) w:=by
    simp only[execOp,h1];simp[asBool]
   rw[hrun];cases t with
   | true =>
    have h2:=h.1 rfl;split at h2<;>try exact h2.elim
    rename_i d' hd;subst h2;exact ⟨M,_,rfl,za _,hW,hops x (by simp[Op.operands]) ok _ hok hd⟩
   | false =>
    have h2:=h.2 rfl;split at h2<;>try exact h2.elim
    rename_i d' hd;subst h2;exact ⟨M,_,rfl,za _,hW,hops y (by simp[Op.operands]) ok _ hok hd⟩
  split at h
  ·rename_i cx xa yb hcx hx hy;split at h
   ·rename_i d' hd;subst h;unfold pickD at hd;split at hd
    ·rename_i t px py;simp at hd;subst hd;have h1:=hops (.tmp s) (by simp[Op.operands]) ok _ hok hcx;simp only[Rep] at h1;have hts:a.tmps.getD s undef=.bool t:=h1;have hrun:∃ u,(execOp a.eval ⟨dst,.pick (.tmp s) x y,ty,pos,after,guard⟩).run P w=.ok (.value u) w/\u=.bool (cond t px py):=by
      refine ⟨_,by simp only[execOp,h1];simp[asBool];rfl,?_⟩
      cases t with
      | true =>
       have hx':=hops x (by simp[Op.operands]) _ _ (fun s' b' hb=>by
        simp at hb;rcases hb with hb|⟨rfl,rfl⟩
        ·exact hok _ _ hb
        ·exact hts) hx
       simp only[Rep] at hx';simp[hx']
      | false =>
       have hy':=hops y (by simp[Op.operands]) _ _ (fun s' b' hb=>by
        simp at hb;rcases hb with hb|⟨rfl,rfl⟩
        ·exact hok _ _ hb
        ·exact hts) hy
       simp only[Rep] at hy';simp[hy']
     obtain ⟨u,hr,rfl⟩:=hrun;rw[hr];exact ⟨M,_,rfl,za _,hW,zk _⟩
    ·simp at hd
   ·exact h.elim
  ·exact h.elim
 ·rename_i f args ats;split at h
  ·rename_i ct ds hf hds;have hS:Sound P Gl f ct:=hΓ _ _ hf;obtain ⟨x,hent,hpre,rfl⟩:=h;have hcall:(execOp a.eval ⟨dst,.call ⟨.value (.func f),args,ats⟩,ty,pos,after,guard⟩).run P w=.ok (.enter f (args.map a.eval)) w:=by
    have:=yj (w:=w) (args := #[]++args.map a.eval ++ #[]) hS.1;show (callFunc f (#[]++args.map a.eval ++ #[])).run P w=_;rw[this];simp
   rw[hcall];have hds':RepL M E ds (args.toList.map a.eval):=by
    have hall:∀ (l:List Operand) (ds:List D),(∀ x∈l,x∈args.toList)->zgt (fun x=>xO Gl ok tm gs x) l=some ds->RepL M E ds (l.map a.eval):=by
     intro l
     induction l with
     | nil=>intro ds _ hh;simp[zgt] at hh;subst hh;exact RepL.nil
     | cons y l ih =>
      intro ds hmem hh;simp only[zgt] at hh;split at hh
      ·rename_i d1 ds1 h1 h2;simp at hh;subst hh;refine RepL.cons (hops y ?_ ok d1 hok h1) (ih _ (fun z hz=>hmem z (by simp[hz])) h2)
       have:=hmem y (by simp)
       simp only[Op.operands,Call.operands];simp at this ⊢;exact .inr this
      ·simp at hh
    exact hall _ _ (fun _ hx=>hx) hds
   have hin:=RepL.pd _ _ (hS.2.1 x) (hent _ _ _ (xX hW _ _ hds')) (E':=[])
   refine ⟨fun hh=>by simp[FW,Fence.wide] at hh,?_⟩
   refine CallsIn.mono (F:=FW ro) (hS.2.2 x (hpre hc) M w (args.map a.eval) hW.fits hG (by simpa using hin) (n - 1)) ?_;rintro e w' ⟨M',u,rfl,hle,hnew,hfit,hrep,hb⟩
   exact ⟨M',u,rfl,hle,hW.call hle hnew hfit hb,Rep.mono (za _) (EnvLe.nil _) _ _ hrep⟩
  ·exact h.elim
 ·let g':zib:=fun x=>open Classical in if x∈op.operands.toList then um Gl ok tm gs ow x else none;have hg':∀ x∈op.operands.toList,um Gl ok tm gs ow x=g' x:=fun x hx=>by simp only[g',if_pos hx]
  have hg2:∀ x d',g' x=some d'->Rep M E d' (a.eval x):=by
   intro x d' hx;simp only[g'] at hx;split at hx
   ·rename_i hm;exact hres x hm d' hx
   ·simp at hx
  split at h
  ·rename_i vs d' hev;rw[yZ] at h;obtain ⟨h1,rfl⟩:=h;rw[zl4 hg'] at hev;obtain ⟨u,hr,hrep⟩:=za4 (ρ:=a.eval) hT hev (h1 hc) hg2 hW dst ty pos after guard;rw[hr];exact ⟨M,u,rfl,za _,hW,hrep⟩
  ·split at h
   ·rename_i d' hev;subst h;rw[zl6 hg'] at hev;obtain ⟨u,w',M',hr,hle,hrep,hW'⟩:=zdy (ρ:=a.eval) hT hev hg2 hW dst ty pos after guard;rw[hr];exact ⟨M',u,rfl,hle,hW',hrep⟩
   ·exact h.elim
end
theorem maskOf_bit {acc:List Nat}{o:Oper}{i:Nat}(h:(maskOf acc o).testBit i=true):∃ d∈zb4 o,i=d\/(acc.getD d 0).testBit i=true:=by
 have:∀ (l:List Nat) (m:Nat),(l.foldl (fun m d=>m ||| 2 ^ d ||| acc.getD d 0) m).testBit i=true->m.testBit i=true\/∃ d∈l,i=d\/(acc.getD d 0).testBit i=true:=by
  intro l
  induction l with
  | nil=>intro m hm;exact .inl hm
  | cons d l ih =>
   intro m hm;simp only[List.foldl_cons] at hm;rcases ih _ hm with h1|⟨d',hd',h1⟩
   ·simp only[Nat.testBit_or,Bool.or_eq_true] at h1;rcases h1 with (h1|h1)|h1
    ·exact .inl h1
    ·rw[Nat.testBit_two_pow] at h1;have h2:d=i:=by simpa using h1
     exact .inr ⟨d,by simp,.inl h2.symm⟩
    ·exact .inr ⟨d,by simp,.inr h1⟩
   ·exact .inr ⟨d',by simp[hd'],h1⟩
 rcases this _ _ h with h1|h1
 ·simp at h1
 ·exact h1
def vc (ops:List Oper) (S:Nat->Prop):Prop:=∀ j o,ops[j]?=some o->S j->∀ d∈zb4 o,S d
theorem zhp {ops:List Oper}{S:Nat->Prop}(hS:vc ops S):∀ (r:List Oper) (acc:List Nat),ops.drop acc.length=r->(∀ (j i:Nat) (o:Oper),j<acc.length->ops[j]?=some o->(acc.getD j 0).testBit i=true->(∀ d∈zb4 o,S d)->S i) ->
  ∀ (j i:Nat) (o:Oper),ops[j]?=some o->((xJ r acc).getD j 0).testBit i=true->(∀ d∈zb4 o,S d)->S i
 | [],acc,hr,hacc,j,i,o,hj,hb,hd=>by
  simp only[xJ] at hb;rcases Nat.lt_or_ge j acc.length with h|h
  ·exact hacc j i o h hj hb hd
  ·rw[List.getD_eq_getElem?_getD,List.getElem?_eq_none h] at hb;simp at hb
 | o'::r,acc,hr,hacc,j,i,o,hj,hb,hd=>by
  simp only[xJ] at hb;have hget:ops[acc.length]?=some o':=by
   have:(ops.drop acc.length)[0]?=some o':=by rw[hr];rfl
   simpa using this
  refine zhp hS r (acc++[maskOf acc o']) ?_ ?_ j i o hj hb hd
  ·have:=congrArg List.tail hr;simpa using this
  ·intro j i o hlt hj hb hd;simp at hlt;rcases Nat.lt_or_ge j acc.length with h|h
   ·rw[List.getD_eq_getElem?_getD,List.getElem?_append_left h,<- List.getD_eq_getElem?_getD] at hb;exact hacc j i o h hj hb hd
   ·have:j=acc.length:=by omega
    subst this;rw[hget] at hj;simp at hj;subst hj;rw[List.getD_eq_getElem?_getD,List.getElem?_append_right (Nat.le_refl _)] at hb;simp at hb;obtain ⟨d,hdm,h1|h1⟩:=maskOf_bit hb
    ·subst h1;exact hd _ hdm
    ·have hSd:=hd d hdm;rcases Nat.lt_or_ge d acc.length with h2|h2
     ·have hod:ops[d]?=some (ops[d]'(by
       have:=zE hget;omega)):=List.getElem?_eq_getElem _
      exact hacc d i _ h2 hod h1 (hS d _ hod hSd)
     ·rw[List.getD_eq_getElem?_getD,List.getElem?_eq_none h2] at h1;simp at h1
theorem yk {ops:List Oper}{S:Nat->Prop}(hS:vc ops S) {j i:Nat}{o:Oper}(hj:ops[j]?=some o) (hb:((xJ ops []).getD j 0).testBit i=true) (hd:∀ d∈zb4 o,S d):S i :=
 zhp hS ops [] (by simp) (fun j i o h=>by simp at h) j i o hj hb hd
end Go.Sx
namespace Go.Sx
open Go Go.RowKit
variable {listed:Array Bool}{l:Array Bool}{i:Nat}{p:Nat}
def unl:Nat->(Nat->Bool)->Nat
 | 0,_=>0
 | n+1,f=>unl n f+if f n then 0 else 1
theorem zif {f f':Nat->Bool}{i:Nat}(hi:f i=false) (hi':f' i=true) (ho:∀ j,j≠i->f' j=f j):∀ n,i<n->unl n f'+1=unl n f
 | 0,h=>by omega
 | n+1,h=>by
  simp only[unl];by_cases hn:n=i
  ·subst hn;have:unl n f'=unl n f:=by
    have:∀ m,m<=n->unl m f'=unl m f:=by
     intro m
     induction m with
     | zero=>intro _;rfl
     | succ m ih=>intro hm;simp only[unl,ih (by omega),ho m (by omega)]
    exact this n (Nat.le_refl _)
   simp[this,hi,hi']
  ·have:=zif hi hi' ho n (by omega)
   rw[ho n hn];omega
theorem zie {f:Nat->Bool}:∀ n,unl n f=0->∀ i,i<n->f i=true
 | 0,_,i,h=>by omega
 | n+1,h,i,hi=>by
  simp only[unl] at h;by_cases hn:i=n
  ·subst hn;cases hf:f i with
   | true=>rfl
   | false=>rw[hf] at h;simp at h
  ·exact zie n (by omega) i (by omega)
def LS (listed:Array Bool):Nat->Prop:=fun j=>listed.getD j false=true
theorem zi7 {o:Oper}{d:Nat}:d∈zb4 o↔∃ e∈o.after,Region.binds .any e=true/\e.on=d:=by
 simp only[zb4,List.mem_filterMap];constructor
 ·rintro ⟨e,he,h⟩
  split at h
  ·rename_i hb;simp at h;exact ⟨e,by simpa using he,hb,h⟩
  ·simp at h
 ·rintro ⟨e,he,hb,rfl⟩
  exact ⟨e,by simpa using he,by simp[hb]⟩
theorem zny (h:i<l.size):l.getD i true=l.getD i false:=by
 simp[Array.getD_eq_getD_getElem?,h]
theorem yF (h:i<l.size) (j:Nat):LS (l.setIfInBounds i true) j↔j=i\/LS l j:=by
 unfold LS;by_cases hj:j=i
 ·subst hj;simp[Array.getD_eq_getD_getElem?,h]
 ·rw[getD_set_ne false (fun e=>hj e.symm)];simp[hj]
section
variable {P:Program}{ops:Array Oper}{Q:Exit->Act->World->Prop}{ro:Option Nat}{n:Nat}
theorem yT (hsz:listed.size=ops.size):i∈Region.ready .any ops listed↔∃ o,ops[i]?=some o/\¬LS listed i/\∀ d∈zb4 o,LS listed d:=by
 rw[mem_ready];constructor
 ·rintro ⟨h0,o,ho,h1⟩
  have hi:i<listed.size:=by rw[hsz];exact (Array.getElem?_eq_some_iff.1 ho).1
  refine ⟨o,ho,?_,fun d hd=>?_⟩
  ·unfold LS;rw[<- zny hi,h0];simp
  ·obtain ⟨e,he,hb,rfl⟩:=zi7.1 hd;exact h1 e he hb
 ·rintro ⟨o,ho,h0,h1⟩
  have hi:i<listed.size:=by rw[hsz];exact (Array.getElem?_eq_some_iff.1 ho).1
  refine ⟨by rw[zny hi];unfold LS at h0;simpa using h0,o,ho,fun e he hb=>h1 _ (zi7.2 ⟨e,he,hb,rfl⟩)⟩
theorem zbk (hsz:listed.size=ops.size) (hcl:vc ops.toList (LS listed)) {o:Oper}(ho:ops[i]?=some o) (hd:∀ d∈zb4 o,LS listed d):vc ops.toList (LS (listed.setIfInBounds i true)):=by
 have hi:i<listed.size:=by rw[hsz];exact (Array.getElem?_eq_some_iff.1 ho).1
 intro j q hj hS d hdq;rw[yF hi] at hS ⊢;rcases hS with rfl|hS
 ·have hj':ops[j]?=some q:=by simpa using hj
  rw[ho] at hj';simp at hj';subst hj';exact .inr (hd d hdq)
 ·exact .inr (hcl j q hj hS d hdq)
theorem ze5 (hback:∀ (i:Nat) (o:Oper),ops[i]?=some o->∀ d∈zb4 o,d<i) (htail:∀ q,p<=q->q<ops.size->∀ i,p<=i->i<q->((xJ ops.toList []).getD q 0).testBit i=true):
  ∀ (fuel q:Nat) (listed:Array Bool) (a:Act) (w:World),listed.size=ops.size->p<=q->q<=ops.size->(∀ i,LS listed i↔i<q)->ops.size - q<=fuel->wpOpsIn (FW ro) n P ops Q (List.range' q (ops.size - q)) a w ->
   wpAnyIn (FW ro) n P .any ops Q fuel listed a w:=by
 intro fuel
 induction fuel with
 | zero =>
  intro q listed a w hsz hpq hq hl hf h;have hqe:q=ops.size:=by omega
  subst hqe;simp[wpOpsIn] at h;refine ⟨?_,h⟩
  rw[List.eq_nil_iff_forall_not_mem];intro i hi;obtain ⟨o,ho,h0,_⟩:=(yT hsz).1 hi;exact h0 ((hl i).2 (Array.getElem?_eq_some_iff.1 ho).1)
 | succ fuel ih =>
  intro q listed a w hsz hpq hq hl hf h;have hcl:vc ops.toList (LS listed):=by
   intro j o hj hS d hd;have:=hback j o (by simpa using hj) d hd;have:=(hl j).1 hS;exact (hl d).2 (by omega)
  have hready:∀ i,i∈Region.ready .any ops listed->i=q:=by
   intro i hi;obtain ⟨o,ho,h0,hd⟩:=(yT hsz).1 hi;have hi':=(Array.getElem?_eq_some_iff.1 ho).1;rw[hl] at h0;rcases Nat.lt_or_ge q i with hlt|hge
   ·have hb:=htail i (by omega) hi' q hpq hlt;have:=yk hcl (by simpa using ho) hb hd;rw[hl] at this;omega
   ·omega
  rcases Nat.lt_or_ge q ops.size with hlt|hge
  ·have hoq:ops[q]?=some ops[q]:=by simp[hlt]
   have hqr:q∈Region.ready .any ops listed:=(yT hsz).2 ⟨_,hoq,by rw[hl];omega,fun d hd=>(hl d).2 (hback q _ hoq d hd)⟩
   refine ⟨fun he=>by rw[he] at hqr;simp at hqr,fun i hi=>?_⟩
   obtain rfl:=hready i hi;rw[show ops.size - i=(ops.size - (i+1))+1 by omega,List.range'_succ,wpOpsIn_cons] at h;refine wpOpIn_mono (fun a' w' h'=>?_) h;refine ih (i+1) _ a' w' (by simp[hsz]) (by omega) (by omega) (fun j=>?_) (by omega) h';rw[yF (by omega),hl];omega
  ·have hqe:q=ops.size:=by omega
   subst hqe;simp[wpOpsIn] at h;refine ⟨fun _=>h,fun i hi=>?_⟩
   have:=hready i hi;obtain ⟨o,ho,_⟩:=(yT hsz).1 hi;have:=(Array.getElem?_eq_some_iff.1 ho).1;omega
theorem zh8 (hback:∀ (i:Nat) (o:Oper),ops[i]?=some o->∀ d∈zb4 o,d<i) (hp:p<=ops.size) {F:Nat->Prop}(hFp:∀ i,F i->i<p) (htail:∀ q,p<=q->q<ops.size->∀ i,i<q->F i\/((xJ ops.toList []).getD q 0).testBit i=true)
  {Good:(Nat->Prop)->Act->World->Prop}
  (hstep:∀ (listed:Array Bool) (a:Act) (w:World) (i:Nat) (o:Oper),listed.size=ops.size->vc ops.toList (LS listed)->i<p->ops[i]?=some o->¬LS listed i->(∀ d∈zb4 o,LS listed d)->(∀ q,LS listed q->q<p)->Good (LS listed) a w ->
   wpOpIn (FW ro) n P ops Q i (Good (LS (listed.setIfInBounds i true))) a w)
  (hdone:∀ (listed:Array Bool) (a:Act) (w:World),(∀ i,LS listed i↔i<p)->Good (LS listed) a w->wpOpsIn (FW ro) n P ops Q (List.range' p (ops.size - p)) a w):
  ∀ (fuel:Nat) (listed:Array Bool) (a:Act) (w:World),listed.size=ops.size->vc ops.toList (LS listed)->(∀ q,LS listed q->q<p)->(∀ i,F i->LS listed i)->unl ops.size (fun j=>listed.getD j false)<=fuel->Good (LS listed) a w->wpAnyIn (FW ro) n P .any ops Q fuel listed a w:=by
 have htail':∀ q,p<=q->q<ops.size->∀ i,p<=i->i<q->((xJ ops.toList []).getD q 0).testBit i=true:=fun q h1 h2 i h3 h4=>(htail q h1 h2 i h4).resolve_left fun hf=>by have:=hFp i hf;omega
 have full:∀ (listed:Array Bool),listed.size=ops.size->vc ops.toList (LS listed)->(∀ q,LS listed q->q<p)->(∀ i,i<p->LS listed i)->∀ i,LS listed i↔i<p:=fun listed _ _ h1 h2 i=>⟨h1 i,h2 i⟩
 intro fuel
 induction fuel with
 | zero =>
  intro listed a w hsz hcl hq hFl hf hg;have hall:=zie ops.size (Nat.le_zero.1 hf)
  have hpe:p=ops.size:=by
   rcases Nat.lt_or_ge p ops.size with h|h
   ·have:=hq p (hall p h);omega
   ·omega
  exact ze5 hback htail' 0 p listed a w hsz (Nat.le_refl _) hp (full listed hsz hcl hq (fun i hi=>hall i (by omega))) (by omega) (hdone listed a w (full listed hsz hcl hq (fun i hi=>hall i (by omega))) hg)
 | succ fuel ih =>
  intro listed a w hsz hcl hq hFl hf hg;by_cases hpre:∀ i,i<p->LS listed i
  ·refine ze5 hback htail' (fuel+1) p listed a w hsz (Nat.le_refl _) hp (full listed hsz hcl hq hpre) ?_ (hdone listed a w (full listed hsz hcl hq hpre) hg)
   have:∀ m,p<=m->unl m (fun j=>listed.getD j false)=m - p:=by
    intro m
    induction m with
    | zero=>intro h;simp[unl]
    | succ m ihm =>
     intro h;simp only[unl];rcases Nat.lt_or_ge m p with h1|h1
     ·have hmp:p=m+1:=by omega
      have:∀ k,k<=p->unl k (fun j=>listed.getD j false)=0:=by
       intro k
       induction k with
       | zero=>intro _;rfl
       | succ k ihk =>
        intro hk;have:=hpre k (by omega)
        unfold LS at this;simp only[unl,ihk (by omega),this];rfl
      have h2:=this (m+1) (by omega)
      simp only[unl] at h2;omega
     ·rw[ihm h1];have hm:¬LS listed m:=fun hh=>by have:=hq m hh;omega
      unfold LS at hm;simp only[Bool.not_eq_true] at hm;simp only[hm];simp;omega
   rw[this ops.size hp] at hf;exact hf
  ·have hex:∃ i,i<p/\¬LS listed i:=by
    by_cases hh:∃ i,i<p/\¬LS listed i
    ·exact hh
    ·exact absurd (fun i hi=>by
      by_cases hl:LS listed i
      ·exact hl
      ·exact absurd ⟨i,hi,hl⟩ hh) hpre
   have hready:∀ i,i∈Region.ready .any ops listed->i<p:=by
    intro i hi;obtain ⟨o,ho,h0,hd⟩:=(yT hsz).1 hi;have hi':=(Array.getElem?_eq_some_iff.1 ho).1;rcases Nat.lt_or_ge i p with hlt|hge
    ·exact hlt
    ·obtain ⟨j,hj,hnj⟩:=hex;exact (htail i hge hi' j (by omega)).elim (fun hf=>absurd (hFl j hf) hnj) (fun hb=>absurd (yk hcl (by simpa using ho) hb hd) hnj)
   have hne:Region.ready .any ops listed≠[]:=by
    obtain ⟨m,⟨hm1,hm2⟩,hmin⟩:=least (fun i=>i<p/\¬LS listed i) hex;have hom:ops[m]?=some (ops[m]'(by omega)):=by simp[show m<ops.size by omega]
    have:m∈Region.ready .any ops listed:=(yT hsz).2 ⟨_,hom,hm2,fun d hd=>by
     have hlt:=hback m _ hom d hd;by_cases hl:LS listed d
     ·exact hl
     ·have:=hmin d ⟨by omega,hl⟩;omega⟩
    intro he;rw[he] at this;simp at this
   refine ⟨fun he=>absurd he hne,fun i hi=>?_⟩
   obtain ⟨o,ho,h0,hd⟩:=(yT hsz).1 hi;have hip:=hready i hi;have hi':=(Array.getElem?_eq_some_iff.1 ho).1;refine wpOpIn_mono (fun a' w' h'=>?_) (hstep listed a w i o hsz hcl hip ho h0 hd hq hg)
   refine ih _ a' w' (by simp[hsz]) (zbk hsz hcl ho hd) (fun q hqq=>?_) ?_ ?_ h'
   ·rw[yF (by omega)] at hqq;rcases hqq with rfl|hqq
    ·exact hip
    ·exact hq q hqq
   ·exact fun j hj=>(yF (by omega) j).2 (.inr (hFl j hj))
   ·have h1:(fun j=>listed.getD j false) i=false:=by unfold LS at h0;simpa using h0
    have h2:(fun j=>(listed.setIfInBounds i true).getD j false) i=true:=by
     have:=(yF (l:=listed) (i:=i) (by omega) i).2 (.inl rfl)
     exact this
    have:=zif (f:=fun j=>listed.getD j false) (f':=fun j=>(listed.setIfInBounds i true).getD j false) h1 h2 (fun j hj=>getD_set_ne false (fun e=>hj e.symm)) ops.size hi';omega
theorem zmt (hback:∀ (i:Nat) (o:Oper),ops[i]?=some o->∀ d∈zb4 o,d<i) (hp:p<=ops.size) (htail:∀ q,p<=q->q<ops.size->∀ i,i<q->((xJ ops.toList []).getD q 0).testBit i=true)
  {Good:(Nat->Prop)->Act->World->Prop}
  (hstep:∀ (listed:Array Bool) (a:Act) (w:World) (i:Nat) (o:Oper),listed.size=ops.size->vc ops.toList (LS listed)->i<p->ops[i]?=some o->¬LS listed i->(∀ d∈zb4 o,LS listed d)->(∀ q,LS listed q->q<p)->Good (LS listed) a w ->
   wpOpIn (FW ro) n P ops Q i (Good (LS (listed.setIfInBounds i true))) a w)
  (hdone:∀ (listed:Array Bool) (a:Act) (w:World),(∀ i,LS listed i↔i<p)->Good (LS listed) a w->wpOpsIn (FW ro) n P ops Q (List.range' p (ops.size - p)) a w):
  ∀ (fuel:Nat) (listed:Array Bool) (a:Act) (w:World),listed.size=ops.size->vc ops.toList (LS listed)->(∀ q,LS listed q->q<p)->unl ops.size (fun j=>listed.getD j false)<=fuel->Good (LS listed) a w->wpAnyIn (FW ro) n P .any ops Q fuel listed a w :=
 zh8 hback hp (F:=fun _=>False) (fun _ h=>h.elim) (fun q h1 h2 i h3=>.inr (htail q h1 h2 i h3)) hstep hdone |> fun h fuel listed a w h1 h2 h3 h4 h5=>h fuel listed a w h1 h2 h3 (fun _ h=>h.elim) h4 h5
end
end Go.Sx
namespace Go.Sx
open Go Go.RowKit
variable {tm:List (Nat × D)}{Q:Exit->Act->World->Prop}{all:List Oper}{ops:Array Oper}{ro:Option Nat}{N:Nat}{o:Oper}{gs:Gs}
inductive En where
 | pl (t:Nat) (d:D)
 | gd (t s:Nat) (b:Bool) (d:D)
 | kt (t s:Nat) (b:Bool) (d:D)
 | sk (t s:Nat) (b:Bool) (v:Value)
def En.slot:En->Nat
 | .pl t _=>t
 | .gd t _ _ _=>t
 | .kt t _ _ _=>t
 | .sk t _ _ _=>t
def En.val:En->Option D
 | .pl _ d=>some d
 | .gd _ _ _ _=>none
 | .kt _ _ _ d=>some d
 | .sk _ _ _ _=>some (.v undef)
def pushT (tm:List (Nat × D)) (e:En):List (Nat × D):=zaf tm e.slot (e.val.getD .junk)
def pushG (gs:Gs):En->Gs
 | .gd t s b d=>(t,s,b,d)::gs
 | _=>gs
def stT (tm:List (Nat × D)) (es:List En):List (Nat × D):=es.foldl pushT tm
def stG (gs:Gs) (es:List En):Gs:=es.foldl pushG gs
def QOne (cc:Bool) (Γ:Ctx) (T:TT) (Gl:Nat->Option D) (N:Nat) (all:List Oper) (o:Oper) (tm:List (Nat × D)) (gs:Gs) (ow:List Own):En->Prop
 | .pl t d=>o.dst=some t/\t<N/\o.guard=none/\exQ cc Γ T Gl o.op (fun _ _=>false) True tm gs ow (· = d)
 | .gd t s b d=>o.dst=some t/\t<N/\(∃ j q,o.guard=some (j,b)/\all[j]?=some q/\q.dst=some s)/\t≠s/\lkG gs s=none/\∃ x,lk tm s=some (.v (.bool x))/\exQ false Γ T Gl o.op (fun s' b'=>s'==s&&b'==b) (x=b) tm gs ow (· = d)
 | .kt t s b d=>o.dst=some t/\t<N/\(∃ j q,o.guard=some (j,b)/\all[j]?=some q/\q.dst=some s)/\t≠s/\lk tm s=some (.v (.bool b))/\exQ true Γ T Gl o.op (fun _ _=>false) True tm gs ow (· = d)
 | .sk t s b v=>o.dst=some t/\t<N/\(∃ j q,o.guard=some (j,b)/\all[j]?=some q/\q.dst=some s)/\t≠s/\lk tm s=some (.v v)/\v≠.bool b
theorem QOne.dst {cc:Bool}{Γ:Ctx}{T:TT}{Gl:Nat->Option D}{ow:List Own}{e:En}(h:QOne cc Γ T Gl N all o tm gs ow e):o.dst=some e.slot:=by
 cases e<;>exact h.1
theorem QOne.lt {cc:Bool}{Γ:Ctx}{T:TT}{Gl:Nat->Option D}{ow:List Own}{e:En}(h:QOne cc Γ T Gl N all o tm gs ow e):e.slot<N:=by
 cases e<;>exact h.2.1
theorem xe {cc:Bool}{Γ:Ctx}{T:TT}{Gl:Nat->Option D}{N:Nat}{all:List Oper}{ow:List Own}:∀ (r:List Oper) (p:Nat) {tm:List (Nat × D)}{gs:Gs}{k:List (Nat × D)->Gs->Prop},xu cc Γ T Gl N all r p tm gs ow k->p<=r.length ->
  ∃ es:List En,es.length=p/\(∀ (i:Nat) (o:Oper) (e:En),r[i]?=some o->es[i]?=some e->QOne cc Γ T Gl N all o (stT tm (es.take i)) (stG gs (es.take i)) ow e)/\k (stT tm es) (stG gs es)
 | _,0,tm,gs,k,h,_=>by
  simp only[xu] at h;exact ⟨[],rfl,fun i o e _ he=>by simp at he,h⟩
 | [],p+1,tm,gs,k,h,hp=>by simp at hp
 | ⟨none,op,ty,pos,after,g⟩::r,p+1,tm,gs,k,h,hp=>by
  cases g<;>simp[xu] at h
 | ⟨some t,op,ty,pos,after,none⟩::r,p+1,tm,gs,k,h,hp=>by
  simp only[xu] at h;split at h<;>try exact h.elim
  rename_i hN;obtain ⟨d,hd,hk⟩:=exQ_ex h;obtain ⟨es,h1,h2,h3⟩:=xe r p hk (by simp at hp;exact hp)
  refine ⟨.pl t d::es,by simp[h1],fun i o e hi he=>?_,h3⟩
  cases i with
  | zero=>simp at hi he;subst hi;subst he;exact ⟨rfl,hN,rfl,hd⟩
  | succ i=>simp at hi he;exact h2 i o e hi he
 | ⟨some t,op,ty,pos,after,some (j,b)⟩::r,p+1,tm,gs,k,h,hp=>by
  simp only[xu] at h;split at h<;>try exact h.elim
  rename_i s op' ty' pos' after' g' hj;have skip:∀ (v:Value),v≠.bool b->t<N->t≠s->lk tm s=some (.v v)->xu cc Γ T Gl N all r p (zaf tm t (.v undef)) gs ow k ->
    ∃ es:List En,es.length=p+1/\(∀ (i:Nat) (o:Oper) (e:En),((⟨some t,op,ty,pos,after,some (j,b)⟩:Oper)::r)[i]?=some o->es[i]?=some e->QOne cc Γ T Gl N all o (stT tm (es.take i)) (stG gs (es.take i)) ow e)/\k (stT tm es) (stG gs es):=by
   intro v hv hN hts htm hk;obtain ⟨es,h1,h2,h3⟩:=xe r p hk (by simp at hp;exact hp)
   refine ⟨.sk t s b v::es,by simp[h1],fun i o e hi he=>?_,h3⟩
   cases i with
   | zero=>simp at hi he;subst hi;subst he;exact ⟨rfl,hN,⟨j,_,rfl,hj,rfl⟩,hts,htm,hv⟩
   | succ i=>simp at hi he;exact h2 i o e hi he
  split at h<;>try exact h.elim
  ·rename_i x hgs htm;split at h<;>try exact h.elim
   rename_i hN;split at h<;>try exact h.elim
   rename_i hts;split at h
   ·by_cases hxb:x=b
    ·subst hxb;obtain ⟨d,hd,hk⟩:=exQ_ex (h.1 rfl)
     obtain ⟨es,h1,h2,h3⟩:=xe r p hk (by simp at hp;exact hp)
     refine ⟨.kt t s x d::es,by simp[h1],fun i o e hi he=>?_,h3⟩
     cases i with
     | zero=>simp at hi he;subst hi;subst he;exact ⟨rfl,hN,⟨j,_,rfl,hj,rfl⟩,hts,htm,hd⟩
     | succ i=>simp at hi he;exact h2 i o e hi he
    ·exact skip (.bool x) (fun e=>hxb (by simpa using e)) hN hts htm (h.2 (bne_not hxb))
   ·obtain ⟨d,hd,hk⟩:=exQ_ex h;obtain ⟨es,h1,h2,h3⟩:=xe r p hk (by simp at hp;exact hp)
    refine ⟨.gd t s b d::es,by simp[h1],fun i o e hi he=>?_,h3⟩
    cases i with
    | zero=>simp at hi he;subst hi;subst he;exact ⟨rfl,hN,⟨j,_,rfl,hj,rfl⟩,hts,hgs,x,htm,hd⟩
    | succ i=>simp at hi he;exact h2 i o e hi he
  ·rename_i vs hgs htm;split at h<;>try exact h.elim
   rename_i hN;split at h<;>try exact h.elim
   rename_i hts;split at h<;>try exact h.elim
   exact skip (.tuple vs) (by simp) hN hts htm h
theorem snoc_ind {p:List En->Prop}(h0:p []) (h1:∀ l e,p l->p (l++[e])) (l:List En):p l:=by
 have:∀ l:List En,p l.reverse:=by
  intro l
  induction l with
  | nil=>exact h0
  | cons e l ih=>rw[List.reverse_cons];exact h1 _ _ ih
 have h:=this l.reverse
 rwa [List.reverse_reverse] at h
theorem zli:∀ (es:List En) (t:Nat) (d:D),lk (stT tm es) t=some d->(∃ (j:Nat) (e:En),es[j]?=some e/\e.slot=t/\e.val=some d)\/d=.junk\/(lk tm t=some d/\∀ (j:Nat) (e:En),es[j]?=some e->e.slot≠t):=by
 refine fun es=>snoc_ind (p:=fun es=>∀ (t:Nat) (d:D),lk (stT tm es) t=some d->(∃ (j:Nat) (e:En),es[j]?=some e/\e.slot=t/\e.val=some d)\/d=.junk\/(lk tm t=some d/\∀ (j:Nat) (e:En),es[j]?=some e->e.slot≠t)) ?_ ?_ es
 ·intro t d h;exact .inr (.inr ⟨h,fun j e he=>by simp at he⟩)
 ·intro es e ih t d h;simp only[stT,List.foldl_append,List.foldl_cons,List.foldl_nil,pushT,za1] at h;split at h
  ·rename_i hs;simp only[Option.some.injEq] at h;cases hv:e.val with
   | none=>rw[hv] at h;exact .inr (.inl h.symm)
   | some d' =>
    rw[hv] at h;simp at h;subst h;exact .inl ⟨es.length,e,by simp,hs,hv⟩
  ·rename_i hs;rcases ih t d h with ⟨j,e',h1,h2⟩|h1|⟨h1,h2⟩
   ·exact .inl ⟨j,e',by rw[List.getElem?_append_left (zE h1)];exact h1,h2⟩
   ·exact .inr (.inl h1)
   ·refine .inr (.inr ⟨h1,fun j e' he'=>?_⟩)
    rcases zl he' with h3|⟨_,rfl⟩
    ·exact h2 j e' h3
    ·exact hs
theorem zfr:∀ (es:List En) (t s:Nat) (b:Bool) (d:D),lkG (stG [] es) t=some (s,b,d)->∃ j:Nat,es[j]?=some (En.gd t s b d):=by
 refine fun es=>snoc_ind (p:=fun es=>∀ (t s:Nat) (b:Bool) (d:D),lkG (stG [] es) t=some (s,b,d)->∃ j:Nat,es[j]?=some (En.gd t s b d)) ?_ ?_ es
 ·intro t s b d h;simp[stG,lkG] at h
 ·intro es e ih t s b d h;simp only[stG,List.foldl_append,List.foldl_cons,List.foldl_nil] at h;have old:lkG (es.foldl pushG []) t=some (s,b,d)->∃ j:Nat,(es++[e])[j]?=some (En.gd t s b d):=by
   intro h';obtain ⟨j,hj⟩:=ih t s b d h';exact ⟨j,by rw[List.getElem?_append_left (zE hj)];exact hj⟩
  cases e with
  | gd t' s' b' d' =>
   simp only[pushG,lkG] at h;split at h
   ·rename_i ht;simp at h;obtain ⟨rfl,rfl,rfl⟩:=h;subst ht;exact ⟨es.length,by simp⟩
   ·exact old h
  | _=>exact old h
theorem zev {α:Type}{l:List α}{i j:Nat}{x:α}(h:(l.take i)[j]?=some x):j<i/\l[j]?=some x:=by
 rcases Nat.lt_or_ge j i with hj|hj
 ·rw[List.getElem?_take_of_lt hj] at h;exact ⟨hj,h⟩
 ·rw[List.getElem?_eq_none (by simp;omega)] at h;simp at h
def EOk (M:Mem) (E:List Value) (a:Act):En->Prop
 | .gd t s b d=>a.tmps.getD s undef=.bool b->Rep M E d (a.tmps.getD t undef)
 | e=>Rep M E (e.val.getD .junk) (a.tmps.getD e.slot undef)
theorem EOk.plain {M:Mem}{E:List Value}{a:Act}{e:En}{d:D}(h:EOk M E a e) (hv:e.val=some d):Rep M E d (a.tmps.getD e.slot undef):=by
 cases e<;>simp[En.val] at hv<;>subst hv<;>exact h
def zgr (dv:List Deferred) (N B:Nat) (w0:World) (M0 M:Mem) (E:List Value) (ow:List Own) (tm:List (Nat × D)) (es:List En) (S:Nat->Prop) (a:Act) (w:World):Prop :=
 ∃ M',M.le M'/\WRel B w0 M0 M' E ow w/\a.tmps.size=N/\a.defers=dv/\(∀ t d,lk tm t=some d->(∀ (i:Nat) (e:En),es[i]?=some e->S i->e.slot≠t)->Rep M' E d (a.tmps.getD t undef))/\∀ (i:Nat) (e:En),es[i]?=some e->S i->EOk M' E a e
section
variable {P:Program}{T:TT}{B:Nat}{w0 w w':World}{M0 M M':Mem}{E E':List Value}{ow:List Own}{Γ:Ctx}{Gl:Nat->Option D}{Y:Ys}{cc:Bool}{dv:List Deferred}
theorem EOk.mono {a:Act}{e:En}(h:EOk M E a e) (hM:M.le M'):EOk M' E a e:=by
 cases e with
 | gd t s b d=>exact fun hb=>Rep.mono hM (zc _) _ _ (h hb)
 | pl t d=>exact Rep.mono hM (zc _) _ _ (h:Rep M E _ _)
 | kt t s b d=>exact Rep.mono hM (zc _) _ _ (h:Rep M E _ _)
 | sk t s b v=>exact Rep.mono hM (zc _) _ _ (h:Rep M E _ _)
def QDst (N:Nat) (all:List Oper) (o:Oper) (e:En):Prop:=o.dst=some e.slot/\e.slot<N/\match e with
 | .gd _ s b _=>∃ j q,o.guard=some (j,b)/\all[j]?=some q/\q.dst=some s
 | _=>True
theorem QOne.q {cc:Bool}{Γ:Ctx}{T:TT}{Gl:Nat->Option D}{ow:List Own}{e:En}(h:QOne cc Γ T Gl N all o tm gs ow e):QDst N all o e:=by
 cases e with
 | gd t s b d=>exact ⟨h.1,h.2.1,h.2.2.1⟩
 | pl t d=>exact ⟨h.1,h.2.1,trivial⟩
 | kt t s b d=>exact ⟨h.1,h.2.1,trivial⟩
 | sk t s b v=>exact ⟨h.1,h.2.1,trivial⟩
theorem za5 (hΓ:CtxOk P Gl Γ) (hT:TOk P T) {p:Nat}{n:Nat}{es:List En}(hG:GlOk M Gl) (hel:es.length=p)
  (hent:∀ (i:Nat) (o:Oper),i<p->ops[i]?=some o->∃ e,es[i]?=some e/\QDst N ops.toList o e)
  (hopi:∀ i,i<p->∃ o,ops[i]?=some o)
  (hpair:∀ (i j:Nat) (x y:Oper),i<p->j<p->i≠j->ops[i]?=some x->ops[j]?=some y->x.dst≠y.dst/\(∀ t,y.dst=some t->t∈xl ops.toList x->((xJ ops.toList []).getD (max i j) 0).testBit (min i j)=true))
  (hguard:∀ (i:Nat) (x:Oper) (g:Nat) (b:Bool),i<p->ops[i]?=some x->x.guard=some (g,b)->g<i)
  (listed:Array Bool) (a:Act) (w:World) (i:Nat) (o:Oper) (hsz:listed.size=ops.size) (hcl:vc ops.toList (LS listed)) (hip:i<p) (ho:ops[i]?=some o) (h0:¬LS listed i) (hd:∀ d∈zb4 o,LS listed d) (hg:zgr dv N B w0 M0 M E ow tm es (LS listed) a w)
  {e:En}(he:es[i]?=some e) (hone:QOne cc Γ T Gl N ops.toList o (stT tm (es.take i)) (stG [] (es.take i)) ow e):
  wpOpIn (FW ro) n P ops Q i (zgr dv N B w0 M0 M E ow tm es (LS (listed.setIfInBounds i true))) a w:=by
 obtain ⟨M',hle,hW',hN,hdef,hinit,hents⟩:=hg;have hdst:=hone.dst
 -- what the operation looks at is as it is told
 have hlook:∀ t,t∈xl ops.toList o->(∀ (j:Nat) (e':En),j<i->es[j]?=some e'->e'.slot=t->LS listed j)/\((∀ (j:Nat) (e':En),j<i->es[j]?=some e'->e'.slot≠t)->∀ (j:Nat) (e':En),es[j]?=some e'->LS listed j->e'.slot≠t):=by
  intro t ht;refine ⟨fun j e' hj he' hst=>?_,fun hno j e' he' hS hst=>?_⟩
  ·have hjp:j<p:=by omega
   obtain ⟨oj,hoj⟩:=hopi j hjp;obtain ⟨ej,hej,hqj⟩:=hent j oj hjp hoj;rw[he'] at hej;simp at hej;subst hej;have hm:=(hpair i j o oj hip hjp (by omega) ho hoj).2 t (by rw[hqj.1,hst]) ht;rw[show max i j=i by omega,show min i j=j by omega] at hm;exact yk hcl (by simpa using ho) hm hd
  ·have hjp:j<p:=by have:=zE he';omega
   have hji:j≠i:=fun e=>by subst e;exact h0 hS
   rcases Nat.lt_or_ge j i with hlt|hge
   ·exact hno j e' hlt he' hst
   ·obtain ⟨oj,hoj⟩:=hopi j hjp;obtain ⟨ej,hej,hqj⟩:=hent j oj hjp hoj;rw[he'] at hej;simp at hej;subst hej;have hm:=(hpair i j o oj hip hjp (fun e=>hji e.symm) ho hoj).2 t (by rw[hqj.1,hst]) ht;rw[show max i j=j by omega,show min i j=i by omega] at hm;exact h0 (yk hcl (by simpa using hoj) hm (hcl j oj (by simpa using hoj) hS))
 have hlk:∀ t d,t∈xl ops.toList o->lk (stT tm (es.take i)) t=some d->Rep M' E d (a.tmps.getD t undef):=by
  intro t d ht hl;rcases zli _ _ _ hl with ⟨j,e',hj,hst,hv⟩|rfl|⟨h1,h2⟩
  ·obtain ⟨hji,hj'⟩:=zev hj;have:=(hents j _ hj' ((hlook t ht).1 j _ hji hj' hst)).plain hv;rw[hst] at this;exact this
  ·simp[Rep]
  ·refine hinit t d h1 ((hlook t ht).2 fun j e' hji he'=>h2 j e' ?_)
   rw[List.getElem?_take_of_lt hji];exact he'
 have hopsR:∀ x∈o.op.operands.toList,∀ ok' d',(∀ s b,ok' s b=true->a.tmps.getD s undef=.bool b)->xO Gl ok' (stT tm (es.take i)) (stG [] (es.take i)) x=some d'->Rep M' E d' (a.eval x):=by
  intro x hx ok' d' hokk hxd;cases x with
  | tmp t =>
   have ht:t∈xl ops.toList o:=by
    simp only[xl,List.mem_append];exact .inl (by simp only[tmpsOf,List.mem_filterMap];exact ⟨_,hx,rfl⟩)
   simp only[xO] at hxd;split at hxd
   ·rename_i s b d'' hs;split at hxd<;>try (simp at hxd;done)
    rename_i hk;simp at hxd;subst hxd;obtain ⟨j,hj⟩:=zfr _ _ _ _ _ hs;obtain ⟨hji,hj'⟩:=zev hj;exact hents j _ hj' ((hlook t ht).1 j _ hji hj' rfl) (hokk _ _ hk)
   ·exact hlk t _ ht hxd
  | const v=>simp only[xO] at hxd;simp at hxd;subst hxd;exact zk _
  | global g=>simp only[xO] at hxd;exact Rep.mono (za _) (EnvLe.nil _) _ _ ((hG.mono hle) _ _ hxd)
  | func f =>
   simp only[xO] at hxd;simp at hxd;subst hxd;simp only[Rep];exact ⟨#[],rfl,RepL.nil⟩
 have hiS:i<listed.size:=by rw[hsz];exact (Array.getElem?_eq_some_iff.1 ho).1
 -- behind the operation
 have behind:∀ (u:Value) (w2:World) (M2:Mem),M'.le M2->WRel B w0 M0 M2 E ow w2->EOk M2 E (a.put o.dst u) e->zgr dv N B w0 M0 M E ow tm es (LS (listed.setIfInBounds i true)) (a.put o.dst u) w2:=by
  intro u w2 M2 hle2 hW2 hE2;rw[hdst] at hE2 ⊢;have htN:e.slot<N:=hone.lt;refine ⟨M2,zp hle hle2,hW2,by simp[Act.put,hN],by simp[Act.put,hdef],fun t d ht hno=>?_,fun j e' he' hS=>?_⟩
  ·have hne:t≠e.slot:=fun hh=>hno i e he ((yF hiS i).2 (.inl rfl)) hh.symm;rw[zP hN htN,if_neg hne];exact Rep.mono hle2 (zc _) _ _ (hinit t d ht fun j e' he' hS=>hno j e' he' ((yF hiS j).2 (.inr hS)))
  ·rw[yF hiS] at hS;rcases hS with rfl|hS
   ·rw[he] at he';simp at he';subst he';exact hE2
   ·have hji:j≠i:=fun hh=>by subst hh;exact h0 hS
    have hjp:j<p:=by have:=zE he';omega
    obtain ⟨oj,hoj⟩:=hopi j hjp;obtain ⟨ej,hej,hqj⟩:=hent j oj hjp hoj;rw[he'] at hej;simp at hej;subst hej;have hsl:e'.slot≠e.slot:=by
     have:=(hpair j i oj o hjp hip hji hoj ho).1;rw[hqj.1,hdst] at this;intro hh;exact this (by rw[hh])
    have hold:=(hents j e' he' hS).mono hle2;cases e' with
    | pl t d =>
     have hsl':t≠e.slot:=hsl;have hold':Rep M2 E ((En.pl t d).val.getD .junk) (a.tmps.getD t undef):=hold;show Rep M2 E ((En.pl t d).val.getD .junk) ((a.put (some e.slot) u).tmps.getD t undef)
     rw[zP hN htN,if_neg hsl'];exact hold'
    | kt t s b d =>
     have hsl':t≠e.slot:=hsl;have hold':Rep M2 E ((En.kt t s b d).val.getD .junk) (a.tmps.getD t undef):=hold;show Rep M2 E ((En.kt t s b d).val.getD .junk) ((a.put (some e.slot) u).tmps.getD t undef)
     rw[zP hN htN,if_neg hsl'];exact hold'
    | sk t s b v =>
     have hsl':t≠e.slot:=hsl;have hold':Rep M2 E ((En.sk t s b v).val.getD .junk) (a.tmps.getD t undef):=hold;show Rep M2 E ((En.sk t s b v).val.getD .junk) ((a.put (some e.slot) u).tmps.getD t undef)
     rw[zP hN htN,if_neg hsl'];exact hold'
    | gd t s b d =>
     have hsl':t≠e.slot:=hsl;simp only[EOk] at hold ⊢;have hs:s≠e.slot:=by
      intro hh;obtain ⟨_,_,gj,gq,hgd,hgq,hgs⟩:=hqj;have hgj:=hguard j oj _ _ hjp hoj hgd;have hgq':ops[gj]?=some gq:=by simpa using hgq
      have hgi:gj=i:=by
       by_cases hq:gj=i
       ·exact hq
       ·have:=(hpair gj i gq o (by omega) hip hq hgq' ho).1;rw[hgs,hdst,hh] at this;exact absurd rfl this
      subst hgi;have hrd:e.slot∈xl ops.toList oj:=by
       simp only[xl,List.mem_append];right;rw[hgd];simp only[hgq,hgs];simp[hh]
      have hm:=(hpair j gj oj o hjp hip hji hoj ho).2 _ hdst hrd;rw[show max j gj=j by omega,show min j gj=gj by omega] at hm;exact h0 (yk hcl (by simpa using hoj) hm (hcl j oj (by simpa using hoj) hS))
     rw[zP hN htN,if_neg hs,zP hN htN,if_neg hsl'];exact hold
 unfold wpOpIn;simp only[ho];obtain ⟨dst,op,ty,pos,after,guard⟩:=o;cases e with
 | pl t d =>
  obtain ⟨_,htN,hgd,hq⟩:=hone;simp only at hgd hq hopsR;subst hgd;have hw:Region.wanted ⟨dst,op,ty,pos,after,none⟩ (yielded ops a.tmps)=true:=rfl;simp only[hw,if_true];refine Oper.wpIn_mono ?_ (vI hΓ hT hq trivial hW' (hG.mono hle) (fun s b hb=>by simp at hb) hopsR dst ty pos after none Q)
  rintro a' w2 ⟨M2,u,rfl,hle2,hW2,hrep⟩
  refine behind u w2 M2 hle2 hW2 ?_;simp only[EOk,En.slot,En.val,Option.getD_some];have hd':dst=some t:=hdst;rw[hd',zP hN htN,if_pos rfl];exact hrep
 | kt t s b d =>
  obtain ⟨_,htN,⟨j,q,hgd,hjq,hqs⟩,hts,htm,hq⟩:=hone;simp only at hgd hq hopsR;subst hgd;have hd':dst=some t:=hdst;have hrs:s∈xl ops.toList ⟨dst,op,ty,pos,after,some (j,b)⟩:=by
   simp only[xl,List.mem_append];right;simp only[hjq,hqs];simp
  have hsv:a.tmps.getD s undef=.bool b:=by simpa only[Rep] using hlk s _ hrs htm
  have hsome:a.tmps[s]?=some (.bool b):=by
   rw[Array.getD_eq_getD_getElem?] at hsv;cases hs:a.tmps[s]? with
   | none=>rw[hs] at hsv;simp[undef] at hsv
   | some y=>rw[hs] at hsv;simp at hsv;rw[hsv]
  have hw:Region.wanted ⟨dst,op,ty,pos,after,some (j,b)⟩ (yielded ops a.tmps)=true:=by
   have:ops[j]?=some q:=by simpa using hjq
   simp[Region.wanted,yielded,this,hqs,hsome]
  rw[hw];simp only[if_true];refine Oper.wpIn_mono ?_ (vI hΓ hT hq trivial hW' (hG.mono hle) (fun s b hb=>by simp at hb) hopsR dst ty pos after (some (j,b)) Q)
  rintro a' w2 ⟨M2,u,rfl,hle2,hW2,hrep⟩
  refine behind u w2 M2 hle2 hW2 ?_;simp only[EOk,En.slot,En.val,Option.getD_some];rw[hd',zP hN htN,if_pos rfl];exact hrep
 | sk t s b v =>
  obtain ⟨_,htN,⟨j,q,hgd,hjq,hqs⟩,hts,htm,hv⟩:=hone;simp only at hgd hopsR;subst hgd;have hd':dst=some t:=hdst;have hrs:s∈xl ops.toList ⟨dst,op,ty,pos,after,some (j,b)⟩:=by
   simp only[xl,List.mem_append];right;simp only[hjq,hqs];simp
  have hsv:a.tmps.getD s undef=v:=by simpa only[Rep] using hlk s _ hrs htm
  have hw:Region.wanted ⟨dst,op,ty,pos,after,some (j,b)⟩ (yielded ops a.tmps)=false:=by
   have hj':ops[j]?=some q:=by simpa using hjq
   have hy:yielded ops a.tmps j≠some b:=by
    intro hy;simp only[yielded,hj',Option.bind_some,hqs] at hy;cases hs:a.tmps[s]? with
    | none=>simp[hs] at hy
    | some x =>
     rw[Array.getD_eq_getD_getElem?,hs] at hsv;simp at hsv;subst hsv;simp only[hs] at hy;cases x<;>simp at hy;subst hy;exact hv rfl
   simpa[Region.wanted] using hy
  rw[hw];simp only[Bool.false_eq_true,if_false];refine ⟨fun _ _=>trivial,behind undef w M' (za _) hW' ?_⟩
  simp only[EOk,En.slot,En.val,Option.getD_some];rw[hd',zP hN htN,if_pos rfl];exact zk _
 | gd t s b d =>
  obtain ⟨_,htN,⟨j,q,hgd,hjq,hqs⟩,hts,hgs,x,htm,hq⟩:=hone;simp only at hgd hq hopsR;subst hgd;have hd':dst=some t:=hdst;have hrs:s∈xl ops.toList ⟨dst,op,ty,pos,after,some (j,b)⟩:=by
   simp only[xl,List.mem_append];right;simp only[hjq,hqs];simp
  have hsv:a.tmps.getD s undef=.bool x:=by simpa only[Rep] using hlk s _ hrs htm
  have hsome:a.tmps[s]?=some (.bool x):=by
   rw[Array.getD_eq_getD_getElem?] at hsv;cases hs:a.tmps[s]? with
   | none=>rw[hs] at hsv;simp[undef] at hsv
   | some y=>rw[hs] at hsv;simp at hsv;rw[hsv]
  have hy:yielded ops a.tmps j=some x:=by
   have:ops[j]?=some q:=by simpa using hjq
   simp[yielded,this,hqs,hsome]
  have hw:Region.wanted ⟨dst,op,ty,pos,after,some (j,b)⟩ (yielded ops a.tmps)=(x==b):=by simp[Region.wanted,hy]
  rw[hw];have hokk:x=b->∀ s' b',(s'==s&&b'==b)=true->a.tmps.getD s' undef=.bool b':=by
   rintro rfl s' b' hb;simp at hb;obtain ⟨rfl,rfl⟩:=hb;exact hsv
  by_cases hxb:x=b
  ·simp only[hxb,beq_self_eq_true,if_true];refine Oper.wpIn_mono ?_ (vI hΓ hT hq hxb hW' (hG.mono hle) (hokk hxb) hopsR dst ty pos after (some (j,b)) Q)
   rintro a' w2 ⟨M2,u,rfl,hle2,hW2,hrep⟩
   refine behind u w2 M2 hle2 hW2 ?_;simp only[EOk];intro _;rw[hd',zP hN htN,if_pos rfl];exact hrep
  ·have hf:(x==b)=false:=by simpa using hxb
   simp only[hf,Bool.false_eq_true,if_false];refine ⟨fun _ _=>trivial,behind undef w M' (za _) hW' ?_⟩
   simp only[EOk];intro hb;rw[hd',zP hN htN,if_neg (fun e=>hts e.symm),hsv] at hb;simp at hb;exact absurd hb hxb
theorem zl3 (hΓ:CtxOk P Gl Γ) (hT:TOk P T) (hmix:P.follows .mixedOrders=true) {p:Nat}(hpl:p<=ops.size) (hok:vD ops.toList p=true) {n:Nat}
  {tm:List (Nat × D)}{k:List (Nat × D)->List Own->Prop}{a:Act}{id:Nat}
  (h:xu cc Γ T Gl N ops.toList ops.toList p tm [] ow fun tm' gs'=>yV cc Γ Y T Gl N ops.toList (ops.toList.drop p) tm' gs' ow k) (hW:WRel B w0 M0 M E ow w) (hR:TRel dv N M E tm [] a) (hG:GlOk M Gl) (hY:YOk P Gl B w0 M E Y) (hP:PanAt dv N B w0 M0 M E Y Q)
  (hQ:∀ a' w',Next dv N B w0 M0 M E [] k a' w'->Q .normal a' w'):(Code.region id ops true).wpIn (FW ro) n P Q a w:=by
 simp only[vD,Bool.and_eq_true,List.all_eq_true,List.mem_range] at hok;obtain ⟨⟨⟨hk1,hk2⟩,hk4⟩,hk3⟩:=hok;have hback:∀ (i:Nat) (o:Oper),ops[i]?=some o->∀ d∈zb4 o,d<i:=by
  intro i o ho d hd;have hi:=(Array.getElem?_eq_some_iff.1 ho).1;have:=hk1 i (by simpa using hi)
  have ho':ops.toList[i]?=some o:=by simpa using ho
  rw[ho'] at this;simp only[List.all_eq_true,decide_eq_true_eq] at this;exact this d hd
 have htail:∀ q,p<=q->q<ops.size->∀ i,i<q->((xJ ops.toList []).getD q 0).testBit i=true:=by
  intro q hq1 hq2 i hi;have:=hk2 q (by simpa using hq2)
  simp only[Bool.or_eq_true,decide_eq_true_eq,List.all_eq_true,List.mem_range] at this;rcases this with h1|h1
  ·omega
  ·exact h1 i hi
 obtain ⟨es,hel,hq1,hkk⟩:=xe ops.toList p h (by simpa using hpl)
 have hent:∀ (i:Nat) (o:Oper),i<p->ops[i]?=some o->∃ e,es[i]?=some e/\QOne cc Γ T Gl N ops.toList o (stT tm (es.take i)) (stG [] (es.take i)) ow e:=by
  intro i o hi ho;have he:es[i]?=some (es[i]'(by omega)):=List.getElem?_eq_getElem _;exact ⟨_,he,hq1 i o _ (by simpa using ho) he⟩
 have hopi:∀ i,i<p->∃ o,ops[i]?=some o:=fun i hi=>⟨ops[i]'(by omega),by simp[show i<ops.size by omega]⟩
 -- two operations of the head
 have hpair:∀ (i j:Nat) (x y:Oper),i<p->j<p->i≠j->ops[i]?=some x->ops[j]?=some y->x.dst≠y.dst/\(∀ t,y.dst=some t->t∈xl ops.toList x->((xJ ops.toList []).getD (max i j) 0).testBit (min i j)=true):=by
  intro i j x y hi hj hij hx hy;have:=hk3 i hi j hj;have hx':ops.toList[i]?=some x:=by simpa using hx
  have hy':ops.toList[j]?=some y:=by simpa using hy
  rw[hx',hy'] at this;simp only[Bool.or_eq_true,beq_iff_eq,hij,false_or,Bool.and_eq_true,bne_iff_ne,ne_eq] at this;obtain ⟨h1,h2⟩:=this;refine ⟨h1,fun t ht hm=>?_⟩
  ·rw[ht] at h2;simp only[Bool.or_eq_true,Bool.not_eq_true',List.contains_eq_mem,decide_eq_false_iff_not] at h2;rcases h2 with h2|h2
   ·exact absurd hm h2
   ·exact h2
 have hguard:∀ (i:Nat) (x:Oper) (g:Nat) (b:Bool),i<p->ops[i]?=some x->x.guard=some (g,b)->g<i:=by
  intro i x g b hi hx hg;have:=hk4 i hi;have hx':ops.toList[i]?=some x:=by simpa using hx
  rw[hx'] at this;simp only[hg] at this;simpa using this
 refine wpIn_region_any hmix ?_;refine zmt hback hpl htail (Good:=zgr dv N B w0 M0 M E ow tm es) ?_ ?_ ops.size _ a _ (by simp) ?_ ?_ ?_ ?_
 ·-- a step
  intro listed a w i o hsz hcl hip ho h0 hd _ hg;obtain ⟨e,he,hone⟩:=hent i o hip ho;exact za5 hΓ hT hG hel (fun i o hi ho=>let ⟨e,h1,h2⟩:=hent i o hi ho;⟨e,h1,h2.q⟩) hopi hpair hguard listed a w i o hsz hcl hip ho h0 hd hg he hone
 ·-- the head is done
  intro listed a w hl ⟨M',hle,hW',hN,hdef,hinit,hents⟩
  have hall:∀ (i:Nat) (e:En),es[i]?=some e->LS listed i:=fun i e he=>(hl i).2 (by have:=zE he;omega)
  have huniq:∀ (i j:Nat) (e e':En),es[i]?=some e->es[j]?=some e'->e.slot=e'.slot->i=j:=by
   intro i j e e' he he' hs;by_cases hij:i=j
   ·exact hij
   ·have hi:i<p:=by have:=zE he;omega
    have hj:j<p:=by have:=zE he';omega
    obtain ⟨oi,hoi⟩:=hopi i hi;obtain ⟨oj,hoj⟩:=hopi j hj;obtain ⟨ei,hei,hqi⟩:=hent i oi hi hoi;obtain ⟨ej,hej,hqj⟩:=hent j oj hj hoj;rw[he] at hei;simp at hei;subst hei;rw[he'] at hej;simp at hej;subst hej;have:=(hpair i j oi oj hi hj hij hoi hoj).1;rw[hqi.dst,hqj.dst,hs] at this;exact absurd rfl this
  have hR':TRel dv N M' E (stT tm es) (stG [] es) a:=by
   refine ⟨hN,hdef,fun t d hd=>?_,fun t s b d hs hb=>?_⟩
   ·rcases zli _ _ _ hd with ⟨j,e',hj,hst,hv⟩|rfl|⟨h1,h2⟩
    ·have:=(hents j _ hj (hall j _ hj)).plain hv;rw[hst] at this;exact this
    ·simp[Rep]
    ·exact hinit t d h1 fun j e he _=>h2 j e he
   ·obtain ⟨j,hj⟩:=zfr _ _ _ _ _ hs;exact hents j _ hj (hall j _ hj) hb
  have:=vZ hΓ hT (ops.toList.drop p) p (ops:=ops) (ro:=ro) (n:=n) (Q:=Q) rfl hkk hW' hR' (hG.mono hle) (hY.mono hle (zc _)) (hP.mono hle (zc _)) (fun a' w' ⟨M2,E2,t2,o2,q1,q2,q3,q4,q5⟩=>hQ _ _ ⟨M2,E2,t2,o2,zp hle q1,q2,q3,q4,q5⟩)
  simpa using this
 ·intro j o hj hS;simp[LS,Array.getD_eq_getD_getElem?,Array.getElem?_replicate] at hS;split at hS<;>simp at hS
 ·intro q hS;simp[LS,Array.getD_eq_getD_getElem?,Array.getElem?_replicate] at hS;split at hS<;>simp at hS
 ·have:∀ m f,unl m f<=m:=by
   intro m f
   induction m with
   | zero=>simp[unl]
   | succ m ih=>simp only[unl];split<;>omega
  exact this _ _
 ·have hW2:WRel B w0 M0 M E ow { w with drawn:=w.drawn+1 }:=⟨hW.fits,hW.base,hW.below.trans ⟨rfl,rfl,rfl,Nat.le_refl _,fun _ _=>rfl⟩,hW.len,fun i o v ho hv=>(hW.holds i o v ho hv).frame (fun _ _ _=>rfl) (za _) (zc _) (fun b hf hb=>((hW.holds i o v ho hv).lt (Own.free_live hf) hb).2.2 hf),hW.inj,hW.mle,hW.new⟩
  refine ⟨M,za _,hW2,hR.size,hR.defers,fun t d ht _=>hR.tmps _ _ ht,fun i e he hS=>?_⟩
  simp[LS,Array.getD_eq_getD_getElem?,Array.getElem?_replicate] at hS;split at hS<;>simp at hS
end
end Go.Sx
namespace Go.Sx
open Go Go.RowKit
variable {tm:List (Nat × D)}{r:List DP × D}{c:Own}{ok:Nat->Bool->Bool}{gs:Gs}{op:Op}
section
variable {T:TT}{ow:List Own}{e0:TypeId}{l0:List D}
theorem va {i:Nat}{o:Own}(h:ow[i]?=some o):(ow++[c])[i]?=some o:=by
 rw[List.getElem?_append_left (zE h)];exact h
theorem zh7 {i sz n:Nat}{f:Nat->Nat->D}:(ow++[Own.cells e0 l0])[i]?=some (.frozen sz n f)↔ow[i]?=some (.frozen sz n f):=by
 rcases Nat.lt_or_ge i ow.length with h|h
 ·rw[List.getElem?_append_left h]
 ·rw[List.getElem?_append_right h,List.getElem?_eq_none h];cases hi:i - ow.length with
  | zero=>simp
  | succ n=>simp
theorem opndR_app {Gl:Nat->Option D}{x:Operand}:um Gl ok tm gs (ow++[Own.cells e0 l0]) x=um Gl ok tm gs ow x:=by
 unfold um;cases h:xO Gl ok tm gs x with
 | none=>rfl
 | some d =>
  cases d<;>try rfl
  rename_i i;simp only;cases ho:ow[i]? with
  | some o=>rw[va ho]
  | none =>
   cases ho':(ow++[Own.cells e0 l0])[i]? with
   | none=>rfl
   | some o' =>
    cases o'<;>try rfl
    rename_i sz n f;have:=zh7.1 ho';rw[ho] at this;simp at this
mutual
theorem resA_app:∀ d:D,zd8 (ow++[Own.cells e0 l0]) d=zd8 ow d
 | .row i=>by
  simp only[zd8];cases ho:ow[i]? with
  | some o=>rw[va ho]
  | none =>
   cases ho':(ow++[Own.cells e0 l0])[i]? with
   | none=>rfl
   | some o' =>
    cases o'<;>try rfl
    have:=zh7.1 ho';rw[ho] at this;simp at this
 | .ag l=>by simp only[zd8];rw[zel l]
 | .tu l=>by simp only[zd8];rw[zel l]
 | .v _=>rfl
 | .sl _ _ _=>rfl
 | .pt _ _=>rfl
 | .own _ _=>rfl
 | .rp _ _ _ _=>rfl
 | .fn _ _=>rfl
 | .ifc _ _=>rfl
 | .yl _=>rfl
 | .mp _=>rfl
 | .os _ _ _=>rfl
 | .sd _=>rfl
 | .junk=>rfl
theorem zel:∀ l:List D,zgs (ow++[Own.cells e0 l0]) l=zgs ow l
 | []=>rfl
 | d::l=>by simp only[zgs];rw[resA_app d,zel l]
end
theorem evLoad_app {ti:TI}{p:D}(h:zf8 ti ow p=some r):zf8 ti (ow++[c]) p=some r:=by
 cases p<;>simp only[zf8] at h ⊢ <;> try exact h
 case own i off =>
  cases ho:ow[i]? with
  | none=>rw[ho] at h;simp at h
  | some o=>rw[va ho];rw[ho] at h;exact h
 case rp i sz a off =>
  cases ho:ow[i]? with
  | none=>rw[ho] at h;simp at h
  | some o=>rw[va ho];rw[ho] at h;exact h
theorem zf9 {tk:TK}{x i:D}(h:ud tk ow x i=some r):ud tk (ow++[c]) x i=some r:=by
 unfold ud at h ⊢;split at h<;>try exact h
 rename_i r0 _ k0;cases ho:ow[r0]? with
 | none=>rw[ho] at h;simp at h
 | some o=>simp only[va ho];rw[ho] at h;exact h
theorem evLen_app {tk:TK}{x d:D}(h:evLen tk ow x=some d):evLen tk (ow++[c]) x=some d:=by
 unfold evLen at h ⊢;split at h<;>try exact h
 rename_i r0;cases ho:ow[r0]? with
 | none=>rw[ho] at h;simp at h
 | some o=>simp only[va ho];rw[ho] at h;exact h
theorem zog {x:D}{s:ByteArray}(h:zdj ow x=some s):zdj (ow++[c]) x=some s:=by
 unfold zdj at h ⊢;split at h<;>try exact h
 ·rename_i i off n;cases ho:ow[i]? with
  | none=>rw[ho] at h;simp at h
  | some o=>simp only[va ho];rw[ho] at h;exact h
 ·rename_i i;cases ho:ow[i]? with
  | none=>rw[ho] at h;simp at h
  | some o=>simp only[va ho];rw[ho] at h;exact h
theorem evConv_app {a b:TK}{x d:D}(h:zh1 T ow a b x=some d):zh1 T (ow++[c]) a b x=some d:=by
 unfold zh1 at h ⊢;split at h<;>try exact h
 ·split at h<;>try (simp at h;done)
  rename_i hTe;split at h<;>try (simp at h;done)
  rename_i s hs;simp only[hTe,zog hs];exact h
 ·rename_i t i;cases ho:ow[i]? with
  | none=>rw[ho] at h;cases hT:T t<;>simp[hT] at h
  | some o=>simp only[va ho];rw[ho] at h;exact h
 ·rename_i t i;cases ho:ow[i]? with
  | none=>rw[ho] at h;cases hT:T t<;>simp[hT] at h
  | some o=>simp only[va ho];rw[ho] at h;exact h
theorem evPure_app {g:zib}(h:zY T op g ow=some r):zY T op g (ow++[c])=some r:=by
 unfold zY at h ⊢;split at h<;>try (simp at h;done)
 all_goals try exact h
 ·rename_i t a;split at h<;>try (simp at h;done)
  rename_i ti p hT hp;exact evLoad_app h
 ·rename_i t x i;split at h<;>try (simp at h;done)
  rename_i hT hx hi;exact zf9 h
 ·rename_i a b x;split at h<;>try (simp at h;done)
  rename_i hTa hTb hx;split at h<;>try (simp at h;done)
  rename_i d' hd;simp only[hTa,hTb,hx,evConv_app hd];exact h
 ·rename_i x t;split at h<;>try (simp at h;done)
  rename_i hT hx;split at h<;>try (simp at h;done)
  rename_i d' hd;simp only[hT,hx,evLen_app hd];exact h
theorem evNewD_app {g:zib}{d:D}(h:ur T op g ow=some d):ur T op g (ow++[c])=some d/\∀ ow',zY T op g ow'=none:=by
 unfold ur at h ⊢;split at h<;>try (simp at h;done)
 ·rename_i x ats;refine ⟨?_,fun _=>rfl⟩
  split at h<;>try (simp at h;done)
  ·exact h
  ·rename_i i hx;cases ho:ow[i]? with
   | none=>rw[ho] at h;simp at h
   | some o=>simp only[hx,va ho];rw[ho] at h;exact h
 ·exact ⟨h,fun _=>rfl⟩
theorem zoa {cc:Bool}{Γ:Ctx}{Gl:Nat->Option D}{c:Prop}{k:D->Prop}(h:exQ cc Γ T Gl op ok c tm gs ow k):exQ cc Γ T Gl op ok c tm gs (ow++[Own.cells e0 l0]) k:=by
 unfold exQ at h ⊢;split at h
 ·exact h
 ·split at h<;>try exact h.elim
  rename_i hf hds;simp only[hf,hds,zel];exact h
 ·have e1:(fun x=>um Gl ok tm gs (ow++[Own.cells e0 l0]) x)=fun x=>um Gl ok tm gs ow x:=by funext x;exact opndR_app
  simp only[e1];split at h
  ·rename_i vs d hev;simp only[evPure_app hev];exact h
  ·split at h<;>try exact h.elim
   rename_i d hev;obtain ⟨h1,h2⟩:=evNewD_app (c:=Own.cells e0 l0) hev;simp only[h2,h1];exact h
theorem QOne_app {cc:Bool}{Γ:Ctx}{Gl:Nat->Option D}{N:Nat}{all:List Oper}{o:Oper}{e:En}(h:QOne cc Γ T Gl N all o tm gs ow e):QOne cc Γ T Gl N all o tm gs (ow++[Own.cells e0 l0]) e:=by
 cases e with
 | pl t d=>exact ⟨h.1,h.2.1,h.2.2.1,zoa h.2.2.2⟩
 | gd t s b d =>
  obtain ⟨h1,h2,h3,h4,h5,x,h6,h7⟩:=h;exact ⟨h1,h2,h3,h4,h5,x,h6,zoa h7⟩
 | kt t s b d =>
  obtain ⟨h1,h2,h3,h4,h5,h6⟩:=h;exact ⟨h1,h2,h3,h4,h5,zoa h6⟩
 | sk t s b v=>exact h
end
section
variable {P:Program}{T:TT}{B:Nat}{w0 w w':World}{M0 M M':Mem}{E E':List Value}{ow:List Own}{Γ:Ctx}{Gl:Nat->Option D}{Y:Ys}{cc:Bool}{dv:List Deferred}
theorem EOk.monoE {a:Act}{e:En}(h:EOk M E a e) (hM:M.le M') (hE:EnvLe E E'):EOk M' E' a e:=by
 cases e with
 | gd t s b d=>exact fun hb=>Rep.mono hM hE _ _ (h hb)
 | pl t d=>exact Rep.mono hM hE _ _ (h:Rep M E _ _)
 | kt t s b d=>exact Rep.mono hM hE _ _ (h:Rep M E _ _)
 | sk t s b v=>exact Rep.mono hM hE _ _ (h:Rep M E _ _)
theorem zmu {l:List Oper}{p t:Nat}{e:TypeId}(h:zch l p=some (t,e)):∃ o,l[p]?=some o/\o.dst=some t/\o.op=.alloc e/\o.guard=none/\zb4 o=[]:=by
 unfold zch at h;split at h<;>try (simp at h;done)
 rename_i o ho;split at h<;>try (simp at h;done)
 rename_i t' e' h1 h2 h3 h4;simp at h;obtain ⟨rfl,rfl⟩:=h;exact ⟨o,ho,h1,h2,h3,h4⟩
theorem zjk (hΓ:CtxOk P Gl Γ) (hT:TOk P T) (hmix:P.follows .mixedOrders=true) {N:Nat}{ops:Array Oper}{p t:Nat}{e0:TypeId}(hal:zch ops.toList p=some (t,e0)) (hok:vD ops.toList (p+1)=true) {ro:Option Nat}{n:Nat}{Q:Exit->Act->World->Prop}
  {tm:List (Nat × D)}{k:List (Nat × D)->List Own->Prop}{a:Act}{id:Nat}
  (h:xu cc Γ T Gl N ops.toList ops.toList p tm [] ow fun tm' gs'=>exAl T N e0 t tm' gs' ow fun tm2 ow2=>yV cc Γ Y T Gl N ops.toList (ops.toList.drop (p+1)) tm2 gs' ow2 k) (hW:WRel B w0 M0 M E ow w) (hR:TRel dv N M E tm [] a) (hG:GlOk M Gl) (hY:YOk P Gl B w0 M E Y) (hP:PanAt dv N B w0 M0 M E Y Q)
  (hQ:∀ a' w',Next dv N B w0 M0 M E [] k a' w'->Q .normal a' w'):(Code.region id ops true).wpIn (FW ro) n P Q a w:=by
 obtain ⟨oA,hoA,hAd,hAo,hAg,hAdep⟩:=zmu hal;have hoA':ops[p]?=some oA:=by simpa using hoA
 have hpl:p+1<=ops.size:=(Array.getElem?_eq_some_iff.1 hoA').1;simp only[vD,Bool.and_eq_true,List.all_eq_true,List.mem_range] at hok;obtain ⟨⟨⟨hk1,hk2⟩,hk4⟩,hk3⟩:=hok;have hback:∀ (i:Nat) (o:Oper),ops[i]?=some o->∀ d∈zb4 o,d<i:=by
  intro i o ho d hd;have hi:=(Array.getElem?_eq_some_iff.1 ho).1;have:=hk1 i (by simpa using hi)
  have ho':ops.toList[i]?=some o:=by simpa using ho
  rw[ho'] at this;simp only[List.all_eq_true,decide_eq_true_eq] at this;exact this d hd
 have htail:∀ q,p+1<=q->q<ops.size->∀ i,i<q->((xJ ops.toList []).getD q 0).testBit i=true:=by
  intro q hq1 hq2 i hi;have:=hk2 q (by simpa using hq2)
  simp only[Bool.or_eq_true,decide_eq_true_eq,List.all_eq_true,List.mem_range] at this;rcases this with h1|h1
  ·omega
  ·exact h1 i hi
 obtain ⟨es,hel,hq1,hkk⟩:=xe ops.toList p h (by simp;omega)
 unfold exAl at hkk;split at hkk<;>try exact hkk.elim
 rename_i sz0 ag0 z0 kd0 mo0 hTe;split at hkk<;>try exact hkk.elim
 rename_i htN;split at hkk<;>try exact hkk.elim
 rename_i hfree;let eA:En:=.pl t (.own ow.length 0)
 let es':List En:=es++[eA]
 let ow':List Own:=ow++[.cells e0 (z0.map .v)]
 have hel':es'.length=p+1:=by simp[es',hel]
 have hesA:es'[p]?=some eA:=by simp[es',<- hel]
 have hesI:∀ i,i<p->es'[i]?=es[i]?:=fun i hi=>List.getElem?_append_left (by omega)
 have htk:∀ i,i<=p->es'.take i=es.take i:=fun i hi=>List.take_append_of_le_length (by omega)
 have hstT:stT tm es'=zaf (stT tm es) t (.own ow.length 0):=by simp[es',stT,pushT,eA,En.slot,En.val]
 have hstG:stG [] es'=stG [] es:=by simp[es',stG,pushG,eA]
 have hopi:∀ i,i<p+1->∃ o,ops[i]?=some o:=fun i hi=>⟨ops[i]'(by omega),by simp[show i<ops.size by omega]⟩
 -- two operations of the head
 have hpair:∀ (i j:Nat) (x y:Oper),i<p+1->j<p+1->i≠j->ops[i]?=some x->ops[j]?=some y->x.dst≠y.dst/\(∀ t,y.dst=some t->t∈xl ops.toList x->((xJ ops.toList []).getD (max i j) 0).testBit (min i j)=true):=by
  intro i j x y hi hj hij hx hy;have:=hk3 i hi j hj;have hx':ops.toList[i]?=some x:=by simpa using hx
  have hy':ops.toList[j]?=some y:=by simpa using hy
  rw[hx',hy'] at this;simp only[Bool.or_eq_true,beq_iff_eq,hij,false_or,Bool.and_eq_true,bne_iff_ne,ne_eq] at this;obtain ⟨h1,h2⟩:=this;refine ⟨h1,fun t ht hm=>?_⟩
  ·rw[ht] at h2;simp only[Bool.or_eq_true,Bool.not_eq_true',List.contains_eq_mem,decide_eq_false_iff_not] at h2;rcases h2 with h2|h2
   ·exact absurd hm h2
   ·exact h2
 have hguard:∀ (i:Nat) (x:Oper) (g:Nat) (b:Bool),i<p+1->ops[i]?=some x->x.guard=some (g,b)->g<i:=by
  intro i x g b hi hx hg;have:=hk4 i hi;have hx':ops.toList[i]?=some x:=by simpa using hx
  rw[hx'] at this;simp only[hg] at this;simpa using this
 have hent:∀ (i:Nat) (o:Oper),i<p->ops[i]?=some o->∃ e,es[i]?=some e/\QOne cc Γ T Gl N ops.toList o (stT tm (es.take i)) (stG [] (es.take i)) ow e:=by
  intro i o hi ho;have he:es[i]?=some (es[i]'(by omega)):=List.getElem?_eq_getElem _;exact ⟨_,he,hq1 i o _ (by simpa using ho) he⟩
 have hentQ:∀ (i:Nat) (o:Oper),i<p+1->ops[i]?=some o->∃ e,es'[i]?=some e/\QDst N ops.toList o e:=by
  intro i o hi ho;by_cases hip:i=p
  ·subst hip;rw[hoA'] at ho;simp at ho;subst ho;exact ⟨eA,hesA,hAd,htN,trivial⟩
  ·obtain ⟨e,he,hq⟩:=hent i o (by omega) ho;exact ⟨e,by rw[hesI i (by omega)];exact he,hq.q⟩
 refine wpIn_region_any hmix ?_;refine zmt hback hpl htail (Good:=fun S a w=>(¬S p/\zgr dv N B w0 M0 M E ow tm es' S a w)\/(S p/\∃ E1,EnvLe E E1/\zgr dv N B w0 M0 M E1 ow' tm es' S a w)) ?_ ?_ ops.size _ a _ (by simp) ?_ ?_ ?_ ?_
 ·-- a step
  intro listed a w i o hsz hcl hip ho h0 hd _ hg;have hiS:i<listed.size:=by rw[hsz];exact (Array.getElem?_eq_some_iff.1 ho).1
  by_cases hipp:i=p
  ·subst hipp;rw[hoA'] at ho;simp at ho;subst ho;rcases hg with ⟨hSp,hg⟩|⟨hSp,_⟩
   ·obtain ⟨M',hle,hW',hN,hdef,hinit,hents⟩:=hg;unfold wpOpIn;simp only[hoA'];obtain ⟨dst,op,ty,pos,after,guard⟩:=oA;simp only at hAd hAo hAg;subst hAd;subst hAo;subst hAg;have hw:Region.wanted ⟨some t,.alloc e0,ty,pos,after,none⟩ (yielded ops a.tmps)=true:=rfl;simp only[hw,if_true];refine zid (fun c=>by simp) ?_;have hev:zl5 T (.alloc e0) (fun _=>none) ow=some ([],.own ow.length 0,ow'):=by simp only[zl5,hTe,ow']
    obtain ⟨u,w2,M2,E2,hr,hle2,hrep2,hW2,hEE⟩:=zf7 (ρ:=a.eval) hT hev trivial (fun x d hx=>by simp at hx) hW' (some t) ty pos after none;have hfin:(¬LS (listed.setIfInBounds i true) i/\zgr dv N B w0 M0 M E ow tm es' (LS (listed.setIfInBounds i true)) (a.put (some t) u) w2)\/(LS (listed.setIfInBounds i true) i/\∃ E1,EnvLe E E1/\zgr dv N B w0 M0 M E1 ow' tm es' (LS (listed.setIfInBounds i true)) (a.put (some t) u) w2):=by
     refine .inr ⟨(yF hiS i).2 (.inl rfl),E2,hEE,M2,zp hle hle2,hW2,by simp[Act.put,hN],by simp[Act.put,hdef],fun t' d ht hno=>?_,fun j e' he' hS=>?_⟩
     ·have hne:t'≠t:=fun hh=>hno i eA hesA ((yF hiS i).2 (.inl rfl)) hh.symm;rw[zP hN htN,if_neg hne];exact Rep.mono hle2 hEE _ _ (hinit t' d ht fun j e' he' hS=>hno j e' he' ((yF hiS j).2 (.inr hS)))
     ·rw[yF hiS] at hS;rcases hS with rfl|hS
      ·rw[hesA] at he';simp at he';subst he';show Rep M2 E2 (.own ow.length 0) ((a.put (some t) u).tmps.getD t undef)
       rw[zP hN htN,if_pos rfl];exact hrep2
      ·have hji:j≠i:=fun hh=>by subst hh;exact hSp hS
       have hjp:j<i+1:=by have:=zE he';omega
       obtain ⟨oj,hoj⟩:=hopi j hjp;obtain ⟨ej,hej,hqj⟩:=hentQ j oj hjp hoj;rw[he'] at hej;simp at hej;subst hej;have hsl:e'.slot≠t:=by
        have:=(hpair j i oj _ hjp (by omega) hji hoj hoA').1;rw[hqj.1] at this;intro hh;exact this (by rw[hh])
       have hold:=(hents j e' he' hS).monoE hle2 hEE;cases e' with
       | pl t' d =>
        have hsl':t'≠t:=hsl;have hold':Rep M2 E2 ((En.pl t' d).val.getD .junk) (a.tmps.getD t' undef):=hold;show Rep M2 E2 ((En.pl t' d).val.getD .junk) ((a.put (some t) u).tmps.getD t' undef)
        rw[zP hN htN,if_neg hsl'];exact hold'
       | kt t' s b d =>
        have hsl':t'≠t:=hsl;have hold':Rep M2 E2 ((En.kt t' s b d).val.getD .junk) (a.tmps.getD t' undef):=hold;show Rep M2 E2 ((En.kt t' s b d).val.getD .junk) ((a.put (some t) u).tmps.getD t' undef)
        rw[zP hN htN,if_neg hsl'];exact hold'
       | sk t' s b v =>
        have hsl':t'≠t:=hsl;have hold':Rep M2 E2 ((En.sk t' s b v).val.getD .junk) (a.tmps.getD t' undef):=hold;show Rep M2 E2 ((En.sk t' s b v).val.getD .junk) ((a.put (some t) u).tmps.getD t' undef)
        rw[zP hN htN,if_neg hsl'];exact hold'
       | gd t' s b d =>
        have hsl':t'≠t:=hsl;simp only[EOk] at hold ⊢;have hs:s≠t:=by
         intro hh;obtain ⟨_,_,gj,gq,hgd,hgq,hgs⟩:=hqj;have hgj:=hguard j oj _ _ hjp hoj hgd;have hgq':ops[gj]?=some gq:=by simpa using hgq
         have:=(hpair gj i gq _ (by omega) (by omega) (by omega) hgq' hoA').1;rw[hgs,hh] at this;exact absurd rfl this
        rw[zP hN htN,if_neg hs,zP hN htN,if_neg hsl'];exact hold
    rcases hr with hr|⟨_,hu⟩
    ·rw[hr];exact hfin
    ·rw[hu] at hrep2;simp only[Rep] at hrep2;obtain ⟨b,_,hb⟩:=hrep2;simp[undef] at hb
   ·exact absurd hSp h0
  ·have hip':i<p:=by omega
   obtain ⟨e,he,hone⟩:=hent i o hip' ho;have he':es'[i]?=some e:=by rw[hesI i hip'];exact he
   rcases hg with ⟨hSp,hg⟩|⟨hSp,E1,hE1,hg⟩
   ·refine wpOpIn_mono (fun a' w' hg'=>.inl ⟨?_,hg'⟩) (za5 hΓ hT hG hel' hentQ hopi hpair hguard listed a w i o hsz hcl hip ho h0 hd hg he' (by rw[htk i (by omega)];exact hone))
    rw[yF hiS];rintro (hh|hh)
    ·exact hipp hh.symm
    ·exact hSp hh
   ·refine wpOpIn_mono (fun a' w' hg'=>.inr ⟨(yF hiS p).2 (.inr hSp),E1,hE1,hg'⟩) (za5 hΓ hT hG hel' hentQ hopi hpair hguard listed a w i o hsz hcl hip ho h0 hd hg he' (by rw[htk i (by omega)];exact QOne_app hone))
 ·-- the head is done
  intro listed a w hl hg;rcases hg with ⟨hSp,_⟩|⟨hSp,E1,hE1,M',hle,hW',hN,hdef,hinit,hents⟩
  ·exact absurd ((hl p).2 (by omega)) hSp
  have hall:∀ (i:Nat) (e:En),es'[i]?=some e->LS listed i:=fun i e he=>(hl i).2 (by have:=zE he;omega)
  have hR':TRel dv N M' E1 (stT tm es') (stG [] es') a:=by
   refine ⟨hN,hdef,fun t d hd=>?_,fun t s b d hs hb=>?_⟩
   ·rcases zli _ _ _ hd with ⟨j,e',hj,hst,hv⟩|rfl|⟨h1,h2⟩
    ·have:=(hents j _ hj (hall j _ hj)).plain hv;rw[hst] at this;exact this
    ·simp[Rep]
    ·exact hinit t d h1 fun j e he _=>h2 j e he
   ·obtain ⟨j,hj⟩:=zfr _ _ _ _ _ hs;exact hents j _ hj (hall j _ hj) hb
  rw[hstT,hstG] at hR';have:=vZ hΓ hT (ops.toList.drop (p+1)) (p+1) (ops:=ops) (ro:=ro) (n:=n) (Q:=Q) rfl hkk hW' hR' (hG.mono hle) (hY.mono hle hE1) (hP.mono hle hE1) (fun a' w' ⟨M2,E2,t2,o2,q1,q2,q3,q4,q5⟩=>hQ _ _ ⟨M2,E2,t2,o2,zp hle q1,hE1.trans q2,q3,q4,q5⟩)
  simpa using this
 ·intro j o hj hS;simp[LS,Array.getD_eq_getD_getElem?,Array.getElem?_replicate] at hS;split at hS<;>simp at hS
 ·intro q hS;simp[LS,Array.getD_eq_getD_getElem?,Array.getElem?_replicate] at hS;split at hS<;>simp at hS
 ·have:∀ m f,unl m f<=m:=by
   intro m f
   induction m with
   | zero=>simp[unl]
   | succ m ih=>simp only[unl];split<;>omega
  exact this _ _
 ·have hW2:WRel B w0 M0 M E ow { w with drawn:=w.drawn+1 }:=⟨hW.fits,hW.base,hW.below.trans ⟨rfl,rfl,rfl,Nat.le_refl _,fun _ _=>rfl⟩,hW.len,fun i o v ho hv=>(hW.holds i o v ho hv).frame (fun _ _ _=>rfl) (za _) (zc _) (fun b hf hb=>((hW.holds i o v ho hv).lt (Own.free_live hf) hb).2.2 hf),hW.inj,hW.mle,hW.new⟩
  refine .inl ⟨fun hS=>?_,M,za _,hW2,hR.size,hR.defers,fun t d ht _=>hR.tmps _ _ ht,fun i e he hS=>?_⟩
  ·simp[LS,Array.getD_eq_getD_getElem?,Array.getElem?_replicate] at hS;split at hS<;>simp at hS
  ·simp[LS,Array.getD_eq_getD_getElem?,Array.getElem?_replicate] at hS;split at hS<;>simp at hS
end
end Go.Sx
namespace Go.Sx
open Go Go.RowKit
variable {ops:Array Oper}{Q:Exit->Act->World->Prop}{tm:List (Nat × D)}{N:Nat}{p:Nat}
section
variable {P:Program}{T:TT}{B:Nat}{w0 w w':World}{M0 M M':Mem}{E E':List Value}{ow:List Own}{Γ:Ctx}{Gl:Nat->Option D}{Y:Ys}{cc:Bool}{dv:List Deferred}
theorem draw_reads {es:List En}(hG:GlOk M Gl) (hel:es.length=p)
  (hent:∀ (i:Nat) (o:Oper),i<p->ops[i]?=some o->∃ e,es[i]?=some e/\QDst N ops.toList o e)
  (hopi:∀ i,i<p->∃ o,ops[i]?=some o)
  (hpair:∀ (i j:Nat) (x y:Oper),i<p->j<p->i≠j->ops[i]?=some x->ops[j]?=some y->x.dst≠y.dst/\(∀ t,y.dst=some t->t∈xl ops.toList x->((xJ ops.toList []).getD (max i j) 0).testBit (min i j)=true))
  (listed:Array Bool) (a:Act) (i:Nat) (o:Oper) (hcl:vc ops.toList (LS listed)) (hip:i<p) (ho:ops[i]?=some o) (h0:¬LS listed i) (hd:∀ d∈zb4 o,LS listed d)
  (hle:M.le M') (hinit:∀ t d,lk tm t=some d->(∀ (i:Nat) (e:En),es[i]?=some e->LS listed i->e.slot≠t)->Rep M' E d (a.tmps.getD t undef)) (hents:∀ (i:Nat) (e:En),es[i]?=some e->LS listed i->EOk M' E a e):
  ∀ x∈o.op.operands.toList,∀ ok' d',(∀ s b,ok' s b=true->a.tmps.getD s undef=.bool b)->xO Gl ok' (stT tm (es.take i)) (stG [] (es.take i)) x=some d'->Rep M' E d' (a.eval x):=by
 -- what the operation looks at is as it is told
 have hlook:∀ t,t∈xl ops.toList o->(∀ (j:Nat) (e':En),j<i->es[j]?=some e'->e'.slot=t->LS listed j)/\((∀ (j:Nat) (e':En),j<i->es[j]?=some e'->e'.slot≠t)->∀ (j:Nat) (e':En),es[j]?=some e'->LS listed j->e'.slot≠t):=by
  intro t ht;refine ⟨fun j e' hj he' hst=>?_,fun hno j e' he' hS hst=>?_⟩
  ·have hjp:j<p:=by omega
   obtain ⟨oj,hoj⟩:=hopi j hjp;obtain ⟨ej,hej,hqj⟩:=hent j oj hjp hoj;rw[he'] at hej;simp at hej;subst hej;have hm:=(hpair i j o oj hip hjp (by omega) ho hoj).2 t (by rw[hqj.1,hst]) ht;rw[show max i j=i by omega,show min i j=j by omega] at hm;exact yk hcl (by simpa using ho) hm hd
  ·have hjp:j<p:=by have:=zE he';omega
   have hji:j≠i:=fun e=>by subst e;exact h0 hS
   rcases Nat.lt_or_ge j i with hlt|hge
   ·exact hno j e' hlt he' hst
   ·obtain ⟨oj,hoj⟩:=hopi j hjp;obtain ⟨ej,hej,hqj⟩:=hent j oj hjp hoj;rw[he'] at hej;simp at hej;subst hej;have hm:=(hpair i j o oj hip hjp (fun e=>hji e.symm) ho hoj).2 t (by rw[hqj.1,hst]) ht;rw[show max i j=j by omega,show min i j=i by omega] at hm;exact h0 (yk hcl (by simpa using hoj) hm (hcl j oj (by simpa using hoj) hS))
 have hlk:∀ t d,t∈xl ops.toList o->lk (stT tm (es.take i)) t=some d->Rep M' E d (a.tmps.getD t undef):=by
  intro t d ht hl;rcases zli _ _ _ hl with ⟨j,e',hj,hst,hv⟩|rfl|⟨h1,h2⟩
  ·obtain ⟨hji,hj'⟩:=zev hj;have:=(hents j _ hj' ((hlook t ht).1 j _ hji hj' hst)).plain hv;rw[hst] at this;exact this
  ·simp[Rep]
  ·refine hinit t d h1 ((hlook t ht).2 fun j e' hji he'=>h2 j e' ?_)
   rw[List.getElem?_take_of_lt hji];exact he'
 have hopsR:∀ x∈o.op.operands.toList,∀ ok' d',(∀ s b,ok' s b=true->a.tmps.getD s undef=.bool b)->xO Gl ok' (stT tm (es.take i)) (stG [] (es.take i)) x=some d'->Rep M' E d' (a.eval x):=by
  intro x hx ok' d' hokk hxd;cases x with
  | tmp t =>
   have ht:t∈xl ops.toList o:=by
    simp only[xl,List.mem_append];exact .inl (by simp only[tmpsOf,List.mem_filterMap];exact ⟨_,hx,rfl⟩)
   simp only[xO] at hxd;split at hxd
   ·rename_i s b d'' hs;split at hxd<;>try (simp at hxd;done)
    rename_i hk;simp at hxd;subst hxd;obtain ⟨j,hj⟩:=zfr _ _ _ _ _ hs;obtain ⟨hji,hj'⟩:=zev hj;exact hents j _ hj' ((hlook t ht).1 j _ hji hj' rfl) (hokk _ _ hk)
   ·exact hlk t _ ht hxd
  | const v=>simp only[xO] at hxd;simp at hxd;subst hxd;exact zk _
  | global g=>simp only[xO] at hxd;exact Rep.mono (za _) (EnvLe.nil _) _ _ ((hG.mono hle) _ _ hxd)
  | func f =>
   simp only[xO] at hxd;simp at hxd;subst hxd;simp only[Rep];exact ⟨#[],rfl,RepL.nil⟩
 exact hopsR
theorem floats_lt {ops:List Oper}:∀ {i:Nat},i∈zlx ops p->i<p:=by
 have:∀ (l acc:List Nat) (i:Nat),i∈l.foldl (zdv ops) acc->i∈acc\/i∈l:=by
  intro l
  induction l with
  | nil=>intro acc i h;exact .inl h
  | cons x l ih =>
   intro acc i h;rw[List.foldl_cons] at h;rcases ih _ _ h with h1|h1
   ·unfold zdv at h1;split at h1
    ·split at h1
     ·rcases List.mem_append.1 h1 with h2|h2
      ·exact .inl h2
      ·simp at h2;subst h2;exact .inr (by simp)
     ·exact .inl h1
    ·exact .inl h1
   ·exact .inr (by simp[h1])
 intro i h;rcases this _ _ _ h with h1|h1
 ·simp at h1
 ·simpa using h1
theorem zm1 {n:Nat}{i:Nat}{o:Oper}{v:Value}{a:Act}{K:Act->World->Prop}(hi:ops[i]?=some o) (hy:YieldsFenced P ops o v a) (h:wpOpIn (FW none) n P ops Q i K a w):K (a.put o.dst v) w:=by
 unfold wpOpIn at h;simp only[hi] at h;rcases hy.1 with ⟨hw,hv⟩|⟨hw,rfl⟩
 ·have hr:(FW none).round=none:=rfl;simp only[hw,if_true,Oper.wpIn,hr,Oper.semAt_none,hv w,Oper.uponIn] at h;exact h.2
 ·simp only[hw,Bool.false_eq_true,if_false] at h;exact h.2
theorem evBin_v {t:TypeId}{b:BinOp}{x y d:D}{vs:List DP}(h:evBin T t b x y=some (vs,d)):∃ z,d=.v z:=by
 unfold evBin at h;split at h
 ·split at h
  ·simp[evSh] at h;exact ⟨_,h.2.symm⟩
  ·simp[evSh] at h;exact ⟨_,h.2.symm⟩
  ·split at h
   ·unfold evInt at h;split at h<;>first|(simp at h;exact ⟨_,h.2.symm⟩)|(split at h<;>simp at h;exact ⟨_,h.2.symm⟩)|simp at h
   ·simp at h
 ·unfold evStr at h;split at h<;>first|(simp at h;exact ⟨_,h.2.symm⟩)|simp at h
 ·unfold evNil at h;split at h<;>first|(simp at h;exact ⟨_,h.2.symm⟩)|simp at h
theorem evIfN_v {t:TypeId}{b:BinOp}{y:Operand}{x c d:D}{vs:List DP}(h:evIfN T b t y x c=some (vs,d)):∃ z,d=.v z:=by
 unfold evIfN at h;split at h<;>try (simp at h;done)
 split at h<;>try (simp at h;done)
 split at h<;>simp at h
 ·exact ⟨_,h.2.symm⟩
 ·exact ⟨_,h.2.symm⟩
 ·exact ⟨_,h.2.symm⟩
 ·exact ⟨_,h.2.symm⟩
theorem zly (hT:TOk P T) {o:Oper}{gs:Gs}{e:En}{a:Act}(hW:WRel B w0 M0 M E ow w) (hfl:flOk o=true) (hone:QOne cc Γ T Gl N ops.toList o tm gs ow e)
  (hr:∀ x∈o.op.operands.toList,∀ d',xO Gl (fun _ _=>false) tm gs x=some d'->Rep M E d' (a.eval x)):∃ v,YieldsFenced P ops o v a:=by
 obtain ⟨dst,op,ty,pos,after,guard⟩:=o;unfold flOk at hfl;split at hfl<;>try (simp at hfl;done)
 ·rename_i t x ty' pos' after' heq;simp only[Oper.mk.injEq] at heq;obtain ⟨rfl,rfl,rfl,rfl,rfl,rfl⟩:=heq;exact ⟨a.eval x,.inl ⟨rfl,fun w=>by simp[execOp]⟩,fun w=>rfl⟩
 ·rename_i t b tt x y t2 ty' pos' after' heq;simp only[Oper.mk.injEq] at heq;obtain ⟨rfl,rfl,rfl,rfl,rfl,rfl⟩:=heq;have key:∃ d,exQ cc Γ T Gl (.binOp b tt x y t2) (fun _ _=>false) True tm gs ow (· = d):=by
   cases e with
   | pl t' d=>exact ⟨d,hone.2.2.2⟩
   | gd t' s b' d=>obtain ⟨_,_,⟨j,q,h1,_⟩,_⟩:=hone;simp at h1
   | kt t' s b' d=>obtain ⟨_,_,⟨j,q,h1,_⟩,_⟩:=hone;simp at h1
   | sk t' s b' d=>obtain ⟨_,_,⟨j,q,h1,_⟩,_⟩:=hone;simp at h1
  obtain ⟨d,h⟩:=key;have hres:∀ z∈[x,y],∀ d',um Gl (fun _ _=>false) tm gs ow z=some d'->Rep M E d' (a.eval z):=by
   intro z hz d' hd';rw[uh,Option.map_eq_some_iff] at hd';obtain ⟨d0,h1,rfl⟩:=hd';exact xq hW (hr z (by simp[Op.operands] at hz ⊢;exact hz) d0 h1)
  simp only[exQ,zY] at h;split at h
  ·rename_i vs d' hev;rw[yZ] at h;obtain ⟨h1,rfl⟩:=h;split at hev
   ·rename_i l r hx hy;split at hev<;>try (simp at hev;done)
    rename_i ti hTt;have hz:∃ z,d'=.v (.bool z):=by
     unfold evEqS at hev;split at hev<;>try (simp at hev;done)
     split at hev<;>try (simp at hev;done)
     split at hev<;>first|(simp at hev;exact ⟨_,hev.2.symm⟩)|simp at hev
    obtain ⟨z,rfl⟩:=hz;refine ⟨.bool z,.inl ⟨rfl,fun w'=>?_⟩,fun w=>rfl⟩
    obtain ⟨u,h2,h3⟩:=zgb (P:=P) (w:=w') (t:=tt) (xo:=x) (yo:=y) (hT _ _ hTt) hev (hres x (by simp) _ hx) (hres y (by simp) _ hy)
    simp only[Rep] at h3;simp only[execOp];rw[Sem.run_bind,h2,h3];rfl
   ·rename_i dx dy hx hy;split at hev
    ·rename_i r hr';simp only[Option.some.injEq] at hev;subst hev;obtain ⟨z,rfl⟩:=evIfN_v hr';refine ⟨z,.inl ⟨rfl,fun w'=>?_⟩,fun w=>rfl⟩
     obtain ⟨u,h2,h3⟩:=zga (P:=P) (w:=w') (xo:=x) (yo:=y) hT hr' (hres x (by simp) _ hx) (hres y (by simp) _ hy)
     simp only[Rep] at h3;simp only[execOp];rw[Sem.run_bind,h2,h3];rfl
    obtain ⟨z,rfl⟩:=evBin_v hev;refine ⟨z,.inl ⟨rfl,fun w'=>?_⟩,fun w=>rfl⟩
    obtain ⟨u,h2,h3⟩:=zgc (P:=P) (w:=w') (t:=tt) (xo:=x) (yo:=y) hT hev (h1 trivial) (hres x (by simp) _ hx) (hres y (by simp) _ hy)
    simp only[Rep] at h3;simp only[execOp];rw[Sem.run_bind,h2,h3];rfl
   ·simp at hev
  ·simp[ur] at h
 ·rename_i t tt sx y ty' pos' after' heq;simp only[Oper.mk.injEq] at heq;obtain ⟨rfl,rfl,rfl,rfl,rfl,rfl⟩:=heq;have key:∃ d,exQ cc Γ T Gl (.index tt (.const (.string sx)) y) (fun _ _=>false) True tm gs ow (· = d):=by
   cases e with
   | pl t' d=>exact ⟨d,hone.2.2.2⟩
   | gd t' s b' d=>obtain ⟨_,_,⟨j,q,h1,_⟩,_⟩:=hone;simp at h1
   | kt t' s b' d=>obtain ⟨_,_,⟨j,q,h1,_⟩,_⟩:=hone;simp at h1
   | sk t' s b' d=>obtain ⟨_,_,⟨j,q,h1,_⟩,_⟩:=hone;simp at h1
  obtain ⟨d,h⟩:=key;have hres:∀ z∈[.const (.string sx),y],∀ d',um Gl (fun _ _=>false) tm gs ow z=some d'->Rep M E d' (a.eval z):=by
   intro z hz d' hd';rw[uh,Option.map_eq_some_iff] at hd';obtain ⟨d0,h1,rfl⟩:=hd';exact xq hW (hr z (by simp[Op.operands] at hz ⊢;exact hz) d0 h1)
  simp only[exQ,zY] at h;split at h
  ·rename_i vs d' hev;rw[yZ] at h;obtain ⟨h1,rfl⟩:=h;split at hev
   ·rename_i ti dx dy hTt hx hy;obtain rfl:dx=.v (.string sx):=by simpa[um,xO] using hx.symm
    have hz:∃ z,d'=.v z:=by
     unfold zex at hev;split at hev
     ·simp at hev;exact ⟨_,hev.2.symm⟩
     ·rename_i heq;exact D.noConfusion heq
     ·simp at hev
    obtain ⟨z,rfl⟩:=hz;refine ⟨z,.inl ⟨rfl,fun w'=>?_⟩,fun w=>rfl⟩
    obtain ⟨u,h2,h3⟩:=zb3 (P:=P) (w:=w') (hT _ _ hTt) hev (h1 trivial) (hres (.const (.string sx)) (by simp) _ hx) (hres y (by simp) _ hy)
    simp only[Rep] at h3;subst h3;simp[execOp,h2]
   ·simp at hev
  ·simp[ur] at h
theorem zcd (hΓ:CtxOk P Gl Γ) (hT:TOk P T) {N:Nat}{ops:Array Oper}{p:Nat}{n:Nat}{Q:Exit->Act->World->Prop}{tm:List (Nat × D)}{es:List En}(hG:GlOk M Gl) (hel:es.length=p)
  (hent:∀ (i:Nat) (o:Oper),i<p->ops[i]?=some o->∃ e,es[i]?=some e/\QDst N ops.toList o e)
  (hent1:∀ (i:Nat) (o:Oper),i<p->ops[i]?=some o->∃ e,es[i]?=some e/\QOne cc Γ T Gl N ops.toList o (stT tm (es.take i)) (stG [] (es.take i)) ow e)
  (hopi:∀ i,i<p->∃ o,ops[i]?=some o)
  (hpair:∀ (i j:Nat) (x y:Oper),i<p->j<p->i≠j->ops[i]?=some x->ops[j]?=some y->x.dst≠y.dst/\(∀ t,y.dst=some t->t∈xl ops.toList x->((xJ ops.toList []).getD (max i j) 0).testBit (min i j)=true))
  (hguard:∀ (i:Nat) (x:Oper) (g:Nat) (b:Bool),i<p->ops[i]?=some x->x.guard=some (g,b)->g<i)
  (hsel:∀ (j:Nat) (o:Oper) cs b,ops[j]?=some o->o.op≠.select cs b):
  ∀ (l acc:List Nat) (listed:Array Bool) (a:Act) (fuel:Nat),l.Nodup->(∀ i∈l,i<p/\i ∉ acc)->listed.size=ops.size->vc ops.toList (LS listed)->(∀ i,LS listed i↔i∈acc)->zgr dv N B w0 M0 M E ow tm es (LS listed) a w->unl ops.size (fun j=>listed.getD j false)<=fuel ->
   (∀ (listed':Array Bool) (a':Act) (fuel':Nat),listed'.size=ops.size->vc ops.toList (LS listed')->(∀ i,LS listed' i↔i∈l.foldl (zdv ops.toList) acc)->zgr dv N B w0 M0 M E ow tm es (LS listed') a' w->unl ops.size (fun j=>listed'.getD j false)<=fuel'->wpAnyIn (FW none) n P .any ops (fun e a w=>e=.normal/\Q .normal a w) fuel' listed' a' w) ->
   wpAnyIn (FW none) n P .any ops (fun e a w=>e=.normal/\Q .normal a w) fuel listed a w
 | [],acc,listed,a,fuel,_,_,hsz,hcl,hl,hg,hf,hk=>hk listed a fuel hsz hcl hl hg hf
 | i::l,acc,listed,a,fuel,hnd,hlt,hsz,hcl,hl,hg,hf,hk=>by
  obtain ⟨hip,hia⟩:=hlt i (by simp)
  have hnd':=List.nodup_cons.1 hnd;obtain ⟨o,ho⟩:=hopi i hip;have hi':=(Array.getElem?_eq_some_iff.1 ho).1;have ho':ops.toList[i]?=some o:=by simpa using ho
  rw[List.foldl_cons] at hk;cases hc:(flOk o&&((zb4 o).all acc.contains&&(List.range ops.toList.length).all (fun j=>j==i||(acc.contains j||(match ops.toList[j]? with|some q=>(zb4 q).contains i||o.apart ops.toList.toArray q|none=>true))))) with
  | false =>
   have hs:zdv ops.toList acc i=acc:=by
    unfold zdv;rw[ho'];exact if_neg (fun hh=>Bool.noConfusion (hc.symm.trans hh))
   rw[hs] at hk;exact zcd hΓ hT hG hel hent hent1 hopi hpair hguard hsel l acc listed a fuel hnd'.2 (fun j hj=>hlt j (by simp[hj])) hsz hcl hl hg hf hk
  | true =>
   have hs:zdv ops.toList acc i=acc++[i]:=by
    unfold zdv;rw[ho'];exact if_pos hc
   rw[hs] at hk;simp only[Bool.and_eq_true,List.all_eq_true,List.mem_range,List.contains_eq_mem,decide_eq_true_eq,Bool.or_eq_true,beq_iff_eq] at hc;obtain ⟨hfl,hdeps,hap⟩:=hc;have h0:¬LS listed i:=fun h=>hia ((hl i).1 h)
   have hd:∀ d∈zb4 o,LS listed d:=fun d hd=>(hl d).2 (hdeps d hd)
   obtain ⟨e,he,hone⟩:=hent1 i o hip ho;have hstep:=za5 (Q:=fun e a w=>e=.normal/\Q .normal a w) (ro:=none) (n:=n) hΓ hT hG hel hent hopi hpair hguard listed a w i o hsz hcl hip ho h0 hd hg he hone;obtain ⟨M',hle,hW',hN,hdef,hinit,hents⟩:=hg;obtain ⟨v,hy⟩:=zly (P:=P) (a:=a) hT hW' hfl hone (fun x hx d' hd'=>draw_reads hG hel hent hopi hpair listed a i o hcl hip ho h0 hd hle hinit hents x hx _ d' (fun s b hb=>by simp at hb) hd')
   have hg':=zm1 ho hy hstep;have h1:(fun j=>listed.getD j false) i=false:=by unfold LS at h0;simpa using h0
   have h2:(fun j=>(listed.setIfInBounds i true).getD j false) i=true:=(yF (l:=listed) (i:=i) (by omega) i).2 (.inl rfl)
   have hun:=zif (f:=fun j=>listed.getD j false) (f':=fun j=>(listed.setIfInBounds i true).getD j false) h1 h2 (fun j hj=>getD_set_ne false (fun e=>hj e.symm)) ops.size hi';obtain ⟨fuel',rfl⟩:∃ f,fuel=f+1:=⟨fuel - 1,by omega⟩
   refine wpAnyIn_first rfl ho hsel (fun c a w hh=>by simp at hh) fuel' listed a w (fun j oj hj hji hun' hne=>?_) ((yT hsz).2 ⟨o,ho,h0,hd⟩) hy ?_
   ·have hj':=(Array.getElem?_eq_some_iff.1 hj).1;have hjl:ops.toList[j]?=some oj:=by simpa using hj
    have:=hap j (by simpa using hj')
    rcases this with h3|h3|h3
    ·exact absurd h3 hji
    ·have h4:=(hl j).2 h3;unfold LS at h4;rw[zny (by omega),h4] at hun';simp at hun'
    ·rw[hjl] at h3;simp only[Bool.or_eq_true,List.contains_eq_mem,decide_eq_true_eq] at h3;rcases h3 with h3|h3
     ·obtain ⟨ed,hed,hb,he'⟩:=zi7.1 h3;exact absurd he' (hne ed hed hb)
     ·simpa using h3
   ·refine zcd hΓ hT hG hel hent hent1 hopi hpair hguard hsel l (acc++[i]) _ _ fuel' hnd'.2 (fun j hj=>⟨(hlt j (by simp[hj])).1,fun hh=>?_⟩) (by simp[hsz]) (zbk hsz hcl ho hd) (fun j=>?_) hg' (by omega) hk
    ·rcases List.mem_append.1 hh with hh|hh
     ·exact (hlt j (by simp[hj])).2 hh
     ·simp at hh;subst hh;exact hnd'.1 hj
    ·rw[yF (by omega),hl];simp[or_comm]
theorem zjj (hΓ:CtxOk P Gl Γ) (hT:TOk P T) (hmix:P.follows .mixedOrders=true) (hpl:p<=ops.size) (hok:znk ops.toList p=true) {n:Nat}
  {tm:List (Nat × D)}{k:List (Nat × D)->List Own->Prop}{a:Act}{id:Nat}
  (h:xu cc Γ T Gl N ops.toList ops.toList p tm [] ow fun tm' gs'=>yV cc Γ Y T Gl N ops.toList (ops.toList.drop p) tm' gs' ow k) (hW:WRel B w0 M0 M E ow w) (hR:TRel dv N M E tm [] a) (hG:GlOk M Gl) (hY:YOk P Gl B w0 M E Y) (hNP:∀ tm ow d,¬Y.pan tm ow d)
  (hQ:∀ a' w',Next dv N B w0 M0 M E [] k a' w'->Q .normal a' w'):(Code.region id ops true).wpIn (FW none) n P Q a w:=by
 simp only[znk,Bool.and_eq_true,List.all_eq_true,List.mem_range] at hok;obtain ⟨⟨⟨⟨hk1,hk2⟩,hk4⟩,hk3⟩,hks⟩:=hok;have hback:∀ (i:Nat) (o:Oper),ops[i]?=some o->∀ d∈zb4 o,d<i:=by
  intro i o ho d hd;have hi:=(Array.getElem?_eq_some_iff.1 ho).1;have:=hk1 i (by simpa using hi)
  have ho':ops.toList[i]?=some o:=by simpa using ho
  rw[ho'] at this;simp only[List.all_eq_true,decide_eq_true_eq] at this;exact this d hd
 have htail:∀ q,p<=q->q<ops.size->∀ i,i<q->i∈zlx ops.toList p\/((xJ ops.toList []).getD q 0).testBit i=true:=by
  intro q hq1 hq2 i hi;have:=hk2 q (by simpa using hq2)
  simp only[Bool.or_eq_true,decide_eq_true_eq,List.all_eq_true,List.mem_range,List.contains_eq_mem] at this;rcases this with h1|h1
  ·omega
  ·exact h1 i hi
 obtain ⟨es,hel,hq1,hkk⟩:=xe ops.toList p h (by simpa using hpl)
 have hent:∀ (i:Nat) (o:Oper),i<p->ops[i]?=some o->∃ e,es[i]?=some e/\QOne cc Γ T Gl N ops.toList o (stT tm (es.take i)) (stG [] (es.take i)) ow e:=by
  intro i o hi ho;have he:es[i]?=some (es[i]'(by omega)):=List.getElem?_eq_getElem _;exact ⟨_,he,hq1 i o _ (by simpa using ho) he⟩
 have hopi:∀ i,i<p->∃ o,ops[i]?=some o:=fun i hi=>⟨ops[i]'(by omega),by simp[show i<ops.size by omega]⟩
 -- two operations of the head
 have hpair:∀ (i j:Nat) (x y:Oper),i<p->j<p->i≠j->ops[i]?=some x->ops[j]?=some y->x.dst≠y.dst/\(∀ t,y.dst=some t->t∈xl ops.toList x->((xJ ops.toList []).getD (max i j) 0).testBit (min i j)=true):=by
  intro i j x y hi hj hij hx hy;have:=hk3 i hi j hj;have hx':ops.toList[i]?=some x:=by simpa using hx
  have hy':ops.toList[j]?=some y:=by simpa using hy
  rw[hx',hy'] at this;simp only[Bool.or_eq_true,beq_iff_eq,hij,false_or,Bool.and_eq_true,bne_iff_ne,ne_eq] at this;obtain ⟨h1,h2⟩:=this;refine ⟨h1,fun t ht hm=>?_⟩
  ·rw[ht] at h2;simp only[Bool.or_eq_true,Bool.not_eq_true',List.contains_eq_mem,decide_eq_false_iff_not] at h2;rcases h2 with h2|h2
   ·exact absurd hm h2
   ·exact h2
 have hguard:∀ (i:Nat) (x:Oper) (g:Nat) (b:Bool),i<p->ops[i]?=some x->x.guard=some (g,b)->g<i:=by
  intro i x g b hi hx hg;have:=hk4 i hi;have hx':ops.toList[i]?=some x:=by simpa using hx
  rw[hx'] at this;simp only[hg] at this;simpa using this
 have hsel:∀ (j:Nat) (o:Oper) cs b,ops[j]?=some o->o.op≠.select cs b:=by
  intro j o cs b hj;have:=hks o (by have:=Array.mem_of_getElem? hj;simpa using this)
  intro he;rw[he] at this;simp at this
 refine wpIn_mono (Q:=fun e a w=>e=.normal/\Q .normal a w) (wpIn_region_any hmix ?_) (fun e a w h=>h.1 ▸ h.2)
 have hW2:WRel B w0 M0 M E ow { w with drawn:=w.drawn+1 }:=⟨hW.fits,hW.base,hW.below.trans ⟨rfl,rfl,rfl,Nat.le_refl _,fun _ _=>rfl⟩,hW.len,fun i o v ho hv=>(hW.holds i o v ho hv).frame (fun _ _ _=>rfl) (za _) (zc _) (fun b hf hb=>((hW.holds i o v ho hv).lt (Own.free_live hf) hb).2.2 hf),hW.inj,hW.mle,hW.new⟩
 have hnot:∀ q,¬LS (Array.replicate ops.size false) q:=by
  intro q hS;simp[LS,Array.getD_eq_getD_getElem?,Array.getElem?_replicate] at hS;split at hS<;>simp at hS
 refine zcd (dv:=dv) (E:=E) (M0:=M0) (B:=B) (w0:=w0) hΓ hT hG hel (fun i o hi ho=>let ⟨e,h1,h2⟩:=hent i o hi ho;⟨e,h1,h2.q⟩) hent hopi hpair hguard hsel (List.range p) [] _ a ops.size (List.nodup_range) (fun i hi=>⟨by simpa using hi,by simp⟩) (by simp) (fun j o hj hS=>absurd hS (hnot j)) (fun i=>by simp[hnot i]) ?_ ?_ ?_
 ·refine ⟨M,za _,hW2,hR.size,hR.defers,fun t d ht _=>hR.tmps _ _ ht,fun i e he hS=>absurd hS (hnot i)⟩
 ·have:∀ m f,unl m f<=m:=by
   intro m f
   induction m with
   | zero=>simp[unl]
   | succ m ih=>simp only[unl];split<;>omega
  exact this _ _
 intro listed a fuel hsz hcl hl hg hfuel;have hfp:∀ i,i∈zlx ops.toList p->i<p:=fun i hi=>floats_lt hi;refine zh8 hback hpl (F:=fun i=>i∈zlx ops.toList p) hfp htail (Good:=zgr dv N B w0 M0 M E ow tm es) ?_ ?_ fuel listed a _ hsz hcl (fun q hq=>hfp q ((hl q).1 hq)) (fun i hi=>(hl i).2 hi) hfuel hg
 ·-- a step
  intro listed a w i o hsz hcl hip ho h0 hd _ hg;obtain ⟨e,he,hone⟩:=hent i o hip ho;exact za5 hΓ hT hG hel (fun i o hi ho=>let ⟨e,h1,h2⟩:=hent i o hi ho;⟨e,h1,h2.q⟩) hopi hpair hguard listed a w i o hsz hcl hip ho h0 hd hg he hone
 ·-- the head is done
  intro listed a w hl ⟨M',hle,hW',hN,hdef,hinit,hents⟩
  have hall:∀ (i:Nat) (e:En),es[i]?=some e->LS listed i:=fun i e he=>(hl i).2 (by have:=zE he;omega)
  have huniq:∀ (i j:Nat) (e e':En),es[i]?=some e->es[j]?=some e'->e.slot=e'.slot->i=j:=by
   intro i j e e' he he' hs;by_cases hij:i=j
   ·exact hij
   ·have hi:i<p:=by have:=zE he;omega
    have hj:j<p:=by have:=zE he';omega
    obtain ⟨oi,hoi⟩:=hopi i hi;obtain ⟨oj,hoj⟩:=hopi j hj;obtain ⟨ei,hei,hqi⟩:=hent i oi hi hoi;obtain ⟨ej,hej,hqj⟩:=hent j oj hj hoj;rw[he] at hei;simp at hei;subst hei;rw[he'] at hej;simp at hej;subst hej;have:=(hpair i j oi oj hi hj hij hoi hoj).1;rw[hqi.dst,hqj.dst,hs] at this;exact absurd rfl this
  have hR':TRel dv N M' E (stT tm es) (stG [] es) a:=by
   refine ⟨hN,hdef,fun t d hd=>?_,fun t s b d hs hb=>?_⟩
   ·rcases zli _ _ _ hd with ⟨j,e',hj,hst,hv⟩|rfl|⟨h1,h2⟩
    ·have:=(hents j _ hj (hall j _ hj)).plain hv;rw[hst] at this;exact this
    ·simp[Rep]
    ·exact hinit t d h1 fun j e he _=>h2 j e he
   ·obtain ⟨j,hj⟩:=zfr _ _ _ _ _ hs;exact hents j _ hj (hall j _ hj) hb
  have:=vZ hΓ hT (ops.toList.drop p) p (ops:=ops) (ro:=none) (n:=n) (Q:=fun e a w=>e=.normal/\Q .normal a w) rfl hkk hW' hR' (hG.mono hle) (hY.mono hle (zc _)) (PanAt.of hNP) (fun a' w' ⟨M2,E2,t2,o2,q1,q2,q3,q4,q5⟩=>⟨rfl,hQ _ _ ⟨M2,E2,t2,o2,zp hle q1,q2,q3,q4,q5⟩⟩)
  simpa using this
end
end Go.Sx
namespace Go.Sx
open Go Go.RowKit
variable {k:List (Nat × D)->List Own->Prop}{Q:Exit->Act->World->Prop}{tm:List (Nat × D)}{ops:Array Oper}{ro:Option Nat}{all:List Oper}{N:Nat}{n:Nat}
def bitB (ops:List Oper) (x j:Nat):Prop:=((xJ ops []).getD x 0).testBit j=true
theorem zi9 {all:List Oper}{tm:List (Nat × D)}:∀ {l:List Nat}{t:Nat}{d:D},lk (zja all tm l) t=some d->d=.junk\/(lk tm t=some d/\∀ j∈l,uf all j≠some t)
 | [],t,d,h=>.inr ⟨h,fun j hj=>by simp at hj⟩
 | i::l,t,d,h=>by
  simp only[zja] at h;split at h
  ·rename_i s hs;rw[za1] at h;split at h
   ·simp at h;exact .inl h.symm
   ·rename_i hne;rcases zi9 h with h1|⟨h1,h2⟩
    ·exact .inl h1
    ·refine .inr ⟨h1,fun j hj=>?_⟩
     rcases List.mem_cons.1 hj with rfl|hj
     ·rw[hs];intro e;exact hne (Option.some.inj e)
     ·exact h2 j hj
  ·rename_i hs;rcases zi9 h with h1|⟨h1,h2⟩
   ·exact .inl h1
   ·refine .inr ⟨h1,fun j hj=>?_⟩
    rcases List.mem_cons.1 hj with rfl|hj
    ·rw[hs];simp
    ·exact h2 j hj
theorem zek {all:List Oper}{tm0 tm:List (Nat × D)}:∀ {l:List Nat}{t:Nat}{d:D},lk (zit all tm0 l tm) t=some d->(∃ j∈l,uf all j=some t/\lk tm0 t=some d)\/lk tm t=some d
 | [],t,d,h=>.inr h
 | i::l,t,d,h=>by
  simp only[zit] at h;split at h
  ·rename_i s hs;split at h
   ·rename_i d' hd';rw[za1] at h;split at h
    ·rename_i hst;subst hst;exact .inl ⟨i,by simp,hs,by rw[hd'];exact h⟩
    ·rcases zek h with ⟨j,hj,h1⟩|h1
     ·exact .inl ⟨j,by simp[hj],h1⟩
     ·exact .inr h1
   ·rcases zek h with ⟨j,hj,h1⟩|h1
    ·exact .inl ⟨j,by simp[hj],h1⟩
    ·exact .inr h1
  ·rcases zek h with ⟨j,hj,h1⟩|h1
   ·exact .inl ⟨j,by simp[hj],h1⟩
   ·exact .inr h1
section
variable {P:Program}{T:TT}{B:Nat}{w0 w w':World}{M0 M M':Mem}{E E':List Value}{ow:List Own}{Γ:Ctx}{Gl:Nat->Option D}{Y:Ys}{dv:List Deferred}
def ChkOk (Γ:Ctx) (T:TT) (Gl:Nat->Option D) (N:Nat) (all:List Oper) (i:Nat) (tm:List (Nat × D)) (ow:List Own):Prop :=
 xu true Γ T Gl N all (all.drop i) 1 tm [] ow fun tm' _=>match uf all i with|some t=>lk tm' t=lk tm t|none=>False
theorem zc0 {N:Nat}{all:List Oper}{tm:List (Nat × D)}:∀ {l:List Nat}{k:Prop},zbi Γ T Gl N all l tm ow k->(∀ i∈l,ChkOk Γ T Gl N all i tm ow)/\k
 | [],k,h=>⟨fun i hi=>by simp at hi,h⟩
 | i::l,k,h=>by
  obtain ⟨h1,h2⟩:=h;obtain ⟨h3,h4⟩:=zc0 h2;refine ⟨fun j hj=>?_,h4⟩
  rcases List.mem_cons.1 hj with rfl|hj
  ·exact h1
  ·exact h3 j hj
theorem zob {N:Nat}{all:List Oper}:∀ {l:List Nat}{tm:List (Nat × D)}{k:List (Nat × D)->Prop},(∀ i∈l,i<all.length)->zbs Γ T Gl N all l tm ow k->∃ tm',k tm'/\∀ t,(∀ i∈l,uf all i≠some t)->lk tm' t=lk tm t
 | [],tm,k,_,h=>⟨tm,h,fun _ _=>rfl⟩
 | i::l,tm,k,hl,h=>by
  have hi:i<all.length:=hl i (by simp)
  simp only[zbs] at h;obtain ⟨es,h1,h2,h3⟩:=xe (all.drop i) 1 h (by simp;omega)
  obtain ⟨tm',h4,h5⟩:=zob (fun j hj=>hl j (by simp[hj])) h3;refine ⟨tm',h4,fun t ht=>?_⟩
  rw[h5 t (fun j hj=>ht j (by simp[hj]))]
  match es,h1 with
  | [e],_ =>
   have ho:(all.drop i)[0]?=some all[i]:=by simp[hi]
   have hq:=h2 0 _ e ho rfl;have hd:uf all i=some e.slot:=by
    unfold uf;rw[List.getElem?_eq_getElem hi];exact hq.dst
   show lk (zaf tm e.slot _) t=lk tm t;rw[za1,if_neg];intro he;exact ht i (by simp) (by rw[hd,he])
theorem quiet_step (hΓ:CtxOk P Gl Γ) (hT:TOk P T) {i:Nat}{o:Oper}(ho:ops[i]?=some o)
  (hq:ChkOk Γ T Gl N ops.toList i tm ow) {a:Act}(hW:WRel B w0 M0 M E ow w) (hG:GlOk M Gl) (hN:a.tmps.size=N)
  (hreads:∀ s∈xl ops.toList o,∀ d,lk tm s=some d->Rep M E d (a.tmps.getD s undef)) {K:Act->World->Prop}
  (hK:∀ t u w2 M2,o.dst=some t->t<N->M.le M2->WRel B w0 M0 M2 E ow w2->(∀ d,lk tm t=some d->Rep M2 E d u)->K (a.put (some t) u) w2):
  wpOpIn (FW ro) n P ops Q i K a w:=by
 have hi:i<ops.size:=(Array.getElem?_eq_some_iff.1 ho).1;have ho':ops.toList[i]?=some o:=by simpa using ho
 have hdrop:(ops.toList.drop i)[0]?=some o:=by simpa using ho
 unfold ChkOk at hq;obtain ⟨es,h1,h2,h3⟩:=xe (ops.toList.drop i) 1 hq (by simp;omega)
 match es,h1 with
 | [e],_ =>
 have hone:QOne true Γ T Gl N ops.toList o tm [] ow e:=h2 0 o e hdrop rfl;have hdst:=hone.dst;have htN:e.slot<N:=hone.lt;have hd0:uf ops.toList i=some e.slot:=by unfold uf;rw[ho'];exact hdst
 rw[hd0] at h3;have h3:lk (zaf tm e.slot (e.val.getD .junk)) e.slot=lk tm e.slot:=h3;rw[za1,if_pos rfl] at h3;have behind:∀ (u:Value) (w2:World) (M2:Mem),M.le M2->WRel B w0 M0 M2 E ow w2->Rep M2 E (e.val.getD .junk) u->K (a.put o.dst u) w2:=by
  intro u w2 M2 hle hW2 hr;rw[hdst];refine hK e.slot u w2 M2 hdst htN hle hW2 fun d hd=>?_;rw[<- h3] at hd;simp at hd;subst hd;exact hr
 have hopsR:∀ x∈o.op.operands.toList,∀ ok' d',(∀ s b,ok' s b=true->a.tmps.getD s undef=.bool b)->xO Gl ok' tm [] x=some d'->Rep M E d' (a.eval x):=by
  intro x hx ok' d' hokk hxd;cases x with
  | tmp t =>
   have ht:t∈xl ops.toList o:=by
    simp only[xl,List.mem_append];exact .inl (by simp only[tmpsOf,List.mem_filterMap];exact ⟨_,hx,rfl⟩)
   simp only[xO,lkG] at hxd;exact hreads t ht _ hxd
  | const v=>simp only[xO] at hxd;simp at hxd;subst hxd;exact zk _
  | global g=>simp only[xO] at hxd;exact Rep.mono (za _) (EnvLe.nil _) _ _ (hG _ _ hxd)
  | func f =>
   simp only[xO] at hxd;simp at hxd;subst hxd;simp only[Rep];exact ⟨#[],rfl,RepL.nil⟩
 unfold wpOpIn;simp only[ho];obtain ⟨dst,op,ty,pos,after,guard⟩:=o;have grd:∀ {s:Nat}{b:Bool}{j:Nat}{q:Oper},guard=some (j,b)->ops.toList[j]?=some q->q.dst=some s->s∈xl ops.toList ⟨dst,op,ty,pos,after,guard⟩:=by
  intro s b j q hgd hjq hqs;subst hgd;simp only[xl,List.mem_append];right;simp only[hjq,hqs];simp
 have got:∀ {s:Nat}{v:Value},a.tmps.getD s undef=v->v≠undef->a.tmps[s]?=some v:=by
  intro s v hv hne;rw[Array.getD_eq_getD_getElem?] at hv;cases hs:a.tmps[s]? with
  | none=>rw[hs] at hv;simp at hv;exact absurd hv.symm hne
  | some y=>rw[hs] at hv;simp at hv;rw[hv]
 cases e with
 | pl t d =>
  obtain ⟨_,_,hgd,hq⟩:=hone;simp only at hgd hq hopsR;subst hgd;have hw:Region.wanted ⟨dst,op,ty,pos,after,none⟩ (yielded ops a.tmps)=true:=rfl;simp only[hw,if_true];refine Oper.wpIn_mono ?_ (vI hΓ hT hq trivial hW hG (fun s b hb=>by simp at hb) hopsR dst ty pos after none Q)
  rintro a' w2 ⟨M2,u,rfl,hle2,hW2,hrep⟩
  exact behind u w2 M2 hle2 hW2 hrep
 | kt t s b d =>
  obtain ⟨_,_,⟨j,q,hgd,hjq,hqs⟩,hts,htm,hq⟩:=hone;simp only at hgd hq hopsR;have hrs:=grd hgd hjq hqs;subst hgd;have hsv:a.tmps.getD s undef=.bool b:=by simpa only[Rep] using hreads s hrs _ htm
  have hsome:=got hsv (by simp[undef])
  have hw:Region.wanted ⟨dst,op,ty,pos,after,some (j,b)⟩ (yielded ops a.tmps)=true:=by
   have:ops[j]?=some q:=by simpa using hjq
   simp[Region.wanted,yielded,this,hqs,hsome]
  rw[hw];simp only[if_true];refine Oper.wpIn_mono ?_ (vI hΓ hT hq trivial hW hG (fun s b hb=>by simp at hb) hopsR dst ty pos after (some (j,b)) Q)
  rintro a' w2 ⟨M2,u,rfl,hle2,hW2,hrep⟩
  exact behind u w2 M2 hle2 hW2 hrep
 | sk t s b v =>
  obtain ⟨_,_,⟨j,q,hgd,hjq,hqs⟩,hts,htm,hv⟩:=hone;simp only at hgd hopsR;have hrs:=grd hgd hjq hqs;subst hgd;have hsv:a.tmps.getD s undef=v:=by simpa only[Rep] using hreads s hrs _ htm
  have hw:Region.wanted ⟨dst,op,ty,pos,after,some (j,b)⟩ (yielded ops a.tmps)=false:=by
   have hj':ops[j]?=some q:=by simpa using hjq
   have hy:yielded ops a.tmps j≠some b:=by
    intro hy;simp only[yielded,hj',Option.bind_some,hqs] at hy;cases hs:a.tmps[s]? with
    | none=>simp[hs] at hy
    | some x =>
     rw[Array.getD_eq_getD_getElem?,hs] at hsv;simp at hsv;subst hsv;simp only[hs] at hy;cases x<;>simp at hy;subst hy;exact hv rfl
   simpa[Region.wanted] using hy
  rw[hw];simp only[Bool.false_eq_true,if_false];exact ⟨fun _ _=>trivial,behind undef w M (za _) hW (zk _)⟩
 | gd t s b d =>
  obtain ⟨_,_,⟨j,q,hgd,hjq,hqs⟩,hts,hgs,x,htm,hq⟩:=hone;simp only at hgd hq hopsR;have hrs:=grd hgd hjq hqs;subst hgd;have hsv:a.tmps.getD s undef=.bool x:=by simpa only[Rep] using hreads s hrs _ htm
  have hsome:=got hsv (by simp[undef])
  have hy:yielded ops a.tmps j=some x:=by
   have:ops[j]?=some q:=by simpa using hjq
   simp[yielded,this,hqs,hsome]
  have hw:Region.wanted ⟨dst,op,ty,pos,after,some (j,b)⟩ (yielded ops a.tmps)=(x==b):=by simp[Region.wanted,hy]
  rw[hw];by_cases hxb:x=b
  ·simp only[hxb,beq_self_eq_true,if_true];refine Oper.wpIn_mono ?_ (vI hΓ hT hq hxb hW hG (by subst hxb;intro s' b' hb;simp at hb;obtain ⟨rfl,rfl⟩:=hb;exact hsv) hopsR dst ty pos after (some (j,b)) Q)
   rintro a' w2 ⟨M2,u,rfl,hle2,hW2,hrep⟩
   exact behind u w2 M2 hle2 hW2 trivial
  ·have hf:(x==b)=false:=by simpa using hxb
   simp only[hf,Bool.false_eq_true,if_false];exact ⟨fun _ _=>trivial,behind undef w M (za _) hW trivial⟩
theorem wpIn_put {F:Fence}{o:Oper}{a:Act}{K:Act->World->Prop}(hh:o.wpIn F n P a w K Q):
  o.wpIn F n P a w (fun a' w'=>K a' w'/\∃ u,a'.tmps=(a.put o.dst u).tmps) Q:=by
 unfold Oper.wpIn at *
 refine ⟨hh.1,?_⟩
 have hh:=hh.2;generalize (o.semAt F.round a.eval).run P w=r at *
 cases r with
 | ok x w' =>
  cases x<;>simp only[Oper.uponIn] at hh ⊢ <;>
   first
    | exact ⟨hh,_,rfl⟩
    | exact ⟨hh.1,CallsIn.mono hh.2 (fun e w'' he=>by cases e<;>first|exact ⟨he,_,rfl⟩|exact he)⟩
    | exact ⟨hh.1,RowsIn.mono hh.2 (fun _ _ he=>⟨he,_,rfl⟩)⟩
    | exact ⟨hh.1,RoundIn.mono hh.2 (fun e w'' he=>by cases e<;>first|exact ⟨he,_,rfl⟩|exact he)⟩
    | (refine ⟨hh,undef,?_⟩;cases o.dst<;>rfl)
 | halt x w'=>cases x<;>simp only[Oper.uponIn] at hh ⊢ <;> exact hh
end
section
variable {P:Program}{T:TT}{B:Nat}{w0 w w':World}{M0 M M':Mem}{E E':List Value}{ow:List Own}{Γ:Ctx}{Gl:Nat->Option D}{Y:Ys}{dv:List Deferred}
theorem put_ne {a:Act}{dst:Option Nat}{u:Value}{t:Nat}(h:dst≠some t):(a.put dst u).tmps.getD t undef=a.tmps.getD t undef:=by
 cases dst with
 | none=>rfl
 | some s =>
  have hne:s≠t:=fun e=>h (by rw[e])
  simp only[Act.put,Array.getD_eq_getD_getElem?,Array.getElem?_setIfInBounds,if_neg hne]
structure StgOk (ops:List Oper) (known pend:List Nat):Prop where
 sub:∀ x∈pend,x<ops.length
 kn:∀ x∈pend,x∈known
 rd:∀ x∈pend,∀ (o:Oper),ops[x]?=some o->∀ j∈pend,∀ t,uf ops j=some t->t∈xl ops o->bitB ops x j
theorem zhl {ops:List Oper}{known pend new:List Nat}(h:okStg ops (xJ ops []) known pend new=true) (hp:∀ x∈pend,x<ops.length/\x∈known):
  StgOk ops (known++new) (pend++new)/\∀ i∈new,i<ops.length/\i ∉ known:=by
 simp only[okStg,Bool.and_eq_true,List.all_eq_true] at h;obtain ⟨h1,h2⟩:=h;have hn:∀ i∈new,i<ops.length/\i ∉ known:=fun i hi=>by
  have:=h1 i hi;simp only[decide_eq_true_eq,Bool.not_eq_true',List.contains_eq_mem,decide_eq_false_iff_not] at this;exact this
 refine ⟨⟨fun x hx=>?_,fun x hx=>?_,fun x hx o ho j hj t ht htr=>?_⟩,hn⟩
 ·rcases List.mem_append.1 hx with h|h
  ·exact (hp x h).1
  ·exact (hn x h).1
 ·rcases List.mem_append.1 hx with h|h
  ·exact List.mem_append_left _ (hp x h).2
  ·exact List.mem_append_right _ h
 ·have:=h2 x hx;rw[ho] at this;simp only[List.all_eq_true] at this;have:=this j hj;rw[ht] at this;simp only[Bool.or_eq_true,Bool.not_eq_true',List.contains_eq_mem,decide_eq_false_iff_not] at this;rcases this with h|h
  ·exact absurd htr h
  ·exact h
def zi4:Sch->List Nat
 | .done l=>l
 | .stage l _=>l
 | _=>[]
def inner (Γ:Ctx) (Y:Ys) (T:TT) (Gl:Nat->Option D) (N:Nat) (all:List Oper) (pend:List Nat) (tm:List (Nat × D)) (ow:List Own) (k:List (Nat × D)->List Own->Prop):Sch->Prop
 | .done _=>zbi Γ T Gl N all pend tm ow (k tm ow)
 | .stage _ alts=>zbi Γ T Gl N all pend tm ow (yf Γ Y T Gl N all alts [] tm ow k)
 | _=>False
theorem zf5 {pend:List Nat}:∀ {sch:Sch},zcy sch=true->yf Γ Y T Gl N all sch pend tm ow k->(∀ i∈zi4 sch,i<all.length) ->
  ∃ tm',inner Γ Y T Gl N all (pend++zi4 sch) tm' ow k sch/\∀ t,(∀ i∈zi4 sch,uf all i≠some t)->lk tm' t=lk tm t
 | .done last,_,h,hl=>by
  simp only[yf] at h;exact zob hl h
 | .stage new alts,_,h,hl=>by
  simp only[yf] at h;exact zob hl h
 | .nil,hn,_,_=>by simp[zcy] at hn
 | .alt _ _ _ _,hn,_,_=>by simp[zcy] at hn
structure AltOk (ops:List Oper) (known pend:List Nat) (c:Nat) (late:List Nat) (sub:Sch):Prop where
 lt:c<ops.length
 nk:c ∉ known
 node:zcy sub=true
 lates:∀ i∈pend,i∈late\/bitB ops c i
 dsts:∀ j∈late,j∈pend/\∀ t,uf ops j=some t->uf ops c≠some t
 ok:okSc ops (xJ ops []) sub (known++[c]) late=true
theorem alt_rest {c:Nat}{late pend:List Nat}{sub rest:Sch}(h:yf Γ Y T Gl N all (.alt c late sub rest) pend tm ow k):
  (xD Γ Y T Gl N all c late tm ow fun tm' ow'=>yf Γ Y T Gl N all sub late tm' ow' k)/\((∃ x,x∈xv rest)->yf Γ Y T Gl N all rest [] tm ow k):=by
 cases rest with
 | nil=>exact ⟨h,fun ⟨x,hx⟩=>by simp[xv] at hx⟩
 | done l=>exact ⟨h.1,fun _=>h.2⟩
 | stage l a=>exact ⟨h.1,fun _=>h.2⟩
 | alt c' l' s' r'=>exact ⟨h.1,fun _=>h.2⟩
theorem alt_find {N:Nat}{ops:List Oper}{known pend:List Nat}{tm:List (Nat × D)}{k:List (Nat × D)->List Own->Prop}{c:Nat}:∀ {alts:Sch}{pd:List Nat},okSc ops (xJ ops []) alts known pend=true->yf Γ Y T Gl N ops alts pd tm ow k->c∈xv alts ->
  ∃ late sub,AltOk ops known pend c late sub/\xD Γ Y T Gl N ops c late tm ow fun tm' ow'=>yf Γ Y T Gl N ops sub late tm' ow' k
 | .done _,pd,_,_,h=>by simp[xv] at h
 | .stage _ _,pd,_,_,h=>by simp[xv] at h
 | .nil,pd,_,_,h=>by simp[xv] at h
 | .alt c' late sub rest,pd,hok,hex,h=>by
  simp only[okSc,Bool.and_eq_true] at hok;obtain ⟨⟨⟨⟨⟨⟨h1,h2⟩,h3⟩,h4⟩,h5⟩,h6⟩,h7⟩:=hok;obtain ⟨e1,e2⟩:=alt_rest hex;simp only[xv] at h;rcases List.mem_cons.1 h with rfl|h
  ·refine ⟨late,sub,⟨by simpa using h1,by simpa using h2,h3,fun i hi=>?_,fun j hj=>?_,h6⟩,e1⟩
   ·simp only[List.all_eq_true,Bool.or_eq_true,List.contains_eq_mem,decide_eq_true_eq] at h4;exact h4 i hi
   ·simp only[List.all_eq_true,Bool.and_eq_true,List.contains_eq_mem,decide_eq_true_eq] at h5;obtain ⟨h8,h9⟩:=h5 j hj;refine ⟨h8,fun t ht hc=>?_⟩
    rw[ht,hc] at h9;simp at h9
  ·exact alt_find h7 (e2 ⟨_,h⟩) h
def InOk (ops:List Oper) (known pend:List Nat):Sch->Prop
 | .done _=>∀ i,i<ops.length->i∈known
 | .stage _ alts=>(∀ i,i<ops.length->i∈known\/i∈xv alts\/∃ c∈xv alts,bitB ops i c)/\(∃ c,c∈xv alts)/\okSc ops (xJ ops []) alts known pend=true
 | _=>False
theorem okSc_in {ops:List Oper}{known pend:List Nat}:∀ {sch:Sch},zcy sch=true->okSc ops (xJ ops []) sch known pend=true->(∀ x∈pend,x<ops.length/\x∈known) ->
  StgOk ops (known++zi4 sch) (pend++zi4 sch)/\(∀ i∈zi4 sch,i<ops.length/\i ∉ known)/\InOk ops (known++zi4 sch) (pend++zi4 sch) sch
 | .done last,_,h,hp=>by
  simp only[okSc,Bool.and_eq_true,List.all_eq_true,List.mem_range,List.contains_eq_mem,decide_eq_true_eq] at h;obtain ⟨g1,g2⟩:=zhl h.1 hp;exact ⟨g1,g2,h.2⟩
 | .stage new alts,_,h,hp=>by
  simp only[okSc,Bool.and_eq_true] at h;obtain ⟨⟨⟨h1,h2⟩,h3⟩,h4⟩:=h;obtain ⟨g1,g2⟩:=zhl h1 hp;refine ⟨g1,g2,fun i hi=>?_,?_,h4⟩
  ·simp only[List.all_eq_true,List.mem_range,Bool.or_eq_true,List.contains_eq_mem,decide_eq_true_eq,List.any_eq_true] at h2;exact h2 i hi
  ·cases he:xv alts with
   | nil=>rw[he] at h3;simp at h3
   | cons c l=>exact ⟨c,by simp⟩
 | .nil,hn,_,_=>by simp[zcy] at hn
 | .alt _ _ _ _,hn,_,_=>by simp[zcy] at hn
theorem sch_any (hΓ:CtxOk P Gl Γ) (hT:TOk P T) (hG:GlOk M Gl) (hY:YOk P Gl B w0 M E Y) (hP:PanAt dv N B w0 M0 M E Y Q)
  (hback:∀ (i:Nat) (o:Oper),ops[i]?=some o->∀ d∈zb4 o,d<i) (hQ:∀ a' w',Next dv N B w0 M0 M E [] k a' w'->Q .normal a' w'):
  ∀ (fuel:Nat) (sch:Sch) (known pend:List Nat) (tm:List (Nat × D)) (ow:List Own) (M1:Mem) (E1:List Value) (listed:Array Bool) (a:Act) (w:World),StgOk ops.toList known pend->InOk ops.toList known pend sch ->
   listed.size=ops.size->vc ops.toList (LS listed)->(∀ i,LS listed i->i∈known)->(∀ i∈known,LS listed i\/i∈pend) ->
   inner Γ Y T Gl N ops.toList pend tm ow k sch->M.le M1->EnvLe E E1->WRel B w0 M0 M1 E1 ow w->a.tmps.size=N->a.defers=dv ->
   (∀ t d,lk tm t=some d->(∀ i∈pend,uf ops.toList i=some t->LS listed i)->Rep M1 E1 d (a.tmps.getD t undef)) ->
   unl ops.size (fun j=>listed.getD j false)<=fuel->wpAnyIn (FW ro) n P .any ops Q fuel listed a w:=by
 have alt_lt:∀ {alts:Sch}{known pend:List Nat}{c:Nat},okSc ops.toList (xJ ops.toList []) alts known pend=true->c∈xv alts->c<ops.toList.length/\c ∉ known:=by
  intro alts
  induction alts with
  | done _=>intro known pend c _ h;simp[xv] at h
  | stage _ _ _=>intro known pend c _ h;simp[xv] at h
  | nil=>intro known pend c _ h;simp[xv] at h
  | alt c' late sub rest _ ih =>
   intro known pend c hok h;simp only[okSc,Bool.and_eq_true] at hok;obtain ⟨⟨⟨⟨⟨⟨h1,h2⟩,h3⟩,h4⟩,h5⟩,h6⟩,h7⟩:=hok;simp only[xv] at h;rcases List.mem_cons.1 h with rfl|h
   ·exact ⟨by simpa using h1,by simpa using h2⟩
   ·exact ih h7 h
 have full:∀ (sch:Sch) (known pend:List Nat) (tm:List (Nat × D)) (ow:List Own) (M1:Mem) (E1:List Value) (listed:Array Bool) (a:Act) (w:World),InOk ops.toList known pend sch->(∀ i,LS listed i->i∈known)->inner Γ Y T Gl N ops.toList pend tm ow k sch->M.le M1->EnvLe E E1->WRel B w0 M0 M1 E1 ow w->a.tmps.size=N->a.defers=dv ->
   (∀ t d,lk tm t=some d->(∀ i∈pend,uf ops.toList i=some t->LS listed i)->Rep M1 E1 d (a.tmps.getD t undef))->(∀ i,i<ops.size->LS listed i)->(∀ i∈pend,i<ops.size)->Q .normal a w:=by
  intro sch known pend tm ow M1 E1 listed a w hin hk hi hM hE hW hN hdf hT1 hall hps
  match sch,hin,hi with
  | .done _,hin,hi =>
   obtain ⟨_,h2⟩:=zc0 hi;exact hQ _ _ ⟨M1,E1,tm,ow,hM,hE,h2,hW,⟨hN,hdf,fun t d hd=>hT1 t d hd fun i hip _=>hall i (hps i hip),fun t s b d hd=>by simp[lkG] at hd⟩⟩
  | .stage _ alts,hin,_ =>
   obtain ⟨_,⟨c,hc⟩,h3⟩:=hin;obtain ⟨h1,h2⟩:=alt_lt h3 hc;exact absurd (hk c (hall c (by simpa using h1))) h2
 intro fuel
 induction fuel with
 | zero =>
  intro sch known pend tm ow M1 E1 listed a w hst hin hsz hcl hD1 hD2 hi hM hE hW hN hdf hT1 hf;have hall:∀ i,i<ops.size->LS listed i:=fun i hi=>zie ops.size (Nat.le_zero.1 hf) i hi;refine ⟨?_,full sch known pend tm ow M1 E1 listed a w hin hD1 hi hM hE hW hN hdf hT1 hall (fun i hi=>by simpa using hst.sub i hi)⟩
  rw[List.eq_nil_iff_forall_not_mem];intro i hi;obtain ⟨o,ho,h0,_⟩:=(yT hsz).1 hi;exact h0 (hall i (Array.getElem?_eq_some_iff.1 ho).1)
 | succ fuel ih =>
  intro sch known pend tm ow M1 E1 listed a w hst hin hsz hcl hD1 hD2 hi hM hE hW hN hdf hT1 hf;refine ⟨fun hnil=>?_,fun i hir=>?_⟩
  ·-- nothing is ready: all is done
   refine full sch known pend tm ow M1 E1 listed a w hin hD1 hi hM hE hW hN hdf hT1 (fun i hi=>?_) (fun i hi=>by simpa using hst.sub i hi)
   refine Classical.byContradiction fun hno=>?_;obtain ⟨m,⟨hm1,hm2⟩,hmin⟩:=least (fun i=>i<ops.size/\¬LS listed i) ⟨i,hi,hno⟩
   have hom:ops[m]?=some (ops[m]'hm1):=by simp[hm1]
   have:m∈Region.ready .any ops listed:=(yT hsz).2 ⟨_,hom,hm2,fun d hd=>by
    have hlt:=hback m _ hom d hd;refine Classical.byContradiction fun hl=>?_;have:=hmin d ⟨by omega,hl⟩;omega⟩
   rw[hnil] at this;simp at this
  ·obtain ⟨o,ho,h0,hd⟩:=(yT hsz).1 hir;have hi':i<ops.size:=(Array.getElem?_eq_some_iff.1 ho).1;have ho':ops.toList[i]?=some o:=by simpa using ho
   have hiS:i<listed.size:=by rw[hsz];exact hi'
   have h1:(fun j=>listed.getD j false) i=false:=by unfold LS at h0;simpa using h0
   have h2:(fun j=>(listed.setIfInBounds i true).getD j false) i=true:=(yF hiS i).2 (.inl rfl)
   have hun:=zif (f:=fun j=>listed.getD j false) (f':=fun j=>(listed.setIfInBounds i true).getD j false) h1 h2 (fun j hj=>getD_set_ne false (fun e=>hj e.symm)) ops.size hi';by_cases hip:i∈pend
   ·-- a quiet one
    have hck:ChkOk Γ T Gl N ops.toList i tm ow:=by
     match sch,hi with
     | .done _,hi=>exact (zc0 hi).1 i hip
     | .stage _ _,hi=>exact (zc0 hi).1 i hip
    refine quiet_step hΓ hT ho hck hW (hG.mono hM) hN (fun s hs d hsd=>?_) ?_
    ·exact hT1 s d hsd fun j hj hjd=>yk hcl ho' (hst.rd i hip o ho' j hj s hjd hs) hd
    ·intro t u w2 M2 hdt htN hle hW2 hu;refine ih sch known pend tm ow M2 E1 _ _ w2 hst hin (by simp[hsz]) (zbk hsz hcl ho hd) (fun j hj=>?_) (fun j hj=>?_) hi (zp hM hle) hE hW2 (by simp[Act.put,hN]) (by simp[Act.put,hdf]) (fun s d hsd hl=>?_) (by omega)
     ·rcases (yF hiS j).1 hj with rfl|hj
      ·exact hst.kn _ hip
      ·exact hD1 j hj
     ·rcases hD2 j hj with h|h
      ·exact .inl ((yF hiS j).2 (.inr h))
      ·exact .inr h
     ·rw[zP hN htN];by_cases hst':s=t
      ·rw[if_pos hst'];subst hst';exact hu d hsd
      ·rw[if_neg hst'];refine Rep.mono hle (zc _) _ _ (hT1 s d hsd fun j hj hjd=>?_)
       rcases (yF hiS j).1 (hl j hj hjd) with rfl|h
       ·have:uf ops.toList j=some t:=by unfold uf;rw[ho'];exact hdt
        rw[this] at hjd;exact absurd (Option.some.inj hjd).symm hst'
       ·exact h
   ·-- the one that ends the stage
    have hik:i ∉ known:=fun hk=>(hD2 i hk).elim h0 hip
    match sch,hin,hi with
    | .done _,hin,_=>exact absurd (hin i (by simpa using hi')) hik
    | .stage new0 alts,hin,hi =>
    obtain ⟨c1,_,c3⟩:=hin;have hia:i∈xv alts:=by
     rcases c1 i (by simpa using hi') with h|h|⟨q,hq1,hq2⟩
     ·exact absurd h hik
     ·exact h
     ·exact absurd (hD1 q (yk hcl ho' hq2 hd)) (alt_lt c3 hq1).2
    obtain ⟨_,h3⟩:=zc0 hi;obtain ⟨late,sub,hal,h3⟩:=alt_find c3 h3 hia;have hlate:∀ x∈late,x<ops.toList.length/\x∈known++[i]:=fun x hx=>⟨hst.sub x (hal.dsts x hx).1,List.mem_append_left _ (hst.kn x (hal.dsts x hx).1)⟩
    have hdone:∀ j∈pend,j ∉ late->LS listed j:=fun j hj hjl=>(hal.lates j hj).elim (fun h=>absurd h hjl) (fun h=>yk hcl ho' h hd)
    unfold xD at h3;rw[ho'] at h3;obtain ⟨dst,op,ty,pos,after,guard⟩:=o;cases guard with
    | some g=>exact h3.elim
    | none =>
    have h3:zkf true Γ Y T Gl N op dst (zja ops.toList tm late) [] ow fun tm' ow'=>yf Γ Y T Gl N ops.toList sub late (zit ops.toList tm late tm') ow' k:=h3;have hdc:uf ops.toList i=dst:=by unfold uf;rw[ho']
    have hR:TRel dv N M1 E1 (zja ops.toList tm late) [] a:=by
     refine ⟨hN,hdf,fun t d hd'=>?_,fun t s b d hs=>by simp[lkG] at hs⟩
     rcases zi9 hd' with rfl|⟨h4,h5⟩
     ·trivial
     ·refine hT1 t d h4 fun j hj hjd=>?_;by_cases hjl:j∈late
      ·exact absurd hjd (h5 j hjl)
      ·exact hdone j hj hjl
    unfold wpOpIn;simp only[ho];have hw:Region.wanted ⟨dst,op,ty,pos,after,none⟩ (yielded ops a.tmps)=true:=rfl;simp only[hw,if_true];refine Oper.wpIn_mono ?_ (wpIn_put (zdh hΓ hT h3 hW hR (hG.mono hM) (hY.mono hM hE) ty pos after none Q (hP.mono hM hE)))
    rintro a' w2 ⟨⟨M2,E2,tm2,ow2,hle,hE2,hk2,hW2,hR2⟩,u,hput⟩
    obtain ⟨s1,s2,s3⟩:=okSc_in hal.node hal.ok hlate;obtain ⟨tm',s4,s5⟩:=zf5 hal.node hk2 (fun j hj=>(s2 j hj).1)
    refine ih sub _ _ tm' ow2 M2 E2 _ a' w2 s1 s3 (by simp[hsz]) (zbk hsz hcl ho hd) (fun j hj=>?_) (fun j hj=>?_) s4 (zp hM hle) (hE.trans hE2) hW2 hR2.size hR2.defers (fun t d htd hl=>?_) (by omega)
    ·refine List.mem_append_left _ ?_;rcases (yF hiS j).1 hj with rfl|h
     ·exact List.mem_append_right _ (by simp)
     ·exact List.mem_append_left _ (hD1 j h)
    ·rcases List.mem_append.1 hj with h|h
     ·rcases List.mem_append.1 h with h|h
      ·rcases hD2 j h with h|h
       ·exact .inl ((yF hiS j).2 (.inr h))
       ·by_cases hjl:j∈late
        ·exact .inr (List.mem_append_left _ hjl)
        ·exact .inl ((yF hiS j).2 (.inr (hdone j h hjl)))
      ·simp at h;subst h;exact .inl ((yF hiS j).2 (.inl rfl))
     ·exact .inr (List.mem_append_right _ h)
    ·have hnew:∀ j∈zi4 sub,uf ops.toList j≠some t:=fun j hj hjt=>by
      have h6:=(s2 j hj).2;rcases (yF hiS j).1 (hl j (List.mem_append_right _ hj) hjt) with rfl|h
      ·exact h6 (List.mem_append_right _ (by simp))
      ·exact h6 (List.mem_append_left _ (hD1 j h))
     rw[s5 t hnew] at htd;rcases zek htd with ⟨j,hj,hjt,h7⟩|h7
     ·have hct:dst≠some t:=by rw[<- hdc];exact (hal.dsts j hj).2 t hjt
      rw[hput,put_ne hct];refine Rep.mono hle hE2 _ _ (hT1 t d h7 fun m hm hmt=>?_)
      by_cases hml:m∈late
      ·rcases (yF hiS m).1 (hl m (List.mem_append_left _ hml) hmt) with rfl|h
       ·rw[hdc] at hmt;exact absurd hmt hct
       ·exact h
      ·exact hdone m hm hml
     ·exact hR2.tmps t d h7
end
section
variable {P:Program}{T:TT}{B:Nat}{w0 w w':World}{M0 M M':Mem}{E E':List Value}{ow:List Own}{Γ:Ctx}{Gl:Nat->Option D}{Y:Ys}{dv:List Deferred}
theorem zn9 (hΓ:CtxOk P Gl Γ) (hT:TOk P T) (hmix:P.follows .mixedOrders=true) {sch:Sch}(hok:okSch ops.toList sch=true)
  {tm:List (Nat × D)}{k:List (Nat × D)->List Own->Prop}{a:Act}{id:Nat}
  (h:yf Γ Y T Gl N ops.toList sch [] tm ow k) (hW:WRel B w0 M0 M E ow w) (hR:TRel dv N M E tm [] a) (hG:GlOk M Gl) (hY:YOk P Gl B w0 M E Y) (hP:PanAt dv N B w0 M0 M E Y Q)
  (hQ:∀ a' w',Next dv N B w0 M0 M E [] k a' w'->Q .normal a' w'):(Code.region id ops true).wpIn (FW ro) n P Q a w:=by
 simp only[okSch,Bool.and_eq_true,List.all_eq_true,List.mem_range] at hok;obtain ⟨⟨hk1,hnode⟩,hk2⟩:=hok;have hback:∀ (i:Nat) (o:Oper),ops[i]?=some o->∀ d∈zb4 o,d<i:=by
  intro i o ho d hd;have hi:=(Array.getElem?_eq_some_iff.1 ho).1;have:=hk1 i (by simpa using hi)
  have ho':ops.toList[i]?=some o:=by simpa using ho
  rw[ho'] at this;simp only[List.all_eq_true,decide_eq_true_eq] at this;exact this d hd
 have hW2:WRel B w0 M0 M E ow { w with drawn:=w.drawn+1 }:=⟨hW.fits,hW.base,hW.below.trans ⟨rfl,rfl,rfl,Nat.le_refl _,fun _ _=>rfl⟩,hW.len,fun i o v ho hv=>(hW.holds i o v ho hv).frame (fun _ _ _=>rfl) (za _) (zc _) (fun b hf hb=>((hW.holds i o v ho hv).lt (Own.free_live hf) hb).2.2 hf),hW.inj,hW.mle,hW.new⟩
 have hnot:∀ q,¬LS (Array.replicate ops.size false) q:=by
  intro q hS;simp[LS,Array.getD_eq_getD_getElem?,Array.getElem?_replicate] at hS;split at hS<;>simp at hS
 have hun:∀ m f,unl m f<=m:=by
  intro m f
  induction m with
  | zero=>simp[unl]
  | succ m ih=>simp only[unl];split<;>omega
 obtain ⟨s1,s2,s3⟩:=okSc_in hnode hk2 (by simp)
 obtain ⟨tm',s4,s5⟩:=zf5 hnode h (fun j hj=>(s2 j hj).1)
 refine wpIn_region_any hmix (sch_any hΓ hT hG hY hP hback hQ ops.size sch _ _ tm' ow M E _ a _ s1 s3 (by simp) (fun j o hj hS=>absurd hS (hnot j)) (fun j hj=>absurd hj (hnot j)) (fun j hj=>.inr hj) s4 (za _) (zc _) hW2 hR.size hR.defers (fun t d hd hl=>?_) (hun _ _))
 refine hR.tmps t d ?_;rw[<- s5 t fun j hj hjt=>hnot j (hl j (List.mem_append_right _ hj) hjt)];exact hd
end
end Go.Sx
