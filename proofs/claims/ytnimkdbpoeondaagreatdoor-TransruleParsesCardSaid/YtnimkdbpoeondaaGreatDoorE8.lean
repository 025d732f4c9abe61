import Derived.RecoverIn
import Derived.Test.YtnimkdbpoeondaaGreatDoorE6
set_option linter.all false
namespace Go.Sx
open Go Go.RowKit
variable {after:Array Edge}{ops:Array Oper}{pos:String}{ty:TypeId}{id:Nat}{t:Nat}
def zai:FrameMode->Value × FrameMode
 | .panicking ({ v,recovered:=false,goexit:=false }::older)=>(v,.panicking ({ v,recovered:=true }::older))
 | u=>(.nilIface,u)
theorem zk5 (c₀:Frame) (cs:List Frame):(recoverD (c₀::cs)=some ((zai c₀.mode).1,{ c₀ with mode:=(zai c₀.mode).2 }::cs))\/(recoverD (c₀::cs)=none/\zai c₀.mode=(.nilIface,c₀.mode)):=by
 unfold zai;simp only[recoverD];cases hm:c₀.mode with
 | run=>right;simp
 | returning=>right;simp
 | panicking ch =>
  cases ch with
  | nil=>right;simp
  | cons e older =>
   obtain ⟨v,r,g⟩:=e;cases r<;>cases g<;>simp
section
variable {P:Program}
theorem wpSIn_rec {n:Nat}{Q:Exit->Act->List Frame->World->Prop}{a:Act}{c₀:Frame}{cs:List Frame}{w:World}
  (ho:ops[0]?=some ⟨some t,.call ⟨.builtin .recover,#[],#[]⟩,ty,pos,after,none⟩)
  (h:wpOpsIn Fence.wide n P ops (fun e a' w'=>Q e a' ({ c₀ with mode:=(zai c₀.mode).2 }::cs) w') (List.range' 1 (ops.size - 1)) (a.put (some t) (zai c₀.mode).1) w):(Code.region id ops false).wpSIn Fence.wide n P Q a (c₀::cs) w:=by
 intro b k hb hro hF hroom;obtain ⟨e,a',w',q,arr⟩:=wp_opsIn _ _ _ h b k ({ c₀ with mode:=(zai c₀.mode).2 }::cs) hro hF hroom;have hsz:0<ops.size:=(Array.getElem?_eq_some_iff.1 ho).1;have hr:List.range ops.size=0::List.range' 1 (ops.size - 1):=by
  rw[List.range_eq_range',show ops.size=(ops.size - 1)+1 by omega,List.range'_succ];simp
 have i0:(lone (b.atR a (.code (.region id ops false)::k)) (c₀::cs) w).fenced P Fence.wide:=fenced_calm hF hroom rfl;have habout:∀ f,(⟨some t,.call ⟨.builtin .recover,#[],#[]⟩,ty,pos,after,none⟩:Oper).about P w a.eval=some f->Fence.wide.fn f:=fun _ _=>trivial;have i1:(lone (b.atR a (.inRegion ops (0::List.range' 1 (ops.size - 1))::k)) (c₀::cs) w).fenced P Fence.wide:=fenced_oper hF hroom ho habout;have hw:Region.wanted (⟨some t,.call ⟨.builtin .recover,#[],#[]⟩,ty,pos,after,none⟩:Oper) (yielded ops a.tmps)=true:=rfl;have hg:=stepGR_op (P:=P) (b:=b) (k:=k) (cs:=c₀::cs) (w:=w) (rest:=List.range' 1 (ops.size - 1)) ho hw;rw[hro,Oper.semAt_none] at hg;have hfin:∀ v,(b.atR a (.inRegion ops (0::List.range' 1 (ops.size - 1))::k)).finish v=b.atR (a.put (some t) v) (.inRegion ops (List.range' 1 (ops.size - 1))::k):=by
  intro v;rw[Frame.finish_atR,ho];rfl
 have hrun:(execOp a.eval (⟨some t,.call ⟨.builtin .recover,#[],#[]⟩,ty,pos,after,none⟩:Oper)).run P w=.ok .recover w:=by
  simp[execOp,resolve,invoke,builtin]
 have htr:=tryRecover_deferred (fr:=b.atR a (.inRegion ops (0::List.range' 1 (ops.size - 1))::k)) hb (c₀::cs)
 refine ⟨e,a',_,w',by simp,q,.of_steps (.head i0 (hr ▸ stepR_region) (.one i1 (step_lone_go ?_))) arr⟩
 rw[hg,<- hfin];simp only[Frame.atR,hro] at htr ⊢;rcases zk5 c₀ cs with h1|⟨h1,h2⟩
 ·simp[stepG.apply,hrun,htr,h1]
 ·simp[stepG.apply,hrun,htr,h1,h2]
variable {T:TT}{B:Nat}{w0 w:World}{M0 M:Mem}{E:List Value}{ow:List Own}
theorem zh2 {cc:Bool}{Γ:Ctx}{Gl:Nat->Option D}(hΓ:CtxOk P Gl Γ) (hT:TOk P T) (hmix:P.follows .mixedOrders=true) {f:FuncId}{fn:Func}{c2:Code}(hf:P.funcs[f]?=some fn) (hb:fn.body=some (.seq (.region id ops false) c2)) (hres:fn.results.toList=[])
  (ho:ops[0]?=some ⟨some t,.call ⟨.builtin .recover,#[],#[]⟩,ty,pos,after,none⟩) (ht:t<fn.ntmps) {u:FrameMode}{dv:D}{ds:List D}{us:Array Value}{k:List Own->Prop}{n:Nat}(hlen:ds.length<=fn.ntmps) (hdv:Rep M E dv (zai u).1)
  (h:yV cc Γ Ys.none T Gl fn.ntmps ops.toList (ops.toList.drop 1) (zaf (vT 0 ds) t dv) [] ow fun tm ow1=>ex cc Γ T Gl fn.ntmps c2 Ys.none ow.length false ⟨tm,ow1,[]⟩ fun e s=>match e with | .ret=>s.df=[]/\k s.ow | .normal=>s.df=[]/\k s.ow|_=>False)
  (hW:WRel B w0 M0 M E ow w) (hG:GlOk M Gl) (hds:RepL M E ds us.toList):
  CallsDIn Fence.wide n P f us u w fun e u' w'=>(∃ v,e=.returned v)/\u'=(zai u).2/\∃ M' E' ow',M.le M'/\EnvLe E E'/\k ow'/\WRel B w0 M0 M' E' ow' w':=by
 refine callsDIn_of_wpSIn hf hb trivial fun c₀ cs hu=>?_;subst hu;refine wpSIn_seq (wpSIn_rec ho ?_)
 have hs:=TRel.start hds hlen;have hlk:TRel [] fn.ntmps M E (zaf (vT 0 ds) t dv) [] ((({ tmps:=us++Array.replicate (fn.ntmps - us.size) undef,defers:=[] }:Act)).put (some t) (zai c₀.mode).1):=hs.put (za _) (zc _) hdv ht rfl;have hlen2:(ops.toList.drop 1).length=ops.size - 1:=by simp
 rw[<- hlen2];refine uq (ro:=none) hΓ hT (ops.toList.drop 1) [] 1 (by simp) h hW.self hlk hG YOk.none PanAt.none ?_;rintro a' w' ⟨M1,E1,tm1,ow1,q1,q2,q3,q4,q5⟩
 show c2.wpSIn Fence.wide n P _ a' _ w';refine wpSIn_of_wpIn rfl ?_;refine yH (ro:=none) (E0:=E) (m:=ow.length) (M0:=M) hΓ hT hmix c2 q3 hG YOk.none (by rw[hW.len];exact Nat.le_refl _) (fun _=>rfl) q4 q5 rfl q2 ?_;rintro e a2 w2 ⟨M',E',s',dv',p1,p2,p3,p4,p5,p6⟩
 have key:TRel dv' fn.ntmps M' E' s'.tm [] a2->(s'.df=[]/\k s'.ow)->a2.defers=[]/\∃ u',({ c₀ with mode:=(zai c₀.mode).2 }::cs)={ c₀ with mode:=u' }::cs/\∃ v,(results fn a2.tmps).run P w2=.ok v w2/\((∃ v',Ending.returned v=.returned v')/\u'=(zai c₀.mode).2/\∃ M' E' ow',M.le M'/\EnvLe E E'/\k ow'/\WRel B w0 M0 M' E' ow' w2):=by
  rintro p4 ⟨hdf,hk⟩
  rw[hdf] at p5;have hdv':dv'=[]:=p5;refine ⟨by rw[p4.defers,hdv'],_,rfl,retV [],xV (us:=[]) (by rw[hres];simp),⟨_,rfl⟩,rfl,M',E',s'.ow,p3.mle,p1,hk,p3.rebase hW.mle hW.new⟩
 cases e with
 | normal=>exact key p4 p2
 | ret=>exact key p4 p2
 | exit i=>exact p2.elim
 | goto i=>exact p2.elim
 | panic i=>exact p2.elim
 | outgrown=>exact p2.elim
theorem zmb {cc:Bool}{Γ:Ctx}(hΓ:CtxOk P (fun _=>none) Γ) (hT:TOk P T) (hmix:P.follows .mixedOrders=true) {f:FuncId}{fn:Func}{c2:Code}(hf:P.funcs[f]?=some fn) (hname:(fn.name == "runtime.NumGoroutine")=false) (hb:fn.body=some (.seq (.region id ops false) c2)) (hres:fn.results.toList=[])
  (ho:ops[0]?=some ⟨some t,.call ⟨.builtin .recover,#[],#[]⟩,ty,pos,after,none⟩) (ht:t<fn.ntmps)
  (hn:2<=fn.ntmps) (h:yV cc Γ Ys.none T (fun _=>none) fn.ntmps ops.toList (ops.toList.drop 1) (zaf [(0,.junk),(1,.junk)] t (.v .nilIface)) [] [] fun tm ow1=>ex cc Γ T (fun _=>none) fn.ntmps c2 Ys.none 0 false ⟨tm,ow1,[]⟩ fun e s=>match e with | .ret=>s.df=[]/\True | .normal=>s.df=[]/\True|_=>False):zb5 P f:=by
 refine ⟨⟨fn,hf,hname,by simp[hb]⟩,fun n cs w hcs=>?_⟩
 have hfit:Mem.fits (fun _=>none) w:=fun b o h=>by simp at h
 have hds:RepL (fun _=>none) [] [.junk,.junk] cs.toList:=by
  match hl:cs.toList with
  | [a,b]=>exact RepL.cons trivial (RepL.cons trivial RepL.nil)
  | []=>have:=congrArg List.length hl;simp[hcs] at this
  | [_]=>have:=congrArg List.length hl;simp[hcs] at this
  | _::_::_::_=>have:=congrArg List.length hl;simp[hcs] at this
 refine CallsDIn.mono (zh2 (Gl:=fun _=>none) (k:=fun _=>True) (u:=.returning) (dv:=.v .nilIface) (ds:=[.junk,.junk]) hΓ hT hmix hf hb hres ho ht hn (zk _) h (WRel.start hfit) (fun g d hg=>by simp at hg) hds) ?_;rintro e u' w' ⟨h1,h2,M',E',ow',_,_,_,hW⟩
 exact ⟨h1,h2,hW.below⟩
end
end Go.Sx
namespace Go.Sx
open Go Go.RowKit
variable {Gl:Nat->Option D}{oc:Oc}
def ObO (oc:Oc) (x:oc.ι) (ow:List Own):Prop :=
 match ow[0]? with
 | some (Own.cells t l)=>t=oc.t/\EntL (zgs ow l) (oc.after x)
 | _=>False
def retO (oc:Oc) (x:oc.ι) (d:D) (ow:List Own):Prop :=
 match oc.res x with
 | .inl d'=>EntR d d'/\ObO oc x ow
 | .inr _=>False
def panO (oc:Oc) (x:oc.ι) (s:St):Prop :=
 match s with
 | ⟨(_,d)::_,ow,[]⟩=>(match oc.res x with | .inr d'=>EntR d d'/\ObO oc x ow | .inl _=>False)
 | _=>False
def postO (T:TT) (rs:List ResultVar) (oc:Oc) (x:oc.ι) (e:Exit) (s:St):Prop :=
 match e with
 | .ret=>fin T rs s (retO oc x)
 | .normal=>fin T rs s (retO oc x)
 | .panic _=>panO oc x s
 | _=>False
def zdd (M:Mem) (w:World) (b:Nat):Mem:=fun c =>
 if c=b then none else
 match M c with
 | some (.cells a t g)=>some (.cells a t g)
 | _=>(w.heap[c]?).map Kn.kept
section
variable {P:Program}{T:TT}{w w':World}{M M':Mem}{b:Nat}
theorem zhr (hb:M b=none) (a:Addr) (x:Value) (h:M.cell a=some x):(zdd M w b).cell a=some x:=by
 unfold Mem.cell at h ⊢;cases hm:M a.block with
 | none=>rw[hm] at h;simp at h
 | some o =>
  rw[hm] at h;have hne:a.block≠b:=fun e=>by rw[e,hb] at hm;simp at hm
  have hk:zdd M w b a.block=(match M a.block with|some (.cells a t g)=>some (.cells a t g)|_=>(w.heap[a.block]?).map Kn.kept):=by unfold zdd;rw[if_neg hne]
  rw[hk,hm];cases o with
  | kept o=>simp at h
  | obj o=>cases o<;>first|exact h|(simp at h;done)
theorem keepM_fits (hfit:M.fits w):(zdd M w b).fits w:=by
 intro c o h;unfold zdd at h;split at h
 ·simp at h
 ·split at h
  ·rename_i a t g hm;simp at h;subst h;exact hfit _ _ hm
  ·cases hx:w.heap[c]? with
   | none=>rw[hx] at h;simp at h
   | some y=>rw[hx] at h;simp at h;subst h;simp only[Fits]
theorem zft {c:Nat}(hfit:M.fits w) (hc:c<w.heap.size) (hne:c≠b):∃ o,zdd M w b c=some o/\(∀ x,Fits o x->x=w.heap[c]?)/\∀ a t g,o=.cells a t g->M c=some (.cells a t g):=by
 have hk:zdd M w b c=(match M c with|some (.cells a t g)=>some (.cells a t g)|_=>(w.heap[c]?).map Kn.kept):=by unfold zdd;rw[if_neg hne]
 rw[hk];split
 ·rename_i a t g hm;refine ⟨_,rfl,fun x hx=>?_,fun a t g h=>h ▸ hm⟩
  have:=hfit _ _ hm;simp only[Fits] at this hx;rw[this,hx]
 ·refine ⟨.kept w.heap[c],by rw[Array.getElem?_eq_getElem hc];rfl,fun x hx=>?_,fun a t g h=>by simp at h⟩
  simp only[Fits] at hx;rw[hx,Array.getElem?_eq_getElem hc]
theorem znp {t:TypeId}{l:List D}{cs:Array Value}(hfit:M.fits w) (hb:M b=none) (hheap:w.heap[b]?=some (.cells cs t (0,0))) (hl:RepL M [] l cs.toList):WRel 0 w (zdd M w b) (zdd M w b) [.pointer (some ⟨b,0,none⟩)] [.cells t l] w:=by
 refine ⟨keepM_fits hfit,Nat.zero_le _,Below.refl _ _,rfl,fun i o v ho hv=>?_,fun i j o o' v v' c ho ho' _ _ _ _ _ _=>?_,za _,fun c o h=>.inl h⟩
 ·match i,ho,hv with
  | 0,ho,hv =>
   simp at ho hv;subst ho;subst hv;simp only[Holds];exact ⟨b,cs,rfl,hheap,RepL.monoC (zhr hb) (EnvLe.nil _) _ _ hl,by simp[zdd],Nat.zero_le _⟩
  | i+1,ho,hv=>simp at ho
 ·have h1:=zE ho;have h2:=zE ho';simp at h1 h2;omega
theorem zlk {x:oc.ι}{E:List Value}{ow:List Own}(hpa:pdL (oc.after x)=true) (hfit:M.fits w) (hb:M b=none) (hbl:b<w.heap.size) (hE:E[0]?=some (.pointer (some ⟨b,0,none⟩))) (hW:WRel 0 w (zdd M w b) M' E ow w') (hO:ObO oc x ow):
  ∃ MF cs',M.le MF/\(∀ c o,MF c=some o->M c=some o\/w.heap.size<=c)/\MF.fits w'/\Below 0 w w'/\(∀ c,c<w.heap.size->c≠b->w'.heap[c]?=w.heap[c]?)/\w'.heap[b]?=some (.cells cs' oc.t (0,0))/\RepL MF [] (oc.after x) cs'.toList/\∀ d u,Rep M' [] d u->Rep MF [] d u:=by
 unfold ObO at hO;split at hO<;>try exact hO.elim
 rename_i t l ho;obtain ⟨rfl,hent⟩:=hO;have hH:=hW.holds _ _ _ ho hE;simp only[Holds] at hH;obtain ⟨b',cs',hb',hheap,hcs,hMb,_⟩:=hH;simp at hb';subst hb';have hoth:∀ c,c<w.heap.size->c≠b->w'.heap[c]?=w.heap[c]?:=by
  intro c hc hne;obtain ⟨o,h1,h2,_⟩:=zft hfit hc hne;exact h2 _ (hW.fits _ _ (hW.mle _ _ h1))
 have hlt:∀ c o,M c=some o->c<w.heap.size:=by
  intro c o h;obtain ⟨y,hy⟩:=(hfit _ _ h).some;rcases Nat.lt_or_ge c w.heap.size with h'|h'
  ·exact h'
  ·rw[Array.getElem?_eq_none h'] at hy;simp at hy
 have hcell:∀ a v,M'.cell a=some v->Mem.cell (fun c=>if c<w.heap.size then M c else M' c) a=some v:=by
  intro a v h;unfold Mem.cell at h ⊢;by_cases hc:a.block<w.heap.size
  ·dsimp only;rw[if_pos hc];by_cases hne:a.block=b
   ·rw[hne,hMb] at h;simp at h
   ·obtain ⟨o,h1,_,h3⟩:=zft hfit hc hne;rw[hW.mle _ _ h1] at h;cases o with
    | kept o=>simp at h
    | obj o=>cases o<;>first|(rw[h3 _ _ _ rfl];exact h)|(simp at h;done)
  ·dsimp only;rw[if_neg hc];exact h
 refine ⟨fun c=>if c<w.heap.size then M c else M' c,cs',fun c o h=>by dsimp only;rw[if_pos (hlt _ _ h)];exact h,fun c o h=>?_,fun c o h=>?_,hW.below,hoth,hheap,?_,fun d u h=>Rep.monoC hcell (zc _) _ _ h⟩
 ·by_cases hc:c<w.heap.size
  ·dsimp only at h;rw[if_pos hc] at h;exact .inl h
  ·exact .inr (by omega)
 ·by_cases hc:c<w.heap.size
  ·dsimp only at h;rw[if_pos hc] at h;rw[hoth c hc (fun e=>by subst e;rw[hb] at h;simp at h)];exact hfit _ _ h
  ·dsimp only at h;rw[if_neg hc] at h;exact hW.fits _ _ h
 ·have h1:=hent _ _ _ (xX hW _ _ hcs)
  exact RepL.monoC hcell (zc _) _ _ (RepL.pd _ _ hpa h1)
theorem soundO_by {cc:Bool}{Γ:Ctx}(hΓ:CtxOk P Gl Γ) (hT:TOk P T) (hmix:P.follows .mixedOrders=true) {f:FuncId}{fn:Func}{c:Code}(hf:P.funcs[f]?=some fn) (hb:fn.body=some c) (hname:(fn.name == "runtime.NumGoroutine")=false)
  (hpb:∀ x,pdL (oc.before x)=true) (hpi:∀ x,pdL (oc.inp x)=true) (hpa:∀ x,pdL (oc.after x)=true) (hlen:∀ x,oc.pre x->(oc.inp x).length+1<=fn.ntmps)
  (h:∀ x,oc.pre x->Wk cc Γ T Gl fn.ntmps c Ys.none 1 false ⟨vT 0 (.own 0 0::oc.inp x),[.cells oc.t (oc.before x)],[]⟩ (postO T fn.results.toList oc x)):SoundO P Gl f oc:=by
 refine ⟨⟨fn,hf,hname,by simp[hb]⟩,hpb,hpi,hpa,fun x hx M w us b cs hfit hG hMb hheap hbef hus hinp n=>?_⟩
 have hbl:b<w.heap.size:=by
  rcases Nat.lt_or_ge b w.heap.size with h'|h'
  ·exact h'
  ·rw[Array.getElem?_eq_none h'] at hheap;simp at hheap
 have hcell:=zhr (w:=w) hMb;have hWR:=znp hfit hMb hheap hbef;have hargs:RepL (zdd M w b) [.pointer (some ⟨b,0,none⟩)] (.own 0 0::oc.inp x) us.toList:=by
  rw[hus];refine RepL.cons ?_ (RepL.monoC hcell (EnvLe.nil _) _ _ hinp)
  simp only[Rep];exact ⟨b,rfl,rfl⟩
 refine callsIn_of_wp_marks hf hb trivial ?_;refine yH (ro:=none) (E0:=[.pointer (some ⟨b,0,none⟩)]) (m:=1) hΓ hT hmix c (h x hx).1 (fun g d hd=>Rep.monoC hcell (zc _) _ _ (hG g d hd)) YOk.none (Nat.le_refl _) (fun _=>rfl) hWR (TRel.start hargs (by simpa using hlen x hx)) rfl (zc _) ?_;rintro e a' w' ⟨M',E',s',dv',q1,q2,q3,q4,q5,q6⟩
 have hE0:E'[0]?=some (.pointer (some ⟨b,0,none⟩)):=q1 _ _ rfl;have key:TRel dv' fn.ntmps M' E' s'.tm [] a'->fin T fn.results.toList s' (retO oc x)->LeavesInM Fence.wide n P fn a'.tmps (fun e w'=>∃ M' cs',M.le M'/\(∀ c o,M' c=some o->M c=some o\/w.heap.size<=c)/\M'.fits w'/\Below 0 w w'/\(∀ c,c<w.heap.size->c≠b->w'.heap[c]?=w.heap[c]?)/\w'.heap[b]?=some (.cells cs' oc.t (0,0))/\RepL M' [] (oc.after x) cs'.toList /\
   match oc.res x with
   | .inl d=>∃ u,e=.returned u/\Rep M' [] d u
   | .inr d=>∃ v,e=.panicked [{ v,recovered:=false }]/\Rep M' [] d v) a'.defers .returning w':=by
  intro q4 hfin;obtain ⟨tm,ow,df⟩:=s';simp only[fin] at hfin;split at hfin
  ·rename_i ow1 hsh;split at hfin
   ·rename_i ds hds;rw[q4.defers];refine xU df hsh q3 q5 fun w2 hW2=>?_;obtain ⟨us',h1,h2⟩:=xY hT hW2 q4 _ hds;cases hfr:zew ow1 ds with
    | mk ds' ow' =>
     rw[hfr] at hfin;obtain ⟨M2,h3,h4,h5⟩:=xc ds hfr hW2 h1;dsimp only at hfin;unfold retO at hfin;split at hfin<;>try exact hfin.elim
     rename_i d' hd';obtain ⟨hfin,hO⟩:=hfin;obtain ⟨MF,cs',e1,e2,e3,e4,e5,e6,e7,e8⟩:=zlk (hpa x) hfit hMb hbl hE0 h4 hO;refine ⟨_,xV h2,MF,cs',e1,e2,e3,e4,e5,e6,e7,?_⟩
     exact ⟨_,rfl,e8 _ _ (hfin _ _ _ (Rep.ret h5))⟩
   ·exact hfin.elim
  ·exact hfin.elim
 cases e with
 | normal=>exact key q4 q2
 | ret=>exact key q4 q2
 | exit i=>exact q2.elim
 | goto i=>exact q2.elim
 | panic i =>
  obtain ⟨tm,ow,df⟩:=s';obtain ⟨d,v,r,htm,hch,hv⟩:=q6;dsimp only at htm;subst htm;subst hch;have q2':panO oc x ⟨(fn.ntmps,d)::r,ow,df⟩:=q2;unfold panO at q2';split at q2'<;>try exact q2'.elim
  rename_i heq;simp at heq;obtain ⟨⟨⟨rfl,rfl⟩,rfl⟩,rfl,rfl⟩:=heq;split at q2'<;>try exact q2'.elim
  rename_i d' hd';obtain ⟨hd,hO⟩:=q2';have hdv:dv'=[]:=q5;have hdf:a'.defers=[]:=by rw[q4.defers,hdv]
  obtain ⟨MF,cs',e1,e2,e3,e4,e5,e6,e7,e8⟩:=zlk (hpa x) hfit hMb hbl hE0 q3 hO;show LeavesInM Fence.wide n P fn a'.tmps _ a'.defers (.panicking _) w';rw[hdf];refine ⟨MF,cs',e1,e2,e3,e4,e5,e6,e7,?_⟩
  rw[hd'];exact ⟨v,rfl,e8 _ _ (hd _ _ _ hv)⟩
 | outgrown=>exact q2.elim
end
theorem so {P:Program}{T:TT}{cc:Bool}{Γ:Ctx}{f:FuncId}{fn:Func}{c:Code}(hΓ:CtxOk P Gl Γ) (hf:P.funcs[f]?=some fn) (hpb:∀ x,pdL (oc.before x)=true) (hpi:∀ x,pdL (oc.inp x)=true) (hpa:∀ x,pdL (oc.after x)=true)
  (h:∀ x,oc.pre x->Wk cc Γ T Gl fn.ntmps c Ys.none 1 false ⟨vT 0 (.own 0 0::oc.inp x),[.cells oc.t (oc.before x)],[]⟩ (postO T fn.results.toList oc x))
  (hT:TOk P T:=by exact Tryz.T_ok) (hmix:P.follows .mixedOrders=true:=by exact Tryz.mixed) (hb:fn.body=some c:=by exact rfl) (hname:(fn.name == "runtime.NumGoroutine")=false:=by kernel_rfl)
  (hlen:∀ x,oc.pre x->(oc.inp x).length+1<=fn.ntmps:=by exact fun _ _=>Nat.le_of_ble_eq_true rfl):SoundO P Gl f oc:=soundO_by hΓ hT hmix hf hb hname hpb hpi hpa hlen h
end Go.Sx
namespace Go.Sx
open Go Go.RowKit
def resR (T:TT) (rs:List ResultVar) (tm:List (Nat × D)) (ow:List Own) (out:D):Prop :=
 match zfj T tm ow rs with
 | some ds=>EntR (zW (zew ow ds).1) out
 | none=>False
def postC (K:List Own->Prop) (e:Exit) (s:St):Prop :=
 match e with
 | .ret=>s.df=[]/\K s.ow
 | .normal=>s.df=[]/\K s.ow
 | _=>False
def postR (cc:Bool) (Γ:Ctx) (T:TT) (Gl:Nat->Option D) (rs:List ResultVar) (g:FuncId) (N:Nat) (ops:List Oper) (t:Nat) (c2:Code) (out:D) (e:Exit) (s:St):Prop :=
 match e with
 | .ret=>fin T rs s fun d _=>EntR d out
 | .normal=>fin T rs s fun d _=>EntR d out
 | .panic _=>(match s with
  | ⟨(_,d)::tm,ow,[.r g' i j]⟩=>g'=g/\WkO cc Γ T Gl N Ys.none ops (ops.drop 1) (zaf (vT 0 [.own i 0,.own j 0]) t d) [] ow fun tm1 ow1=>Wk cc Γ T Gl N c2 Ys.none ow.length false ⟨tm1,ow1,[]⟩ (postC fun ow2=>resR T rs tm ow2 out)
  | _=>False)
 | _=>False
section
variable {P:Program}{T:TT}
theorem zkr {cc:Bool}{Γ:Ctx}{Gl:Nat->Option D}{m:Nat}(hΓ:CtxOk P Gl Γ) (hT:TOk P T) (hmix:P.follows .mixedOrders=true) {f:FuncId}{fn:Func}{c:Code}{ct:Ct}(hf:P.funcs[f]?=some fn) (hb:fn.body=some c) (hname:(fn.name == "runtime.NumGoroutine")=false) (hpd:∀ x,pdL (ct.inp x)=true)
  (hlen:∀ x,ct.pre x->(ct.inp x).length<=fn.ntmps)
  {g:FuncId}{fg:Func}{id:Nat}{ops:Array Oper}{c2:Code}{t:Nat}{ty:TypeId}{pos:String}{after:Array Edge}(hg:P.funcs[g]?=some fg) (hbg:fg.body=some (.seq (.region id ops false) c2)) (hrg:fg.results.toList=[])
  (hog:ops[0]?=some ⟨some t,.call ⟨.builtin .recover,#[],#[]⟩,ty,pos,after,none⟩) (htg:t<fg.ntmps) (hlg:2<=fg.ntmps)
  (h:∀ x,ct.pre x->Wk cc Γ T Gl fn.ntmps c Ys.none m false ⟨vT 0 (ct.inp x),[],[]⟩ (postR cc Γ T Gl fn.results.toList g fg.ntmps ops.toList t c2 (ct.out x))):Sound P Gl f ct:=by
 refine ⟨⟨fn,hf,hname,by simp[hb]⟩,hpd,fun x hx M w us hfit hG hrep n=>?_⟩
 refine callsIn_of_wp_marks hf hb trivial ?_;refine yH (ro:=none) (E0:=[]) (m:=m) hΓ hT hmix c (h x hx).1 hG YOk.none (Nat.zero_le _) (fun _=>rfl) (WRel.start hfit) (TRel.start hrep (hlen x hx)) rfl (zc _) ?_;rintro e a' w' ⟨M',E',s',dv',q1,q2,q3,q4,q5,q6⟩
 have key:TRel dv' fn.ntmps M' E' s'.tm [] a'->fin T fn.results.toList s' (fun d _=>EntR d (ct.out x))->LeavesInM Fence.wide n P fn a'.tmps (fun e w'=>∃ M' u,e=.returned u/\M.le M'/\(∀ b o,M' b=some o->M b=some o\/w.heap.size<=b)/\M'.fits w'/\Rep M' [] (ct.out x) u/\Below w.heap.size w w') a'.defers .returning w':=by
  intro q4 hfin;obtain ⟨tm,ow,df⟩:=s';simp only[fin] at hfin;split at hfin
  ·rename_i ow1 hsh;split at hfin
   ·rename_i ds hds;rw[q4.defers];refine xU df hsh q3 q5 fun w2 hW2=>?_;obtain ⟨us',h1,h2⟩:=xY hT hW2 q4 _ hds;cases hfr:zew ow1 ds with
    | mk ds' ow' =>
     rw[hfr] at hfin;obtain ⟨M2,h3,h4,h5⟩:=xc ds hfr hW2 h1;exact ⟨_,xV h2,M2,_,rfl,h4.mle,h4.new,h4.fits,hfin _ _ _ (Rep.ret h5),h4.below⟩
   ·exact hfin.elim
  ·exact hfin.elim
 cases e with
 | normal=>exact key q4 q2
 | ret=>exact key q4 q2
 | exit i=>exact q2.elim
 | goto i=>exact q2.elim
 | panic i =>
  obtain ⟨tm0,ow,df⟩:=s';obtain ⟨d,v,tm,htm,hch,hv⟩:=q6;dsimp only at htm;subst htm;subst hch;have q2':postR cc Γ T Gl fn.results.toList g fg.ntmps ops.toList t c2 (ct.out x) (.panic []) ⟨(fn.ntmps,d)::tm,ow,df⟩:=q2;simp only[postR] at q2';split at q2'<;>try exact q2'.elim
  rename_i heq;simp at heq;obtain ⟨⟨⟨rfl,rfl⟩,rfl⟩,rfl,rfl⟩:=heq;rename_i g1 i j;obtain ⟨hgg,hclo⟩:=q2';subst hgg;obtain ⟨b,b',r,⟨hDQ,_,_,hb1,hb2⟩,hdv,hr⟩:=q5;have hr':r=[]:=hr;subst hr';have q4':TRel dv' fn.ntmps M' E' tm [] a':=q4;show LeavesInM Fence.wide n P fn a'.tmps _ a'.defers (.panicking _) w';rw[q4'.defers,hdv];refine ⟨by simp,.inr ⟨fun hh=>by simp[Fence.wide] at hh,.func g1,#[.pointer (some ⟨b,0,none⟩),.pointer (some ⟨b',0,none⟩)],g1,#[.pointer (some ⟨b,0,none⟩),.pointer (some ⟨b',0,none⟩)],rfl,?_,fun _ _=>trivial,?_⟩⟩
  ·show (callFunc _ (#[] ++ #[.pointer (some ⟨b,0,none⟩),.pointer (some ⟨b',0,none⟩)])).run P w'=_;rw[Array.empty_append];exact yj hDQ.1
  ·have hds:RepL M' E' [.own i 0,.own j 0] (#[Value.pointer (some ⟨b,0,none⟩),.pointer (some ⟨b',0,none⟩)]).toList:=by
    refine RepL.cons ?_ (RepL.cons ?_ RepL.nil)
    ·simp only[Rep];exact ⟨b,hb1,rfl⟩
    ·simp only[Rep];exact ⟨b',hb2,rfl⟩
   have hclo':yV cc Γ Ys.none T Gl fg.ntmps ops.toList (ops.toList.drop 1) (zaf (vT 0 [.own i 0,.own j 0]) t d) [] ow fun tm1 ow1=>ex cc Γ T Gl fg.ntmps c2 Ys.none ow.length false ⟨tm1,ow1,[]⟩ fun e s=>match e with | .ret=>s.df=[]/\resR T fn.results.toList tm s.ow (ct.out x) | .normal=>s.df=[]/\resR T fn.results.toList tm s.ow (ct.out x)|_=>False:=by
    have:=hclo.ex;rw[Wk_eq] at this;exact this
   refine CallsDIn.mono (zh2 (u:=.panicking [{ v,recovered:=false }]) (dv:=d) (ds:=[.own i 0,.own j 0]) (k:=fun ow2=>resR T fn.results.toList tm ow2 (ct.out x)) hΓ hT hmix hg hbg hrg hog htg hlg (Rep.mono (za _) (EnvLe.nil _) _ _ hv) hclo' q3 (hG.mono q3.mle) hds) ?_;rintro e u' w2 ⟨⟨v',rfl⟩,rfl,M2,E2,ow2,e1,e2,e3,e4⟩
   show LeavesInM Fence.wide n P fn a'.tmps _ [] .returning w2;unfold resR at e3;split at e3<;>try exact e3.elim
   rename_i ds hds2;obtain ⟨us',h1,h2⟩:=xY hT e4 (q4'.mono e1 e2) _ hds2;cases hfr:zew ow2 ds with
   | mk ds' ow' =>
    rw[hfr] at e3;obtain ⟨M3,h3,h4,h5⟩:=xc ds hfr e4 h1;exact ⟨_,xV h2,M3,_,rfl,h4.mle,h4.new,h4.fits,e3 _ _ _ (Rep.ret h5),h4.below⟩
 | outgrown=>exact q2.elim
end
end Go.Sx
