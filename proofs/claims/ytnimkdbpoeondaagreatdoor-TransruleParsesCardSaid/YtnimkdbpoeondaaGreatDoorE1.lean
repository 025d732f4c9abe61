import Derived.OrdersIn
import Derived.Below
set_option linter.all false
namespace Go.Sx
open Go Go.RowKit
variable {E E':List Value}
inductive Kn where
 | obj (o:Obj)
 | kept (o:Obj)
@[match_pattern] abbrev Kn.cells (c:Array Value) (t:TypeId) (f:Nat × Nat):Kn:=.obj (.cells c t f)
@[match_pattern] abbrev Kn.loop (r:Loop):Kn:=.obj (.loop r)
abbrev Mem:=Nat->Option Kn
def Mem.cell (M:Mem) (a:Addr):Option Value :=
 match M a.block with
 | some (.cells c _ _)=>if a.spot.isSome then none else c[a.off]?
 | _=>none
def Mem.le (M M':Mem):Prop:=∀ b o,M b=some o->M' b=some o
def Fits (o:Kn) (x:Option Obj):Prop :=
 match o with
 | .obj (.loop r)=>∃ st pe,x=some (.loop { r with state:=st,pending:=pe })
 | .obj o=>x=some o
 | .kept o=>x=some o
def Mem.fits (M:Mem) (w:World):Prop:=∀ b o,M b=some o->Fits o (w.heap[b]?)
theorem Fits.some {o:Kn}{x:Option Obj}(h:Fits o x):∃ y,x=some y:=by
 cases o with
 | kept o=>exact ⟨_,h⟩
 | obj o=>cases o<;>simp only[Fits] at h<;>first|exact ⟨_,h⟩|(obtain ⟨st,pe,h⟩:=h;exact ⟨_,h⟩)
inductive D where
 | v (x:Value)
 | sl (sz n:Nat) (f:Nat->Nat->D)
 | ag (l:List D)
 | tu (l:List D)
 | pt (m:Nat) (f:Nat->D)
 | own (i off:Nat)
 | row (i:Nat)
 | rp (i sz idx off:Nat)
 | fn (g:FuncId) (caps:List D)
 | ifc (t:TypeId) (d:D)
 | yl (i:Nat)
 | mp (i:Nat)
 | os (i off n:Nat)
 | sd (i:Nat)
 | junk
instance:Inhabited D:=⟨.junk⟩
def zne:Value->Option Addr
 | .slice a _ _=>a
 | _=>none
mutual
def Rep (M:Mem) (E:List Value):D->Value->Prop
 | .v x,u=>u=x
 | .sl sz n f,u=>∃ a cap,u=.slice a n cap/\n<=cap/\(0<n->∃ ad,a=some ad/\∀ i,i<n->∀ j,j<sz->∃ x,M.cell (ad.add (i*sz+j))=some x/\x.oneCell'=true/\Rep M [] (f i j) x)
 | .ag l,u=>∃ us,u=.agg us/\RepL M E l us.toList
 | .tu l,u=>∃ us,u=.tuple us/\RepL M E l us.toList
 | .pt m f,u=>∃ ad,u=.pointer (some ad)/\∀ j,j<m->∃ x,M.cell (ad.add j)=some x/\x.oneCell'=true/\Rep M [] (f j) x
 | .own i off,u=>∃ b,E[i]?=some (.pointer (some ⟨b,0,none⟩))/\u=.pointer (some ⟨b,off,none⟩)
 | .row i,u=>E[i]?=some u
 | .rp i sz idx off,u=>∃ h b,E[i]?=some h/\zne h=some b/\u=.pointer (some (b.add (idx*sz+off)))
 | .fn g caps,u=>∃ us,u=.func (.func g) #[] us/\RepL M E caps us.toList
 | .ifc t d,u=>∃ x,u=.iface t x/\Rep M E d x
 | .yl i,u=>∃ b,E[i]?=some (.pointer (some ⟨b,0,none⟩))/\u=.func (.yield b) #[] #[]
 | .mp i,u=>∃ b,E[i]?=some (.pointer (some ⟨b,0,none⟩))/\u=.map (some b)
 | .os i off n,u=>∃ b o cap,E[i]?=some (.pointer (some ⟨b,0,none⟩))/\u=.slice (some ⟨b,o,none⟩) n cap/\n<=cap/\(0<n->o=off)
 | .sd i,u=>∃ a n c p,E[i]?=some (.slice a n c)/\u=.pointer p/\(a=none->p=none)/\(∀ ad,a=some ad->c≠0->p=some ad)
 | .junk,_=>True
def RepL (M:Mem) (E:List Value):List D->List Value->Prop
 | [],us=>us=[]
 | d::ds,us=>∃ u r,us=u::r/\Rep M E d u/\RepL M E ds r
end
theorem Mem.cell_le {M M':Mem}(h:M.le M') {a:Addr}{x:Value}(hc:M.cell a=some x):M'.cell a=some x:=by
 unfold Mem.cell at *
 cases hb:M a.block with
 | none=>simp[hb] at hc
 | some o=>rw[h _ _ hb];simpa[hb] using hc
theorem Mem.cell_fits {M:Mem}{w:World}(h:M.fits w) {a:Addr}{x:Value}(hc:M.cell a=some x):w.cell? a=some x:=by
 unfold Mem.cell at hc;unfold World.cell?;cases hb:M a.block with
 | none=>simp[hb] at hc
 | some o =>
  have hf:=h _ _ hb;rw[hb] at hc;cases o with
  | kept o=>simp at hc
  | obj o=>cases o<;>simp only[Fits] at hf<;>first|(rw[hf];simp_all;done)|simp_all
theorem za (M:Mem):M.le M:=fun _ _ h=>h
theorem zp {A B C:Mem}(h:A.le B) (k:B.le C):A.le C:=fun b o hb=>k b o (h b o hb)
def EnvLe (E E':List Value):Prop:=∀ (i:Nat) (v:Value),E[i]?=some v->E'[i]?=some v
theorem zc (E:List Value):EnvLe E E:=fun _ _ h=>h
theorem zu (E F:List Value):EnvLe E (E++F):=fun i v h=>by
 have hi:i<E.length:=by
  rcases Nat.lt_or_ge i E.length with h'|h'
  ·exact h'
  ·simp[List.getElem?_eq_none h'] at h
 rw[List.getElem?_append_left hi];exact h
theorem EnvLe.nil (E:List Value):EnvLe [] E:=fun _ _ h=>by simp at h
mutual
theorem Rep.monoC {M M':Mem}{E E':List Value}(hM:∀ a x,M.cell a=some x->M'.cell a=some x) (hE:EnvLe E E'):∀ (d:D) (u:Value),Rep M E d u->Rep M' E' d u
 | .v x,u,h=>by simpa[Rep] using h
 | .sl sz n f,u,h=>by
  simp only[Rep] at h ⊢;obtain ⟨a,cap,rfl,hn,hc⟩:=h;refine ⟨a,cap,rfl,hn,fun h0=>?_⟩
  obtain ⟨ad,rfl,hcell⟩:=hc h0;refine ⟨ad,rfl,fun i hi j hj=>?_⟩
  obtain ⟨x,hx,ho,hr⟩:=hcell i hi j hj;exact ⟨x,hM _ _ hx,ho,Rep.monoC hM (zc _) _ _ hr⟩
 | .ag l,u,h=>by
  simp only[Rep] at h ⊢;obtain ⟨us,rfl,hl⟩:=h;exact ⟨us,rfl,RepL.monoC hM hE _ _ hl⟩
 | .tu l,u,h=>by
  simp only[Rep] at h ⊢;obtain ⟨us,rfl,hl⟩:=h;exact ⟨us,rfl,RepL.monoC hM hE _ _ hl⟩
 | .pt m f,u,h=>by
  simp only[Rep] at h ⊢;obtain ⟨ad,rfl,hc⟩:=h;refine ⟨ad,rfl,fun j hj=>?_⟩
  obtain ⟨x,hx,ho,hr⟩:=hc j hj;exact ⟨x,hM _ _ hx,ho,Rep.monoC hM (zc _) _ _ hr⟩
 | .own i off,u,h=>by
  simp only[Rep] at h ⊢;obtain ⟨b,hb,rfl⟩:=h;exact ⟨b,hE _ _ hb,rfl⟩
 | .row i,u,h=>by
  simp only[Rep] at h ⊢;exact hE _ _ h
 | .rp i sz idx off,u,h=>by
  simp only[Rep] at h ⊢;obtain ⟨x,b,hx,hb,rfl⟩:=h;exact ⟨x,b,hE _ _ hx,hb,rfl⟩
 | .fn g caps,u,h=>by
  simp only[Rep] at h ⊢;obtain ⟨us,rfl,hl⟩:=h;exact ⟨us,rfl,RepL.monoC hM hE _ _ hl⟩
 | .ifc t d,u,h=>by
  simp only[Rep] at h ⊢;obtain ⟨x,rfl,hx⟩:=h;exact ⟨x,rfl,Rep.monoC hM hE _ _ hx⟩
 | .yl i,u,h=>by
  simp only[Rep] at h ⊢;obtain ⟨b,hb,rfl⟩:=h;exact ⟨b,hE _ _ hb,rfl⟩
 | .mp i,u,h=>by
  simp only[Rep] at h ⊢;obtain ⟨b,hb,rfl⟩:=h;exact ⟨b,hE _ _ hb,rfl⟩
 | .os i off n,u,h=>by
  simp only[Rep] at h ⊢;obtain ⟨b,o,cap,hb,rfl,h1,h2⟩:=h;exact ⟨b,o,cap,hE _ _ hb,rfl,h1,h2⟩
 | .sd i,u,h=>by
  simp only[Rep] at h ⊢;obtain ⟨a,n,c,p,hb,h1⟩:=h;exact ⟨a,n,c,p,hE _ _ hb,h1⟩
 | .junk,u,_=>by simp[Rep]
theorem RepL.monoC {M M':Mem}{E E':List Value}(hM:∀ a x,M.cell a=some x->M'.cell a=some x) (hE:EnvLe E E'):∀ (l:List D) (us:List Value),RepL M E l us->RepL M' E' l us
 | [],us,h=>by simpa[RepL] using h
 | d::ds,us,h=>by
  simp only[RepL] at h ⊢;obtain ⟨u,r,rfl,hd,hr⟩:=h;exact ⟨u,r,rfl,Rep.monoC hM hE _ _ hd,RepL.monoC hM hE _ _ hr⟩
end
theorem Rep.mono {M M':Mem}(hM:M.le M') (hE:EnvLe E E') (d:D) (u:Value) (h:Rep M E d u):Rep M' E' d u:=Rep.monoC (fun _ _ hx=>Mem.cell_le hM hx) hE d u h
theorem RepL.mono {M M':Mem}(hM:M.le M') (hE:EnvLe E E') (l:List D) (us:List Value) (h:RepL M E l us):RepL M' E' l us:=RepL.monoC (fun _ _ hx=>Mem.cell_le hM hx) hE l us h
inductive TK where
 | other
 | int (k:IntKind)
 | bool
 | str
 | slice (e esz bytes:Nat)
 | array (len esz:Nat)
 | struct (fields:List (Nat × Nat))
 | iface
 | ptr (e:Nat)
 | uptr
 | map (k v:Nat)
structure More where
 flat:Option (List Nat)
 meths:List (String × Option Nat)
 self:Bool
 fagg:List Nat
 zok:Bool
structure TI where
 size:Nat
 agg:Bool
 zero:Option (List Value)
 kind:TK
 more:More
def zeg (P:Program):TypeDesc->TK
 | .int k=>.int k
 | .bool=>.bool
 | .string=>.str
 | .slice e=>if (P.info? e).isSome then .slice e (P.cellsOf e) (P.bytesOf e) else .other
 | .array n e=>if (P.info? e).isSome then .array n (P.cellsOf e) else .other
 | .struct fs=>if fs.toList.all fun f=>(P.info? f.type).isSome then .struct (fs.toList.map fun f=>(f.offset,P.cellsOf f.type)) else .other
 | .interface _=>.iface
 | .pointer e=>.ptr e
 | .unsafePointer=>.uptr
 | .map k v=>.map k v
 | _=>.other
def zbt:TypeDesc->Bool
 | .struct _ | .array _ _=>true
 | _=>false
def flatK (P:Program) (t:TypeId):Option Nat :=
 match P.underlying t with
 | some (.int _)=>some 0
 | some .string=>some 1
 | some .bool=>some 2
 | _=>none
def uY (P:Program):Nat->List Field->Option (List Nat)
 | _,[]=>some []
 | i,f::fs =>
  match flatK P f.type with
  | some k=>if f.offset=i/\f.name ≠ "_" then (match uY P (i+1) fs with|some ks=>some (k::ks)|none=>none) else none
  | none=>none
def deepK (P:Program) (t:TypeId):Option (List Nat):=
 match flatK P t with
 | some k=>some [k]
 | none=>match P.underlying t with
  | some (.struct fs)=>match uY P 0 fs.toList,P.info? t with
   | some ks,some i=>if P.stoodInHeld t=false/\i.size=ks.length/\0<ks.length then some ks else none
   | _,_=>none
  | _=>none
def zmc (P:Program):Nat->List Field->Option (List Nat)
 | _,[]=>some []
 | i,f::fs =>
  match deepK P f.type with
  | some k=>if f.offset=i/\f.name ≠ "_" then (match zmc P (i+k.length) fs with|some ks=>some (k++ks)|none=>none) else none
  | none=>none
def flatOf (P:Program) (t:TypeId):TypeDesc->Option (List Nat)
 | .struct fs=>match uY P 0 fs.toList with
  | some ks=>if P.stoodInHeld t=false/\P.eqGuardType P.depth t=false then some ks else none
  | none=>match zmc P 0 fs.toList with
   | some ks=>if P.stoodInHeld t=false/\P.eqGuardType P.depth t=false then some (3::ks) else none
   | none=>none
 | _=>none
def znn (i:TypeInfo):TypeDesc->List (String × Option Nat)
 | .pointer _=>[]
 | _=>i.methods.toList.map fun m=>(m.name,match m.func with|some (f,false)=>if m.path.isEmpty then some f else none|_=>none)
def selfOf (P:Program) (t:TypeId) (i:TypeInfo):TypeDesc->Bool
 | .struct _=>liesAt P P.depth t (i.size / P.cellsOf t) 0 t 1
 | _=>false
def zn8 (P:Program) (e:TypeId):Nat:=match P.underlying e with|some d=>(match zbt d with|true=>1|false=>0)|none=>2
def zhz (P:Program):TypeDesc->List Nat
 | .struct fs=>fs.toList.map fun f=>zn8 P f.type
 | .array _ e=>[zn8 P e]
 | _=>[]
def zokOf (i:TypeInfo) (d:TypeDesc):Bool :=
 match i.zero with
 | some (.agg _)=>zbt d
 | some _ => !zbt d
 | none=>false
def zgu (P:Program) (t:TypeId):Option TI :=
 match P.info? t,P.underlying t with
 | some i,some d=>some { size:=i.size,agg:=zbt d,zero:=i.zero.map fun z=>z.cells.toList,kind:=zeg P d,more:={ flat:=flatOf P t d,meths:=znn i d,self:=selfOf P t i d,fagg:=zhz P d,zok:=zokOf i d } }
 | _,_=>none
abbrev TT:=Nat->Option TI
def TOk (P:Program) (T:TT):Prop:=∀ t i,T t=some i->zgu P t=some i
def zed (x y:ByteArray):Decidable (x=y):=
 if h:x.data.toList=y.data.toList then .isTrue (by cases x;cases y;simp at h;simp[h]) else .isFalse (fun e=>h (by rw[e]))
inductive KA where
 | i (k:IntKind) (n:Int)
 | s (b:ByteArray)
 | b (x:Bool)
def KA.dec:(x y:KA)->Decidable (x=y)
 | .i k n,.i k' n'=>if h:k=k'/\n=n' then .isTrue (by rw[h.1,h.2]) else .isFalse (fun e=>h (by cases e;exact ⟨rfl,rfl⟩))
 | .s x,.s y=>match zed x y with | .isTrue h=>.isTrue (by rw[h]) | .isFalse h=>.isFalse (fun e=>h (by cases e;rfl))
 | .b x,.b y=>if h:x=y then .isTrue (by rw[h]) else .isFalse (fun e=>h (by cases e;rfl))
 | .i _ _,.s _=>.isFalse (fun e=>by cases e)
 | .i _ _,.b _=>.isFalse (fun e=>by cases e)
 | .s _,.i _ _=>.isFalse (fun e=>by cases e)
 | .s _,.b _=>.isFalse (fun e=>by cases e)
 | .b _,.i _ _=>.isFalse (fun e=>by cases e)
 | .b _,.s _=>.isFalse (fun e=>by cases e)
instance:DecidableEq KA:=KA.dec
inductive KV where
 | i (k:IntKind) (n:Int)
 | s (b:ByteArray)
 | b (x:Bool)
 | st (l:List KA)
def KV.dec:(x y:KV)->Decidable (x=y)
 | .i k n,.i k' n'=>if h:k=k'/\n=n' then .isTrue (by rw[h.1,h.2]) else .isFalse (fun e=>h (by cases e;exact ⟨rfl,rfl⟩))
 | .s x,.s y=>match zed x y with | .isTrue h=>.isTrue (by rw[h]) | .isFalse h=>.isFalse (fun e=>h (by cases e;rfl))
 | .b x,.b y=>if h:x=y then .isTrue (by rw[h]) else .isFalse (fun e=>h (by cases e;rfl))
 | .st x,.st y=>if h:x=y then .isTrue (by rw[h]) else .isFalse (fun e=>h (by cases e;rfl))
 | .i _ _,.s _=>.isFalse (fun e=>by cases e)
 | .i _ _,.b _=>.isFalse (fun e=>by cases e)
 | .i _ _,.st _=>.isFalse (fun e=>by cases e)
 | .s _,.i _ _=>.isFalse (fun e=>by cases e)
 | .s _,.b _=>.isFalse (fun e=>by cases e)
 | .s _,.st _=>.isFalse (fun e=>by cases e)
 | .b _,.i _ _=>.isFalse (fun e=>by cases e)
 | .b _,.s _=>.isFalse (fun e=>by cases e)
 | .b _,.st _=>.isFalse (fun e=>by cases e)
 | .st _,.i _ _=>.isFalse (fun e=>by cases e)
 | .st _,.s _=>.isFalse (fun e=>by cases e)
 | .st _,.b _=>.isFalse (fun e=>by cases e)
instance:DecidableEq KV:=KV.dec
inductive KS where
 | i (k:IntKind)
 | s
 | b
 | st (l:List Nat)
 deriving DecidableEq
def ksOf (ti:TI):Option KS :=
 match ti.kind with
 | .int k=>some (.i k)
 | .str=>some .s
 | .bool=>some .b
 | .struct _=>(match ti.more.flat with|some ks=>some (.st ks)|none=>none)
 | _=>none
def zll:KA->Nat
 | .i .i64 _=>0
 | .i _ _=>9
 | .s _=>1
 | .b _=>2
def zcb:KV->KS
 | .i k _=>.i k
 | .s _=>.s
 | .b _=>.b
 | .st l=>.st (l.map zll)
inductive Own where
 | cells (t:TypeId) (l:List D)
 | row (e:TypeId) (sz n:Nat) (f:Nat->Nat->D)
 | bytes (e:TypeId) (s:ByteArray)
 | frozen (sz n:Nat) (f:Nat->Nat->D)
 | map (k v:TypeId) (sh:KS) (f:KV->Option D)
 | lp (st:LoopState) (pe:Option Code)
 | defd
 | iter (s:ByteArray) (pos:Nat)
 | gone
def zj:List Own->Nat->Own->List Own
 | [],_,_=>[]
 | _::l,0,o=>o::l
 | x::l,n+1,o=>x::zj l n o
def xb (ow:List Own):Option Nat->List Own
 | some j=>zj ow j .gone
 | none=>ow
def bAt (s:ByteArray) (k:Nat):Int:=((s.data.toList[k]?).getD 0).toNat
def vK (s:ByteArray):Nat->Nat->D:=fun i _=>.v (.int .u8 (bAt s i))
def zd7:Own->Option (TypeId × Nat × Nat × (Nat->Nat->D))
 | .row e sz n f=>some (e,sz,n,f)
 | .bytes e s=>some (e,1,s.size,vK s)
 | _=>none
def res (ow:List Own):D->D
 | .row i=>match ow[i]? with|some (.frozen sz n f)=>.sl sz n f|_=>.row i
 | d=>d
mutual
def zd8 (ow:List Own):D->D
 | .row i=>match ow[i]? with|some (.frozen sz n f)=>.sl sz n f|_=>.row i
 | .ag l=>.ag (zgs ow l)
 | .tu l=>.tu (zgs ow l)
 | d=>d
def zgs (ow:List Own):List D->List D
 | []=>[]
 | d::ds=>zd8 ow d::zgs ow ds
end
mutual
def frz:List Own->D->D × List Own
 | ow,.row i =>
  match ow[i]? with
  | some (.row _ sz n f)=>(.sl sz n f,zj ow i (.frozen sz n f))
  | some (.bytes _ s)=>(.sl 1 s.size (vK s),zj ow i (.frozen 1 s.size (vK s)))
  | some (.frozen sz n f)=>(.sl sz n f,ow)
  | _=>(.row i,ow)
 | ow,.ag l=>match zew ow l with|(l',ow')=>(.ag l',ow')
 | ow,.tu l=>match zew ow l with|(l',ow')=>(.tu l',ow')
 | ow,d=>(d,ow)
def zew:List Own->List D->List D × List Own
 | ow,[]=>([],ow)
 | ow,d::ds =>
  match frz ow d with
  | (d',ow')=>match zew ow' ds with|(ds',ow'')=>(d'::ds',ow'')
end
def plain:D->Bool
 | .v _ | .sl _ _ _ | .pt _ _=>true
 | _=>false
def zcs:List D->Bool
 | []=>true
 | d::ds=>plain d&&zcs ds
def oneD:D->Bool
 | .v x=>x.oneCell'
 | .sl _ _ _ | .pt _ _ | .own _ _ | .rp _ _ _ _ | .fn _ _ | .ifc _ _ | .row _ | .yl _ | .mp _ | .os _ _ _=>true
 | _=>false
def oneL:List D->Bool
 | []=>true
 | d::ds=>oneD d&&oneL ds
def zc6:D->Option (List D)
 | .ag l=>some l
 | d=>if oneD d then some [d] else none
def splice {α:Type}:List α->Nat->List α->Option (List α)
 | l,0,[]=>some l
 | [],0,_::_=>none
 | _::l,0,x::xs=>(splice l 0 xs).map (x :: ·)
 | [],_+1,_=>none
 | y::l,n+1,xs=>(splice l n xs).map (y :: ·)
def cut {α:Type}:List α->Nat->Nat->Option (List α)
 | _,0,0=>some []
 | [],0,_+1=>none
 | x::l,0,n+1=>(cut l 0 n).map (x :: ·)
 | [],_+1,_=>none
 | _::l,o+1,n=>cut l o n
def zeb (fs:Nat->Option (Nat × Nat)) (cells:List D):List (Nat × D)->Option (List D)
 | []=>some cells
 | (i,d)::rest =>
  match fs i,zc6 d with
  | some (off,size),some cs=>if cs.length=size then (match splice cells off cs with|some c'=>zeb fs c' rest|none=>none) else none
  | _,_=>none
def zs (n:Int):Prop := -9223372036854775808<=n/\n<=9223372036854775807
instance (n:Int):Decidable (zs n):=inferInstanceAs (Decidable (_/\_))
structure DP where
 p:Prop
 d:Decidable p
abbrev dp (p:Prop) [d:Decidable p]:DP:=⟨p,d⟩
abbrev Ev:=Option (List DP × D × List Own)
def bitsI (op:BinOp) (k:IntKind) (x y:Int):Option Int :=
 match op with
 | .and=>some (k.wrap ((BitVec.ofInt k.bits x &&& BitVec.ofInt k.bits y).toNat))
 | .or=>some (k.wrap ((BitVec.ofInt k.bits x ||| BitVec.ofInt k.bits y).toNat))
 | .xor=>some (k.wrap ((BitVec.ofInt k.bits x ^^^ BitVec.ofInt k.bits y).toNat))
 | _=>none
def evInt (op:BinOp) (k:IntKind) (a b:Int):Option (List DP × D):=
 match op,k with
 | .quo,.i64=>some ([dp (0<=a/\0<b/\a<=9223372036854775807)],.v (.int .i64 (a / b)))
 | .rem,.i64=>some ([dp (0<=a/\0<b/\a<=9223372036854775807)],.v (.int .i64 (a % b)))
 | .add,.i64=>some ([dp (zs (a+b))],.v (.int .i64 (a+b)))
 | .sub,.i64=>some ([dp (zs (a - b))],.v (.int .i64 (a - b)))
 | .mul,.i64=>some ([dp (zs (a*b))],.v (.int .i64 (a*b)))
 | .add,k=>some ([],.v (.int k (k.wrap (a+b))))
 | .sub,k=>some ([],.v (.int k (k.wrap (a - b))))
 | .mul,k=>some ([],.v (.int k (k.wrap (a*b))))
 | .quo,k=>some ([dp (b≠0)],.v (.int k (k.wrap (a.tdiv b))))
 | .rem,k=>some ([dp (b≠0)],.v (.int k (a.tmod b)))
 | .and,k=>match bitsI .and k a b with|some n=>some ([],.v (.int k n))|none=>none
 | .or,k=>match bitsI .or k a b with|some n=>some ([],.v (.int k n))|none=>none
 | .xor,k=>match bitsI .xor k a b with|some n=>some ([],.v (.int k n))|none=>none
 | .eql,_=>some ([],.v (.bool (a==b)))
 | .neq,_=>some ([],.v (.bool (a != b)))
 | .lss,_=>some ([],.v (.bool (decide (a<b))))
 | .leq,_=>some ([],.v (.bool (decide (a<=b))))
 | .gtr,_=>some ([],.v (.bool (decide (a>b))))
 | .geq,_=>some ([],.v (.bool (decide (a>=b))))
 | _,_=>none
def evSh (op:BinOp) (k:IntKind) (a b:Int):Option (List DP × D):=
 match op with
 | .shl=>some ([dp (0<=b)],.v (.int k (k.wrap (a*2 ^ (min b.toNat k.bits)))))
 | .shr=>some ([dp (0<=b)],.v (.int k (a.fdiv (2 ^ (min b.toNat k.bits)))))
 | _=>none
def yt (x y:ByteArray):ByteArray:=⟨⟨x.data.toList++y.data.toList⟩⟩
def zN (x:ByteArray) (l h:Nat):ByteArray:=⟨⟨(x.data.toList.take h).drop l⟩⟩
def evStr (op:BinOp) (x y:ByteArray):Option (List DP × D):=
 match op with
 | .add=>some ([dp (x.size+y.size<=9223372036854775807)],.v (.string (yt x y)))
 | .eql=>some ([],.v (.bool (@decide (x=y) (zed x y))))
 | .neq=>some ([],.v (.bool (!@decide (x=y) (zed x y))))
 | .lss=>some ([],.v (.bool (Op.bytesLess x.data.toList y.data.toList)))
 | .leq=>some ([],.v (.bool (Op.bytesLess x.data.toList y.data.toList||x.data.toList==y.data.toList)))
 | .gtr=>some ([],.v (.bool (!(Op.bytesLess x.data.toList y.data.toList||x.data.toList==y.data.toList))))
 | .geq=>some ([],.v (.bool (!Op.bytesLess x.data.toList y.data.toList)))
 | _=>none
def evSame (T:TT) (t:TypeId) (x y:D):Option Bool :=
 match T t with
 | some { kind:=.ptr e,.. } =>
  (match x,y with
  | .v (.pointer none),.v (.pointer none)=>some true
  | .v (.pointer none),.own _ _ | .own _ _,.v (.pointer none)=>some false
  | .v (.pointer none),.pt _ _ | .pt _ _,.v (.pointer none)=>some false
  | .own i o,.own j q=>if i=j/\o=q then (match T e with|some { size:=_+1,.. }=>some true|_=>none) else none
  | _,_=>none)
 | some { kind:=.bool,.. } =>
  (match x,y with
  | .v (.bool a),.v (.bool b)=>some (a==b)
  | _,_=>none)
 | some { kind:=.slice _ _ _,.. } =>
  (match x,y with
  | .v (.slice none 0 0),.v (.slice none 0 0)=>some true
  | _,_=>none)
 | _=>none
def evNil (T:TT) (t:TypeId) (op:BinOp) (x y:D):Option (List DP × D):=
 match op,evSame T t x y with
 | .eql,some z=>some ([],.v (.bool z))
 | .neq,some z=>some ([],.v (.bool (!z)))
 | _,_=>none
def evBin (T:TT) (t:TypeId) (op:BinOp):D->D->Option (List DP × D)
 | .v (.int k a),.v (.int k' b) =>
  match op with
  | .shl=>evSh .shl k a b
  | .shr=>evSh .shr k a b
  | op=>if k=k' then evInt op k a b else none
 | .v (.string x),.v (.string y)=>evStr op x y
 | x,y=>evNil T t op x y
def yW:List Nat->List D->List D->Option Bool
 | [],[],[]=>some true
 | 0::ks,.v (.int k a)::l,.v (.int k' b)::r=>match yW ks l r with|some z=>if k=k' then some (decide (a=b)&&z) else none|none=>none
 | 1::ks,.v (.string a)::l,.v (.string b)::r=>match yW ks l r with|some z=>some (@decide (a=b) (zed a b)&&z)|none=>none
 | 2::ks,.v (.bool a)::l,.v (.bool b)::r=>match yW ks l r with|some z=>some ((a==b)&&z)|none=>none
 | _,_,_=>none
def kindsL:List Nat->List Nat
 | 3::ks=>ks
 | ks=>ks
def evEqS (op:BinOp) (ti:TI) (l r:List D):Option (List DP × D):=
 match ti.more.flat with
 | some ks =>
  (match yW (kindsL ks) l r with
  | some z=>(match op with
   | .eql=>some ([],.v (.bool z))
   | .neq=>some ([],.v (.bool (!z)))
   | _=>none)
  | none=>none)
 | none=>none
def evUn:UnOp->D->Option (List DP × D)
 | .not,.v (.bool b)=>some ([],.v (.bool (!b)))
 | .neg,.v (.int .i64 n)=>some ([dp (zs (0 - n))],.v (.int .i64 (0 - n)))
 | .neg,.v (.int k n)=>some ([],.v (.int k (k.wrap (0 - n))))
 | _,_=>none
def rowCells (f:Nat->Nat->D) (a:Nat):Nat->Nat->List D
 | _,0=>[]
 | o,n+1=>f a o::rowCells f a (o+1) n
def ptCells (f:Nat->D):Nat->Nat->List D
 | _,0=>[]
 | o,n+1=>f o::ptCells f (o+1) n
def zf8 (ti:TI) (ow:List Own):D->Option (List DP × D)
 | .own i off =>
  match ow[i]? with
  | some (.cells _ l)=>if ti.agg then (match cut l off ti.size with|some c=>some ([],.ag c)|none=>none) else (match l[off]? with|some d=>some ([],d)|none=>none)
  | _=>none
 | .pt m f=>if ti.agg then (if ti.size<=m then some ([],.ag (ptCells f 0 ti.size)) else none) else (if 0<m then some ([],f 0) else none)
 | .rp i sz a off =>
  match ow[i]? with
  | some o=>(match zd7 o with
   | some (_,sz',n,f)=>if sz=sz'/\off+ti.size<=sz then (if ti.agg then some ([dp (a<n)],.ag (rowCells f a off ti.size)) else (if ti.size=1 then some ([dp (a<n)],f a off) else none)) else none
   | none=>none)
  | _=>none
 | _=>none
def updF (f:Nat->Nat->D) (a off:Nat) (cs:List D):Nat->Nat->D:=fun b j =>
 if b=a then (if off<=j then (match cs[j - off]? with|some d=>d|none=>f b j) else f b j) else f b j
def zjm (ow:List Own) (p d:D):Option (List DP × List Own):=
 match p,zc6 d with
 | .own i off,some cs =>
  match ow[i]? with
  | some (.cells t l)=>if oneL cs=true then (match splice l off cs with|some l'=>some ([],zj ow i (.cells t l'))|none=>none) else none
  | _=>none
 | .rp i sz a off,some cs =>
  match ow[i]? with
  | some o=>(match zd7 o with
   | some (e,sz',n,f)=>if sz=sz'/\off+cs.length<=sz/\zcs cs=true/\oneL cs=true then some ([dp (a<n)],zj ow i (.row e sz n (updF f a off cs))) else none
   | none=>none)
  | _=>none
 | _,_=>none
def zof (fs:List (Nat × Nat)) (k:Nat):D->Option D
 | .own i off=>match fs[k]? with|some (o,_+1)=>some (.own i (off+o))|_=>none
 | .pt m f=>match fs[k]? with|some (o,_+1)=>some (.pt (m - o) fun j=>f (o+j))|_=>none
 | .rp i sz a off=>match fs[k]? with|some (o,_+1)=>some (.rp i sz a (off+o))|_=>none
 | _=>none
def zjq (ti:TI) (k:Nat):D->Option D
 | .ag l =>
  match ti.kind with
  | .struct fs=>(match fs[k]?,ti.more.fagg[k]? with
   | some (o,n),some 1=>(match cut l o n with|some c=>some (.ag c)|none=>none)
   | some (o,_),some 0=>l[o]?
   | _,_=>none)
  | _=>none
 | _=>none
def ud (tk:TK) (ow:List Own) (x i:D):Option (List DP × D):=
 match tk,x,i with
 | .slice _ s _,.sl sz n f,.v (.int _ k)=>if sz=s then some ([dp (0<=k/\k<n)],.pt sz fun j=>f k.toNat j) else none
 | .slice _ s _,.row r,.v (.int _ k) =>
  match ow[r]? with
  | some o=>(match zd7 o with
   | some (_,sz,n,_)=>if sz=s then some ([dp (0<=k/\k<n)],.rp r sz k.toNat 0) else none
   | none=>none)
  | _=>none
 | .array len esz,.own r off,.v (.int _ k)=>some ([dp (0<=k/\k<len)],.own r (off+k.toNat*esz))
 | .array len esz,.pt m f,.v (.int _ k)=>if len*esz<=m then some ([dp (0<=k/\k<len)],.pt esz fun j=>f (k.toNat*esz+j)) else none
 | .slice _ 1 _,.os r off n,.v (.int _ k)=>some ([dp (0<=k/\k<n)],.own r (off+k.toNat))
 | _,_,_=>none
def zex (ti:TI) (x i:D):Option (List DP × D):=
 match ti.kind,x,i with
 | .str,.v (.string s),.v (.int _ k)=>some ([dp (0<=k/\k<s.size)],.v (.int .u8 (bAt s k.toNat)))
 | .array len esz,.ag l,.v (.int _ k) =>
  (match ti.more.fagg with
  | [1]=>(match cut l (k.toNat*esz) esz with|some c=>some ([dp (0<=k/\k<len)],.ag c)|none=>none)
  | [0]=>(match l[k.toNat*esz]? with|some d=>some ([dp (0<=k/\k<len)],d)|none=>none)
  | _=>none)
 | _,_,_=>none
def evLen (tk:TK) (ow:List Own) (x:D):Option D :=
 match tk,x with
 | .str,.v (.string s)=>some (.v (.int .i64 (s.size)))
 | .slice _ _ _,.v (.slice none 0 0)=>some (.v (.int .i64 0))
 | .slice _ _ _,.sl _ n _=>some (.v (.int .i64 n))
 | .slice _ _ _,.os _ _ n=>some (.v (.int .i64 n))
 | .slice _ _ _,.row r=>match ow[r]? with|some o=>(match zd7 o with|some (_,_,n,_)=>some (.v (.int .i64 n))|none=>none)|_=>none
 | _,_=>none
def vr:List D->Option (List UInt8)
 | []=>some []
 | .v (.int .u8 a)::l=>match vr l with|some r=>some (UInt8.ofNat a.toNat::r)|none=>none
 | _::_=>none
def zam (f:Nat->Nat->D):Nat->Nat->List D
 | _,0=>[]
 | i,n+1=>f i 0::zam f (i+1) n
def zdj (ow:List Own):D->Option ByteArray
 | .v (.slice none 0 0)=>some ⟨#[]⟩
 | .os i off n=>match ow[i]? with|some (.cells _ l)=>(match cut l off n with|some c=>(match vr c with|some bs=>some ⟨⟨bs⟩⟩|none=>none)|none=>none)|_=>none
 | .sl 1 n f=>match vr (zam f 0 n) with|some bs=>some ⟨⟨bs⟩⟩|none=>none
 | .row i=>match ow[i]? with|some (.bytes _ s)=>some s|some (.row _ 1 n f)=>(match vr (zam f 0 n) with|some bs=>some ⟨⟨bs⟩⟩|none=>none)|_=>none
 | _=>none
def zh1 (T:TT) (ow:List Own) (src dst:TK) (x:D):Option D :=
 match src,dst,x with
 | .int _,.int k,.v (.int _ n)=>some (.v (.int k (k.wrap n)))
 | .str,.str,.v (.string s)=>some (.v (.string s))
 | .slice e 1 _,.str,x=>match T e with|some { kind:=.int .u8,.. }=>(match zdj ow x with|some s=>some (.v (.string s))|none=>none)|_=>none
 | .ptr t,.uptr,.own i 0=>match T t,ow[i]? with|some { size:=_+1,.. },some (.cells _ (_::_))=>some (.own i 0)|_,_=>none
 | .uptr,.ptr t,.own i 0=>match T t,ow[i]? with|some { size:=sz,more:={ self:=true,.. },.. },some (.cells t' l)=>if t'=t/\l.length=sz then some (.own i 0) else none|_,_=>none
 | _,_,_=>none
def zjn (s:ByteArray):Option D->Option D->Option (List DP × D)
 | none,none=>some ([],.v (.string s))
 | some (.v (.int _ l)),none=>some ([dp (0<=l/\l<=s.size)],.v (.string (zN s l.toNat (s.size))))
 | none,some (.v (.int _ h))=>some ([dp (0<=h/\h<=s.size)],.v (.string (zN s 0 h.toNat)))
 | some (.v (.int _ l)),some (.v (.int _ h))=>some ([dp (0<=l/\l<=h/\h<=s.size)],.v (.string (zN s l.toNat h.toNat)))
 | _,_=>none
def zc1 (x:D) (lo hi:Option D):Option (List DP × D):=
 match x with
 | .sl sz n f =>
  (match lo,hi with
  | none,none=>some ([],.sl sz n f)
  | some (.v (.int _ l)),none=>some ([dp (0<=l/\l<=n)],.sl sz (n - l.toNat) fun i j=>f (l.toNat+i) j)
  | none,some (.v (.int _ h))=>some ([dp (0<=h/\h<=n)],.sl sz h.toNat f)
  | some (.v (.int _ l)),some (.v (.int _ h))=>some ([dp (0<=l/\l<=h/\h<=n)],.sl sz (h.toNat - l.toNat) fun i j=>f (l.toNat+i) j)
  | _,_=>none)
 | .v (.slice none 0 0) =>
  (match lo,hi with
  | none,none=>some ([],.v (.slice none 0 0))
  | some (.v (.int _ l)),none=>some ([dp (l=0)],.v (.slice none 0 0))
  | none,some (.v (.int _ h))=>some ([dp (h=0)],.v (.slice none 0 0))
  | some (.v (.int _ l)),some (.v (.int _ h))=>some ([dp (l=0/\h=0)],.v (.slice none 0 0))
  | _,_=>none)
 | _=>none
def zjo (len:Nat) (i off:Nat) (lo hi:Option D):Option (List DP × D):=
 match lo,hi with
 | none,none=>some ([],.os i off len)
 | some (.v (.int _ l)),none=>some ([dp (0<=l/\l<=len)],.os i (off+l.toNat) (len - l.toNat))
 | none,some (.v (.int _ h))=>some ([dp (0<=h/\h<=len)],.os i off h.toNat)
 | some (.v (.int _ l)),some (.v (.int _ h))=>some ([dp (0<=l/\l<=h/\h<=len)],.os i (off+l.toNat) (h.toNat - l.toNat))
 | _,_=>none
abbrev zib:=Operand->Option D
def getO (g:zib):Option Operand->Option (Option D)
 | none=>some none
 | some x=>match g x with|some d=>some (some d)|none=>none
def zgt (g:zib):List Operand->Option (List D)
 | []=>some []
 | x::xs=>match g x,zgt g xs with|some d,some ds=>some (d::ds)|_,_=>none
def yG (g:zib):List (Nat × Operand)->Option (List (Nat × D))
 | []=>some []
 | (i,x)::xs=>match g x,yG g xs with|some d,some ds=>some ((i,d)::ds)|_,_=>none
def placeOf:TK->Option (Nat->Option (Nat × Nat))
 | .struct fs=>some fun i=>fs[i]?
 | .array _ esz=>some fun i=>some (i*esz,esz)
 | _=>none
def zeroD (ti:TI):Option D :=
 match ti.zero,ti.more.zok with
 | some z,true=>if ti.agg then some (.ag (z.map .v)) else (match z with|[x]=>some (.v x)|_=>none)
 | _,_=>none
def evIfN (T:TT) (b:BinOp) (t:TypeId) (y:Operand) (a c:D):Option (List DP × D):=
 match y,c with
 | .const .nilIface,.v .nilIface =>
  (match T t with
  | some { kind:=.iface,.. } =>
   (match b,a with
   | .eql,.v .nilIface=>some ([],.v (.bool true))
   | .neq,.v .nilIface=>some ([],.v (.bool false))
   | .eql,.ifc _ _=>some ([],.v (.bool false))
   | .neq,.ifc _ _=>some ([],.v (.bool true))
   | _,_=>none)
  | _=>none)
 | _,_=>none
def zY (T:TT) (op:Op) (g:zib) (ow:List Own):Option (List DP × D):=
 match op with
 | .move x | .assign x=>match g x with|some d=>some ([],d)|none=>none
 | .build t ps =>
  match T t,yG g ps.toList with
  | some { zero:=some z,kind:=k,.. },some ds=>(match placeOf k with|some fs=>(match zeb fs (z.map .v) ds with|some cs=>some ([],.ag cs)|none=>none)|none=>none)
  | _,_=>none
 | .load t a =>
  match T t,g a with
  | some ti,some p=>zf8 ti ow p
  | _,_=>none
 | .nilCheck x=>match g x with|some (.own i o)=>some ([],.own i o)|some (.pt m f)=>some ([],.pt m f)|some (.rp i s a o)=>some ([],.rp i s a o)|some (.fn f l)=>some ([],.fn f l)|some (.yl i)=>some ([],.yl i)|some (.ifc t d)=>some ([],.ifc t d)|_=>none
 | .binOp b t x y _ =>
  match g x,g y with
  | some (.ag l),some (.ag r)=>(match T t with|some ti=>evEqS b ti l r|none=>none)
  | some a,some c=>(match evIfN T b t y a c with|some r=>some r|none=>evBin T t b a c)
  | _,_=>none
 | .unOp u _ x=>match g x with|some a=>evUn u a|none=>none
 | .fieldAddr t x k =>
  match T t,g x with
  | some { kind:=.struct fs,.. },some p=>match zof fs k p with|some d=>some ([],d)|none=>none
  | _,_=>none
 | .field t x k =>
  match T t,g x with
  | some ti,some p=>match zjq ti k p with|some d=>some ([],d)|none=>none
  | _,_=>none
 | .indexAddr t x i =>
  match T t,g x,g i with
  | some { kind:=tk,.. },some a,some c=>ud tk ow a c
  | _,_,_=>none
 | .index t x i =>
  match T t,g x,g i with
  | some ti,some a,some c=>zex ti a c
  | _,_,_=>none
 | .extract x i=>match g x with|some (.tu l)=>(match l[i]? with|some d=>some ([],d)|none=>none)|_=>none
 | .convert a b x =>
  match T a,T b,g x with
  | some { kind:=ka,.. },some { kind:=kb,.. },some d=>(match zh1 T ow ka kb d with|some d'=>some ([],d')|none=>none)
  | _,_,_=>none
 | .slice t x lo hi none =>
  match T t,g x,getO g lo,getO g hi with
  | some { kind:=.str,.. },some (.v (.string s)),some l,some h=>zjn s l h
  | some { kind:=.slice _ s _,.. },some (.sl sz n f),some l,some h=>if sz=s then zc1 (.sl sz n f) l h else none
  | some { kind:=.slice _ _ _,.. },some (.v x),some l,some h=>zc1 (.v x) l h
  | some { kind:=.array len 1,.. },some (.own i off),some l,some h=>zjo len i off l h
  | _,_,_,_=>none
 | .makeInterface t x =>
  match T t,g x with
  | some { kind:=k,.. },some d=>(match k with | .iface=>none|_=>some ([],.ifc t d))
  | _,_=>none
 | .makeFunc (.func f) ⟨[]⟩ caps=>match zgt g caps.toList with|some ds=>some ([],.fn f ds)|none=>none
 | .call ⟨.builtin .min,⟨[x,y]⟩,_⟩=>match g x,g y with|some (.v (.int .i64 a)),some (.v (.int .i64 b))=>some ([],.v (.int .i64 (min a b)))|_,_=>none
 | .call ⟨.builtin .max,⟨[x,y]⟩,_⟩=>match g x,g y with|some (.v (.int .i64 a)),some (.v (.int .i64 b))=>some ([],.v (.int .i64 (max a b)))|_,_=>none
 | .call ⟨.builtin .len,⟨[x]⟩,⟨[t]⟩⟩ =>
  match T t,g x with
  | some { kind:=tk,.. },some a=>(match evLen tk ow a with|some d=>some ([],d)|none=>none)
  | _,_=>none
 | .call ⟨.builtin .cap,⟨[x]⟩,⟨[t]⟩⟩ =>
  match T t,g x with
  | some { kind:=.slice _ _ _,.. },some (.v (.slice none 0 0))=>some ([],.v (.int .i64 0))
  | _,_=>none
 | .typeAssert x _ t true =>
  match T t,g x with
  | some { size:=c,agg:=ag,zero:=z,kind:=.struct fs,more:=m },some (.v .nilIface)=>(match zeroD { size:=c,agg:=ag,zero:=z,kind:=.struct fs,more:=m } with|some d=>some ([],.tu [d,.v (.bool false)])|none=>none)
  | some { kind:=.struct _,.. },some (.ifc t' d)=>if t'=t then some ([],.tu [d,.v (.bool true)]) else none
  | _,_=>none
 | .call ⟨.builtin .max,⟨[x,y,z]⟩,_⟩=>match g x,g y,g z with|some (.v (.int .i64 a)),some (.v (.int .i64 b)),some (.v (.int .i64 c))=>some ([],.v (.int .i64 (max (max a b) c)))|_,_,_=>none
 | _=>none
def znq:List D->Option (List KA)
 | []=>some []
 | .v (.int k n)::l=>match znq l with|some r=>some (.i k n::r)|none=>none
 | .v (.string x)::l=>match znq l with|some r=>some (.s x::r)|none=>none
 | .v (.bool x)::l=>match znq l with|some r=>some (.b x::r)|none=>none
 | _::_=>none
def kvOf:D->Option KV
 | .v (.int k n)=>some (.i k n)
 | .v (.string b)=>some (.s b)
 | .v (.bool x)=>some (.b x)
 | .ag l=>match znq l with|some ks=>some (.st ks)|none=>none
 | _=>none
def zgn (T:TT) (e:TypeId):Bool:=match T e with|some { kind:=.int .u8,size:=1,agg:=false,zero:=some [.int .u8 n],more:={ zok:=true,.. },.. }=>n==0|_=>false
def zkh (len:Nat) (z:List Value):List D:=((List.range (len*z.length)).map fun i=>z.getD (i % z.length) (.tuple #[])).map .v
def zl5 (T:TT) (op:Op) (g:zib) (ow:List Own):Ev :=
 match op with
 | .alloc e =>
  match T e with
  | some { zero:=some z,.. }=>some ([],.own ow.length 0,ow++[.cells e (z.map .v)])
  | _=>none
 | .box e x =>
  match g x with
  | some d=>match zc6 d with|some cs=>if oneL cs=true then some ([],.own ow.length 0,ow++[.cells e cs]) else none|none=>none
  | _=>none
 | .buildSlice t 0 ⟨[]⟩ =>
  match T t with
  | some { kind:=.slice e esz _,.. }=>some ([],.row ow.length,ow++[.row e esz 0 fun _ _=>.junk])
  | _=>none
 | .store t a x =>
  match T t,g a,g x with
  | some ti,some p,some d =>
   match (match p with | .rp _ _ _ _=>frz ow d|_=>(d,ow)) with
   | (d',ow1) =>
    match zc6 d' with
    | some cs=>if cs.length=ti.size then (match zjm ow1 p d' with|some (vs,ow')=>some (vs,.junk,ow')|none=>none) else none
    | none=>none
  | _,_,_=>none
 | .makeMap t none =>
  match T t with
  | some { kind:=.map k v,.. }=>(match T k with
   | some ki=>(match ksOf ki with|some sh=>some ([],.mp ow.length,ow++[.map k v sh fun _=>none])|none=>none)
   | none=>none)
  | _=>none
 | .mapUpdate t m k x =>
  match T t,g m,g k,g x with
  | some { kind:=.map kt vt,.. },some (.mp i),some kd,some d =>
   match T kt,ow[i]?,kvOf kd with
   | some ki,some (.map kt' vt' sh f),some key=>if kt'=kt/\vt'=vt/\ksOf ki=some sh/\zcb key=sh then some ([],.junk,zj ow i (.map kt vt sh fun k'=>if k'=key then some d else f k')) else none
   | _,_,_=>none
  | _,_,_,_=>none
 | .slice t x lo hi none =>
  match T t,g x,getO g lo,getO g hi with
  | some { kind:=.slice _ s _,.. },some (.row i),some l,some h =>
   match frz ow (.row i) with
   | (.sl sz n f,ow')=>if sz=s then (match zc1 (.sl sz n f) l h with|some (vs,d)=>some (vs,d,ow')|none=>none) else none
   | _=>none
  | _,_,_,_=>none
 | .call ⟨.builtin .unsafeString,⟨[p,n]⟩,⟨[pt,_]⟩⟩ =>
  match g p,g n with
  | some (.v (.pointer none)),some (.v (.int .i64 0))=>some ([],.v (.string ⟨#[]⟩),ow)
  | some (.sd i),some (.v (.int .i64 n)) =>
   match ow[i]? with
   | some (.bytes e s) =>
    (match T pt with
    | some { kind:=.ptr e',.. }=>if e'=e then (match T e with|some { size:=1,.. }=>some ([dp (n=s.size)],.v (.string s),zj ow i .gone)|_=>none) else none
    | _=>none)
   | _=>none
  | _,_=>none
 | .range t x =>
  match T t,g x with
  | some { kind:=.str,.. },some (.v (.string s))=>some ([],.own ow.length 0,ow++[.iter s 0])
  | _,_=>none
 | .next x true =>
  match g x with
  | some (.own i 0) =>
   match ow[i]? with
   | some (.iter s pos)=>if pos<s.size then (match Utf8.decode s pos with|(c,wd)=>some ([],.tu [.v (.bool true),.v (.int .i64 pos),.v (.int .i32 c)],zj ow i (.iter s (pos+wd)))) else some ([],.tu [.v (.bool false)],ow)
   | _=>none
  | _=>none
 | .makeSlice t l c =>
  match T t,g l,g c with
  | some { kind:=.slice e esz by',.. },some (.v (.int k1 n1)),some (.v (.int k2 n2)) =>
   match T e with
   | some { size:=sz0,zero:=some z,.. } =>
    if z.length=esz/\0<esz/\sz0=esz/\(z.all fun v=>v.oneCell')=true then
     some ([dp (0<=n1/\n1=n2/\n1.toNat*esz<=16777216/\by'*n1.toNat<=281474976710656)],.row ow.length,ow++[.row e esz n1.toNat fun _ j=>.v (z.getD j undef)])
    else none
   | _=>none
  | _,_,_=>none
 | .buildSlice t 3 ps =>
  match T t with
  | some { kind:=.slice e 1 _,.. } =>
   match T e,yG g ps.toList with
   | some { size:=1,zero:=some z,.. },some ds =>
    if zgn T e=true/\z.length=1 then
     match zeb (fun i=>some (i*1,1)) (zkh 3 z) ds with
     | some cs=>some ([],.os ow.length 0 3,ow++[.cells e cs])
     | none=>none
    else none
   | _,_=>none
  | _=>none
 | .convert a b x =>
  match T a,g x with
  | some { kind:=.slice e 1 _,.. },some (.os i 0 n) =>
   match ow[i]? with
   | some (.cells _ l)=>if a=b/\l.length=n/\0<n/\zgn T e=true/\zcs l=true/\oneL l=true then some ([],.sl 1 n fun q _=>(l[q]?).getD .junk,zj ow i .gone) else none
   | _=>none
  | _,_=>none
 | _=>none
def frzP:List Own->List (Nat × D)->List (Nat × D) × List Own
 | ow,[]=>([],ow)
 | ow,(i,d)::ds=>match frz ow d with|(d',ow')=>match frzP ow' ds with|(ds',ow'')=>((i,d')::ds',ow'')
def ur (T:TT) (op:Op) (g:zib) (ow:List Own):Option D :=
 match op with
 | .call ⟨.builtin .unsafeSliceData,⟨[x]⟩,_⟩ =>
  match g x with
  | some (.v (.slice none 0 0))=>some (.v (.pointer none))
  | some (.row i)=>(match ow[i]? with|some (.bytes _ _)=>some (.sd i)|_=>none)
  | _=>none
 | .buildSlice t len ps =>
  match T t with
  | some { kind:=.slice e esz _,.. } =>
   match T e,yG g ps.toList with
   | some { size:=sz0,zero:=some z,.. },some ds =>
    if 0<len/\len*esz<=16777216/\z.length=esz/\0<esz/\sz0=esz then
     match zeb (fun i=>some (i*esz,esz)) (zkh len z) ds with
     | some cs=>if zcs cs=true/\oneL cs=true then some (.sl esz len fun i j=>(cs[i*esz+j]?).getD .junk) else none
     | none=>none
    else none
   | _,_=>none
  | _=>none
 | _=>none
def evNew (T:TT) (op:Op) (g:zib) (ow:List Own):Option (D × List Own):=
 match op with
 | .buildSlice t len ps =>
  match T t with
  | some { kind:=.slice e esz _,.. } =>
   match T e,yG g ps.toList with
   | some { size:=sz0,zero:=some z,.. },some ds0 =>
    match frzP ow ds0 with
    | (ds,ow') =>
    if (0<len/\len*esz<=16777216/\z.length=esz/\0<esz/\sz0=esz)/\¬(len=3/\zgn T e=true) then
     match zeb (fun i=>some (i*esz,esz)) (zkh len z) ds with
     | some cs=>if zcs cs=true/\oneL cs=true then some (.sl esz len fun i j=>(cs[i*esz+j]?).getD .junk,ow') else none
     | none=>none
    else none
   | _,_=>none
  | _=>none
 | op=>match ur T op g ow with|some d=>some (d,ow)|none=>none
def zgi (n:Nat) (f g:Nat->Nat->D):Nat->Nat->D:=fun a j=>if a<n then f a j else g (a - n) j
inductive Src where
 | data (m:Nat) (g:Nat->Nat->D)
 | str (s:ByteArray)
def srcOf (esz:Nat) (u8:Bool) (ow:List Own):D->Option Src
 | .sl sz m g=>if sz=esz then some (.data m g) else none
 | .v (.slice none 0 0)=>some (.data 0 fun _ _=>.junk)
 | .v (.string s)=>if u8&&esz==1 then some (.str s) else none
 | .row i=>match ow[i]? with|some o=>(match zd7 o with|some (_,sz,m,g)=>if sz=esz then some (.data m g) else none|none=>none)|none=>none
 | _=>none
def Src.len:Src->Nat
 | .data m _=>m
 | .str s=>s.size
def Src.fn:Src->Nat->Nat->D
 | .data _ g=>g
 | .str s=>vK s
def Src.told:Src->Option (List DP × ByteArray)
 | .str s=>some ([],s)
 | .data 0 _=>some ([],⟨#[]⟩)
 | .data 1 g=>match g 0 0 with | .v (.int .u8 x)=>some ([dp (0<=x/\x<256)],⟨⟨[UInt8.ofNat x.toNat]⟩⟩)|_=>none
 | _=>none
def isRow (i:Nat):D->Bool
 | .row j=>j==i
 | _=>false
def srcTy (T:TT) (t t':TypeId) (by':Nat):Src->Bool
 | .data _ _=>t'==t
 | .str _=>(match T t' with|some { kind:=.str,.. }=>by'==1|_=>false)
def evApp (T:TT) (t t':TypeId) (ow:List Own) (s x:D):Option (List DP × Option Nat × Own):=
 match T t with
 | some { kind:=.slice e esz by',.. } =>
  match T e with
  | some { size:=sz0,zero:=some z,.. } =>
   if z.length=esz/\0<esz/\sz0=esz then
    match srcOf esz (zgn T e) ow x with
    | some q =>
     if srcTy T t t' by' q then
      match s with
      | .row i =>
       if isRow i x then none else
       match ow[i]? with
       | some (.bytes e' b) =>
        if e'=e/\1=esz then
         match q.told with
         | some (vs,c)=>some (dp (b.size+q.len<=9223372036854775807)::dp ((b.size+q.len)*by'<=140737488355328)::vs,some i,.bytes e (yt b c))
         | none=>some ([dp (b.size+q.len<=9223372036854775807),dp ((b.size+q.len)*by'<=140737488355328)],some i,.row e 1 (b.size+q.len) (zgi b.size (vK b) q.fn))
        else none
       | some (.row e' sz n f)=>if e'=e/\sz=esz then some ([dp (n+q.len<=9223372036854775807),dp ((n+q.len)*by'<=140737488355328)],some i,.row e esz (n+q.len) (zgi n f q.fn)) else none
       | _=>none
      | .v (.slice none 0 0) =>
       match q with
       | .str b=>if 1=esz then some ([dp (b.size<=9223372036854775807),dp (b.size*by'<=140737488355328)],none,.bytes e b) else none
       | .data m g=>some ([dp (m<=9223372036854775807),dp (m*by'<=140737488355328)],none,.row e esz m g)
      | _=>none
     else none
    | none=>none
   else none
  | _=>none
 | _=>none
mutual
def pd:D->Bool
 | .v _ | .sl _ _ _ | .pt _ _ | .junk=>true
 | .ag l | .tu l=>pdL l
 | .fn _ l=>pdL l
 | .ifc _ d=>pd d
 | _=>false
def pdL:List D->Bool
 | []=>true
 | d::ds=>pd d&&pdL ds
end
structure Ct where
 ι:Type
 inp:ι->List D
 out:ι->D
 pre:ι->Prop
abbrev YT:=List D->List Own->(D->List Own->Prop)->Prop
structure Ys where
 lp:Nat->Option YT
 pan:List (Nat × D)->List Own->D->Prop
def Ys.none:Ys:=⟨fun _=>.none,fun _ _ _=>False⟩
abbrev Tr:=Ys->List D->List Own->(D->List Own->Prop)->Prop
structure Oc where
 ι:Type
 t:TypeId
 before:ι->List D
 inp:ι->List D
 pre:ι->Prop
 after:ι->List D
 res:ι->D ⊕ D
inductive Hd where
 | pure (ct:Ct)
 | obj (oc:Oc)
 | gen (tr:Tr)
 | ext (g:List D->Option D)
 | quiet
 | recov
abbrev Ctx:=FuncId->Option Hd
def Ent (d d':D):Prop:=∀ M E u,Rep M E d u->Rep M E d' u
def EntL (d d':List D):Prop:=∀ M E u,RepL M E d u->RepL M E d' u
inductive DE where
 | m (i:Nat)
 | c (f:FuncId)
 | r (f:FuncId) (i j:Nat)
structure St where
 tm:List (Nat × D)
 ow:List Own
 df:List DE:=[]
def Ys.wp (Y:Ys) (N:Nat) (df:List DE) (k:Exit->St->Prop):Ys:=⟨Y.lp,fun tm ow d=>k (.panic []) ⟨(N,d)::tm,ow,df⟩⟩
def Ys.wpD (Y:Ys) (b:Bool) (N:Nat) (df:List DE) (k:Exit->St->Prop):Ys:=⟨Y.lp,fun tm ow d=>b=true/\k (.panic []) ⟨(N,d)::tm,ow,df⟩⟩
abbrev Gs:=List (Nat × Nat × Bool × D)
def lk:List (Nat × D)->Nat->Option D
 | [],_=>none
 | (s,d)::r,t=>if s=t then some d else lk r t
def zaf (tm:List (Nat × D)) (t:Nat) (d:D):List (Nat × D):=(t,d)::tm
theorem za1 (tm:List (Nat × D)) (t s:Nat) (d:D):lk (zaf tm t d) s=if t=s then some d else lk tm s:=rfl
def lkG:Gs->Nat->Option (Nat × Bool × D)
 | [],_=>none
 | (s,x)::r,t=>if s=t then some x else lkG r t
def zg2:Gs->Nat->Bool
 | [],_=>true
 | (s,g,_,_)::r,t=>if s=t then false else if g=t then false else zg2 r t
def xO (Gl:Nat->Option D) (ok:Nat->Bool->Bool) (tm:List (Nat × D)) (gs:Gs):Operand->Option D
 | .tmp t =>
  match lkG gs t with
  | some (s,b,d)=>if ok s b then some d else none
  | none=>lk tm t
 | .const v=>some (.v v)
 | .global g=>Gl g
 | .func f=>some (.fn f [])
def um (Gl:Nat->Option D) (ok:Nat->Bool->Bool) (tm:List (Nat × D)) (gs:Gs) (ow:List Own) (x:Operand):Option D :=
 match xO Gl ok tm gs x with
 | some (.row i)=>(match ow[i]? with|some (.frozen sz n f)=>some (.sl sz n f)|_=>some (.row i))
 | some d=>some d
 | none=>none
theorem uh {Gl:Nat->Option D}{ok:Nat->Bool->Bool}{tm:List (Nat × D)}{gs:Gs}{ow:List Own}{x:Operand}:um Gl ok tm gs ow x=(xO Gl ok tm gs x).map (res ow):=by
 unfold um;cases h:xO Gl ok tm gs x with
 | none=>rfl
 | some d =>
  cases d<;>simp only[Option.map_some,res];split<;>rfl
def Need:List DP->Prop->Prop
 | [],k=>k
 | ⟨p,_⟩::ps,k=>p/\Need ps k
def xB:List DP->Prop
 | []=>True
 | ⟨p,_⟩::ps=>p/\xB ps
theorem vW:∀ {vs:List DP}{k:Prop},Need vs k↔xB vs/\k
 | [],k=>by simp[Need,xB]
 | ⟨p,_⟩::ps,k=>by simp[Need,xB,vW,and_assoc]
def zia (b:Prop):List DP->Prop->Prop
 | [],k=>k
 | ⟨p,_⟩::ps,k=>(b->p)/\zia b ps k
theorem yZ {b:Prop}:∀ {vs:List DP}{k:Prop},zia b vs k↔(b->xB vs)/\k
 | [],k=>by simp[zia,xB]
 | ⟨p,_⟩::ps,k=>by
  simp only[zia,xB,yZ];exact ⟨fun ⟨h1,h2,h3⟩=>⟨fun hb=>⟨h1 hb,h2 hb⟩,h3⟩,fun ⟨h1,h2⟩=>⟨fun hb=>(h1 hb).1,fun hb=>(h1 hb).2,h2⟩⟩
def pickD:D->D->D->Option D
 | .v (.bool t),.v (.bool x),.v (.bool y)=>some (.v (.bool (cond t x y)))
 | _,_,_=>none
def zen (N:Nat) (dst:Option Nat) (gs:Gs) (d:D) (tm:List (Nat × D)) (k:List (Nat × D)->Prop):Prop :=
 match dst with
 | some t=>if t<N then (if zg2 gs t then k (zaf tm t d) else False) else False
 | none=>k tm
def zf6 (Γ:Ctx) (Y:Ys) (N:Nat) (f:FuncId) (dst:Option Nat) (ds:List D) (tm:List (Nat × D)) (gs:Gs) (ow:List Own) (k:List (Nat × D)->List Own->Prop):Prop :=
 match Γ f with
 | some (.pure ct) =>
  match zew ow ds with
  | (ds',ow')=>∃ x:ct.ι,EntL ds' (ct.inp x)/\ct.pre x/\zen N dst gs (ct.out x) tm fun tm'=>k tm' ow'
 | some (.obj oc) =>
  match ds with
  | .own i 0::rest =>
   (match zew ow rest with
   | (rest',ow') =>
    (match ow'[i]? with
    | some (.cells t l)=>t=oc.t/\∃ x:oc.ι,EntL (zgs ow' l) (oc.before x)/\EntL rest' (oc.inp x)/\oc.pre x /\
     match oc.res x with
     | .inl d=>zen N dst gs d tm fun tm'=>k tm' (zj ow' i (.cells t (oc.after x)))
     | .inr d=>Y.pan tm (zj ow' i (.cells t (oc.after x))) d
    | _=>False))
  | _=>False
 | some (.gen tr)=>tr Y ds ow fun d ow'=>zen N dst gs d tm fun tm'=>k tm' ow'
 | some (.ext g)=>(match g ds with|some d=>zen N dst gs d tm fun tm'=>k tm' ow|none=>False)
 | some .quiet=>False
 | some .recov=>False
 | none=>False
def methOf (ti:TI) (name:String):Option Nat :=
 match ti.more.meths.find? (fun p=>p.1==name) with
 | some (_,some f)=>some f
 | _=>none
def zho (T:TT) (op:Op) (g:zib) (ow:List Own):Option (Nat × Bool):=
 match op with
 | .binOp b t x y _ =>
  match T t,g x,g y with
  | some { kind:=.slice _ _ _,.. },some d,some (.v (.slice none 0 0)) =>
   match b,(match d with | .sl _ n _=>some n | .row i=>(match ow[i]? with|some o=>(match zd7 o with|some (_,_,n,_)=>some n|none=>none)|none=>none)|_=>none) with
   | .eql,some n=>some (n,false)
   | .neq,some n=>some (n,true)
   | _,_=>none
  | _,_,_=>none
 | _=>none
def zkf (cc:Bool) (Γ:Ctx) (Y:Ys) (T:TT) (Gl:Nat->Option D) (N:Nat) (op:Op) (dst:Option Nat) (tm:List (Nat × D)) (gs:Gs) (ow:List Own) (k:List (Nat × D)->List Own->Prop):Prop :=
 match op with
 | .pick (.tmp s) a b =>
  match cc with
  | true=>(match xO Gl (fun _ _=>false) tm gs (.tmp s) with
   | some (.v (.bool x))=>(x=true->match xO Gl (fun _ _=>false) tm gs a with|some d=>zen N dst gs d tm fun tm'=>k tm' ow|none=>False)/\(x=false->match xO Gl (fun _ _=>false) tm gs b with|some d=>zen N dst gs d tm fun tm'=>k tm' ow|none=>False)
   | _=>False)
  | false =>
   match xO Gl (fun _ _=>false) tm gs (.tmp s),xO Gl (fun s' b'=>(s'==s&&b')) tm gs a,xO Gl (fun s' b'=>(s'==s && !b')) tm gs b with
   | some c,some a,some b=>match pickD c a b with|some d=>zen N dst gs d tm fun tm'=>k tm' ow|none=>False
   | _,_,_=>False
 | .call ⟨.value (.func f),args,_⟩ =>
  match zgt (fun x=>xO Gl (fun _ _=>false) tm gs x) args.toList with
  | some ds=>zf6 Γ Y N f dst ds tm gs ow k
  | none=>False
 | .call ⟨.value (.tmp y),args,_⟩ =>
  match xO Gl (fun _ _=>false) tm gs (.tmp y),zgt (fun x=>xO Gl (fun _ _=>false) tm gs x) args.toList with
  | some (.fn f caps),some ds=>zf6 Γ Y N f dst (ds++caps) tm gs ow k
  | some (.yl i),some ds=>(match Y.lp i with|some t=>t ds ow fun d ow'=>zen N dst gs d tm fun tm'=>k tm' ow'|none=>False)
  | _,_=>False
 | .call ⟨.invoke x name,args,_⟩ =>
  match xO Gl (fun _ _=>false) tm gs x,zgt (fun x=>xO Gl (fun _ _=>false) tm gs x) args.toList with
  | some (.ifc t d),some ds =>
   (match T t with
   | some ti=>(match methOf ti name with|some f=>zf6 Γ Y N f dst (d::ds) tm gs ow k|none=>False)
   | none=>False)
  | _,_=>False
 | .call ⟨.builtin .append,⟨[s,x]⟩,⟨[t,t']⟩⟩ =>
  match xO Gl (fun _ _=>false) tm gs s,um Gl (fun _ _=>false) tm gs ow x with
  | some ds,some dx =>
   match evApp T t t' ow ds dx with
   | some (vs,i,o)=>Need vs (zen N dst gs (.row ow.length) tm fun tm'=>k tm' (xb ow i++[o]))
   | none=>False
  | _,_=>False
 | .lookup t x ix ok =>
  match T t,xO Gl (fun _ _=>false) tm gs x,xO Gl (fun _ _=>false) tm gs ix with
  | some { kind:=.map kt vt,.. },some (.mp i),some kd =>
   match T kt,T vt,ow[i]?,kvOf kd with
   | some ki,some vi,some (.map kt' vt' sh f),some key =>
    if kt'=kt/\vt'=vt/\ksOf ki=some sh/\zcb key=sh then
     match zeroD vi with
     | some z=>(∀ d,f key=some d->zen N dst gs (if ok then .tu [d,.v (.bool true)] else d) tm fun tm'=>k tm' ow)/\(f key=none->zen N dst gs (if ok then .tu [z,.v (.bool false)] else z) tm fun tm'=>k tm' ow)
     | none=>False
    else False
   | _,_,_,_=>False
  | _,_,_=>False
 | .panic x =>
  match um Gl (fun _ _=>false) tm gs ow x with
  | some (.ifc t d)=>pd d=true/\Y.pan tm ow (.ifc t d)
  | _=>False
 | op =>
  match zY T op (fun x=>um Gl (fun _ _=>false) tm gs ow x) ow with
  | some (vs,d)=>Need vs (zen N dst gs d tm fun tm'=>k tm' ow)
  | none =>
   match evNew T op (fun x=>um Gl (fun _ _=>false) tm gs ow x) ow with
   | some (d,ow')=>zen N dst gs d tm fun tm'=>k tm' ow'
   | none =>
    match zl5 T op (fun x=>um Gl (fun _ _=>false) tm gs ow x) ow with
    | some (vs,d,ow')=>Need vs (zen N dst gs d tm fun tm'=>k tm' ow')
    | none =>
     match zho T op (fun x=>um Gl (fun _ _=>false) tm gs ow x) ow with
     | some (n,neg)=>∀ q:Bool,(q=true->n=0)->zen N dst gs (.v (.bool (xor q neg))) tm fun tm'=>k tm' ow
     | none=>False
def exOpG (Γ:Ctx) (T:TT) (Gl:Nat->Option D) (N:Nat) (op:Op) (dst:Option Nat) (s:Nat) (b:Bool) (tm:List (Nat × D)) (gs:Gs) (ow:List Own) (k:List (Nat × D)->Gs->Prop):Prop :=
 match lkG gs s,lk tm s,dst with
 | none,some (.v (.bool t)),some dst =>
  if dst<N then
   if zg2 gs dst then
    if dst=s then False else
    match op with
    | .call { callee:=.value (.func f),args,.. } =>
     match Γ f,zgt (fun x=>xO Gl (fun s' b'=>(s'==s&&b'==b)) tm gs x) args.toList with
     | some (.pure ct),some ds=>∃ x:ct.ι,EntL (zgs ow ds) (ct.inp x)/\(t=b->ct.pre x)/\k (zaf tm dst .junk) ((dst,s,b,ct.out x)::gs)
     | _,_=>False
    | op=>match zY T op (fun x=>um Gl (fun s' b'=>(s'==s&&b'==b)) tm gs ow x) ow with
     | some (vs,d)=>zia (t=b) vs (k (zaf tm dst .junk) ((dst,s,b,d)::gs))
     | none=>False
   else False
  else False
 | _,_,_=>False
def xr (Γ:Ctx) (f:FuncId):Bool:=match Γ f with|some (.pure _)=>true|_=>false
def isCalc (pf:FuncId->Bool):Op->Bool
 | .call ⟨.value (.func f),_,_⟩=>pf f
 | .call ⟨.value _,_,_⟩ | .call ⟨.invoke _ _,_,_⟩ | .lookup _ _ _ _=>false
 | .call ⟨.builtin b,_,_⟩=>(match b with | .len | .min | .max | .cap=>true|_=>false)
 | .alloc _ | .box _ _ | .store _ _ _ | .buildSlice _ _ _ | .makeMap _ _ | .mapUpdate _ _ _ _ | .pick _ _ _ | .range _ _ | .next _ _ | .makeSlice _ _ _=>false
 | _=>true
def yV (cc:Bool) (Γ:Ctx) (Y:Ys) (T:TT) (Gl:Nat->Option D) (N:Nat) (all:List Oper):List Oper->List (Nat × D)->Gs->List Own->(List (Nat × D)->List Own->Prop)->Prop
 | [],tm,_,ow,k=>k tm ow
 | ⟨dst,op,_,_,_,none⟩::r,tm,gs,ow,k=>zkf cc Γ Y T Gl N op dst tm gs ow fun tm' ow'=>yV cc Γ Y T Gl N all r tm' gs ow' k
 | ⟨dst,op,_,_,_,some (j,b)⟩::r,tm,gs,ow,k =>
  match all[j]? with
  | some ⟨some s,_,_,_,_,_⟩ =>
   (match cc with
   | true=>(match lkG gs s,lk tm s with
    | none,some (.v (.bool x)) =>
     (x=b->zkf true Γ Y T Gl N op dst tm gs ow fun tm' ow'=>yV cc Γ Y T Gl N all r tm' gs ow' k) /\
     (x = !b->zen N dst gs (.v undef) tm fun tm'=>yV cc Γ Y T Gl N all r tm' gs ow k)
    | none,some (.v (.tuple _))=>zen N dst gs (.v undef) tm fun tm'=>yV cc Γ Y T Gl N all r tm' gs ow k
    | _,_=>False)
   | false=>exOpG Γ T Gl N op dst s b tm gs ow fun tm' gs'=>yV cc Γ Y T Gl N all r tm' gs' ow k)
  | _=>False
def exQ (cc:Bool) (Γ:Ctx) (T:TT) (Gl:Nat->Option D) (op:Op) (ok:Nat->Bool->Bool) (c:Prop) (tm:List (Nat × D)) (gs:Gs) (ow:List Own) (k:D->Prop):Prop :=
 match op with
 | .pick (.tmp s) a b =>
  match cc with
  | true=>(match xO Gl ok tm gs (.tmp s) with
   | some (.v (.bool x))=>(x=true->match xO Gl ok tm gs a with|some d=>k d|none=>False)/\(x=false->match xO Gl ok tm gs b with|some d=>k d|none=>False)
   | _=>False)
  | false =>
   match xO Gl ok tm gs (.tmp s),xO Gl (fun s' b'=>ok s' b'||(s'==s&&b')) tm gs a,xO Gl (fun s' b'=>ok s' b'||(s'==s && !b')) tm gs b with
   | some x,some y,some z=>(match pickD x y z with|some d=>k d|none=>False)
   | _,_,_=>False
 | .call ⟨.value (.func f),args,_⟩ =>
  match Γ f,zgt (fun x=>xO Gl ok tm gs x) args.toList with
  | some (.pure ct),some ds=>∃ x:ct.ι,EntL (zgs ow ds) (ct.inp x)/\(c->ct.pre x)/\k (ct.out x)
  | _,_=>False
 | op =>
  match zY T op (fun x=>um Gl ok tm gs ow x) ow with
  | some (vs,d)=>zia c vs (k d)
  | none=>match ur T op (fun x=>um Gl ok tm gs ow x) ow with
   | some d=>k d
   | none=>False
def isQuiet (pf:FuncId->Bool):Op->Bool
 | .pick _ _ _=>true
 | .buildSlice _ (_+1) _=>true
 | .call ⟨.builtin .unsafeSliceData,_,_⟩=>true
 | op=>isCalc pf op
def zao (pf:FuncId->Bool):List Oper->Nat
 | []=>0
 | ⟨_,op,_,_,_,_⟩::r=>if isQuiet pf op then zao pf r+1 else 0
def xu (cc:Bool) (Γ:Ctx) (T:TT) (Gl:Nat->Option D) (N:Nat) (all:List Oper):List Oper->Nat->List (Nat × D)->Gs->List Own->(List (Nat × D)->Gs->Prop)->Prop
 | _,0,tm,gs,_,k=>k tm gs
 | [],_+1,tm,gs,_,k=>k tm gs
 | ⟨some t,op,_,_,_,none⟩::r,p+1,tm,gs,ow,k =>
  if t<N then exQ cc Γ T Gl op (fun _ _=>false) True tm gs ow fun d=>xu cc Γ T Gl N all r p (zaf tm t d) gs ow k else False
 | ⟨some t,op,_,_,_,some (j,b)⟩::r,p+1,tm,gs,ow,k =>
  match all[j]? with
  | some ⟨some s,_,_,_,_,_⟩ =>
   match lkG gs s,lk tm s with
   | none,some (.v (.bool x)) =>
    if t<N then
     if t=s then False else
     (match cc with
     | true=>(x=b->exQ true Γ T Gl op (fun _ _=>false) True tm gs ow fun d=>xu cc Γ T Gl N all r p (zaf tm t d) gs ow k)/\(x = !b->xu cc Γ T Gl N all r p (zaf tm t (.v undef)) gs ow k)
     | false=>exQ false Γ T Gl op (fun s' b'=>s'==s&&b'==b) (x=b) tm gs ow fun d=>xu cc Γ T Gl N all r p (zaf tm t .junk) ((t,s,b,d)::gs) ow k)
    else False
   | none,some (.v (.tuple _))=>if t<N then (if t=s then False else (match cc with|true=>xu cc Γ T Gl N all r p (zaf tm t (.v undef)) gs ow k|false=>False)) else False
   | _,_=>False
  | _=>False
 | _::_,_+1,_,_,_,_=>False
def zb4 (o:Oper):List Nat:=o.after.toList.filterMap fun e=>if Region.binds .any e then some e.on else none
def maskOf (acc:List Nat) (o:Oper):Nat:=(zb4 o).foldl (fun m d=>m ||| 2 ^ d ||| acc.getD d 0) 0
def xJ:List Oper->List Nat->List Nat
 | [],acc=>acc
 | o::r,acc=>xJ r (acc++[maskOf acc o])
def tmpsOf (l:List Operand):List Nat:=l.filterMap fun | .tmp t=>some t|_=>none
def xl (all:List Oper) (o:Oper):List Nat :=
 tmpsOf o.op.operands.toList++(match o.guard with|some (j,_)=>(match all[j]? with|some q=>q.dst.toList|none=>[])|none=>[])
def vD (ops:List Oper) (p:Nat):Bool :=
 let ms:=xJ ops []
 (List.range ops.length).all (fun i=>match ops[i]? with|some o=>(zb4 o).all (· < i)|none=>false) &&
 (List.range ops.length).all (fun q=>q<p||(List.range q).all fun i=>(ms.getD q 0).testBit i) &&
 (List.range p).all (fun i=>match ops[i]? with|some a=>(match a.guard with|some (g,_)=>decide (g<i)|none=>true)|none=>false) &&
 (List.range p).all (fun i=>(List.range p).all fun j=>i==j||(match ops[i]?,ops[j]? with
  | some a,some b=>a.dst != b.dst&&(match b.dst with|some t => !(xl ops a).contains t||(ms.getD (max i j) 0).testBit (min i j)|none=>false)
  | _,_=>false))
def flOk:Oper->Bool
 | ⟨some _,.move _,_,_,_,none⟩=>true
 | ⟨some _,.binOp _ _ _ _ _,_,_,_,none⟩=>true
 | ⟨some _,.index _ (.const (.string _)) _,_,_,_,none⟩=>true
 | _=>false
def zdv (ops:List Oper) (acc:List Nat) (i:Nat):List Nat :=
 match ops[i]? with
 | some o=>if flOk o&&((zb4 o).all acc.contains&&(List.range ops.length).all (fun j=>j==i||(acc.contains j||(match ops[j]? with|some q=>(zb4 q).contains i||o.apart ops.toArray q|none=>true)))) then acc++[i] else acc
 | none=>acc
def zlx (ops:List Oper) (p:Nat):List Nat:=(List.range p).foldl (zdv ops) []
def znk (ops:List Oper) (p:Nat):Bool :=
 let ms:=xJ ops []
 (List.range ops.length).all (fun i=>match ops[i]? with|some o=>(zb4 o).all (· < i)|none=>false) &&
 (List.range ops.length).all (fun q=>q<p||(List.range q).all fun i=>(zlx ops p).contains i||(ms.getD q 0).testBit i) &&
 (List.range p).all (fun i=>match ops[i]? with|some a=>(match a.guard with|some (g,_)=>decide (g<i)|none=>true)|none=>false) &&
 (List.range p).all (fun i=>(List.range p).all fun j=>i==j||(match ops[i]?,ops[j]? with
  | some a,some b=>a.dst != b.dst&&(match b.dst with|some t => !(xl ops a).contains t||(ms.getD (max i j) 0).testBit (min i j)|none=>false)
  | _,_=>false)) &&
 ops.all fun o=>match o.op with | .select _ _=>false|_=>true
def zfp (R:Bool) (ops:List Oper) (p:Nat):Bool:=vD ops p||(!R&&znk ops p)
inductive Sch where
 | done (last:List Nat)
 | stage (new:List Nat) (alts:Sch)
 | nil
 | alt (c:Nat) (late:List Nat) (sub rest:Sch)
def uf (all:List Oper) (i:Nat):Option Nat:=match all[i]? with|some o=>o.dst|none=>none
def zbs (Γ:Ctx) (T:TT) (Gl:Nat->Option D) (N:Nat) (all:List Oper):List Nat->List (Nat × D)->List Own->(List (Nat × D)->Prop)->Prop
 | [],tm,_,k=>k tm
 | i::is,tm,ow,k=>xu true Γ T Gl N all (all.drop i) 1 tm [] ow fun tm' _=>zbs Γ T Gl N all is tm' ow k
def zbi (Γ:Ctx) (T:TT) (Gl:Nat->Option D) (N:Nat) (all:List Oper):List Nat->List (Nat × D)->List Own->Prop->Prop
 | [],_,_,k=>k
 | i::is,tm,ow,k=>(xu true Γ T Gl N all (all.drop i) 1 tm [] ow fun tm' _=>match uf all i with|some t=>lk tm' t=lk tm t|none=>False)/\zbi Γ T Gl N all is tm ow k
def zja (all:List Oper) (tm:List (Nat × D)):List Nat->List (Nat × D)
 | []=>tm
 | i::is=>match uf all i with|some t=>zaf (zja all tm is) t .junk|none=>zja all tm is
def zit (all:List Oper) (tm0:List (Nat × D)):List Nat->List (Nat × D)->List (Nat × D)
 | [],tm=>tm
 | i::is,tm=>match uf all i with
  | some t=>(match lk tm0 t with|some d=>zaf (zit all tm0 is tm) t d|none=>zit all tm0 is tm)
  | none=>zit all tm0 is tm
def xD (Γ:Ctx) (Y:Ys) (T:TT) (Gl:Nat->Option D) (N:Nat) (all:List Oper) (c:Nat) (late:List Nat) (tm:List (Nat × D)) (ow:List Own) (k:List (Nat × D)->List Own->Prop):Prop :=
 match all[c]? with
 | some ⟨dst,op,_,_,_,none⟩=>zkf true Γ Y T Gl N op dst (zja all tm late) [] ow fun tm' ow'=>k (zit all tm late tm') ow'
 | _=>False
def yf (Γ:Ctx) (Y:Ys) (T:TT) (Gl:Nat->Option D) (N:Nat) (all:List Oper):Sch->List Nat->List (Nat × D)->List Own->(List (Nat × D)->List Own->Prop)->Prop
 | .done last,pend,tm,ow,k=>zbs Γ T Gl N all last tm ow fun tm=>zbi Γ T Gl N all (pend++last) tm ow (k tm ow)
 | .stage new alts,pend,tm,ow,k=>zbs Γ T Gl N all new tm ow fun tm=>zbi Γ T Gl N all (pend++new) tm ow (yf Γ Y T Gl N all alts [] tm ow k)
 | .nil,_,_,_,_=>True
 | .alt c late sub .nil,_,tm,ow,k=>xD Γ Y T Gl N all c late tm ow fun tm' ow'=>yf Γ Y T Gl N all sub late tm' ow' k
 | .alt c late sub rest,_,tm,ow,k=>(xD Γ Y T Gl N all c late tm ow fun tm' ow'=>yf Γ Y T Gl N all sub late tm' ow' k)/\yf Γ Y T Gl N all rest [] tm ow k
def xv:Sch->List Nat
 | .alt c _ _ rest=>c::xv rest
 | _=>[]
def zcy:Sch->Bool
 | .done _ | .stage _ _=>true
 | _=>false
def okStg (ops:List Oper) (ms known pend new:List Nat):Bool :=
 new.all (fun i=>decide (i<ops.length) && !known.contains i) &&
 (pend++new).all (fun x=>match ops[x]? with|some o=>(pend++new).all (fun j=>match uf ops j with|some t => !(xl ops o).contains t||(ms.getD x 0).testBit j|none=>true)|none=>false)
def okSc (ops:List Oper) (ms:List Nat):Sch->List Nat->List Nat->Bool
 | .done last,known,pend=>okStg ops ms known pend last&&(List.range ops.length).all (fun i=>(known++last).contains i)
 | .stage new alts,known,pend=>okStg ops ms known pend new &&
  (List.range ops.length).all (fun i=>(known++new).contains i||((xv alts).contains i||(xv alts).any fun c=>(ms.getD i 0).testBit c)) && !(xv alts).isEmpty&&okSc ops ms alts (known++new) (pend++new)
 | .nil,_,_=>true
 | .alt c late sub rest,known,pend=>(decide (c<ops.length) && !known.contains c&&zcy sub)&&pend.all (fun i=>late.contains i||(ms.getD c 0).testBit i) &&
  late.all (fun j=>pend.contains j&&(match uf ops j,uf ops c with|some t,some s=>t != s|_,_=>true))&&okSc ops ms sub (known++[c]) late&&okSc ops ms rest known pend
def okSch (ops:List Oper) (sch:Sch):Bool :=
 (List.range ops.length).all (fun i=>match ops[i]? with|some o=>(zb4 o).all (· < i)|none=>false)&&zcy sch&&okSc ops (xJ ops []) sch [] []
def zch (l:List Oper) (p:Nat):Option (Nat × TypeId):=
 match l[p]? with
 | some o=>(match o.dst,o.op,o.guard,zb4 o with|some t,.alloc e,none,[]=>some (t,e)|_,_,_,_=>none)
 | none=>none
def exAl (T:TT) (N:Nat) (e:TypeId) (t:Nat) (tm:List (Nat × D)) (gs:Gs) (ow:List Own) (k:List (Nat × D)->List Own->Prop):Prop :=
 match T e with
 | some { zero:=some z,.. }=>if t<N then (if zg2 gs t then k (zaf tm t (.own ow.length 0)) (ow++[.cells e (z.map .v)]) else False) else False
 | _=>False
def kaV:KA->Value
 | .i k n=>.int k n
 | .s b=>.string b
 | .b x=>.bool x
def kvV:KV->Value
 | .i k n=>.int k n
 | .s b=>.string b
 | .b x=>.bool x
 | .st l=>.agg (l.map kaV).toArray
structure MapRep (M:Mem) (E:List Value) (sh:KS) (f:KV->Option D) (es:List MapEntry):Prop where
 has:∀ k d,f k=some d->∃ (j:Nat) (e:MapEntry),es[j]?=some e/\e.key=kvV k/\Rep M E d e.val
 lacks:∀ k,f k=none->∀ e∈es,e.key≠kvV k
 keys:∀ e∈es,∃ k,e.key=kvV k/\zcb k=sh
 once:∀ (j j':Nat) (e e':MapEntry),es[j]?=some e->es[j']?=some e'->e.key=e'.key->j=j'
def HoldsRow (B:Nat) (M:Mem) (w:World) (e sz n:Nat) (f:Nat->Nat->D) (v:Value):Prop :=
 ∃ xs,w.ownsRow B e sz v n xs/\(∀ a,a<n->∀ j,j<sz->∃ x,xs[a*sz+j]?=some x/\x.oneCell'=true/\Rep M [] (f a j) x)/\∀ g,v.ownBlock=some g->M g=none
def Holds (B:Nat) (M:Mem) (E:List Value) (w:World):Own->Value->Prop
 | .cells t l,v=>∃ b cs,v=.pointer (some ⟨b,0,none⟩)/\w.heap[b]?=some (.cells cs t (0,0))/\RepL M E l cs.toList/\M b=none/\B<=b
 | .row e sz n f,v=>HoldsRow B M w e sz n f v
 | .bytes e s,v=>HoldsRow B M w e 1 s.size (vK s) v/\∀ a n c,v=.slice (some a) n c->c≠0
 | .frozen sz n f,v=>Rep M [] (.sl sz n f) v
 | .map _ _ sh f,v=>∃ b es ck,v=.pointer (some ⟨b,0,none⟩)/\w.heap[b]?=some (.map es ck)/\MapRep M E sh f es.toList/\M b=none/\B<=b
 | .lp st pe,v=>∃ b r,v=.pointer (some ⟨b,0,none⟩)/\w.heap[b]?=some (.loop r)/\r.state=st/\r.pending=pe/\(∃ r0,M b=some (.loop r0))/\B<=b
 | .defd,v=>∃ b,v=.pointer (some ⟨b,0,none⟩)/\w.heap[b]?=some (.deferred (some []))/\M b=none/\B<=b
 | .iter s pos,v=>∃ b,v=.pointer (some ⟨b,0,none⟩)/\w.heap[b]?=some (.stringIter s pos)/\M b=none/\B<=b
 | .gone,v=>v.oneCell'=true
def zL:Value->Option Nat
 | .pointer (some a)=>some a.block
 | .slice (some a) _ _=>some a.block
 | _=>none
def Own.live:Own->Bool
 | .frozen _ _ _ | .gone=>false
 | _=>true
def Own.free:Own->Bool
 | .frozen _ _ _ | .gone | .lp _ _=>false
 | _=>true
structure WRel (B:Nat) (w0:World) (M0 M:Mem) (E:List Value) (ow:List Own) (w:World):Prop where
 fits:M.fits w
 base:B<=w.heap.size
 below:Below B w0 w
 len:E.length=ow.length
 holds:∀ (i:Nat) (o:Own) (v:Value),ow[i]?=some o->E[i]?=some v->Holds B M E w o v
 inj:∀ (i j:Nat) (o o':Own) (v v':Value) (b:Nat),ow[i]?=some o->ow[j]?=some o'->o.live=true->o'.live=true->E[i]?=some v->E[j]?=some v'->zL v=some b->zL v'=some b->i=j
 mle:M0.le M
 new:∀ b o,M b=some o->M0 b=some o\/B<=b
structure TRel (dv:List Deferred) (N:Nat) (M:Mem) (E:List Value) (tm:List (Nat × D)) (gs:Gs) (a:Act):Prop where
 size:a.tmps.size=N
 defers:a.defers=dv
 tmps:∀ t d,lk tm t=some d->Rep M E d (a.tmps.getD t undef)
 guarded:∀ t s b d,lkG gs t=some (s,b,d)->a.tmps.getD s undef=.bool b->Rep M E d (a.tmps.getD t undef)
def StLe (m:Nat) (s s':St):Prop:=s'.df=s.df/\∀ B w0 M0 dv N M E w a,WRel B w0 M0 M E s.ow w->TRel dv N M E s.tm [] a ->
 ∃ M' E',M.le M'/\(∀ (i:Nat) (v:Value),i<m->E[i]?=some v->E'[i]?=some v)/\(∀ i,DE.m i∈s.df->∀ b:Nat,E[i]?=some (.pointer (some ⟨b,0,none⟩))->E'[i]?=some (.pointer (some ⟨b,0,none⟩))) /\
  WRel B w0 M0 M' E' s'.ow w/\TRel dv N M' E' s'.tm [] a
def uH (step:St->(Exit->St->Prop)->Prop) (k:Exit->St->Prop):Nat->St->Prop
 | 0,_=>False
 | n+1,s=>step s fun e s'=>match e with | .normal=>uH step k n s'|e=>k e s'
def zkv (N:Nat):List Nat->List D->List (Nat × D)->Option (List (Nat × D))
 | [],[],tm=>some tm
 | p::ps,d::ds,tm=>if p<N then zkv N ps ds (zaf tm p d) else none
 | _,_,_=>none
def zk4 (exA exB:Nat->St->(Exit->St->Prop)->Prop) (N:Nat) (tm:List (Nat × D)) (ps:List Nat) (i:Nat):YT:=fun ds ow k =>
 match zkv N ps ds tm with
 | some tm'=>exA ow.length ⟨tm',ow,[]⟩ fun e s=>match e with
  | .normal=>(match s.ow[i]?,s.df with
   | some (.lp .ready p),[]=>exB ow.length ⟨s.tm,zj s.ow i (.lp .busy p),[]⟩ fun e s=>match s.ow[i]?,s.df with
    | some (.lp _ _),[]=>(match e with
     | .normal=>k (.v (.bool true)) (zj s.ow i (.lp .ready none))
     | .ret=>k (.v (.bool false)) (zj s.ow i (.lp .done (some .ret)))
     | .exit id=>k (.v (.bool false)) (zj s.ow i (.lp .done (some (.exit id))))
     | _=>False)
    | _,_=>False
   | _,_=>False)
  | _=>False
 | none=>False
def zab:List Oper->Option (List Oper × Nat)
 | []=>none
 | ⟨none,.defer ⟨.value (.tmp y),⟨[]⟩,_⟩,_,_,_,none⟩::[]=>some ([],y)
 | o::r=>match zab r with|some (l,y)=>some (o::l,y)|none=>none
def exDf (Γ:Ctx) (m:Nat) (R:Bool) (y:Nat) (tm:List (Nat × D)) (ow:List Own) (df:List DE) (k:St->Prop):Prop :=
 match lk tm y with
 | some (.fn f [a,b])=>(match Γ f,R with|some .quiet,false=>k ⟨tm,ow,.c f::df⟩|some .recov,false=>(match a,b with | .own i 0,.own j 0=>i<m/\j<m/\k ⟨tm,ow,.r f i j::df⟩|_,_=>False)|_,_=>False)
 | _=>False
def ex (cc:Bool) (Γ:Ctx) (T:TT) (Gl:Nat->Option D) (N:Nat):Code->Ys->Nat->Bool->St->(Exit->St->Prop)->Prop
 | .skip,_,_,_,s,k=>k .normal s
 | .label _,_,_,_,s,k=>k .normal s
 | .region _ ops false,Y,m,R,⟨tm,ow,df⟩,k=>(match zab ops.toList with
  | none=>yV cc Γ (Y.wp N df k) T Gl N ops.toList ops.toList tm [] ow fun tm ow=>k .normal ⟨tm,ow,df⟩
  | some (l,y)=>yV cc Γ (Y.wp N df k) T Gl N ops.toList l tm [] ow fun tm ow=>exDf Γ m R y tm ow df fun s=>k .normal s)
 | .region _ ops true,Y,_,R,⟨tm,ow,df⟩,k=>(match zch ops.toList (zao (xr Γ) ops.toList) with
  | none=>zfp R ops.toList (zao (xr Γ) ops.toList)=true/\xu cc Γ T Gl N ops.toList ops.toList (zao (xr Γ) ops.toList) tm [] ow fun tm' gs'=>yV cc Γ (Y.wpD (vD ops.toList (zao (xr Γ) ops.toList)) N df k) T Gl N ops.toList (ops.toList.drop (zao (xr Γ) ops.toList)) tm' gs' ow fun tm ow=>k .normal ⟨tm,ow,df⟩
  | some (t,e)=>vD ops.toList (zao (xr Γ) ops.toList+1)=true/\xu cc Γ T Gl N ops.toList ops.toList (zao (xr Γ) ops.toList) tm [] ow fun tm' gs'=>exAl T N e t tm' gs' ow fun tm2 ow2=>yV cc Γ (Y.wp N df k) T Gl N ops.toList (ops.toList.drop (zao (xr Γ) ops.toList+1)) tm2 gs' ow2 fun tm ow=>k .normal ⟨tm,ow,df⟩)\/∃ sch:Sch,okSch ops.toList sch=true/\yf Γ (Y.wp N df k) T Gl N ops.toList sch [] tm ow fun tm ow=>k .normal ⟨tm,ow,df⟩
 | .seq a b,Y,m,R,s,k=>ex cc Γ T Gl N a Y m R s fun e s'=>match e with | .normal=>ex cc Γ T Gl N b Y m R s' k|e=>k e s'
 | .cond c a b,Y,m,R,⟨tm,ow,df⟩,k=>match xO Gl (fun _ _=>false) tm [] c with
  | some (.v (.bool t))=>(t=true->ex cc Γ T Gl N a Y m R ⟨tm,ow,df⟩ k)/\(t=false->ex cc Γ T Gl N b Y m R ⟨tm,ow,df⟩ k)
  | _=>False
 | .block id a,Y,m,R,s,k=>ex cc Γ T Gl N a Y m R s fun e s'=>match e with | .exit i=>if i=id then k .normal s' else k (.exit i) s'|e=>k e s'
 | .scope a,Y,m,R,s,k=>ex cc Γ T Gl N a Y m R s fun e s'=>match e with | .goto _=>False|e=>k e s'
 | .exit id,_,_,_,s,k=>k (.exit id) s
 | .ret,_,_,_,s,k=>k .ret s
 | .loop body,Y,m,R,s,k=>∃ q:Nat,match q with
  | q+1=>uH (fun s k=>ex cc Γ T Gl N body Y m R s k) k q s
  | 0=>∃ (ι:Type) (S:ι->St) (H:ι->Prop) (μ:ι->Nat),(∀ i,m<=(S i).ow.length)/\(∃ i,H i/\StLe m s (S i)) /\
   ∀ i,H i->ex cc Γ T Gl N body Y m R (S i) fun e s'=>match e with | .normal=>∃ j,H j/\μ j<μ i/\StLe m s' (S j)|e=>k e s'
 | .rangeFunc f ps as bd,Y,_,false,⟨tm,ow,df⟩,k =>
  match xO Gl (fun _ _=>false) tm [] f with
  | some (.fn g caps) =>
   match Γ g with
   | some (.gen tr) =>
    tr ⟨fun j=>if j=ow.length+1 then some (zk4 (fun m s k=>ex cc Γ T Gl N as Y m true s k) (fun m s k=>ex cc Γ T Gl N bd Y m true s k) N tm ps.toList (ow.length+1)) else Y.lp j,fun _ _ _=>False⟩
     (.yl (ow.length+1)::caps) (ow++[.defd,.lp .ready none]) fun _ ow' =>
      match ow'[ow.length+1]? with
      | some (.lp .busy _)=>False
      | some (.lp _ none)=>k .normal ⟨tm,zj ow' (ow.length+1) (.lp .exhausted none),.m ow.length::df⟩
      | some (.lp _ (some .ret))=>k .ret ⟨tm,zj ow' (ow.length+1) (.lp .exhausted (some .ret)),.m ow.length::df⟩
      | some (.lp _ (some (.exit id)))=>k (.exit id) ⟨tm,zj ow' (ow.length+1) (.lp .exhausted (some (.exit id))),.m ow.length::df⟩
      | _=>False
   | _=>False
  | _=>False
 | _,_,_,_,_,_=>False
end Go.Sx
