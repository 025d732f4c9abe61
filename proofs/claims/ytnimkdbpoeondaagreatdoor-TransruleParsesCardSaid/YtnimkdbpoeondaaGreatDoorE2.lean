import Derived.Test.YtnimkdbpoeondaaGreatDoorE1
import Derived.Laws.Slices
import Derived.Laws.Sem
import Derived.Laws.World
import Derived.Laws.Rows
import Derived.Laws.Cells
import Derived.Laws.Small
import Derived.IntWalk
import Derived.Laws.Strings
import Derived.ChangeKeysEq
import Derived.Lib.Builder
import Derived.Laws.BytesString
set_option linter.all false
namespace Go.Sx
open Go Go.RowKit
variable {E:List Value}{i:TypeInfo}{M:Mem}
section types
variable {P:Program}{t:TypeId}{ti:TI}{w:World}
theorem zi (h:zgu P t=some ti):∃ i d,P.info? t=some i/\P.underlying t=some d/\ti={ size:=i.size,agg:=zbt d,zero:=i.zero.map fun z=>z.cells.toList,kind:=zeg P d,more:={ flat:=flatOf P t d,meths:=znn i d,self:=selfOf P t i d,fagg:=zhz P d,zok:=zokOf i d } }:=by
 unfold zgu at h;split at h
 ·rename_i i d hi hd;exact ⟨i,d,hi,hd,by simpa using h.symm⟩
 ·simp at h
theorem zb {d:TypeDesc}(h:P.underlying t=some d):(underlying t).run P w=.ok d w:=by
 simp[underlying,h]
theorem zcn (h:P.info? t=some i):(typeInfo t).run P w=.ok i w:=by
 simp[typeInfo,h]
theorem zw (h:P.info? t=some i):(sizeOf t).run P w=.ok i.size w:=by
 simp[sizeOf,zcn h]
theorem zbb {d:TypeDesc}(h:P.underlying t=some d):(isAgg t).run P w=.ok (zbt d) w:=by
 simp only[isAgg,Sem.run_bind,zb h,Result.andThen_ok];cases d<;>simp[zbt]
theorem yO {z:Value}(h:P.info? t=some i) (hz:i.zero=some z):(zeroValue t).run P w=.ok z w:=by
 simp[zeroValue,zcn h,hz]
end types
theorem RepL.length:∀ {l:List D}{us:List Value},RepL M E l us->l.length=us.length
 | [],us,h=>by simp[RepL] at h;simp[h]
 | d::ds,us,h=>by
  simp only[RepL] at h;obtain ⟨u,r,rfl,_,hr⟩:=h;simp[RepL.length hr]
theorem RepL.get:∀ {l:List D}{us:List Value}{i:Nat}{d:D},RepL M E l us->l[i]?=some d->∃ u,us[i]?=some u/\Rep M E d u
 | [],us,i,d,h,hi=>by simp at hi
 | x::l,us,i,d,h,hi=>by
  simp only[RepL] at h;obtain ⟨u,r,rfl,hu,hr⟩:=h;cases i with
  | zero=>simp at hi;subst hi;exact ⟨u,by simp,hu⟩
  | succ i=>simp at hi ⊢;exact RepL.get hr hi
theorem RepL.cons {d:D}{ds:List D}{u:Value}{us:List Value}(h:Rep M E d u) (hs:RepL M E ds us):RepL M E (d::ds) (u::us):=by
 simp only[RepL];exact ⟨u,us,rfl,h,hs⟩
theorem RepL.nil:RepL M E [] []:=by simp[RepL]
theorem RepL.append:∀ {l l':List D}{us us':List Value},RepL M E l us->RepL M E l' us'->RepL M E (l++l') (us++us')
 | [],l',us,us',h,h'=>by simp[RepL] at h;subst h;simpa using h'
 | d::l,l',us,us',h,h'=>by
  simp only[RepL] at h;obtain ⟨u,r,rfl,hu,hr⟩:=h;exact RepL.cons hu (RepL.append hr h')
theorem RepL.vals:∀ (vs:List Value),RepL M E (vs.map .v) vs
 | []=>RepL.nil
 | v::vs=>RepL.cons (by simp[Rep]) (RepL.vals vs)
theorem RepL.splice {M:Mem}{E:List Value}:∀ {l:List D}{us:List Value}{off:Nat}{cs:List D}{vs:List Value}{l':List D},RepL M E l us->RepL M E cs vs->splice l off cs=some l' ->
  ∃ us',splice us off vs=some us'/\RepL M E l' us'
 | l,us,0,[],vs,l',h,hc,hs=>by
  simp[RepL] at hc;subst hc;simp[Sx.splice] at hs;subst hs;exact ⟨us,by simp[Sx.splice],h⟩
 | [],us,0,c::cs,vs,l',h,hc,hs=>by simp[Sx.splice] at hs
 | d::l,us,0,c::cs,vs,l',h,hc,hs=>by
  simp only[RepL] at h hc;obtain ⟨u,r,rfl,hu,hr⟩:=h;obtain ⟨x,y,rfl,hx,hy⟩:=hc;simp only[Sx.splice,Option.map_eq_some_iff] at hs;obtain ⟨m,hm,rfl⟩:=hs;obtain ⟨us',h1,h2⟩:=RepL.splice hr hy hm;exact ⟨x::us',by simp[Sx.splice,h1],RepL.cons hx h2⟩
 | [],us,n+1,cs,vs,l',h,hc,hs=>by simp[Sx.splice] at hs
 | d::l,us,n+1,cs,vs,l',h,hc,hs=>by
  simp only[RepL] at h;obtain ⟨u,r,rfl,hu,hr⟩:=h;simp only[Sx.splice,Option.map_eq_some_iff] at hs;obtain ⟨m,hm,rfl⟩:=hs;obtain ⟨us',h1,h2⟩:=RepL.splice hr hc hm;exact ⟨u::us',by simp[Sx.splice,h1],RepL.cons hu h2⟩
theorem RepL.cut {M:Mem}{E:List Value}:∀ {l:List D}{us:List Value}{off n:Nat}{l':List D},RepL M E l us->cut l off n=some l' ->
  ∃ us',cut us off n=some us'/\RepL M E l' us'
 | l,us,0,0,l',h,hs=>by simp[Sx.cut] at hs;subst hs;exact ⟨[],by simp[Sx.cut],RepL.nil⟩
 | [],us,0,n+1,l',h,hs=>by simp[Sx.cut] at hs
 | d::l,us,0,n+1,l',h,hs=>by
  simp only[RepL] at h;obtain ⟨u,r,rfl,hu,hr⟩:=h;simp only[Sx.cut,Option.map_eq_some_iff] at hs;obtain ⟨m,hm,rfl⟩:=hs;obtain ⟨us',h1,h2⟩:=RepL.cut hr hm;exact ⟨u::us',by simp[Sx.cut,h1],RepL.cons hu h2⟩
 | [],us,o+1,n,l',h,hs=>by simp[Sx.cut] at hs
 | d::l,us,o+1,n,l',h,hs=>by
  simp only[RepL] at h;obtain ⟨u,r,rfl,hu,hr⟩:=h;simp only[Sx.cut] at hs;obtain ⟨us',h1,h2⟩:=RepL.cut hr hs;exact ⟨us',by simpa[Sx.cut] using h1,h2⟩
theorem zc5 {α:Type}:∀ {l:List α}{off n:Nat}{l':List α},cut l off n=some l'->l'.length=n/\off+n<=l.length/\∀ j,j<n->l'[j]?=l[off+j]?
 | l,0,0,l',h=>by simp[cut] at h;subst h;simp
 | [],0,n+1,l',h=>by simp[cut] at h
 | x::l,0,n+1,l',h=>by
  simp only[cut,Option.map_eq_some_iff] at h;obtain ⟨m,hm,rfl⟩:=h;obtain ⟨h1,h2,h3⟩:=zc5 hm;refine ⟨by simp[h1],by simp;omega,fun j hj=>?_⟩
  cases j with
  | zero=>simp
  | succ j=>have:=h3 j (by omega);simpa using this
 | [],o+1,n,l',h=>by simp[cut] at h
 | x::l,o+1,n,l',h=>by
  simp only[cut] at h;obtain ⟨h1,h2,h3⟩:=zc5 h;refine ⟨h1,by simp;omega,fun j hj=>?_⟩
  rw[h3 j hj,show o+1+j=(o+j)+1 by omega];simp
theorem xT {α:Type}:∀ {l:List α}{off:Nat}{cs l':List α},splice l off cs=some l'->l'.length=l.length/\off+cs.length<=l.length/\(∀ j,j<cs.length->l'[off+j]?=cs[j]?)/\(∀ j,j<off\/off+cs.length<=j->l'[j]?=l[j]?)
 | l,0,[],l',h=>by simp[splice] at h;subst h;simp
 | [],0,c::cs,l',h=>by simp[splice] at h
 | x::l,0,c::cs,l',h=>by
  simp only[splice,Option.map_eq_some_iff] at h;obtain ⟨m,hm,rfl⟩:=h;obtain ⟨h1,h2,h3,h4⟩:=xT hm;refine ⟨by simp[h1],by simp;omega,fun j hj=>?_,fun j hj=>?_⟩
  ·cases j with
   | zero=>simp
   | succ j=>have:=h3 j (by simpa using hj);simpa using this
  ·cases j with
   | zero=>simp at hj
   | succ j=>have:=h4 j (by simp at hj;omega);simpa using this
 | [],n+1,cs,l',h=>by simp[splice] at h
 | x::l,n+1,cs,l',h=>by
  simp only[splice,Option.map_eq_some_iff] at h;obtain ⟨m,hm,rfl⟩:=h;obtain ⟨h1,h2,h3,h4⟩:=xT hm;refine ⟨by simp[h1],by simp;omega,fun j hj=>?_,fun j hj=>?_⟩
  ·rw[show n+1+j=(n+j)+1 by omega];have:=h3 j hj;simpa using this
  ·cases j with
   | zero=>simp
   | succ j=>have:=h4 j (by omega);simpa using this
theorem zbl (a:Addr) (i j:Nat):(a.add i).add j=a.add (i+j):=by
 unfold Addr.add;by_cases hi:i=0<;>by_cases hj:j=0<;>simp[hi,hj,Nat.add_assoc]
theorem xn (b off o:Nat):(⟨b,off,none⟩:Addr).add o=⟨b,off+o,none⟩:=by
 unfold Addr.add;by_cases h:o=0<;>simp[h]
end Go.Sx
namespace Go.Sx
open Go Go.RowKit
variable {t:TypeId}{v:Value}
section
variable {P:Program}{T:TT}{B:Nat}{w0 w:World}{M0 M:Mem}{E:List Value}{ow:List Own}
theorem uQ {d:TypeDesc}{ad:Addr}{x:Value}(ht:P.underlying t=some d) (ha:zbt d=false) (hc:w.cell? ad=some x):
  (loadVar t ad).run P w=.ok x w:=by
 simp[loadVar,zbb ht,ha,hc]
theorem uR {d:TypeDesc}{i:TypeInfo}{ad:Addr}{cs:List Value}(ht:P.underlying t=some d) (hi:P.info? t=some i) (ha:zbt d=true)
  (hl:cs.length=i.size) (hc:∀ j v,cs[j]?=some v->w.cell? (ad.add j)=some v):(loadVar t ad).run P w=.ok (.agg cs.toArray) w:=by
 have:=run_loadCells_list (P:=P) (w:=w) ad cs hc;rw[hl] at this;simp[loadVar,zbb ht,ha,zw hi,this]
theorem zS (ad:Addr):(Instr.sureAddr (.pointer (some ad))).run P w=.ok ad w:=rfl
theorem WRel.row (h:WRel B w0 M0 M E ow w) {i:Nat}(hE:E[i]?=some v):∃ o,ow[i]?=some o/\Holds B M E w o v:=by
 have hi:i<E.length:=by
  rcases Nat.lt_or_ge i E.length with h'|h'
  ·exact h'
  ·simp[List.getElem?_eq_none h'] at hE
 have ho:ow[i]?=some (ow[i]'(by rw[<- h.len];exact hi)):=List.getElem?_eq_getElem _;exact ⟨_,ho,h.holds _ _ _ ho hE⟩
theorem RepL.ptCells {ad:Addr}{f:Nat->D}:∀ (n o:Nat),(∀ j,j<n->∃ x,M.cell (ad.add (o+j))=some x/\x.oneCell'=true/\Rep M [] (f (o+j)) x) ->
  ∃ cs:List Value,cs.length=n/\RepL M E (ptCells f o n) cs/\∀ j v,cs[j]?=some v->M.cell (ad.add (o+j))=some v
 | 0,o,_=>⟨[],rfl,RepL.nil,by simp⟩
 | n+1,o,h=>by
  obtain ⟨x,hx,_,hr⟩:=h 0 (by omega)
  obtain ⟨cs,hl,hrep,hc⟩:=RepL.ptCells n (o+1) (fun j hj=>by
   obtain ⟨y,h1,h2,h3⟩:=h (j+1) (by omega)
   exact ⟨y,by rw[show o+1+j=o+(j+1) by omega];exact h1,h2,by rw[show o+1+j=o+(j+1) by omega];exact h3⟩)
  refine ⟨x::cs,by simp[hl],RepL.cons (Rep.mono (za _) (EnvLe.nil _) _ _ hr) hrep,fun j v hj=>?_⟩
  cases j with
  | zero=>simp at hj;subst hj;exact hx
  | succ j=>simp at hj;have:=hc j v hj;rw[show o+(j+1)=o+1+j by omega];exact this
theorem RepL.rowCells {f:Nat->Nat->D}{xs:List Value}{a sz:Nat}:∀ (n o:Nat),o+n<=sz->(∀ j,j<sz->∃ x,xs[a*sz+j]?=some x/\x.oneCell'=true/\Rep M [] (f a j) x) ->
  ∃ cs:List Value,cs.length=n/\RepL M E (rowCells f a o n) cs/\∀ j v,cs[j]?=some v->xs[a*sz+(o+j)]?=some v
 | 0,o,_,_=>⟨[],rfl,RepL.nil,by simp⟩
 | n+1,o,ho,h=>by
  obtain ⟨x,hx,_,hr⟩:=h o (by omega)
  obtain ⟨cs,hl,hrep,hc⟩:=RepL.rowCells n (o+1) (by omega) h;refine ⟨x::cs,by simp[hl],RepL.cons (Rep.mono (za _) (EnvLe.nil _) _ _ hr) hrep,fun j v hj=>?_⟩
  cases j with
  | zero=>simp at hj;subst hj;exact hx
  | succ j=>simp at hj;have:=hc j v hj;rw[show o+(j+1)=o+1+j by omega];exact this
theorem Holds.toRow {o:Own}{e sz n:Nat}{f:Nat->Nat->D}(h:Holds B M E w o v) (hr:zd7 o=some (e,sz,n,f)):HoldsRow B M w e sz n f v:=by
 cases o<;>simp[zd7] at hr
 ·obtain ⟨rfl,rfl,rfl,rfl⟩:=hr;exact h
 ·obtain ⟨rfl,rfl,rfl,rfl⟩:=hr;exact h.1
theorem vm {e:TypeId}{sz n:Nat}{xs:List Value}(h:w.ownsRow B e sz v n xs) (hn:0<n):
  ∃ g cap cur,v=.slice (some ⟨g,0,none⟩) n cap/\B<=g/\w.heap[g]?=some (.cells cur e (0,0))/\n<=cap/\cur.size=cap*sz/\cur.toList.take (n*sz)=xs:=by
 rcases h.2 with ⟨_,h0⟩|⟨g,cap,cur,h1,h2,h3,h4,_,h5,h6⟩
 ·omega
 ·exact ⟨g,cap,cur,h1,h2,h3,h4,h5,h6⟩
theorem zdz {ti:TI}{p d:D}{u:Value}{vs:List DP}(hti:zgu P t=some ti) (h:zf8 ti ow p=some (vs,d)) (hvs:xB vs) (hW:WRel B w0 M0 M E ow w) (hp:Rep M E p u):
  ∃ x,(Instr.loadAt t u).run P w=.ok x w/\Rep M E d x:=by
 obtain ⟨i,ds,hi,hd,rfl⟩:=zi hti;cases p<;>simp only[zf8] at h<;>try (simp at h;done)
 case own k off =>
  simp only[Rep] at hp;obtain ⟨b,hE,rfl⟩:=hp;split at h
  ·rename_i tt l ho;have hH:=hW.holds _ _ _ ho hE;simp only[Holds] at hH;obtain ⟨b',cs,hb',hheap,hrep,_,_⟩:=hH;simp at hb';subst hb';split at h
   ·rename_i hagg;split at h
    ·rename_i c hc;simp at h;obtain ⟨rfl,rfl⟩:=h;obtain ⟨us,hus,hrl⟩:=RepL.cut hrep hc;obtain ⟨h1,h2,h3⟩:=zc5 hus;refine ⟨.agg us.toArray,?_,by simp only[Rep];exact ⟨us.toArray,rfl,by simpa using hrl⟩⟩
     simp only[Instr.loadAt,Sem.run_bind,zS,Result.andThen_ok];refine uR hd hi hagg h1 (fun j v hj=>?_)
     rw[xn,cell_of_row w b (off+j) cs tt (0,0) hheap];have hjl:j<i.size:=by
      rcases Nat.lt_or_ge j i.size with hh|hh
      ·exact hh
      ·rw[List.getElem?_eq_none (by omega)] at hj;simp at hj
     rw[<- Array.getElem?_toList,<- h3 j hjl,hj]
    ·simp at h
   ·rename_i hagg;split at h
    ·rename_i dd hl;simp at h;obtain ⟨rfl,rfl⟩:=h;obtain ⟨x,hx,hr⟩:=RepL.get hrep hl;refine ⟨x,?_,hr⟩
     simp only[Instr.loadAt,Sem.run_bind,zS,Result.andThen_ok];refine uQ hd (by simpa using hagg) ?_;rw[cell_of_row w b off cs tt (0,0) hheap,<- Array.getElem?_toList,hx]
    ·simp at h
  ·simp at h
 case pt m f =>
  simp only[Rep] at hp;obtain ⟨ad,rfl,hc⟩:=hp;split at h
  ·rename_i hagg;split at h
   ·rename_i hle;simp at h;obtain ⟨rfl,rfl⟩:=h;obtain ⟨cs,hl,hrep,hcell⟩:=RepL.ptCells (M:=M) (E:=E) (ad:=ad) (f:=f) i.size 0 (fun j hj=>by simpa using hc j (by omega))
    refine ⟨.agg cs.toArray,?_,by simp only[Rep];exact ⟨cs.toArray,rfl,by simpa using hrep⟩⟩
    simp only[Instr.loadAt,Sem.run_bind,zS,Result.andThen_ok];exact uR hd hi hagg hl (fun j v hj=>Mem.cell_fits hW.fits (by simpa using hcell j v hj))
   ·simp at h
  ·rename_i hagg;split at h
   ·rename_i hm;simp at h;obtain ⟨rfl,rfl⟩:=h;obtain ⟨x,hx,_,hr⟩:=hc 0 hm;refine ⟨x,?_,Rep.mono (za _) (EnvLe.nil _) _ _ hr⟩
    simp only[Instr.loadAt,Sem.run_bind,zS,Result.andThen_ok];refine uQ hd (by simpa using hagg) (Mem.cell_fits hW.fits ?_)
    simpa[Addr.add] using hx
   ·simp at h
 case rp k sz a off =>
  simp only[Rep] at hp;obtain ⟨hv,b,hE,hb,rfl⟩:=hp;split at h<;>try (simp at h;done)
  rename_i o ho;split at h
  ·rename_i e sz' n f hro;obtain ⟨xs,hown,hrep,_⟩:=(hW.holds _ _ _ ho hE).toRow hro;split at h
   ·rename_i hsz;obtain ⟨rfl,hle⟩:=hsz;have key:∀ (hlt:a<n),(∀ j,j<sz->∃ x,xs[a*sz+j]?=some x/\x.oneCell'=true/\Rep M [] (f a j) x)/\∀ j x,j<sz->xs[a*sz+j]?=some x->w.cell? (b.add (a*sz+j))=some x:=by
     intro hlt;refine ⟨hrep a hlt,fun j x hj hx=>?_⟩
     obtain ⟨g,cap,cur,h1,h2,h3,h4,h5,h6⟩:=vm hown (by omega)
     rw[h1] at hb;simp[zne] at hb;subst hb;rw[xn,cell_of_row w g _ cur e (0,0) h3,<- Array.getElem?_toList,Nat.zero_add];rw[<- h6,List.getElem?_take_of_lt] at hx
     ·exact hx
     ·calc a*sz+j<a*sz+sz:=by omega
       _=(a+1)*sz:=by rw[Nat.add_mul];omega
       _<=n*sz:=Nat.mul_le_mul_right _ (by omega)
    split at h
    ·rename_i hagg;simp at h;obtain ⟨rfl,rfl⟩:=h;have hlt:a<n:=by simpa[xB] using hvs
     obtain ⟨k1,k2⟩:=key hlt;obtain ⟨cs,hl,hrl,hcell⟩:=RepL.rowCells (M:=M) (E:=E) i.size off hle k1;refine ⟨.agg cs.toArray,?_,by simp only[Rep];exact ⟨cs.toArray,rfl,by simpa using hrl⟩⟩
     simp only[Instr.loadAt,Sem.run_bind,zS,Result.andThen_ok];refine uR hd hi hagg hl (fun j v hj=>?_)
     have hjl:j<i.size:=by
      rcases Nat.lt_or_ge j i.size with hh|hh
      ·exact hh
      ·rw[List.getElem?_eq_none (by omega)] at hj;simp at hj
     rw[zbl,Nat.add_assoc];exact k2 _ _ (by omega) (hcell j v hj)
    ·rename_i hagg;split at h
     ·rename_i hs1;simp at h;obtain ⟨rfl,rfl⟩:=h;have hlt:a<n:=by simpa[xB] using hvs
      obtain ⟨k1,k2⟩:=key hlt;obtain ⟨x,hx,_,hr⟩:=k1 off (by omega)
      refine ⟨x,?_,Rep.mono (za _) (EnvLe.nil _) _ _ hr⟩
      simp only[Instr.loadAt,Sem.run_bind,zS,Result.andThen_ok];exact uQ hd (by simpa using hagg) (k2 _ _ (by omega) hx)
     ·simp at h
   ·simp at h
  ·simp at h
end
end Go.Sx
namespace Go.Sx
open Go Go.RowKit
variable {d:TypeDesc}{fs:List (Nat × Nat)}{i:TypeInfo}{k:IntKind}{ad:Addr}
section
variable {P:Program}{T:TT}{B:Nat}{w0 w:World}{M0 M:Mem}{E:List Value}{ow:List Own}
theorem uO (h:zeg P d=.struct fs):∃ F:Array Field,d=.struct F/\fs=F.toList.map (fun f=>(f.offset,P.cellsOf f.type))/\∀ f∈F.toList,(P.info? f.type).isSome=true:=by
 cases d<;>simp only[zeg] at h<;>try (first|(split at h<;>simp at h;done)|(simp at h;done))
 rename_i F;split at h
 ·rename_i hall;simp at h;exact ⟨F,rfl,h.symm,List.all_eq_true.1 hall⟩
 ·simp at h
theorem zM {e s b:Nat}(h:zeg P d=.slice e s b):d=.slice e/\∃ i,P.info? e=some i/\s=i.size/\b=i.bytes:=by
 cases d<;>simp only[zeg] at h<;>try (first|(split at h<;>simp at h;done)|(simp at h;done))
 rename_i e';split at h
 ·rename_i hs;simp at h;obtain ⟨rfl,rfl,rfl⟩:=h;obtain ⟨i,hi⟩:=Option.isSome_iff_exists.1 hs;exact ⟨rfl,i,hi,by simp[Program.cellsOf,hi],by simp[Program.bytesOf,hi]⟩
 ·simp at h
theorem vy {n s:Nat}(h:zeg P d=.array n s):∃ e i,d=.array n e/\P.info? e=some i/\s=i.size:=by
 cases d<;>simp only[zeg] at h<;>try (first|(split at h<;>simp at h;done)|(simp at h;done))
 rename_i n' e';split at h
 ·rename_i hs;simp at h;obtain ⟨rfl,rfl⟩:=h;obtain ⟨i,hi⟩:=Option.isSome_iff_exists.1 hs;exact ⟨e',i,rfl,hi,by simp[Program.cellsOf,hi]⟩
 ·simp at h
theorem zcj (h:zeg P d=.int k):d=.int k:=by
 cases d<;>simp only[zeg] at h<;>try (first|(split at h<;>simp at h;done)|(simp at h;done))
 simp at h;rw[h]
theorem uA (h:zeg P d=.str):d=.string:=by
 cases d<;>simp only[zeg] at h<;>try (first|(split at h<;>simp at h;done)|(simp at h;done))
 rfl
theorem zkm (h:zeg P d=.bool):d=.bool:=by
 cases d<;>simp only[zeg] at h<;>try (first|(split at h<;>simp at h;done)|(simp at h;done))
 rfl
theorem zef {e:Nat}(h:zeg P d=.ptr e):d=.pointer e:=by
 cases d<;>simp only[zeg] at h<;>try (first|(split at h<;>simp at h;done)|(simp at h;done))
 simp at h;rw[h]
theorem zkl (h:zeg P d=.uptr):d=.unsafePointer:=by
 cases d<;>simp only[zeg] at h<;>try (first|(split at h<;>simp at h;done)|(simp at h;done))
 rfl
theorem tkOf_map {k v:Nat}(h:zeg P d=.map k v):d=.map k v:=by
 cases d<;>simp only[zeg] at h<;>try (first|(split at h<;>simp at h;done)|(simp at h;done))
 simp at h;rw[h.1,h.2]
theorem zna {s:TypeId}{F:Array Field}{k:Nat}{f:Field}(hs:P.underlying s=some (.struct F)) (hf:F[k]?=some f) (hi:P.info? f.type=some i) (h0:i.size≠0):
  (Instr.fieldAt s (.pointer (some ad)) k).run P w=.ok (.pointer (some (ad.add f.offset))) w:=by
 simp[Instr.fieldAt,zb hs,hf,zS,fieldPlace,zw hi,h0]
theorem zjp {t:TypeId}{ti:TI}{k:Nat}{p d:D}{u:Value}(hti:zgu P t=some ti) (hk:ti.kind=.struct fs) (h:zof fs k p=some d) (hp:Rep M E p u):
  ∃ x,(Instr.fieldAt t u k).run P w=.ok x w/\Rep M E d x:=by
 obtain ⟨i,ds,hi,hd,rfl⟩:=zi hti;obtain ⟨F,rfl,rfl,hall⟩:=uO hk;have key:∀ o s,(F.toList.map (fun f=>(f.offset,P.cellsOf f.type)))[k]?=some (o,s+1)->∀ ad,(Instr.fieldAt t (.pointer (some ad)) k).run P w=.ok (.pointer (some (ad.add o))) w:=by
  intro o s ho ad;simp only[List.getElem?_map,Option.map_eq_some_iff,Prod.mk.injEq] at ho;obtain ⟨f,hf,rfl,hs⟩:=ho;have hm:f∈F.toList:=List.mem_of_getElem? hf;obtain ⟨fi,hfi⟩:=Option.isSome_iff_exists.1 (hall f hm)
  refine zna hd (by simpa using hf) hfi ?_;simp[Program.cellsOf,hfi] at hs;omega
 cases p<;>simp only[zof] at h<;>try (simp at h;done)
 case own j off =>
  split at h
  ·rename_i o s ho;simp at h;subst h;simp only[Rep] at hp;obtain ⟨b,hE,rfl⟩:=hp;refine ⟨_,key _ _ ho _,?_⟩
   simp only[Rep];exact ⟨b,hE,by rw[xn]⟩
  ·simp at h
 case pt m f =>
  split at h
  ·rename_i o s ho;simp at h;subst h;simp only[Rep] at hp;obtain ⟨ad,rfl,hc⟩:=hp;refine ⟨_,key _ _ ho _,?_⟩
   simp only[Rep];refine ⟨_,rfl,fun j hj=>?_⟩
   rw[zbl];exact hc (o+j) (by omega)
  ·simp at h
 case rp j sz a off =>
  split at h
  ·rename_i o s ho;simp at h;subst h;simp only[Rep] at hp;obtain ⟨hv,b,hE,hb,rfl⟩:=hp;refine ⟨_,key _ _ ho _,?_⟩
   simp only[Rep];exact ⟨hv,b,hE,hb,by rw[zbl,Nat.add_assoc]⟩
  ·simp at h
theorem xW {t e:TypeId}{a:Option Addr}{n cap:Nat}{q:Int}(ht:P.underlying t=some (.slice e)) (hi:P.info? e=some i) (ha:a=some ad) (h0:0<=q) (h1:q<n):
  (Instr.indexAt t (.slice a n cap) (.int k q)).run P w=.ok (.pointer (some (ad.add (q.toNat*i.size)))) w:=by
 subst ha;simp[Instr.indexAt,asIntOf,zb ht,zw hi,h0,h1]
theorem vz {t e:TypeId}{n:Nat}{q:Int}(ht:P.underlying t=some (.array n e)) (hi:P.info? e=some i) (h0:0<=q) (h1:q<n):
  (Instr.indexAt t (.pointer (some ad)) (.int k q)).run P w=.ok (.pointer (some (ad.add (q.toNat*i.size)))) w:=by
 simp[Instr.indexAt,asIntOf,zb ht,zw hi,zS,h0,h1]
theorem zdi {t:TypeId}{ti:TI}{x ix d:D}{u v:Value}{vs:List DP}(hti:zgu P t=some ti) (h:ud ti.kind ow x ix=some (vs,d)) (hvs:xB vs) (hW:WRel B w0 M0 M E ow w)
  (hx:Rep M E x u) (hix:Rep M E ix v):
  ∃ y,(Instr.indexAt t u v).run P w=.ok y w/\Rep M E d y:=by
 obtain ⟨i,ds,hi,hd,rfl⟩:=zi hti;unfold ud at h;split at h
 ·rename_i e s b sz n f k q hk;split at h<;>try (simp at h;done)
  rename_i hszs;simp at h;obtain ⟨rfl,rfl⟩:=h;obtain ⟨rfl,ei,hei,rfl,rfl⟩:=zM hk;simp[xB] at hvs;obtain ⟨h0,h1⟩:=hvs;simp only[Rep] at hx hix;subst hix;obtain ⟨a,cap,rfl,hcap,hc⟩:=hx;obtain ⟨ad,rfl,hcell⟩:=hc (by omega)
  refine ⟨_,xW hd hei rfl h0 h1,?_⟩
  subst hszs;simp only[Rep];refine ⟨_,rfl,fun j hj=>?_⟩
  rw[zbl];exact hcell q.toNat (by omega) j hj
 ·rename_i e s b r k q hk;split at h<;>try (simp at h;done)
  rename_i o ho;split at h
  ·rename_i e' sz n f hro;split at h<;>try (simp at h;done)
   rename_i hszs;simp at h;obtain ⟨rfl,rfl⟩:=h;obtain ⟨rfl,ei,hei,rfl,rfl⟩:=zM hk;simp[xB] at hvs;obtain ⟨h0,h1⟩:=hvs;simp only[Rep] at hx hix;subst hix;obtain ⟨xs,hown,hrep,_⟩:=(hW.holds _ _ _ ho hx).toRow hro;obtain ⟨g,cap,cur,rfl,h2,h3,h4,h5,h6⟩:=vm hown (by omega)
   refine ⟨_,xW hd hei rfl h0 h1,?_⟩
   subst hszs;simp only[Rep];exact ⟨_,_,hx,rfl,by simp⟩
  ·simp at h
 ·rename_i len esz r off k q hk;simp at h;obtain ⟨rfl,rfl⟩:=h;obtain ⟨e,ei,rfl,hei,rfl⟩:=vy hk;simp only[xB,and_true] at hvs;simp only[Rep] at hx hix;subst hix;obtain ⟨b,hE,rfl⟩:=hx;refine ⟨_,vz hd hei hvs.1 hvs.2,?_⟩
  simp only[Rep];exact ⟨b,hE,by rw[xn]⟩
 ·rename_i len esz m f k q hk;split at h<;>try (simp at h;done)
  rename_i hle;simp at h;obtain ⟨rfl,rfl⟩:=h;obtain ⟨e,ei,rfl,hei,rfl⟩:=vy hk;simp only[xB,and_true] at hvs;simp only[Rep] at hx hix;subst hix;obtain ⟨ad,rfl,hc⟩:=hx;refine ⟨_,vz hd hei hvs.1 hvs.2,?_⟩
  simp only[Rep];refine ⟨_,rfl,fun j hj=>?_⟩
  rw[zbl];refine hc (q.toNat*ei.size+j) ?_;have:(q.toNat+1)*ei.size<=len*ei.size:=Nat.mul_le_mul_right _ (by omega)
  rw[Nat.add_mul] at this;omega
 ·rename_i e b r off n k q hk;simp at h;obtain ⟨rfl,rfl⟩:=h;obtain ⟨rfl,ei,hei,hsz2,rfl⟩:=zM hk;simp[xB] at hvs;obtain ⟨h0,h1⟩:=hvs;simp only[Rep] at hx hix;subst hix;obtain ⟨bl,o,cap,hE,rfl,hcap,ho⟩:=hx;refine ⟨_,xW hd hei rfl h0 h1,?_⟩
  have ho':=ho (by omega)
  subst ho';simp only[Rep];refine ⟨bl,hE,?_⟩
  have:ei.size=1:=by omega
  simp[Addr.add,this]
 ·simp at h
end
end Go.Sx
namespace Go.Sx
open Go Go.RowKit
variable {vs:List DP}{t:TypeId}{xo yo:Operand}{lv hv:Option Value}{u:Value}{len cap:Nat}{lo hi:Option D}{op:BinOp}{e:TypeId}{k:IntKind}{ei:TypeInfo}{cs:Array Value}{l:List D}{b:Bool}{d:D}{ti:TI}{z:Bool}
theorem yI {n:Int}(h:zs n):IntKind.i64.wrap n=n:=by
 obtain ⟨h1,h2⟩:=h;exact IntWalk.i64_in n ⟨h1,by omega⟩
theorem zk {M:Mem}{E:List Value}(x:Value):Rep M E (.v x) x:=by simp[Rep]
section
variable {P:Program}{T:TT}{B:Nat}{w0 w:World}{M0 M:Mem}{E:List Value}{ow:List Own}
theorem znc {a b:Int}(h:evInt op k a b=some (vs,d)) (hvs:xB vs):
  ∃ z,(do eqGuard op t xo yo (.int k a) (.int k b);binOp op t (.int k a) (.int k b):Sem Value).run P w=.ok z w/\Rep M E d z:=by
 unfold evInt at h;split at h<;>(try simp only[bitsI] at h)<;>simp at h<;>obtain ⟨rfl,rfl⟩:=h <;>
  first
   | (simp only[xB,and_true] at hvs
      obtain ⟨h0,h1,h2⟩:=hvs;refine ⟨_,?_,zk _⟩
      have hb:b≠0:=by omega
      have e1:a.tdiv b=a / b:=Int.tdiv_eq_ediv_of_nonneg h0;have hq:zs (a / b):=⟨by have:=Int.ediv_nonneg h0 (Int.le_of_lt h1);omega,by have:=Int.ediv_le_self b h0;omega⟩
      simp[eqGuard,binOp,Op.intDiv,hb,e1,yI hq];done)
   | (simp only[xB,and_true] at hvs
      obtain ⟨h0,h1,h2⟩:=hvs;refine ⟨_,?_,zk _⟩
      have hb:b≠0:=by omega
      have e1:a.tmod b=a % b:=Int.tmod_eq_emod_of_nonneg h0;simp[eqGuard,binOp,Op.intDiv,hb,e1];done)
   | (simp only[xB,and_true] at hvs
      refine ⟨_,?_,zk _⟩
      simp[eqGuard,binOp,Op.intArith,yI hvs];done)
   | (simp only[xB,and_true] at hvs
      refine ⟨_,?_,zk _⟩
      simp[eqGuard,binOp,Op.intDiv,hvs];done)
   | (refine ⟨_,?_,zk _⟩
      simp[eqGuard,binOp,Op.intBits];done)
   | (refine ⟨_,?_,zk _⟩
      simp[eqGuard,binOp,Op.intArith,Op.intCmp])
theorem str_eq (a b:ByteArray):(a.toList==b.toList)=decide (a=b):=by
 rw[Bool.eq_iff_iff];simp only[beq_iff_eq,decide_eq_true_eq,ByteArray.toList_eq];constructor
 ·intro h;cases a;cases b;simp at h;rw[h]
 ·intro h;rw[h]
theorem bcat_eq (x y:ByteArray):yt x y=x++y:=by
 cases x;cases y;apply ByteArray.ext;simp[yt]
theorem ze2 (x y:ByteArray): @decide (x=y) (zed x y)=decide (x=y):=by
 rw[Bool.eq_iff_iff];simp
theorem zhf {k k':IntKind}{a b:Int}(hop:op=.shl\/op=.shr) (h:evSh op k a b=some (vs,d)) (hvs:xB vs):
  ∃ z,(do eqGuard op t xo yo (.int k a) (.int k' b);binOp op t (.int k a) (.int k' b):Sem Value).run P w=.ok z w/\Rep M E d z:=by
 unfold evSh at h;split at h<;>simp at h<;>obtain ⟨rfl,rfl⟩:=h
 ·simp only[xB,and_true] at hvs;exact ⟨_,by simp[eqGuard,binOp,Op.shift,Int.not_lt.2 hvs],zk _⟩
 ·simp only[xB,and_true] at hvs;exact ⟨_,by simp[eqGuard,binOp,Op.shift,Int.not_lt.2 hvs],zk _⟩
theorem znb {a b:ByteArray}(h:evStr op a b=some (vs,d)) (hvs:xB vs):
  ∃ z,(do eqGuard op t xo yo (.string a) (.string b);binOp op t (.string a) (.string b):Sem Value).run P w=.ok z w/\Rep M E d z:=by
 unfold evStr at h;split at h<;>simp at h<;>obtain ⟨rfl,rfl⟩:=h
 ·simp only[xB,and_true] at hvs;refine ⟨_,?_,zk _⟩
  have hmax:IntKind.i64.max=9223372036854775807:=by decide
  have hle:¬(((a.size+b.size:Nat):Int)>IntKind.i64.max):=by rw[hmax];omega
  simp only[eqGuard,binOp,Op.stringOp,bcat_eq];simp;omega
 ·exact ⟨.bool (decide (a=b)),by simp[eqGuard,binOp,Op.stringOp,str_eq],by rw[ze2];exact zk _⟩
 ·exact ⟨.bool (!decide (a=b)),by simp[eqGuard,binOp,Op.stringOp,str_eq],by rw[ze2];exact zk _⟩
 ·exact ⟨_,by simp[eqGuard,binOp,Op.stringOp,ByteArray.toList_eq],zk _⟩
 ·exact ⟨_,by simp[eqGuard,binOp,Op.stringOp,ByteArray.toList_eq],zk _⟩
 ·exact ⟨_,by simp[eqGuard,binOp,Op.stringOp,ByteArray.toList_eq],zk _⟩
 ·exact ⟨_,by simp[eqGuard,binOp,Op.stringOp,ByteArray.toList_eq],zk _⟩
theorem zdx (hT:TOk P T) {x y:D}{u v:Value}(h:evSame T t x y=some z) (hx:Rep M E x u) (hy:Rep M E y v):
  (∀ op xo yo,(eqGuard op t xo yo u v).run P w=.ok () w)/\(∀ d:Nat,(Op.equalIn (d+1) t u v).run P w=.ok z w)/\binOp .eql t u v=(do pure (.bool (<- Op.equal t u v)):Sem Value)/\binOp .neq t u v=(do pure (.bool (!(<- Op.equal t u v))):Sem Value):=by
 unfold evSame at h;split at h
 ·rename_i e hTt;obtain ⟨i,td,hi,hd,he⟩:=zi (hT _ _ hTt)
  simp only[TI.mk.injEq] at he;obtain rfl:=zef he.2.2.2.1.symm;have out:∀ (a b:Option Addr),(∀ d:Nat,(Op.equalIn (d+1) t (.pointer a) (.pointer b)).run P w=.ok z w)->(∀ op xo yo,(eqGuard op t xo yo (.pointer a) (.pointer b)).run P w=.ok () w)/\(∀ d:Nat,(Op.equalIn (d+1) t (.pointer a) (.pointer b)).run P w=.ok z w)/\binOp .eql t (.pointer a) (.pointer b)=(do pure (.bool (<- Op.equal t (.pointer a) (.pointer b))):Sem Value)/\binOp .neq t (.pointer a) (.pointer b)=(do pure (.bool (!(<- Op.equal t (.pointer a) (.pointer b)))):Sem Value):=
   fun a b hh=>⟨fun op xo yo=>by cases op<;>simp[eqGuard],hh,rfl,rfl⟩
  split at h
  ·simp at h;subst h;simp only[Rep] at hx hy;subst hx;subst hy;exact out _ _ (fun d=>by simp[Op.equalIn,zb hd])
  ·simp at h;subst h;simp only[Rep] at hx hy;subst hx;obtain ⟨b,_,rfl⟩:=hy;exact out _ _ (fun d=>by simp[Op.equalIn,zb hd])
  ·simp at h;subst h;simp only[Rep] at hx hy;subst hy;obtain ⟨b,_,rfl⟩:=hx;exact out _ _ (fun d=>by simp[Op.equalIn,zb hd])
  ·simp at h;subst h;simp only[Rep] at hx hy;subst hx;obtain ⟨b,rfl,_⟩:=hy;exact out _ _ (fun d=>by simp[Op.equalIn,zb hd])
  ·simp at h;subst h;simp only[Rep] at hx hy;subst hy;obtain ⟨b,rfl,_⟩:=hx;exact out _ _ (fun d=>by simp[Op.equalIn,zb hd])
  ·rename_i i1 o1 j1 q1;split at h<;>try (simp at h;done)
   rename_i hc;obtain ⟨rfl,rfl⟩:=hc;split at h<;>try (simp at h;done)
   rename_i hTe;simp at h;subst h;simp only[Rep] at hx hy;obtain ⟨b,hb,rfl⟩:=hx;obtain ⟨b',hb',rfl⟩:=hy;rw[hb] at hb';simp at hb';subst hb';obtain ⟨i2,td2,hi2,_,he2⟩:=zi (hT _ _ hTe)
   simp only[TI.mk.injEq] at he2;have h0:i2.size≠0:=by omega
   exact out _ _ (fun d=>by simp[Op.equalIn,zb hd,zw hi2,run_sameAddr_same])
  ·simp at h
 ·rename_i hTt;obtain ⟨i,td,hi,hd,he⟩:=zi (hT _ _ hTt)
  simp only[TI.mk.injEq] at he;obtain rfl:=zkm he.2.2.2.1.symm;split at h
  ·simp at h;subst h;simp only[Rep] at hx hy;subst hx;subst hy;exact ⟨fun op xo yo=>by cases op<;>simp[eqGuard],fun d=>by simp[Op.equalIn,zb hd],rfl,rfl⟩
  ·simp at h
 ·rename_i e s by' mo hTt;obtain ⟨i,td,hi,hd,he⟩:=zi (hT _ _ hTt)
  simp only[TI.mk.injEq] at he;obtain ⟨rfl,_⟩:=zM he.2.2.2.1.symm;split at h<;>try (simp at h;done)
  simp at h;subst h;simp only[Rep] at hx hy;subst hx;subst hy;exact ⟨fun op xo yo=>by cases op<;>simp[eqGuard],fun d=>by simp[Op.equalIn,zb hd],rfl,rfl⟩
 ·simp at h
theorem zgc (hT:TOk P T) {x y d:D}{u v:Value}(h:evBin T t op x y=some (vs,d)) (hvs:xB vs) (hx:Rep M E x u) (hy:Rep M E y v):
  ∃ z,(do eqGuard op t xo yo u v;binOp op t u v:Sem Value).run P w=.ok z w/\Rep M E d z:=by
 unfold evBin at h;split at h
 ·simp only[Rep] at hx hy;subst hx;subst hy;split at h
  ·exact zhf (.inl rfl) h hvs
  ·exact zhf (.inr rfl) h hvs
  ·split at h
   ·rename_i hk;subst hk;exact znc h hvs
   ·simp at h
 ·simp only[Rep] at hx hy;subst hx;subst hy;exact znb h hvs
 ·unfold evNil at h;split at h
  ·rename_i z hz;simp at h;obtain ⟨rfl,rfl⟩:=h;obtain ⟨h1,h2,h3,_⟩:=zdx (w:=w) hT hz hx hy;have h4:(Op.equal t u v).run P w=.ok z w:=h2 9999;refine ⟨.bool z,?_,zk _⟩
   rw[Sem.run_bind,h1,Result.andThen_ok,h3];simp[h4]
  ·rename_i z hz;simp at h;obtain ⟨rfl,rfl⟩:=h;obtain ⟨h1,h2,_,h3⟩:=zdx (w:=w) hT hz hx hy;have h4:(Op.equal t u v).run P w=.ok z w:=h2 9999;refine ⟨.bool (!z),?_,zk _⟩
   rw[Sem.run_bind,h1,Result.andThen_ok,h3];simp[h4]
  ·simp at h
theorem xK {d:Nat}{xs ys:Array Value}{f:Field}{fs:List Field}{a b:Value}{z z':Bool}(hn:f.name ≠ "_") (ha:(part f.type xs f.offset).run P w=.ok a w) (hb:(part f.type ys f.offset).run P w=.ok b w)
  (he:(Op.equalIn (d+1) f.type a b).run P w=.ok z w) (ih:(Op.eqFields (d+1) xs ys fs).run P w=.ok z' w):(Op.eqFields (d+1) xs ys (f::fs)).run P w=.ok (z&&z') w:=by
 rw[Op.eqFields,if_pos hn,Sem.run_bind,ha,Result.andThen_ok,Sem.run_bind,hb,Result.andThen_ok,Sem.run_bind,he,Result.andThen_ok];cases z
 ·simp
 ·simp[ih]
theorem xf {d:Nat}{xs ys:Array Value}:∀ {ks:List Nat}{i:Nat}{fs:List Field}{l r:List D}{us vs:List Value}{z:Bool},uY P i fs=some ks->yW ks l r=some z->RepL M E l us->RepL M E r vs->xs.toList.drop i=us->ys.toList.drop i=vs->(Op.eqFields (d+1) xs ys fs).run P w=.ok z w
 | ks,i,[],l,r,us,vs,z,hf,he,hl,hr,hx,hy=>by
  simp[uY] at hf;subst hf;cases l<;>cases r<;>simp[yW] at he;subst he;simp[Op.eqFields]
 | ks,i,f::fs,l,r,us,vs,z,hf,he,hl,hr,hx,hy=>by
  simp only[uY] at hf;split at hf
  ·rename_i k hk;split at hf
   ·rename_i hc;obtain ⟨ho,hn⟩:=hc;split at hf
    ·rename_i ks' hks;simp at hf;subst hf;have gx:∀ u rest,us=u::rest->xs[f.offset]?=some u/\xs.toList.drop (i+1)=rest:=by
      intro u rest h;rw[h] at hx;refine ⟨?_,?_⟩
      ·have:=congrArg (·[0]?) hx;simpa[ho] using this
      ·have:=congrArg (List.drop 1) hx;simpa[List.drop_drop] using this
     have gy:∀ u rest,vs=u::rest->ys[f.offset]?=some u/\ys.toList.drop (i+1)=rest:=by
      intro u rest h;rw[h] at hy;refine ⟨?_,?_⟩
      ·have:=congrArg (·[0]?) hy;simpa[ho] using this
      ·have:=congrArg (List.drop 1) hy;simpa[List.drop_drop] using this
     unfold yW at he;split at he
     ·simp_all
     ·rename_i e1;simp at e1;obtain ⟨rfl,rfl⟩:=e1;split at he
      ·rename_i z' hz';split at he
       ·rename_i hkk;subst hkk;simp at he;subst he;simp only[RepL,Rep] at hl hr;obtain ⟨u,ru,hu1,rfl,hu3⟩:=hl;obtain ⟨v,rv,hv1,rfl,hv3⟩:=hr;obtain ⟨a1,a2⟩:=gx _ _ hu1;obtain ⟨b1,b2⟩:=gy _ _ hv1;have ih:=xf (d:=d) hks hz' hu3 hv3 a2 b2;have hu:∃ q,P.underlying f.type=some (.int q):=by
         unfold flatK at hk;split at hk<;>simp at hk;exact ⟨_,by assumption⟩
        obtain ⟨q,hu⟩:=hu;exact xK hn (run_part_plain w (by simp[Program.plainKey,hu]) a1) (run_part_plain w (by simp[Program.plainKey,hu]) b1) (by rw[run_equalIn_int w d f.type _ q _ _ hu];rfl) ih
       ·simp at he
      ·simp at he
     ·rename_i e1;simp at e1;obtain ⟨rfl,rfl⟩:=e1;split at he
      ·rename_i z' hz';simp at he;subst he;simp only[RepL,Rep] at hl hr;obtain ⟨u,ru,hu1,rfl,hu3⟩:=hl;obtain ⟨v,rv,hv1,rfl,hv3⟩:=hr;obtain ⟨a1,a2⟩:=gx _ _ hu1;obtain ⟨b1,b2⟩:=gy _ _ hv1;have ih:=xf (d:=d) hks hz' hu3 hv3 a2 b2;have hu:P.underlying f.type=some .string:=by
        unfold flatK at hk;split at hk<;>simp at hk;assumption
       exact xK hn (run_part_plain w (by simp[Program.plainKey,hu]) a1) (run_part_plain w (by simp[Program.plainKey,hu]) b1) (by rw[run_equalIn_string w d f.type _ _ hu,str_eq,ze2]) ih
      ·simp at he
     ·rename_i e1;simp at e1;obtain ⟨rfl,rfl⟩:=e1;split at he
      ·rename_i z' hz';simp at he;subst he;simp only[RepL,Rep] at hl hr;obtain ⟨u,ru,hu1,rfl,hu3⟩:=hl;obtain ⟨v,rv,hv1,rfl,hv3⟩:=hr;obtain ⟨a1,a2⟩:=gx _ _ hu1;obtain ⟨b1,b2⟩:=gy _ _ hv1;have ih:=xf (d:=d) hks hz' hu3 hv3 a2 b2;have hu:P.underlying f.type=some .bool:=by
        unfold flatK at hk;split at hk<;>simp at hk;assumption
       exact xK hn (run_part_plain w (by simp[Program.plainKey,hu]) a1) (run_part_plain w (by simp[Program.plainKey,hu]) b1) (run_equalIn_bool' w d f.type _ _ hu) ih
      ·simp at he
     ·simp at he
    ·simp at hf
   ·simp at hf
  ·simp at hf
theorem vj {td:TypeDesc}{off:Nat}{c:List D}(hd:P.underlying e=some td) (hi:P.info? e=some ei) (ha:zbt td=true) (hr:RepL M E l cs.toList) (hc:cut l off ei.size=some c):
  ∃ z,(part e cs off).run P w=.ok z w/\Rep M E (.ag c) z:=by
 obtain ⟨us,hus,hrl⟩:=RepL.cut hr hc;obtain ⟨h1,h2,h3⟩:=zc5 hus;refine ⟨.agg us.toArray,?_,by simp only[Rep];exact ⟨us.toArray,rfl,by simpa using hrl⟩⟩
 have e1:cs.extract off (off+ei.size)=us.toArray:=by
  apply Array.ext';apply List.ext_getElem?;intro j;by_cases hj:j<ei.size
  ·have:=h3 j hj;simp only at *
   rw[List.toList_toArray,this];simp;rw[List.getElem?_take_of_lt (by omega)];simp
  ·rw[List.getElem?_eq_none (by simp;omega),List.getElem?_eq_none (by simp;omega)]
 simp[part,zbb hd,ha,zw hi,e1]
theorem vh {td:TypeDesc}{off:Nat}(hd:P.underlying e=some td) (ha:zbt td=false) (hr:RepL M E l cs.toList) (hc:l[off]?=some d):
  ∃ z,(part e cs off).run P w=.ok z w/\Rep M E d z:=by
 obtain ⟨u,hu,hr'⟩:=RepL.get hr hc;refine ⟨u,?_,hr'⟩
 have:cs[off]?=some u:=by simpa using hu
 simp[part,zbb hd,ha,this]
theorem zez {α:Type}:∀ {l:List α}{o n:Nat},0<n->n<=(l.drop o).length->cut l o n=some ((l.drop o).take n)
 | _,_,0,h0,_=>by simp at h0
 | [],0,n+1,_,h=>by simp at h
 | [],o+1,n+1,_,h=>by simp at h
 | x::l,0,1,_,_=>by cases l<;>simp[cut]
 | x::l,0,n+2,_,h=>by
  have ih:=zez (l:=l) (o:=0) (n:=n+1) (by omega) (by simpa using h)
  simp only[List.drop_zero] at ih ⊢;simp[cut,ih]
 | x::l,o+1,n+1,h0,h=>by
  have ih:=zez (l:=l) (o:=o) (n:=n+1) h0 (by simpa using h)
  simp[cut,ih]
theorem evEqL_cons {k:Nat}{ks:List Nat}{l r:List D}(h:yW (k::ks) l r=some z):∃ a b l' r' z1 z2,l=a::l'/\r=b::r'/\yW [k] [a] [b]=some z1/\yW ks l' r'=some z2/\z=(z1&&z2):=by
 unfold yW at h;split at h
 ·rename_i e;simp at e
 ·rename_i e;simp at e;obtain ⟨rfl,rfl⟩:=e;split at h
  ·rename_i z' hz';split at h
   ·rename_i hk;subst hk;simp at h;exact ⟨_,_,_,_,_,_,rfl,rfl,by simp only[yW,if_true,Bool.and_true],hz',h.symm⟩
   ·simp at h
  ·simp at h
 ·rename_i e;simp at e;obtain ⟨rfl,rfl⟩:=e;split at h
  ·rename_i z' hz';simp at h;exact ⟨_,_,_,_,_,_,rfl,rfl,by simp only[yW,Bool.and_true],hz',h.symm⟩
  ·simp at h
 ·rename_i e;simp at e;obtain ⟨rfl,rfl⟩:=e;split at h
  ·rename_i z' hz';simp at h;exact ⟨_,_,_,_,_,_,rfl,rfl,by simp only[yW,Bool.and_true],hz',h.symm⟩
  ·simp at h
 ·simp at h
theorem zl7:∀ {ks1 ks2:List Nat}{l r:List D}{z:Bool},yW (ks1++ks2) l r=some z->∃ z1 z2,yW ks1 (l.take ks1.length) (r.take ks1.length)=some z1/\yW ks2 (l.drop ks1.length) (r.drop ks1.length)=some z2/\z=(z1&&z2)/\ks1.length<=l.length/\ks1.length<=r.length
 | [],ks2,l,r,z,h=>⟨true,z,by simp[yW],by simpa using h,by simp,by simp,by simp⟩
 | k::ks1,ks2,l,r,z,h=>by
  obtain ⟨a,b,l',r',z1,z2,rfl,rfl,h1,h2,rfl⟩:=evEqL_cons h;obtain ⟨y1,y2,g1,g2,rfl,g3,g4⟩:=zl7 h2;refine ⟨z1&&y1,y2,?_,by simpa using g2,by rw[Bool.and_assoc],by simpa using g3,by simpa using g4⟩
  simp only[List.length_cons,List.take_succ_cons];unfold yW at h1;split at h1
  ·rename_i e;simp at e
  ·rename_i e1 e2 e3;simp at e1 e2 e3;obtain ⟨rfl,rfl⟩:=e1;obtain ⟨rfl,rfl⟩:=e2;obtain ⟨rfl,rfl⟩:=e3;simp only[yW] at h1;split at h1
   ·rename_i hk;subst hk;simp at h1;subst h1;simp[yW,g1]
   ·simp at h1
  ·rename_i e1 e2 e3;simp at e1 e2 e3;obtain ⟨rfl,rfl⟩:=e1;obtain ⟨rfl,rfl⟩:=e2;obtain ⟨rfl,rfl⟩:=e3;simp only[yW] at h1;simp at h1;subst h1;simp[yW,g1]
  ·rename_i e1 e2 e3;simp at e1 e2 e3;obtain ⟨rfl,rfl⟩:=e1;obtain ⟨rfl,rfl⟩:=e2;obtain ⟨rfl,rfl⟩:=e3;simp only[yW] at h1;simp at h1;subst h1;simp[yW,g1]
  ·simp at h1
theorem flatK_agg {k:Nat}(h:flatK P t=some k):∃ td,P.underlying t=some td/\zbt td=false:=by
 unfold flatK at h;split at h<;>simp at h<;>exact ⟨_,by assumption,rfl⟩
theorem zjt {d:Nat}{k:Nat}{a b:D}{u v:Value}(hk:flatK P t=some k) (he:yW [k] [a] [b]=some z) (hu:Rep M E a u) (hv:Rep M E b v):(Op.equalIn (d+1) t u v).run P w=.ok z w:=by
 unfold flatK at hk;split at hk<;>simp at hk<;>subst hk<;>rename_i hun<;>unfold yW at he<;>split at he<;>simp_all[yW]
 ·obtain ⟨rfl,rfl⟩:=he;simp only[Rep] at hu hv;subst hu;subst hv;rw[run_equalIn_int w d t _ _ _ _ hun];rfl
 ·simp only[Rep] at hu hv;subst hu;subst hv;subst he;rw[run_equalIn_string w d t _ _ hun,str_eq,ze2]
 ·simp only[Rep] at hu hv;subst hu;subst hv;subst he;exact run_equalIn_bool' w d t _ _ hun
theorem zc2 {d:Nat}{xs ys:Array Value}{L R:List D}(hL:RepL M E L xs.toList) (hR:RepL M E R ys.toList):∀ {fs:List Field}{ks:List Nat}{i:Nat}{z:Bool},zmc P i fs=some ks->yW ks (L.drop i) (R.drop i)=some z->(Op.eqFields (d+2) xs ys fs).run P w=.ok z w
 | [],ks,i,z,hf,he=>by
  simp[zmc] at hf;subst hf;unfold yW at he;split at he<;>simp_all;subst he;simp[Op.eqFields]
 | f::fs,ks,i,z,hf,he=>by
  simp only[zmc] at hf;split at hf
  ·rename_i k1 hk1;split at hf
   ·rename_i hc;obtain ⟨ho,hn⟩:=hc;split at hf
    ·rename_i ks' hks;simp at hf;subst hf;obtain ⟨z1,z2,h1,h2,rfl,hl1,hl2⟩:=zl7 he;rw[List.drop_drop,List.drop_drop] at h2;have ih:=zc2 (d:=d) hL hR hks h2;unfold deepK at hk1;split at hk1
     ·rename_i k hk;simp at hk1;subst hk1;obtain ⟨td,hu,ha⟩:=flatK_agg hk;have g:∀ {T:List D},1<=(T.drop i).length->∃ a,(T.drop i).take 1=[a]/\T[f.offset]?=some a:=by
       intro T hT;rw[ho];have hlt:i<T.length:=by simp at hT;omega
       refine ⟨T[i],?_,by simp[hlt]⟩
       rw[List.drop_eq_getElem_cons hlt];rfl
      obtain ⟨a,ea,ga⟩:=g hl1;obtain ⟨b,eb,gb⟩:=g hl2;simp only[List.length_cons,List.length_nil,Nat.zero_add] at h1;rw[ea,eb] at h1;obtain ⟨u,pu,ru⟩:=vh (P:=P) (w:=w) hu ha hL ga;obtain ⟨v,pv,rv⟩:=vh (P:=P) (w:=w) hu ha hR gb;exact xK hn pu pv (zjt hk h1 ru rv) ih
     ·split at hk1
      ·rename_i fs1 hu;split at hk1
       ·rename_i ks1 i1 hks1 hi1;split at hk1
        ·rename_i hcc;simp at hk1;subst hk1;obtain ⟨hst,hsz,hps⟩:=hcc;obtain ⟨u,pu,ru⟩:=vj (P:=P) (w:=w) (off:=f.offset) hu hi1 rfl hL (by rw[ho,hsz];exact zez hps hl1)
         obtain ⟨v,pv,rv⟩:=vj (P:=P) (w:=w) (off:=f.offset) hu hi1 rfl hR (by rw[ho,hsz];exact zez hps hl2)
         simp only[Rep] at ru rv;obtain ⟨us,rfl,hus⟩:=ru;obtain ⟨vs,rfl,hvs⟩:=rv;have hf1:P.fieldsOf f.type=fs1:=by simp[Program.fieldsOf,hu]
         refine xK hn pu pv ?_ ih;rw[run_equalIn_struct w (d+1) f.type us vs (by rw[hf1];exact hu) hst,hf1];exact xf (d:=d) hks1 h1 hus hvs rfl rfl
        ·simp at hk1
       ·simp at hk1
      ·simp at hk1
    ·simp at hf
   ·simp at hf
  ·simp at hf
theorem flatFs_lt3:∀ {fs:List Field}{i:Nat}{ks:List Nat},uY P i fs=some ks->kindsL ks=ks
 | [],i,ks,h=>by simp[uY] at h;subst h;rfl
 | f::fs,i,ks,h=>by
  simp only[uY] at h;split at h
  ·rename_i k0 hk0;split at h
   ·split at h
    ·rename_i ks' hks';simp at h;subst h;unfold flatK at hk0;split at hk0<;>simp at hk0<;>subst hk0<;>rfl
    ·simp at h
   ·simp at h
  ·simp at h
theorem zgb {l r:List D}{u v:Value}(hti:zgu P t=some ti) (h:evEqS op ti l r=some (vs,d)) (hx:Rep M E (.ag l) u) (hy:Rep M E (.ag r) v):
  ∃ z,(do eqGuard op t xo yo u v;binOp op t u v:Sem Value).run P w=.ok z w/\Rep M E d z:=by
 obtain ⟨i,ds,hi,hd,rfl⟩:=zi hti;simp only[Rep] at hx hy;obtain ⟨us,rfl,hu⟩:=hx;obtain ⟨ws,rfl,hv⟩:=hy;unfold evEqS at h;split at h
 ·rename_i ks hks;split at h
  ·rename_i z hz;have key:P.eqGuardType P.depth t=false/\(Op.equalIn 10000 t (.agg us) (.agg ws)).run P w=.ok z w:=by
    simp only[flatOf] at hks;split at hks
    ·rename_i fs;have hf:P.fieldsOf t=fs:=by simp[Program.fieldsOf,hd]
     split at hks
     ·rename_i ks' hks';split at hks
      ·rename_i hc;simp at hks;subst hks;rw[flatFs_lt3 hks'] at hz;refine ⟨hc.2,?_⟩
       rw[run_equalIn_struct w 9999 t us ws (by rw[hf];exact hd) hc.1,hf];exact xf (d:=9998) hks' hz hu hv rfl rfl
      ·simp at hks
     ·split at hks
      ·rename_i ks' hks';split at hks
       ·rename_i hc;simp at hks;subst hks;refine ⟨hc.2,?_⟩
        rw[run_equalIn_struct w 9999 t us ws (by rw[hf];exact hd) hc.1,hf];exact zc2 (d:=9997) hu hv hks' (by simpa[kindsL] using hz)
       ·simp at hks
      ·simp at hks
    ·simp at hks
   obtain ⟨hc,e1⟩:=key;split at h
   ·simp at h;obtain ⟨rfl,rfl⟩:=h;refine ⟨.bool z,?_,zk _⟩
    rw[Sem.run_bind,run_eqGuard_agg w _ t xo yo us ws hc];simp only[Result.andThen_ok];rw[run_eql_struct,e1];rfl
   ·simp at h;obtain ⟨rfl,rfl⟩:=h;refine ⟨.bool (!z),?_,zk _⟩
    rw[Sem.run_bind,run_eqGuard_agg w _ t xo yo us ws hc];simp only[Result.andThen_ok];rw[run_neq_struct,e1];rfl
   ·simp at h
  ·simp at h
 ·simp at h
theorem zgm:∀ {l:List D}{us:List Value}{bs:List UInt8},vr l=some bs->RepL M E l us->∃ ns:List Int,us=ns.map (Value.int .u8)/\bs=ns.map fun n=>UInt8.ofNat n.toNat
 | [],us,bs,h,hr=>by
  simp[vr] at h;simp[RepL] at hr;subst h;subst hr;exact ⟨[],rfl,rfl⟩
 | d::l,us,bs,h,hr=>by
  simp only[RepL] at hr;obtain ⟨u,r,rfl,hu,hr⟩:=hr;unfold vr at h;split at h<;>try (simp at h;done)
  ·rename_i e1;simp at e1
  ·rename_i a l' e1;simp at e1;obtain ⟨rfl,rfl⟩:=e1;split at h<;>try (simp at h;done)
   rename_i q hq;simp at h;subst h;simp only[Rep] at hu;subst hu;obtain ⟨ns,rfl,rfl⟩:=zgm hq hr;exact ⟨a::ns,rfl,rfl⟩
theorem zhy:∀ (ns:List Int) (s:ByteArray),ns.foldl (fun r n=>r.push (UInt8.ofNat n.toNat)) s=⟨⟨s.data.toList++ns.map fun n=>UInt8.ofNat n.toNat⟩⟩
 | [],s=>by cases s;simp
 | n::ns,s=>by
  rw[List.foldl_cons,zhy ns];cases s;simp
theorem xH {a:Addr}{n cap:Nat}{us:List Value}{bs:List UInt8}(h:vr l=some bs) (hr:RepL M E l us) (hn:us.length=n) (hc:∀ j v,us[j]?=some v->w.cell? (a.add j)=some v):
  (Conv.bytesToString (.slice (some a) n cap)).run P w=.ok (.string ⟨⟨bs⟩⟩) w:=by
 obtain ⟨ns,rfl,rfl⟩:=zgm h hr;have hl:=run_loadCells_list (P:=P) (w:=w) a (ns.map (Value.int .u8)) hc;rw[hn] at hl;rw[run_bytesToString w a n cap ns (by rw[hl])];rw[zhy];rfl
theorem zdg {f:Nat->Nat->D}{us:List Value}:∀ (n i:Nat),(∀ a,a<n->∃ x,us[a]?=some x/\Rep M E (f (i+a) 0) x)->us.length=n->RepL M E (zam f i n) us
 | 0,i,_,hl=>by
  have:us=[]:=by simpa using hl
  subst this;simp[zam,RepL]
 | n+1,i,h,hl=>by
  cases us with
  | nil=>simp at hl
  | cons u us =>
   obtain ⟨x,hx,hr⟩:=h 0 (by omega)
   simp at hx;subst hx;simp only[zam];refine RepL.cons (by simpa using hr) (zdg n (i+1) (fun a ha=>?_) (by simpa using hl))
   obtain ⟨y,hy,hry⟩:=h (a+1) (by omega)
   exact ⟨y,by simpa using hy,by rw[show i+1+a=i+(a+1) by omega];exact hry⟩
theorem zgl (s:ByteArray):∀ (n i:Nat),i+n=s.size->vr (zam (vK s) i n)=some (s.data.toList.drop i)
 | 0,i,h=>by
  have hs:s.size=s.data.toList.length:=rfl;have:s.data.toList.length<=i:=by omega
  simp only[zam,vr];rw[List.drop_eq_nil_of_le this]
 | n+1,i,h=>by
  have hs:s.size=s.data.toList.length:=rfl;have hi:i<s.data.toList.length:=by omega
  have e:bAt s i=(s.data.toList[i].toNat:Int):=by simp[bAt,List.getElem?_eq_getElem hi]
  simp only[zam,vK,vr,zgl s n (i+1) (by omega)];have:UInt8.ofNat (bAt s i).toNat=s.data.toList[i]:=by rw[e];simp
  rw[this,List.drop_eq_getElem_cons hi]
theorem zjr {x:D}{s:ByteArray}(h:zdj ow x=some s) (hW:WRel B w0 M0 M E ow w) (hx:Rep M E x u):(Conv.bytesToString u).run P w=.ok (.string s) w:=by
 have row1:∀ (e n:Nat) (f:Nat->Nat->D) (v:Value) (bs:List UInt8),HoldsRow B M w e 1 n f v->vr (zam f 0 n)=some bs->(Conv.bytesToString v).run P w=.ok (.string ⟨⟨bs⟩⟩) w:=by
  intro e n f v bs hR hb;obtain ⟨xs,hown,hrep,_⟩:=hR;rcases hown.2 with ⟨rfl,rfl⟩|⟨g,cap,cur,rfl,q1,q2,q3,q4,q5,q6⟩
  ·simp[zam,vr] at hb;subst hb;simp[Conv.bytesToString];rfl
  ·refine xH (M:=M) (E:=[]) hb (zdg n 0 (fun a ha=>?_) (by simpa using hown.1)) (by simpa using hown.1) (fun j v hj=>?_)
   ·obtain ⟨x,h1,_,h2⟩:=hrep a ha 0 (by omega)
    exact ⟨x,by simpa using h1,by simpa using h2⟩
   ·rw[xn,Nat.zero_add,cell_of_row w g j cur e (0,0) q2,<- Array.getElem?_toList];rw[<- q6] at hj;have hjl:j<n:=by
     rcases Nat.lt_or_ge j n with h'|h'
     ·exact h'
     ·rw[List.getElem?_eq_none (by simp;omega)] at hj;simp at hj
    rw[List.getElem?_take_of_lt (by omega)] at hj;exact hj
 unfold zdj at h;split at h
 ·simp at h;subst h;simp only[Rep] at hx;subst hx;simp[Conv.bytesToString];rfl
 ·rename_i i off n;split at h<;>try (simp at h;done)
  rename_i tt l ho;split at h<;>try (simp at h;done)
  rename_i c hc;split at h<;>try (simp at h;done)
  rename_i bs hbs;simp at h;subst h;simp only[Rep] at hx;obtain ⟨b,o,cap,hE,rfl,_,hoff⟩:=hx;have hH:=hW.holds _ _ _ ho hE;simp only[Holds] at hH;obtain ⟨b',cs,hb',hheap,hrep,_,_⟩:=hH;simp at hb';subst hb';obtain ⟨us,hus,hrl⟩:=RepL.cut hrep hc;obtain ⟨h1,h2,h3⟩:=zc5 hus;refine xH hbs hrl h1 (fun j v hj=>?_)
  have hjl:j<n:=by
   rcases Nat.lt_or_ge j n with hh|hh
   ·exact hh
   ·rw[List.getElem?_eq_none (by omega)] at hj;simp at hj
  rw[hoff (by omega),xn,cell_of_row w b (off+j) cs tt (0,0) hheap,<- Array.getElem?_toList,<- h3 j hjl,hj]
 ·rename_i n f;split at h<;>try (simp at h;done)
  rename_i bs hbs;simp at h;subst h;simp only[Rep] at hx;obtain ⟨a,cap,rfl,_,hc⟩:=hx;rcases Nat.eq_zero_or_pos n with rfl|hn
  ·simp[zam,vr] at hbs;subst hbs;cases a with
   | none=>simp[Conv.bytesToString];rfl
   | some ad =>
    have:=xH (P:=P) (w:=w) (M:=M) (E:=[]) (a:=ad) (n:=0) (cap:=cap) (l:=[]) (us:=[]) (bs:=[]) rfl RepL.nil rfl (by simp)
    exact this
  ·obtain ⟨ad,rfl,hcell⟩:=hc hn;obtain ⟨us,hl,hus⟩:∃ us:List Value,us.length=n/\∀ j,j<n->∃ x,us[j]?=some x/\M.cell (ad.add j)=some x/\Rep M [] (f j 0) x:=by
    refine ⟨(List.range n).map fun j=>(M.cell (ad.add j)).getD undef,by simp,fun j hj=>?_⟩
    obtain ⟨x,hx1,_,hx2⟩:=hcell j hj 0 (by omega)
    simp at hx1;exact ⟨x,by simp[hj,hx1],hx1,hx2⟩
   refine xH (M:=M) (E:=[]) hbs (zdg n 0 (fun a ha=>?_) hl) hl (fun j v hj=>?_)
   ·obtain ⟨x,h1,_,h2⟩:=hus a ha;exact ⟨x,h1,by simpa using h2⟩
   ·have hjl:j<n:=by
     rcases Nat.lt_or_ge j n with h'|h'
     ·exact h'
     ·rw[List.getElem?_eq_none (by omega)] at hj;simp at hj
    obtain ⟨x,h1,h2,_⟩:=hus j hjl;rw[h1] at hj;simp at hj;subst hj;exact Mem.cell_fits hW.fits h2
 ·rename_i i;split at h<;>try (simp at h;done)
  ·rename_i e s' ho;simp at h;subst h;simp only[Rep] at hx;have hH:=(hW.holds _ _ _ ho hx).toRow (o:=.bytes e s') rfl;have:=row1 _ _ _ _ _ hH (zgl s' s'.size 0 (by omega))
   simpa using this
  ·rename_i e n f ho;split at h<;>try (simp at h;done)
   rename_i bs hbs;simp at h;subst h;simp only[Rep] at hx;exact row1 _ _ _ _ _ (hW.holds _ _ _ ho hx) hbs
 ·simp at h
theorem zl8 (hT:TOk P T) {ta tb:TypeId}{tia tib:TI}{x d:D}(ha:zgu P ta=some tia) (hb:zgu P tb=some tib) (h:zh1 T ow tia.kind tib.kind x=some d) (hW:WRel B w0 M0 M E ow w) (hx:Rep M E x u):∃ z,(convert ta tb u).run P w=.ok z w/\Rep M E d z:=by
 obtain ⟨i,ds,hi,hd,rfl⟩:=zi ha;obtain ⟨i2,ds2,hi2,hd2,rfl⟩:=zi hb;unfold zh1 at h;split at h
 ·rename_i k1 k2 k3 n h1 h2;simp at h;subst h;simp only[Rep] at hx;subst hx;obtain rfl:=zcj h1;obtain rfl:=zcj h2;exact ⟨_,by simp[convert,zb hd,zb hd2,Conv.intToInt],zk _⟩
 ·rename_i s h1 h2;simp at h;subst h;simp only[Rep] at hx;subst hx;obtain rfl:=uA h1;obtain rfl:=uA h2;exact ⟨_,by simp[convert,zb hd,zb hd2],zk _⟩
 ·rename_i e by' x h1 h2;split at h<;>try (simp at h;done)
  rename_i hTe;split at h<;>try (simp at h;done)
  rename_i s hs;simp at h;subst h;obtain ⟨rfl,ei,hei,_,_⟩:=zM h1;obtain rfl:=uA h2;obtain ⟨i3,td3,hi3,hd3,he3⟩:=zi (hT _ _ hTe)
  simp only[TI.mk.injEq] at he3;obtain rfl:=zcj he3.2.2.2.1.symm;have:=zjr (P:=P) hs hW hx;have hu:∀ s',u≠.string s'/\(∀ k n,u≠.int k n):=by
   intro s';refine ⟨fun e=>?_,fun k n e=>?_⟩<;>subst e<;>simp[Conv.bytesToString,stuck] at this
  refine ⟨_,?_,zk _⟩
  have hc:(convert ta tb u).run P w=(Conv.bytesToString u).run P w:=by
   cases u<;>simp[convert,zb hd,zb hd2,zb hd3]
   all_goals first|exact absurd rfl ((hu ByteArray.empty).2 _ _)|exact absurd rfl (hu _).1|(simp[Conv.bytesToString,stuck] at this;done)
  rw[hc,this]
 ·rename_i t j h1 h2;split at h<;>try (simp at h;done)
  rename_i sz d0 l0 tt hTt ho;simp at h;subst h;have hx':=hx;simp only[Rep] at hx;obtain ⟨b,hE,rfl⟩:=hx;have hH:=hW.holds _ _ _ ho hE;simp only[Holds] at hH;obtain ⟨b',cs,hb',hheap,hrep,_,_⟩:=hH;simp at hb';subst hb';obtain ⟨i3,td3,hi3,hd3,he3⟩:=zi (hT _ _ hTt)
  simp only[TI.mk.injEq] at he3;have hlen:=hrep.length;refine ⟨_,Lib.run_to_unsafe w (cells:=cs.size) ⟨b,0,none⟩ (by rw[hd,zef h1]) (by rw[hd2,zkl h2]) hi3 (by omega) (by simp[World.shape?,hheap];rfl) (by simp at hlen;show 0<cs.size;omega),hx'⟩
 ·rename_i t j h1 h2;split at h<;>try (simp at h;done)
  rename_i sz z k fl ms fa l0 tt hTt ho;split at h<;>try (simp at h;done)
  rename_i hc;obtain ⟨rfl,rfl⟩:=hc;simp at h;subst h;have hx':=hx;simp only[Rep] at hx;obtain ⟨b,hE,rfl⟩:=hx;have hH:=hW.holds _ _ _ ho hE;simp only[Holds] at hH;obtain ⟨b',cs,hb',hheap,hrep,_,_⟩:=hH;simp at hb';subst hb';obtain ⟨i3,td3,hi3,hd3,he3⟩:=zi (hT _ _ hTt)
  simp only[TI.mk.injEq,More.mk.injEq] at he3;have hlen:=hrep.length;have hcs:cs.size=i3.size:=by simp at hlen;omega
  refine ⟨_,Lib.run_from_unsafe w (cells:=cs.size) ⟨b,0,none⟩ (by rw[hd,zkl h1]) (by rw[hd2,zef h2]) hi3 (by simp[World.shape?,hheap];rfl) ?_,hx'⟩
  have hself:=he3.2.2.2.2.2.2.1;unfold selfOf at hself;split at hself
  ·rw[hcs];exact hself.symm
  ·simp at hself
 ·simp at h
theorem zo0 (s:ByteArray) (l h:Nat):zN s l h=s.extract l h:=by
 apply ByteArray.ext;apply Array.ext';simp[zN,List.drop_take]
abbrev OptRep (M:Mem) (E:List Value) (lo:Option D) (lv:Option Value):Prop:=(lo=none/\lv=none)\/∃ x u,lo=some x/\lv=some u/\Rep M E x u
theorem OptRep.none' {lv:Option Value}(h:OptRep M E none lv):lv=none:=by
 rcases h with ⟨_,h⟩|⟨x,u,h,_⟩
 ·exact h
 ·simp at h
theorem OptRep.int {n:Int}{lv:Option Value}(h:OptRep M E (some (.v (.int k n))) lv):lv=some (.int k n):=by
 rcases h with ⟨h,_⟩|⟨x,u,h,h2,h3⟩
 ·simp at h
 ·simp at h;subst h;simp only[Rep] at h3;subst h3;exact h2
theorem uB:(Instr.sliceBounds b len cap none none none).run P w=.ok (0,len,cap) w:=by
 simp[Instr.sliceBounds]
theorem uD {l:Int}(h0:0<=l) (h1:l<=len):(Instr.sliceBounds b len cap (some (.int k l)) none none).run P w=.ok (l.toNat,len,cap) w:=by
 simp[Instr.sliceBounds,Instr.sliceBound,asIntOf,h0,h1]
theorem uC {h:Int}(h0:0<=h) (h1:h<=cap):(Instr.sliceBounds b len cap none (some (.int k h)) none).run P w=.ok (0,h.toNat,cap) w:=by
 simp[Instr.sliceBounds,Instr.sliceBound,asIntOf,h0,h1]
theorem uE {k k':IntKind}{l h:Int}(h0:0<=l) (h1:l<=h) (h2:h<=cap):(Instr.sliceBounds b len cap (some (.int k l)) (some (.int k' h)) none).run P w=.ok (l.toNat,h.toNat,cap) w:=by
 have h3:0<=h:=by omega
 have h4:l<=max h 0:=by omega
 simp[Instr.sliceBounds,Instr.sliceBound,asIntOf,h0,h2,h3,h4]
theorem zg4 {s:ByteArray}(ht:P.underlying t=some .string) (h:zjn s lo hi=some (vs,d)) (hvs:xB vs)
  (hl:OptRep M E lo lv) (hh:OptRep M E hi hv):∃ z,(Instr.sliceAt t (.string s) lv hv none).run P w=.ok z w/\Rep M E d z:=by
 unfold zjn at h;split at h
 ·simp at h;obtain ⟨rfl,rfl⟩:=h;rw[hl.none',hh.none'];exact ⟨_,by simp[Instr.sliceAt,zb ht,Instr.slice,uB],zk _⟩
 ·simp at h;obtain ⟨rfl,rfl⟩:=h;simp only[xB,and_true] at hvs;rw[hl.int,hh.none'];exact ⟨_,by simp[Instr.sliceAt,zb ht,Instr.slice,uD hvs.1 hvs.2,zo0];try rfl,zk _⟩
 ·simp at h;obtain ⟨rfl,rfl⟩:=h;simp only[xB,and_true] at hvs;rw[hl.none',hh.int];exact ⟨_,by simp[Instr.sliceAt,zb ht,Instr.slice,uC hvs.1 hvs.2,zo0];try rfl,zk _⟩
 ·simp at h;obtain ⟨rfl,rfl⟩:=h;simp only[xB,and_true] at hvs;rw[hl.int,hh.int];exact ⟨_,by simp[Instr.sliceAt,zb ht,Instr.slice,uE hvs.1 hvs.2.1 hvs.2.2,zo0];try rfl,zk _⟩
 ·simp at h
theorem vw {t e:TypeId}{x:D}(ht:P.underlying t=some (.slice e)) (hei:P.info? e=some ei) (hsz:∀ sz n f,x=.sl sz n f->sz=ei.size) (h:zc1 x lo hi=some (vs,d)) (hvs:xB vs)
  (hx:Rep M E x u) (hl:OptRep M E lo lv) (hh:OptRep M E hi hv):∃ z,(Instr.sliceAt t u lv hv none).run P w=.ok z w/\Rep M E d z:=by
 unfold zc1 at h;split at h
 ·rename_i sz n f;obtain rfl:=hsz _ _ _ rfl;simp only[Rep] at hx;obtain ⟨a,cap,rfl,hcap,hc⟩:=hx;have out:∀ (l h:Nat),l<=h->h<=n->Rep M E (.sl ei.size (h - l) fun i j=>f (l+i) j) (.slice (if cap=l then a else a.map (·.add (l*ei.size))) (h - l) (cap - l)):=by
   intro l h h1 h2;simp only[Rep];refine ⟨_,_,rfl,by omega,fun h0=>?_⟩
   obtain ⟨ad,rfl,hcell⟩:=hc (by omega)
   rw[if_neg (by omega)];refine ⟨ad.add (l*ei.size),rfl,fun i hi j hj=>?_⟩
   rw[zbl,<- Nat.add_assoc,<- Nat.add_mul];exact hcell (l+i) (by omega) j hj
  split at h
  ·simp at h;obtain ⟨rfl,rfl⟩:=h;rw[hl.none',hh.none'];have:=out 0 n (by omega) (by omega)
   simp only[Nat.zero_add,Nat.sub_zero] at this;exact ⟨_,by simp[Instr.sliceAt,zb ht,Instr.slice,uB,zw hei];try rfl,by simpa using this⟩
  ·rename_i k l;simp at h;obtain ⟨rfl,rfl⟩:=h;simp only[xB,and_true] at hvs;rw[hl.int,hh.none'];exact ⟨_,by simp[Instr.sliceAt,zb ht,Instr.slice,uD hvs.1 hvs.2,zw hei];try rfl,out l.toNat n (by omega) (by omega)⟩
  ·rename_i k h';simp at h;obtain ⟨rfl,rfl⟩:=h;simp only[xB,and_true] at hvs;rw[hl.none',hh.int];have:=out 0 h'.toNat (by omega) (by omega)
   simp only[Nat.zero_add,Nat.sub_zero] at this;exact ⟨_,by simp[Instr.sliceAt,zb ht,Instr.slice,uC hvs.1 (show h'<=cap by omega),zw hei];try rfl,by simpa using this⟩
  ·rename_i k l k' h';simp at h;obtain ⟨rfl,rfl⟩:=h;simp only[xB,and_true] at hvs;rw[hl.int,hh.int];exact ⟨_,by simp[Instr.sliceAt,zb ht,Instr.slice,uE hvs.1 hvs.2.1 (show h'<=cap by omega),zw hei];try rfl,out l.toNat h'.toNat (by omega) (by omega)⟩
  ·simp at h
 ·simp only[Rep] at hx;subst hx;split at h
  ·simp at h;obtain ⟨rfl,rfl⟩:=h;rw[hl.none',hh.none'];exact ⟨_,by simp[Instr.sliceAt,zb ht,Instr.slice,uB,zw hei];try rfl,zk _⟩
  ·simp at h;obtain ⟨rfl,rfl⟩:=h;simp only[xB,and_true] at hvs;subst hvs;rw[hl.int,hh.none'];exact ⟨_,by simp[Instr.sliceAt,zb ht,Instr.slice,uD (l:=0) (len:=0) (by omega) (by simp),zw hei];try rfl,zk _⟩
  ·simp at h;obtain ⟨rfl,rfl⟩:=h;simp only[xB,and_true] at hvs;subst hvs;rw[hl.none',hh.int];exact ⟨_,by simp[Instr.sliceAt,zb ht,Instr.slice,uC (h:=0) (cap:=0) (by omega) (by simp),zw hei];try rfl,zk _⟩
  ·simp at h;obtain ⟨rfl,rfl⟩:=h;simp only[xB,and_true] at hvs;obtain ⟨rfl,rfl⟩:=hvs;rw[hl.int,hh.int];exact ⟨_,by simp[Instr.sliceAt,zb ht,Instr.slice,uE (l:=0) (h:=0) (cap:=0) (by omega) (by omega) (by simp),zw hei];try rfl,zk _⟩
  ·simp at h
 ·simp at h
theorem zg5 {t e:TypeId}{len i off:Nat}(ht:P.underlying t=some (.array len e)) (hei:P.info? e=some ei) (h1:ei.size=1) (h:zjo len i off lo hi=some (vs,d)) (hvs:xB vs)
  (hx:Rep M E (.own i off) u) (hl:OptRep M E lo lv) (hh:OptRep M E hi hv):∃ z,(Instr.sliceAt t u lv hv none).run P w=.ok z w/\Rep M E d z:=by
 simp only[Rep] at hx;obtain ⟨b,hE,rfl⟩:=hx;have out:∀ (l h:Nat),l<=h->h<=len->Rep M E (.os i (off+l) (h - l)) (.slice (some (if len=l then ⟨b,off,none⟩ else (⟨b,off,none⟩:Addr).add (l*ei.size))) (h - l) (len - l)):=by
  intro l h h2 h3;simp only[Rep];by_cases he:len=l
  ·rw[if_pos he];exact ⟨b,off,_,hE,rfl,by omega,fun _=>by omega⟩
  ·rw[if_neg he,xn,h1];exact ⟨b,_,_,hE,rfl,by omega,fun _=>by omega⟩
 unfold zjo at h;split at h
 ·simp at h;obtain ⟨rfl,rfl⟩:=h;rw[hl.none',hh.none'];have:=out 0 len (by omega) (by omega)
  simp only[Nat.add_zero,Nat.sub_zero] at this;exact ⟨_,by simp[Instr.sliceAt,zb ht,zS,uB,zw hei];try rfl,by simpa using this⟩
 ·rename_i k l;simp at h;obtain ⟨rfl,rfl⟩:=h;simp only[xB,and_true] at hvs;rw[hl.int,hh.none'];exact ⟨_,by simp[Instr.sliceAt,zb ht,zS,uD hvs.1 hvs.2,zw hei];try rfl,out l.toNat len (by omega) (by omega)⟩
 ·rename_i k h';simp at h;obtain ⟨rfl,rfl⟩:=h;simp only[xB,and_true] at hvs;rw[hl.none',hh.int];have:=out 0 h'.toNat (by omega) (by omega)
  simp only[Nat.add_zero,Nat.sub_zero] at this;exact ⟨_,by simp[Instr.sliceAt,zb ht,zS,uC hvs.1 hvs.2,zw hei];try rfl,by simpa using this⟩
 ·rename_i k l k' h';simp at h;obtain ⟨rfl,rfl⟩:=h;simp only[xB,and_true] at hvs;rw[hl.int,hh.int];exact ⟨_,by simp[Instr.sliceAt,zb ht,zS,uE hvs.1 hvs.2.1 hvs.2.2,zw hei];try rfl,out l.toNat h'.toNat (by omega) (by omega)⟩
 ·simp at h
theorem evUn_sound {o:UnOp}{x d:D}(h:evUn o x=some (vs,d)) (hvs:xB vs) (hx:Rep M E x u):∃ z,(Op.unary o u).run P w=.ok z w/\Rep M E d z:=by
 unfold evUn at h;split at h<;>simp only[Option.some.injEq,Prod.mk.injEq,reduceCtorEq] at h<;>obtain ⟨rfl,rfl⟩:=h<;>simp only[Rep] at hx<;>subst hx
 ·exact ⟨_,by simp[Op.unary],zk _⟩
 ·simp only[xB,and_true] at hvs;exact ⟨_,by simp only[Op.unary,Op.intArith];rw[yI hvs];try rfl,zk _⟩
 ·exact ⟨_,by simp only[Op.unary,Op.intArith];try rfl,zk _⟩
theorem uU {sz n:Nat}{v:Value}{xs:List Value}(h:w.ownsRow B e sz v n xs):∃ a cap,v=.slice a n cap:=by
 rcases h.2 with ⟨rfl,rfl⟩|⟨g,cap,cur,rfl,_⟩
 ·exact ⟨_,_,rfl⟩
 ·exact ⟨_,_,rfl⟩
theorem zoe {ty:TypeId}{x d:D}(hti:zgu P t=some ti) (h:evLen ti.kind ow x=some d) (hW:WRel B w0 M0 M E ow w) (hx:Rep M E x u):
  ∃ z,(Builtin.len_ #[t] ty #[u]).run P w=.ok z w/\Rep M E d z:=by
 obtain ⟨i,ds,hi,hd,rfl⟩:=zi hti;unfold evLen at h;split at h
 ·rename_i s hk;simp at h;subst h;obtain rfl:=uA hk;simp only[Rep] at hx;subst hx;exact ⟨_,by simp[Builtin.len_,zb hd,goInt],zk _⟩
 ·rename_i hk;simp at h;subst h;obtain ⟨rfl,_⟩:=zM hk;simp only[Rep] at hx;subst hx;exact ⟨_,by simp[Builtin.len_,zb hd,goInt],zk _⟩
 ·rename_i hk;simp at h;subst h;obtain ⟨rfl,_⟩:=zM hk;simp only[Rep] at hx;obtain ⟨a,cap,rfl,_,_⟩:=hx;exact ⟨_,by simp[Builtin.len_,zb hd,goInt],zk _⟩
 ·rename_i hk;simp at h;subst h;obtain ⟨rfl,_⟩:=zM hk;simp only[Rep] at hx;obtain ⟨b,o,cap,_,rfl,_⟩:=hx;exact ⟨_,by simp[Builtin.len_,zb hd,goInt],zk _⟩
 ·rename_i r hk;split at h<;>try (simp at h;done)
  rename_i o ho;split at h
  ·rename_i hro;simp at h;subst h;obtain ⟨rfl,_⟩:=zM hk;simp only[Rep] at hx;obtain ⟨xs,hown,_⟩:=(hW.holds _ _ _ ho hx).toRow hro;obtain ⟨a,cap,rfl⟩:=uU hown;exact ⟨_,by simp[Builtin.len_,zb hd,goInt],zk _⟩
  ·simp at h
 ·simp at h
theorem zl2 (h:zn8 P e=1):∃ td,P.underlying e=some td/\zbt td=true:=by
 unfold zn8 at h;cases hu:P.underlying e with
 | none=>rw[hu] at h;simp at h
 | some td =>
  rw[hu] at h;refine ⟨td,rfl,?_⟩
  cases ha:zbt td with
  | true=>rfl
  | false=>simp[ha] at h
theorem zh0 (h:zn8 P e=0):∃ td,P.underlying e=some td/\zbt td=false:=by
 unfold zn8 at h;cases hu:P.underlying e with
 | none=>rw[hu] at h;simp at h
 | some td =>
  rw[hu] at h;refine ⟨td,rfl,?_⟩
  cases ha:zbt td with
  | false=>rfl
  | true=>simp[ha] at h
theorem zg6 {k:Nat}{p d:D}(hti:zgu P t=some ti) (h:zjq ti k p=some d) (hp:Rep M E p u):∃ z,(Instr.field t u k).run P w=.ok z w/\Rep M E d z:=by
 obtain ⟨i,ds,hi,hd,rfl⟩:=zi hti;unfold zjq at h;split at h<;>try (simp at h;done)
 rename_i l;simp only[Rep] at hp;obtain ⟨cs,rfl,hr⟩:=hp;split at h<;>try (simp at h;done)
 rename_i fs hk;obtain ⟨F,rfl,rfl,hall⟩:=uO hk;have fact:∀ o n (b:Nat),(F.toList.map fun f=>(f.offset,P.cellsOf f.type))[k]?=some (o,n)->(zhz P (.struct F))[k]?=some b->∃ f fi,F[k]?=some f/\P.info? f.type=some fi/\f.offset=o/\fi.size=n/\zn8 P f.type=b:=by
  intro o n b h1 h2;simp only[List.getElem?_map,Option.map_eq_some_iff,Prod.mk.injEq] at h1;obtain ⟨f,hf,h3,h4⟩:=h1;obtain ⟨fi,hfi⟩:=Option.isSome_iff_exists.1 (hall f (List.mem_of_getElem? hf))
  refine ⟨f,fi,by simpa using hf,hfi,h3,by simpa[Program.cellsOf,hfi] using h4,?_⟩
  simp only[zhz,List.getElem?_map,hf,Option.map_some,Option.some.injEq] at h2;exact h2
 split at h
 ·rename_i o n h1 h2;split at h<;>try (simp at h;done)
  rename_i c hc;simp at h;subst h;obtain ⟨f,fi,hf,hfi,rfl,rfl,hb⟩:=fact _ _ _ h1 h2;obtain ⟨td,hu,ha⟩:=zl2 hb;obtain ⟨z,hz1,hz2⟩:=vj (w:=w) hu hfi ha hr hc;exact ⟨z,by simp[Instr.field,zb hd,hf,asAgg,hz1],hz2⟩
 ·rename_i o n h1 h2;obtain ⟨f,fi,hf,hfi,rfl,rfl,hb⟩:=fact _ _ _ h1 h2;obtain ⟨td,hu,ha⟩:=zh0 hb;obtain ⟨z,hz1,hz2⟩:=vh (w:=w) hu ha hr h;exact ⟨z,by simp[Instr.field,zb hd,hf,asAgg,hz1],hz2⟩
 ·simp at h
theorem zb3 {x ix d:D}{u v:Value}(hti:zgu P t=some ti) (h:zex ti x ix=some (vs,d)) (hvs:xB vs) (hx:Rep M E x u) (hix:Rep M E ix v):∃ z,(Instr.index t u v).run P w=.ok z w/\Rep M E d z:=by
 obtain ⟨i,ds,hi,hd,rfl⟩:=zi hti;unfold zex at h;split at h
 ·rename_i s k q hk;simp at h;obtain ⟨rfl,rfl⟩:=h;obtain rfl:=uA hk;simp only[Rep] at hx hix;subst hx;subst hix;simp only[xB,and_true] at hvs;have hq:q.toNat<s.size:=by omega
  have hs:s.size=s.data.toList.length:=rfl;refine ⟨.int .u8 (bAt s q.toNat),?_,zk _⟩
  have e1:s[q.toNat]?=some (s[q.toNat]'hq):=by simp[hq]
  have e2:bAt s q.toNat=((s[q.toNat]'hq).toNat:Int):=by
   rw[hs] at hq;simp[bAt,List.getElem?_eq_getElem hq];rfl
  simp[Instr.index,asIntOf,zb hd,hvs.1,e1,e2]
 ·rename_i len esz l k q hk;obtain ⟨e,ei,rfl,hei,rfl⟩:=vy hk;simp only[Rep] at hx hix;subst hix;obtain ⟨cs,rfl,hr⟩:=hx;split at h
  ·rename_i hf;split at h<;>try (simp at h;done)
   rename_i c hc;simp at h;obtain ⟨rfl,rfl⟩:=h;simp only[xB,and_true] at hvs;simp only[zhz,List.cons.injEq,and_true] at hf;obtain ⟨td,hu,ha⟩:=zl2 hf;obtain ⟨z,hz1,hz2⟩:=vj (w:=w) hu hei ha hr hc;exact ⟨z,by simp[Instr.index,asIntOf,zb hd,hvs.1,hvs.2,zw hei,hz1],hz2⟩
  ·rename_i hf;split at h<;>try (simp at h;done)
   rename_i c hc;simp at h;obtain ⟨rfl,rfl⟩:=h;simp only[xB,and_true] at hvs;simp only[zhz,List.cons.injEq,and_true] at hf;obtain ⟨td,hu,ha⟩:=zh0 hf;obtain ⟨z,hz1,hz2⟩:=vh (w:=w) hu ha hr hc;exact ⟨z,by simp[Instr.index,asIntOf,zb hd,hvs.1,hvs.2,zw hei,hz1],hz2⟩
  ·simp at h
 ·simp at h
end
end Go.Sx
namespace Go.Sx
open Go Go.RowKit
variable {ps:Array (Nat × Value)}{ρ:Operand->Value}{us:Array Value}{t:TypeId}{u:Value}
theorem zc8 {α:Type}:∀ {l:List α}{o:Nat}{c:α}{cs l':List α},splice l o (c::cs)=some l'->splice (l.set o c) (o+1) cs=some l'
 | [],0,c,cs,l',h=>by simp[splice] at h
 | x::l,0,c,cs,l',h=>by simpa[splice] using h
 | [],n+1,c,cs,l',h=>by simp[splice] at h
 | x::l,n+1,c,cs,l',h=>by
  simp only[splice,Option.map_eq_some_iff] at h;obtain ⟨m,hm,rfl⟩:=h;have:=zc8 hm;simp[splice,this]
theorem zc9 {α:Type}:∀ (l:List α) (o:Nat) (l':List α),splice l o []=some l'->l=l'
 | l,0,l',h=>by simpa[splice] using h
 | [],n+1,l',h=>by simp[splice] at h
 | x::l,n+1,l',h=>by
  simp only[splice,Option.map_eq_some_iff] at h;obtain ⟨m,hm,rfl⟩:=h;rw[zc9 l n m hm]
theorem zdu (off:Nat):∀ (vs:List Value) (k:Nat) (cells:Array Value) (l':List Value),splice cells.toList (off+k) vs=some l' ->
  ((vs.zipIdx k).foldl (fun (cs:Array Value) (p:Value × Nat)=>cs.setIfInBounds (off+p.2) p.1) cells).toList=l'
 | [],k,cells,l',h=>by
  have:=(zc9 _ _ _ h)
  simpa using this
 | v::vs,k,cells,l',h=>by
  simp only[List.zipIdx_cons,List.foldl_cons];refine zdu off vs (k+1) _ l' ?_;rw[Array.toList_setIfInBounds];exact zc8 h
theorem cells_one (h:u.oneCell'=true):u.cells.toList=[u]:=by
 cases u<;>simp_all[Value.cells,Value.oneCell']
theorem zgq {B:Nat}{w0 w:World}{M0 M:Mem}{E:List Value}{ow:List Own}(hW:WRel B w0 M0 M E ow w) {d:D}(h:oneD d=true) (hu:Rep M E d u):u.oneCell'=true:=by
 cases d<;>simp only[oneD] at h<;>try (simp at h;done)
 case v x=>simp only[Rep] at hu;subst hu;exact h
 case sl=>simp only[Rep] at hu;obtain ⟨a,cap,rfl,_⟩:=hu;rfl
 case pt=>simp only[Rep] at hu;obtain ⟨a,rfl,_⟩:=hu;rfl
 case own=>simp only[Rep] at hu;obtain ⟨a,_,rfl⟩:=hu;rfl
 case rp=>simp only[Rep] at hu;obtain ⟨a,b,_,_,rfl⟩:=hu;rfl
 case fn=>simp only[Rep] at hu;obtain ⟨a,rfl,_⟩:=hu;rfl
 case ifc=>simp only[Rep] at hu;obtain ⟨a,rfl,_⟩:=hu;rfl
 case yl=>simp only[Rep] at hu;obtain ⟨a,_,rfl⟩:=hu;rfl
 case mp=>simp only[Rep] at hu;obtain ⟨a,_,rfl⟩:=hu;rfl
 case os=>simp only[Rep] at hu;obtain ⟨a,_,_,_,rfl,_⟩:=hu;rfl
 case row i =>
  simp only[Rep] at hu;obtain ⟨o,ho,hH⟩:=hW.row hu;cases o with
  | cells t l=>simp only[Holds] at hH;obtain ⟨b,cs,rfl,_⟩:=hH;rfl
  | row e sz n f=>simp only[Holds] at hH;obtain ⟨xs,hown,_⟩:=hH;obtain ⟨a,cap,rfl⟩:=uU hown;rfl
  | bytes e s=>simp only[Holds] at hH;obtain ⟨⟨xs,hown,_⟩,_⟩:=hH;obtain ⟨a,cap,rfl⟩:=uU hown;rfl
  | map k v sh f=>simp only[Holds] at hH;obtain ⟨b,es,ck,rfl,_⟩:=hH;rfl
  | lp st pe=>simp only[Holds] at hH;obtain ⟨b,r,rfl,_⟩:=hH;rfl
  | defd=>simp only[Holds] at hH;obtain ⟨b,rfl,_⟩:=hH;rfl
  | iter=>simp only[Holds] at hH;obtain ⟨b,rfl,_⟩:=hH;rfl
  | frozen sz n f=>simp only[Holds,Rep] at hH;obtain ⟨a,cap,rfl,_⟩:=hH;rfl
  | gone=>exact hH
theorem zdo {B:Nat}{w0 w:World}{M0 M:Mem}{E:List Value}{ow:List Own}(hW:WRel B w0 M0 M E ow w) {d:D}{cs:List D}(h:zc6 d=some cs) (hu:Rep M E d u):RepL M E cs u.cells.toList:=by
 have one:oneD d=true->cs=[d]->RepL M E cs u.cells.toList:=by
  intro h1 h2;subst h2;rw[cells_one (zgq hW h1 hu)];exact RepL.cons hu RepL.nil
 cases d
 case ag l =>
  simp[zc6] at h;subst h;simp only[Rep] at hu;obtain ⟨us,rfl,hl⟩:=hu;exact hl
 all_goals
  simp only[zc6] at h;split at h
  ·rename_i h1;simp at h;exact one h1 h.symm
  ·simp at h
inductive RepP (M:Mem) (E:List Value):List (Nat × D)->List (Nat × Value)->Prop
 | nil:RepP M E [] []
 | cons {i:Nat}{d:D}{u:Value}{ds:List (Nat × D)}{us:List (Nat × Value)}:Rep M E d u->RepP M E ds us->RepP M E ((i,d)::ds) ((i,u)::us)
theorem uo {M:Mem}{E:List Value}{g:zib}{ρ:Operand->Value}(hg:∀ x d,g x=some d->Rep M E d (ρ x)):∀ {ps:List (Nat × Operand)}{ds:List (Nat × D)},yG g ps=some ds->RepP M E ds (ps.map fun p=>(p.1,ρ p.2))
 | [],ds,h=>by simp[yG] at h;subst h;exact .nil
 | (i,x)::ps,ds,h=>by
  simp only[yG] at h;split at h
  ·rename_i d ds' h1 h2;simp at h;subst h;exact .cons (hg _ _ h1) (uo hg h2)
  ·simp at h
theorem vX {M:Mem}{E:List Value}{g:zib}{ρ:Operand->Value}(hg:∀ x d,g x=some d->Rep M E d (ρ x)):∀ {ps:List Operand}{ds:List D},zgt g ps=some ds->RepL M E ds (ps.map ρ)
 | [],ds,h=>by simp[zgt] at h;subst h;exact RepL.nil
 | x::ps,ds,h=>by
  simp only[zgt] at h;split at h
  ·rename_i d ds' h1 h2;simp at h;subst h;exact RepL.cons (hg _ _ h1) (vX hg h2)
  ·simp at h
section
variable {P:Program}{T:TT}{B:Nat}{w0 w:World}{M0 M:Mem}{E:List Value}{ow:List Own}
theorem zbg (hW:WRel B w0 M0 M E ow w) {fs place:Nat->Option (Nat × Nat)}(hfs:∀ i,place i=fs i) {parts:List (Nat × D)}{vparts:List (Nat × Value)}(hP:RepP M E parts vparts):∀ {cells cells':List D}{us:Array Value},
  zeb fs cells parts=some cells'->RepL M E cells us.toList->∃ us',Instr.fill place us vparts=some us'/\RepL M E cells' us'.toList:=by
 induction hP with
 | nil=>intro cells cells' us h hc;simp[zeb] at h;subst h;exact ⟨us,by simp[Instr.fill],hc⟩
 | @cons i d u ds vs hu hr ih =>
  intro cells cells' us h hc;simp only[zeb] at h;split at h
  ·rename_i off size cs h1 h2;split at h
   ·rename_i hlen;split at h
    ·rename_i c' h3;have hcs:=zdo hW h2 hu;obtain ⟨us',h4,h5⟩:=RepL.splice hc hcs h3;obtain ⟨s1,s2,s3,s4⟩:=xT h4;have hf:=zdu off u.cells.toList 0 us us' (by simpa using h4)
     have hl:u.cells.size=size:=by have:=hcs.length;simp at this;omega
     simp only[Instr.fill,hfs,h1];have hcond:(decide (u.cells.size≠size)||decide (off+u.cells.size>us.size))=false:=by
      simp at s2 ⊢;exact ⟨hl,by omega⟩
     rw[if_neg (by simpa using hcond)];have hfa:(u.cells.zipIdx.foldl (fun cs (x:Value × Nat)=>cs.setIfInBounds (off+x.2) x.1) us).toList=us':=by
      rw[<- hf,<- Array.foldl_toList,Array.toList_zipIdx]
     exact ih h (by rw[hfa];exact h5)
    ·simp at h
   ·simp at h
  ·simp at h
theorem zbw {w:World}:∀ (F:List Field),(∀ f∈F,(P.info? f.type).isSome=true) ->
  (F.mapM (m:=Sem) fun f=>do pure (f.offset,<- sizeOf f.type)).run P w=.ok (F.map fun f=>(f.offset,P.cellsOf f.type)) w
 | [],_=>by simp
 | f::F,h=>by
  obtain ⟨i,hi⟩:=Option.isSome_iff_exists.1 (h f (by simp))
  have ih:=zbw F (fun g hg=>h g (by simp[hg])) (w:=w)
  simp[List.mapM_cons,zw hi,Program.cellsOf,hi] at ih ⊢;simp[ih]
theorem run_build {F:Array Field}{i:TypeInfo}{z:Value}(ht:P.underlying t=some (.struct F)) (hi:P.info? t=some i) (hz:i.zero=some z) (hall:∀ f∈F.toList,(P.info? f.type).isSome=true)
  (hf:Instr.fill (fun (k:Nat)=>(F.toList.map fun f=>(f.offset,P.cellsOf f.type))[k]?) z.cells ps.toList=some us):(Instr.build t ps).run P w=.ok (.agg us) w:=by
 have hm:=zbw (P:=P) (w:=w) F.toList hall;have hm2:(F.mapM (m:=Sem) fun f=>do pure (f.offset,<- sizeOf f.type)).run P w=.ok (F.toList.map fun f=>(f.offset,P.cellsOf f.type)).toArray w:=by
  rw[Array.mapM_eq_mapM_toList,Sem.run_map,hm];rfl
 simp only[Instr.build,Sem.run_bind,yO hi hz,zb ht,Result.andThen_ok];rw[hm2];have hpl:(fun (x:Nat)=>(F.toList.map fun f=>(f.offset,P.cellsOf f.type)).toArray[x]?)=fun (k:Nat)=>(F.toList.map fun f=>(f.offset,P.cellsOf f.type))[k]?:=by
  funext k;simp
 simp only[Result.andThen_ok,hpl,hf,Sem.run_pure]
theorem zff {t e:TypeId}{n:Nat}{i ei:TypeInfo}{z:Value}(ht:P.underlying t=some (.array n e)) (hi:P.info? t=some i) (hei:P.info? e=some ei) (hz:i.zero=some z)
  (hf:Instr.fill (fun (k:Nat)=>some (k*ei.size,ei.size)) z.cells ps.toList=some us):(Instr.build t ps).run P w=.ok (.agg us) w:=by
 simp only[Instr.build,Sem.run_bind,yO hi hz,zb ht,zw hei,Result.andThen_ok,hf,Sem.run_pure]
theorem ui {g:zib}(hg:∀ x d,g x=some d->Rep M E d (ρ x)) {o:Option Operand}{od:Option D}(ho:getO g o=some od):OptRep M E od (o.map ρ):=by
 cases o with
 | none=>simp[getO] at ho;exact .inl ⟨ho.symm,rfl⟩
 | some y =>
  simp only[getO] at ho;split at ho
  ·rename_i dy hy;simp at ho;exact .inr ⟨dy,ρ y,ho.symm,rfl,hg _ _ hy⟩
  ·simp at ho
theorem zki {ti:TI}{z:D}(hti:zgu P t=some ti) (hz:zeroD ti=some z):∃ v,(zeroValue t).run P w=.ok v w/\Rep M E z v:=by
 obtain ⟨i,td,hi,hd,rfl⟩:=zi hti;unfold zeroD at hz;split at hz<;>try (simp at hz;done)
 rename_i zz h1 h2;cases hzz:i.zero with
 | none=>simp[hzz] at h1
 | some zv =>
  refine ⟨zv,yO hi hzz,?_⟩
  simp only[hzz,Option.map_some,Option.some.injEq] at h1;subst h1;simp only[zokOf,hzz] at h2;split at hz
  ·rename_i hagg;simp at hz;subst hz;simp only[Rep];cases zv with
   | agg cs=>exact ⟨cs,rfl,by simpa[Value.cells] using RepL.vals _⟩
   | _=>simp_all
  ·rename_i hagg;split at hz<;>simp at hz;rename_i x hx;subst hz;simp only[Rep];cases zv with
   | agg cs=>simp_all
   | _=>simpa[Value.cells] using hx
theorem tkOf_iface {d:TypeDesc}(h:zeg P d=.iface):∃ ms,d=.interface ms:=by
 cases d<;>simp only[zeg] at h<;>try (first|(split at h<;>simp at h;done)|(simp at h;done))
 exact ⟨_,rfl⟩
theorem zga (hT:TOk P T) {op:BinOp}{xo yo y:Operand}{a c d:D}{u v:Value}{vs:List DP}(h:evIfN T op t y a c=some (vs,d)) (hx:Rep M E a u) (hy:Rep M E c v):
  ∃ z,(do eqGuard op t xo y u v;binOp op t u v:Sem Value).run P w=.ok z w/\Rep M E d z:=by
 unfold evIfN at h;split at h<;>try (simp at h;done)
 split at h<;>try (simp at h;done)
 rename_i hTt;obtain ⟨i,td,hi,hd,he⟩:=zi (hT _ _ hTt)
 simp only[TI.mk.injEq] at he;obtain ⟨ms,rfl⟩:=tkOf_iface he.2.2.2.1.symm;simp only[Rep] at hy;subst hy;have k1:∀ d:Nat,(Op.equalIn (d+1) t .nilIface .nilIface).run P w=.ok true w:=fun d=>by simp[Op.equalIn,zb hd]
 have k2:∀ (d:Nat) t' v,(Op.equalIn (d+1) t (.iface t' v) .nilIface).run P w=.ok false w:=fun d t' v=>by simp[Op.equalIn,zb hd]
 have e1:∀ x,(x=.nilIface\/∃ t' v,x=.iface t' v)->binOp .eql t x .nilIface=(do pure (.bool (<- Op.equal t x .nilIface)):Sem Value):=by rintro x (rfl|⟨t',v,rfl⟩)<;>rfl
 have e2:∀ x,(x=.nilIface\/∃ t' v,x=.iface t' v)->binOp .neq t x .nilIface=(do pure (.bool (!(<- Op.equal t x .nilIface))):Sem Value):=by rintro x (rfl|⟨t',v,rfl⟩)<;>rfl
 have g:∀ op x,(x=.nilIface\/∃ t' v,x=.iface t' v)->(eqGuard op t xo (.const .nilIface) x .nilIface).run P w=.ok () w:=by rintro op x (rfl|⟨t',v,rfl⟩)<;>cases op<;>simp[eqGuard]
 have k3:(Op.equal t .nilIface .nilIface).run P w=.ok true w:=k1 9999;have k4:∀ t' v,(Op.equal t (.iface t' v) .nilIface).run P w=.ok false w:=fun t' v=>k2 9999 t' v;split at h<;>simp at h
 ·obtain ⟨rfl,rfl⟩:=h;simp only[Rep] at hx;subst hx;exact ⟨.bool true,by rw[Sem.run_bind,g _ _ (.inl rfl),Result.andThen_ok,e1 _ (.inl rfl)];simp[k3],zk _⟩
 ·obtain ⟨rfl,rfl⟩:=h;simp only[Rep] at hx;subst hx;exact ⟨.bool false,by rw[Sem.run_bind,g _ _ (.inl rfl),Result.andThen_ok,e2 _ (.inl rfl)];simp[k3],zk _⟩
 ·obtain ⟨rfl,rfl⟩:=h;simp only[Rep] at hx;obtain ⟨v,rfl,_⟩:=hx;exact ⟨.bool false,by rw[Sem.run_bind,g _ _ (.inr ⟨_,_,rfl⟩),Result.andThen_ok,e1 _ (.inr ⟨_,_,rfl⟩)];simp[k4],zk _⟩
 ·obtain ⟨rfl,rfl⟩:=h;simp only[Rep] at hx;obtain ⟨v,rfl,_⟩:=hx;exact ⟨.bool true,by rw[Sem.run_bind,g _ _ (.inr ⟨_,_,rfl⟩),Result.andThen_ok,e2 _ (.inr ⟨_,_,rfl⟩)];simp[k4],zk _⟩
theorem za4 (hT:TOk P T) {op:Op}{g:zib}{vs:List DP}{d:D}(h:zY T op g ow=some (vs,d)) (hvs:xB vs) (hg:∀ x d,g x=some d->Rep M E d (ρ x)) (hW:WRel B w0 M0 M E ow w)
  (dst:Option Tmp) (ty:TypeId) (pos:String) (after:Array Edge) (guard:Option (Nat × Bool)):∃ u,(execOp ρ ⟨dst,op,ty,pos,after,guard⟩).run P w=.ok (.value u) w/\Rep M E d u:=by
 unfold zY at h;split at h
 case h_1 x =>
  split at h
  ·rename_i d' hx;simp at h;obtain ⟨rfl,rfl⟩:=h;exact ⟨_,by simp[execOp],hg _ _ hx⟩
  ·simp at h
 case h_2 x =>
  split at h
  ·rename_i d' hx;simp at h;obtain ⟨rfl,rfl⟩:=h;exact ⟨_,by simp[execOp],hg _ _ hx⟩
  ·simp at h
 case h_3 t ps =>
  split at h<;>try (simp at h;done)
  rename_i z k ds hTt hps;split at h<;>try (simp at h;done)
  rename_i fs hpl;split at h<;>try (simp at h;done)
  rename_i cs hfill;simp at h;obtain ⟨rfl,rfl⟩:=h;obtain ⟨i,td,hi,hd,he⟩:=zi (hT _ _ hTt)
  simp only[TI.mk.injEq] at he;obtain ⟨_,_,hz,hk,_⟩:=he;obtain ⟨zv,hzv,hzc⟩:=Option.map_eq_some_iff.1 hz.symm;have hP:=uo hg hps;unfold placeOf at hpl;split at hpl
  ·rename_i fs';simp only[Option.some.injEq] at hpl;subst hpl;obtain ⟨F,rfl,rfl,hall⟩:=uO hk.symm;obtain ⟨us',h1,h2⟩:=zbg hW (place:=fun (k:Nat)=>(F.toList.map fun f=>(f.offset,P.cellsOf f.type))[k]?) (fun _=>rfl) hP hfill (us:=zv.cells) (by rw[hzc];exact RepL.vals _)
   refine ⟨.agg us',?_,by simp only[Rep];exact ⟨us',rfl,h2⟩⟩
   have:=run_build (w:=w) (ps:=ps.map fun p=>(p.1,ρ p.2)) hd hi hzv hall (by simpa using h1)
   simp[execOp,this]
  ·rename_i len esz;simp only[Option.some.injEq] at hpl;subst hpl;obtain ⟨e,ei,rfl,hei,rfl⟩:=vy hk.symm;obtain ⟨us',h1,h2⟩:=zbg hW (place:=fun (k:Nat)=>some (k*ei.size,ei.size)) (fun _=>rfl) hP hfill (us:=zv.cells) (by rw[hzc];exact RepL.vals _)
   refine ⟨.agg us',?_,by simp only[Rep];exact ⟨us',rfl,h2⟩⟩
   have:=zff (w:=w) (ps:=ps.map fun p=>(p.1,ρ p.2)) hd hi hei hzv (by simpa using h1)
   simp[execOp,this]
  ·simp at hpl
 case h_4 t a =>
  split at h
  ·rename_i ti p hTt hp;obtain ⟨x,h1,h2⟩:=zdz (hT _ _ hTt) h hvs hW (hg _ _ hp)
   exact ⟨x,by simp[execOp,h1],h2⟩
  ·simp at h
 case h_5 x =>
  split at h
  ·rename_i i o hx;simp at h;obtain ⟨rfl,rfl⟩:=h;have:=hg _ _ hx;have h':=this;simp only[Rep] at this;obtain ⟨b,hb,hu⟩:=this;exact ⟨ρ x,by simp[execOp,hu],h'⟩
  ·rename_i m f hx;simp at h;obtain ⟨rfl,rfl⟩:=h;have:=hg _ _ hx;have h':=this;simp only[Rep] at this;obtain ⟨b,hu,_⟩:=this;exact ⟨ρ x,by simp[execOp,hu],h'⟩
  ·rename_i i s a o hx;simp at h;obtain ⟨rfl,rfl⟩:=h;have:=hg _ _ hx;have h':=this;simp only[Rep] at this;obtain ⟨hv,b,_,_,hu⟩:=this;exact ⟨ρ x,by simp[execOp,hu],h'⟩
  ·rename_i f l hx;simp at h;obtain ⟨rfl,rfl⟩:=h;have:=hg _ _ hx;have h':=this;simp only[Rep] at this;obtain ⟨us,hu,_⟩:=this;exact ⟨ρ x,by simp[execOp,hu],h'⟩
  ·rename_i i hx;simp at h;obtain ⟨rfl,rfl⟩:=h;have:=hg _ _ hx;have h':=this;simp only[Rep] at this;obtain ⟨us,_,hu⟩:=this;exact ⟨ρ x,by simp[execOp,hu],h'⟩
  ·rename_i t dd hx;simp at h;obtain ⟨rfl,rfl⟩:=h;have:=hg _ _ hx;have h':=this;simp only[Rep] at this;obtain ⟨us,hu,_⟩:=this;exact ⟨ρ x,by simp[execOp,hu],h'⟩
  ·simp at h
 case h_6 b t x y t2 =>
  split at h
  ·rename_i l r hx hy;split at h
   ·rename_i ti hTt;obtain ⟨z,h1,h2⟩:=zgb (P:=P) (w:=w) (t:=t) (xo:=x) (yo:=y) (hT _ _ hTt) h (hg _ _ hx) (hg _ _ hy)
    refine ⟨z,?_,h2⟩
    simp only[execOp];rw[Sem.run_bind,h1];rfl
   ·simp at h
  ·rename_i a c hx hy;split at h
   ·rename_i r hr;simp only[Option.some.injEq] at h;subst h;obtain ⟨z,h1,h2⟩:=zga (P:=P) (w:=w) (xo:=x) (yo:=y) hT hr (hg _ _ hx) (hg _ _ hy)
    refine ⟨z,?_,h2⟩
    simp only[execOp];rw[Sem.run_bind,h1];rfl
   obtain ⟨z,h1,h2⟩:=zgc (P:=P) (w:=w) (t:=t) (xo:=x) (yo:=y) hT h hvs (hg _ _ hx) (hg _ _ hy)
   refine ⟨z,?_,h2⟩
   simp only[execOp];rw[Sem.run_bind,h1];rfl
  ·simp at h
 case h_7 u t x =>
  split at h
  ·rename_i a hx;obtain ⟨z,h1,h2⟩:=evUn_sound (P:=P) (w:=w) h hvs (hg _ _ hx)
   exact ⟨z,by simp[execOp,h1],h2⟩
  ·simp at h
 case h_8 t x k =>
  split at h
  ·rename_i sz ag z fs p hTt hp;split at h
   ·rename_i dd hf;simp at h;obtain ⟨rfl,rfl⟩:=h;obtain ⟨y,h1,h2⟩:=zjp (w:=w) (hT _ _ hTt) rfl hf (hg _ _ hp)
    exact ⟨y,by simp[execOp,h1],h2⟩
   ·simp at h
  ·simp at h
 case h_9 t x k =>
  split at h
  ·rename_i ti p hTt hp;split at h
   ·rename_i dd hf;simp at h;obtain ⟨rfl,rfl⟩:=h;obtain ⟨y,h1,h2⟩:=zg6 (w:=w) (hT _ _ hTt) hf (hg _ _ hp)
    exact ⟨y,by simp[execOp,h1],h2⟩
   ·simp at h
  ·simp at h
 case h_10 t x i =>
  split at h
  ·rename_i sz ag z tk a c hTt hx hi;obtain ⟨y,h1,h2⟩:=zdi (hT _ _ hTt) h hvs hW (hg _ _ hx) (hg _ _ hi)
   exact ⟨y,by simp[execOp,h1],h2⟩
  ·simp at h
 case h_11 t x i =>
  split at h
  ·rename_i ti a c hTt hx hi;obtain ⟨y,h1,h2⟩:=zb3 (w:=w) (hT _ _ hTt) h hvs (hg _ _ hx) (hg _ _ hi)
   exact ⟨y,by simp[execOp,h1],h2⟩
  ·simp at h
 case h_12 x i =>
  split at h
  ·rename_i l hx;split at h
   ·rename_i dd hl;simp at h;obtain ⟨rfl,rfl⟩:=h;have:=hg _ _ hx;simp only[Rep] at this;obtain ⟨us,hu,hrl⟩:=this;obtain ⟨y,h1,h2⟩:=RepL.get hrl hl;have h3:us[i]?=some y:=by simpa using h1
    exact ⟨y,by simp[execOp,Instr.extract,hu,h3],h2⟩
   ·simp at h
  ·simp at h
 case h_13 ta tb x =>
  split at h
  ·rename_i s1 a1 z1 ka s2 a2 z2 kb dd hTa hTb hx;split at h
   ·rename_i d' hc;simp at h;obtain ⟨rfl,rfl⟩:=h;obtain ⟨z,h1,h2⟩:=zl8 (P:=P) (w:=w) hT (hT _ _ hTa) (hT _ _ hTb) hc hW (hg _ _ hx)
    exact ⟨z,by simp[execOp,h1],h2⟩
   ·simp at h
  ·simp at h
 case h_14 t x lo hi =>
  split at h
  ·rename_i s l hh hTt hx hl hhh;obtain ⟨ii,td,hii,hd,he⟩:=zi (hT _ _ hTt)
   simp only[TI.mk.injEq] at he;obtain rfl:=uA he.2.2.2.1.symm;have hxs:=hg _ _ hx;simp only[Rep] at hxs;obtain ⟨z,h1,h2⟩:=zg4 (P:=P) (w:=w) (M:=M) (E:=E) hd h hvs (ui hg hl) (ui hg hhh)
   exact ⟨z,by simp[execOp,hxs,h1],h2⟩
  ·rename_i e s by' sz n f l hh hTt hx hl hhh;split at h<;>try (simp at h;done)
   rename_i hsz;obtain ⟨ii,td,hii,hd,he⟩:=zi (hT _ _ hTt)
   simp only[TI.mk.injEq] at he;obtain ⟨rfl,ei,hei,rfl,rfl⟩:=zM he.2.2.2.1.symm;subst hsz;obtain ⟨z,h1,h2⟩:=vw (P:=P) (w:=w) (M:=M) (E:=E) hd hei (fun _ _ _ e=>by simp at e;exact e.1.symm) h hvs (hg _ _ hx) (ui hg hl) (ui hg hhh)
   exact ⟨z,by simp[execOp,h1],h2⟩
  ·rename_i e s by' y l hh hTt hx hl hhh;obtain ⟨ii,td,hii,hd,he⟩:=zi (hT _ _ hTt)
   simp only[TI.mk.injEq] at he;obtain ⟨rfl,ei,hei,rfl,rfl⟩:=zM he.2.2.2.1.symm;obtain ⟨z,h1,h2⟩:=vw (P:=P) (w:=w) (M:=M) (E:=E) hd hei (fun _ _ _ e=>by simp at e) h hvs (hg _ _ hx) (ui hg hl) (ui hg hhh)
   exact ⟨z,by simp[execOp,h1],h2⟩
  ·rename_i len i off l hh hTt hx hl hhh;obtain ⟨ii,td,hii,hd,he⟩:=zi (hT _ _ hTt)
   simp only[TI.mk.injEq] at he;obtain ⟨e,ei,rfl,hei,h1s⟩:=vy he.2.2.2.1.symm;obtain ⟨z,h1,h2⟩:=zg5 (P:=P) (w:=w) (M:=M) (E:=E) hd hei h1s.symm h hvs (hg _ _ hx) (ui hg hl) (ui hg hhh)
   exact ⟨z,by simp[execOp,h1],h2⟩
  ·simp at h
 case h_15 t x =>
  split at h
  ·rename_i s1 a1 z1 k fl1 dd hTt hx;have hne:∀ ms,P.underlying t≠some (.interface ms):=by
    intro ms hms;obtain ⟨ii,td,hii,hd,he⟩:=zi (hT _ _ hTt)
    simp only[TI.mk.injEq] at he;rw[hms] at hd;simp at hd;subst hd;have:k=.iface:=he.2.2.2.1;subst this;simp at h
   have hsome:some (([]:List DP),D.ifc t dd)=some (vs,d):=by
    split at h
    ·simp at h
    ·exact h
   simp at hsome;obtain ⟨rfl,rfl⟩:=hsome;obtain ⟨ii,td,hii,hd,he⟩:=zi (hT _ _ hTt)
   refine ⟨.iface t (ρ x),?_,by simp only[Rep];exact ⟨_,rfl,hg _ _ hx⟩⟩
   have:(Instr.makeInterface t (ρ x)).run P w=.ok (.iface t (ρ x)) w:=by
    simp only[Instr.makeInterface,Sem.run_bind,zb hd,Result.andThen_ok];cases td<;>first|rfl|exact absurd hd (hne _)
   simp[execOp,this]
  ·simp at h
 case h_16 f caps =>
  split at h
  ·rename_i ds hds;simp at h;obtain ⟨rfl,rfl⟩:=h;have:=vX hg hds;exact ⟨_,by simp[execOp,Instr.makeFunc];rfl,by simp only[Rep];exact ⟨_,rfl,by simpa using this⟩⟩
  ·simp at h
 case h_17 x y _ =>
  split at h
  ·rename_i a b hx hy;simp at h;obtain ⟨rfl,rfl⟩:=h;have h1:=hg _ _ hx;have h2:=hg _ _ hy;simp only[Rep] at h1 h2;refine ⟨.int .i64 (min a b),?_,zk _⟩
   have:(if b<a then b else a)=min a b:=by omega
   simp[execOp,resolve,invoke,builtin,h1,h2,Builtin.min_,Builtin.min2,this]
  ·simp at h
 case h_18 x y _ =>
  split at h
  ·rename_i a b hx hy;simp at h;obtain ⟨rfl,rfl⟩:=h;have h1:=hg _ _ hx;have h2:=hg _ _ hy;simp only[Rep] at h1 h2;refine ⟨.int .i64 (max a b),?_,zk _⟩
   have:(if a<b then b else a)=max a b:=by omega
   simp[execOp,resolve,invoke,builtin,h1,h2,Builtin.max_,Builtin.max2,this]
  ·simp at h
 case h_19 x t =>
  split at h
  ·rename_i sz ag z tk a hTt hx;split at h
   ·rename_i dd hl;simp at h;obtain ⟨rfl,rfl⟩:=h;obtain ⟨y,h1,h2⟩:=zoe (ty:=ty) (hT _ _ hTt) hl hW (hg _ _ hx)
    refine ⟨y,?_,h2⟩
    simp[execOp,resolve,invoke,builtin,h1]
   ·simp at h
  ·simp at h
 case h_20 x t =>
  split at h
  ·rename_i e s by' hTt hx;simp at h;obtain ⟨rfl,rfl⟩:=h;obtain ⟨ii,td,hii,hd,he⟩:=zi (hT _ _ hTt)
   simp only[TI.mk.injEq] at he;obtain ⟨rfl,ei,hei,rfl,rfl⟩:=zM he.2.2.2.1.symm;have h1:=hg _ _ hx;simp only[Rep] at h1;refine ⟨.int .i64 0,?_,zk _⟩
   simp[execOp,resolve,invoke,builtin,h1,Builtin.cap_,zb hd,goInt]
  ·simp at h
 case h_21 x xt t =>
  split at h<;>try (simp at h;done)
  ·rename_i c ag z fs m hTt hx;split at h<;>try (simp at h;done)
   rename_i d0 hz;simp at h;obtain ⟨rfl,rfl⟩:=h;obtain ⟨v,hv,hr⟩:=zki (w:=w) (M:=M) (E:=E) (hT _ _ hTt) hz;obtain ⟨ii,td,hii,hd,he⟩:=zi (hT _ _ hTt)
   simp only[TI.mk.injEq] at he;obtain ⟨F,rfl,rfl,hall⟩:=uO he.2.2.2.1.symm;have h1:=hg _ _ hx;simp only[Rep] at h1;refine ⟨.tuple #[v,.bool false],?_,?_⟩
   ·simp[execOp,Instr.typeAssert,h1,zb hd,hv]
   ·simp only[Rep];exact ⟨_,rfl,RepL.cons hr (RepL.cons (zk _) RepL.nil)⟩
  ·rename_i fs t' d0 _ _ _ _ hTt hx;split at h<;>try (simp at h;done)
   rename_i htt;simp at h;obtain ⟨rfl,rfl⟩:=h;obtain ⟨ii,td,hii,hd,he⟩:=zi (hT _ _ hTt)
   simp only[TI.mk.injEq] at he;obtain ⟨F,rfl,rfl,hall⟩:=uO he.2.2.2.1.symm;have h1:=hg _ _ hx;simp only[Rep] at h1;obtain ⟨v,h1,hr⟩:=h1;refine ⟨.tuple #[v,.bool true],?_,?_⟩
   ·simp[execOp,Instr.typeAssert,h1,zb hd,htt]
   ·simp only[Rep];exact ⟨_,rfl,RepL.cons hr (RepL.cons (zk _) RepL.nil)⟩
 case h_22 x y z _ =>
  split at h
  ·rename_i a b c hx hy hz;simp only[Option.some.injEq,Prod.mk.injEq] at h;obtain ⟨rfl,rfl⟩:=h;have h1:=hg _ _ hx;have h2:=hg _ _ hy;have h3:=hg _ _ hz;simp only[Rep] at h1 h2 h3;refine ⟨.int .i64 (max (max a b) c),?_,zk _⟩
   have e1:(if a<b then b else a)=max a b:=by omega
   have e2:(if max a b<c then c else max a b)=max (max a b) c:=by omega
   simp[execOp,resolve,invoke,builtin,h1,h2,h3,Builtin.max_,Builtin.max2,e1,e2]
  ·simp at h
 case h_23=>simp at h
theorem zle (hT:TOk P T) {op:Op}{g:zib}{n:Nat}{neg:Bool}(h:zho T op g ow=some (n,neg)) (hg:∀ x d,g x=some d->Rep M E d (ρ x)) (hW:WRel B w0 M0 M E ow w) (dst:Option Tmp) (ty:TypeId) (pos:String) (after:Array Edge) (guard:Option (Nat × Bool)):
  ∃ q:Bool,(q=true->n=0)/\(execOp ρ ⟨dst,op,ty,pos,after,guard⟩).run P w=.ok (.value (.bool (xor q neg))) w:=by
 unfold zho at h;split at h<;>try (simp at h;done)
 rename_i b t x y oo;split at h<;>try (simp at h;done)
 rename_i e s by' mo d hTt hx hy;obtain ⟨i1,td,hi1,hd,he⟩:=zi (hT _ _ hTt)
 simp only[TI.mk.injEq] at he;obtain ⟨rfl,ei,hei,rfl,rfl⟩:=zM he.2.2.2.1.symm;have h1:=hg _ _ hx;have h2:=hg _ _ hy;simp only[Rep] at h2;have key:∀ n',(match d with | .sl _ n _=>some n | .row i=>(match ow[i]? with|some o=>(match zd7 o with|some (_,_,n,_)=>some n|none=>none)|none=>none)|_=>none)=some n'->∃ a c,ρ x=.slice a n' c/\(a=none->n'=0):=by
  intro n' hn;split at hn
  ·simp only[Option.some.injEq] at hn;rw[hn] at h1;simp only[Rep] at h1;obtain ⟨a,c,h3,_,h4⟩:=h1;refine ⟨a,c,h3,fun h5=>?_⟩
   rcases Nat.eq_zero_or_pos n' with h0|h0
   ·exact h0
   ·obtain ⟨ad,h6,_⟩:=h4 h0;rw[h5] at h6;simp at h6
  ·split at hn<;>try (simp at hn;done)
   rename_i o ho;split at hn<;>try (simp at hn;done)
   rename_i hro;simp at hn;subst hn;simp only[Rep] at h1;obtain ⟨xs,hown,_⟩:=(hW.holds _ _ _ ho h1).toRow hro;rcases hown.2 with ⟨h3,h4⟩|⟨g0,cap,cur,h3,_⟩
   ·exact ⟨none,0,by rw[h3,h4],fun _=>h4⟩
   ·exact ⟨_,_,h3,fun h5=>by simp at h5⟩
  ·simp at hn
 have run0:∀ (d:Nat) (a:Option Addr) (n' c:Nat),(Op.equalIn (d+1) t (.slice a n' c) (.slice none 0 0)).run P w=.ok a.isNone w:=by
  intro d a n' c;cases a<;>simp[Op.equalIn,zb hd]
 have run:∀ (a:Option Addr) (n' c:Nat),ρ x=.slice a n' c->(Op.equal t (ρ x) (ρ y)).run P w=.ok a.isNone w:=by
  intro a n' c hxx;rw[hxx,h2];exact run0 9999 a n' c
 have hq:∀ (op':BinOp) (a:Option Addr) (n' c:Nat),ρ x=.slice a n' c->(eqGuard op' t x y (ρ x) (ρ y)).run P w=.ok () w:=by
  intro op' a n' c hxx;rw[hxx,h2];cases op'<;>simp[eqGuard]
 split at h<;>try (simp at h;done)
 ·rename_i n' hn;simp at h;obtain ⟨rfl,rfl⟩:=h;obtain ⟨a,c,h3,h4⟩:=key _ hn;refine ⟨a.isNone,fun h5=>h4 (by simpa using h5),?_⟩
  have e1:binOp .eql t (ρ x) (ρ y)=(do pure (.bool (<- Op.equal t (ρ x) (ρ y))):Sem Value):=by rw[h3,h2];rfl
  simp[execOp,hq _ _ _ _ h3,e1,run _ _ _ h3]
 ·rename_i n' hn;simp at h;obtain ⟨rfl,rfl⟩:=h;obtain ⟨a,c,h3,h4⟩:=key _ hn;refine ⟨a.isNone,fun h5=>h4 (by simpa using h5),?_⟩
  have e1:binOp .neq t (ρ x) (ρ y)=(do pure (.bool (!(<- Op.equal t (ρ x) (ρ y)))):Sem Value):=by rw[h3,h2];rfl
  simp[execOp,hq _ _ _ _ h3,e1,run _ _ _ h3]
end
end Go.Sx
