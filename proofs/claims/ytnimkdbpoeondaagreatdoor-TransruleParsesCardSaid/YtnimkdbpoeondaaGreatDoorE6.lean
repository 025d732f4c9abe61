import Derived.Test.YtnimkdbpoeondaaGreatDoorE5
import Derived.KernelRfl
set_option linter.all false
namespace Go.Sx
open Go Go.RowKit
variable {Gl:Nat->Option D}{cc:Bool}{tm tm':List (Nat × D)}{k:List (Nat × D)->List Own->Prop}{all l:List Oper}{ow ow':List Own}{Γ:Ctx}{N:Nat}{x y p:Prop}{c:Code}{E:List Value}{f:FuncId}{m:Nat}{gs:Gs}{fn:Func}{Y:Ys}{d d':D}{R:Bool}
mutual
def inD (m:Nat):D->Bool
 | .v _ | .sl _ _ _ | .pt _ _ | .junk=>true
 | .own i _=>decide (i<m)
 | .row i=>decide (i<m)
 | .rp i _ _ _=>decide (i<m)
 | .yl i=>decide (i<m)
 | .mp i=>decide (i<m)
 | .os i _ _=>decide (i<m)
 | .sd i=>decide (i<m)
 | .ag l | .tu l=>inDL m l
 | .fn _ l=>inDL m l
 | .ifc _ d=>inD m d
def inDL (m:Nat):List D->Bool
 | []=>true
 | d::ds=>inD m d&&inDL m ds
end
mutual
theorem Rep.take {M:Mem}{E:List Value}{m:Nat}:∀ (d:D) (u:Value),inD m d=true->Rep M E d u->Rep M (E.take m) d u
 | .v x,u,_,h=>by simpa only[Rep] using h
 | .sl _ _ _,u,_,h=>by simpa only[Rep] using h
 | .pt _ _,u,_,h=>by simpa only[Rep] using h
 | .ag l,u,hp,h=>by
  simp only[Rep] at h ⊢;obtain ⟨us,rfl,hl⟩:=h;exact ⟨us,rfl,RepL.take _ _ (by simpa[inD] using hp) hl⟩
 | .tu l,u,hp,h=>by
  simp only[Rep] at h ⊢;obtain ⟨us,rfl,hl⟩:=h;exact ⟨us,rfl,RepL.take _ _ (by simpa[inD] using hp) hl⟩
 | .own i o,u,hp,h=>by
  simp only[Rep] at h ⊢;simp[inD] at hp;rw[List.getElem?_take_of_lt hp];exact h
 | .row i,u,hp,h=>by
  simp only[Rep] at h ⊢;simp[inD] at hp;rw[List.getElem?_take_of_lt hp];exact h
 | .rp i _ _ _,u,hp,h=>by
  simp only[Rep] at h ⊢;simp[inD] at hp;rw[List.getElem?_take_of_lt hp];exact h
 | .yl i,u,hp,h=>by
  simp only[Rep] at h ⊢;simp[inD] at hp;rw[List.getElem?_take_of_lt hp];exact h
 | .mp i,u,hp,h=>by
  simp only[Rep] at h ⊢;simp[inD] at hp;rw[List.getElem?_take_of_lt hp];exact h
 | .os i _ _,u,hp,h=>by
  simp only[Rep] at h ⊢;simp[inD] at hp;rw[List.getElem?_take_of_lt hp];exact h
 | .sd i,u,hp,h=>by
  simp only[Rep] at h ⊢;simp[inD] at hp;rw[List.getElem?_take_of_lt hp];exact h
 | .fn g l,u,hp,h=>by
  simp only[Rep] at h ⊢;obtain ⟨us,rfl,hl⟩:=h;exact ⟨us,rfl,RepL.take _ _ (by simpa[inD] using hp) hl⟩
 | .ifc t d,u,hp,h=>by
  simp only[Rep] at h ⊢;obtain ⟨x,rfl,hx⟩:=h;exact ⟨x,rfl,Rep.take _ _ (by simpa[inD] using hp) hx⟩
 | .junk,u,_,_=>by simp[Rep]
theorem RepL.take {M:Mem}{E:List Value}{m:Nat}:∀ (l:List D) (us:List Value),inDL m l=true->RepL M E l us->RepL M (E.take m) l us
 | [],us,_,h=>by simpa only[RepL] using h
 | d::ds,us,hp,h=>by
  simp only[RepL] at h ⊢;obtain ⟨u,r,rfl,hd,hr⟩:=h;simp[inDL] at hp;exact ⟨u,r,rfl,Rep.take _ _ hp.1 hd,RepL.take _ _ hp.2 hr⟩
end
def OwnLe (m:Nat):Own->Own->Prop
 | .cells t l,.cells t' l'=>t=t'/\EntL l l'/\inDL m l'=true
 | .row e sz n f,.row e' sz' n' f'=>e=e'/\sz=sz'/\n=n'/\∀ a,a<n->∀ j,j<sz->Ent (f a j) (f' a j)
 | .frozen sz n f,.frozen sz' n' f'=>Ent (.sl sz n f) (.sl sz' n' f')
 | .bytes e s,.bytes e' s'=>e=e'/\s=s'
 | .lp st pe,.lp st' pe'=>st=st'/\pe=pe'
 | .defd,.defd=>True
 | .iter s p,.iter s' p'=>s=s'/\p=p'
 | .gone,.gone=>True
 | _,_=>False
def subO (m:Nat):List Own->List Own->Prop
 | _,[]=>True
 | [],_::_=>False
 | o::os,o'::os'=>OwnLe m o o'/\subO m os os'
def subT (m:Nat) (tm:List (Nat × D)):List (Nat × D)->Prop
 | []=>True
 | (t,d')::r=>(match lk tm t with|some d=>Ent d d'|none=>False)/\inD m d'=true/\subT m tm r
theorem zeh {m:Nat}:∀ {l l':List Own}{i:Nat}{o':Own},subO m l l'->l'[i]?=some o'->∃ o,l[i]?=some o/\OwnLe m o o'
 | _,[],i,o',_,h=>by simp at h
 | [],_::_,i,o',hs,_=>hs.elim
 | o::os,p::os',0,o',hs,h=>by simp at h;subst h;exact ⟨o,by simp,hs.1⟩
 | o::os,p::os',i+1,o',hs,h=>by simp at h ⊢;exact zeh hs.2 h
theorem subO_len {m:Nat}:∀ {l l':List Own},subO m l l'->l'.length<=l.length
 | _,[],_=>by simp
 | [],_::_,hs=>hs.elim
 | o::os,p::os',hs=>by simp;exact subO_len hs.2
theorem subT_get {m:Nat}{tm:List (Nat × D)}:∀ {l:List (Nat × D)}{t:Nat}{d':D},subT m tm l->lk l t=some d'->∃ d,lk tm t=some d/\Ent d d'/\inD m d'=true
 | [],t,d',_,h=>by simp[lk] at h
 | (s,x)::r,t,d',hs,h=>by
  simp only[subT] at hs;simp only[lk] at h;split at h
  ·rename_i hst;simp at h;subst h;subst hst;cases hl:lk tm s with
   | none=>rw[hl] at hs;exact hs.1.elim
   | some d=>rw[hl] at hs;exact ⟨d,rfl,hs.1,hs.2.1⟩
  ·exact subT_get hs.2.2 h
theorem Holds.le {B:Nat}{M:Mem}{w:World}{o o':Own}{v:Value}(hl:OwnLe m o o') (h:Holds B M E w o v):Holds B M (E.take m) w o' v/\(o'.live=true->o.live=true):=by
 cases o<;>cases o'<;>simp only[OwnLe] at hl
 case cells.cells t l t' l' =>
  obtain ⟨rfl,h1,h2⟩:=hl;simp only[Holds] at h ⊢;obtain ⟨b,cs,q1,q2,q3,q4,q5⟩:=h;exact ⟨⟨b,cs,q1,q2,RepL.take _ _ h2 (h1 _ _ _ q3),q4,q5⟩,fun _=>rfl⟩
 case row.row e sz n f e' sz' n' f' =>
  obtain ⟨rfl,rfl,rfl,h1⟩:=hl;simp only[Holds] at h ⊢;obtain ⟨xs,q1,q2,q3⟩:=h;refine ⟨⟨xs,q1,fun a ha j hj=>?_,q3⟩,fun _=>rfl⟩
  obtain ⟨x,x1,x2,x3⟩:=q2 a ha j hj;exact ⟨x,x1,x2,h1 a ha j hj _ _ _ x3⟩
 case bytes.bytes=>obtain ⟨rfl,rfl⟩:=hl;exact ⟨h,fun _=>rfl⟩
 case lp.lp=>obtain ⟨rfl,rfl⟩:=hl;exact ⟨h,fun _=>rfl⟩
 case defd.defd=>exact ⟨h,fun _=>rfl⟩
 case iter.iter=>obtain ⟨rfl,rfl⟩:=hl;exact ⟨h,fun _=>rfl⟩
 case frozen.frozen=>exact ⟨hl M [] v h,fun hh=>by simp[Own.live] at hh⟩
 case gone.gone=>exact ⟨h,fun hh=>by simp[Own.live] at hh⟩
theorem StLe.ofm {df:List DE}(h1:subT ow'.length tm tm') (h2:subO ow'.length ow ow') (hm:m<=ow'.length) (hdf:∀ i,DE.m i∈df->i<ow'.length):StLe m ⟨tm,ow,df⟩ ⟨tm',ow',df⟩:=by
 refine ⟨rfl,?_⟩
 intro B w0 M0 dv N M E w a hW hR;have hlen:=subO_len h2;refine ⟨M,E.take ow'.length,za _,fun i b hi hb=>by rw[List.getElem?_take_of_lt (by omega)];exact hb,fun i hi b hb=>by rw[List.getElem?_take_of_lt (hdf i hi)];exact hb,⟨hW.fits,hW.base,hW.below,?_,?_,?_,hW.mle,hW.new⟩,⟨hR.size,hR.defers,fun t d' ht=>?_,fun _ _ _ _ hh=>by simp[lkG] at hh⟩⟩
 ·simp[hW.len];omega
 ·intro i o' v ho hv;obtain ⟨o,ho1,hle⟩:=zeh h2 ho;rw[List.getElem?_take_of_lt (zE ho)] at hv;exact ((hW.holds _ _ _ ho1 hv).le hle).1
 ·intro i j o o' v v' b ho ho' hl1 hl2 hv hv' hb hb';obtain ⟨p,hp,hle⟩:=zeh h2 ho;obtain ⟨p',hp',hle'⟩:=zeh h2 ho';rw[List.getElem?_take_of_lt (zE ho)] at hv;rw[List.getElem?_take_of_lt (zE ho')] at hv';exact hW.inj _ _ _ _ _ _ _ hp hp' (((hW.holds _ _ _ hp hv).le hle).2 hl1) (((hW.holds _ _ _ hp' hv').le hle').2 hl2) hv hv' hb hb'
 ·obtain ⟨d,hd,hent,hsc⟩:=subT_get h1 ht;exact Rep.take _ _ hsc (hent _ _ _ (hR.tmps _ _ hd))
theorem StLe.of (h1:subT ow'.length tm tm') (h2:subO ow'.length ow ow'):StLe 0 ⟨tm,ow,[]⟩ ⟨tm',ow',[]⟩:=StLe.ofm h1 h2 (Nat.zero_le _) (fun i hi=>by simp at hi)
theorem Ent.refl (d:D):Ent d d:=fun _ _ _ h=>h
theorem Ent.of_eq (h:d=d'):Ent d d':=h ▸ Ent.refl d
theorem EntL.refl (l:List D):EntL l l:=fun _ _ _ h=>h
theorem EntL.cons {l l':List D}(h:Ent d d') (hl:EntL l l'):EntL (d::l) (d'::l'):=by
 intro M E us hu;simp only[RepL] at hu ⊢;obtain ⟨u,r,rfl,h1,h2⟩:=hu;exact ⟨u,r,rfl,h _ _ _ h1,hl _ _ _ h2⟩
theorem Ent.ag {l l':List D}(hl:EntL l l'):Ent (.ag l) (.ag l'):=by
 intro M E u hu;simp only[Rep] at hu ⊢;obtain ⟨us,rfl,h⟩:=hu;exact ⟨us,rfl,hl _ _ _ h⟩
theorem Ent.v {x y:Value}(h:x=y):Ent (.v x) (.v y):=h ▸ Ent.refl _
theorem Ent.int {k:IntKind}{x y:Int}(h:x=y):Ent (.v (.int k x)) (.v (.int k y)):=h ▸ Ent.refl _
theorem Ent.sl {sz n n':Nat}{f f':Nat->Nat->D}(hn:n=n') (h:∀ i,i<n->∀ j,j<sz->Ent (f i j) (f' i j)):Ent (.sl sz n f) (.sl sz n' f'):=by
 subst hn;intro M E u hu;simp only[Rep] at hu ⊢;obtain ⟨a,cap,rfl,h1,h2⟩:=hu;refine ⟨a,cap,rfl,h1,fun h0=>?_⟩
 obtain ⟨ad,rfl,h3⟩:=h2 h0;refine ⟨ad,rfl,fun i hi j hj=>?_⟩
 obtain ⟨x,x1,x2,x3⟩:=h3 i hi j hj;exact ⟨x,x1,x2,h i hi j hj _ _ _ x3⟩
theorem Ent.nil {sz:Nat}{f:Nat->Nat->D}:Ent (.v (.slice none 0 0)) (.sl sz 0 f):=by
 intro M E u hu;simp only[Rep] at hu ⊢;subst hu;exact ⟨none,0,rfl,Nat.le_refl _,fun h=>by omega⟩
theorem EntR.of (hp:pd d'=true) (h:Ent d d'):EntR d d':=fun _ _ _ hu=>Rep.pd _ _ hp (h _ _ _ hu)
theorem EntR.v {x y:Value}(h:x=y):EntR (.v x) (.v y):=EntR.of rfl (Ent.v h)
theorem ze {x y:Bool}(h:x=y):EntR (.v (.bool x)) (.v (.bool y)):=h ▸ EntR.v rfl
theorem zf {k:IntKind}{x y:Int}(h:x=y):EntR (.v (.int k x)) (.v (.int k y)):=h ▸ EntR.v rfl
theorem EntR.str {x y:ByteArray}(h:x=y):EntR (.v (.string x)) (.v (.string y)):=h ▸ EntR.v rfl
mutual
def zd9 (ρ:List Nat):D->D
 | .own i o=>.own (ρ.getD i 0) o
 | .row i=>.row (ρ.getD i 0)
 | .rp i s a o=>.rp (ρ.getD i 0) s a o
 | .yl i=>.yl (ρ.getD i 0)
 | .mp i=>.mp (ρ.getD i 0)
 | .os i o n=>.os (ρ.getD i 0) o n
 | .sd i=>.sd (ρ.getD i 0)
 | .ag l=>.ag (zgx ρ l)
 | .tu l=>.tu (zgx ρ l)
 | .fn g l=>.fn g (zgx ρ l)
 | .ifc t d=>.ifc t (zd9 ρ d)
 | .v x=>.v x
 | .sl sz n f=>.sl sz n f
 | .pt m f=>.pt m f
 | .junk=>.junk
def zgx (ρ:List Nat):List D->List D
 | []=>[]
 | d::ds=>zd9 ρ d::zgx ρ ds
end
def renE (E:List Value) (ρ:List Nat):List Value:=ρ.map fun j=>E.getD j undef
theorem vl {ρ:List Nat}{i:Nat}{v:Value}(hi:i<ρ.length) (h:E[ρ.getD i 0]?=some v):(renE E ρ)[i]?=some v:=by
 unfold renE;rw[List.getElem?_map,List.getElem?_eq_getElem hi];simp only[List.getD_eq_getElem?_getD,List.getElem?_eq_getElem hi,Option.getD_some] at h;simp[List.getD_eq_getElem?_getD,h]
mutual
theorem Rep.ren {M:Mem}{E:List Value}{ρ:List Nat}:∀ (d:D) (u:Value),inD ρ.length d=true->Rep M E (zd9 ρ d) u->Rep M (renE E ρ) d u
 | .v x,u,_,h=>by simpa only[Rep,zd9] using h
 | .sl _ _ _,u,_,h=>by simpa only[Rep,zd9] using h
 | .pt _ _,u,_,h=>by simpa only[Rep,zd9] using h
 | .ag l,u,hp,h=>by
  simp only[Rep,zd9] at h ⊢;obtain ⟨us,rfl,hl⟩:=h;exact ⟨us,rfl,RepL.ren _ _ (by simpa[inD] using hp) hl⟩
 | .tu l,u,hp,h=>by
  simp only[Rep,zd9] at h ⊢;obtain ⟨us,rfl,hl⟩:=h;exact ⟨us,rfl,RepL.ren _ _ (by simpa[inD] using hp) hl⟩
 | .own i o,u,hp,h=>by
  simp only[Rep,zd9] at h ⊢;simp only[inD,decide_eq_true_eq] at hp;obtain ⟨b,h1,h2⟩:=h;exact ⟨b,vl hp h1,h2⟩
 | .row i,u,hp,h=>by
  simp only[Rep,zd9] at h ⊢;simp only[inD,decide_eq_true_eq] at hp;exact vl hp h
 | .rp i _ _ _,u,hp,h=>by
  simp only[Rep,zd9] at h ⊢;simp only[inD,decide_eq_true_eq] at hp;obtain ⟨x,b,h1,h2⟩:=h;exact ⟨x,b,vl hp h1,h2⟩
 | .yl i,u,hp,h=>by
  simp only[Rep,zd9] at h ⊢;simp only[inD,decide_eq_true_eq] at hp;obtain ⟨b,h1,h2⟩:=h;exact ⟨b,vl hp h1,h2⟩
 | .mp i,u,hp,h=>by
  simp only[Rep,zd9] at h ⊢;simp only[inD,decide_eq_true_eq] at hp;obtain ⟨b,h1,h2⟩:=h;exact ⟨b,vl hp h1,h2⟩
 | .os i _ _,u,hp,h=>by
  simp only[Rep,zd9] at h ⊢;simp only[inD,decide_eq_true_eq] at hp;obtain ⟨b,o,c,h1,h2⟩:=h;exact ⟨b,o,c,vl hp h1,h2⟩
 | .sd i,u,hp,h=>by
  simp only[Rep,zd9] at h ⊢;simp only[inD,decide_eq_true_eq] at hp;obtain ⟨a,n,c,p,h1,h2⟩:=h;exact ⟨a,n,c,p,vl hp h1,h2⟩
 | .fn g l,u,hp,h=>by
  simp only[Rep,zd9] at h ⊢;obtain ⟨us,rfl,hl⟩:=h;exact ⟨us,rfl,RepL.ren _ _ (by simpa[inD] using hp) hl⟩
 | .ifc t d,u,hp,h=>by
  simp only[Rep,zd9] at h ⊢;obtain ⟨x,rfl,hx⟩:=h;exact ⟨x,rfl,Rep.ren _ _ (by simpa[inD] using hp) hx⟩
 | .junk,u,_,_=>by simp[Rep]
theorem RepL.ren {M:Mem}{E:List Value}{ρ:List Nat}:∀ (l:List D) (us:List Value),inDL ρ.length l=true->RepL M E (zgx ρ l) us->RepL M (renE E ρ) l us
 | [],us,_,h=>by simpa only[RepL,zgx] using h
 | d::ds,us,hp,h=>by
  simp only[RepL,zgx] at h ⊢;obtain ⟨u,r,rfl,hd,hr⟩:=h;simp only[inDL,Bool.and_eq_true] at hp;exact ⟨u,r,rfl,Rep.ren _ _ hp.1 hd,RepL.ren _ _ hp.2 hr⟩
end
def zmz (ρ:List Nat):Option D->Option D->Prop
 | some d,some d'=>Ent d (zd9 ρ d')/\inD ρ.length d'=true
 | none,none=>True
 | _,_=>False
def xP (ρ:List Nat):Own->Own->Prop
 | .cells t l,.cells t' l'=>t=t'/\EntL l (zgx ρ l')/\inDL ρ.length l'=true
 | .row e sz n f,.row e' sz' n' f'=>e=e'/\sz=sz'/\n=n'/\∀ a,a<n->∀ j,j<sz->Ent (f a j) (f' a j)
 | .frozen sz n f,.frozen sz' n' f'=>Ent (.sl sz n f) (.sl sz' n' f')
 | .bytes e s,.bytes e' s'=>e=e'/\s=s'
 | .map k v sh f,.map k' v' sh' f'=>k=k'/\v=v'/\sh=sh'/\∀ key,zmz ρ (f key) (f' key)
 | .lp st pe,.lp st' pe'=>st=st'/\pe=pe'
 | .defd,.defd=>True
 | .iter s p,.iter s' p'=>s=s'/\p=p'
 | .gone,.gone=>True
 | _,_=>False
def renO (ρ:List Nat) (ow:List Own):List Nat->List Own->Prop
 | [],[]=>True
 | j::js,o'::os'=>(match ow[j]? with|some o=>xP ρ o o'|none=>False)/\renO ρ ow js os'
 | _,_=>False
def renT (ρ:List Nat) (tm:List (Nat × D)):List (Nat × D)->Prop
 | []=>True
 | (t,d')::r=>(match lk tm t with|some d=>Ent d (zd9 ρ d')|none=>False)/\inD ρ.length d'=true/\renT ρ tm r
theorem zem {ρ:List Nat}{ow:List Own}:∀ {js:List Nat}{l':List Own}{i:Nat}{o':Own},renO ρ ow js l'->l'[i]?=some o'->∃ j o,js[i]?=some j/\ow[j]?=some o/\xP ρ o o'
 | [],[],i,o',_,h=>by simp at h
 | [],_::_,i,o',hs,_=>hs.elim
 | _::_,[],i,o',hs,_=>hs.elim
 | j::js,p::os',0,o',hs,h=>by
  simp at h;subst h;have h1:=hs.1;cases ho:ow[j]? with
  | none=>rw[ho] at h1;exact h1.elim
  | some o=>rw[ho] at h1;exact ⟨j,o,by simp,ho,h1⟩
 | j::js,p::os',i+1,o',hs,h=>by
  simp at h;obtain ⟨j',o,h1,h2⟩:=zem hs.2 h;exact ⟨j',o,by simpa using h1,h2⟩
theorem renO_len {ρ:List Nat}{ow:List Own}:∀ {js:List Nat}{l':List Own},renO ρ ow js l'->l'.length=js.length
 | [],[],_=>rfl
 | [],_::_,hs=>hs.elim
 | _::_,[],hs=>hs.elim
 | j::js,p::os',hs=>by simp;exact renO_len hs.2
theorem renT_get {ρ:List Nat}{tm:List (Nat × D)}:∀ {l:List (Nat × D)}{t:Nat}{d':D},renT ρ tm l->lk l t=some d'->∃ d,lk tm t=some d/\Ent d (zd9 ρ d')/\inD ρ.length d'=true
 | [],t,d',_,h=>by simp[lk] at h
 | (s,x)::r,t,d',hs,h=>by
  simp only[renT] at hs;simp only[lk] at h;split at h
  ·rename_i hst;simp at h;subst h;subst hst;cases hl:lk tm s with
   | none=>rw[hl] at hs;exact hs.1.elim
   | some d=>rw[hl] at hs;exact ⟨d,rfl,hs.1,hs.2.1⟩
  ·exact renT_get hs.2.2 h
theorem Holds.ren {B:Nat}{M:Mem}{w:World}{ρ:List Nat}{o o':Own}{v:Value}(hl:xP ρ o o') (h:Holds B M E w o v):Holds B M (renE E ρ) w o' v/\(o'.live=true->o.live=true):=by
 cases o<;>cases o'<;>simp only[xP] at hl
 case cells.cells t l t' l' =>
  obtain ⟨rfl,h1,h2⟩:=hl;simp only[Holds] at h ⊢;obtain ⟨b,cs,q1,q2,q3,q4,q5⟩:=h;exact ⟨⟨b,cs,q1,q2,RepL.ren _ _ h2 (h1 _ _ _ q3),q4,q5⟩,fun _=>rfl⟩
 case row.row e sz n f e' sz' n' f' =>
  obtain ⟨rfl,rfl,rfl,h1⟩:=hl;simp only[Holds] at h ⊢;obtain ⟨xs,q1,q2,q3⟩:=h;refine ⟨⟨xs,q1,fun a ha j hj=>?_,q3⟩,fun _=>rfl⟩
  obtain ⟨x,x1,x2,x3⟩:=q2 a ha j hj;exact ⟨x,x1,x2,h1 a ha j hj _ _ _ x3⟩
 case bytes.bytes=>obtain ⟨rfl,rfl⟩:=hl;exact ⟨h,fun _=>rfl⟩
 case map.map k vt sh f k' vt' sh' f' =>
  obtain ⟨rfl,rfl,rfl,h1⟩:=hl;simp only[Holds] at h ⊢;obtain ⟨b,es,ck,q1,q2,q3,q4,q5⟩:=h;refine ⟨⟨b,es,ck,q1,q2,⟨fun key d' hd=>?_,fun key hk=>?_,q3.keys,q3.once⟩,q4,q5⟩,fun _=>rfl⟩
  ·have:=h1 key;rw[hd] at this;cases hf:f key with
   | none=>rw[hf] at this;exact this.elim
   | some d =>
    rw[hf] at this;obtain ⟨j,e,x1,x2,x3⟩:=q3.has key d hf;exact ⟨j,e,x1,x2,Rep.ren _ _ this.2 (this.1 _ _ _ x3)⟩
  ·have:=h1 key;rw[hk] at this;cases hf:f key with
   | none=>exact q3.lacks key hf
   | some d=>rw[hf] at this;exact this.elim
 case lp.lp=>obtain ⟨rfl,rfl⟩:=hl;exact ⟨h,fun _=>rfl⟩
 case defd.defd=>exact ⟨h,fun _=>rfl⟩
 case iter.iter=>obtain ⟨rfl,rfl⟩:=hl;exact ⟨h,fun _=>rfl⟩
 case frozen.frozen=>exact ⟨hl M [] v h,fun hh=>by simp[Own.live] at hh⟩
 case gone.gone=>exact ⟨h,fun hh=>by simp[Own.live] at hh⟩
theorem zq (ρ:List Nat) {df:List DE}(h1:renT ρ tm tm') (h2:renO ρ ow ρ ow') (hn:ρ.Nodup) (hm:∀ i,i<m->ρ[i]?=some i) (hdf:∀ i,DE.m i∈df->ρ[i]?=some i):StLe m ⟨tm,ow,df⟩ ⟨tm',ow',df⟩:=by
 refine ⟨rfl,?_⟩
 intro B w0 M0 dv N M E w a hW hR;have hlen:=renO_len h2;have hid:∀ (i:Nat) (v:Value),ρ[i]?=some i->E[i]?=some v->(renE E ρ)[i]?=some v:=by
  intro i v hi hv;refine vl (zE hi) ?_;rw[List.getD_eq_getElem?_getD,hi];exact hv
 have hback:∀ (i j:Nat) (v:Value) (o:Own),ρ[i]?=some j->ow[j]?=some o->(renE E ρ)[i]?=some v->E[j]?=some v:=by
  intro i j v o hi ho hv;have hj:j<E.length:=by rw[hW.len];exact zE ho
  unfold renE at hv;rw[List.getElem?_map,hi] at hv;simp only[Option.map_some,Option.some.injEq] at hv;rw[<- hv,List.getD_eq_getElem?_getD,List.getElem?_eq_getElem hj];rfl
 refine ⟨M,renE E ρ,za _,fun i v hi hv=>hid i v (hm i hi) hv,fun i hi b hb=>hid i _ (hdf i hi) hb,⟨hW.fits,hW.base,hW.below,?_,?_,?_,hW.mle,hW.new⟩,⟨hR.size,hR.defers,fun t d' ht=>?_,fun _ _ _ _ hh=>by simp[lkG] at hh⟩⟩
 ·simp[renE,hlen]
 ·intro i o' v ho hv;obtain ⟨j,o,hj,ho1,hle⟩:=zem h2 ho;exact ((hW.holds _ _ _ ho1 (hback _ _ _ _ hj ho1 hv)).ren hle).1
 ·intro i j o o' v v' b ho ho' hl1 hl2 hv hv' hb hb';obtain ⟨q,p,hq,hp,hle⟩:=zem h2 ho;obtain ⟨q',p',hq',hp',hle'⟩:=zem h2 ho';have e1:=hback _ _ _ _ hq hp hv;have e2:=hback _ _ _ _ hq' hp' hv';have:=hW.inj _ _ _ _ _ _ _ hp hp' (((hW.holds _ _ _ hp e1).ren hle).2 hl1) (((hW.holds _ _ _ hp' e2).ren hle').2 hl2) e1 e2 hb hb';subst this;exact (List.getElem?_inj (zE hq) hn).1 (hq.trans hq'.symm)
 ·obtain ⟨d,hd,hent,hsc⟩:=renT_get h1 ht;exact Rep.ren _ _ hsc (hent _ _ _ (hR.tmps _ _ hd))
theorem StLe.ren (ρ:List Nat) (h1:renT ρ tm tm') (h2:renO ρ ow ρ ow') (hn:ρ.Nodup):StLe 0 ⟨tm,ow,[]⟩ ⟨tm',ow',[]⟩ :=
 zq ρ h1 h2 hn (fun i hi=>by omega) (fun i hi=>by simp at hi)
def stepEx (X:Code->Ys->Nat->Bool->St->(Exit->St->Prop)->Prop) (XO:Ys->List Oper->List Oper->List (Nat × D)->Gs->List Own->(List (Nat × D)->List Own->Prop)->Prop) (XP:List Oper->List Oper->Nat->List (Nat × D)->Gs->List Own->(List (Nat × D)->Gs->Prop)->Prop) (Γ:Ctx) (T:TT) (Gl:Nat->Option D) (N:Nat):Code->Ys->Nat->Bool->St->(Exit->St->Prop)->Prop
 | .skip,_,_,_,s,k=>k .normal s
 | .label _,_,_,_,s,k=>k .normal s
 | .region _ ops false,Y,m,R,⟨tm,ow,df⟩,k=>(match zab ops.toList with
  | none=>XO (Y.wp N df k) ops.toList ops.toList tm [] ow fun tm ow=>k .normal ⟨tm,ow,df⟩
  | some (l,y)=>XO (Y.wp N df k) ops.toList l tm [] ow fun tm ow=>exDf Γ m R y tm ow df fun s=>k .normal s)
 | .region _ ops true,Y,_,R,⟨tm,ow,df⟩,k=>(match zch ops.toList (zao (xr Γ) ops.toList) with
  | none=>zfp R ops.toList (zao (xr Γ) ops.toList)=true/\XP ops.toList ops.toList (zao (xr Γ) ops.toList) tm [] ow fun tm' gs'=>XO (Y.wpD (vD ops.toList (zao (xr Γ) ops.toList)) N df k) ops.toList (ops.toList.drop (zao (xr Γ) ops.toList)) tm' gs' ow fun tm ow=>k .normal ⟨tm,ow,df⟩
  | some (t,e)=>vD ops.toList (zao (xr Γ) ops.toList+1)=true/\XP ops.toList ops.toList (zao (xr Γ) ops.toList) tm [] ow fun tm' gs'=>exAl T N e t tm' gs' ow fun tm2 ow2=>XO (Y.wp N df k) ops.toList (ops.toList.drop (zao (xr Γ) ops.toList+1)) tm2 gs' ow2 fun tm ow=>k .normal ⟨tm,ow,df⟩)\/∃ sch:Sch,okSch ops.toList sch=true/\yf Γ (Y.wp N df k) T Gl N ops.toList sch [] tm ow fun tm ow=>k .normal ⟨tm,ow,df⟩
 | .seq a b,Y,m,R,s,k=>X a Y m R s fun e s'=>match e with | .normal=>X b Y m R s' k|e=>k e s'
 | .cond c a b,Y,m,R,⟨tm,ow,df⟩,k=>match xO Gl (fun _ _=>false) tm [] c with
  | some (.v (.bool t))=>(t=true->X a Y m R ⟨tm,ow,df⟩ k)/\(t=false->X b Y m R ⟨tm,ow,df⟩ k)
  | _=>False
 | .block id a,Y,m,R,s,k=>X a Y m R s fun e s'=>match e with | .exit i=>if i=id then k .normal s' else k (.exit i) s'|e=>k e s'
 | .scope a,Y,m,R,s,k=>X a Y m R s fun e s'=>match e with | .goto _=>False|e=>k e s'
 | .exit id,_,_,_,s,k=>k (.exit id) s
 | .ret,_,_,_,s,k=>k .ret s
 | .loop body,Y,m,R,s,k=>∃ q:Nat,match q with
  | q+1=>uH (fun s k=>X body Y m R s k) k q s
  | 0=>∃ (ι:Type) (S:ι->St) (H:ι->Prop) (μ:ι->Nat),(∀ i,m<=(S i).ow.length)/\(∃ i,H i/\StLe m s (S i)) /\
   ∀ i,H i->X body Y m R (S i) fun e s'=>match e with | .normal=>∃ j,H j/\μ j<μ i/\StLe m s' (S j)|e=>k e s'
 | .rangeFunc f ps as bd,Y,_,false,⟨tm,ow,df⟩,k =>
  match xO Gl (fun _ _=>false) tm [] f with
  | some (.fn g caps) =>
   match Γ g with
   | some (.gen tr) =>
    tr ⟨fun j=>if j=ow.length+1 then some (zk4 (fun m s k=>X as Y m true s k) (fun m s k=>X bd Y m true s k) N tm ps.toList (ow.length+1)) else Y.lp j,fun _ _ _=>False⟩
     (.yl (ow.length+1)::caps) (ow++[.defd,.lp .ready none]) fun _ ow' =>
      match ow'[ow.length+1]? with
      | some (.lp .busy _)=>False
      | some (.lp _ none)=>k .normal ⟨tm,zj ow' (ow.length+1) (.lp .exhausted none),.m ow.length::df⟩
      | some (.lp _ (some .ret))=>k .ret ⟨tm,zj ow' (ow.length+1) (.lp .exhausted (some .ret)),.m ow.length::df⟩
      | some (.lp _ (some (.exit id)))=>k (.exit id) ⟨tm,zj ow' (ow.length+1) (.lp .exhausted (some (.exit id))),.m ow.length::df⟩
      | _=>False
   | _=>False
  | _=>False
 | _,_,_,_,_,_=>False
theorem ex_of {T:TT}{s:St}{k:Exit->St->Prop}(h:stepEx (ex cc Γ T Gl N) (fun Y=>yV cc Γ Y T Gl N) (xu cc Γ T Gl N) Γ T Gl N c Y m R s k):ex cc Γ T Gl N c Y m R s k:=by
 unfold ex;exact h
def stepO (X:List Oper->List (Nat × D)->Gs->List Own->(List (Nat × D)->List Own->Prop)->Prop) (cc:Bool) (Γ:Ctx) (Y:Ys) (T:TT) (Gl:Nat->Option D) (N:Nat) (all:List Oper):List Oper->List (Nat × D)->Gs->List Own->(List (Nat × D)->List Own->Prop)->Prop
 | [],tm,_,ow,k=>k tm ow
 | ⟨dst,op,_,_,_,none⟩::r,tm,gs,ow,k=>zkf cc Γ Y T Gl N op dst tm gs ow fun tm' ow'=>X r tm' gs ow' k
 | ⟨dst,op,_,_,_,some (j,b)⟩::r,tm,gs,ow,k =>
  match all[j]? with
  | some ⟨some s,_,_,_,_,_⟩ =>
   (match cc with
   | true=>(match lkG gs s,lk tm s with
    | none,some (.v (.bool x)) =>
     (x=b->zkf true Γ Y T Gl N op dst tm gs ow fun tm' ow'=>X r tm' gs ow' k) /\
     (x = !b->zen N dst gs (.v undef) tm fun tm'=>X r tm' gs ow k)
    | none,some (.v (.tuple _))=>zen N dst gs (.v undef) tm fun tm'=>X r tm' gs ow k
    | _,_=>False)
   | false=>exOpG Γ T Gl N op dst s b tm gs ow fun tm' gs'=>X r tm' gs' ow k)
  | _=>False
def stepP (X:List Oper->Nat->List (Nat × D)->Gs->List Own->(List (Nat × D)->Gs->Prop)->Prop) (cc:Bool) (Γ:Ctx) (T:TT) (Gl:Nat->Option D) (N:Nat) (all:List Oper):List Oper->Nat->List (Nat × D)->Gs->List Own->(List (Nat × D)->Gs->Prop)->Prop
 | _,0,tm,gs,_,k=>k tm gs
 | [],_+1,tm,gs,_,k=>k tm gs
 | ⟨some t,op,_,_,_,none⟩::r,p+1,tm,gs,ow,k =>
  if t<N then exQ cc Γ T Gl op (fun _ _=>false) True tm gs ow fun d=>X r p (zaf tm t d) gs ow k else False
 | ⟨some t,op,_,_,_,some (j,b)⟩::r,p+1,tm,gs,ow,k =>
  match all[j]? with
  | some ⟨some s,_,_,_,_,_⟩ =>
   match lkG gs s,lk tm s with
   | none,some (.v (.bool x)) =>
    if t<N then
     if t=s then False else
     (match cc with
     | true=>(x=b->exQ true Γ T Gl op (fun _ _=>false) True tm gs ow fun d=>X r p (zaf tm t d) gs ow k)/\(x = !b->X r p (zaf tm t (.v undef)) gs ow k)
     | false=>exQ false Γ T Gl op (fun s' b'=>s'==s&&b'==b) (x=b) tm gs ow fun d=>X r p (zaf tm t .junk) ((t,s,b,d)::gs) ow k)
    else False
   | none,some (.v (.tuple _))=>if t<N then (if t=s then False else (match cc with|true=>X r p (zaf tm t (.v undef)) gs ow k|false=>False)) else False
   | _,_=>False
  | _=>False
 | _::_,_+1,_,_,_,_=>False
theorem exOps_of {T:TT}{tm:List (Nat × D)}{ow:List Own}(h:stepO (yV cc Γ Y T Gl N all) cc Γ Y T Gl N all l tm gs ow k):yV cc Γ Y T Gl N all l tm gs ow k:=by
 unfold yV;exact h
theorem exPre_of {T:TT}{p:Nat}{tm:List (Nat × D)}{ow:List Own}{k:List (Nat × D)->Gs->Prop}(h:stepP (xu cc Γ T Gl N all) cc Γ T Gl N all l p tm gs ow k):xu cc Γ T Gl N all l p tm gs ow k:=by
 unfold xu;exact h
structure Wk (cc:Bool) (Γ:Ctx) (T:TT) (Gl:Nat->Option D) (N:Nat) (c:Code) (Y:Ys) (m:Nat) (R:Bool) (s:St) (k:Exit->St->Prop):Prop where
 ex:ex cc Γ T Gl N c Y m R s k
structure WkO (cc:Bool) (Γ:Ctx) (T:TT) (Gl:Nat->Option D) (N:Nat) (Y:Ys) (all l:List Oper) (tm:List (Nat × D)) (gs:Gs) (ow:List Own) (k:List (Nat × D)->List Own->Prop):Prop where
 ex:yV cc Γ Y T Gl N all l tm gs ow k
structure WkP (cc:Bool) (Γ:Ctx) (T:TT) (Gl:Nat->Option D) (N:Nat) (all l:List Oper) (p:Nat) (tm:List (Nat × D)) (gs:Gs) (ow:List Own) (k:List (Nat × D)->Gs->Prop):Prop where
 ex:xu cc Γ T Gl N all l p tm gs ow k
theorem Wk_eq {T:TT}:Wk cc Γ T Gl N=Sx.ex cc Γ T Gl N:=by
 funext c Y m R s k;exact propext ⟨fun h=>h.1,fun h=>⟨h⟩⟩
theorem WkO_eq {T:TT}:WkO cc Γ T Gl N=fun Y=>yV cc Γ Y T Gl N:=by
 funext Y all l tm gs ow k;exact propext ⟨fun h=>h.1,fun h=>⟨h⟩⟩
theorem WkO_eq1 {T:TT}{all:List Oper}:WkO cc Γ T Gl N Y all=yV cc Γ Y T Gl N all:=by
 funext l tm gs ow k;exact propext ⟨fun h=>h.1,fun h=>⟨h⟩⟩
theorem WkP_eq {T:TT}:WkP cc Γ T Gl N=xu cc Γ T Gl N:=by
 funext all l p tm gs ow k;exact propext ⟨fun h=>h.1,fun h=>⟨h⟩⟩
theorem Wk.of {T:TT}{s:St}{k:Exit->St->Prop}(h:stepEx (Wk cc Γ T Gl N) (WkO cc Γ T Gl N) (WkP cc Γ T Gl N) Γ T Gl N c Y m R s k):Wk cc Γ T Gl N c Y m R s k:=by
 rw[WkO_eq,WkP_eq] at h;rw[Wk_eq] at h ⊢;exact ex_of h
theorem WkO.of {T:TT}{tm:List (Nat × D)}{ow:List Own}(h:stepO (WkO cc Γ T Gl N Y all) cc Γ Y T Gl N all l tm gs ow k):WkO cc Γ T Gl N Y all l tm gs ow k:=by
 rw[WkO_eq1] at h ⊢;exact exOps_of h
theorem WkP.of {T:TT}{p:Nat}{tm:List (Nat × D)}{ow:List Own}{k:List (Nat × D)->Gs->Prop}(h:stepP (WkP cc Γ T Gl N all) cc Γ T Gl N all l p tm gs ow k):WkP cc Γ T Gl N all l p tm gs ow k:=by
 rw[WkP_eq] at h ⊢;exact exPre_of h
section
variable {P:Program}{T:TT}
theorem sound_by (hΓ:CtxOk P Gl Γ) (hT:TOk P T) (hmix:P.follows .mixedOrders=true) {ct:Ct}(hf:P.funcs[f]?=some fn) (hb:fn.body=some c) (hname:(fn.name == "runtime.NumGoroutine")=false) (hpd:∀ x,pdL (ct.inp x)=true)
  (hlen:∀ x,ct.pre x->(ct.inp x).length<=fn.ntmps)
  (h:∀ x,ct.pre x->Wk cc Γ T Gl fn.ntmps c Ys.none 0 false ⟨vT 0 (ct.inp x),[],[]⟩ fun e s=>match e with | .ret=>fin T fn.results.toList s fun d _=>EntR d (ct.out x) | .normal=>fin T fn.results.toList s fun d _=>EntR d (ct.out x)|_=>False):Sound P Gl f ct :=
 sound_of hΓ hT hmix hf hb hname hpd hlen fun x hx=>(h x hx).1
def zds (cc:Bool) (Γ:Ctx) (T:TT) (Gl:Nat->Option D) (fn:Func) (c:Code):Tr:=fun Y ds ow k =>
 ds.length<=fn.ntmps/\Wk cc Γ T Gl fn.ntmps c Y ow.length false ⟨vT 0 ds,ow,[]⟩ fun e s=>match e with | .ret=>fin0 T fn.results.toList s k | .normal=>fin0 T fn.results.toList s k|_=>False
theorem soundT_inlW (hΓ:CtxOk P Gl Γ) (hT:TOk P T) (hmix:P.follows .mixedOrders=true) (hf:P.funcs[f]?=some fn) (hb:fn.body=some c) (hname:(fn.name == "runtime.NumGoroutine")=false):SoundT P Gl f (zds cc Γ T Gl fn c):=by
 obtain ⟨h1,h2⟩:=zhd (cc:=cc) hΓ hT hmix hf hb hname;exact ⟨h1,fun Y ds ow k h=>h2 Y ds ow k ⟨h.1,h.2.1⟩⟩
end
theorem wk1 {T:TT}{tm:List (Nat × D)}{ow:List Own}(h:stepO (WkO cc Γ T Gl N Y all) cc Γ Y T Gl N all l tm gs ow k):WkO cc Γ T Gl N Y all l tm gs ow k:=WkO.of h
theorem wk2 {T:TT}{s:St}{k:Exit->St->Prop}(h:stepEx (Wk cc Γ T Gl N) (WkO cc Γ T Gl N) (WkP cc Γ T Gl N) Γ T Gl N c Y m R s k):Wk cc Γ T Gl N c Y m R s k:=Wk.of h
theorem wk3 {T:TT}{p:Nat}{tm:List (Nat × D)}{ow:List Own}{k:List (Nat × D)->Gs->Prop}(h:stepP (WkP cc Γ T Gl N all) cc Γ T Gl N all l p tm gs ow k):WkP cc Γ T Gl N all l p tm gs ow k:=WkP.of h
theorem wt1 (h:y):(true=false->x)/\(p->y):=⟨fun e=>Bool.noConfusion e,fun _=>h⟩
theorem wt2 (h:y):(false=true->x)/\(p->y):=⟨fun e=>Bool.noConfusion e,fun _=>h⟩
theorem wt3 (h:x):(p->x)/\(true=false->y):=⟨fun _=>h,fun e=>Bool.noConfusion e⟩
theorem wt4 (h:x):(p->x)/\(false=true->y):=⟨fun _=>h,fun e=>Bool.noConfusion e⟩
theorem wn1 {p q:Prop}(k:q) (h:p:=by first|omega|(simp only[zs,Int.toNat_natCast];omega)):p/\q:=⟨h,k⟩
theorem wn2 {c p q:Prop}(k:q) (h:c->p:=by intro _;first|omega|(simp only[zs,Int.toNat_natCast];omega)):(c->p)/\q:=⟨h,k⟩
theorem wn3 {a b:Nat}{q:Prop}(k:q) (h:a+1<=b:=by omega):a+1<=b/\q:=⟨h,k⟩
theorem wn4 {a b c:Nat}{q:Prop}(k:q) (h:(a+1)*c<=b:=by omega):(a+1)*c<=b/\q:=⟨h,k⟩
theorem wn5 {p q:Prop}(k:q) (h:p:=by kernel_rfl):p/\q:=⟨h,k⟩
theorem wo5 {p q r:Prop}(k:q) (h:p:=by kernel_rfl):(p/\q)\/r:=.inl ⟨h,k⟩
theorem gO {p q:Prop}(k:q) (h:q/\True->p:=by intro hq;(repeat (first|refine wk1 ?_|refine wk2 ?_|refine wk3 ?_));exact hq.1):p:=h ⟨k,trivial⟩
theorem gT {p q:Prop}(k:q) (h:q/\True->p:=by intro hq;(repeat (first|refine wk1 ?_|refine wk2 ?_|refine wk3 ?_|refine wt1 ?_|refine wt2 ?_|refine wt3 ?_|refine wt4 ?_));exact hq.1):p:=h ⟨k,trivial⟩
theorem gA {p q:Prop}(k:q) (h:q/\True->p:=by intro hq;(repeat (first|refine wk1 ?_|refine wk2 ?_|refine wk3 ?_|refine wt1 ?_|refine wt2 ?_|refine wt3 ?_|refine wt4 ?_|refine wn1 ?_|refine wn2 ?_|refine wn3 ?_|refine wn4 ?_|refine wn5 ?_|refine wo5 ?_));exact hq.1):p:=h ⟨k,trivial⟩
theorem tmS {p:Prop}(h:p:=by repeat' (first|exact trivial|exact Ent.refl _|exact rfl|exact Ent.int (by first|omega|(simp only[Int.toNat_natCast];omega))|refine And.intro ?_ ?_)):p:=h
theorem sb {P:Program}{T:TT}{ct:Ct}(hΓ:CtxOk P Gl Γ) (hf:P.funcs[f]?=some fn)
  (h:∀ x,ct.pre x->Wk cc Γ T Gl fn.ntmps c Ys.none 0 false ⟨vT 0 (ct.inp x),[],[]⟩ fun e s=>match e with | .ret=>fin T fn.results.toList s fun d _=>EntR d (ct.out x) | .normal=>fin T fn.results.toList s fun d _=>EntR d (ct.out x)|_=>False)
  (hT:TOk P T:=by exact Tryz.T_ok) (hmix:P.follows .mixedOrders=true:=by exact Tryz.mixed) (hb:fn.body=some c:=by exact rfl) (hname:(fn.name == "runtime.NumGoroutine")=false:=by kernel_rfl) (hpd:∀ x,pdL (ct.inp x)=true:=by exact fun _=>rfl)
  (hlen:∀ x,ct.pre x->(ct.inp x).length<=fn.ntmps:=by exact fun _ _=>Nat.le_of_ble_eq_true rfl):Sound P Gl f ct:=sound_by hΓ hT hmix hf hb hname hpd hlen h
theorem si {P:Program}{T:TT}(hΓ:CtxOk P Gl Γ) (hf:P.funcs[f]?=some fn)
  (hT:TOk P T:=by exact Tryz.T_ok) (hmix:P.follows .mixedOrders=true:=by exact Tryz.mixed) (hb:fn.body=some c:=by exact rfl) (hname:(fn.name == "runtime.NumGoroutine")=false:=by kernel_rfl):SoundT P Gl f (zds cc Γ T Gl fn c):=soundT_inlW hΓ hT hmix hf hb hname
theorem sr (ρ:List Nat) (h1:renT ρ tm tm':=by exact tmS) (h2:renO ρ ow ρ ow':=by repeat' (first|exact trivial|exact own_refl|exact ⟨rfl,EntL.refl _,rfl⟩|refine And.intro ?_ ?_)) (hn:ρ.Nodup:=by decide):StLe 0 ⟨tm,ow,[]⟩ ⟨tm',ow',[]⟩:=StLe.ren ρ h1 h2 hn
theorem eR {d:D}(h:pd d=true:=by exact rfl):EntR d d:=EntR.of h (Ent.refl _)
end Go.Sx
namespace Go.Sx
open Go Go.RowKit
variable {tm:List (Nat × D)}{l:List D}
theorem StLe.trans {m:Nat}{a b c:St}(h1:StLe m a b) (h2:StLe m b c):StLe m a c:=by
 refine ⟨h2.1.trans h1.1,?_⟩
 intro B w0 M0 dv N M E w act hW hR;obtain ⟨M1,E1,p1,p2,p3,p4,p5⟩:=h1.2 B w0 M0 dv N M E w act hW hR;obtain ⟨M2,E2,q1,q2,q3,q4,q5⟩:=h2.2 B w0 M0 dv N M1 E1 w act p4 p5;exact ⟨M2,E2,zp p1 q1,fun i v hi hv=>q2 i v hi (p2 i v hi hv),fun i hi b hb=>q3 i (h1.1 ▸ hi) b (p3 i hi b hb),q4,q5⟩
section
variable {B:Nat}{w0 w:World}{M0 M:Mem}{E:List Value}{ow:List Own}
theorem zln (w:World):w.grownBy w none:=⟨rfl,rfl,rfl,Nat.le_refl _,fun _ _ _=>rfl⟩
theorem WRel.nilRow (h:WRel B w0 M0 M E ow w) (e sz:Nat) (f:Nat->Nat->D):WRel B w0 M0 M (E++[.slice none 0 0]) (ow++[.row e sz 0 f]) w :=
 h.grown (zln w) (fun g hg=>by simp[zL] at hg) ⟨[],World.ownsRow_nil _ _ _ _,fun a ha=>by omega,fun g hg=>by simp[Value.ownBlock] at hg⟩
theorem WRel.swap (h:WRel B w0 M0 M E ow w) {i:Nat}{o o':Own}(ho:ow[i]?=some o) (hl:o'.live=true->o.live=true) (hH:∀ v,E[i]?=some v->Holds B M E w o v->Holds B M E w o' v):WRel B w0 M0 M E (zj ow i o') w:=by
 refine ⟨h.fits,h.base,h.below,by simp[zJ,h.len],fun j p v hp hv=>?_,fun j k p p' v v' b hp hp' hl1 hl2 hv hv' hb hb'=>?_,h.mle,h.new⟩
 ·rw[zt] at hp;split at hp
  ·rename_i hij;subst hij;split at hp<;>simp at hp;subst hp;exact hH v hv (h.holds _ _ _ ho hv)
  ·exact h.holds _ _ _ hp hv
 ·have back:∀ (j:Nat) (p:Own),(zj ow i o')[j]?=some p->p.live=true->∃ q,ow[j]?=some q/\q.live=true:=by
   intro j p hp hlv;rw[zt] at hp;split at hp
   ·rename_i hij;subst hij;split at hp<;>simp at hp;subst hp;exact ⟨o,ho,hl hlv⟩
   ·exact ⟨p,hp,hlv⟩
  obtain ⟨q,q1,q2⟩:=back _ _ hp hl1;obtain ⟨r,r1,r2⟩:=back _ _ hp' hl2;exact h.inj _ _ _ _ _ _ _ q1 r1 q2 r2 hv hv' hb hb'
end
theorem StLe.nilRow {m t:Nat}{ow:List Own}{df:List DE}(e sz:Nat) (f:Nat->Nat->D) (h:lk tm t=some (.v (.slice none 0 0))):StLe m ⟨tm,ow,df⟩ ⟨zaf tm t (.row ow.length),ow++[.row e sz 0 f],df⟩:=by
 refine ⟨rfl,?_⟩
 intro B w0 M0 dv N M E w a hW hR;refine ⟨M,E++[.slice none 0 0],za _,fun i v _ hv=>zu _ _ _ _ hv,fun i _ b hb=>zu _ _ _ _ hb,hW.nilRow e sz f,⟨hR.size,hR.defers,fun s d hs=>?_,fun _ _ _ _ hh=>by simp[lkG] at hh⟩⟩
 rw[za1] at hs;split at hs
 ·rename_i hst;simp only[Option.some.injEq] at hs;subst hs hst;have h1:=hR.tmps _ _ h;simp only[Rep] at h1;simp only[Rep];rw[h1,<- hW.len,List.getElem?_append_right (Nat.le_refl _)];simp
 ·exact Rep.mono (za _) (zu _ _) _ _ (hR.tmps _ _ hs)
theorem RepL.setOne {M:Mem}{E:List Value}{d':D}:∀ {l:List D}{us:List Value}{j:Nat},RepL M E l us->(∀ u,us[j]?=some u->Rep M E d' u)->RepL M E (l.set j d') us
 | [],us,j,h,_=>by simpa using h
 | d::l,us,0,h,hd=>by
  simp only[RepL] at h;obtain ⟨u,r,rfl,h1,h2⟩:=h;exact RepL.cons (hd u (by simp)) h2
 | d::l,us,j+1,h,hd=>by
  simp only[RepL] at h;obtain ⟨u,r,rfl,h1,h2⟩:=h;exact RepL.cons h1 (RepL.setOne h2 fun u hu=>hd u (by simpa using hu))
theorem StLe.nilCell {m i j t:Nat}{ow:List Own}{df:List DE}(e sz:Nat) (f:Nat->Nat->D) (h:ow[i]?=some (.cells t l)) (hj:l[j]?=some (.v (.slice none 0 0))):StLe m ⟨tm,ow,df⟩ ⟨tm,zj (ow++[.row e sz 0 f]) i (.cells t (l.set j (.row ow.length))),df⟩:=by
 refine ⟨rfl,?_⟩
 intro B w0 M0 dv N M E w a hW hR;have hi:(ow++[Own.row e sz 0 f])[i]?=some (.cells t l):=by rw[List.getElem?_append_left (zE h)];exact h
 refine ⟨M,E++[.slice none 0 0],za _,fun i v _ hv=>zu _ _ _ _ hv,fun i _ b hb=>zu _ _ _ _ hb,(hW.nilRow e sz f).swap hi (fun _=>rfl) fun v _ hH=>?_,hR.mono (za _) (zu _ _)⟩
 simp only[Holds] at hH ⊢;obtain ⟨b,cs,q1,q2,q3,q4,q5⟩:=hH;refine ⟨b,cs,q1,q2,RepL.setOne q3 fun u hu=>?_,q4,q5⟩
 obtain ⟨u',hu',hr⟩:=RepL.get q3 hj;rw[hu] at hu';simp only[Option.some.injEq] at hu';subst hu';simp only[Rep] at hr ⊢;rw[hr,<- hW.len,List.getElem?_append_right (Nat.le_refl _)];simp
theorem eL:EntL l l:=EntL.refl l
theorem eE{d:D}:Ent d d:=Ent.refl d
theorem eZ{α β:Type}{a:α}{b:β}:a=a/\EntL l l/\b=b:=⟨rfl,EntL.refl _,rfl⟩
end Go.Sx
