import Derived.Test.YtnimkdbpoeondaaGreatDoorBz
import Derived.Test.YtnimkdbpoeondaaGreatDoorRows
import Derived.Test.YtnimkdbpoeondaaGreatDoorTie
import Derived.Test.YtnimkdbpoeondaaGreatDoorCards
import Derived.ProofKit
import Derived.LaidMore
import Derived.Lay
import Derived.OpenShut
import Derived.Stop.Joined
import Derived.Lib.SmallJoins
import Derived.Deep.Slices
import Derived.Deep.Strs
import Derived.Carry
import Derived.SevenTiedAt
import Derived.HandedShaped
import Derived.Shelf.Vars
set_option linter.all false
namespace Go.Proofs.YtnimkdbpoeondaaGreatDoor
open Go Go.Sx Go.ChangeShapes Go.WideShapes Go.ChangeAt Go.RowKit
variable {t:TypeId}{fs:Array Field}{cs:List Value}{sp:Nat->Bool}{H:Type}{v:Value}{hd:Bool}{sz:Nat}
def zcw (W:World):Mem:=fun b=>match W.heap[b]? with|some (.cells c t f)=>some (.cells c t f)|_=>none
theorem memOf_fits (W:World):(zcw W).fits W:=by
 intro b o h;unfold zcw at h;split at h
 ·rename_i c t f hb;simp at h;subst h;exact hb
 ·simp at h
theorem vE {W:World}{a:Addr}(h:W.cell? a=some v):(zcw W).cell a=some v:=by
 unfold World.cell? at h;unfold Mem.cell zcw;split at h
 ·rename_i c e f hb;simp only[hb];exact h
 ·simp at h
theorem one_of {i:Nat}(h:(cs.drop i).take 1=[v]):cs[i]?=some v:=by
 have:((cs.drop i).take 1)[0]?=some v:=by rw[h];rfl
 simpa[List.getElem?_take,List.getElem?_drop] using this
theorem own:ownKnob Tryz.prog.godebug=none:=by kernel_rfl
theorem laidOut:laidOutB Tryz.prog=true:=by kernel_rfl
def Opens (W:World) (t:TypeId) (sz:Nat) {α:Type}(f:α->Nat->D) (ok:α->Prop):Prop :=
 ∀ (H:Type) (enc:TypeId × Value->H) (base:Nat) (sp:Nat->Bool) (hd:Bool) (n:Nat) (cs:List Value) (x:DataW H × List MemPlace),
  DataW.trod enc Tryz.prog W base sp hd n t cs=some x->cs.length=sz/\∃ c:α,ok c/\∀ j,j<sz->∃ v,cs[j]?=some v/\v.oneCell'=true/\Rep (zcw W) [] (f c j) v
def maxI:Nat:=9223372036854775807
section
variable {W:World}
theorem xI (ht:Tryz.prog.underlying t=some (.int .i64)):Opens W t 1 znt (fun _=>True):=by
 intro H enc base sp hd n cs x h;obtain ⟨k,rfl,_,_⟩:=DataW.trod_int ht h;refine ⟨rfl,k,trivial,fun j hj=>?_⟩
 have:j=0:=by omega
 subst this;exact ⟨_,rfl,rfl,rfl⟩
theorem opens_str (ht:Tryz.prog.underlying t=some .string):Opens W t 1 (fun (s:ByteArray) _=>.v (.string s)) (fun s=>s.size<=maxI):=by
 intro H enc base sp hd n cs x h;obtain ⟨s,rfl,_,hs⟩:=DataW.trod_string ht h;refine ⟨rfl,s,by simpa[maxLen,maxI] using hs,fun j hj=>?_⟩
 have:j=0:=by omega
 subst this;exact ⟨_,rfl,rfl,rfl⟩
theorem Opens.ren {α:Type}{f g:α->Nat->D}{ok ok':α->Prop}(h:Opens W t sz f ok) (hfg:∀ c j,j<sz->f c j=g c j) (ho:∀ c,ok c->ok' c):Opens W t sz g ok':=by
 intro H enc base sp hd n cs x hx;obtain ⟨hl,c,hc,hj⟩:=h H enc base sp hd n cs x hx;refine ⟨hl,c,ho c hc,fun j hjs=>?_⟩
 rw[<- hfg c j hjs];exact hj j hjs
theorem uV {t e:TypeId}{α:Type} [Inhabited α] {f:α->Nat->D}{ok:α->Prop}(ht:Tryz.prog.underlying t=some (.slice e)) (hc:Tryz.prog.cellsOf e=sz) (hO:Opens W e sz f ok):Opens W t 1 (fun (l:List α) _=>slD sz f l) (fun l=>l.length<=maxI/\∀ c∈l,ok c):=by
 intro H enc base sp hd n cs x h;rcases Go.Deep.open_slice ht h with ⟨rfl,_⟩|⟨a,len,cap,m,n',Dd,Pl,rfl,_,hl,hm,hmm,_,hel⟩
 ·refine ⟨rfl,[],⟨Nat.zero_le _,fun c hc=>by simp at hc⟩,fun j hj=>?_⟩
  have:j=0:=by omega
  subst this;refine ⟨_,rfl,rfl,?_⟩
  simp only[slD,Rep];exact ⟨none,0,rfl,Nat.le_refl _,fun h=>by simp at h⟩
 ·have hlm:len<=m:=by rw[hmm];split<;>omega
  have key:∀ i,i<len->∃ c:α,ok c/\∀ j,j<sz->∃ v,W.cell? (a.add (i*sz+j))=some v/\v.oneCell'=true/\Rep (zcw W) [] (f c j) v:=by
   intro i hi;obtain ⟨cs',h1,h2⟩:=hel i (by omega)
   rw[hc] at h1;obtain ⟨_,c,hok,hcj⟩:=hO _ _ _ _ _ _ _ _ h2;obtain ⟨_,hlen,hcell⟩:=World.cells?_some h1;refine ⟨c,hok,fun j hj=>?_⟩
   obtain ⟨v,q1,q2,q3⟩:=hcj j hj;refine ⟨v,?_,q2,q3⟩
   rw[<- Go.Deep.add_add,hcell j hj,q1]
  have key':∀ i,∃ c:α,i<len->ok c/\∀ j,j<sz->∃ v,W.cell? (a.add (i*sz+j))=some v/\v.oneCell'=true/\Rep (zcw W) [] (f c j) v:=by
   intro i;by_cases hi:i<len
   ·obtain ⟨c,hc'⟩:=key i hi;exact ⟨c,fun _=>hc'⟩
   ·exact ⟨default,fun h=>absurd h hi⟩
  let F:Nat->α:=fun i=>Classical.choose (key' i)
  have hF:∀ i,i<len->ok (F i)/\∀ j,j<sz->∃ v,W.cell? (a.add (i*sz+j))=some v/\v.oneCell'=true/\Rep (zcw W) [] (f (F i) j) v:=fun i=>Classical.choose_spec (key' i)
  refine ⟨rfl,(List.range len).map F,⟨by simp;simp[maxLen] at hm;unfold maxI;omega,fun c hc=>?_⟩,fun j hj=>?_⟩
  ·obtain ⟨i,hi,rfl⟩:=List.mem_map.1 hc;exact (hF i (List.mem_range.1 hi)).1
  have:j=0:=by omega
  subst this;refine ⟨_,rfl,rfl,?_⟩
  simp only[slD,Rep];refine ⟨some a,cap,by simp,by simpa using hl,fun _=>⟨a,rfl,fun i hi j hj=>?_⟩⟩
  simp only[List.length_map,List.length_range] at hi;obtain ⟨v,q1,q2,q3⟩:=(hF i hi).2 j hj;refine ⟨v,vE q1,q2,?_⟩
  have:((List.range len).map F).getD i default=F i:=by simp[List.getD_eq_getElem?_getD,hi]
  rw[this];exact q3
theorem zy {enc:TypeId × Value->H}{base:Nat}{n:Nat}{x:DataW H × List MemPlace}(ht:Tryz.prog.underlying t=some (.struct fs)) (h:DataW.trod enc Tryz.prog W base sp hd n t cs=some x)
  {i:Nat}{fl:Field}(hf:fs[i]?=some fl) {off sz:Nat}{α:Type}{f:α->Nat->D}{ok:α->Prop}(ho:fl.offset=off) (hc:Tryz.prog.cellsOf fl.type=sz) (hO:Opens W fl.type sz f ok):∃ c:α,ok c/\∀ j,j<sz->∃ v,cs[off+j]?=some v/\v.oneCell'=true/\Rep (zcw W) [] (f c j) v:=by
 obtain ⟨xs,n',_,rfl,hl,hlen,hfd⟩:=DataW.trod_struct ht h;have h1:=hfd i fl hf;have hi:i<xs.length:=by
  rw[hlen];rcases Nat.lt_or_ge i fs.size with h|h
  ·exact h
  ·rw[Array.getElem?_eq_none h] at hf;simp at hf
 rw[List.getElem?_eq_getElem hi,hc,ho] at h1;obtain ⟨hl2,c,hok,hcj⟩:=hO _ _ _ _ _ _ _ _ h1;refine ⟨c,hok,fun j hj=>?_⟩
 obtain ⟨v,q1,q2,q3⟩:=hcj j hj;refine ⟨v,?_,q2,q3⟩
 simp only[List.getElem?_take,List.getElem?_drop,hj,if_true] at q1;exact q1
theorem ug {enc:TypeId × Value->H}{base:Nat}{n:Nat}{x:DataW H × List MemPlace}(ht:Tryz.prog.underlying t=some (.struct fs)) (h:DataW.trod enc Tryz.prog W base sp hd n t cs=some x) (hc:Tryz.prog.cellsOf t=sz):cs.length=sz:=by
 obtain ⟨xs,n',_,rfl,hl,hlen,hfd⟩:=DataW.trod_struct ht h;rw[<- hc];exact hl
theorem repL_of {M:Mem}{E:List Value}:∀ {l:List D}{us:List Value},us.length=l.length->(∀ j,j<l.length->∃ v,us[j]?=some v/\Rep M E (l.getD j .junk) v)->RepL M E l us
 | [],[],_,_=>RepL.nil
 | [],_::_,h,_=>by simp at h
 | _::_,[],h,_=>by simp at h
 | d::l,u::us,h,hj=>by
  obtain ⟨v,h1,h2⟩:=hj 0 (by simp)
  simp at h1;subst h1;refine RepL.cons h2 (repL_of (by simpa using h) fun j hl=>?_)
  obtain ⟨v,h1,h2⟩:=hj (j+1) (by simpa using hl)
  exact ⟨v,by simpa using h1,by simpa using h2⟩
set_option maxRecDepth 100000 in
theorem open_agg {enc:TypeId × Value->H}{base b0:Nat}{r:Reach}{d:DataW H}{p:List MemPlace}(ht:Tryz.prog.underlying t=some (.struct fs)) (hok:Value.okWide Tryz.prog W r b0 t v) (h:DataW.Trod enc Tryz.prog W base sp hd t v d p)
  {sz:Nat}{α:Type}{f:α->Nat->D}{ok:α->Prop}(hO:Opens W t sz f ok):∃ c:α,ok c/\Rep (zcw W) [] (.ag ((List.range sz).map (f c))) v:=by
 obtain ⟨us,rfl,_⟩:=okWide_struct ht hok;obtain ⟨fuel,hf⟩:=h;simp only[Value.cells] at hf;obtain ⟨hl,c,hc,hj⟩:=hO _ _ _ _ _ _ _ _ hf;refine ⟨c,hc,?_⟩
 simp only[Rep];refine ⟨us,rfl,repL_of (by simpa using hl) fun j hjl=>?_⟩
 simp at hjl;obtain ⟨v,q1,q2,q3⟩:=hj j hjl;refine ⟨v,q1,?_⟩
 have:((List.range sz).map (f c)).getD j .junk=f c j:=by simp[List.getD_eq_getElem?_getD,hjl]
 rw[this];exact q3
end
theorem ret_shaped {enc:TypeId × Value->H}{a:Assume}{C:Checked}{os:Os}{f:FuncId}{fn:Func}{s:ChangeSpec}{conds:List PathCond}{apart fresh handsOn again:Bool}{X:World->Array Value->Prop}
  (hX:∀ (w w':World) (args:Array Value),w.heap=w'.heap->X w args->X w' args)
  (own:ownKnob C.prog.godebug=none) (started:os.Started) (noInit:C.prog.inits.idxOf? f=none) (hfn:C.prog.funcs[f]?=some fn)
  (witness:∃ (w:World) (tape:Tape) (i:Input),w.os=os/\(w.forCall tape i).Shaped C.prog/\i.vars=[]/\Input.okWide C.prog (w.forCall tape i) .any w.heap.size f i /\
   ((s.pre enc C.prog fn conds apart (w.forCall tape i).memory i.args/\X (w.forCall tape i).memory i.args)/\sizedMet enc C.prog fn (OpenSpec.ofChange s) apart (w.forCall tape i).memory i.args)/\a.holds C.prog (lone (Frame.enter C.prog f i.args .normal) [] (w.forCall tape i)))
  (contract:∀ (W:World) (base:Nat) (args:Array Value) (ds gs:List (DataW H)) (before:List MemPlace),
   (∀ (j:Nat) t v,fn.params[j]?=some t->args[j]?=some v->Value.okWide C.prog W .any base t v) ->
   DataW.Whole enc C.prog fn.params.toList s.vars apart W args.toList ds gs before->X W args->W.ShapedOpen C.prog ->
   Calls C.prog f args W fun e W'=>∃ v,e=.returned v/\s.post enc C.prog fn apart fresh handsOn again W args v W'):
  ReturnsInHanded a C os f .any (fun w args=>(s.pre enc C.prog fn conds apart w args/\X w args)/\sizedMet enc C.prog fn (OpenSpec.ofChange s) apart w args) (s.post enc C.prog fn apart fresh handsOn again):=by
 refine returnsInHanded_of_calls own started noInit witness ?_;intro w tape i _ hsh _ hok hpre _;obtain ⟨_,_,_,fn',hfn',_,_,_,_,hval⟩:=hok;have e:fn'=fn:=Option.some.inj (hfn'.symm.trans hfn)
 subst e;obtain ⟨⟨⟨ds,gs,before,hw,_⟩,hx⟩,_⟩:=hpre;have hw':=DataW.Whole.of_heap (w':=w.forCall tape i) (by rfl) hw;refine (contract (w.forCall tape i) w.heap.size i.args ds gs before hval hw' (hX _ _ _ (by rfl) hx) hsh).mono fun e W' ⟨v,he,hp⟩=>?_;subst he;exact ChangeSpec.post_blind hp
end Go.Proofs.YtnimkdbpoeondaaGreatDoor
namespace Go.Proofs.YtnimkdbpoeondaaGreatDoor
open Go Go.Sx Go.ChangeShapes Go.WideShapes Go.ChangeAt Go.RowKit
theorem jfOut:laidOutB Tryz.prog=true:=by kernel_rfl
theorem jfMaps:mapsRowed Tryz.prog=true:=by kernel_rfl
theorem jfHeard:Program.stopsHeard Tryz.prog=true:=by kernel_rfl
theorem jfEnter:Program.mayEnter Tryz.prog=true:=by kernel_rfl
theorem jfLift:(Rows.transruleParsesRow.lifted==Tryz.prog.liftsFinal)=true:=by kernel_rfl
theorem jfMake:(Tryz.prog.make==some Rows.transruleParsesRow.make)=true:=by kernel_rfl
theorem zcg {a b:Bool}(h:a=true) (h':b=true):(a&&b)=true:=by rw[h,h'];rfl
end Go.Proofs.YtnimkdbpoeondaaGreatDoor
