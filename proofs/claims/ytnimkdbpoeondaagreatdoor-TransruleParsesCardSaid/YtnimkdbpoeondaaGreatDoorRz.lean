import Derived.Test.YtnimkdbpoeondaaGreatDoorXz
import Derived.Test.YtnimkdbpoeondaaGreatDoorGrz
import Derived.Lib.Bytealg
set_option linter.all false
namespace Go.Proofs
open Go Go.Sx
variable {Gl:Nat->Option D}
variable {mx:Int}{pb:Bool}
def cntB (s:ByteArray) (c:Int):Int:=((Lib.countByte s.data.toList c.toNat.toUInt8:Nat):Int)
def cntG:List D->Option D
 | [.v (.string s),.v (.int .u8 c)]=>some (.v (.int .i64 (cntB s c)))
 | _=>none
def extT (f:Nat) (ds:List D):Option D:=if f=82 then sameG ds else if f=124 then idxG ds else if f=95 then cntG ds else none
theorem cntS_ok:zh9 Tryz.prog (GlT mx pb) 95 cntG:=by
 intro ds d hg M E us w _ _ hr;unfold cntG at hg;split at hg<;>simp at hg;rename_i s c;subst hg;have:=two_args hr;subst this;refine ⟨_,?_,zk _⟩
 have hf:Tryz.prog.funcs[95]?=some Tryz.f95:=by kernel_rfl
 have h1:(Tryz.f95.name == "runtime.NumGoroutine")=false:=by kernel_rfl
 have h2:Tryz.f95.body.isNone=true:=by kernel_rfl
 have h3:Extern.findNext Tryz.f95=none:=by kernel_rfl
 have h4:Extern.find Tryz.f95=some Extern.BytealgCount.count:=by kernel_rfl
 have h5:(Extern.BytealgCount.count #[.string s,.int .u8 c]).run Tryz.prog w=.ok (.int .i64 (cntB s c)) w:=Lib.run_countString s c w;have h6:∀ m,Sem.run Tryz.prog (Sem.mark m (Sem.pure ())) w=.ok () w:=fun _=>rfl;simp only[callFunc,Sem.run_bind,run_program,Result.andThen_ok,hf,h1,h2,h3,h4];simp[h5,h6,mark]
theorem zm5 {P:Program}{f:FuncId}{ct ct':Ct}(h:Sound P Gl f ct) (φ:ct'.ι->ct.ι) (hpd:∀ x,pdL (ct'.inp x)=true) (hi:∀ x,ct'.pre x->EntL (ct'.inp x) (ct.inp (φ x))) (hp:∀ x,ct'.pre x->ct.pre (φ x)) (ho:∀ x,ct'.pre x->ct.out (φ x)=ct'.out x):Sound P Gl f ct':=by
 refine ⟨h.1,hpd,fun x hx M w us hf hg hr n=>?_⟩
 have:=h.2.2 (φ x) (hp x hx) M w us hf hg (hi x hx _ _ _ hr) n;rw[ho x hx] at this;exact this
def dots:ByteArray:=⟨#[46,46]⟩
def eqB0 (s x:ByteArray):Bool := @decide (s=x) (zed s x)
theorem vQ {P:Program}{f:FuncId}{ct ct':Ct}(h:Sound P Gl f ct) (φ:ct'.ι->ct.ι) (hpd:∀ x,pdL (ct'.inp x)=true) (hi:∀ x,ct'.pre x->EntL (ct'.inp x) (ct.inp (φ x))) (hp:∀ x,ct'.pre x->ct.pre (φ x)) (ho:∀ x,ct'.pre x->ct.out (φ x)=ct'.out x):Sound P Gl f ct':=zm5 h φ hpd hi hp ho
def cutG:List D->Option D
 | [.v (.string s),.v (.string t)]=>if eqB0 t dots&&decide (s.size<=64) then some (.tu [.v (.string (vx s t)),.v (.string (cutZ s t)),.v (.bool (cutF s t))]) else none
 | _=>none
def sumT (f:Nat) (ds:List D):Option D:=if f=17 then cutG ds
 else if f=56 then upG ds
 else if f=75 then catG ds
 else if f=156 then opG 1 ds
 else if f=155 then opG 2 ds
 else if f=158 then opG 3 ds
 else if f=157 then notG ds
 else none
theorem sums_ok:∀ f ds d,sumT f ds=some d->SS mx pb f ⟨Unit,fun _=>ds,fun _=>d,fun _=>True⟩:=by
 intro f ds d h;unfold sumT at h;split at h
 ·rename_i hf;subst hf;unfold cutG at h;split at h<;>try (simp at h;done)
  rename_i s t;split at h<;>try (simp at h;done)
  rename_i hc;simp only[Bool.and_eq_true,decide_eq_true_eq] at hc;simp only[Option.some.injEq] at h;subst h;exact zhc cutS_ok (fun _=>(s,t)) (fun _=>rfl) (fun _ _=>by show s.size<_;omega) (fun _ _=>rfl)
 split at h
 ·rename_i hf;subst hf;exact upG_ok h
 split at h
 ·rename_i hf;subst hf;exact catG_ok h
 split at h
 ·rename_i hf;subst hf;unfold opG at h;split at h<;>try (simp at h;done)
  split at h<;>try (simp at h;done)
  rename_i a b ha hb;split at h<;>try (simp at h;done)
  rename_i hc;simp only[Bool.and_eq_true,decide_eq_true_eq] at hc;simp only[Option.some.injEq] at h;subst h;exact vQ orP_ok (fun _=>(a,b)) (opG_pd ha hb) (fun _ _=>EntL.cons (uP ha) (EntL.cons (uP hb) (EntL.refl []))) (fun _ _=>⟨(zby hc.1).1,(zby hc.1).2,zby hc.2⟩) (fun _ _=>rfl)
 split at h
 ·rename_i hf;subst hf;unfold opG at h;split at h<;>try (simp at h;done)
  split at h<;>try (simp at h;done)
  rename_i a b ha hb;split at h<;>try (simp at h;done)
  rename_i hc;simp only[Bool.and_eq_true,decide_eq_true_eq] at hc;simp only[Option.some.injEq] at h;subst h;exact vQ andP_ok (fun _=>(a,b)) (opG_pd ha hb) (fun _ _=>EntL.cons (uP ha) (EntL.cons (uP hb) (EntL.refl []))) (fun _ _=>⟨(zby hc.1).1,(zby hc.1).2,zby hc.2⟩) (fun _ _=>rfl)
 split at h
 ·rename_i hf;subst hf;unfold opG at h;split at h<;>try (simp at h;done)
  split at h<;>try (simp at h;done)
  rename_i a b ha hb;split at h<;>try (simp at h;done)
  rename_i hc;simp only[Bool.and_eq_true,decide_eq_true_eq] at hc;simp only[Option.some.injEq] at h;subst h;exact vQ minP_ok (fun _=>(a,b)) (opG_pd ha hb) (fun _ _=>EntL.cons (uP ha) (EntL.cons (uP hb) (EntL.refl []))) (fun _ _=>⟨(zby hc.1).1,(zby hc.1).2,zby hc.2⟩) (fun _ _=>rfl)
 split at h
 ·rename_i hf;subst hf;unfold notG at h;split at h<;>try (simp at h;done)
  split at h<;>try (simp at h;done)
  rename_i a ha;split at h<;>try (simp at h;done)
  rename_i hc;simp only[decide_eq_true_eq] at hc;simp only[Option.some.injEq] at h;subst h;exact vQ notP_ok (fun _=>a) (notG_pd ha) (fun _ _=>EntL.cons (uP ha) (EntL.refl [])) (fun _ _=>zby hc) (fun _ _=>rfl)
 ·simp at h
def quietF (f:Nat):Bool :=
 f==127 ||
 f==41 ||
 false
def offT:List Nat:=[0,1,20,26,27,31,37,38,41,42,43,44,45,52,62,66,67,70,71,73,74,82,83,84,90,91,95,97,106,112,117,119,121,122,124,127,128,129,130,131,138,152,159,160,186,187,188,189,190,191,200,201,202,203,210,221,223,225,228,230,240,244,245,246,247,248,249,250,251,252,253,254,255,256,257,258,259,260,261,262,263,264,265,266,267,268,269,270,271,279,280,281,282,283,284,285,286,287,288,289,290,291]
noncomputable def runX (mx:Int) (pb:Bool):Env:={ T:=Tryz.T,Gl:=(GlT mx pb),fn:=fun f=>Tryz.prog.funcs[f]?,pf:=fun f=>decide (f<293) && !(offT.contains f),same:=fun f=>f==82||f==124||f==95,ext:=extT,sum:=sumT,quiet:=quietF }
def isV:Option D->Bool|some (.v (.bool true))=>true|_=>false
theorem isV_of {o:Option D}(h:isV o=true):o=some (.v (.bool true)):=by
 unfold isV at h;split at h
 ·rfl
 ·simp at h
def ziy (P:Program):Nat->Bool
 | 0=>true
 | n+1=>(match P.funcs[n]? with|some fn => !(fn.name == "runtime.NumGoroutine")|none=>true)&&ziy P n
def zix (P:Program) (off:List Nat):Nat->Bool
 | 0=>true
 | n+1=>(match P.funcs[n]? with|some fn=>fn.body.isSome||off.contains n|none=>false)&&zix P off n
theorem zhn {P:Program}:∀ {n f:Nat}{fn:Func},ziy P n=true->f<n->P.funcs[f]?=some fn->(fn.name == "runtime.NumGoroutine")=false
 | 0,f,fn,_,h,_=>by omega
 | n+1,f,fn,ho,h,hf=>by
  simp only[ziy,Bool.and_eq_true] at ho;by_cases hfn:f=n
  ·subst hfn;have:=ho.1;rw[hf] at this;simpa using this
  ·exact zhn ho.2 (by omega) hf
theorem zhm {P:Program}{off:List Nat}:∀ {n f:Nat},zix P off n=true->f<n->off.contains f=false->∃ fn,P.funcs[f]?=some fn/\fn.body.isSome=true
 | 0,f,_,h,_=>by omega
 | n+1,f,ho,h,hf=>by
  simp only[zix,Bool.and_eq_true] at ho;by_cases hfn:f=n
  ·subst hfn;have:=ho.1;cases hx:P.funcs[f]? with
   | none=>rw[hx] at this;simp at this
   | some fn=>rw[hx] at this;simp only[hf,Bool.or_false] at this;exact ⟨fn,rfl,this⟩
  ·exact zhm ho.2 (by omega) hf
theorem names_ok:ziy Tryz.prog 293=true:=by kernel_rfl
theorem pures_ok:zix Tryz.prog offT 293=true:=by kernel_rfl
theorem size_ok:Tryz.prog.funcs.size=293:=by kernel_rfl
theorem runX_ok (mx:Int) (pb:Bool):EnvOk Tryz.prog (runX mx pb) where
 types:=Tryz.T_ok
 mixed:=Tryz.mixed
 funcs:=fun f fn h=>h
 names:=fun f fn h=>zhn names_ok (by have:=(Array.getElem?_eq_some_iff.1 h).1;rw[size_ok] at this;exact this) h
 pures:=fun f h _=>by
  simp only[runX,Bool.and_eq_true,decide_eq_true_eq,Bool.not_eq_true'] at h;exact zhm pures_ok h.1 h.2
 sames:=fun f h=>by
  have h:f=82\/f=124\/f=95:=by
   simp only[runX,Bool.or_eq_true,beq_iff_eq] at h;rcases h with (h|h)|h
   ·exact .inl h
   ·exact .inr (.inl h)
   ·exact .inr (.inr h)
  rcases h with rfl|rfl|rfl
  ·exact same_ok
  ·exact idx_ok
  ·exact cntS_ok
 sums:=fun f ds d h=>sums_ok f ds d h
 quiets:=fun f h=>by
  have h:quietF f=true:=h;simp only[quietF,Bool.or_eq_true,beq_iff_eq,Bool.or_false,Bool.false_eq_true,or_false] at h;rcases h with rfl|rfl
  ·exact quietE
  ·exact quietR
def ctAlive:Ct:=⟨Unit,fun _=>[],fun _=>.v (.bool true),fun _=>True⟩
theorem aliveRun50 (mx:Int):isV (zj6 (runX mx true) (uT (runX mx true) 900) 5 [])=true:=by kernel_rfl
theorem alive50_ok (mx:Int):Sound Tryz.prog (GlT mx true) 5 ctAlive:=run_sound (runX_ok mx true) (isV_of (aliveRun50 mx))
end Go.Proofs
