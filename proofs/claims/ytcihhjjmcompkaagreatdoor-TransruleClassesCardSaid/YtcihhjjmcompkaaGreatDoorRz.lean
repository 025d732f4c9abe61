import Derived.Test.YtcihhjjmcompkaaGreatDoorGc
import Derived.Test.YtcihhjjmcompkaaGreatDoorE7
import Derived.Test.YtcihhjjmcompkaaGreatDoorDq
import Derived.Test.YtcihhjjmcompkaaGreatDoorCm3z
import Derived.Test.YtcihhjjmcompkaaGreatDoorGrz
import Derived.Lib.Bytealg
import Derived.Test.YtcihhjjmcompkaaGreatDoorIx
set_option linter.unusedVariables false
set_option linter.unusedSimpArgs false
namespace Go.Proofs
open Go Go.Sx
variable {mx:Int}{pb:Bool}
def cntB (s:ByteArray) (c:Int):Int:=((Lib.countByte s.data.toList c.toNat.toUInt8:Nat):Int)
def cntG:List D→Option D
 | [.v (.string s),.v (.int .u8 c)]=>some (.v (.int .i64 (cntB s c)))
 | _=>none
def extT (f:Nat) (ds:List D):Option D:=if f=139 then sameG ds else if f=252 then idxG ds else if f=214 then cntG ds else none
theorem cntS_ok:SoundS Tryz.prog (GlT mx pb) 214 cntG:=by
 intro ds d hg M E us w _ _ hr
 unfold cntG at hg
 split at hg<;>simp at hg
 rename_i s c
 subst hg
 have:=two_args hr
 subst this
 refine ⟨_,?_,Rep.val _⟩
 have hf:Tryz.prog.funcs[214]?=some Tryz.f214:=by kernel_rfl
 have h1:(Tryz.f214.name == "runtime.NumGoroutine")=false:=by kernel_rfl
 have h2:Tryz.f214.body.isNone=true:=by kernel_rfl
 have h3:Extern.findNext Tryz.f214=none:=by kernel_rfl
 have h4:Extern.find Tryz.f214=some Extern.BytealgCount.count:=by kernel_rfl
 have h5:(Extern.BytealgCount.count #[.string s,.int .u8 c]).run Tryz.prog w=.ok (.int .i64 (cntB s c)) w:=Lib.run_countString s c w
 have h6:∀ m,Sem.run Tryz.prog (Sem.mark m (Sem.pure ())) w=.ok () w:=fun _=>rfl
 simp only[callFunc,Sem.run_bind,run_program,Result.andThen_ok,hf,h1,h2,h3,h4]
 simp[h5,h6,mark]
theorem sound_lessE {P:Program}{Gl:Nat→Option D}{f:FuncId}{ct ct':Ct}(h:Sound P Gl f ct) (φ:ct'.ι→ct.ι) (hpd:∀ x,pdL (ct'.inp x)=true) (hi:∀ x,ct'.pre x→EntL (ct'.inp x) (ct.inp (φ x))) (hp:∀ x,ct'.pre x→ct.pre (φ x)) (ho:∀ x,ct'.pre x→ct.out (φ x)=ct'.out x):Sound P Gl f ct':=by
 refine ⟨h.1,hpd,fun x hx M w us hf hg hr n=>?_⟩
 have:=h.2.2 (φ x) (hp x hx) M w us hf hg (hi x hx _ _ _ hr) n
 rw[ho x hx] at this
 exact this
def dots:ByteArray:=⟨#[46,46]⟩
def eqB0 (s x:ByteArray):Bool := @decide (s=x) (baDec s x)
theorem sound_lessI {P:Program}{Gl:Nat→Option D}{f:FuncId}{ct ct':Ct}(h:Sound P Gl f ct) (φ:ct'.ι→ct.ι) (hpd:∀ x,pdL (ct'.inp x)=true) (hi:∀ x,ct'.pre x→EntL (ct'.inp x) (ct.inp (φ x))) (hp:∀ x,ct'.pre x→ct.pre (φ x)) (ho:∀ x,ct'.pre x→ct.out (φ x)=ct'.out x):Sound P Gl f ct':=sound_lessE h φ hpd hi hp ho
def cutG:List D→Option D
 | [.v (.string s),.v (.string t)]=>if eqB0 t dots&&decide (s.size≤64) then some (.tu [.v (.string (cutA s t)),.v (.string (cutZ s t)),.v (.bool (cutF s t))]) else none
 | _=>none
def strsF (g:Nat→Nat→D):Nat→Nat→Option (List ByteArray)
 | 0,_=>some []
 | n+1,i=>match g i 0 with
  | .v (.string s)=>match strsF g n (i+1) with|some l=>some (s::l)|none=>none
  | _=>none
theorem strsF_len {g:Nat→Nat→D}:∀ {n i:Nat}{l:List ByteArray},strsF g n i=some l→l.length=n
 | 0,i,l,h=>by simp[strsF] at h;subst h;rfl
 | n+1,i,l,h=>by
  simp only[strsF] at h
  split at h
  ·split at h
   ·rename_i l' hl
    simp at h;subst h
    rw[List.length_cons,strsF_len hl]
   ·simp at h
  ·simp at h
theorem strsF_get {g:Nat→Nat→D}:∀ {n i:Nat}{l:List ByteArray},strsF g n i=some l→∀ k,k<n→g (i+k) 0=.v (.string (l.getD k default))
 | 0,i,l,h,k,hk=>by omega
 | n+1,i,l,h,k,hk=>by
  simp only[strsF] at h
  split at h
  ·rename_i s hs
   split at h
   ·rename_i l' hl
    simp at h;subst h
    match k with
    | 0=>exact hs
    | k+1 =>
     have:=strsF_get hl k (by omega)
     rw[show i+1+k=i+(k+1) from by omega] at this
     exact this
   ·simp at h
  ·simp at h
def joinG:List D→Option D
 | [.sl 1 n g,.v (.string sep)]=>match strsF g n 0 with
  | some l=>if decide (l.length≤64)&&decide ((joinB l sep).size≤4096) then some (.v (.string (joinB l sep))) else none
  | none=>none
 | _=>none
def sumT (f:Nat) (ds:List D):Option D:=if f=67 then cutG ds
 else if f=130 then upG ds
 else if f=132 then catG ds
 else if f=100 then opG 1 ds
 else if f=99 then opG 2 ds
 else if f=102 then opG 3 ds
 else if f=101 then notG ds
 else none
theorem sums_ok:∀ f ds d,sumT f ds=some d→Sound Tryz.prog (GlT mx pb) f ⟨Unit,fun _=>ds,fun _=>d,fun _=>True⟩:=by
 intro f ds d h
 unfold sumT at h
 split at h
 ·rename_i hf
  subst hf
  unfold cutG at h
  split at h<;>try (simp at h;done)
  rename_i s t
  split at h<;>try (simp at h;done)
  rename_i hc
  simp only[Bool.and_eq_true,decide_eq_true_eq] at hc
  simp only[Option.some.injEq] at h
  subst h
  exact sound_less cutS_ok (fun _=>(s,t)) (fun _=>rfl) (fun _ _=>by show s.size<_;omega) (fun _ _=>rfl)
 split at h
 ·rename_i hf
  subst hf
  exact upG_ok h
 split at h
 ·rename_i hf
  subst hf
  exact catG_ok h
 split at h
 ·rename_i hf
  subst hf
  unfold opG at h
  split at h<;>try (simp at h;done)
  split at h<;>try (simp at h;done)
  rename_i a b ha hb
  split at h<;>try (simp at h;done)
  rename_i hc
  simp only[Bool.and_eq_true,decide_eq_true_eq] at hc
  simp only[Option.some.injEq] at h
  subst h
  exact sound_lessI orP_ok (fun _=>(a,b)) (opG_pd ha hb) (fun _ _=>EntL.cons (setOf_ent ha) (EntL.cons (setOf_ent hb) (EntL.refl []))) (fun _ _=>⟨(mkOk12 hc.1).1,(mkOk12 hc.1).2,mkOk12 hc.2⟩) (fun _ _=>rfl)
 split at h
 ·rename_i hf
  subst hf
  unfold opG at h
  split at h<;>try (simp at h;done)
  split at h<;>try (simp at h;done)
  rename_i a b ha hb
  split at h<;>try (simp at h;done)
  rename_i hc
  simp only[Bool.and_eq_true,decide_eq_true_eq] at hc
  simp only[Option.some.injEq] at h
  subst h
  exact sound_lessI andP_ok (fun _=>(a,b)) (opG_pd ha hb) (fun _ _=>EntL.cons (setOf_ent ha) (EntL.cons (setOf_ent hb) (EntL.refl []))) (fun _ _=>⟨(mkOk12 hc.1).1,(mkOk12 hc.1).2,mkOk12 hc.2⟩) (fun _ _=>rfl)
 split at h
 ·rename_i hf
  subst hf
  unfold opG at h
  split at h<;>try (simp at h;done)
  split at h<;>try (simp at h;done)
  rename_i a b ha hb
  split at h<;>try (simp at h;done)
  rename_i hc
  simp only[Bool.and_eq_true,decide_eq_true_eq] at hc
  simp only[Option.some.injEq] at h
  subst h
  exact sound_lessI minP_ok (fun _=>(a,b)) (opG_pd ha hb) (fun _ _=>EntL.cons (setOf_ent ha) (EntL.cons (setOf_ent hb) (EntL.refl []))) (fun _ _=>⟨(mkOk12 hc.1).1,(mkOk12 hc.1).2,mkOk12 hc.2⟩) (fun _ _=>rfl)
 split at h
 ·rename_i hf
  subst hf
  unfold notG at h
  split at h<;>try (simp at h;done)
  split at h<;>try (simp at h;done)
  rename_i a ha
  split at h<;>try (simp at h;done)
  rename_i hc
  simp only[decide_eq_true_eq] at hc
  simp only[Option.some.injEq] at h
  subst h
  exact sound_lessI notP_ok (fun _=>a) (notG_pd ha) (fun _ _=>EntL.cons (setOf_ent ha) (EntL.refl [])) (fun _ _=>mkOk12 hc) (fun _ _=>rfl)
 ·simp at h
def quietF (f:Nat):Bool :=
 f==53 ||
 f==120 ||
 false
def offT:List Nat:=[0,1,39,49,52,53,54,55,56,57,76,83,92,93,94,103,104,116,117,120,121,122,123,124,138,139,140,143,144,145,146,147,149,157,161,162,165,166,167,168,173,174,177,188,196,197,198,199,207,214,216,227,229,231,232,242,244,246,249,251,252,263,269,294,295,296,297,298,299,300,301,302,303,304,305,306,307,308,309,310,311,312,313,314,315,316,317,318,319,320,321,329,330,331,332,333,334,335,336,337,338,339,340,341]
noncomputable def runX (mx:Int) (pb:Bool):Env:={ T:=Tryz.T,Gl:=(GlT mx pb),fn:=fun f=>Tryz.prog.funcs[f]?,pf:=fun f=>decide (f<343) && !(offT.contains f),same:=fun f=>f==139||f==252||f==214,ext:=extT,sum:=sumT,quiet:=quietF }
def isV:Option D→Bool|some (.v (.bool true))=>true|_=>false
theorem isV_of {o:Option D}(h:isV o=true):o=some (.v (.bool true)):=by
 unfold isV at h
 split at h
 ·rfl
 ·simp at h
def okNames (P:Program):Nat→Bool
 | 0=>true
 | n+1=>(match P.funcs[n]? with|some fn => !(fn.name == "runtime.NumGoroutine")|none=>true)&&okNames P n
def okPures (P:Program) (off:List Nat):Nat→Bool
 | 0=>true
 | n+1=>(match P.funcs[n]? with|some fn=>fn.body.isSome||off.contains n|none=>false)&&okPures P off n
theorem okNames_of {P:Program}:∀ {n f:Nat}{fn:Func},okNames P n=true→f<n→P.funcs[f]?=some fn→(fn.name == "runtime.NumGoroutine")=false
 | 0,f,fn,_,h,_=>by omega
 | n+1,f,fn,ho,h,hf=>by
  simp only[okNames,Bool.and_eq_true] at ho
  by_cases hfn:f=n
  ·subst hfn;have:=ho.1;rw[hf] at this;simpa using this
  ·exact okNames_of ho.2 (by omega) hf
theorem okPures_of {P:Program}{off:List Nat}:∀ {n f:Nat},okPures P off n=true→f<n→off.contains f=false→∃ fn,P.funcs[f]?=some fn∧fn.body.isSome=true
 | 0,f,_,h,_=>by omega
 | n+1,f,ho,h,hf=>by
  simp only[okPures,Bool.and_eq_true] at ho
  by_cases hfn:f=n
  ·subst hfn
   have:=ho.1
   cases hx:P.funcs[f]? with
   | none=>rw[hx] at this;simp at this
   | some fn=>rw[hx] at this;simp only[hf,Bool.or_false] at this;exact ⟨fn,rfl,this⟩
  ·exact okPures_of ho.2 (by omega) hf
theorem names_ok:okNames Tryz.prog 343=true:=by kernel_rfl
theorem pures_ok:okPures Tryz.prog offT 343=true:=by kernel_rfl
theorem size_ok:Tryz.prog.funcs.size=343:=by kernel_rfl
theorem runX_ok (mx:Int) (pb:Bool):EnvOk Tryz.prog (runX mx pb) where
 types:=Tryz.T_ok
 mixed:=Tryz.mixed
 funcs:=fun f fn h=>h
 names:=fun f fn h=>okNames_of names_ok (by have:=(Array.getElem?_eq_some_iff.1 h).1;rw[size_ok] at this;exact this) h
 pures:=fun f h _=>by
  simp only[runX,Bool.and_eq_true,decide_eq_true_eq,Bool.not_eq_true'] at h
  exact okPures_of pures_ok h.1 h.2
 sames:=fun f h=>by
  have h:f=139∨f=252∨f=214:=by
   simp only[runX,Bool.or_eq_true,beq_iff_eq] at h
   rcases h with (h|h)|h
   ·exact .inl h
   ·exact .inr (.inl h)
   ·exact .inr (.inr h)
  rcases h with rfl|rfl|rfl
  ·exact same_ok
  ·exact idx_ok
  ·exact cntS_ok
 sums:=fun f ds d h=>sums_ok f ds d h
 quiets:=fun f h=>by
  have h:quietF f=true:=h
  simp only[quietF,Bool.or_eq_true,beq_iff_eq,Bool.or_false,Bool.false_eq_true,or_false] at h
  rcases h with rfl|rfl
  ·exact quietE
  ·exact quietR
def ctAlive:Ct:=⟨Unit,fun _=>[],fun _=>.v (.bool true),fun _=>True⟩
end Go.Proofs
namespace Go.Proofs
open Go Go.Sx
theorem aliveRun50 (mx:Int):isV (callV (runX mx true) (runC (runX mx true) 900) 33 [])=true:=by kernel_rfl
theorem alive50_ok (mx:Int):Sound Tryz.prog (GlT mx true) 33 ctAlive:=run_sound (runX_ok mx true) (isV_of (aliveRun50 mx))
end Go.Proofs
