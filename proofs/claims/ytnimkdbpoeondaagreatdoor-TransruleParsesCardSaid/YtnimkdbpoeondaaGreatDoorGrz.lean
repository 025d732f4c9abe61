import Derived.Shelf.Strconv.Itoa4
import Derived.Shelf.Sort.Plain
import Derived.Shelf.Slices.CompactI
import Derived.Shelf.Slices.SearchI
import Derived.Shelf.Spec.SlicesGrow
import Derived.Test.YtnimkdbpoeondaaGreatDoorCm3z
set_option linter.all false
set_option maxHeartbeats 4000000
namespace Go.Proofs
open Go.Shelf
def Tryz.growS_ren:Go.Shelf.Ren:=⟨fun|4=>106|n=>n,fun|22=>56|25=>31|3=>3|4=>4|9=>9|20=>20|0=>0|n=>n,fun|n=>n⟩
theorem Tryz.growS:Go.Proofs.Lays8.n4 Tryz.prog Tryz.growS_ren:={
 mixed:=by kernel_rfl
 f4:=⟨Tryz.f106.name,by decide,Tryz.func106.trans (congrArg some (by kernel_rfl))⟩
 t0:=Tryz.underlying0
 a0:=Tryz.isAgg0
 z0:=Tryz.sizeOf0
 v0:=Tryz.zeroValue0
 t3:=Tryz.underlying3
 a3:=Tryz.isAgg3
 z3:=Tryz.sizeOf3
 v3:=Tryz.zeroValue3
 t4:=Tryz.underlying4
 a4:=Tryz.isAgg4
 z4:=Tryz.sizeOf4
 v4:=Tryz.zeroValue4
 t9:=Tryz.underlying9
 a9:=Tryz.isAgg9
 z9:=Tryz.sizeOf9
 v9:=Tryz.zeroValue9
 t20:=Tryz.underlying20
 a20:=Tryz.isAgg20
 z20:=Tryz.sizeOf20
 v20:=Tryz.zeroValue20
 t22:=Tryz.underlying56
 a22:=Tryz.isAgg56
 z22:=Tryz.sizeOf56
 v22:=Tryz.zeroValue56 }
end Go.Proofs
namespace Go.Sx
open Go Go.RowKit
def growT (e sz:Nat):Tr:=fun _ ds ow k =>
 ∃ n:Nat,ds=[.v (.slice none 0 0),.v (.int .i64 n)]/\n<=1000000/\k (.row ow.length) (ow++[.row e sz 0 (fun _ _=>.junk)])
theorem grow_sound {P:Program}{Gl:Nat->Option D}{f:FuncId}{e sz:Nat}(hf:Enters P f)
  (hI:∀ (B:Nat) (w:World) (n:Nat),n<=1000000->B<=w.heap.size ->
   Calls P f #[.slice none 0 0,.int .i64 n] w fun r w'=>∃ v',r=.returned v'/\w'.ownsRow B e sz v' 0 []/\w.grownBy w' none/\∀ g,zL v'=some g->w.heap.size<=g):
  SoundT P Gl f (growT e sz):=by
 refine ⟨hf,?_⟩
 rintro Y ds ow k ⟨n,rfl,hn,hK⟩ B w0 M0 M E w us hW hG hY hr n';refine callsIn_wide.2 ?_;simp only[RepL] at hr;obtain ⟨v,r,hus,hv,u2,r2,rfl,hu2,rfl⟩:=hr;have hv:v=.slice none 0 0:=hv;have hu2:u2=.int .i64 n:=hu2;subst hv;subst hu2;have hus:us = #[.slice none 0 0,.int .i64 n]:=by apply Array.ext';simpa using hus
 subst hus;refine (hI B w n hn hW.base).mono ?_;rintro e' w' ⟨v',rfl,hown,hgrow,hfr⟩
 refine ⟨.row ow.length,v',M,E++[v'],_,rfl,hK,za _,zu _ _,hW.grown hgrow hfr ?_,by simp only[Rep];rw[<- hW.len,List.getElem?_append_right (Nat.le_refl _)];simp⟩
 simp only[Holds];refine ⟨[],hown,fun b hb=>by omega,fun q hq=>?_⟩
 have:=hfr q (vL hq)
 cases hm:M q with
 | none=>rfl
 | some ob=>have:=(hW.fits _ _ hm).lt;omega
end Go.Sx
namespace Go.Proofs
open Go Go.Sx Go.RowKit Go.Lib
variable {mx:Int}{pb:Bool}
theorem infoSet:(Tryz.prog.info? 31).map (fun i=>(i.zero,i.size,i.bytes))=some (some (Value.agg #[.slice none 0 0]),1,24):=by kernel_rfl
theorem growS_ok:SoundT Tryz.prog (GlT mx pb) 106 (growT 31 1):=by
 refine grow_sound ⟨_,Tryz.func106,by kernel_rfl,by kernel_rfl⟩ ?_;intro B w n hn hB;obtain ⟨i,hi,hz,hs,hb⟩:=info_parts infoSet;by_cases h0:n=0
 ·subst h0;refine (Any8.slices_Grow_room Tryz.growS none 0 0 0 w (by omega) (by omega) (by omega) (by omega)).mono ?_;rintro e w' ⟨rfl,rfl⟩
  exact ⟨_,rfl,World.ownsRow_nil _ _ _ _,⟨rfl,rfl,rfl,Nat.le_refl _,fun _ _ _=>rfl⟩,fun g hg=>by simp[zL] at hg⟩
 ·refine (Any8.slices_Grow_grow Tryz.growS i _ hi hz (by omega) none 0 0 n [] w (by omega) (by omega) (by rw[hb];omega) (by omega) (by simp) (fun _=>rfl) (fun a ha=>by cases ha)).mono ?_;rintro e w' ⟨rfl,rfl⟩
  have hG:grownCap w (0+n) 0 31<=maxLen:=grownCap_le_maxLen w _ _ _ (by unfold maxLen;omega)
  have hge:=grownCap_ge w (0+n) 0 31;have hzc:(Value.agg #[.slice none 0 0]).cells.size=1:=rfl;refine ⟨_,rfl,World.ownsRow_made w.drew _ _ hB hG ?_,?_,fun g hg=>?_⟩
  ·show (_++Builtin.zeroCells _ _++Builtin.zeroCells _ (grownCap w (0+n) 0 31 - (0+n))).size=grownCap w (0+n) 0 31*1;generalize grownCap w (0+n) 0 31=G at hge;simp[Builtin.zeroCells,hzc];omega
  ·have h:=World.grownBy_alloc w.drew (Obj.cells
    (#[]++Builtin.zeroCells (Value.agg #[Value.slice none 0 0]).cells (0+n - 0) ++
     Builtin.zeroCells (Value.agg #[Value.slice none 0 0]).cells
      (grownCap w (0+n) 0 (Tryz.growS_ren.t 25) - (0+n)))
    (Tryz.growS_ren.t 25)) none
   exact ⟨h.os,h.tape,h.output,h.size,h.block⟩
  ·simp[zL] at hg;omega
def lsD (L:List (List Rg)):Nat->D
 | 0=>zb6 L
 | _=>.junk
def zm0 (LL:List (List (List Rg))) (k:Nat):List (List Rg):=(LL.take k).flatten
theorem zj3 {LL:List (List (List Rg))}{k:Nat}(h:k<LL.length):zm0 LL (k+1)=zm0 LL k++LL.getD k default:=by
 unfold zm0;rw[take_at h,List.flatten_append];simp
theorem zot (LL:List (List (List Rg))) (k:Nat):(zm0 LL k).length<=LL.flatten.length:=by
 have:LL.flatten=zm0 LL k++(LL.drop k).flatten:=by
  unfold zm0;rw[<- List.flatten_append,List.take_append_drop]
 rw[this,List.length_append];omega
theorem catK_all (LL:List (List (List Rg))):zm0 LL LL.length=LL.flatten:=by
 unfold zm0;rw[List.take_of_length_le (Nat.le_refl _)]
def ctConcat:Ct:={ ι:=List (List (List Rg)),inp:=fun LL=>[slD 1 lsD LL],out:=fun LL=>zb6 LL.flatten,pre:=fun LL=>LL.length<=1000/\LL.flatten.length<=1000 }
def Γcc:Ctx:=fun f=>match f with
 | 106=>some (.gen (growT 31 1))
 | _=>none
theorem Γcc_ok:CK mx pb Γcc:=by
 intro f h hh;simp only[Γcc] at hh;split at hh<;>simp at hh<;>subst hh
 ·exact growS_ok
theorem zmj:SS mx pb 75 ctConcat:=by
 refine sb (cc:=true) Γcc_ok Tryz.func75 ?_;rintro (LL:List (List (List Rg))) ⟨(hL:LL.length<=1000),(hF:LL.flatten.length<=1000)⟩
 refine gl ?_;refine ⟨0,Nat,fun k=>⟨[(0,slD 1 lsD LL),(3,.v (.int .i64 (zm0 LL k).length)),(9,slD 1 lsD LL),(10,.v (.int .i64 LL.length)),(11,.v (.int .i64 k))],[],[]⟩,fun k=>k<=LL.length,fun k=>LL.length - k,fun _=>Nat.zero_le _,⟨0,Nat.zero_le _,StLe.ren [] tmS trivial (by decide)⟩,?_⟩
 rintro k hk;by_cases hlt:k<LL.length
 ·have h1:=zot LL (k+1)
  rw[zj3 hlt,List.length_append] at h1;refine gl ?_;refine ⟨k+1,by show k+1<=LL.length;omega,(by show LL.length - (k+1)<LL.length - k;omega),StLe.ren [] ⟨eE,rfl,Ent.int ?_,rfl,eE,rfl,eE,rfl,eE,rfl,trivial⟩ trivial (by decide)⟩
  show ((zm0 LL k).length:Int)+((LL.getD k default).length:Int)=((zm0 LL (k+1)).length:Int)
  rw[zj3 hlt,List.length_append];omega
 ·have he:k=LL.length:=by omega
  have h1:=zot LL k;refine gl ?_;refine Exists.intro (zm0 LL k).length ?_;refine And.intro rfl ?_;refine And.intro (by omega) ?_;refine gl ?_;refine ⟨0,Nat,fun k=>⟨[(6,.row 0),(25,slD 1 lsD LL),(26,.v (.int .i64 LL.length)),(27,.v (.int .i64 k))],[zG 31 1 stD (zm0 LL k)],[]⟩,fun k=>k<=LL.length,fun k=>LL.length - k,fun _=>Nat.zero_le _,⟨0,Nat.zero_le _,StLe.ren [0] tmS ⟨yg,trivial⟩ (by decide)⟩,?_⟩
  clear h1 he hlt hk;clear k;rintro k hk;by_cases hlt:k<LL.length
  ·have h1:=zot LL (k+1)
   rw[zj3 hlt,List.length_append] at h1;refine gl ?_;refine And.intro (by show (zm0 LL k).length+(LL.getD k default).length<=9223372036854775807;omega) ?_
   repeat' first|refine gl ?_|refine bs ?_ ?_<;>intro q_
   refine And.intro (by show ((zm0 LL k).length+(LL.getD k default).length)*24<=140737488355328;omega) ?_;refine gl ?_;exact ⟨k+1,by show k+1<=LL.length;omega,(by show LL.length - (k+1)<LL.length - k;omega),StLe.ren [1] tmS ⟨by rw[zj3 hlt];exact own_appL,trivial⟩ (by decide)⟩
  ·have he:k=LL.length:=by omega
   refine gl ?_;refine EntR.of rfl ?_;show Ent (zb6 (zm0 LL k)) (zb6 LL.flatten)
   rw[he,catK_all];exact eE
def lstF {α:Type}(f:D->Option α) (g:Nat->Nat->D):Nat->Nat->Option (List α)
 | 0,_=>some []
 | n+1,i=>match f (g i 0),lstF f g n (i+1) with
  | some a,some l=>some (a::l)
  | _,_=>none
theorem lstF_len {α:Type}{f:D->Option α}{g:Nat->Nat->D}:∀ {n i:Nat}{l:List α},lstF f g n i=some l->l.length=n
 | 0,i,l,h=>by simp[lstF] at h;subst h;rfl
 | n+1,i,l,h=>by
  simp only[lstF] at h;split at h<;>try (simp at h;done)
  rename_i a l' _ hl;simp at h;subst h;rw[List.length_cons,lstF_len hl]
theorem lstF_get {α:Type} [Inhabited α] {f:D->Option α}{g:Nat->Nat->D}:∀ {n i:Nat}{l:List α},lstF f g n i=some l->∀ k,k<n->f (g (i+k) 0)=some (l.getD k default)
 | 0,i,l,h,k,hk=>by omega
 | n+1,i,l,h,k,hk=>by
  simp only[lstF] at h;split at h<;>try (simp at h;done)
  rename_i a l' ha hl;simp at h;subst h
  match k with
  | 0=>exact ha
  | k+1 =>
   have:=lstF_get hl k (by omega)
   rw[show i+1+k=i+(k+1) from by omega] at this;exact this
def slOf {α:Type}(f:D->Option α):D->Option (List α)
 | .sl 1 n g=>lstF f g n 0
 | .v (.slice none 0 0)=>some []
 | _=>none
theorem slOf_ent {α:Type} [Inhabited α] {f:D->Option α}{enc:α->Nat->D}(hf:∀ d a,f d=some a->Ent d (enc a 0)) {d:D}{l:List α}(h:slOf f d=some l):Ent d (slD 1 enc l):=by
 unfold slOf at h;split at h<;>try (simp at h;done)
 ·refine Ent.sl (lstF_len h).symm fun i hi j hj=>?_;have hj:j=0:=by omega
  subst hj;have:=lstF_get h i hi;rw[Nat.zero_add] at this;exact hf _ _ this
 ·simp at h;subst h;exact Ent.nil
theorem slOf_pd {α:Type}{f:D->Option α}{d:D}{l:List α}(h:slOf f d=some l):pd d=true:=by
 unfold slOf at h;split at h<;>first|rfl|simp at h
def catG:List D->Option D
 | [x]=>match slOf (slOf rgOf) x with
  | some LL=>if decide (LL.length<=1000)&&decide (LL.flatten.length<=1000) then some (zb6 LL.flatten) else none
  | none=>none
 | _=>none
theorem catG_ok {ds:List D}{d:D}(h:catG ds=some d):SS mx pb 75 ⟨Unit,fun _=>ds,fun _=>d,fun _=>True⟩:=by
 unfold catG at h;split at h<;>try (simp at h;done)
 split at h<;>try (simp at h;done)
 rename_i LL hL;split at h<;>try (simp at h;done)
 rename_i hc;simp only[Bool.and_eq_true,decide_eq_true_eq] at hc;simp only[Option.some.injEq] at h;subst h;have hC:SS mx pb 75 ctConcat:=zmj;refine ⟨hC.1,fun _=>by simp[pdL,slOf_pd hL],fun x hx M w us hf hg hr n=>?_⟩
 exact hC.2.2 LL hc M w us hf hg (EntL.cons (slOf_ent (enc:=lsD) (fun d a h=>slOf_ent (enc:=stD) (fun d a h=>rgOf_ent h) h) hL) (EntL.refl []) _ _ _ hr) n
end Go.Proofs
