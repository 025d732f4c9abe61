import Derived.Test.YtcihhjjmcompkaaGreatDoorSoz
import Derived.Test.YtcihhjjmcompkaaGreatDoorEa
import Derived.Test.YtcihhjjmcompkaaGreatDoorGrz
import Derived.Test.YtcihhjjmcompkaaGreatDoorCwz
import Derived.Shelf.Sort.Plain
import Derived.Shelf.Slices.CompactI
import Derived.Shelf.Slices.SearchI
import Derived.Test.YtcihhjjmcompkaaGreatDoorXs
set_option linter.unusedVariables false
set_option linter.unusedSimpArgs false
namespace Go.Sx
open Go Go.RowKit
def sortL (l:List Int):List Int:=l.mergeSort fun x y=>decide (x≤y)
def sortI:Tr:=fun _ ds ow k=>∃ (i e:Nat) (f:Nat→Nat→D) (l:List Int),ds=[.row i]∧ow[i]?=some (.row e 1 l.length f)∧(∀ a,a<l.length→Ent (f a 0) (.v (.int .i64 (l.getD a default))))∧0<l.length∧l.length<4611686018427387904 ∧
 k (.tu []) (setOwn ow i (.row e 1 l.length fun a _=>.v (.int .i64 ((sortL l).getD a default))))
def compI:Tr:=fun _ ds ow k=>∃ (i e:Nat) (f:Nat→Nat→D) (l:List Int),ds=[.row i]∧ow[i]?=some (.row e 1 l.length f)∧(∀ a,a<l.length→Ent (f a 0) (.v (.int .i64 (l.getD a default))))∧0<l.length∧l.length≤9223372036854775807 ∧
 k (.row ow.length) (setOwn ow i .gone++[.row e 1 (Lib.compact l).length fun a _=>.v (.int .i64 ((Lib.compact l).getD a default))])
theorem put_world {α:Type} [Inhabited α] (enc:α→Value) {w:World}{blk:Nat}{cur:Array Value}{e:TypeId}(m:Nat) (d:Array α) (os:Array Obj) (hb:w.heap[blk]?=some (.cells cur e (0,0))):
  w.grownBy (Go.Sort.grow (Go.Sort.putRow enc (Go.Sort.ahead w m) blk 0 d) os) (some blk)∧∃ cur':Array Value,(Go.Sort.grow (Go.Sort.putRow enc (Go.Sort.ahead w m) blk 0 d) os).heap[blk]?=some (.cells cur' e (0,0))∧cur'.size=cur.size∧∀ t,t<d.size→t<cur.size→cur'[t]?=some (enc d[t]!):=by
 have hlt:blk<w.heap.size:=(Array.getElem?_eq_some_iff.1 hb).1
 have hh:(Go.Sort.grow (Go.Sort.putRow enc (Go.Sort.ahead w m) blk 0 d) os).heap=w.heap.modify blk (Go.Sort.onCells (Go.Sort.putCells enc 0 d))++os:=rfl
 refine ⟨⟨rfl,rfl,rfl,by rw[hh];simp,fun q hq hne=>?_⟩,Go.Sort.putCells enc 0 d cur,?_,by simp[Go.Sort.putCells],fun t ht htc=>?_⟩
 ·rw[hh,Array.getElem?_append_left (by simpa using hq),Array.getElem?_modify,if_neg (fun e=>hne (by rw[e]))]
 ·rw[hh,Array.getElem?_append_left (by simpa using hlt),Array.getElem?_modify,if_pos rfl,hb]
  rfl
 ·simp only[Go.Sort.putCells,Array.getElem?_mapIdx]
  rw[Array.getElem?_eq_getElem htc,Option.map_some,if_pos ⟨Nat.zero_le _,by omega⟩,Nat.sub_zero]
theorem row_ints {B:Nat}{M:Mem}{w:World}{e:Nat}{f:Nat→Nat→D}{v:Value}{l:List Int}(h:HoldsRow B M w e 1 l.length f v) (hent:∀ a,a<l.length→Ent (f a 0) (.v (.int .i64 (l.getD a default)))) (h0:0<l.length):
  ∃ g cap cur,v=.slice (some ⟨g,0,none⟩) l.length cap∧B≤g∧w.heap[g]?=some (.cells cur e (0,0))∧l.length≤cap∧cap≤maxLen∧cur.size=cap*1∧(∀ j,j<l.length→cur[j]?=some (.int .i64 (l.getD j default)))∧M g=none:=by
 obtain ⟨xs,hown,hr,hM⟩:=h
 rcases hown.2 with ⟨_,hn⟩|⟨g,cap,cur,rfl,b2,b3,b4,b5,b6,b7⟩
 ·omega
 ·refine ⟨g,cap,cur,rfl,b2,b3,b4,b5,b6,fun j hj=>?_,hM g rfl⟩
  obtain ⟨x,x1,_,x3⟩:=hr j hj 0 (by omega)
  have h1:=hent j hj _ _ _ x3
  simp only[Rep] at h1
  rw[Nat.mul_one,Nat.add_zero,← b7,List.getElem?_take_of_lt (by omega),Array.getElem?_toList] at x1
  rw[x1,h1]
theorem ints_hold {w:World}{g:Nat}{cur:Array Value}{e:Nat}{l:List Int}(hb:w.heap[g]?=some (.cells cur e (0,0))) (hc:∀ j,j<l.length→cur[j]?=some (.int .i64 (l.getD j default))):Go.Sort.Holds (Value.int .i64) w g 0 l.toArray:=by
 intro j hj
 have hj:j<l.length:=by simpa using hj
 refine ⟨?_,frozen_of_row w g _ cur e hb⟩
 rw[cell_of_row w g _ cur e (0,0) hb,Nat.zero_add,hc j hj,getElem!_pos _ j (by simpa using hj)]
 simp[List.getD_eq_getElem?_getD,hj]
theorem getD_bang {l:List Int}{t:Nat}(h:t<l.length):l.toArray[t]! = l.getD t default:=by
 rw[getElem!_pos _ t (by simpa using h)]
 simp[List.getD_eq_getElem?_getD,h]
theorem sortI_sound {P:Program}{Gl:Nat→Option D}{f:FuncId}(hf:Enters P f)
  (hS:∀ (blk cap:Nat) (zs:List Int) (w:World),Go.Sort.Holds (Value.int .i64) w blk 0 zs.toArray→blk<w.heap.size→zs.length<4611686018427387904→Calls P f #[.slice (some ⟨blk,0,none⟩) zs.length cap] w fun e w'=>e=.returned (.tuple #[])∧∃ n os,w'=Go.Sort.grow (Go.Sort.putRow (Value.int .i64) (Go.Sort.ahead w n) blk 0 (sortL zs).toArray) os):SoundT P Gl f sortI:=by
 refine ⟨hf,?_⟩
 rintro Y ds ow k ⟨i,e,f0,l,rfl,hrow,hent,h0,hlen,hK⟩ B w0 M0 M E w us hW hG hY hr n'
 refine callsIn_wide.2 ?_
 simp only[RepL] at hr
 obtain ⟨v,r,hus,hv,rfl⟩:=hr
 simp only[Rep] at hv
 have hus:us = #[v]:=by apply Array.ext';simpa using hus
 subst hus
 have hH:=hW.holds _ _ _ hrow hv
 simp only[Holds] at hH
 obtain ⟨g,cap,cur,rfl,b2,b3,b4,b5,b6,b7,b8⟩:=row_ints hH hent h0
 refine (hS g cap l w (ints_hold b3 b7) (Array.getElem?_eq_some_iff.1 b3).1 hlen).mono ?_
 rintro e' w' ⟨rfl,m,os,rfl⟩
 obtain ⟨g1,cur',c1,c2,c3⟩:=put_world (Value.int .i64) m (sortL l).toArray os b3
 have hsl:(sortL l).length=l.length:=List.length_mergeSort l
 refine ⟨.tu [],_,M,E,_,rfl,hK,Mem.le_refl _,EnvLe.refl _,hW.turn hrow rfl hv g1 ?_,by simp[Rep,RepL]⟩
 simp only[Holds]
 refine ⟨cur'.toList.take (l.length*1),⟨by have e1:cur'.toList.length=cur.size:=c2;rw[List.length_take];show min (l.length*1) _=l.length*1;omega,.inr ⟨g,cap,cur',rfl,b2,c1,b4,b5,by rw[c2];exact b6,rfl⟩⟩,fun a ha j hj=>?_,fun b hb=>?_⟩
 ·have hj0:j=0:=by omega
  subst hj0
  refine ⟨_,?_,rfl,Rep.val _⟩
  rw[List.getElem?_take_of_lt (by omega),Nat.mul_one,Nat.add_zero,Array.getElem?_toList,c3 a (by simpa[hsl] using ha) (by omega),getD_bang (by omega)]
 ·simp only[Value.ownBlock,Option.some.injEq] at hb
  subst hb
  exact b8
theorem compact_le (l:List Int):(Lib.compact l).length≤l.length:=by
 unfold Lib.compact Lib.compactUpTo
 rw[List.length_map]
 exact Nat.le_trans (List.length_filter_le _ _) (by simp)
theorem compI_sound {P:Program}{Gl:Nat→Option D}{f:FuncId}(hf:Enters P f)
  (hS:∀ (blk cap:Nat) (zs:List Int) (w:World),Go.Sort.Holds (Value.int .i64) w blk 0 zs.toArray→zs.length≤9223372036854775807→zs.length≤cap→Calls P f #[.slice (some ⟨blk,0,none⟩) zs.length cap] w fun e w'=>e=.returned (.slice (some ⟨blk,0,none⟩) (Lib.compact zs).length cap)∧∃ q,w'=Go.Sort.putRow (Value.int .i64) (Go.Sort.ahead w q) blk 0 (Lib.compact zs++List.replicate (zs.length - (Lib.compact zs).length) 0).toArray):SoundT P Gl f compI:=by
 refine ⟨hf,?_⟩
 rintro Y ds ow k ⟨i,e,f0,l,rfl,hrow,hent,h0,hlen,hK⟩ B w0 M0 M E w us hW hG hY hr n'
 refine callsIn_wide.2 ?_
 simp only[RepL] at hr
 obtain ⟨v,r,hus,hv,rfl⟩:=hr
 simp only[Rep] at hv
 have hus:us = #[v]:=by apply Array.ext';simpa using hus
 subst hus
 have hH:=hW.holds _ _ _ hrow hv
 simp only[Holds] at hH
 obtain ⟨g,cap,cur,rfl,b2,b3,b4,b5,b6,b7,b8⟩:=row_ints hH hent h0
 refine (hS g cap l w (ints_hold b3 b7) hlen b4).mono ?_
 rintro e' w' ⟨rfl,m,rfl⟩
 have hcl:=compact_le l
 obtain ⟨g1,cur',c1,c2,c3⟩:=put_world (Value.int .i64) m (Lib.compact l++List.replicate (l.length - (Lib.compact l).length) 0).toArray #[] b3
 have hg:∀ W:World,Go.Sort.grow W #[]=W:=fun W=>by simp[Go.Sort.grow]
 rw[hg] at g1 c1
 refine ⟨_,_,M,E++[.slice (some ⟨g,0,none⟩) (Lib.compact l).length cap],_,rfl,hK,Mem.le_refl _,EnvLe.append _ _,hW.renew hrow rfl hv g1 (fun b hb=>.inl hb) ?_,?_⟩
 ·simp only[Holds]
  refine ⟨cur'.toList.take ((Lib.compact l).length*1),⟨by have e1:cur'.toList.length=cur.size:=c2;rw[List.length_take];show min ((Lib.compact l).length*1) _=(Lib.compact l).length*1;omega,.inr ⟨g,cap,cur',rfl,b2,c1,by show (Lib.compact l).length≤cap;omega,b5,by rw[c2];exact b6,rfl⟩⟩,fun a ha j hj=>?_,fun b hb=>?_⟩
  ·have hj0:j=0:=by omega
   subst hj0
   refine ⟨_,?_,rfl,Rep.val _⟩
   rw[List.getElem?_take_of_lt (by omega),Nat.mul_one,Nat.add_zero,Array.getElem?_toList,c3 a (by simp;omega) (by omega),getD_bang (by simp;omega)]
   simp[List.getD_eq_getElem?_getD,List.getElem?_append_left ha]
  ·simp only[Value.ownBlock,Option.some.injEq] at hb
   subst hb
   exact b8
 ·simp only[Rep]
  rw[← hW.len,List.getElem?_append_right (Nat.le_refl _)]
  simp
end Go.Sx
namespace Go.Proofs
open Go Go.Sx Go.RowKit
variable {mx:Int}{pb:Bool}
theorem srtI_ok:SoundT Tryz.prog (GlT mx pb) 81 sortI:=sortI_sound ⟨_,Tryz.func81,by kernel_rfl,by kernel_rfl⟩ fun blk cap zs w h1 h2 h3=>Any.slices_Sort_int Tryz.lays189 blk 0 cap zs w h1 h2 h3
theorem cpcI_ok:SoundT Tryz.prog (GlT mx pb) 82 compI:=compI_sound ⟨_,Tryz.func82,by kernel_rfl,by kernel_rfl⟩ fun blk cap zs w h1 h2 h3=>Any.slices_Compact_int Tryz.laysNm220 blk 0 cap zs w h1 h2 h3
def cntL (zs:List Int) (x:Int):Nat:=zs.countP (· < x)
def ctBin:Ct:={ ι:=List Int × Int,inp:=fun y=>[intsD y.1,.v (.int .i64 y.2)],out:=fun y=>.tu [.v (.int .i64 (cntL y.1 y.2:Nat)),.v (.bool (y.1.contains y.2))],pre:=fun y=>0<y.1.length∧y.1.length<4611686018427387904∧y.1.Pairwise (· ≤ ·) }
theorem bin_ok:Sound Tryz.prog (GlT mx pb) 84 ctBin:=by
 refine sound_calls Tryz.func84 (by kernel_rfl) (by kernel_rfl) (fun _=>rfl) ?_
 rintro ⟨zs,x⟩ ⟨h0,h1,h2⟩ M w us hfit hG hr
 replace h0:0<zs.length:=h0
 replace h1:zs.length<4611686018427387904:=h1
 replace h2:zs.Pairwise (· ≤ ·):=h2
 have hr:RepL M [] [intsD zs,.v (.int .i64 x)] us.toList:=hr
 simp only[RepL,intsD,slD,Rep] at hr
 obtain ⟨u,r,hus,⟨a,cap,rfl,hc,hcell⟩,v,r2,rfl,rfl,rfl⟩:=hr
 obtain ⟨ad,rfl,hx⟩:=hcell h0
 have hus:us = #[.slice (some ad) zs.length cap,.int .i64 x]:=by apply Array.ext';simpa using hus
 subst hus
 obtain ⟨b,off,sp⟩:=ad
 have hsp:sp=none:=by
  obtain ⟨y,y1,_⟩:=hx 0 h0 0 (by omega)
  cases sp with
  | none=>rfl
  | some s =>
   simp only[Nat.zero_mul,Nat.zero_add,Addr.add,if_true] at y1
   unfold Mem.cell at y1
   dsimp only at y1
   split at y1<;>simp at y1
 subst hsp
 refine (Any.slices_BinarySearch_int Tryz.laysNm225 b off zs.length cap zs x w (Nat.le_refl _) h1 (fun j hj=>?_) (by rw[List.take_length];exact h2)).mono ?_
 ·obtain ⟨y,y1,_,y3⟩:=hx j hj 0 (by omega)
  have y3:y=.int .i64 (zs.getD j default):=y3
  have:=Mem.cell_fits hfit y1
  rw[add_own,Nat.mul_one,Nat.add_zero] at this
  rw[this,y3]
  rfl
 ·rintro e w' ⟨rfl,q,rfl⟩
  rw[List.take_length]
  exact ⟨_,rfl,⟨_,rfl,RepL.cons (Rep.val _) (RepL.cons (Rep.val _) RepL.nil)⟩,⟨rfl,rfl,rfl,Nat.le_refl _,fun _ _=>rfl⟩⟩
end Go.Proofs
namespace Go.Proofs
open Go Go.Sx
variable {mx:Int}{pb:Bool}
structure DvS where
 cl:List Int
 cnt:Int
 ins:Int→Option Int
def vis (s:DvS) (i:Nat):DvS :=
 match s.ins (s.cl.getD i default) with
 | some d=>⟨s.cl.set i d,s.cnt,s.ins⟩
 | none=>⟨s.cl.set i s.cnt,s.cnt+1,fun c=>if c=s.cl.getD i default then some s.cnt else s.ins c⟩
theorem vis_y {s:DvS}{i:Nat}{d:Int}(h:s.ins (s.cl.getD i default)=some d):vis s i=⟨s.cl.set i d,s.cnt,s.ins⟩:=by unfold vis;rw[h]
theorem vis_n {s:DvS}{i:Nat}(h:s.ins (s.cl.getD i default)=none):vis s i=⟨s.cl.set i s.cnt,s.cnt+1,fun c=>if c=s.cl.getD i default then some s.cnt else s.ins c⟩:=by unfold vis;rw[h]
theorem vis_len (s:DvS) (i:Nat):(vis s i).cl.length=s.cl.length:=by
 unfold vis
 split<;>simp
theorem vis_cnt (s:DvS) (i:Nat):s.cnt≤(vis s i).cnt∧(vis s i).cnt≤s.cnt+1:=by
 unfold vis
 split
 ·exact ⟨Int.le_refl _,by show s.cnt≤s.cnt+1;omega⟩
 ·exact ⟨by show s.cnt≤s.cnt+1;omega,Int.le_refl _⟩
def visF (bs:List Int) (hi:Int):Nat→Nat→DvS→DvS
 | 0,_,s=>s
 | f+1,i,s=>if i<bs.length∧bs.getD i default≤hi then visF bs hi f (i+1) (vis s i) else s
def visE (bs:List Int) (hi:Int) (i:Nat) (s:DvS):DvS:=visF bs hi (bs.length - i) i s
theorem visE_y {bs:List Int}{hi:Int}{i:Nat}{s:DvS}(h1:i<bs.length) (h2:bs.getD i default≤hi):visE bs hi i s=visE bs hi (i+1) (vis s i):=by
 unfold visE
 obtain ⟨n,hn⟩:∃ n,bs.length - i=n+1:=⟨bs.length - i - 1,by omega⟩
 rw[hn,visF,if_pos ⟨h1,h2⟩,show bs.length - (i+1)=n by omega]
theorem visE_n {bs:List Int}{hi:Int}{i:Nat}{s:DvS}(h:¬(i<bs.length∧bs.getD i default≤hi)):visE bs hi i s=s:=by
 unfold visE
 cases hn:bs.length - i with
 | zero=>rfl
 | succ n=>rw[visF,if_neg h]
def visR (bs:List Int) (s:DvS) (r:Rg):DvS:=visE bs r.2 (cntL bs r.1) s
def visK (bs:List Int) (s:DvS) (X:List Rg) (k:Nat):DvS:=(X.take k).foldl (visR bs) s
theorem visK_succ {bs:List Int}{s:DvS}{X:List Rg}{k:Nat}(h:k<X.length):visK bs s X (k+1)=visR bs (visK bs s X k) (X.getD k default):=by
 unfold visK
 rw[List.take_succ_eq_append_getElem h,List.foldl_append,List.foldl_cons,List.foldl_nil,show X.getD k default=X[k] by simp[List.getD_eq_getElem?_getD,h]]
def dv0 (s:List Int × Int):DvS:=⟨s.1,s.2,fun _=>none⟩
def divS (bs:List Int) (s:List Int × Int) (X:List Rg):List Int × Int:=((visK bs (dv0 s) X X.length).cl,(visK bs (dv0 s) X X.length).cnt)
def divK (bs:List Int) (s:List Int × Int) (S:List (List Rg)) (k:Nat):List Int × Int:=(S.take k).foldl (divS bs) s
theorem divK_succ {bs:List Int}{s:List Int × Int}{S:List (List Rg)}{k:Nat}(h:k<S.length):divK bs s S (k+1)=divS bs (divK bs s S k) (S.getD k default):=by
 unfold divK
 rw[List.take_succ_eq_append_getElem h,List.foldl_append,List.foldl_cons,List.foldl_nil,show S.getD k default=S[k] by simp[List.getD_eq_getElem?_getD,h]]
theorem visF_len (bs:List Int) (hi:Int):∀ f i s,(visF bs hi f i s).cl.length=s.cl.length∧s.cnt≤(visF bs hi f i s).cnt∧(visF bs hi f i s).cnt≤s.cnt+f
 | 0,i,s=>⟨rfl,Int.le_refl _,by show s.cnt≤_;omega⟩
 | f+1,i,s=>by
  rw[visF]
  split
  ·obtain ⟨h1,h2,h3⟩:=visF_len bs hi f (i+1) (vis s i)
   have:=vis_cnt s i
   exact ⟨h1.trans (vis_len s i),by omega,by omega⟩
  ·exact ⟨rfl,Int.le_refl _,by omega⟩
theorem visR_len (bs:List Int) (s:DvS) (r:Rg):(visR bs s r).cl.length=s.cl.length∧s.cnt≤(visR bs s r).cnt∧(visR bs s r).cnt≤s.cnt+bs.length:=by
 have:=visF_len bs r.2 (bs.length - cntL bs r.1) (cntL bs r.1) s
 exact ⟨this.1,this.2.1,by have:=this.2.2;show (visF _ _ _ _ _).cnt≤_;omega⟩
theorem visK_len (bs:List Int) (s:DvS) (X:List Rg):∀ k,k≤X.length→(visK bs s X k).cl.length=s.cl.length∧s.cnt≤(visK bs s X k).cnt∧(visK bs s X k).cnt≤s.cnt+bs.length*k
 | 0,_=>⟨rfl,Int.le_refl _,by show s.cnt≤_;omega⟩
 | k+1,h=>by
  rw[visK_succ h]
  obtain ⟨h1,h2,h3⟩:=visK_len bs s X k (by omega)
  obtain ⟨g1,g2,g3⟩:=visR_len bs (visK bs s X k) (X.getD k default)
  refine ⟨g1.trans h1,by omega,?_⟩
  rw[Int.natCast_add,Int.mul_add]
  simp only[Int.natCast_one,Int.mul_one]
  omega
theorem divK_len (bs:List Int) (s:List Int × Int) (S:List (List Rg)) (m:Nat) (hm:∀ X∈S,X.length≤m):∀ k,k≤S.length→(divK bs s S k).1.length=s.1.length∧s.2≤(divK bs s S k).2∧(divK bs s S k).2≤s.2+bs.length*m*k
 | 0,_=>⟨rfl,Int.le_refl _,by show s.2≤_;simp⟩
 | k+1,h=>by
  rw[divK_succ h]
  obtain ⟨h1,h2,h3⟩:=divK_len bs s S m hm k (by omega)
  obtain ⟨g1,g2,g3⟩:=visK_len bs (dv0 (divK bs s S k)) (S.getD k default) _ (Nat.le_refl _)
  have hx:=hm _ (getD_mem' h)
  refine ⟨g1.trans h1,Int.le_trans h2 g2,?_⟩
  have e1:(bs.length:Int)*((S.getD k default).length:Nat)≤bs.length*m:=Int.mul_le_mul_of_nonneg_left (by omega) (by omega)
  rw[Int.natCast_add,Int.mul_add]
  simp only[Int.natCast_one,Int.mul_one]
  show (visK _ _ _ _).cnt≤_
  have g3:(visK bs (dv0 (divK bs s S k)) (S.getD k default) (S.getD k default).length).cnt≤(divK bs s S k).2+bs.length*((S.getD k default).length:Nat):=g3
  omega
def begR (acc:List Int) (r:Rg):List Int:=acc++[r.1,r.2+1]
def begK (acc:List Int) (X:List Rg) (k:Nat):List Int:=(X.take k).foldl begR acc
theorem begK_succ {acc:List Int}{X:List Rg}{k:Nat}(h:k<X.length):begK acc X (k+1)=begK acc X k++[(X.getD k default).1,(X.getD k default).2+1]:=by
 unfold begK
 rw[List.take_succ_eq_append_getElem h,List.foldl_append,List.foldl_cons,List.foldl_nil,show X.getD k default=X[k] by simp[List.getD_eq_getElem?_getD,h]]
 rfl
def begS (acc:List Int) (X:List Rg):List Int:=begK acc X X.length
def begA (S:List (List Rg)) (k:Nat):List Int:=(S.take k).foldl begS [0]
theorem begA_succ {S:List (List Rg)}{k:Nat}(h:k<S.length):begA S (k+1)=begS (begA S k) (S.getD k default):=by
 unfold begA
 rw[List.take_succ_eq_append_getElem h,List.foldl_append,List.foldl_cons,List.foldl_nil,show S.getD k default=S[k] by simp[List.getD_eq_getElem?_getD,h]]
theorem begK_len (acc:List Int) (X:List Rg):∀ k,k≤X.length→(begK acc X k).length=acc.length+2*k
 | 0,_=>rfl
 | k+1,h=>by
  rw[begK_succ h,List.length_append,begK_len acc X k (by omega)]
  simp only[List.length_cons,List.length_nil]
  omega
theorem begA_len (S:List (List Rg)) (m:Nat) (hm:∀ X∈S,X.length≤m):∀ k,k≤S.length→0<(begA S k).length∧(begA S k).length≤1+2*m*k
 | 0,_=>⟨Nat.zero_lt_one,by show 1≤_;omega⟩
 | k+1,h=>by
  rw[begA_succ h]
  obtain ⟨h1,h2⟩:=begA_len S m hm k (by omega)
  have hx:=hm _ (getD_mem' h)
  unfold begS
  rw[begK_len _ _ _ (Nat.le_refl _)]
  refine ⟨by omega,?_⟩
  rw[Nat.mul_add]
  omega
def cutB (S:List (List Rg)):List Int:=Lib.compact (sortL (begA S S.length))
def begF (S:List (List Rg)):List Int:=if (cutB S).getD ((cutB S).length - 1) default>1114111 then (cutB S).take ((cutB S).length - 1) else cutB S
def clsF (S:List (List Rg)):List Int:=(divK (begF S) (List.replicate (begF S).length 0,1) S S.length).1
def clsP (S:List (List Rg)):List (List Rg):=colL (begF S) (clsF S)
end Go.Proofs
namespace Go.Proofs
open Go Go.Sx
variable {mx:Int}{pb:Bool}
attribute [local irreducible] exPs exCk exSch exAlt
noncomputable def cDv:Code:=(Tryz.f83.body).getD .skip
def Γdv:Ctx:=fun f=>match f with
 | 84=>some (.pure ctBin)
 | _=>none
theorem Γdv_ok:CtxOk Tryz.prog (GlT mx pb) Γdv:=by
 intro f h hh
 simp only[Γdv] at hh
 split at hh<;>simp at hh<;>subst hh
 exact bin_ok
def mpI (ins:Int→Option Int):KV→Option D
 | .i .i64 c=>match ins c with|some d=>some (.v (.int .i64 d))|none=>none
 | _=>none
theorem mp0 {ρ:List Nat}{key:KV}:OptRen ρ none (mpI (fun _=>none) key):=by
 unfold mpI
 split
 ·split<;>rename_i h
  ·simp at h
  ·exact trivial
 ·exact trivial
theorem mpR {ρ:List Nat}{f:KV→Option D}{ins:Int→Option Int}(h:∀ key,f key=mpI ins key) (key:KV):OptRen ρ (f key) (mpI ins key):=by
 rw[h]
 unfold mpI
 split
 ·split<;>rename_i h
  ·exact ⟨Ent.refl _,rfl⟩
  ·exact trivial
 ·exact trivial
theorem StLe.five (ρ:List Nat) {tm tm':List (Nat × D)}{ow ow':List Own}(h1:renT ρ tm tm') (h2:renO ρ ow ρ ow') (hn:ρ.Nodup) (hm:∀ i,i<5→ρ[i]?=some i):StLe 5 ⟨tm,ow,[]⟩ ⟨tm',ow',[]⟩:=StLe.renm ρ h1 h2 hn hm (by simp)
theorem mpI_y {ins:Int→Option Int}{c:Int}{d:D}(h:mpI ins (.i .i64 c)=some d):∃ x,ins c=some x∧d=.v (.int .i64 x):=by
 unfold mpI at h
 dsimp only at h
 split at h<;>simp at h
 rename_i x hx
 exact ⟨x,hx,h.symm⟩
theorem mpI_n {ins:Int→Option Int}{c:Int}(h:mpI ins (.i .i64 c)=none):ins c=none:=by
 unfold mpI at h
 dsimp only at h
 split at h<;>simp at h
 assumption
theorem mpI_set {ins:Int→Option Int}{c v:Int}{key:KV}:(if key=.i .i64 c then some (D.v (.int .i64 v)) else mpI ins key)=mpI (fun c'=>if c'=c then some v else ins c') key:=by
 by_cases h:key=.i .i64 c
 ·rw[if_pos h,h]
  unfold mpI
  dsimp only
  rw[if_pos rfl]
 ·rw[if_neg h]
  unfold mpI
  split
  ·rename_i c'
   dsimp only
   rw[if_neg (fun e=>h (by rw[e]))]
  ·rfl
theorem own_upd {ρ:List Nat}{e i:Nat}{x:Int}{cl:List Int}:OwnRen ρ (.row e 1 cl.length (updF (fun a j=>intD (cl.getD a default) j) i 0 [.v (.int .i64 x)])) (rowL e 1 intD (cl.set i x)):=by
 refine ⟨rfl,rfl,List.length_set.symm,fun a ha j hj=>Ent.of_eq ?_⟩
 obtain rfl:j=0:=(by omega)
 show updF _ i 0 _ a 0=intD ((cl.set i x).getD a default) 0
 unfold updF
 by_cases h:a=i
 ·subst h
  simp[List.getD_eq_getElem?_getD,ha,intD]
 ·have h2:¬i=a:=fun e=>h e.symm
  simp[List.getD_eq_getElem?_getD,h,h2,intD]
def owD (B:List Int) (X:List Rg) (cl:List Int) (cnt:Int):List Own:=[.cells 129 [intsD B],.cells 129 [.row 3],.cells 3 [.v (.int .i64 cnt)],rowL 3 1 intD cl,.cells 24 [stD X 0]]
set_option maxHeartbeats 8000000 in
theorem div_walk {Y:Ys}{k:D→List Own→Prop}{B:List Int}{X:List Rg}{s:List Int × Int}(h0:0<B.length) (h1:B.length≤100000) (h2:B.Pairwise (· ≤ ·)) (h3:X.length≤12) (h4:s.1.length=B.length) (h5:0≤s.2∧s.2≤4000000000000000)
  (hK:∀ f,k (.tu []) (owD B X (divS B s X).1 (divS B s X).2++[.map 3 3 (.i .i64) f])):
  inlW true Γdv Tryz.T (GlT mx pb) Tryz.f83 cDv Y [setD X,.own 0 0,.own 1 0,.own 2 0] (owD B X s.1 s.2) k:=by
 refine ⟨by show 4≤71;decide,?_⟩
 repeat' (first|refine gw ?_|(first|refine br ?_ ?_|refine brF ?_ ?_)<;>intro q_<;>try simp only[nz] at q_)
 refine ⟨0,Nat,fun m=>⟨[(1,.own 0 0),(2,.own 1 0),(3,.own 2 0),(5,.mp 5),(14,rgsD X),(15,.v (.int .i64 X.length)),(16,.v (.int .i64 m))],[.cells 129 [intsD B],.cells 129 [.row 3],.cells 3 [.v (.int .i64 (visK B (dv0 s) X m).cnt)],rowL 3 1 intD (visK B (dv0 s) X m).cl,.cells 24 [stD X 0],.map 3 3 (.i .i64) (mpI (visK B (dv0 s) X m).ins)],[]⟩,fun m=>m≤X.length,fun m=>X.length - m,fun _=>(by show 5≤6;omega),⟨0,Nat.zero_le _,StLe.five [0,1,2,3,4,6] tmS ⟨⟨rfl,EntL.refl _,rfl⟩,⟨rfl,EntL.refl _,rfl⟩,⟨rfl,EntL.refl _,rfl⟩,⟨rfl,rfl,rfl,fun a ha j hj=>Ent.refl _⟩,⟨rfl,EntL.refl _,rfl⟩,⟨rfl,rfl,rfl,fun key=>mp0⟩,trivial⟩ (by decide) (by decide)⟩,?_⟩
 intro m (hm:m≤X.length)
 obtain ⟨v1,v2,v3⟩:=visK_len B (dv0 s) X m hm
 replace v1:(visK B (dv0 s) X m).cl.length=B.length:=v1.trans h4
 replace v2:s.2≤(visK B (dv0 s) X m).cnt:=v2
 replace v3:(visK B (dv0 s) X m).cnt≤s.2+1200000:=by
  have e:B.length*m≤100000*12:=Nat.mul_le_mul h1 (by omega)
  have v3:(visK B (dv0 s) X m).cnt≤s.2+(B.length:Int)*m:=v3
  have e2:((B.length*m:Nat):Int)=(B.length:Int)*m:=Int.natCast_mul _ _
  omega
 by_cases hml:m<X.length
 ·have pb1:ctBin.pre (B,(X.getD m default).1):=⟨h0,(by show B.length<4611686018427387904;omega),h2⟩
  have hcl:cntL B (X.getD m default).1≤B.length:=List.countP_le_length
  repeat' (first|refine gw ?_|(first|refine br ?_ ?_|refine brF ?_ ?_)<;>intro q_<;>try simp only[nz] at q_)
  refine ⟨0,Nat × DvS,fun|(i,t)=>⟨[(1,.own 0 0),(2,.own 1 0),(3,.own 2 0),(5,.mp 5),(7,.own 6 0),(8,.v (.int .i64 i)),(14,rgsD X),(15,.v (.int .i64 X.length)),(16,.v (.int .i64 m))],[.cells 129 [intsD B],.cells 129 [.row 3],.cells 3 [.v (.int .i64 t.cnt)],rowL 3 1 intD t.cl,.cells 24 [stD X 0],.map 3 3 (.i .i64) (mpI t.ins),.cells 82 [.v (.int .i64 (X.getD m default).1),.v (.int .i64 (X.getD m default).2)]],[]⟩,fun|(i,t)=>i≤B.length∧t.cl.length=B.length∧0≤t.cnt∧t.cnt≤s.2+1200000+i∧visE B (X.getD m default).2 i t=visR B (visK B (dv0 s) X m) (X.getD m default),fun x=>B.length - x.1,fun _=>(by show 5≤7;omega),⟨(cntL B (X.getD m default).1,visK B (dv0 s) X m),⟨hcl,v1,(by show 0≤(visK B (dv0 s) X m).cnt;omega),(by show (visK B (dv0 s) X m).cnt≤_;omega),rfl⟩,StLe.five [0,1,2,3,4,5,6] tmS ⟨⟨rfl,EntL.refl _,rfl⟩,⟨rfl,EntL.refl _,rfl⟩,⟨rfl,EntL.refl _,rfl⟩,⟨rfl,rfl,rfl,fun a ha j hj=>Ent.refl _⟩,⟨rfl,EntL.refl _,rfl⟩,⟨rfl,rfl,rfl,mpR fun _=>rfl⟩,⟨rfl,EntL.refl _,rfl⟩,trivial⟩ (by decide) (by decide)⟩,?_⟩
  rintro ⟨i,t⟩ ⟨(t1:i≤B.length),(t2:t.cl.length=B.length),(t3:0≤t.cnt),(t4:t.cnt≤s.2+1200000+i),(t5:visE B (X.getD m default).2 i t=visR B (visK B (dv0 s) X m) (X.getD m default))⟩
  by_cases hi:i<B.length
  ·by_cases hle:B.getD i default≤(X.getD m default).2
   ·have hc:t.cl.getD (i:Int).toNat default=t.cl.getD i default:=rfl
    repeat' (first|refine gw ?_|(first|refine br ?_ ?_|refine brF ?_ ?_)<;>intro q_<;>try simp only[nz] at q_)
    refine ⟨fun d hd=>?_,fun hn=>?_⟩
    ·obtain ⟨x,hx,rfl⟩:=mpI_y hd
     repeat' (first|refine gx ?_|(first|refine br ?_ ?_|refine brF ?_ ?_)<;>intro q_<;>try simp only[nz] at q_)
     refine .inr ⟨.stage [0,1,2,3,4,5,6] (.alt 7 [0,1] (.stage [8] (.alt 9 [] (.done []) .nil)) .nil),by decide +kernel,?_⟩
     repeat' (first|refine gx ?_|refine xp1 ?_|refine xp0 ?_|refine xc1 ?_ ?_|refine xc0 ?_|refine xs1 ?_|refine xs2 ?_|refine xs3 ?_|refine xs4 ?_ ?_|refine xa1 ?_|exact rfl)
     refine ⟨fun d hd2=>?_,fun hn2=>absurd (hd.symm.trans hn2) (fun e=>nomatch e)⟩
     obtain rfl:D.v (.int .i64 x)=d:=Option.some.inj (hd.symm.trans hd2)
     repeat' (first|refine gx ?_|refine xp1 ?_|refine xp0 ?_|refine xc1 ?_ ?_|refine xc0 ?_|refine xs1 ?_|refine xs2 ?_|refine xs3 ?_|refine xs4 ?_ ?_|refine xa1 ?_|exact rfl)
     repeat' (first|refine gw ?_|(first|refine br ?_ ?_|refine brF ?_ ?_)<;>intro q_<;>try simp only[nz] at q_)
     refine ⟨(i+1,⟨t.cl.set i x,t.cnt,t.ins⟩),⟨hi,(by show (t.cl.set i x).length=B.length;rw[List.length_set];exact t2),t3,(by show t.cnt≤s.2+1200000+((i+1:Nat):Int);omega),(by rw[← t5,visE_y hi hle];exact congrArg _ (vis_y (i:=i) hx).symm)⟩,(by show B.length - (i+1)<B.length - i;omega),StLe.five [0,1,2,3,4,5,6] tmS ⟨⟨rfl,EntL.refl _,rfl⟩,⟨rfl,EntL.refl _,rfl⟩,⟨rfl,EntL.refl _,rfl⟩,own_upd,⟨rfl,EntL.refl _,rfl⟩,⟨rfl,rfl,rfl,mpR fun _=>rfl⟩,⟨rfl,EntL.refl _,rfl⟩,trivial⟩ (by decide) (by decide)⟩
    ·have hx:=mpI_n hn
     repeat' (first|refine gx ?_|(first|refine br ?_ ?_|refine brF ?_ ?_)<;>intro q_<;>try simp only[nz] at q_)
     refine .inr ⟨.stage [0,1,2,3,4,5] (.alt 6 [] (.done []) .nil),by decide +kernel,?_⟩
     repeat' (first|refine gx ?_|refine xp1 ?_|refine xp0 ?_|refine xc1 ?_ ?_|refine xc0 ?_|refine xs1 ?_|refine xs2 ?_|refine xs3 ?_|refine xs4 ?_ ?_|refine xa1 ?_|exact rfl)
     refine .inr ⟨.stage [0,1,2,3,4,5,6] (.alt 7 [0,1] (.stage [8] (.alt 9 [] (.done []) .nil)) .nil),by decide +kernel,?_⟩
     repeat' (first|refine gx ?_|refine xp1 ?_|refine xp0 ?_|refine xc1 ?_ ?_|refine xc0 ?_|refine xs1 ?_|refine xs2 ?_|refine xs3 ?_|refine xs4 ?_ ?_|refine xa1 ?_|exact rfl)
     refine ⟨fun d hd2=>?_,fun hn2=>?_⟩
     ·obtain rfl:D.v (.int .i64 t.cnt)=d:=Option.some.inj ((if_pos rfl).symm.trans hd2)
      repeat' (first|refine gx ?_|refine xp1 ?_|refine xp0 ?_|refine xc1 ?_ ?_|refine xc0 ?_|refine xs1 ?_|refine xs2 ?_|refine xs3 ?_|refine xs4 ?_ ?_|refine xa1 ?_|exact rfl)
      repeat' (first|refine gw ?_|(first|refine br ?_ ?_|refine brF ?_ ?_)<;>intro q_<;>try simp only[nz] at q_)
      refine ⟨(i+1,⟨t.cl.set i t.cnt,t.cnt+1,fun c=>if c=t.cl.getD i default then some t.cnt else t.ins c⟩),⟨hi,(by show (t.cl.set i t.cnt).length=B.length;rw[List.length_set];exact t2),(by show 0≤t.cnt+1;omega),(by show t.cnt+1≤s.2+1200000+((i+1:Nat):Int);omega),(by rw[← t5,visE_y hi hle];exact congrArg _ (vis_n (i:=i) hx).symm)⟩,(by show B.length - (i+1)<B.length - i;omega),StLe.five [0,1,2,3,4,5,6] tmS ⟨⟨rfl,EntL.refl _,rfl⟩,⟨rfl,EntL.refl _,rfl⟩,⟨rfl,EntL.refl _,rfl⟩,own_upd,⟨rfl,EntL.refl _,rfl⟩,⟨rfl,rfl,rfl,mpR fun key=>mpI_set⟩,⟨rfl,EntL.refl _,rfl⟩,trivial⟩ (by decide) (by decide)⟩
     ·exact absurd ((if_pos rfl).symm.trans hn2) (fun e=>nomatch e)
   ·repeat' (first|refine gw ?_|(first|refine br ?_ ?_|refine brF ?_ ?_)<;>intro q_<;>try simp only[nz] at q_)
    exact ⟨m+1,hml,(by show X.length - (m+1)<X.length - m;omega),StLe.five [0,1,2,3,4,5] tmS (by
     rw[visK_succ hml,← t5,visE_n (fun h=>hle h.2)]
     exact ⟨⟨rfl,EntL.refl _,rfl⟩,⟨rfl,EntL.refl _,rfl⟩,⟨rfl,EntL.refl _,rfl⟩,⟨rfl,rfl,rfl,fun a ha j hj=>Ent.refl _⟩,⟨rfl,EntL.refl _,rfl⟩,⟨rfl,rfl,rfl,mpR fun _=>rfl⟩,trivial⟩) (by decide) (by decide)⟩
  ·repeat' (first|refine gw ?_|(first|refine br ?_ ?_|refine brF ?_ ?_)<;>intro q_<;>try simp only[nz] at q_)
   exact ⟨m+1,hml,(by show X.length - (m+1)<X.length - m;omega),StLe.five [0,1,2,3,4,5] tmS (by
    rw[visK_succ hml,← t5,visE_n (fun h=>hi h.1)]
    exact ⟨⟨rfl,EntL.refl _,rfl⟩,⟨rfl,EntL.refl _,rfl⟩,⟨rfl,EntL.refl _,rfl⟩,⟨rfl,rfl,rfl,fun a ha j hj=>Ent.refl _⟩,⟨rfl,EntL.refl _,rfl⟩,⟨rfl,rfl,rfl,mpR fun _=>rfl⟩,trivial⟩) (by decide) (by decide)⟩
 ·have e:m=X.length:=by omega
  subst e
  repeat' (first|refine gw ?_|(first|refine br ?_ ?_|refine brF ?_ ?_)<;>intro q_<;>try simp only[nz] at q_)
  exact hK _
end Go.Proofs
