import Derived.Shelf.Strconv.Itoa4
import Derived.Shelf.Sort.Plain
import Derived.Shelf.Slices.CompactI
import Derived.Shelf.Slices.SearchI
import Derived.Shelf.Spec.SlicesGrow
import Derived.Test.YtcihhjjmcompkaaGreatDoorProg
import Derived.Test.YtcihhjjmcompkaaGreatDoorRa0
import Derived.Test.YtcihhjjmcompkaaGreatDoorCvz
import Derived.Test.YtcihhjjmcompkaaGreatDoorC1
import Derived.Test.YtcihhjjmcompkaaGreatDoorCm3z
set_option linter.unusedVariables false
set_option linter.unusedSimpArgs false
namespace Go.Proofs
open Go.Shelf
def Tryz.lays171_ren:Go.Shelf.Ren:=⟨fun|171=>77|243=>129|246=>172|283=>225|284=>226|285=>227|286=>228|129=>187|317=>259|318=>260|319=>261|320=>262|337=>277|338=>278|n=>n,fun|3=>3|9=>9|2=>2|4=>4|171=>230|0=>0|53=>212|37=>61|5=>5|173=>232|212=>267|51=>210|20=>20|213=>268|46=>172|232=>300|233=>301|n=>n,fun|17=>4|18=>6|19=>7|n=>n⟩
theorem Tryz.lays171:Go.Proofs.Lays.n171 Tryz.prog Tryz.lays171_ren:={
 mixed:=by kernel_rfl
 f129:=Tryz.func187.trans (congrArg some (by kernel_rfl))
 f171:=Tryz.func77.trans (congrArg some (by kernel_rfl))
 f243:=Tryz.func129.trans (congrArg some (by kernel_rfl))
 f246:=Tryz.func172.trans (congrArg some (by kernel_rfl))
 f283:=Tryz.func225.trans (congrArg some (by kernel_rfl))
 f284:=Tryz.func226.trans (congrArg some (by kernel_rfl))
 f285:=Tryz.func227.trans (congrArg some (by kernel_rfl))
 f286:=Tryz.func228.trans (congrArg some (by kernel_rfl))
 f317:=Tryz.func259.trans (congrArg some (by kernel_rfl))
 f318:=Tryz.func260.trans (congrArg some (by kernel_rfl))
 f319:=Tryz.func261.trans (congrArg some (by kernel_rfl))
 f320:=Tryz.func262.trans (congrArg some (by kernel_rfl))
 f337:=Tryz.func277.trans (congrArg some (by kernel_rfl))
 f338:=Tryz.func278.trans (congrArg some (by kernel_rfl))
 t0:=Tryz.underlying0
 a0:=Tryz.isAgg0
 z0:=Tryz.sizeOf0
 v0:=Tryz.zeroValue0
 t2:=Tryz.underlying2
 a2:=Tryz.isAgg2
 z2:=Tryz.sizeOf2
 v2:=Tryz.zeroValue2
 t3:=Tryz.underlying3
 a3:=Tryz.isAgg3
 z3:=Tryz.sizeOf3
 v3:=Tryz.zeroValue3
 t4:=Tryz.underlying4
 a4:=Tryz.isAgg4
 z4:=Tryz.sizeOf4
 v4:=Tryz.zeroValue4
 t5:=Tryz.underlying5
 a5:=Tryz.isAgg5
 z5:=Tryz.sizeOf5
 v5:=Tryz.zeroValue5
 t9:=Tryz.underlying9
 a9:=Tryz.isAgg9
 z9:=Tryz.sizeOf9
 v9:=Tryz.zeroValue9
 t20:=Tryz.underlying20
 a20:=Tryz.isAgg20
 z20:=Tryz.sizeOf20
 v20:=Tryz.zeroValue20
 t37:=Tryz.underlying61
 a37:=Tryz.isAgg61
 z37:=Tryz.sizeOf61
 v37:=Tryz.zeroValue61
 t46:=Tryz.underlying172
 a46:=Tryz.isAgg172
 z46:=Tryz.sizeOf172
 v46:=Tryz.zeroValue172
 t51:=Tryz.underlying210
 a51:=Tryz.isAgg210
 z51:=Tryz.sizeOf210
 v51:=Tryz.zeroValue210
 t53:=Tryz.underlying212
 a53:=Tryz.isAgg212
 z53:=Tryz.sizeOf212
 v53:=Tryz.zeroValue212
 t171:=Tryz.underlying230
 a171:=Tryz.isAgg230
 z171:=Tryz.sizeOf230
 v171:=Tryz.zeroValue230
 t173:=Tryz.underlying232
 a173:=Tryz.isAgg232
 z173:=Tryz.sizeOf232
 v173:=Tryz.zeroValue232
 t212:=Tryz.underlying267
 a212:=Tryz.isAgg267
 z212:=Tryz.sizeOf267
 v212:=Tryz.zeroValue267
 t213:=Tryz.underlying268
 a213:=Tryz.isAgg268
 z213:=Tryz.sizeOf268
 t232:=Tryz.underlying300
 a232:=Tryz.isAgg300
 z232:=Tryz.sizeOf300
 v232:=Tryz.zeroValue300
 t233:=Tryz.underlying301
 a233:=Tryz.isAgg301
 z233:=Tryz.sizeOf301
 v233:=Tryz.zeroValue301
 g17:=by kernel_rfl
 g18:=by kernel_rfl
 g19:=by kernel_rfl }
def Tryz.lays189_ren:Go.Shelf.Ren:=⟨fun|189=>81|125=>134|257=>133|128=>186|129=>187|294=>178|295=>179|296=>180|297=>181|298=>182|299=>183|216=>135|300=>184|301=>185|328=>234|329=>235|330=>236|331=>237|332=>238|215=>141|343=>266|n=>n,fun|28=>129|3=>3|46=>172|0=>0|51=>210|53=>212|4=>4|183=>204|182=>203|131=>133|5=>5|9=>9|218=>237|222=>241|228=>274|229=>275|n=>n,fun|n=>n⟩
theorem Tryz.lays189:Go.Proofs.Lays.n189 Tryz.prog Tryz.lays189_ren:={
 mixed:=by kernel_rfl
 f125:=Tryz.func134.trans (congrArg some (by kernel_rfl))
 f128:=Tryz.func186.trans (congrArg some (by kernel_rfl))
 f129:=Tryz.func187.trans (congrArg some (by kernel_rfl))
 f189:=Tryz.func81.trans (congrArg some (by kernel_rfl))
 f215:=Tryz.func141.trans (congrArg some (by kernel_rfl))
 f216:=Tryz.func135.trans (congrArg some (by kernel_rfl))
 f257:=Tryz.func133.trans (congrArg some (by kernel_rfl))
 f294:=Tryz.func178.trans (congrArg some (by kernel_rfl))
 f295:=Tryz.func179.trans (congrArg some (by kernel_rfl))
 f296:=Tryz.func180.trans (congrArg some (by kernel_rfl))
 f297:=Tryz.func181.trans (congrArg some (by kernel_rfl))
 f298:=Tryz.func182.trans (congrArg some (by kernel_rfl))
 f299:=Tryz.func183.trans (congrArg some (by kernel_rfl))
 f300:=Tryz.func184.trans (congrArg some (by kernel_rfl))
 f301:=Tryz.func185.trans (congrArg some (by kernel_rfl))
 f328:=Tryz.func234.trans (congrArg some (by kernel_rfl))
 f329:=Tryz.func235.trans (congrArg some (by kernel_rfl))
 f330:=Tryz.func236.trans (congrArg some (by kernel_rfl))
 f331:=Tryz.func237.trans (congrArg some (by kernel_rfl))
 f332:=Tryz.func238.trans (congrArg some (by kernel_rfl))
 f343:=Tryz.func266.trans (congrArg some (by kernel_rfl))
 t0:=Tryz.underlying0
 a0:=Tryz.isAgg0
 z0:=Tryz.sizeOf0
 v0:=Tryz.zeroValue0
 t3:=Tryz.underlying3
 a3:=Tryz.isAgg3
 z3:=Tryz.sizeOf3
 v3:=Tryz.zeroValue3
 t4:=Tryz.underlying4
 a4:=Tryz.isAgg4
 z4:=Tryz.sizeOf4
 v4:=Tryz.zeroValue4
 t5:=Tryz.underlying5
 a5:=Tryz.isAgg5
 z5:=Tryz.sizeOf5
 v5:=Tryz.zeroValue5
 t9:=Tryz.underlying9
 a9:=Tryz.isAgg9
 z9:=Tryz.sizeOf9
 v9:=Tryz.zeroValue9
 t28:=Tryz.underlying129
 a28:=Tryz.isAgg129
 z28:=Tryz.sizeOf129
 v28:=Tryz.zeroValue129
 t46:=Tryz.underlying172
 a46:=Tryz.isAgg172
 z46:=Tryz.sizeOf172
 v46:=Tryz.zeroValue172
 t51:=Tryz.underlying210
 a51:=Tryz.isAgg210
 z51:=Tryz.sizeOf210
 v51:=Tryz.zeroValue210
 t53:=Tryz.underlying212
 a53:=Tryz.isAgg212
 z53:=Tryz.sizeOf212
 v53:=Tryz.zeroValue212
 t131:=Tryz.underlying133
 a131:=Tryz.isAgg133
 z131:=Tryz.sizeOf133
 v131:=Tryz.zeroValue133
 t182:=Tryz.underlying203
 a182:=Tryz.isAgg203
 z182:=Tryz.sizeOf203
 v182:=Tryz.zeroValue203
 t183:=Tryz.underlying204
 a183:=Tryz.isAgg204
 z183:=Tryz.sizeOf204
 v183:=Tryz.zeroValue204
 t218:=Tryz.underlying237
 a218:=Tryz.isAgg237
 z218:=Tryz.sizeOf237
 v218:=Tryz.zeroValue237
 t222:=Tryz.underlying241
 a222:=Tryz.isAgg241
 z222:=Tryz.sizeOf241
 v222:=Tryz.zeroValue241
 t228:=Tryz.underlying274
 a228:=Tryz.isAgg274
 z228:=Tryz.sizeOf274
 v228:=Tryz.zeroValue274
 t229:=Tryz.underlying275
 a229:=Tryz.isAgg275
 z229:=Tryz.sizeOf275
 v229:=Tryz.zeroValue275 }
def Tryz.laysNm220_ren:Go.Shelf.Ren:=⟨fun|20=>82|n=>n,fun|22=>129|3=>3|4=>4|0=>0|n=>n,fun|n=>n⟩
theorem Tryz.laysNm220:Go.Proofs.Lays2.n20 Tryz.prog Tryz.laysNm220_ren:={
 mixed:=by kernel_rfl
 f20:=Tryz.func82.trans (congrArg some (by kernel_rfl))
 t0:=Tryz.underlying0
 a0:=Tryz.isAgg0
 z0:=Tryz.sizeOf0
 v0:=Tryz.zeroValue0
 t3:=Tryz.underlying3
 a3:=Tryz.isAgg3
 z3:=Tryz.sizeOf3
 v3:=Tryz.zeroValue3
 t4:=Tryz.underlying4
 a4:=Tryz.isAgg4
 z4:=Tryz.sizeOf4
 v4:=Tryz.zeroValue4
 t22:=Tryz.underlying129
 a22:=Tryz.isAgg129
 z22:=Tryz.sizeOf129
 v22:=Tryz.zeroValue129
 i3:=by kernel_rfl }
def Tryz.laysNm225_ren:Go.Shelf.Ren:=⟨fun|25=>84|31=>135|32=>136|37=>141|n=>n,fun|22=>129|3=>3|4=>4|40=>172|0=>0|n=>n,fun|n=>n⟩
theorem Tryz.laysNm225:Go.Proofs.Lays2.n25 Tryz.prog Tryz.laysNm225_ren:={
 mixed:=by kernel_rfl
 f25:=Tryz.func84.trans (congrArg some (by kernel_rfl))
 f31:=Tryz.func135.trans (congrArg some (by kernel_rfl))
 f32:=Tryz.func136.trans (congrArg some (by kernel_rfl))
 f37:=Tryz.func141.trans (congrArg some (by kernel_rfl))
 t0:=Tryz.underlying0
 a0:=Tryz.isAgg0
 z0:=Tryz.sizeOf0
 v0:=Tryz.zeroValue0
 t3:=Tryz.underlying3
 a3:=Tryz.isAgg3
 z3:=Tryz.sizeOf3
 v3:=Tryz.zeroValue3
 t4:=Tryz.underlying4
 a4:=Tryz.isAgg4
 z4:=Tryz.sizeOf4
 v4:=Tryz.zeroValue4
 t22:=Tryz.underlying129
 a22:=Tryz.isAgg129
 z22:=Tryz.sizeOf129
 v22:=Tryz.zeroValue129
 t40:=Tryz.underlying172
 a40:=Tryz.isAgg172
 z40:=Tryz.sizeOf172
 v40:=Tryz.zeroValue172 }
def Tryz.growS_ren:Go.Shelf.Ren:=⟨fun|4=>177|n=>n,fun|22=>74|25=>24|3=>3|4=>4|9=>9|20=>20|0=>0|n=>n,fun|n=>n⟩
theorem Tryz.growS:Go.Proofs.Lays8.n4 Tryz.prog Tryz.growS_ren:={
 mixed:=by kernel_rfl
 f4:=⟨Tryz.f177.name,by decide,Tryz.func177.trans (congrArg some (by kernel_rfl))⟩
 t0:=Tryz.underlying0
 a0:=Tryz.isAgg0
 z0:=Tryz.sizeOf0
 v0:=Tryz.zeroValue0
 t3:=Tryz.underlying3
 a3:=Tryz.isAgg3
 z3:=Tryz.sizeOf3
 v3:=Tryz.zeroValue3
 t4:=Tryz.underlying4
 a4:=Tryz.isAgg4
 z4:=Tryz.sizeOf4
 v4:=Tryz.zeroValue4
 t9:=Tryz.underlying9
 a9:=Tryz.isAgg9
 z9:=Tryz.sizeOf9
 v9:=Tryz.zeroValue9
 t20:=Tryz.underlying20
 a20:=Tryz.isAgg20
 z20:=Tryz.sizeOf20
 v20:=Tryz.zeroValue20
 t22:=Tryz.underlying74
 a22:=Tryz.isAgg74
 z22:=Tryz.sizeOf74
 v22:=Tryz.zeroValue74 }
end Go.Proofs
namespace Go.Sx
open Go Go.RowKit
def growT (e sz:Nat):Tr:=fun _ ds ow k =>
 ∃ n:Nat,ds=[.v (.slice none 0 0),.v (.int .i64 n)]∧n≤1000000∧k (.row ow.length) (ow++[.row e sz 0 (fun _ _=>.junk)])
theorem grow_sound {P:Program}{Gl:Nat→Option D}{f:FuncId}{e sz:Nat}(hf:Enters P f)
  (hI:∀ (B:Nat) (w:World) (n:Nat),n≤1000000→B≤w.heap.size →
   Calls P f #[.slice none 0 0,.int .i64 n] w fun r w'=>∃ v',r=.returned v'∧w'.ownsRow B e sz v' 0 []∧w.grownBy w' none∧∀ g,blkOf v'=some g→w.heap.size≤g):
  SoundT P Gl f (growT e sz):=by
 refine ⟨hf,?_⟩
 rintro Y ds ow k ⟨n,rfl,hn,hK⟩ B w0 M0 M E w us hW hG hY hr n'
 refine callsIn_wide.2 ?_
 simp only[RepL] at hr
 obtain ⟨v,r,hus,hv,u2,r2,rfl,hu2,rfl⟩:=hr
 have hv:v=.slice none 0 0:=hv
 have hu2:u2=.int .i64 n:=hu2
 subst hv;subst hu2
 have hus:us = #[.slice none 0 0,.int .i64 n]:=by apply Array.ext';simpa using hus
 subst hus
 refine (hI B w n hn hW.base).mono ?_
 rintro e' w' ⟨v',rfl,hown,hgrow,hfr⟩
 refine ⟨.row ow.length,v',M,E++[v'],_,rfl,hK,Mem.le_refl _,EnvLe.append _ _,hW.grown hgrow hfr ?_,by simp only[Rep];rw[← hW.len,List.getElem?_append_right (Nat.le_refl _)];simp⟩
 simp only[Holds]
 refine ⟨[],hown,fun b hb=>by omega,fun q hq=>?_⟩
 have:=hfr q (blk_of_own hq)
 cases hm:M q with
 | none=>rfl
 | some ob=>have:=(hW.fits _ _ hm).lt;omega
end Go.Sx
namespace Go.Proofs
open Go Go.Sx Go.RowKit Go.Lib
variable {mx:Int}{pb:Bool}
theorem infoSet:(Tryz.prog.info? 24).map (fun i=>(i.zero,i.size,i.bytes))=some (some (Value.agg #[.slice none 0 0]),1,24):=by kernel_rfl
theorem growS_ok:SoundT Tryz.prog (GlT mx pb) 177 (growT 24 1):=by
 refine grow_sound ⟨_,Tryz.func177,by kernel_rfl,by kernel_rfl⟩ ?_
 intro B w n hn hB
 obtain ⟨i,hi,hz,hs,hb⟩:=info_parts infoSet
 by_cases h0:n=0
 ·subst h0
  refine (Any8.slices_Grow_room Tryz.growS none 0 0 0 w (by omega) (by omega) (by omega) (by omega)).mono ?_
  rintro e w' ⟨rfl,rfl⟩
  exact ⟨_,rfl,World.ownsRow_nil _ _ _ _,⟨rfl,rfl,rfl,Nat.le_refl _,fun _ _ _=>rfl⟩,fun g hg=>by simp[blkOf] at hg⟩
 ·refine (Any8.slices_Grow_grow Tryz.growS i _ hi hz (by omega) none 0 0 n [] w (by omega) (by omega) (by rw[hb];omega) (by omega) (by simp) (fun _=>rfl) (fun a ha=>by cases ha)).mono ?_
  rintro e w' ⟨rfl,rfl⟩
  have hG:grownCap w (0+n) 0 24≤maxLen:=grownCap_le_maxLen w _ _ _ (by unfold maxLen;omega)
  have hge:=grownCap_ge w (0+n) 0 24
  have hzc:(Value.agg #[.slice none 0 0]).cells.size=1:=rfl
  refine ⟨_,rfl,World.ownsRow_made w.drew _ _ hB hG ?_,?_,fun g hg=>?_⟩
  ·show (_++Builtin.zeroCells _ _++Builtin.zeroCells _ (grownCap w (0+n) 0 24 - (0+n))).size=grownCap w (0+n) 0 24*1
   generalize grownCap w (0+n) 0 24=G at hge
   simp[Builtin.zeroCells,hzc]
   omega
  ·have h:=World.grownBy_alloc w.drew (Obj.cells
    (#[]++Builtin.zeroCells (Value.agg #[Value.slice none 0 0]).cells (0+n - 0) ++
     Builtin.zeroCells (Value.agg #[Value.slice none 0 0]).cells
      (grownCap w (0+n) 0 (Tryz.growS_ren.t 25) - (0+n)))
    (Tryz.growS_ren.t 25)) none
   exact ⟨h.os,h.tape,h.output,h.size,h.block⟩
  ·simp[blkOf] at hg
   omega
def lsD (L:List (List Rg)):Nat→D
 | 0=>stsD L
 | _=>.junk
def catK (LL:List (List (List Rg))) (k:Nat):List (List Rg):=(LL.take k).flatten
theorem catK_at {LL:List (List (List Rg))}{k:Nat}(h:k<LL.length):catK LL (k+1)=catK LL k++LL.getD k default:=by
 unfold catK
 rw[take_at h,List.flatten_append]
 simp
theorem catK_le (LL:List (List (List Rg))) (k:Nat):(catK LL k).length≤LL.flatten.length:=by
 have:LL.flatten=catK LL k++(LL.drop k).flatten:=by
  unfold catK
  rw[← List.flatten_append,List.take_append_drop]
 rw[this,List.length_append]
 omega
theorem catK_all (LL:List (List (List Rg))):catK LL LL.length=LL.flatten:=by
 unfold catK
 rw[List.take_of_length_le (Nat.le_refl _)]
def ctConcat:Ct:={ ι:=List (List (List Rg)),inp:=fun LL=>[slD 1 lsD LL],out:=fun LL=>stsD LL.flatten,pre:=fun LL=>LL.length≤1000∧LL.flatten.length≤1000 }
def Γcc:Ctx:=fun f=>match f with
 | 177=>some (.gen (growT 24 1))
 | _=>none
theorem Γcc_ok:CtxOk Tryz.prog (GlT mx pb) Γcc:=by
 intro f h hh
 simp only[Γcc] at hh
 split at hh<;>simp at hh<;>subst hh
 ·exact growS_ok
set_option maxHeartbeats 4000000 in
theorem concat_ok:Sound Tryz.prog (GlT mx pb) 132 ctConcat:=by
 refine sound_by (cc:=true) Γcc_ok Tryz.T_ok Tryz.mixed Tryz.func132 rfl (by kernel_rfl) (fun _=>rfl) (fun _ _=>by show 1≤36;decide) ?_
 rintro (LL:List (List (List Rg))) ⟨(hL:LL.length≤1000),(hF:LL.flatten.length≤1000)⟩
 repeat' (first|refine gl ?_|(first|refine br ?_ ?_|refine brF ?_ ?_)<;>intro q_<;>try simp only[nz] at q_)
 refine ⟨0,Nat,fun k=>⟨[(0,slD 1 lsD LL),(3,.v (.int .i64 (catK LL k).length)),(9,slD 1 lsD LL),(10,.v (.int .i64 LL.length)),(11,.v (.int .i64 k))],[],[]⟩,fun k=>k≤LL.length,fun k=>LL.length - k,fun _=>Nat.zero_le _,⟨0,Nat.zero_le _,StLe.ren [] tmS trivial (by decide)⟩,?_⟩
 rintro k hk
 by_cases hlt:k<LL.length
 ·have h1:=catK_le LL (k+1)
  rw[catK_at hlt,List.length_append] at h1
  repeat' (first|refine gl ?_|(first|refine br ?_ ?_|refine brF ?_ ?_)<;>intro q_<;>try simp only[nz] at q_)
  refine ⟨k+1,by show k+1≤LL.length;omega,(by show LL.length - (k+1)<LL.length - k;omega),StLe.ren [] ⟨Ent.refl _,rfl,Ent.int ?_,rfl,Ent.refl _,rfl,Ent.refl _,rfl,Ent.refl _,rfl,trivial⟩ trivial (by decide)⟩
  show ((catK LL k).length:Int)+((LL.getD k default).length:Int)=((catK LL (k+1)).length:Int)
  rw[catK_at hlt,List.length_append]
  omega
 ·have he:k=LL.length:=by omega
  have h1:=catK_le LL k
  repeat' (first|refine gl ?_|(first|refine br ?_ ?_|refine brF ?_ ?_)<;>intro q_<;>try simp only[nz] at q_)
  refine Exists.intro (catK LL k).length ?_
  refine And.intro rfl ?_
  refine And.intro (by omega) ?_
  repeat' (first|refine gl ?_|(first|refine br ?_ ?_|refine brF ?_ ?_)<;>intro q_<;>try simp only[nz] at q_)
  refine ⟨0,Nat,fun k=>⟨[(6,.row 0),(25,slD 1 lsD LL),(26,.v (.int .i64 LL.length)),(27,.v (.int .i64 k))],[rowL 24 1 stD (catK LL k)],[]⟩,fun k=>k≤LL.length,fun k=>LL.length - k,fun _=>Nat.zero_le _,⟨0,Nat.zero_le _,StLe.ren [0] tmS ⟨own_nil,trivial⟩ (by decide)⟩,?_⟩
  clear h1 he hlt hk
  clear k
  rintro k hk
  by_cases hlt:k<LL.length
  ·have h1:=catK_le LL (k+1)
   rw[catK_at hlt,List.length_append] at h1
   repeat' (first|refine gl ?_|(first|refine br ?_ ?_|refine brF ?_ ?_)<;>intro q_<;>try simp only[nz] at q_)
   refine And.intro (by show (catK LL k).length+(LL.getD k default).length≤9223372036854775807;omega) ?_
   repeat' (first|refine gl ?_|(first|refine br ?_ ?_|refine brF ?_ ?_)<;>intro q_<;>try simp only[nz] at q_)
   refine And.intro (by show ((catK LL k).length+(LL.getD k default).length)*24≤140737488355328;omega) ?_
   repeat' (first|refine gl ?_|(first|refine br ?_ ?_|refine brF ?_ ?_)<;>intro q_<;>try simp only[nz] at q_)
   exact ⟨k+1,by show k+1≤LL.length;omega,(by show LL.length - (k+1)<LL.length - k;omega),StLe.ren [1] tmS ⟨by rw[catK_at hlt];exact own_appL,trivial⟩ (by decide)⟩
  ·have he:k=LL.length:=by omega
   repeat' (first|refine gl ?_|(first|refine br ?_ ?_|refine brF ?_ ?_)<;>intro q_<;>try simp only[nz] at q_)
   refine EntR.of rfl ?_
   show Ent (stsD (catK LL k)) (stsD LL.flatten)
   rw[he,catK_all]
   exact Ent.refl _
def lstF {α:Type}(f:D→Option α) (g:Nat→Nat→D):Nat→Nat→Option (List α)
 | 0,_=>some []
 | n+1,i=>match f (g i 0),lstF f g n (i+1) with
  | some a,some l=>some (a::l)
  | _,_=>none
theorem lstF_len {α:Type}{f:D→Option α}{g:Nat→Nat→D}:∀ {n i:Nat}{l:List α},lstF f g n i=some l→l.length=n
 | 0,i,l,h=>by simp[lstF] at h;subst h;rfl
 | n+1,i,l,h=>by
  simp only[lstF] at h
  split at h<;>try (simp at h;done)
  rename_i a l' _ hl
  simp at h;subst h
  rw[List.length_cons,lstF_len hl]
theorem lstF_get {α:Type} [Inhabited α] {f:D→Option α}{g:Nat→Nat→D}:∀ {n i:Nat}{l:List α},lstF f g n i=some l→∀ k,k<n→f (g (i+k) 0)=some (l.getD k default)
 | 0,i,l,h,k,hk=>by omega
 | n+1,i,l,h,k,hk=>by
  simp only[lstF] at h
  split at h<;>try (simp at h;done)
  rename_i a l' ha hl
  simp at h;subst h
  match k with
  | 0=>exact ha
  | k+1 =>
   have:=lstF_get hl k (by omega)
   rw[show i+1+k=i+(k+1) from by omega] at this
   exact this
def slOf {α:Type}(f:D→Option α):D→Option (List α)
 | .sl 1 n g=>lstF f g n 0
 | .v (.slice none 0 0)=>some []
 | _=>none
theorem slOf_ent {α:Type} [Inhabited α] {f:D→Option α}{enc:α→Nat→D}(hf:∀ d a,f d=some a→Ent d (enc a 0)) {d:D}{l:List α}(h:slOf f d=some l):Ent d (slD 1 enc l):=by
 unfold slOf at h
 split at h<;>try (simp at h;done)
 ·refine Ent.sl (lstF_len h).symm fun i hi j hj=>?_
  have hj:j=0:=by omega
  subst hj
  have:=lstF_get h i hi
  rw[Nat.zero_add] at this
  exact hf _ _ this
 ·simp at h;subst h
  exact Ent.nil
theorem slOf_pd {α:Type}{f:D→Option α}{d:D}{l:List α}(h:slOf f d=some l):pd d=true:=by
 unfold slOf at h
 split at h<;>first|rfl|simp at h
def catG:List D→Option D
 | [x]=>match slOf (slOf rgOf) x with
  | some LL=>if decide (LL.length≤1000)&&decide (LL.flatten.length≤1000) then some (stsD LL.flatten) else none
  | none=>none
 | _=>none
theorem catG_ok {ds:List D}{d:D}(h:catG ds=some d):Sound Tryz.prog (GlT mx pb) 132 ⟨Unit,fun _=>ds,fun _=>d,fun _=>True⟩:=by
 unfold catG at h
 split at h<;>try (simp at h;done)
 split at h<;>try (simp at h;done)
 rename_i LL hL
 split at h<;>try (simp at h;done)
 rename_i hc
 simp only[Bool.and_eq_true,decide_eq_true_eq] at hc
 simp only[Option.some.injEq] at h
 subst h
 have hC:Sound Tryz.prog (GlT mx pb) 132 ctConcat:=concat_ok
 refine ⟨hC.1,fun _=>by simp[pdL,slOf_pd hL],fun x hx M w us hf hg hr n=>?_⟩
 exact hC.2.2 LL hc M w us hf hg (EntL.cons (slOf_ent (enc:=lsD) (fun d a h=>slOf_ent (enc:=stD) (fun d a h=>rgOf_ent h) h) hL) (EntL.refl []) _ _ _ hr) n
end Go.Proofs
