import Derived.Test.YtcihhjjmcompkaaGreatDoorEa
import Derived.Test.YtcihhjjmcompkaaGreatDoorSoz
import Derived.Test.YtcihhjjmcompkaaGreatDoorC1
import Derived.Test.YtcihhjjmcompkaaGreatDoorCvz
import Derived.Test.YtcihhjjmcompkaaGreatDoorXs
import Derived.Test.YtcihhjjmcompkaaGreatDoorE6
set_option linter.unusedVariables false
set_option linter.unusedSimpArgs false
namespace Go.Proofs
open Go Go.Sx
variable {mx:Int}{pb:Bool}
def intsD (l:List Int):D:=slD 1 intD l
def ivI (bs:List Int) (i:Nat):Rg:=(bs.getD i default,if i+1<bs.length then bs.getD (i+1) default - 1 else 1114111)
def colK (cl:List Int):Nat→List Int
 | 0=>[]
 | i+1=>if cl.getD i default∈colK cl i then colK cl i else colK cl i++[cl.getD i default]
def ivs (bs cl:List Int) (c:Int):Nat→List Rg
 | 0=>[]
 | i+1=>if cl.getD i default=c then ivs bs cl c i++[ivI bs i] else ivs bs cl c i
def colL (bs cl:List Int):List (List Rg):=(colK cl bs.length).map fun c=>canon (ivs bs cl c bs.length)
def posL (x:Int):List Int→Nat
 | []=>0
 | y::l=>if y=x then 0 else posL x l+1
theorem pos_lt {x:Int}:∀ {l:List Int},x∈l→posL x l<l.length
 | [],h=>by simp at h
 | y::l,h=>by
  unfold posL
  split
  ·simp
  ·rename_i hne
   rcases List.mem_cons.1 h with rfl|h
   ·exact absurd rfl hne
   ·have:=pos_lt h
    simp only[List.length_cons]
    omega
theorem pos_get {x:Int}:∀ {l:List Int},x∈l→l.getD (posL x l) default=x
 | [],h=>by simp at h
 | y::l,h=>by
  unfold posL
  split
  ·rename_i he;exact he
  ·rename_i hne
   rcases List.mem_cons.1 h with rfl|h
   ·exact absurd rfl hne
   ·exact pos_get h
theorem pos_app {x:Int}{m:List Int}:∀ {l:List Int},x∈l→posL x (l++m)=posL x l
 | [],h=>by simp at h
 | y::l,h=>by
  rw[List.cons_append]
  unfold posL
  split
  ·rfl
  ·rename_i hne
   rcases List.mem_cons.1 h with rfl|h
   ·exact absurd rfl hne
   ·rw[pos_app h]
theorem pos_new {x:Int}:∀ {l:List Int},x ∉ l→posL x (l++[x])=l.length
 | [],_=>by simp[posL]
 | y::l,h=>by
  rw[List.cons_append]
  unfold posL
  rw[if_neg (fun e=>h (by simp[e])),pos_new (fun hh=>h (by simp[hh]))]
  rfl
theorem colK_nodup (cl:List Int):∀ i,(colK cl i).Nodup
 | 0=>List.nodup_nil
 | i+1=>by
  unfold colK
  split
  ·exact colK_nodup cl i
  ·rename_i h
   rw[List.nodup_append]
   refine ⟨colK_nodup cl i,by simp,fun a ha b hb e=>?_⟩
   simp at hb
   subst hb
   subst e
   exact h ha
theorem colK_mem {cl:List Int}{i:Nat}(h:cl.getD i default∈colK cl i):colK cl (i+1)=colK cl i:=if_pos h
theorem colK_new {cl:List Int}{i:Nat}(h:¬cl.getD i default∈colK cl i):colK cl (i+1)=colK cl i++[cl.getD i default]:=if_neg h
theorem ivs_y {bs cl:List Int}{c:Int}{i:Nat}(h:cl.getD i default=c):ivs bs cl c (i+1)=ivs bs cl c i++[ivI bs i]:=if_pos h
theorem ivs_n {bs cl:List Int}{c:Int}{i:Nat}(h:¬cl.getD i default=c):ivs bs cl c (i+1)=ivs bs cl c i:=if_neg h
theorem ivs_len (bs cl:List Int) (c:Int):∀ i,(ivs bs cl c i).length≤i
 | 0=>Nat.le_refl _
 | i+1=>by
  have:=ivs_len bs cl c i
  unfold ivs
  split
  ·rw[List.length_append];simp;omega
  ·omega
theorem ivs_none {bs cl:List Int}{c:Int}:∀ {i:Nat},¬c∈colK cl i→ivs bs cl c i=[]
 | 0,_=>rfl
 | i+1,h=>by
  by_cases hm:cl.getD i default∈colK cl i
  ·rw[colK_mem hm] at h
   rw[ivs_n (fun e=>h (by rw[← e];exact hm))]
   exact ivs_none h
  ·rw[colK_new hm] at h
   rw[ivs_n (fun e=>h (List.mem_append_right _ (by rw[e];exact List.mem_singleton.2 rfl)))]
   exact ivs_none fun hh=>h (List.mem_append_left _ hh)
theorem colK_len (cl:List Int):∀ i,(colK cl i).length≤i
 | 0=>Nat.le_refl _
 | i+1=>by
  have:=colK_len cl i
  unfold colK
  split
  ·omega
  ·rw[List.length_append,List.length_singleton];omega
structure ColI (bs cl:List Int) (i r:Nat) (os:List Own) (fm:KV→Option D) (f:Nat→D) (ρ:Nat→Nat) (g:Nat→Nat→Nat→D):Prop where
 le:i≤bs.length
 m:os[0]?=some (.map 3 3 (.i .i64) fm)
 fm:∀ x:Int,fm (.i .i64 x)=if x∈colK cl i then some (.v (.int .i64 (posL x (colK cl i):Nat))) else none
 r:os[r]?=some (.rowo 22 (colK cl i).length f)
 f:∀ a,a<(colK cl i).length→f a=.row (ρ a)
 rows:∀ a,a<(colK cl i).length→os[ρ a]?=some (.row 82 2 (ivs bs cl ((colK cl i).getD a default) i).length (g a))
 g:∀ a,a<(colK cl i).length→∀ b,b<(ivs bs cl ((colK cl i).getD a default) i).length→∀ j,j<2→Ent (g a b j) (rgD ((ivs bs cl ((colK cl i).getD a default) i).getD b default) j)
 inj:∀ a b,a<(colK cl i).length→b<(colK cl i).length→ρ a=ρ b→a=b
theorem nd_get {l:List Int}(h:l.Nodup) {a b:Nat}(ha:a<l.length) (hb:b<l.length) (e:l.getD a default=l.getD b default):a=b:=by
 have h1:l.getD a default=l[a]:=by simp[List.getD_eq_getElem?_getD,ha]
 have h2:l.getD b default=l[b]:=by simp[List.getD_eq_getElem?_getD,hb]
 rw[h1,h2] at e
 exact (List.getElem_inj h).1 e
section
variable {bs cl:List Int}{i r:Nat}{os:List Own}{fm:KV→Option D}{f:Nat→D}{ρ:Nat→Nat}{g:Nat→Nat→Nat→D}
theorem ColI.r0 (h:ColI bs cl i r os fm f ρ g):r≠0:=fun e=>by have h1:=h.r;rw[e,h.m] at h1;simp at h1
theorem ColI.ρ0 (h:ColI bs cl i r os fm f ρ g) {a:Nat}(ha:a<(colK cl i).length):ρ a≠0:=fun e=>by have h1:=h.rows a ha;rw[e,h.m] at h1;simp at h1
theorem ColI.ρr (h:ColI bs cl i r os fm f ρ g) {a:Nat}(ha:a<(colK cl i).length):ρ a≠r:=fun e=>by have h1:=h.rows a ha;rw[e,h.r] at h1;simp at h1
theorem ColI.old (h:ColI bs cl i r os fm f ρ g) (hi:i<bs.length) (hc:cl.getD i default∈colK cl i) {k:Nat}(hk:k=posL (cl.getD i default) (colK cl i)) {q:Nat→Nat→D}(hq:∀ j,j<2→Ent (q 0 j) (rgD (ivI bs i) j)):
  ColI bs cl (i+1) r (setOwn (setOwn os (ρ k) .gone++[.row 82 2 ((ivs bs cl ((colK cl i).getD k default) i).length+1) (catF (ivs bs cl ((colK cl i).getD k default) i).length (g k) q)]) r (.rowo 22 (colK cl i).length fun b=>if b=k then .row os.length else f b))
   fm (fun b=>if b=k then .row os.length else f b) (fun a=>if a=k then os.length else ρ a) (fun a=>if a=k then catF (ivs bs cl ((colK cl i).getD k default) i).length (g k) q else g a):=by
 have hkl:k<(colK cl i).length:=by rw[hk];exact pos_lt hc
 have hkc:(colK cl i).getD k default=cl.getD i default:=by rw[hk];exact pos_get hc
 have hr:=get_lt h.r
 have h0:=get_lt h.m
 have hr0:=h.r0
 have hK:=colK_mem hc
 have hρ:∀ a,a<(colK cl i).length→ρ a<os.length:=fun a ha=>get_lt (h.rows a ha)
 have hiv:∀ a,a<(colK cl i).length→a≠k→ivs bs cl ((colK cl i).getD a default) (i+1)=ivs bs cl ((colK cl i).getD a default) i:=fun a ha hne=>ivs_n fun e=>hne (nd_get (colK_nodup cl i) ha hkl (by rw[hkc,← e]))
 have hivk:ivs bs cl ((colK cl i).getD k default) (i+1)=ivs bs cl ((colK cl i).getD k default) i++[ivI bs i]:=ivs_y hkc.symm
 refine ⟨hi,?_,?_,?_,?_,?_,?_,?_⟩
 ·rw[getElem?_setOwn,if_neg hr0,look_app,length_setOwn,if_neg (by omega),getElem?_setOwn,if_neg (h.ρ0 hkl)]
  exact h.m
 ·rw[hK];exact h.fm
 ·rw[getElem?_setOwn,if_pos rfl,if_pos (by rw[List.length_append,length_setOwn];omega),hK]
 ·rw[hK]
  intro a ha
  by_cases e:a=k
  ·rw[if_pos e,if_pos e]
  ·rw[if_neg e,if_neg e];exact h.f a ha
 ·rw[hK]
  intro a ha
  by_cases e:a=k
  ·subst e
   rw[if_pos rfl,if_pos rfl,getElem?_setOwn,if_neg (by omega),look_app,length_setOwn,if_pos rfl,hivk,List.length_append]
   rfl
  ·rw[if_neg e,if_neg e,getElem?_setOwn,if_neg (fun e2=>h.ρr ha e2.symm),look_app,length_setOwn,if_neg (by have:=hρ a ha;omega),getElem?_setOwn,if_neg (fun e2=>e (h.inj a k ha hkl e2.symm)),hiv a ha e]
   exact h.rows a ha
 ·rw[hK]
  intro a ha
  by_cases e:a=k
  ·subst e
   rw[if_pos rfl,hivk]
   intro b hb j hj
   rw[List.length_append] at hb
   rw[getD_snoc]
   by_cases hbl:b<(ivs bs cl ((colK cl i).getD a default) i).length
   ·rw[if_pos hbl]
    show Ent (if b<_ then _ else _) _
    rw[if_pos hbl]
    exact h.g a ha b hbl j hj
   ·have hbe:b=(ivs bs cl ((colK cl i).getD a default) i).length:=by rw[List.length_singleton] at hb;omega
    rw[if_neg hbl,if_pos hbe]
    show Ent (if b<_ then _ else _) _
    rw[if_neg hbl,hbe,Nat.sub_self]
    exact hq j hj
  ·rw[if_neg e,hiv a ha e]
   exact h.g a ha
 ·rw[hK]
  intro a b ha hb
  by_cases ea:a=k<;>by_cases eb:b=k
  ·intro _;omega
  ·rw[if_pos ea,if_neg eb];intro e;have:=hρ b hb;omega
  ·rw[if_neg ea,if_pos eb];intro e;have:=hρ a ha;omega
  ·rw[if_neg ea,if_neg eb];exact h.inj a b ha hb
theorem ColI.fresh (h:ColI bs cl i r os fm f ρ g) (hi:i<bs.length) (hc:¬cl.getD i default∈colK cl i) {q:Nat→Nat→D}(hq:∀ j,j<2→Ent (q 0 j) (rgD (ivI bs i) j)) {w:Nat→D}{f':Nat→D}(hf':∀ a,a<(colK cl i).length+1→f' a=if a=(colK cl i).length then .row (os.length+1) else f a):
  ColI bs cl (i+1) os.length (setOwn (((setOwn (setOwn os 0 (.map 3 3 (.i .i64) fun k'=>if k'=.i .i64 (cl.getD i default) then some (.v (.int .i64 ((colK cl i).length:Nat))) else fm k')) r .gone)++[.rowo 22 ((colK cl i).length+1) w])++[.row 82 2 1 q]) os.length (.rowo 22 ((colK cl i).length+1) f'))
   (fun k'=>if k'=.i .i64 (cl.getD i default) then some (.v (.int .i64 ((colK cl i).length:Nat))) else fm k') f' (fun a=>if a=(colK cl i).length then os.length+1 else ρ a) (fun a=>if a=(colK cl i).length then q else g a):=by
 have hr:=get_lt h.r
 have h0:=get_lt h.m
 have hr0:=h.r0
 have hK:=colK_new hc
 have hKl:(colK cl (i+1)).length=(colK cl i).length+1:=by rw[hK,List.length_append];rfl
 have hρ:∀ a,a<(colK cl i).length→ρ a<os.length:=fun a ha=>get_lt (h.rows a ha)
 have hKg:∀ a,a<(colK cl i).length→(colK cl (i+1)).getD a default=(colK cl i).getD a default:=fun a ha=>by rw[hK,getD_snoc,if_pos ha]
 have hKn:(colK cl (i+1)).getD (colK cl i).length default=cl.getD i default:=by rw[hK,getD_snoc,if_neg (by omega),if_pos rfl]
 have hmem:∀ a,a<(colK cl i).length→(colK cl i).getD a default∈colK cl i:=fun a ha=>getD_mem' ha
 have hiv:∀ a,a<(colK cl i).length→ivs bs cl ((colK cl i).getD a default) (i+1)=ivs bs cl ((colK cl i).getD a default) i:=fun a ha=>ivs_n fun e=>hc (e ▸ hmem a ha)
 have hivn:ivs bs cl (cl.getD i default) (i+1)=[ivI bs i]:=by rw[ivs_y rfl,ivs_none hc];rfl
 refine ⟨hi,?_,?_,?_,?_,?_,?_,?_⟩
 ·rw[getElem?_setOwn,if_neg (by omega),look_app,List.length_append,List.length_singleton,length_setOwn,length_setOwn,if_neg (by omega),look_app,length_setOwn,length_setOwn,if_neg (by omega),getElem?_setOwn,if_neg hr0,getElem?_setOwn,if_pos rfl,if_pos h0]
 ·intro x
  rw[hK]
  by_cases e:x=cl.getD i default
  ·subst e
   rw[if_pos rfl,if_pos (List.mem_append_right _ (List.mem_singleton.2 rfl)),pos_new hc]
  ·rw[if_neg (fun hh=>e (by injection hh)),h.fm x]
   by_cases hx:x∈colK cl i
   ·rw[if_pos hx,if_pos (List.mem_append_left _ hx),pos_app hx]
   ·rw[if_neg hx,if_neg (fun hh=>(List.mem_append.1 hh).elim hx fun h2=>e (List.mem_singleton.1 h2))]
 ·rw[getElem?_setOwn,if_pos rfl,if_pos (by simp only[List.length_append,length_setOwn,List.length_cons,List.length_nil];omega),hKl]
 ·rw[hKl]
  intro a ha
  rw[hf' a ha]
  by_cases e:a=(colK cl i).length
  ·rw[if_pos e,if_pos e]
  ·rw[if_neg e,if_neg e];exact h.f a (by omega)
 ·rw[hKl]
  intro a ha
  by_cases e:a=(colK cl i).length
  ·subst e
   rw[if_pos rfl,if_pos rfl,getElem?_setOwn,if_neg (by omega),look_app,List.length_append,List.length_singleton,length_setOwn,length_setOwn,if_pos rfl,hKn,hivn]
   rfl
  ·have ha':a<(colK cl i).length:=by omega
   have h1:=hρ a ha'
   rw[if_neg e,if_neg e,getElem?_setOwn,if_neg (by omega),look_app,List.length_append,List.length_singleton,length_setOwn,length_setOwn,if_neg (by omega),look_app,length_setOwn,length_setOwn,if_neg (by omega),getElem?_setOwn,if_neg (fun e2=>h.ρr ha' e2.symm),getElem?_setOwn,if_neg (fun e2=>h.ρ0 ha' e2.symm),hKg a ha',hiv a ha']
   exact h.rows a ha'
 ·rw[hKl]
  intro a ha
  by_cases e:a=(colK cl i).length
  ·subst e
   rw[if_pos rfl,hKn,hivn]
   intro b hb j hj
   have hb0:b=0:=by rw[List.length_singleton] at hb;omega
   subst hb0
   exact hq j hj
  ·have ha':a<(colK cl i).length:=by omega
   rw[if_neg e,hKg a ha',hiv a ha']
   exact h.g a ha'
 ·rw[hKl]
  intro a b ha hb
  by_cases ea:a=(colK cl i).length<;>by_cases eb:b=(colK cl i).length
  ·intro _;omega
  ·rw[if_pos ea,if_neg eb];intro e;have:=hρ b (by omega);omega
  ·rw[if_neg ea,if_pos eb];intro e;have:=hρ a (by omega);omega
  ·rw[if_neg ea,if_neg eb];exact h.inj a b (by omega) (by omega)
end
end Go.Proofs
namespace Go.Proofs
open Go Go.Sx
variable {mx:Int}{pb:Bool}
def ctCol:Ct:={ ι:=List Int × List Int,inp:=fun x=>[intsD x.1,intsD x.2],out:=fun x=>stsD (colL x.1 x.2),pre:=fun x=>x.1.length=x.2.length∧x.1.length≤1000000∧∀ i,i<x.1.length→0≤x.1.getD i default∧x.1.getD i default≤1114112 }
noncomputable def Γcol (mx:Int) (pb:Bool):Ctx:=fun f=>match f with
 | 50=>some (.pure ctMake)
 | _=>none
theorem Γcol_ok:CtxOk Tryz.prog (GlT mx pb) (Γcol mx pb):=by
 intro f h hh
 simp only[Γcol] at hh
 split at hh<;>simp at hh<;>subst hh
 ·exact cpMake_ok
set_option maxHeartbeats 4000000 in
theorem col_ok:Sound Tryz.prog (GlT mx pb) 85 ctCol:=by
 refine sound_by (cc:=true) Γcol_ok Tryz.T_ok Tryz.mixed Tryz.func85 rfl (by kernel_rfl) (fun _=>rfl) (fun _ _=>by show 2≤86;decide) ?_
 rintro ⟨(bs:List Int),(cl:List Int)⟩ ⟨hl,hz,hb⟩
 replace hl:bs.length=cl.length:=hl
 replace hz:bs.length≤1000000:=hz
 replace hb:∀ i,i<bs.length→0≤bs.getD i default∧bs.getD i default≤1114112:=hb
 repeat' (first|refine gw ?_|(first|refine br ?_ ?_|refine brF ?_ ?_)<;>intro q_<;>try simp only[nz] at q_)
 refine ⟨0,Nat × Nat × List Own,fun|(i,r,os)=>⟨[(0,intsD bs),(1,intsD cl),(4,.v (.slice none 0 0)),(5,.row r),(6,.mp 0),(16,intsD bs),(17,.v (.int .i64 bs.length)),(18,.v (.int .i64 i))],os,[]⟩,fun|(i,r,os)=>∃ fm f ρ g,ColI bs cl i r os fm f ρ g,fun x=>bs.length - x.1,fun _=>Nat.zero_le _,⟨(0,1,[.map 3 3 (.i .i64) fun _=>none,.rowo 22 0 fun _=>.junk]),⟨fun _=>none,fun _=>.junk,fun _=>0,fun _ _ _=>.junk,⟨Nat.zero_le _,rfl,fun _=>rfl,rfl,fun a ha=>absurd ha (Nat.not_lt_zero _),fun a ha=>absurd ha (Nat.not_lt_zero _),fun a ha=>absurd ha (Nat.not_lt_zero _),fun a _ ha=>absurd ha (Nat.not_lt_zero _)⟩⟩,StLe.trans (StLe.nilRowo (t:=5) 22 (fun _=>.junk) rfl) (StLe.sub tmS)⟩,?_⟩
 rintro ⟨i,r,os⟩ ⟨fm,f,ρ,g,hI⟩
 by_cases hlt:i<bs.length
 ·obtain ⟨iv,hiv⟩:∃ iv:Rg,iv=ivI bs i:=⟨_,rfl⟩
  have hfm:=hI.fm (cl.getD i default)
  have hr0:=hI.r0
  have hrl:=get_lt hI.r
  have hN:∀ hi:i+1<bs.length,0≤bs.getD ((i:Int)+1).toNat default∧bs.getD ((i:Int)+1).toNat default≤1114112:=fun hi=>by
   rw[show ((i:Int)+1).toNat=i+1 by omega]
   exact hb _ hi
  by_cases h2:i+1<bs.length
  ·have hN2:=hN h2
   have hE:ivI bs i=(bs.getD i default,bs.getD ((i:Int)+1).toNat default - 1):=by
    unfold ivI
    rw[if_pos h2,show ((i:Int)+1).toNat=i+1 by omega]
   have hq:∀ j,j<2→Ent (([D.v (.int .i64 (bs.getD ((i:Int)).toNat default)),D.v (.int .i64 (bs.getD ((i:Int)+1).toNat default - 1))][0*2+j]?).getD .junk) (rgD (ivI bs i) j):=by
    rw[hE]
    intro j hj
    match j,hj with
    | 0,_=>exact Ent.refl _
    | 1,_=>exact Ent.refl _
   repeat' (first|refine gw ?_|(first|refine br ?_ ?_|refine brF ?_ ?_)<;>intro q_<;>try simp only[nz] at q_)
   refine xLk rfl rfl (fun _ e=>nomatch e) rfl rfl rfl hI.m rfl rfl rfl rfl (by decide) ?_
   by_cases hc:cl.getD i default∈colK cl i
   ·rw[if_pos hc] at hfm
    refine ⟨fun d hd=>?_,fun hn=>absurd (hfm.symm.trans hn) (fun e=>nomatch e)⟩
    obtain rfl:D.v (.int .i64 (posL (cl.getD i default) (colK cl i):Nat))=d:=Option.some.inj (hfm.symm.trans hd)
    obtain ⟨k,hk⟩:∃ k,k=posL (cl.getD i default) (colK cl i):=⟨_,rfl⟩
    have hkl:k<(colK cl i).length:=by rw[hk];exact pos_lt hc
    rw[← hk]
    have hil:=ivs_len bs cl ((colK cl i).getD k default) i
    have hρl:=get_lt (hI.rows k hkl)
    repeat' (first|refine gw ?_|(first|refine br ?_ ?_|refine brF ?_ ?_)<;>intro q_<;>try simp only[nz] at q_)
    refine xMv rfl hI.r rfl (by decide) ?_
    repeat' (first|refine gw ?_|(first|refine br ?_ ?_|refine brF ?_ ?_)<;>intro q_<;>try simp only[nz] at q_)
    refine xMv rfl hI.r rfl (by decide) ?_
    repeat' (first|refine gw ?_|(first|refine br ?_ ?_|refine brF ?_ ?_)<;>intro q_<;>try simp only[nz] at q_)
    refine xIx rfl hI.r rfl rfl (by decide) ⟨by omega,by omega⟩ ?_
    repeat' (first|refine gw ?_|(first|refine br ?_ ?_|refine brF ?_ ?_)<;>intro q_<;>try simp only[nz] at q_)
    refine xLd rfl hI.r rfl (by decide) (by omega) ?_
    rw[show f ((k:Int)).toNat=.row (ρ k) from hI.f k hkl]
    repeat' (first|refine gw ?_|(first|refine br ?_ ?_|refine brF ?_ ?_)<;>intro q_<;>try simp only[nz] at q_)
    refine xAp rfl (hI.rows k hkl) rfl rfl rfl rfl (by decide) (by decide) (by omega) (by omega) ?_
    refine wk1 ?_
    have hr1:∀ x:Own,(setOwn os (ρ k) .gone++[x])[r]?=some (.rowo 22 (colK cl i).length f):=fun x=>by
     rw[look_app,length_setOwn,if_neg (by omega),getElem?_setOwn,if_neg (hI.ρr hkl)]
     exact hI.r
    refine xIx rfl (hr1 _) rfl rfl (by decide) ⟨by omega,by omega⟩ ?_
    refine wk1 ?_
    refine xSt rfl (hr1 _) rfl (by rw[look_app,length_setOwn,if_pos rfl]) rfl rfl (by omega) ?_
    repeat' (first|refine gw ?_|(first|refine br ?_ ?_|refine brF ?_ ?_)<;>intro q_<;>try simp only[nz] at q_)
    exact ⟨(i+1,r,_),⟨_,_,_,_,hI.old hlt hc hk hq⟩,(by show bs.length - (i+1)<bs.length - i;omega),StLe.sub tmS⟩
   ·rw[if_neg hc] at hfm
    refine ⟨fun d hd=>absurd (hfm.symm.trans hd) (fun e=>nomatch e),fun hn=>?_⟩
    have h0l:=get_lt hI.m
    have hKl:(colK cl i).length≤1000000:=by have:=colK_len cl i;omega
    repeat' (first|refine gw ?_|(first|refine br ?_ ?_|refine brF ?_ ?_)<;>intro q_<;>try simp only[nz] at q_)
    refine xMv rfl hI.r rfl (by decide) ?_
    refine wk1 ?_
    refine xLen rfl hI.r rfl (by decide) ?_
    repeat' (first|refine gw ?_|(first|refine br ?_ ?_|refine brF ?_ ?_)<;>intro q_<;>try simp only[nz] at q_)
    refine xMu rfl rfl (fun _ e=>nomatch e) rfl (fun _ e=>nomatch e) rfl rfl hI.m rfl rfl rfl ?_
    repeat' (first|refine gw ?_|(first|refine br ?_ ?_|refine brF ?_ ?_)<;>intro q_<;>try simp only[nz] at q_)
    have hr1:∀ x:Own,(setOwn os 0 x)[r]?=some (.rowo 22 (colK cl i).length f):=fun x=>by
     rw[getElem?_setOwn,if_neg (fun e=>hr0 e.symm)]
     exact hI.r
    refine xMv rfl (hr1 _) rfl (by decide) ?_
    repeat' (first|refine gw ?_|(first|refine br ?_ ?_|refine brF ?_ ?_)<;>intro q_<;>try simp only[nz] at q_)
    refine xApO rfl (hr1 _) rfl rfl rfl rfl (by decide) (by omega) (by omega) ?_
    rw[length_setOwn]
    refine wk1 ?_
    have hr2:∀ (x y z:Own),(setOwn (setOwn os 0 x) r y++[z])[os.length]?=some z:=fun x y z=>by
     rw[look_app,length_setOwn,length_setOwn,if_pos rfl]
    have hr3:∀ (x y z v:Own),((setOwn (setOwn os 0 x) r y++[z])++[v])[os.length]?=some z:=fun x y z v=>by
     rw[look_app,List.length_append,List.length_singleton,length_setOwn,length_setOwn,if_neg (by omega)]
     exact hr2 x y z
    have hr4:∀ (x y z v:Own),((setOwn (setOwn os 0 x) r y++[z])++[v])[os.length+1]?=some v:=fun x y z v=>by
     rw[look_app,List.length_append,List.length_singleton,length_setOwn,length_setOwn,if_pos rfl]
    refine xAs rfl (hr2 _ _ _) rfl (by decide) ?_
    repeat' (first|refine gw ?_|(first|refine br ?_ ?_|refine brF ?_ ?_)<;>intro q_<;>try simp only[nz] at q_)
    refine xMv rfl (hr2 _ _ _) rfl (by decide) ?_
    repeat' (first|refine gw ?_|(first|refine br ?_ ?_|refine brF ?_ ?_)<;>intro q_<;>try simp only[nz] at q_)
    refine xMv rfl (hr2 _ _ _) rfl (by decide) ?_
    repeat' (first|refine gw ?_|(first|refine br ?_ ?_|refine brF ?_ ?_)<;>intro q_<;>try simp only[nz] at q_)
    refine xIx rfl (hr2 _ _ _) rfl rfl (by decide) ⟨by omega,by omega⟩ ?_
    repeat' (first|refine gw ?_|(first|refine br ?_ ?_|refine brF ?_ ?_)<;>intro q_<;>try simp only[nz] at q_)
    refine xLd rfl (hr2 _ _ _) rfl (by decide) (by omega) ?_
    rw[if_neg (by omega),show ((colK cl i).length:Int).toNat - (colK cl i).length=0 by omega]
    repeat' (first|refine gw ?_|(first|refine br ?_ ?_|refine brF ?_ ?_)<;>intro q_<;>try simp only[nz] at q_)
    rw[List.length_append,List.length_singleton,length_setOwn,length_setOwn]
    refine xIx rfl (hr3 _ _ _ _) rfl rfl (by decide) ⟨by omega,by omega⟩ ?_
    refine wk1 ?_
    refine xSt rfl (hr3 _ _ _ _) rfl (hr4 _ _ _ _) rfl rfl (by omega) ?_
    repeat' (first|refine gw ?_|(first|refine br ?_ ?_|refine brF ?_ ?_)<;>intro q_<;>try simp only[nz] at q_)
    refine ⟨(i+1,os.length,_),⟨_,_,_,_,hI.fresh hlt hc hq (fun a ha=>?_)⟩,(by show bs.length - (i+1)<bs.length - i;omega),StLe.sub tmS⟩
    show (if a=(colK cl i).length then D.row (os.length+1) else if a<(colK cl i).length then f a else _)=_
    by_cases e:a=(colK cl i).length
    ·rw[if_pos e,if_pos e]
    ·rw[if_neg e,if_neg e,if_pos (by omega)]
  ·have hE:ivI bs i=(bs.getD i default,1114111):=by
    unfold ivI
    rw[if_neg h2]
   have hq:∀ j,j<2→Ent (([D.v (.int .i64 (bs.getD ((i:Int)).toNat default)),D.v (.int .i64 1114111)][0*2+j]?).getD .junk) (rgD (ivI bs i) j):=by
    rw[hE]
    intro j hj
    match j,hj with
    | 0,_=>exact Ent.refl _
    | 1,_=>exact Ent.refl _
   repeat' (first|refine gw ?_|(first|refine br ?_ ?_|refine brF ?_ ?_)<;>intro q_<;>try simp only[nz] at q_)
   refine xLk rfl rfl (fun _ e=>nomatch e) rfl rfl rfl hI.m rfl rfl rfl rfl (by decide) ?_
   by_cases hc:cl.getD i default∈colK cl i
   ·rw[if_pos hc] at hfm
    refine ⟨fun d hd=>?_,fun hn=>absurd (hfm.symm.trans hn) (fun e=>nomatch e)⟩
    obtain rfl:D.v (.int .i64 (posL (cl.getD i default) (colK cl i):Nat))=d:=Option.some.inj (hfm.symm.trans hd)
    obtain ⟨k,hk⟩:∃ k,k=posL (cl.getD i default) (colK cl i):=⟨_,rfl⟩
    have hkl:k<(colK cl i).length:=by rw[hk];exact pos_lt hc
    rw[← hk]
    have hil:=ivs_len bs cl ((colK cl i).getD k default) i
    have hρl:=get_lt (hI.rows k hkl)
    repeat' (first|refine gw ?_|(first|refine br ?_ ?_|refine brF ?_ ?_)<;>intro q_<;>try simp only[nz] at q_)
    refine xMv rfl hI.r rfl (by decide) ?_
    repeat' (first|refine gw ?_|(first|refine br ?_ ?_|refine brF ?_ ?_)<;>intro q_<;>try simp only[nz] at q_)
    refine xMv rfl hI.r rfl (by decide) ?_
    repeat' (first|refine gw ?_|(first|refine br ?_ ?_|refine brF ?_ ?_)<;>intro q_<;>try simp only[nz] at q_)
    refine xIx rfl hI.r rfl rfl (by decide) ⟨by omega,by omega⟩ ?_
    repeat' (first|refine gw ?_|(first|refine br ?_ ?_|refine brF ?_ ?_)<;>intro q_<;>try simp only[nz] at q_)
    refine xLd rfl hI.r rfl (by decide) (by omega) ?_
    rw[show f ((k:Int)).toNat=.row (ρ k) from hI.f k hkl]
    repeat' (first|refine gw ?_|(first|refine br ?_ ?_|refine brF ?_ ?_)<;>intro q_<;>try simp only[nz] at q_)
    refine xAp rfl (hI.rows k hkl) rfl rfl rfl rfl (by decide) (by decide) (by omega) (by omega) ?_
    refine wk1 ?_
    have hr1:∀ x:Own,(setOwn os (ρ k) .gone++[x])[r]?=some (.rowo 22 (colK cl i).length f):=fun x=>by
     rw[look_app,length_setOwn,if_neg (by omega),getElem?_setOwn,if_neg (hI.ρr hkl)]
     exact hI.r
    refine xIx rfl (hr1 _) rfl rfl (by decide) ⟨by omega,by omega⟩ ?_
    refine wk1 ?_
    refine xSt rfl (hr1 _) rfl (by rw[look_app,length_setOwn,if_pos rfl]) rfl rfl (by omega) ?_
    repeat' (first|refine gw ?_|(first|refine br ?_ ?_|refine brF ?_ ?_)<;>intro q_<;>try simp only[nz] at q_)
    exact ⟨(i+1,r,_),⟨_,_,_,_,hI.old hlt hc hk hq⟩,(by show bs.length - (i+1)<bs.length - i;omega),StLe.sub tmS⟩
   ·rw[if_neg hc] at hfm
    refine ⟨fun d hd=>absurd (hfm.symm.trans hd) (fun e=>nomatch e),fun hn=>?_⟩
    have h0l:=get_lt hI.m
    have hKl:(colK cl i).length≤1000000:=by have:=colK_len cl i;omega
    repeat' (first|refine gw ?_|(first|refine br ?_ ?_|refine brF ?_ ?_)<;>intro q_<;>try simp only[nz] at q_)
    refine xMv rfl hI.r rfl (by decide) ?_
    refine wk1 ?_
    refine xLen rfl hI.r rfl (by decide) ?_
    repeat' (first|refine gw ?_|(first|refine br ?_ ?_|refine brF ?_ ?_)<;>intro q_<;>try simp only[nz] at q_)
    refine xMu rfl rfl (fun _ e=>nomatch e) rfl (fun _ e=>nomatch e) rfl rfl hI.m rfl rfl rfl ?_
    repeat' (first|refine gw ?_|(first|refine br ?_ ?_|refine brF ?_ ?_)<;>intro q_<;>try simp only[nz] at q_)
    have hr1:∀ x:Own,(setOwn os 0 x)[r]?=some (.rowo 22 (colK cl i).length f):=fun x=>by
     rw[getElem?_setOwn,if_neg (fun e=>hr0 e.symm)]
     exact hI.r
    refine xMv rfl (hr1 _) rfl (by decide) ?_
    repeat' (first|refine gw ?_|(first|refine br ?_ ?_|refine brF ?_ ?_)<;>intro q_<;>try simp only[nz] at q_)
    refine xApO rfl (hr1 _) rfl rfl rfl rfl (by decide) (by omega) (by omega) ?_
    rw[length_setOwn]
    refine wk1 ?_
    have hr2:∀ (x y z:Own),(setOwn (setOwn os 0 x) r y++[z])[os.length]?=some z:=fun x y z=>by
     rw[look_app,length_setOwn,length_setOwn,if_pos rfl]
    have hr3:∀ (x y z v:Own),((setOwn (setOwn os 0 x) r y++[z])++[v])[os.length]?=some z:=fun x y z v=>by
     rw[look_app,List.length_append,List.length_singleton,length_setOwn,length_setOwn,if_neg (by omega)]
     exact hr2 x y z
    have hr4:∀ (x y z v:Own),((setOwn (setOwn os 0 x) r y++[z])++[v])[os.length+1]?=some v:=fun x y z v=>by
     rw[look_app,List.length_append,List.length_singleton,length_setOwn,length_setOwn,if_pos rfl]
    refine xAs rfl (hr2 _ _ _) rfl (by decide) ?_
    repeat' (first|refine gw ?_|(first|refine br ?_ ?_|refine brF ?_ ?_)<;>intro q_<;>try simp only[nz] at q_)
    refine xMv rfl (hr2 _ _ _) rfl (by decide) ?_
    repeat' (first|refine gw ?_|(first|refine br ?_ ?_|refine brF ?_ ?_)<;>intro q_<;>try simp only[nz] at q_)
    refine xMv rfl (hr2 _ _ _) rfl (by decide) ?_
    repeat' (first|refine gw ?_|(first|refine br ?_ ?_|refine brF ?_ ?_)<;>intro q_<;>try simp only[nz] at q_)
    refine xIx rfl (hr2 _ _ _) rfl rfl (by decide) ⟨by omega,by omega⟩ ?_
    repeat' (first|refine gw ?_|(first|refine br ?_ ?_|refine brF ?_ ?_)<;>intro q_<;>try simp only[nz] at q_)
    refine xLd rfl (hr2 _ _ _) rfl (by decide) (by omega) ?_
    rw[if_neg (by omega),show ((colK cl i).length:Int).toNat - (colK cl i).length=0 by omega]
    repeat' (first|refine gw ?_|(first|refine br ?_ ?_|refine brF ?_ ?_)<;>intro q_<;>try simp only[nz] at q_)
    rw[List.length_append,List.length_singleton,length_setOwn,length_setOwn]
    refine xIx rfl (hr3 _ _ _ _) rfl rfl (by decide) ⟨by omega,by omega⟩ ?_
    refine wk1 ?_
    refine xSt rfl (hr3 _ _ _ _) rfl (hr4 _ _ _ _) rfl rfl (by omega) ?_
    repeat' (first|refine gw ?_|(first|refine br ?_ ?_|refine brF ?_ ?_)<;>intro q_<;>try simp only[nz] at q_)
    refine ⟨(i+1,os.length,_),⟨_,_,_,_,hI.fresh hlt hc hq (fun a ha=>?_)⟩,(by show bs.length - (i+1)<bs.length - i;omega),StLe.sub tmS⟩
    show (if a=(colK cl i).length then D.row (os.length+1) else if a<(colK cl i).length then f a else _)=_
    by_cases e:a=(colK cl i).length
    ·rw[if_pos e,if_pos e]
    ·rw[if_neg e,if_neg e,if_pos (by omega)]
 ·have hie:i=bs.length:=by have:=hI.le;omega
  subst hie
  have hKl:(colK cl bs.length).length≤1000000:=by have:=colK_len cl bs.length;omega
  obtain ⟨L,hL⟩:∃ L,L=(colK cl bs.length).map fun c=>ivs bs cl c bs.length:=⟨_,rfl⟩
  have hLl:L.length=(colK cl bs.length).length:=by rw[hL,List.length_map]
  have hLg:∀ a,a<(colK cl bs.length).length→L.getD a default=ivs bs cl ((colK cl bs.length).getD a default) bs.length:=fun a ha=>by
   rw[hL]
   simp[List.getD_eq_getElem?_getD,ha]
  have hout:ctCol.out (bs,cl)=stsD (L.map canon):=by
   show stsD (colL bs cl)=_
   rw[hL,List.map_map]
   rfl
  have hLz:∀ a,a<L.length→(L.getD a default).length≤1000000:=fun a ha=>by
   rw[hLg a (by omega)]
   have:=ivs_len bs cl ((colK cl bs.length).getD a default) bs.length
   omega
  have hX:Ent (.sl 1 (colK cl bs.length).length fun a _=>.sl 2 (ivs bs cl ((colK cl bs.length).getD a default) bs.length).length (g a)) (stsD L):=by
   refine Ent.sl hLl.symm fun a ha j hj=>?_
   have hj0:j=0:=by omega
   subst hj0
   show Ent _ (rgsD (L.getD a default))
   rw[hLg a ha]
   exact Ent.sl rfl fun b hb j hj=>hI.g a ha b hb j hj
  repeat' (first|refine gw ?_|(first|refine br ?_ ?_|refine brF ?_ ?_)<;>intro q_<;>try simp only[nz] at q_)
  refine xMv rfl hI.r rfl (by decide) ?_
  refine wk1 ?_
  refine xLen rfl hI.r rfl (by decide) ?_
  repeat' (first|refine gw ?_|(first|refine br ?_ ?_|refine brF ?_ ?_)<;>intro q_<;>try simp only[nz] at q_)
  have hrl:=get_lt hI.r
  have hA:∀ x:Own,(os++[x])[os.length]?=some x:=fun x=>by rw[look_app,if_pos rfl]
  have hB:∀ x:Own,(os++[x])[r]?=some (.rowo 22 (colK cl bs.length).length f):=fun x=>by rw[look_app,if_neg (by omega)];exact hI.r
  refine xAs rfl (hA _) rfl (by decide) ?_
  repeat' (first|refine gw ?_|(first|refine br ?_ ?_|refine brF ?_ ?_)<;>intro q_<;>try simp only[nz] at q_)
  refine xMv rfl (hB _) rfl (by decide) ?_
  refine wk1 ?_
  refine xLen rfl (hB _) rfl (by decide) ?_
  repeat' (first|refine gw ?_|(first|refine br ?_ ?_|refine brF ?_ ?_)<;>intro q_<;>try simp only[nz] at q_)
  rw[hout]
  refine ⟨0,Nat,fun k=>⟨[(12,.row 0),(72,stsD L),(73,.v (.int .i64 L.length)),(74,.v (.int .i64 k))],[.row 24 1 L.length fun a _=>if a<k then rgsD (canon (L.getD a default)) else .v (.slice none 0 0)],[]⟩,fun k=>k≤L.length,fun k=>L.length - k,fun _=>Nat.zero_le _,⟨0,Nat.zero_le _,StLe.trans (StLe.collect hI.r hI.f hI.rows hI.inj (tm':=[(12,.row 0),(72,stsD L),(73,.v (.int .i64 (colK cl bs.length).length)),(74,.v (.int .i64 0))]) ⟨.inr (.inr ⟨rfl,rfl⟩),.inr (.inl ⟨rfl,hX,rfl⟩),.inl ⟨Ent.refl _,rfl⟩,.inl ⟨Ent.refl _,rfl⟩,trivial⟩) (StLe.ren [0] ⟨Ent.refl _,rfl,Ent.refl _,rfl,Ent.int (by omega),rfl,Ent.int rfl,rfl,trivial⟩ ⟨⟨rfl,rfl,by omega,fun a ha j hj=>(by
   have hj0:j=0:=by omega
   subst hj0
   show Ent _ (if a<0 then _ else _)
   rw[if_neg (by omega)]
   exact Ent.refl _)⟩,trivial⟩ (by decide))⟩,?_⟩
  intro k (hk:k≤L.length)
  by_cases hkl:k<L.length
  ·have p1:ctMake.pre (L.getD k default):=⟨by have:=hLz k hkl;omega,.inr (.inr trivial)⟩
   repeat' (first|refine gw ?_|(first|refine br ?_ ?_|refine brF ?_ ?_)<;>intro q_<;>try simp only[nz] at q_)
   refine ⟨k+1,hkl,(by show L.length - (k+1)<L.length - k;omega),StLe.ren [0] tmS ⟨⟨rfl,rfl,rfl,fun a ha j hj=>?_⟩,trivial⟩ (by decide)⟩
   have hj0:j=0:=by omega
   subst hj0
   refine Ent.of_eq ?_
   show (if a=k then _ else if a<k then _ else _)=if a<k+1 then _ else _
   by_cases e:a=k
   ·subst e
    rw[if_pos rfl,if_pos (Nat.le_refl 0),if_pos (Nat.lt_succ_self a)]
    rfl
   ·rw[if_neg e]
    by_cases e2:a<k
    ·rw[if_pos e2,if_pos (by omega)]
    ·rw[if_neg e2,if_neg (by omega)]
  ·repeat' (first|refine gw ?_|(first|refine br ?_ ?_|refine brF ?_ ?_)<;>intro q_<;>try simp only[nz] at q_)
   refine EntR.of rfl (Ent.sl (by rw[List.length_map]) fun a ha j hj=>?_)
   have hj0:j=0:=by omega
   subst hj0
   show Ent (if a<k then _ else _) (rgsD ((L.map canon).getD a default))
   rw[if_pos (by omega),show (L.map canon).getD a default=canon (L.getD a default) by simp[List.getD_eq_getElem?_getD,ha]]
   exact Ent.refl _
end Go.Proofs
namespace Go.Proofs
open Go Go.Sx
variable {mx:Int}{pb:Bool}
def setsT (x:Tl):List (List Rg):=x.bef++(x.mat++x.aft)
def allS (l:List Tl):List (List Rg):=l.flatMap setsT
def allK (l:List Tl) (k:Nat):List (List Rg):=(l.take k).flatMap setsT
theorem allK_succ {l:List Tl}{k:Nat}(h:k<l.length):allK l (k+1)=allK l k++setsT (l.getD k default):=by
 unfold allK
 rw[List.take_succ_eq_append_getElem h,List.flatMap_append,List.flatMap_cons,List.flatMap_nil,List.append_nil,show l.getD k default=l[k] by simp[List.getD_eq_getElem?_getD,h]]
theorem allK_all (l:List Tl):allK l l.length=allS l:=by unfold allK;rw[List.take_length];rfl
theorem allK_len {l:List Tl}(h:smL l):∀ k,k≤l.length→(allK l k).length≤30*k
 | 0,_=>Nat.le_refl _
 | k+1,hk=>by
  have h1:=allK_len h k (by omega)
  obtain ⟨q1,q2,q3,_⟩:=h.2 k hk
  have l1:=q1.1
  have l2:=q2.1
  have l3:=q3.1
  rw[allK_succ hk]
  unfold setsT
  simp only[List.length_append]
  omega
theorem getD_app {α:Type} [Inhabited α] {l m:List α}{i:Nat}:(l++m).getD i default=if i<l.length then l.getD i default else m.getD (i - l.length) default:=by
 simp only[List.getD_eq_getElem?_getD]
 by_cases h:i<l.length
 ·rw[if_pos h,List.getElem?_append_left h]
 ·rw[if_neg h,List.getElem?_append_right (by omega)]
theorem own_app3 {α:Type} [Inhabited α] {ρ:List Nat}{e sz:Nat}{enc:α→Nat→D}{l a b c:List α}{n1 n2 n3:Nat}(h1:n1=l.length) (h2:n2=l.length+a.length) (h3:n3=l.length+a.length+b.length):OwnRen ρ (.row e sz (n3+c.length) (catF n3 (catF n2 (catF n1 (fun i j=>enc (l.getD i default) j) (fun i j=>enc (a.getD i default) j)) (fun i j=>enc (b.getD i default) j)) (fun i j=>enc (c.getD i default) j))) (rowL e sz enc (l++(a++(b++c)))):=by
 subst h1 h2 h3
 refine ⟨rfl,rfl,by simp only[List.length_append];omega,fun i hi j hj=>Ent.of_eq ?_⟩
 show (if i<l.length+a.length+b.length then (if i<l.length+a.length then (if i<l.length then enc (l.getD i default) j else enc (a.getD (i - l.length) default) j) else enc (b.getD (i - (l.length+a.length)) default) j) else enc (c.getD (i - (l.length+a.length+b.length)) default) j)=enc ((l++(a++(b++c))).getD i default) j
 by_cases c1:i<l.length
 ·rw[if_pos (show i<l.length+a.length+b.length by omega),if_pos (show i<l.length+a.length by omega),if_pos c1,show (l++(a++(b++c))).getD i default=l.getD i default by rw[getD_app,if_pos c1]]
 by_cases c2:i<l.length+a.length
 ·rw[if_pos (show i<l.length+a.length+b.length by omega),if_pos c2,if_neg c1,show (l++(a++(b++c))).getD i default=a.getD (i - l.length) default by rw[getD_app,if_neg c1,getD_app,if_pos (by omega)]]
 by_cases c3:i<l.length+a.length+b.length
 ·rw[if_pos c3,if_neg c2,show (l++(a++(b++c))).getD i default=b.getD (i - (l.length+a.length)) default by rw[getD_app,if_neg c1,getD_app,if_neg (by omega),getD_app,if_pos (by omega),Nat.sub_sub]]
 ·rw[if_neg c3,show (l++(a++(b++c))).getD i default=c.getD (i - (l.length+a.length+b.length)) default by rw[getD_app,if_neg c1,getD_app,if_neg (by omega),getD_app,if_neg (by omega),show i - l.length - a.length - b.length=i - (l.length+a.length+b.length) by omega]]
def ctSets:Ct:={ ι:=List Tl,inp:=fun l=>[tlsD l],out:=fun l=>stsD (allS l),pre:=smL }
set_option maxHeartbeats 4000000 in
theorem pSets_ok:Sound Tryz.prog (GlT mx pb) 80 ctSets:=by
 refine sound_by (cc:=true) Γ0_ok Tryz.T_ok Tryz.mixed Tryz.func80 rfl (by kernel_rfl) (fun _=>rfl) (fun _ _=>by show 1≤26;decide) ?_
 intro (l:List Tl) (hl:smL l)
 have h6:=hl.1
 repeat' (first|refine gl ?_|(first|refine br ?_ ?_|refine brF ?_ ?_)<;>intro q_<;>try simp only[nz] at q_)
 refine ⟨0,Nat,fun k=>⟨[(3,.row 0),(6,tlsD l),(7,.v (.int .i64 l.length)),(8,.v (.int .i64 k))],[rowL 24 1 stD (allK l k)],[]⟩,fun k=>k≤l.length,fun k=>l.length - k,fun _=>Nat.zero_le _,⟨0,Nat.zero_le _,StLe.trans (StLe.nilRow (t:=3) 24 1 (fun _ _=>.junk) rfl) (StLe.ren [0] tmS ⟨own_nil,trivial⟩ (by decide))⟩,?_⟩
 intro k (hk:k≤l.length)
 have hs:=allK_len hl k hk
 by_cases hlt:k<l.length
 ·obtain ⟨q1,q2,q3,_⟩:=hl.2 k hlt
  have l1:=q1.1
  have l2:=q2.1
  have l3:=q3.1
  repeat' (first|refine gl ?_|(first|refine br ?_ ?_|refine brF ?_ ?_)<;>intro q_<;>try simp only[nz] at q_)
  exact ⟨k+1,(by show k+1≤l.length;omega),(by show l.length - (k+1)<l.length - k;omega),StLe.ren [4] tmS ⟨(by rw[allK_succ hlt];exact own_app3 rfl rfl rfl),trivial⟩ (by decide)⟩
 ·have e:k=l.length:=by omega
  repeat' (first|refine gl ?_|(first|refine br ?_ ?_|refine brF ?_ ?_)<;>intro q_<;>try simp only[nz] at q_)
  rw[show ctSets.out l=stsD (allK l k) by rw[e,allK_all];rfl]
  exact EntR.of rfl (Ent.refl _)
set_option maxHeartbeats 4000000 in
theorem rAll_ok:Sound Tryz.prog (GlT mx pb) 86 ctSets:=by
 refine sound_by (cc:=true) Γ0_ok Tryz.T_ok Tryz.mixed Tryz.func86 rfl (by kernel_rfl) (fun _=>rfl) (fun _ _=>by show 1≤33;decide) ?_
 intro (l:List Tl) (hl:smL l)
 have h6:=hl.1
 repeat' (first|refine gl ?_|(first|refine br ?_ ?_|refine brF ?_ ?_)<;>intro q_<;>try simp only[nz] at q_)
 refine ⟨0,Nat,fun k=>⟨[(0,tlsD l),(3,.row 0),(4,.v (.int .i64 k))],[rowL 24 1 stD (allK l k)],[]⟩,fun k=>k≤l.length,fun k=>l.length - k,fun _=>Nat.zero_le _,⟨0,Nat.zero_le _,StLe.trans (StLe.nilRow (t:=3) 24 1 (fun _ _=>.junk) rfl) (StLe.ren [0] tmS ⟨own_nil,trivial⟩ (by decide))⟩,?_⟩
 intro k (hk:k≤l.length)
 have hs:=allK_len hl k hk
 by_cases hlt:k<l.length
 ·obtain ⟨q1,q2,q3,_⟩:=hl.2 k hlt
  have l1:=q1.1
  have l2:=q2.1
  have l3:=q3.1
  repeat' (first|refine gl ?_|(first|refine br ?_ ?_|refine brF ?_ ?_)<;>intro q_<;>try simp only[nz] at q_)
  exact ⟨k+1,(by show k+1≤l.length;omega),(by show l.length - (k+1)<l.length - k;omega),StLe.ren [3] tmS ⟨(by rw[allK_succ hlt];exact own_app3 rfl rfl rfl),trivial⟩ (by decide)⟩
 ·have e:k=l.length:=by omega
  repeat' (first|refine gl ?_|(first|refine br ?_ ?_|refine brF ?_ ?_)<;>intro q_<;>try simp only[nz] at q_)
  rw[show ctSets.out l=stsD (allK l k) by rw[e,allK_all];rfl]
  exact EntR.of rfl (Ent.refl _)
end Go.Proofs
