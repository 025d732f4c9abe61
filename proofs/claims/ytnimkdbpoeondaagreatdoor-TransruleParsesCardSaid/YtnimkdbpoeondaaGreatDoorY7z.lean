import Derived.WalkSmall
import Derived.Test.YtnimkdbpoeondaaGreatDoorGrz
import Derived.Test.YtnimkdbpoeondaaGreatDoorYz
set_option linter.all false
set_option maxHeartbeats 4000000
namespace Go.Proofs
open Go Go.Sx Go.RowKit
variable {s:ByteArray}{c:UInt8}{w:World}{M:Mem}
variable {mx:Int}{pb:Bool}
theorem zj9 {k:Nat}(h:k<s.size):bAt s k=((s.data.toList[k]'h).toNat:Int):=by
 unfold bAt;rw[List.getElem?_eq_getElem h];rfl
theorem zm2 (s:ByteArray) (l h:Nat):(zN s l h).data.toList=(s.data.toList.take h).drop l:=rfl
theorem zdr (s:ByteArray):ve s.data.toList=s:=rfl
theorem toList_inj {a b:ByteArray}(h:a.data.toList=b.data.toList):a=b:=by rw[<- zdr a,<- zdr b,h]
theorem u8_eq {a:UInt8}:((a.toNat:Int)=(c.toNat:Int))↔a=c:=by
 constructor
 ·intro h;have:a.toNat=c.toNat:=by omega
  exact UInt8.toNat_inj.1 this
 ·intro h;rw[h]
theorem cut_at {s sub:List UInt8}{i:Nat}(h:Lib.occAt s sub i=true) (hn:∀ j,j<i->Lib.occAt s sub j=false) (hi:i<=s.length):Lib.cut s sub=(s.take i,s.drop (i+sub.length),true):=by
 have e:Lib.index s sub=i:=by
  rcases Lib.index_spec s sub with ⟨_,h2⟩|⟨k,h1,h2,h3,h4⟩
  ·rw[h2 i hi] at h;exact Bool.noConfusion h
  ·have:k=i:=by
    rcases Nat.lt_trichotomy k i with a|a|a
    ·rw[hn k a] at h3;exact Bool.noConfusion h3
    ·exact a
    ·rw[h4 i a] at h;exact Bool.noConfusion h
   rw[h1,this]
 unfold Lib.cut;rw[e,if_pos (by omega),Int.toNat_natCast]
theorem zjz {s sub:List UInt8}(hn:∀ j,j<=s.length->Lib.occAt s sub j=false):Lib.cut s sub=(s,[],false):=by
 have e:Lib.index s sub = -1:=by
  rcases Lib.index_spec s sub with ⟨h1,_⟩|⟨k,_,h2,h3,_⟩
  ·exact h1
  ·rw[hn k h2] at h3;exact Bool.noConfusion h3
 unfold Lib.cut;rw[e,if_neg (by decide)]
theorem occ1 {j:Nat}(hj:j<s.size):Lib.occAt s.data.toList [c] j=decide (bAt s j=c.toNat):=by
 have hj':j<s.data.toList.length:=hj;unfold Lib.occAt;rw[List.drop_eq_getElem_cons hj',zj9 hj];simp only[List.isPrefixOf,Bool.and_true];by_cases h:c=s.data.toList[j]
 ·rw[<- h];rw[decide_eq_true rfl];exact beq_self_eq_true c
 ·have h2:¬(((s.data.toList[j]).toNat:Int)=(c.toNat:Int)):=fun e=>h (u8_eq.1 e).symm;rw[decide_eq_false h2];exact beq_eq_false_iff_ne.2 h
theorem ziz {j:Nat}(hj:s.size<=j):Lib.occAt s.data.toList [c] j=false:=by
 unfold Lib.occAt;rw[List.drop_eq_nil_of_le (show s.data.toList.length<=j from hj)];rfl
theorem bcut_suf (s:ByteArray) (k:Nat):zN s k s.size=ve (s.data.toList.drop k):=by
 apply toList_inj;rw[zm2,List.take_of_length_le (show s.data.toList.length<=s.size from Nat.le_refl _)];rfl
theorem cut_at1 {k:Nat}(hk:k<s.size) (h:bAt s k=c.toNat) (hn:∀ j,j<k->¬bAt s j=c.toNat):Lib.cut s.data.toList [c]=(s.data.toList.take k,s.data.toList.drop (k+1),true):=
 cut_at (by rw[occ1 hk];exact decide_eq_true h) (fun j hj=>by rw[occ1 (by omega)];exact decide_eq_false (hn j hj)) (show k<=s.size by omega)
theorem cut_none1 (hn:∀ j,j<s.size->¬bAt s j=c.toNat):Lib.cut s.data.toList [c]=(s.data.toList,[],false):=
 zjz fun j _=>by
  by_cases h:j<s.size
  ·rw[occ1 h];exact decide_eq_false (hn j h)
  ·exact ziz (by omega)
def ya (c:UInt8):List UInt8->List (List UInt8)
 | []=>[[]]
 | b::l=>if b=c then []::ya c l else match ya c l with|[]=>[[b]]|x::xs=>(b::x)::xs
theorem splitL_ne (c:UInt8):∀ l,ya c l≠[]
 | []=>by simp[ya]
 | b::l=>by
  rw[ya];split
  ·simp
  ·split<;>simp
theorem ze7 {c:UInt8}:∀ {l:List UInt8},(∀ b∈l,b≠c)->ya c l=[l]
 | [],_=>rfl
 | b::l,h=>by
  rw[ya,if_neg (h b (by simp)),ze7 (fun x hx=>h x (by simp[hx]))]
theorem zhb {c:UInt8}{r:List UInt8}:∀ {a:List UInt8},(∀ b∈a,b≠c)->ya c (a++c::r)=a::ya c r
 | [],_=>by rw[List.nil_append,ya,if_pos rfl]
 | b::a,h=>by
  rw[List.cons_append,ya,if_neg (h b (by simp)),zhb (fun x hx=>h x (by simp[hx]))]
def zb8 (c:UInt8) (s:ByteArray):List ByteArray:=(ya c s.data.toList).map ve
theorem zfb {f k:Nat}(hf:f<=k) (hk:k<s.size) (hn:∀ j,f<=j->j<k->¬bAt s j=c.toNat) (h:bAt s k=c.toNat):ya c (s.data.toList.drop f)=(s.data.toList.take k).drop f::ya c (s.data.toList.drop (k+1)):=by
 have hk':k<s.data.toList.length:=hk;have e:s.data.toList.drop f=(s.data.toList.take k).drop f++c::s.data.toList.drop (k+1):=by
  have hc:s.data.toList[k]=c:=u8_eq.1 (by rw[<- zj9 hk];exact h)
  conv=>lhs;rw[<- List.take_append_drop k s.data.toList]
  rw[List.drop_append_of_le_length (by rw[List.length_take];omega),List.drop_eq_getElem_cons hk',hc]
 rw[e];refine zhb fun b hb=>?_;obtain ⟨i,hi,rfl⟩:=List.getElem_of_mem hb;rw[List.length_drop,List.length_take] at hi;rw[List.getElem_drop,List.getElem_take];have:=hn (f+i) (by omega) (by omega)
 rw[zj9 (show f+i<s.size by omega)] at this;exact fun e=>this (u8_eq.2 e)
theorem zik {f:Nat}(hn:∀ j,f<=j->j<s.size->¬bAt s j=c.toNat):ya c (s.data.toList.drop f)=[s.data.toList.drop f]:=by
 refine ze7 fun b hb=>?_;obtain ⟨i,hi,rfl⟩:=List.getElem_of_mem hb;rw[List.length_drop] at hi;rw[List.getElem_drop];have h1:f+i<s.size:=by show f+i<s.data.toList.length;omega
 have:=hn (f+i) (by omega) h1;rw[zj9 h1] at this;exact fun e=>this (u8_eq.2 e)
theorem splL_cut (c:UInt8) (s:ByteArray):(∃ i,i<s.size/\Lib.cut s.data.toList [c]=(s.data.toList.take i,s.data.toList.drop (i+1),true)/\ya c s.data.toList=s.data.toList.take i::ya c (s.data.toList.drop (i+1)))\/(Lib.cut s.data.toList [c]=(s.data.toList,[],false)/\ya c s.data.toList=[s.data.toList]):=by
 rcases Lib.index_spec s.data.toList [c] with ⟨_,h2⟩|⟨i,_,h2,h3,h4⟩
 ·refine .inr ⟨zjz h2,?_⟩
  have:=zik (c:=c) (s:=s) (f:=0) (fun j _ hj=>by
   have:=h2 j (Nat.le_of_lt hj)
   rw[occ1 hj] at this;exact of_decide_eq_false this)
  exact this
 ·have hi:i<s.size:=by
   rcases Nat.lt_or_ge i s.size with h|h
   ·exact h
   ·rw[ziz h] at h3;exact Bool.noConfusion h3
  refine .inl ⟨i,hi,cut_at h3 h4 h2,?_⟩
  have:=zfb (c:=c) (s:=s) (f:=0) (Nat.zero_le _) hi (fun j _ hj=>by
   have:=h4 j hj;rw[occ1 (by omega)] at this;exact of_decide_eq_false this) (by rw[occ1 hi] at h3;exact of_decide_eq_true h3)
  exact this
theorem splL_idx (c:UInt8) (l:List UInt8):(∃ i:Nat,i<l.length/\Lib.index l [c]=i/\ya c l=l.take i::ya c (l.drop (i+1)))\/(Lib.index l [c] = -1/\ya c l=[l]):=by
 have h:=splL_cut c (ve l)
 rcases Lib.index_spec l [c] with ⟨h1,h2⟩|⟨i,h1,h2,h3,h4⟩
 ·rcases h with ⟨i,_,e1,_⟩|⟨_,e2⟩
  ·have:=zjz h2;rw[show Lib.cut l [c]=(l.take i,l.drop (i+1),true) from e1] at this;simp at this
  ·exact .inr ⟨h1,e2⟩
 ·have hc:=cut_at h3 h4 h2;rcases h with ⟨j,hj,e1,e2⟩|⟨e1,_⟩
  ·have hi:i<l.length:=by
    rcases Nat.lt_or_ge i l.length with h|h
    ·exact h
    ·have:=ziz (s:=ve l) (c:=c) (j:=i) h;rw[show Lib.occAt l [c] i=false from this] at h3;exact Bool.noConfusion h3
   have he:(l.take j,l.drop (j+1),true)=(l.take i,l.drop (i+1),true):=(show Lib.cut l [c]=_ from e1).symm.trans hc;simp only[Prod.mk.injEq,and_true] at he;have hl:=congrArg List.length he.1;rw[List.length_take,List.length_take] at hl;have hj:j<l.length:=hj;have:j=i:=by omega
   subst this;exact .inl ⟨j,hi,h1,e2⟩
  ·rw[show Lib.cut l [c]=(l,[],false) from e1] at hc;simp at hc
theorem zha (c:UInt8):∀ (n:Nat) (l:List UInt8),l.length<=n->Lib.splitK [c] 0 (Lib.count l [c]) l=ya c l
 | 0,l,h=>by
  have:l=[]:=List.length_eq_zero_iff.1 (by omega)
  subst this;rfl
 | n+1,l,h=>by
  rcases splL_idx c l with ⟨i,hi,h1,h2⟩|⟨h1,h2⟩
  ·rw[Lib.count_hit (by simp) h1,h2,Nat.add_comm,Lib.splitK,h1,if_neg (by simp)];simp only[Int.toNat_natCast,Nat.add_zero,List.length_singleton];rw[zha c n _ (by rw[List.length_drop];omega)]
  ·rw[Lib.count_miss h1,h2];rfl
theorem zks {P:Program}{Gl:Nat->Option D}{f:FuncId}{ct:Ct}{fn:Func}(hf:P.funcs[f]?=some fn) (hname:(fn.name == "runtime.NumGoroutine")=false) (hbody:fn.body.isNone=false) (hpd:∀ x,pdL (ct.inp x)=true)
  (h:∀ x,ct.pre x->∀ (M:Mem) (w:World) (us:Array Value),M.fits w->GlOk M Gl->RepL M [] (ct.inp x) us.toList ->
    Calls P f us w fun e w'=>∃ v M',e=.returned v/\M.le M'/\(∀ b o,M' b=some o->M b=some o\/w.heap.size<=b)/\M'.fits w'/\Rep M' [] (ct.out x) v/\Below w.heap.size w w'):Sound P Gl f ct:=by
 refine ⟨⟨fn,hf,hname,hbody⟩,hpd,fun x hx M w us hfit hG hr n=>callsIn_wide.2 ((h x hx M w us hfit hG hr).mono ?_)⟩
 rintro e w' ⟨v,M',rfl,h1,h2,h3,h4,hb⟩
 exact ⟨M',v,rfl,h1,h2,h3,h4,hb⟩
def newM (M:Mem) (b:Nat) (o:Kn):Mem:=fun k=>if k=b then some o else M k
theorem fits_lt (h:M.fits w) {b:Nat}{o:Kn}(hb:M b=some o):b<w.heap.size:=by
 obtain ⟨y,hy⟩:=(h b o hb).some;exact (Array.getElem?_eq_some_iff.1 hy).1
theorem newM_le (h:M.fits w) (o:Kn):M.le (newM M w.heap.size o):=fun b x hb=>by
 have:=fits_lt h hb;unfold newM;rw[if_neg (by omega)];exact hb
theorem newM_fits (h:M.fits w) (c:Array Value) (t:TypeId):(newM M w.heap.size (.cells c t (0,0))).fits (w.alloc (.cells c t)):=fun b x hb=>by
 unfold newM at hb;split at hb
 ·rename_i e;subst e;simp only[Option.some.injEq] at hb;subst hb;show (w.heap.push (.cells c t))[w.heap.size]?=_;simp
 ·have hlt:=fits_lt h hb;rw[Below.heap_alloc _ _ _ hlt];exact h b x hb
theorem newM_new {n:Nat}{o:Kn}:∀ b x,newM M n o b=some x->M b=some x\/n<=b:=fun b x hb=>by
 unfold newM at hb;split at hb
 ·exact .inr (by omega)
 ·exact .inl hb
def ze1 (sep:ByteArray) (c:UInt8):Ct:={ ι:=ByteArray,inp:=fun s=>[.v (.string s),.v (.string sep)],out:=fun s=>slD 1 vg (zb8 c s),pre:=fun s=>s.size<=1000000000 }
theorem splitS_ok (c:UInt8):SS mx pb 16 (ze1 ⟨#[c]⟩ c):=by
 refine zks Tryz.func16 (by kernel_rfl) (by kernel_rfl) (fun _=>rfl) fun (s:ByteArray) hs M w us hfit hG hr=>?_;have:=zig hr;subst this;have hs:s.size<=1000000000:=hs;refine (Any.strings_Split Tryz.lays146 (by kernel_rfl) s ⟨#[c]⟩ mx w (by omega) (gl_cell hfit hG rfl) (Nat.le_refl 1)).mono ?_;rintro e w' ⟨rfl,rfl⟩
 have e1:(Lib.splitB ⟨#[c]⟩ 0 (Lib.countB s ⟨#[c]⟩) s).map (·.data.toList)=ya c s.data.toList:=by
  rw[Lib.splitB_data];exact zha c _ _ (Nat.le_refl _)
 have e2:Lib.splitB ⟨#[c]⟩ 0 (Lib.countB s ⟨#[c]⟩) s=zb8 c s:=by
  unfold zb8;rw[<- e1,List.map_map];exact (List.map_id' _).symm
 have e3:Lib.countB s ⟨#[c]⟩+1=(zb8 c s).length:=by rw[<- e2];exact (Lib.splitB_all ⟨#[c]⟩ (Nat.le_refl 1) 0 _ s rfl).symm
 rw[e2,e3];refine ⟨_,newM M w.heap.size _,rfl,newM_le hfit _,newM_new,newM_fits hfit _ _,?_,Below.alloc (Below.refl _ _) (Nat.le_refl _) _⟩
 show Rep _ [] (slD 1 vg (zb8 c s)) _;simp only[slD,Rep];refine ⟨_,_,rfl,Nat.le_refl _,fun _=>⟨_,rfl,fun i hi j hj=>?_⟩⟩
 have hj:j=0:=by omega
 subst hj;refine ⟨.string ((zb8 c s).getD i default),?_,rfl,rfl⟩
 unfold Mem.cell newM;have hb:((⟨w.heap.size,0,none⟩:Addr).add (i*1+0))=⟨w.heap.size,i,none⟩:=by by_cases h:i=0<;>simp[Addr.add,h]
 rw[hb];simp[List.getD_eq_getElem?_getD,hi]
open Go Go.Sx
def bgS (L:List (List Rg)):Prop:=L.length<=1000000/\∀ i,i<L.length->(L.getD i default).length<=500000
def bgT (x:Tl):Prop:=bgS x.bef/\bgS x.mat/\bgS x.aft/\x.res.length<=1000000
def bgL (l:List Tl):Prop:=l.length<=1000000/\∀ i,i<l.length->bgT (l.getD i default)
def ctVsB:Ct:={ ι:=List Rg,inp:=fun l=>[zR l],out:=fun l=>.v (.bool (decide (canon l=l))),pre:=fun l=>l.length<=500000 }
noncomputable def ctOneB:Ct:={ ι:=Tl,inp:=fun x=>[tlA x],out:=fun x=>.v (.int .i64 (ziw x)),pre:=bgT }
noncomputable def chkB (l:List Tl):Int:=if 200<l.length then 2 else chkE l
noncomputable def Γvpb (mx:Int) (pb:Bool):Ctx:=fun f=>match f with
 | 53=>some (.pure ctMake)
 | _=>none
theorem Γvpb_ok:CK mx pb (Γvpb mx pb):=by
 intro f h hh;simp only[Γvpb] at hh;split at hh<;>simp at hh<;>subst hh
 ·exact yX
theorem pVsB_ok:SS mx pb 76 ctVsB:=by
 refine sb (cc:=true) Γvpb_ok Tryz.func76 ?_;intro (l:List Rg) (hl:l.length<=500000)
 have p1:ctMake.pre l:=⟨by omega,.inr (.inr trivial)⟩
 have hc:=zK l
 repeat' first|refine gl ?_|refine bs ?_ ?_<;>intro q_
 ·exact ze (decide_eq_false fun e=>q_ (by rw[e])).symm
 have hle:(canon l).length=l.length:=by omega
 refine ⟨0,Nat,fun k=>⟨[(1,.own 0 0),(17,xE (canon l)),(18,.v (.int .i64 (canon l).length)),(19,.v (.int .i64 k))],[.cells 31 [xE l]],[]⟩,fun k=>k<=(canon l).length/\∀ j,j<k->(canon l).getD j default=l.getD j default,fun k=>(canon l).length - k,fun _=>Nat.zero_le _,⟨0,⟨Nat.zero_le _,fun j hj=>by omega⟩,(sr [0])⟩,?_⟩
 rintro k ⟨hk,hd⟩
 by_cases hlt:k<(canon l).length
 ·repeat' first|refine gl ?_|refine bs ?_ ?_<;>intro q_
  ·refine ze (decide_eq_false fun e=>?_).symm;rw[e] at q_;simp at q_
  ·exact ⟨k+1,⟨by omega,zo hd (Prod.ext q_.1 q_.2.1)⟩,(by show _ - (k+1)<_ - k;omega),(sr [0])⟩
 ·refine gl ?_;exact ze (decide_eq_true (zdk hle fun j hj=>hd j (by omega))).symm
noncomputable def Γchb (mx:Int) (pb:Bool):Ctx:=fun f=>match f with
 | 76=>some (.pure ctVsB)
 | 75=>some (.pure ctConcat)
 | 77=>some (.pure ctValid)
 | _=>none
theorem Γchb_ok:CK mx pb (Γchb mx pb):=by
 intro f h hh;simp only[Γchb] at hh;split at hh<;>simp at hh<;>subst hh
 ·exact pVsB_ok
 ·exact zmj
 ·exact zci
theorem pOneB_ok:SS mx pb 46 ctOneB:=by
 refine sb (cc:=true) Γchb_ok Tryz.func46 ?_;rintro (x:Tl) ⟨h1,h2,h3,h4⟩
 have hl1:=h1.1;have hl2:=h2.1;have hl3:=h3.1;have hfl:[x.bef,x.mat,x.aft].flatten=x.bef++(x.mat++x.aft):=by simp
 repeat' first|refine gl ?_|refine bs ?_ ?_<;>intro q_
 all_goals first
  | exact zf (zld fun h=>by unfold szT at h;omega).symm
  | skip
 ·have hz:szT x:=by unfold szT;omega
  obtain ⟨F,hF⟩:∃ F,F=x.bef++(x.mat++x.aft):=⟨_,rfl⟩
  have hF0:=hF;rw[<- hF] at hfl;have hFl:F.length<=30:=by rw[hF,List.length_append,List.length_append];unfold szT at hz;omega
  have hS:∀ i,i<F.length->(F.getD i default).length<=500000:=by
   intro i hi;have hm:=zlo hi;rw[hF] at hm;have hs:∀ {L:List (List Rg)}{y:List Rg},bgS L->y∈L->y.length<=500000:=by
    intro L y hL hy;obtain ⟨n,hn,rfl⟩:=List.getElem_of_mem hy;have:=hL.2 n hn;rw[List.getD_eq_getElem?_getD,List.getElem?_eq_getElem hn] at this;exact this
   rcases List.mem_append.1 hm with hm|hm
   ·rw[hF];exact hs h1 hm
   ·rcases List.mem_append.1 hm with hm|hm
    ·rw[hF];exact hs h2 hm
    ·rw[hF];exact hs h3 hm
  have h3F:zm7 x↔rgtS F:=by rw[hF,rgtS_app,rgtS_app];exact Iff.rfl
  clear hF;refine ⟨[x.bef,x.mat,x.aft],EntL.cons (ue rfl rfl) (EntL.refl []),⟨(by decide:(3:Nat)<=1000),by rw[hfl];omega⟩,?_⟩
  rw[show ctConcat.out [x.bef,x.mat,x.aft]=zb6 F from by show zb6 _=_;rw[hfl]];refine gl ?_;refine ⟨0,Nat,fun k=>⟨[(1,.own 0 0),(37,zb6 F),(38,.v (.int .i64 F.length)),(39,.v (.int .i64 k))],[.cells 59 [tlD x 0,tlD x 1,tlD x 2,tlD x 3]],[]⟩,fun k=>k<=F.length/\∀ j,j<k->okS (F.getD j default),fun k=>F.length - k,fun _=>Nat.zero_le _,⟨0,⟨Nat.zero_le _,fun j hj=>by omega⟩,(sr [0])⟩,?_⟩
  rintro k ⟨hk,hd⟩
  by_cases hlt:k<F.length
  ·have p1:ctVsB.pre (F.getD k default):=hS k hlt
   repeat' first|refine gl ?_|refine bs ?_ ?_<;>intro q_
   ·exact zf (zfo hz fun h=>(h3F.1 h k hlt).2 (by omega)).symm
   ·exact ⟨k+1,⟨by omega,zo hd ⟨by assumption,by omega⟩⟩,(by show F.length - (k+1)<F.length - k;omega),(sr [0])⟩
   ·exact zf (zfo hz fun h=>q_ (h3F.1 h k hlt).1).symm
  ·have hs:zm7 x:=h3F.2 fun i hi=>hd i (by omega)
   clear hd hS;refine gl ?_;refine ⟨0,Nat,fun k=>⟨[(1,.own 0 0),(54,xE x.res),(55,.v (.int .i64 x.res.length)),(56,.v (.int .i64 k))],[.cells 59 [tlD x 0,tlD x 1,tlD x 2,tlD x 3]],[]⟩,fun k=>k<=x.res.length/\∀ j,j<k->pcOk x.mat.length (x.res.getD j default),fun k=>x.res.length - k,fun _=>Nat.zero_le _,⟨0,⟨Nat.zero_le _,fun j hj=>by omega⟩,(sr [0])⟩,?_⟩
   clear hlt hk;clear k;rintro k ⟨hk,hd⟩
   by_cases hlt:k<x.res.length
   ·repeat' first|refine gl ?_|refine bs ?_ ?_<;>intro q_
    all_goals first
     | exact zf (zhk hz hs fun h=>by
       have:=h k hlt;unfold pcOk at this;rcases this with ⟨e1,e2⟩|⟨e1,e2,e3⟩<;>first|omega|simp_all).symm
     | exact ⟨k+1,⟨by omega,zo hd (by unfold pcOk;first|exact .inl ⟨by assumption,by assumption⟩|exact .inr ⟨by omega,by omega,by omega⟩)⟩,(by show x.res.length - (k+1)<x.res.length - k;omega),(sr [0])⟩
   ·refine gl ?_;exact zf (oneE_ok hz hs fun i hi=>hd i (by omega)).symm
def sp1:ByteArray:=⟨#[32]⟩
def zbm (s:ByteArray):ByteArray:=ve (Lib.trimS s.data.toList [32])
def ctTrim1:Ct:={ ι:=ByteArray,inp:=fun s=>[.v (.string s),.v (.string sp1)],out:=fun s=>.v (.string (zbm s)),pre:=fun s=>s.size<=9223372036854775807 }
theorem trim1_ok:SS mx pb 18 ctTrim1:=by
 refine zb9 Tryz.func18 (by kernel_rfl) (by kernel_rfl) (fun _=>rfl) fun s hs M w us hfit hG hr=>?_;have:=zig hr;subst this;refine (Any.strings_Trim_laid Tryz.lays160 (by kernel_rfl) s sp1 w hs (by decide) (zmq (by decide))).mono ?_;rintro e w' ⟨rfl,hb⟩
 exact ⟨_,rfl,rfl,hb⟩
def hash1:ByteArray:=⟨#[35]⟩
def nrmB (s:ByteArray):ByteArray:=zbm (vx s hash1)
theorem trimS_len (l cs:List UInt8):(Lib.trimS l cs).length<=l.length:=by
 unfold Lib.trimS Lib.trimLeftS Lib.trimRightS;refine Nat.le_trans (List.dropWhile_sublist _).length_le ?_;rw[List.length_reverse];refine Nat.le_trans (List.dropWhile_sublist _).length_le ?_;rw[List.length_reverse];exact Nat.le_refl _
theorem ze0 (s:ByteArray):(vx s hash1).size<=s.size:=by
 show (Lib.cut s.data.toList hash1.data.toList).1.length<=s.data.toList.length;unfold Lib.cut;split
 ·exact (List.take_sublist _ _).length_le
 ·exact Nat.le_refl _
theorem nrm_size (s:ByteArray):(nrmB s).size<=s.size:=Nat.le_trans (trimS_len _ _) (ze0 s)
open Classical in
noncomputable def lnP (d:Db) (l:ByteArray):Option Tl:=if h:SmD d/\l.size<=65536 then rulP ⟨⟨d,l,0⟩,h.1,Nat.zero_le _,h.2⟩ else none
noncomputable def stpP (d:Db):List ByteArray->Nat->List Tl->List Tl × Int × Int
 | [],_,R=>(R,0,0)
 | l::ls,i,R =>
  if (nrmB l).size=0 then stpP d ls (i+1) R
  else match lnP d (nrmB l) with
   | none=>([],3,((i+1:Nat):Int))
   | some x=>if chkB (R++[x])=0 then stpP d ls (i+1) (R++[x]) else ([],chkB (R++[x]),((i+1:Nat):Int))
noncomputable def trP (d:Db) (s:ByteArray):List Tl × Int × Int:=if 65536<s.size then ([],2,0) else stpP d (zb8 10 s) 0 []
end Go.Proofs
