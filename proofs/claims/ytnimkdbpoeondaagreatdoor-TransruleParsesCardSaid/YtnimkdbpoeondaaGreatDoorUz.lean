import Derived.Test.YtnimkdbpoeondaaGreatDoorQz
set_option linter.all false
set_option maxHeartbeats 4000000
namespace Go.Proofs
open Go Go.Sx
variable {A:List Rg}{out:List Rg}{lo:Int}{tm tm':List (Nat × D)}{i:Nat}{a b:List Rg}{ow ow':List Own}{s t:Bool}{K:Int->Prop}{c:Int}
variable {mx:Int}{pb:Bool}
structure NotInv (A:List Rg) (lo:Int) (out:List Rg):Prop where
 pos:0<=lo
 le:lo<=1114112
 mem:∀ c,inR out c↔0<=c/\c<lo/\¬inR A c
 each:∀ r∈out,0<=r.1/\r.1<=r.2/\r.2<lo
 asc:out.Pairwise (fun x y=>x.1<y.1)
def bndN (A:List Rg) (lo:Int) (i:Nat) (out:List Rg):Prop:=out.length<=i\/(out.length<=i+1/\i<A.length/\(A.getD i default).1<=lo)\/(lo=1114112/\out.length<=A.length+1)
structure CurInv (A:List Rg) (lo:Int) (i:Nat):Prop where
 le:i<=A.length
 bef:∀ k,k<i->(A.getD k default).2<lo
theorem znl (A:List Rg):NotInv A 0 []:=⟨Int.le_refl _,by decide,fun c=>by rw[vu];exact ⟨fun h=>h.elim,fun h=>by omega⟩,fun r hr=>by simp at hr,List.Pairwise.nil⟩
theorem zjb:inR A c↔∃ k,k<A.length/\(A.getD k default).1<=c/\c<=(A.getD k default).2:=by
 constructor
 ·rintro ⟨r,hr,h⟩
  obtain ⟨k,hk,rfl⟩:=List.getElem_of_mem hr;refine ⟨k,hk,?_⟩
  rw[List.getD_eq_getElem?_getD,List.getElem?_eq_getElem hk];exact h
 ·rintro ⟨k,hk,h⟩
  exact ⟨_,xw hk,h⟩
theorem zou (h:Canon A) {j k:Nat}(hjk:j<k) (hk:k<A.length):(A.getD j default).2+1<(A.getD k default).1:=by
 have:=List.pairwise_iff_getElem.1 h.sep j k (by omega) hk hjk;rw[List.getD_eq_getElem?_getD,List.getD_eq_getElem?_getD,List.getElem?_eq_getElem (show j<A.length by omega),List.getElem?_eq_getElem hk];exact this
theorem yx (h:Canon A) {k:Nat}(hk:k<A.length):0<=(A.getD k default).1/\(A.getD k default).1<=(A.getD k default).2/\(A.getD k default).2<=1114111:=h.ok _ (xw hk)
theorem not_more {lo hi:Int}(h:NotInv A lo out) (h1:lo<=hi) (h2:hi<=1114111) (hn:∀ c,lo<=c->c<=hi->¬inR A c):NotInv A (hi+1) (out++[(lo,hi)]):=by
 have h0:=h.pos;refine ⟨by omega,by omega,fun c=>?_,fun r hr=>?_,?_⟩
 ·rw[yB,h.mem,yw];constructor
  ·rintro (⟨h3,h4,h5⟩|h3|h3)
   ·exact ⟨h3,by omega,h5⟩
   ·have h3:lo<=c/\c<=hi:=h3
    exact ⟨by omega,by omega,hn c h3.1 h3.2⟩
   ·exact (vu.1 h3).elim
  ·rintro ⟨h3,h4,h5⟩
   by_cases h6:c<lo
   ·exact .inl ⟨h3,h6,h5⟩
   ·exact .inr (.inl (show lo<=c/\c<=hi by omega))
 ·rcases List.mem_append.1 hr with hr|hr
  ·have:=h.each r hr;omega
  ·simp at hr;subst hr;show 0<=lo/\lo<=hi/\hi<hi+1
   omega
 ·refine List.pairwise_append.2 ⟨h.asc,List.pairwise_singleton _ _,fun r hr s hs=>?_⟩
  simp at hs;subst hs;have:=h.each r hr;show r.1<lo;omega
theorem not_skip {lo hi:Int}(h:NotInv A lo out) (h1:lo<=hi) (h2:hi<=1114111) (hn:∀ c,lo<=c->c<=hi->inR A c):NotInv A (hi+1) out:=by
 have h0:=h.pos;refine ⟨by omega,by omega,fun c=>?_,fun r hr=>?_,h.asc⟩
 ·rw[h.mem];constructor
  ·rintro ⟨h3,h4,h5⟩;exact ⟨h3,by omega,h5⟩
  ·rintro ⟨h3,h4,h5⟩
   refine ⟨h3,?_,h5⟩
   refine Classical.byContradiction fun h6=>h5 (hn c (by omega) (by omega))
 ·have:=h.each r hr;omega
theorem zjf (hA:Canon A) (hc:CurInv A lo i) (hlo:lo<=c) (hi:i<A.length->c<(A.getD i default).1):¬inR A c:=by
 rw[zjb];rintro ⟨k,hk,h1,h2⟩
 by_cases hki:k<i
 ·have:=hc.bef k hki;omega
 ·by_cases he:k=i
  ·subst he;have:=hi hk;omega
  ·have h3:=hi (by omega)
   have h4:=zou hA (show i<k by omega) hk;have h5:=yx hA (show i<A.length by omega)
   omega
theorem xg (hc:CurInv A lo i) (hi:i<A.length) (h:(A.getD i default).2<lo):CurInv A lo (i+1):=⟨hi,fun k hk=>by
 by_cases e:k=i
 ·subst e;exact h
 ·exact hc.bef k (by omega)⟩
theorem zn {lo lo':Int}(hc:CurInv A lo i) (h:lo<=lo'):CurInv A lo' i:=⟨hc.le,fun k hk=>by have:=hc.bef k hk;omega⟩
theorem bnd_next (h:bndN A lo i out) (hlo:lo<=1114111):bndN A lo (i+1) out:=by
 unfold bndN at *
 rcases h with h|h|h
 ·exact .inl (by omega)
 ·exact .inl (by omega)
 ·omega
theorem bnd_gap (h:bndN A lo i out) (hlo:lo<=1114111) (hi:i<A.length->lo<(A.getD i default).1):out.length<=i:=by
 unfold bndN at h;rcases h with h|⟨h1,h2,h3⟩|h
 ·exact h
 ·have:=hi h2;omega
 ·omega
theorem not_done {a out:List Rg}(h:NotInv (canon a) 1114112 out):canon out=zr [(0,1114111)] a 3:=by
 obtain ⟨h1,h2⟩:=yN [(0,1114111)] a 3;refine xC (zO out) h1 fun c=>?_;rw[xM,h.mem,h2,xM];have hf:yr [(0,1114111)] c=true↔0<=c/\c<=1114111:=by
  rw[yd,yw];constructor
  ·exact fun h=>h.1
  ·exact fun h=>⟨h,.inl h⟩
 constructor
 ·rintro ⟨hb,_,_,hn⟩
  refine ⟨hb,?_⟩
  have h3:yr a c=false:=by
   rw[<- Bool.not_eq_true,yd];exact hn
  rw[hf.2 hb,h3];rfl
 ·rintro ⟨hb,hk⟩
  refine ⟨hb,hb.1,by omega,fun hin=>?_⟩
  rw[hf.2 hb,yd.2 hin] at hk;exact absurd hk (by decide)
theorem not_mkOk {A out:List Rg}(_:NotInv A lo out) (hl:out.length<4194304):zbz out:=⟨hl,.inr (.inr trivial)⟩
noncomputable def cCur:Code:=(Tryz.f200.body).getD .skip
noncomputable def cCur1:Code:=(Tryz.f221.body).getD .skip
noncomputable def cNot1:Code:=(Tryz.f188.body).getD .skip
noncomputable def Γcu:Ctx:=fun f=>match f with
 | 53=>some (.pure ctMake)
 | _=>none
theorem zic:CK mx pb Γcu:=by
 intro f h hh;simp only[Γcu] at hh;split at hh<;>simp at hh<;>subst hh
 ·exact yX
noncomputable def Γco (mx:Int) (pb:Bool):Ctx:=fun f=>match f with
 | 53=>some (.pure ctMake)
 | 200=>some (.gen (zds true Γcu Tryz.T (GlT mx pb) Tryz.f200 cCur))
 | 221=>some (.gen (zds true Γ0 Tryz.T (GlT mx pb) Tryz.f221 cCur1))
 | 188=>some (.gen (zds true Γ0 Tryz.T (GlT mx pb) Tryz.f188 cNot1))
 | _=>none
theorem Γco_ok:CK mx pb (Γco mx pb):=by
 intro f h hh;simp only[Γco] at hh;split at hh<;>simp at hh<;>subst hh
 ·exact yX
 ·exact si zic Tryz.func200
 ·exact si zH Tryz.func221
 ·exact si zH Tryz.func188
def ctCmbN:Ct:={ ι:=List Rg,inp:=fun a=>[zR a,.ag [zke],.fn 188 []],out:=fun a=>zR (zr [(0,1114111)] a 3),pre:=fun a=>zbz a/\a.length<=500000 }
def owCu (A:List Rg) (i:Nat) (out:List Rg):List Own:=[.cells 31 [zke],.cells 29 [xE A],.cells 3 [.v (.int .i64 i)],.cells 29 [xE []],.cells 3 [.v (.int .i64 0)],zG 111 2 rgD out]
def sCu (A:List Rg) (lo:Int) (i:Nat) (out:List Rg):St:=⟨[(2,.fn 188 []),(6,.own 0 0),(7,.fn 221 [.own 2 0,.own 1 0]),(8,.fn 221 [.own 4 0,.own 3 0]),(9,.row 5),(10,.v (.int .i64 lo))],owCu A i out,[]⟩
def sCi (A:List Rg) (lo:Int) (i:Nat) (out:List Rg):St:=⟨[(0,.v (.int .i64 lo)),(1,.own 2 0),(2,.own 1 0)],owCu A i out,[]⟩
theorem StLe.m6 (h1:renT [0,1,2,3,4,5] tm tm') (h2:renO [0,1,2,3,4,5] ow [0,1,2,3,4,5] ow'):StLe 6 ⟨tm,ow,[]⟩ ⟨tm',ow',[]⟩:=zq [0,1,2,3,4,5] h1 h2 (by decide) (by decide) (by simp)
theorem sm (h1:renT [0,1,2,3,4,5] tm tm':=by exact tmS) (h2:renO [0,1,2,3,4,5] ow [0,1,2,3,4,5] ow':=by repeat' (first|exact trivial|exact own_refl|exact eZ|refine And.intro ?_ ?_)):StLe 6 ⟨tm,ow,[]⟩ ⟨tm',ow',[]⟩:=StLe.m6 h1 h2
theorem cmbN_ok:SS mx pb 185 ctCmbN:=by
 refine sb (cc:=true) Γco_ok Tryz.func185 ?_;rintro (a:List Rg) ⟨(hm:zbz a),(hl:a.length<=500000)⟩
 have p1:ctMake.pre a:=hm;refine gO ?_;refine .inr ⟨.stage [0,2] (.alt 1 [2] (.stage [] (.alt 3 [] (.done [4,5]) .nil)) .nil),by decide +kernel,?_⟩
 refine And.intro rfl (And.intro rfl ?_)
 refine gl ?_;refine And.intro rfl ?_;refine gl ?_;refine ⟨[],EntL.cons Ent.nil (EntL.refl []),⟨by decide,.inl (by decide)⟩,?_⟩
 refine gl ?_;refine And.intro rfl (And.intro rfl ?_)
 refine gl ?_;simp only[nq,zG,zW,nr,ns,Nat.reduceAdd,reduceIte];have hA:=zO a;have hAl:=zK a;refine ⟨0,Int × Nat × List Rg,fun|(lo,i,out)=>sCu (canon a) lo i out,fun|(lo,i,out)=>NotInv (canon a) lo out/\CurInv (canon a) lo i/\bndN (canon a) lo i out,fun x=>(1114112 - x.1).toNat,fun _=>Nat.zero_le _,⟨(0,0,[]),⟨znl _,⟨Nat.zero_le _,fun k hk=>by omega⟩,.inl (Nat.le_refl _)⟩,StLe.trans (StLe.nilRow (t:=9) 111 2 (fun _ _=>.junk) rfl) (StLe.ren [2,4,5,7,8,9] tmS ⟨eZ,eZ,eZ,eZ,eZ,yg,trivial⟩ (by decide))⟩,?_⟩
 rintro ⟨lo,i,out⟩ ⟨hN,hC,hB⟩
 generalize hAe:canon a=A at hA hAl hN hC hB ⊢;have hp:=hN.pos;have hle:=hN.le;by_cases hlo:lo<=1114111
 ·refine gl ?_;refine ⟨0,Nat,fun i=>sCi A lo i out,fun i=>CurInv A lo i/\bndN A lo i out,fun i=>A.length - i,fun _=>(by show 6<=6;decide),⟨i,⟨hC,hB⟩,sm⟩,?_⟩
  clear hC hB;rintro k ⟨(hC:CurInv A lo k),(hB:bndN A lo k out)⟩
  have hi:=hC.le;by_cases hil:k<A.length
  ·obtain ⟨h1,h2,h3⟩:=yx hA hil;by_cases hh:(A.getD ((k:Int)).toNat default).2<lo
   ·refine gl ?_;exact ⟨k+1,⟨xg hC hil hh,bnd_next hB hlo⟩,(by show A.length - (k+1)<A.length - k;omega),StLe.m6 tmS ⟨eZ,eZ,⟨rfl,EntL.cons (Ent.int (by omega)) (EntL.refl []),rfl⟩,eZ,eZ,own_refl,trivial⟩⟩
   ·have hh0:¬(A.getD k default).2<lo:=hh;by_cases hg:lo<(A.getD ((k:Int)).toNat default).1
    ·have hg0:lo<(A.getD k default).1:=hg;have hb:=bnd_gap hB hlo (fun _=>hg0)
     have hn:=not_more hN (show lo<=(A.getD k default).1 - 1 by omega) (by omega) (fun c c1 c2=>zjf hA hC c1 (fun _=>by omega))
     rw[Int.sub_add_cancel] at hn;have hm:min ((A.getD ((k:Int)).toNat default).1 - 1) 1114111=(A.getD k default).1 - 1:=by
      show min ((A.getD k default).1 - 1) 1114111=_;omega
     have hol:out.length<=500000:=by omega
     refine gl ?_;refine ⟨2,?_⟩
     refine gl ?_;exact ⟨((A.getD k default).1,k,out++[(lo,(A.getD k default).1 - 1)]),⟨hn,zn hC (by omega),.inr (.inl ⟨by simp;omega,hil,Int.le_refl _⟩)⟩,(by show (1114112 - (A.getD k default).1).toNat<(1114112 - lo).toNat;omega),StLe.ren [0,1,2,3,4,6] tmS ⟨eZ,eZ,eZ,eZ,eZ,zF (x:=(lo,(A.getD k default).1 - 1)) (fun j hj=>match j,hj with|0,_=>eE|1,_=>Ent.of_eq (congrArg (fun z=>D.v (.int .i64 z)) hm)),trivial⟩ (by decide)⟩
    ·have hg0:¬lo<(A.getD k default).1:=hg;refine gl ?_;refine ⟨2,?_⟩
     refine gl ?_;refine ⟨((A.getD k default).2+1,k,out),⟨not_skip hN (by omega) (by omega) (fun c c1 c2=>zjb.2 ⟨k,hil,by omega,by omega⟩),zn hC (by omega),?_⟩,(by show (1114112 - ((A.getD k default).2+1)).toNat<(1114112 - lo).toNat;omega),?_⟩
     ·rcases hB with h|⟨h4,h5,h6⟩|h
      ·exact .inl h
      ·exact .inr (.inl ⟨h4,h5,by omega⟩)
      ·omega
     ·exact (sr [0,1,2,3,4,5])
  ·have hk:k=A.length:=by omega
   have hb:=bnd_gap hB hlo (fun h=>absurd h hil)
   have hn:=not_more hN hlo (Int.le_refl _) (fun c c1 c2=>zjf hA hC c1 (fun h=>absurd h hil))
   have hol:out.length<=500000:=by omega
   refine gl ?_;refine ⟨2,?_⟩
   refine gl ?_;exact ⟨(1114112,k,out++[(lo,1114111)]),⟨hn,zn hC (by omega),.inr (.inr ⟨rfl,by simp;omega⟩)⟩,(by show ((1114112:Int) - 1114112).toNat<(1114112 - lo).toNat;omega),StLe.ren [0,1,2,3,4,6] tmS ⟨eZ,eZ,eZ,eZ,eZ,zF (x:=(lo,1114111)) (fun j hj=>match j,hj with|0,_=>eE|1,_=>Ent.of_eq (congrArg (fun z=>D.v (.int .i64 z)) (show min (1114111:Int) 1114111=1114111 by decide))),trivial⟩ (by decide)⟩
 ·have hlo2:lo=1114112:=by omega
  have hol:out.length<4194304:=by
   rcases hB with h|⟨h4,h5,h6⟩|h
   ·have:=hC.le;omega
   ·omega
   ·omega
  have p2:ctMake.pre out:=not_mkOk hN hol;have e:=not_done (a:=a) (out:=out) (by rw[hAe,<- hlo2];exact hN)
  refine gl ?_;refine EntR.of rfl ?_;show Ent (zR (canon out)) (zR _)
  rw[e];exact eE
theorem asc_mk {l:List Rg}(_:∀ r∈l,0<=r.1/\r.2<=1114111) (_:l.Pairwise (fun x y=>x.1<y.1)) (hl:l.length<65536):zbz l:=⟨by omega,.inr (.inr trivial)⟩
theorem canon_mk {l:List Rg}(hl:l.length<65536):zbz (canon l):=by
 have h:=zO l;have h2:=zK l;refine asc_mk (fun r hr=>⟨(h.ok r hr).1,(h.ok r hr).2.2⟩) ?_ (by omega)
 refine List.Pairwise.imp_of_mem (fun {x y} hx hy hxy=>?_) h.sep;have:=h.ok x hx;have hxy:x.2+1<y.1:=hxy;omega
def selB (v:Int) (s:Sp):Bool:=decide (v=0)||decide (s.val=v)
theorem zba {v:Int}{s:Sp}:selB v s=true↔v=0\/s.val=v:=by simp[selB]
def zg9 (v:Int) (l:List Sp):List Rg:=(l.filter (selB v)).map fun s=>(s.lo,s.hi)
theorem zkk {v:Int}{l:List Sp}{k:Nat}(hk:k<l.length):zg9 v (l.take (k+1))=if selB v (l.getD k default)=true then zg9 v (l.take k)++[((l.getD k default).lo,(l.getD k default).hi)] else zg9 v (l.take k):=by
 have e:l.getD k default=l[k]:=by simp[List.getD_eq_getElem?_getD,hk]
 rw[List.take_succ_eq_append_getElem hk,e];unfold zg9;rw[List.filter_append,List.map_append];by_cases h:selB v l[k]=true
 ·rw[if_pos h,List.filter_cons_of_pos h];rfl
 ·rw[if_neg h,List.filter_cons_of_neg h];simp
theorem zee (v:Int) (l:List Sp):(zg9 v l).length<=l.length:=by
 unfold zg9;rw[List.length_map];exact List.length_filter_le _ _
theorem cnt_asc (p:Pr):∀ j,j<(ym p).spans.length->∀ i,i<j->((ym p).spans.getD i default).hi<((ym p).spans.getD j default).lo
 | 0,_,i,hi=>by omega
 | j+1,hj,i,hi=>by
  have h1:=(zop p (j+1) hj).2 (by omega)
  rw[show j+1 - 1=j by omega] at h1;have h1:=h1.1;by_cases e:i=j
  ·subst e;exact h1
  ·have h2:=cnt_asc p j (by omega) i (by omega)
   have h3:=(zop p j (by omega)).1.2.1;omega
theorem cnt_pair (p:Pr):(ym p).spans.Pairwise (fun x y=>x.hi<y.lo):=by
 rw[List.pairwise_iff_getElem];intro i j hi hj hij;have:=cnt_asc p j hj i hij;rw[List.getD_eq_getElem?_getD,List.getD_eq_getElem?_getD,List.getElem?_eq_getElem hi,List.getElem?_eq_getElem hj] at this;exact this
theorem cnt_in (p:Pr):∀ s∈(ym p).spans,spIn (ym p).names.length s:=fun s hs=>by
 obtain ⟨i,hi,rfl⟩:=List.getElem_of_mem hs;have:=(zop p i hi).1;rw[List.getD_eq_getElem?_getD,List.getElem?_eq_getElem hi] at this;exact this
theorem valS_mk (p:Pr) (v:Int) (hl:(ym p).spans.length<65536):zbz (zg9 v (ym p).spans):=by
 refine asc_mk (fun r hr=>?_) ?_ (Nat.lt_of_le_of_lt (zee _ _) hl)
 ·obtain ⟨s,hs,rfl⟩:=List.mem_map.1 hr;have:=cnt_in p s (List.mem_filter.1 hs).1;exact ⟨this.1,this.2.2.1⟩
 ·unfold zg9;rw[List.pairwise_map];refine List.Pairwise.imp_of_mem (fun {x y} hx hy hxy=>?_) ((cnt_pair p).filter _)
  have:=(cnt_in p x (List.mem_filter.1 hx).1).2.1;show x.lo<y.lo;omega
noncomputable def setV (p:Pr) (v:Int):List Rg:=if v=0 then zr [(0,1114111)] (canon (zg9 v (ym p).spans)) 3 else canon (zg9 v (ym p).spans)
theorem setV_canon (p:Pr) (v:Int):Canon (setV p v):=by
 unfold setV;split
 ·exact (yN _ _ _).1
 ·exact zO _
def ctNotS:Ct:={ ι:=List Rg,inp:=fun a=>[zR a],out:=fun a=>zR (zr [(0,1114111)] a 3),pre:=fun a=>zbz a/\a.length<=10000 }
noncomputable def Γno (mx:Int) (pb:Bool):Ctx:=fun f=>match f with
 | 185=>some (.pure ctCmbN)
 | _=>none
theorem Γno_ok:CK mx pb (Γno mx pb):=by
 intro f h hh;simp only[Γno] at hh;split at hh<;>simp at hh<;>subst hh
 ·exact cmbN_ok
theorem pNotS_ok:SS mx pb 157 ctNotS:=by
 refine sb (cc:=true) Γno_ok Tryz.func157 ?_;rintro (a:List Rg) ⟨(hm:zbz a),(hl:a.length<=10000)⟩
 have p1:ctCmbN.pre a:=⟨hm,by omega⟩
 refine gl ?_;exact eR
def ctMns:Ct:={ ι:=List Rg × List Rg,inp:=fun x=>[zR x.1,zR x.2],out:=fun x=>zR (zr x.1 x.2 3),pre:=fun x=>x.1.length<=10000/\x.2.length<=10000 }
noncomputable def Γmn:Ctx:=fun f=>match f with
 | 132=>some (.pure ctComb)
 | _=>none
theorem Γmn_ok:CK mx pb Γmn:=by
 intro f h hh;simp only[Γmn] at hh;split at hh<;>simp at hh<;>subst hh
 ·exact zoo
theorem rMns_ok:SS mx pb 170 ctMns:=by
 refine sb (cc:=true) Γmn_ok Tryz.func170 ?_;rintro ⟨(a:List Rg),(b:List Rg)⟩ ⟨(ha:a.length<=10000),(hb:b.length<=10000)⟩
 refine gA ?_;refine ⟨(a,b,3),eL,⟨ha,hb⟩,?_⟩
 refine gA ?_;exact eR
def ctAndS:Ct:={ ι:=List Rg × List Rg,inp:=fun x=>[zR x.1,zR x.2],out:=fun x=>zR (zr x.1 x.2 2),pre:=fun x=>x.1.length<=10000/\x.2.length<=10000 }
theorem rAnd_ok:SS mx pb 168 ctAndS:=by
 refine sb (cc:=true) Γmn_ok Tryz.func168 ?_;rintro ⟨(a:List Rg),(b:List Rg)⟩ ⟨(ha:a.length<=10000),(hb:b.length<=10000)⟩
 refine gA ?_;refine ⟨(a,b,2),eL,⟨ha,hb⟩,?_⟩
 refine gA ?_;exact eR
noncomputable def Γrno:Ctx:=fun f=>match f with
 | 170=>some (.pure ctMns)
 | _=>none
theorem Γrno_ok:CK mx pb Γrno:=by
 intro f h hh;simp only[Γrno] at hh;split at hh<;>simp at hh<;>subst hh
 ·exact rMns_ok
theorem rNotS_ok:SS mx pb 174 ctNotS:=by
 refine sb (cc:=true) Γrno_ok Tryz.func174 ?_;rintro (a:List Rg) ⟨(hm:zbz a),(hl:a.length<=10000)⟩
 refine gA ?_;refine ⟨([(0,1114111)],a),EntL.cons (Ent.ag (EntL.cons (zdl fun j hj=>?_) eL)) eL,⟨(by show 1<=10000;decide),hl⟩,?_⟩
 ·match j,hj with
  | 0,_=>exact eE
  | 1,_=>exact eE
 refine gA ?_;exact eR
noncomputable def ctSetV:Ct:={ ι:=Pr × Int,inp:=fun x=>[prA x.1,.v (.int .i64 x.2)],out:=fun x=>zR (setV x.1 x.2),pre:=fun x=>x.1.spans.length<=1000 }
theorem cnt_spl (p:Pr):(ym p).spans.length<=p.spans.length:=by
 rcases Bool.eq_false_or_eq_true (zT p) with h|h
 ·rw[zd1 h];exact Nat.le_refl _
 ·rw[zd2 h];exact Nat.zero_le _
noncomputable def Γst (mx:Int) (pb:Bool):Ctx:=fun f=>match f with
 | 229=>some (.pure ctCnt)
 | 53=>some (.pure ctMake)
 | 157=>some (.pure ctNotS)
 | _=>none
theorem Γst_ok:CK mx pb (Γst mx pb):=by
 intro f h hh;simp only[Γst] at hh;split at hh<;>simp at hh<;>subst hh
 ·exact pCnt_ok
 ·exact yX
 ·exact pNotS_ok
theorem pSetV_ok:SS mx pb 209 ctSetV:=by
 refine sb (cc:=true) Γst_ok Tryz.func209 ?_;rintro ⟨(p:Pr),(v:Int)⟩ (hp:p.spans.length<=1000)
 have p1:ctCnt.pre p:=Nat.le_trans hp (by decide)
 have hl:=cnt_spl p;refine gl ?_;refine ⟨0,Nat × List Rg,fun|(k,out)=>⟨[(1,.v (.int .i64 v)),(4,.own 0 0),(5,.row 1),(10,zei (ym p).spans),(11,.v (.int .i64 (ym p).spans.length)),(12,.v (.int .i64 k))],[.cells 31 [zke],zG 111 2 rgD out],[]⟩,fun|(k,out)=>k<=(ym p).spans.length/\out=zg9 v ((ym p).spans.take k),fun x=>(ym p).spans.length - x.1,fun _=>Nat.zero_le _,⟨(0,[]),⟨Nat.zero_le _,rfl⟩,StLe.trans (StLe.nilRow (t:=5) 111 2 (fun _ _=>.junk) rfl) (StLe.ren [1,2] tmS ⟨eZ,yg,trivial⟩ (by decide))⟩,?_⟩
 rintro ⟨k,out⟩ ⟨hk,ho⟩
 have hk:k<=(ym p).spans.length:=hk;have hmk:=valS_mk p v (by omega)
 have hset:setV p v=if v=0 then zr [(0,1114111)] (canon (zg9 v (ym p).spans)) 3 else canon (zg9 v (ym p).spans):=rfl;generalize (ym p).spans=S at hl hk ho hmk hset ⊢;have hol:out.length<=k:=by
  rw[ho];have:=zee v (S.take k)
  simp at this;omega
 by_cases hlt:k<S.length
 ·have ht:=zkk (v:=v) hlt;rw[<- ho] at ht;by_cases hv:v=0
  ·have hs:selB v (S.getD k default)=true:=zba.2 (.inl hv)
   rw[if_pos hs] at ht;refine gl ?_;exact ⟨(k+1,out++[((S.getD k default).lo,(S.getD k default).hi)]),⟨hlt,ht.symm⟩,(by show S.length - (k+1)<S.length - k;omega),StLe.ren [0,3] tmS ⟨eZ,zF (x:=((S.getD k default).lo,(S.getD k default).hi)) (fun j hj=>match j,hj with|0,_=>eE|1,_=>eE),trivial⟩ (by decide)⟩
  ·by_cases hw:(S.getD ((k:Int)).toNat default).val=v
   ·have hs:selB v (S.getD k default)=true:=zba.2 (.inr hw)
    rw[if_pos hs] at ht;refine gl ?_;exact ⟨(k+1,out++[((S.getD k default).lo,(S.getD k default).hi)]),⟨hlt,ht.symm⟩,(by show S.length - (k+1)<S.length - k;omega),StLe.ren [0,3] tmS ⟨eZ,zF (x:=((S.getD k default).lo,(S.getD k default).hi)) (fun j hj=>match j,hj with|0,_=>eE|1,_=>eE),trivial⟩ (by decide)⟩
   ·have hs:¬selB v (S.getD k default)=true:=fun h=>(zba.1 h).elim hv hw;rw[if_neg hs] at ht;refine gl ?_;exact ⟨(k+1,out),⟨hlt,ht.symm⟩,(by show S.length - (k+1)<S.length - k;omega),(sr [0,1])⟩
 ·have e:out=zg9 v S:=by rw[ho,List.take_of_length_le (by omega)]
  have p2:ctMake.pre out:=by rw[e];exact hmk
  have p3:ctNotS.pre (canon out):=⟨canon_mk (by omega),(by have:=zK out;omega)⟩
  by_cases hv:v=0
  ·refine gl ?_;refine EntR.of rfl ?_;show Ent (zR (zr [(0,1114111)] (canon out) 3)) (zR (setV p v))
   rw[hset,if_pos hv,e];exact eE
  ·refine gl ?_;refine EntR.of rfl ?_;show Ent (zR (canon out)) (zR (setV p v))
   rw[hset,if_neg hv,e];exact eE
noncomputable def Γrst:Ctx:=fun f=>match f with
 | 236=>some (.pure ctCnt)
 | 107=>some (.pure ctMakeR)
 | 174=>some (.pure ctNotS)
 | _=>none
theorem Γrst_ok:CK mx pb Γrst:=by
 intro f h hh;simp only[Γrst] at hh;split at hh<;>simp at hh<;>subst hh
 ·exact rCnt_ok
 ·exact zaw
 ·exact rNotS_ok
theorem rSetV_ok:SS mx pb 217 ctSetV:=by
 refine sb (cc:=true) Γrst_ok Tryz.func217 ?_;rintro ⟨(p:Pr),(v:Int)⟩ (hp:p.spans.length<=1000)
 have p1:ctCnt.pre p:=Nat.le_trans hp (by decide)
 have hl:=cnt_spl p;refine gl ?_;refine ⟨0,Nat × List Rg,fun|(k,out)=>⟨[(1,.v (.int .i64 v)),(4,.own 0 0),(5,.own 1 0),(6,.row 2),(7,.v (.int .i64 k))],[.cells 31 [zke],.cells 27 [slD 1 vg (ym p).names,zei (ym p).spans],zG 111 2 rgD out],[]⟩,fun|(k,out)=>k<=(ym p).spans.length/\out=zg9 v ((ym p).spans.take k),fun x=>(ym p).spans.length - x.1,fun _=>Nat.zero_le _,⟨(0,[]),⟨Nat.zero_le _,rfl⟩,StLe.trans (StLe.nilRow (t:=6) 111 2 (fun _ _=>.junk) rfl) (StLe.ren [1,2,3] tmS ⟨eZ,eZ,yg,trivial⟩ (by decide))⟩,?_⟩
 rintro ⟨k,out⟩ ⟨hk,ho⟩
 have hk:k<=(ym p).spans.length:=hk;have hmk:=valS_mk p v (by omega)
 have hset:setV p v=if v=0 then zr [(0,1114111)] (canon (zg9 v (ym p).spans)) 3 else canon (zg9 v (ym p).spans):=rfl;generalize (ym p).spans=S at hl hk ho hmk hset ⊢;generalize (ym p).names=Nm;have hol:out.length<=k:=by
  rw[ho];have:=zee v (S.take k)
  simp at this;omega
 by_cases hlt:k<S.length
 ·have ht:=zkk (v:=v) hlt;rw[<- ho] at ht;by_cases hv:v=0
  ·have hs:selB v (S.getD k default)=true:=zba.2 (.inl hv)
   rw[if_pos hs] at ht;refine gl ?_;exact ⟨(k+1,out++[((S.getD k default).lo,(S.getD k default).hi)]),⟨hlt,ht.symm⟩,(by show S.length - (k+1)<S.length - k;omega),StLe.ren [0,1,3] tmS ⟨eZ,eZ,zF (x:=((S.getD k default).lo,(S.getD k default).hi)) (fun j hj=>match j,hj with|0,_=>eE|1,_=>eE),trivial⟩ (by decide)⟩
  ·by_cases hw:(S.getD ((k:Int)).toNat default).val=v
   ·have hs:selB v (S.getD k default)=true:=zba.2 (.inr hw)
    rw[if_pos hs] at ht;refine gl ?_;exact ⟨(k+1,out++[((S.getD k default).lo,(S.getD k default).hi)]),⟨hlt,ht.symm⟩,(by show S.length - (k+1)<S.length - k;omega),StLe.ren [0,1,3] tmS ⟨eZ,eZ,zF (x:=((S.getD k default).lo,(S.getD k default).hi)) (fun j hj=>match j,hj with|0,_=>eE|1,_=>eE),trivial⟩ (by decide)⟩
   ·have hs:¬selB v (S.getD k default)=true:=fun h=>(zba.1 h).elim hv hw;rw[if_neg hs] at ht;refine gl ?_;exact ⟨(k+1,out),⟨hlt,ht.symm⟩,(by show S.length - (k+1)<S.length - k;omega),(sr [0,1,2])⟩
 ·have e:out=zg9 v S:=by rw[ho,List.take_of_length_le (by omega)]
  have p2:ctMakeR.pre out:=(by show out.length<=10000;omega)
  have p3:ctNotS.pre (canon out):=⟨canon_mk (by omega),(by have:=zK out;omega)⟩
  by_cases hv:v=0
  ·refine gl ?_;refine EntR.of rfl ?_;show Ent (zR (zr [(0,1114111)] (canon out) 3)) (zR (setV p v))
   rw[hset,if_pos hv,e];exact eE
  ·refine gl ?_;refine EntR.of rfl ?_;show Ent (zR (canon out)) (zR (setV p v))
   rw[hset,if_neg hv,e];exact eE
structure KInv (K:Int->Prop) (lo:Int) (out:List Rg):Prop where
 pos:0<=lo
 le:lo<=1114112
 mem:∀ c,inR out c↔0<=c/\c<lo/\K c
 each:∀ r∈out,0<=r.1/\r.1<=r.2/\r.2<lo
 asc:out.Pairwise (fun x y=>x.1<y.1)
theorem k_zero (K:Int->Prop):KInv K 0 []:=⟨Int.le_refl _,by decide,fun c=>by rw[vu];exact ⟨fun h=>h.elim,fun h=>by omega⟩,fun r hr=>by simp at hr,List.Pairwise.nil⟩
theorem k_more {lo hi:Int}(h:KInv K lo out) (h1:lo<=hi) (h2:hi<=1114111) (hn:∀ c,lo<=c->c<=hi->K c):KInv K (hi+1) (out++[(lo,hi)]):=by
 have h0:=h.pos;refine ⟨by omega,by omega,fun c=>?_,fun r hr=>?_,?_⟩
 ·rw[yB,h.mem,yw];constructor
  ·rintro (⟨h3,h4,h5⟩|h3|h3)
   ·exact ⟨h3,by omega,h5⟩
   ·have h3:lo<=c/\c<=hi:=h3
    exact ⟨by omega,by omega,hn c h3.1 h3.2⟩
   ·exact (vu.1 h3).elim
  ·rintro ⟨h3,h4,h5⟩
   by_cases h6:c<lo
   ·exact .inl ⟨h3,h6,h5⟩
   ·exact .inr (.inl (show lo<=c/\c<=hi by omega))
 ·rcases List.mem_append.1 hr with hr|hr
  ·have:=h.each r hr;omega
  ·simp at hr;subst hr;show 0<=lo/\lo<=hi/\hi<hi+1
   omega
 ·refine List.pairwise_append.2 ⟨h.asc,List.pairwise_singleton _ _,fun r hr s hs=>?_⟩
  simp at hs;subst hs;have:=h.each r hr;show r.1<lo;omega
theorem k_skip {lo hi:Int}(h:KInv K lo out) (h1:lo<=hi) (h2:hi<=1114111) (hn:∀ c,lo<=c->c<=hi->¬K c):KInv K (hi+1) out:=by
 have h0:=h.pos;refine ⟨by omega,by omega,fun c=>?_,fun r hr=>?_,h.asc⟩
 ·rw[h.mem];constructor
  ·rintro ⟨h3,h4,h5⟩;exact ⟨h3,by omega,h5⟩
  ·rintro ⟨h3,h4,h5⟩
   refine ⟨h3,?_,h5⟩
   refine Classical.byContradiction fun h6=>hn c (by omega) (by omega) h5
 ·have:=h.each r hr;omega
def Kc (a b:List Rg) (op:Int) (c:Int):Prop:=zX op (yr a c) (yr b c)=true
def zk9 (A:List Rg) (lo:Int):Nat:=A.countP (fun r=>decide (r.1<=lo))+A.countP (fun r=>decide (r.2<lo))
theorem zce {α:Type}{p q:α->Bool}:∀ {l:List α},(∀ x∈l,p x=true->q x=true)->(∃ x∈l,q x=true/\p x=false)->l.countP p+1<=l.countP q
 | [],_,⟨x,hx,_⟩=>by simp at hx
 | y::l,h,⟨x,hx,h1,h2⟩=>by
  have hm:l.countP p<=l.countP q:=List.countP_mono_left fun z hz=>h z (List.mem_cons_of_mem _ hz)
  rw[List.countP_cons,List.countP_cons];by_cases e:q y=true/\p y=false
  ·rw[if_pos e.1,if_neg (by simp[e.2])];omega
  ·rcases List.mem_cons.1 hx with rfl|hx
   ·exact absurd ⟨h1,h2⟩ e
   ·have ih:=zce (l:=l) (fun z hz=>h z (List.mem_cons_of_mem _ hz)) ⟨x,hx,h1,h2⟩
    have hy:=h y List.mem_cons_self;by_cases hp:p y=true
    ·rw[if_pos hp,if_pos (hy hp)];omega
    ·rw[if_neg hp];omega
theorem zk8 {lo lo':Int}(h:lo<=lo'):zk9 A lo<=zk9 A lo':=by
 have h1:A.countP (fun r=>decide (r.1<=lo))<=A.countP (fun r=>decide (r.1<=lo')):=List.countP_mono_left fun r _ hr=>by simp at hr ⊢;omega
 have h2:A.countP (fun r=>decide (r.2<lo))<=A.countP (fun r=>decide (r.2<lo')):=List.countP_mono_left fun r _ hr=>by simp at hr ⊢;omega
 unfold zk9;omega
theorem posn_lo {lo lo':Int}{r:Rg}(hr:r∈A) (h1:lo<r.1) (h2:r.1<=lo'):zk9 A lo+1<=zk9 A lo':=by
 have h3:A.countP (fun r=>decide (r.1<=lo))+1<=A.countP (fun r=>decide (r.1<=lo')):=zce (fun r _ hr=>by simp at hr ⊢;omega) ⟨r,hr,by simp;omega,by simp;omega⟩
 have h4:A.countP (fun r=>decide (r.2<lo))<=A.countP (fun r=>decide (r.2<lo')):=List.countP_mono_left fun r _ hr=>by simp at hr ⊢;omega
 unfold zk9;omega
theorem posn_hi {lo lo':Int}{r:Rg}(hr:r∈A) (h0:lo<=lo') (h1:lo<=r.2) (h2:r.2<lo'):zk9 A lo+1<=zk9 A lo':=by
 have h3:A.countP (fun r=>decide (r.2<lo))+1<=A.countP (fun r=>decide (r.2<lo')):=zce (fun r _ hr=>by simp at hr ⊢;omega) ⟨r,hr,by simp;omega,by simp;omega⟩
 have h4:A.countP (fun r=>decide (r.1<=lo))<=A.countP (fun r=>decide (r.1<=lo')):=List.countP_mono_left fun r _ hr=>by simp at hr ⊢;omega
 unfold zk9;omega
theorem ziv (A:List Rg) (lo:Int):zk9 A lo<=2*A.length:=by
 have h1:=List.countP_le_length (p:=fun r:Rg=>decide (r.1<=lo)) (l:=A)
 have h2:=List.countP_le_length (p:=fun r:Rg=>decide (r.2<lo)) (l:=A)
 unfold zk9;omega
structure SegA (A:List Rg) (lo:Int) (s:Bool) (e:Int):Prop where
 le:lo<=e
 max:e<=1114111
 same:∀ c,lo<=c->c<=e->(inR A c↔s=true)
 more:zk9 A lo+1<=zk9 A (e+1)\/e=1114111
theorem uv (hA:Canon A) (hc:CurInv A lo i) (hlo:lo<=1114111) (hi:¬i<A.length):SegA A lo false 1114111 :=
 ⟨hlo,Int.le_refl _,fun c c1 _=>⟨fun h=>absurd h (zjf hA hc c1 (fun h=>absurd h hi)),fun h=>Bool.noConfusion h⟩,.inr rfl⟩
theorem uu (hA:Canon A) (hc:CurInv A lo i) (hi:i<A.length) (h:lo<(A.getD i default).1):SegA A lo false ((A.getD i default).1 - 1):=by
 have hr:=yx hA hi;refine ⟨by omega,by omega,fun c c1 c2=>⟨fun h=>absurd h (zjf hA hc c1 (fun _=>by omega)),fun h=>Bool.noConfusion h⟩,.inl (posn_lo (xw hi) h (by omega))⟩
theorem zag (hA:Canon A) (hi:i<A.length) (h:¬lo<(A.getD i default).1) (h2:¬(A.getD i default).2<lo):SegA A lo true (A.getD i default).2:=by
 have hr:=yx hA hi;refine ⟨by omega,by omega,fun c c1 c2=>⟨fun _=>rfl,fun _=>zjb.2 ⟨i,hi,by omega,by omega⟩⟩,.inl (posn_hi (xw hi) (by omega) (by omega) (by omega))⟩
def bndC (A B:List Rg) (lo:Int) (out:List Rg):Prop:=(lo<=1114111/\out.length<=zk9 A lo+zk9 B lo)\/(lo=1114112/\out.length<=2*A.length+2*B.length+1)
theorem zgo (A B:List Rg):bndC A B 0 []:=.inl ⟨by decide,Nat.zero_le _⟩
theorem zox {A B:List Rg}(h:bndC A B lo out):out.length<=2*A.length+2*B.length+1:=by
 have h1:=ziv A lo;have h2:=ziv B lo;rcases h with h|h
 ·omega
 ·exact h.2
theorem zD {A B:List Rg}{lo e f:Int}{out out':List Rg}(h:bndC A B lo out) (hlo:lo<=1114111) (ha:SegA A lo s e) (hb:SegA B lo t f) (ho:out'.length<=out.length+1):bndC A B (min e f+1) out':=by
 have h0:out.length<=zk9 A lo+zk9 B lo:=by
  rcases h with h|h
  ·exact h.2
  ·omega
 have a1:=ha.le;have a2:=ha.max;have b1:=hb.le;have b2:=hb.max;have p1:=ziv A lo;have p2:=ziv B lo;by_cases hm:min e f=1114111
 ·exact .inr ⟨by omega,by omega⟩
 ·refine .inl ⟨by omega,?_⟩
  have m1:=zk8 (A:=A) (show lo<=min e f+1 by omega)
  have m2:=zk8 (A:=B) (show lo<=min e f+1 by omega)
  by_cases he:min e f=e
  ·rcases ha.more with h3|h3
   ·rw[he] at m2 ⊢;omega
   ·omega
  ·have he:min e f=f:=by omega
   rcases hb.more with h3|h3
   ·rw[he] at m1 ⊢;omega
   ·omega
theorem hasB_canon {a:List Rg}:yr a c=true↔inR (canon a) c:=by
 rw[yd,xM]
theorem seg_has {a:List Rg}{lo e c:Int}{s:Bool}(h:SegA (canon a) lo s e) (c1:lo<=c) (c2:c<=e):yr a c=s:=by
 have:=(hasB_canon (a:=a) (c:=c)).trans (h.same c c1 c2)
 cases hh:yr a c<;>cases s<;>simp_all
theorem seg_keep {op lo e f:Int}(ha:SegA (canon a) lo s e) (hb:SegA (canon b) lo t f):∀ c,lo<=c->c<=min e f->(Kc a b op c↔zX op s t=true):=by
 intro c c1 c2;unfold Kc;rw[seg_has ha c1 (by omega),seg_has hb c1 (by omega)]
theorem za8 {op lo e f:Int}(h:KInv (Kc a b op) lo out) (ha:SegA (canon a) lo s e) (hb:SegA (canon b) lo t f) (hk:zX op s t=true):KInv (Kc a b op) (min e f+1) (out++[(lo,min e f)]):=by
 have a1:=ha.le;have a2:=ha.max;have b1:=hb.le;exact k_more h (by omega) (by omega) fun c c1 c2=>(seg_keep ha hb c c1 c2).2 hk
theorem yi {op lo e f:Int}(h:KInv (Kc a b op) lo out) (ha:SegA (canon a) lo s e) (hb:SegA (canon b) lo t f) (hk:zX op s t=false):KInv (Kc a b op) (min e f+1) out:=by
 have a1:=ha.le;have a2:=ha.max;have b1:=hb.le;exact k_skip h (by omega) (by omega) fun c c1 c2 hh=>Bool.noConfusion (((seg_keep ha hb c c1 c2).1 hh).symm.trans hk)
theorem zj1 {a b out:List Rg}{op:Int}(h:KInv (Kc a b op) 1114112 out):canon out=zr a b op:=by
 obtain ⟨h1,h2⟩:=yN a b op;refine xC (zO out) h1 fun c=>?_;rw[xM,h.mem,h2];constructor
 ·rintro ⟨hb,_,_,hn⟩
  exact ⟨hb,hn⟩
 ·rintro ⟨hb,hk⟩
  exact ⟨hb,hb.1,by omega,hk⟩
theorem k_mkOk (_:KInv K lo out) (hl:out.length<4194304):zbz out:=⟨hl,.inr (.inr trivial)⟩
def owC2 (A B:List Rg) (i j:Nat) (out:List Rg):List Own:=[.cells 31 [zke],.cells 29 [xE A],.cells 3 [.v (.int .i64 i)],.cells 29 [xE B],.cells 3 [.v (.int .i64 j)],zG 111 2 rgD out]
def sCa (A B:List Rg) (lo:Int) (i j:Nat) (out:List Rg):St:=⟨[(0,.v (.int .i64 lo)),(1,.own 2 0),(2,.own 1 0)],owC2 A B i j out,[]⟩
def sCb (A B:List Rg) (lo:Int) (i j:Nat) (out:List Rg):St:=⟨[(0,.v (.int .i64 lo)),(1,.own 4 0),(2,.own 3 0)],owC2 A B i j out,[]⟩
end Go.Proofs
