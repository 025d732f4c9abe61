import Derived.Test.YtnimkdbpoeondaaGreatDoorOpz
import Derived.Test.YtnimkdbpoeondaaGreatDoorDz
set_option linter.all false
namespace Go.Proofs.YtnimkdbpoeondaaGreatDoor
open Go Go.Sx Go.ChangeShapes Go.WideShapes Go.ChangeAt Go.RowKit
variable {W:World}
def digs:List Int:=[48,49,50,51,52,53,54,55,56,57,65,66,67,68,69,70]
theorem gDig:Tryz.prog.globalNamed "unicodetext/codepoint.digits" = some 1:=by kernel_rfl
theorem tDig:(Tryz.prog.globals[1]?).map (·.type)=some 153:=by kernel_rfl
theorem digits_of (h:laidMetH Tryz.prog Rows.transruleParsesRow.laid W):∀ j,j<16->W.cell? ⟨1,j,none⟩=some (.int .u8 (digs.getD j 0)):=by
 rw[MakeChecks.laidMetH_plain _ _ _ (by kernel_rfl)] at h;obtain ⟨ps,⟨_,_,_,_,_,_,_,_,_,_,⟨_,_,_,_,_,_,_,_,_,_,⟨_,_,_,_,_,_,_,_,_,_,⟨_,_,_,_,_,_,_,_,_,_,⟨g,t,cs,f,p,q,hg,ht,hv,hd,_⟩,_⟩,_⟩,_⟩,_⟩,_,_⟩:=h;obtain rfl:=Option.some.inj (gDig.symm.trans hg)
 obtain rfl:=Option.some.inj (tDig.symm.trans ht)
 obtain ⟨xs,m,rfl,hx,hlen,hn,hel⟩:=DataW.trod_array Tryz.underlying153 hd;intro j hj;have he:=hel j hj;have hx':xs.map (·.1)=digs.map fun k=>(DataW.lit (.int .u8 k):DataW Unit):=by
  simp only[Prod.mk.injEq] at hx;have:=hx.1;exact (DataW.agg.inj this).symm
 obtain ⟨y,hy⟩:∃ y,xs[j]?=some y:=⟨xs[j]'(by omega),List.getElem?_eq_getElem _⟩
 rw[hy] at he;obtain ⟨k,e1,e2,_⟩:=DataW.trod_int Tryz.underlying5 he;have e3:(xs.map (·.1))[j]?=some (.lit (.int .u8 k)):=by rw[List.getElem?_map,hy,e2];rfl
 rw[hx',List.getElem?_map] at e3;have hk:digs[j]?=some k:=by
  cases hdj:digs[j]? with
  | none=>rw[hdj] at e3;simp at e3
  | some k'=>rw[hdj] at e3;simp at e3;rw[e3]
 have c1:Tryz.prog.cellsOf 5=1:=by kernel_rfl
 rw[c1,Nat.mul_one] at e1;have e4:=one_of e1;have:=World.var?_cell hg hv j;rw[this,List.getD_eq_getElem?_getD,hk];simpa using e4
def pows:List Int:=[1,10,100,1000,10000,100000,1000000,10000000,100000000,1000000000,10000000000,100000000000,1000000000000,10000000000000,100000000000000,1000000000000000,10000000000000000,100000000000000000,1000000000000000000,10000000000000000000]
theorem gPow:Tryz.prog.globalNamed "internal/strconv.uint64pow10" = some 4:=by kernel_rfl
theorem tPow:(Tryz.prog.globals[4]?).map (·.type)=some 193:=by kernel_rfl
theorem pow10_of (h:laidMetH Tryz.prog Rows.transruleParsesRow.laid W):∀ j,j<20->W.cell? ⟨4,j,none⟩=some (.int .u64 (pows.getD j 0)):=by
 rw[MakeChecks.laidMetH_plain _ _ _ (by kernel_rfl)] at h;obtain ⟨ps,⟨_,_,_,_,_,_,_,_,_,_,⟨_,_,_,_,_,_,_,_,_,_,⟨g,t,cs,f,p,q,hg,ht,hv,hd,_⟩,_⟩,_⟩,_,_⟩:=h;obtain rfl:=Option.some.inj (gPow.symm.trans hg)
 obtain rfl:=Option.some.inj (tPow.symm.trans ht)
 obtain ⟨xs,m,rfl,hx,hlen,hn,hel⟩:=DataW.trod_array Tryz.underlying193 hd;intro j hj;have he:=hel j hj;have hx':xs.map (·.1)=pows.map fun k=>(DataW.lit (.int .u64 k):DataW Unit):=by
  simp only[Prod.mk.injEq] at hx;have:=hx.1;exact (DataW.agg.inj this).symm
 obtain ⟨y,hy⟩:∃ y,xs[j]?=some y:=⟨xs[j]'(by omega),List.getElem?_eq_getElem _⟩
 rw[hy] at he;obtain ⟨k,e1,e2,_⟩:=DataW.trod_int Tryz.underlying155 he;have e3:(xs.map (·.1))[j]?=some (.lit (.int .u64 k)):=by rw[List.getElem?_map,hy,e2];rfl
 rw[hx',List.getElem?_map] at e3;have hk:pows[j]?=some k:=by
  cases hdj:pows[j]? with
  | none=>rw[hdj] at e3;simp at e3
  | some k'=>rw[hdj] at e3;simp at e3;rw[e3]
 have c1:Tryz.prog.cellsOf 155=1:=by kernel_rfl
 rw[c1,Nat.mul_one] at e1;have e4:=one_of e1;have:=World.var?_cell hg hv j;rw[this,List.getD_eq_getElem?_getD,hk];simpa using e4
def dbs:List Int:=[0,1,56,2,57,49,28,3,61,58,42,50,38,29,17,4,62,47,59,36,45,43,51,22,53,39,33,30,24,18,12,5,63,55,48,27,60,41,37,16,46,35,44,21,52,32,23,11,54,26,40,15,34,20,31,10,25,14,19,9,13,8,7,6]
theorem gDb:Tryz.prog.globalNamed "math/bits.deBruijn64tab" = some 7:=by kernel_rfl
theorem tDb:(Tryz.prog.globals[7]?).map (·.type)=some 228:=by kernel_rfl
theorem db_of (h:laidMetH Tryz.prog Rows.transruleParsesRow.laid W):∀ j,j<64->W.cell? ⟨7,j,none⟩=some (.int .u8 (dbs.getD j 0)):=by
 rw[MakeChecks.laidMetH_plain _ _ _ (by kernel_rfl)] at h;obtain ⟨ps,⟨_,_,_,_,_,_,_,_,_,_,⟨g,t,cs,f,p,q,hg,ht,hv,hd,_⟩,_⟩,_,_⟩:=h;obtain rfl:=Option.some.inj (gDb.symm.trans hg)
 obtain rfl:=Option.some.inj (tDb.symm.trans ht)
 obtain ⟨xs,m,rfl,hx,hlen,hn,hel⟩:=DataW.trod_array Tryz.underlying228 hd;intro j hj;have he:=hel j hj;have hx':xs.map (·.1)=dbs.map fun k=>(DataW.lit (.int .u8 k):DataW Unit):=by
  simp only[Prod.mk.injEq] at hx;have:=hx.1;exact (DataW.agg.inj this).symm
 obtain ⟨y,hy⟩:∃ y,xs[j]?=some y:=⟨xs[j]'(by omega),List.getElem?_eq_getElem _⟩
 rw[hy] at he;obtain ⟨k,e1,e2,_⟩:=DataW.trod_int Tryz.underlying5 he;have e3:(xs.map (·.1))[j]?=some (.lit (.int .u8 k)):=by rw[List.getElem?_map,hy,e2];rfl
 rw[hx',List.getElem?_map] at e3;have hk:dbs[j]?=some k:=by
  cases hdj:dbs[j]? with
  | none=>rw[hdj] at e3;simp at e3
  | some k'=>rw[hdj] at e3;simp at e3;rw[e3]
 have c1:Tryz.prog.cellsOf 5=1:=by kernel_rfl
 rw[c1,Nat.mul_one] at e1;have e4:=one_of e1;have:=World.var?_cell hg hv j;rw[this,List.getD_eq_getElem?_getD,hk];simpa using e4
theorem max_of (h:W.ShapedOpen Tryz.prog):∃ m,W.cell? ⟨0,0,none⟩=some (.int .i64 m):=
 cell_of_shapedOpen_int (t:=3) (zero := #[.int .i64 0]) h (of_decide_eq_true (by kernel_rfl)) (by kernel_rfl) rfl (by kernel_rfl) (by kernel_rfl) Tryz.underlying3
theorem gl_ok {mx:Int}(h:laidMetH Tryz.prog Rows.transruleParsesRow.laid W) (hm:W.cell? ⟨0,0,none⟩=some (.int .i64 mx)):GlOk (zcw W) (GlT mx true):=by
 intro g d hd;unfold GlT at hd;split at hd
 ·rename_i hg;subst hg;simp at hd;subst hd;simp only[digitsD,Rep];refine ⟨_,rfl,fun j hj=>⟨_,vE (by rw[add_plain,Nat.zero_add];exact digits_of h j hj),rfl,rfl⟩⟩
 ·split at hd
  ·rename_i hg;subst hg;simp at hd;subst hd;simp only[Rep];refine ⟨_,rfl,fun j hj=>⟨_,vE (v:=.int .i64 mx) ?_,rfl,rfl⟩⟩
   have:j=0:=by omega
   subst this;exact hm
  ·split at hd
   ·rename_i hg;subst hg;simp at hd;subst hd;simp only[pow10D,Rep];refine ⟨_,rfl,fun j hj=>⟨_,vE (by rw[add_plain,Nat.zero_add];exact pow10_of h j hj),rfl,rfl⟩⟩
   ·split at hd
    ·rename_i hg;subst hg;simp at hd;subst hd;simp only[dbD,Rep];refine ⟨_,rfl,fun j hj=>⟨_,vE (by rw[add_plain,Nat.zero_add];exact db_of h j hj),rfl,rfl⟩⟩
    ·simp at hd
theorem opens_sp:Opens W 243 3 spD (fun _=>True):=by
 intro H enc base sp hd n cs x h;obtain ⟨a0,k0,h0⟩:=zy Tryz.underlying243 h (i:=0) rfl rfl (by kernel_rfl) (xI Tryz.underlying3)
 obtain ⟨a1,k1,h1⟩:=zy Tryz.underlying243 h (i:=1) rfl rfl (by kernel_rfl) (xI Tryz.underlying3)
 obtain ⟨a2,k2,h2⟩:=zy Tryz.underlying243 h (i:=2) rfl rfl (by kernel_rfl) (xI Tryz.underlying3)
 refine ⟨ug Tryz.underlying243 h (by kernel_rfl),⟨a0,a1,a2⟩,trivial,fun j hj=>?_⟩
 match j,hj with
 | 0,_=>exact h0 0 (by decide)
 | 1,_=>exact h1 0 (by decide)
 | 2,_=>exact h2 0 (by decide)
theorem zhj:Opens W 9 1 vg (fun _=>True):=
 (opens_str Tryz.underlying9).ren (fun c j hj=>by
  have:j=0:=by omega
  subst this;rfl) (fun _ _=>trivial)
theorem opens_strs:Opens W 24 1 (fun (l:List ByteArray) _=>slD 1 vg l) (fun _=>True):=
 (uV (f:=vg) Tryz.underlying24 (by kernel_rfl) zhj).ren (fun _ _ _=>rfl) (fun _ _=>trivial)
theorem zlc:Opens W 25 1 (fun (l:List Sp) _=>zei l) (fun _=>True):=
 (uV (f:=spD) Tryz.underlying25 (by kernel_rfl) opens_sp).ren (fun _ _ _=>rfl) (fun _ _=>trivial)
theorem opens_ints:Opens W 77 1 (fun (l:List Int) _=>slD 1 znt l) (fun _=>True):=
 (uV (f:=znt) Tryz.underlying77 (by kernel_rfl) (xI Tryz.underlying3)).ren (fun _ _ _=>rfl) (fun _ _=>trivial)
def prD (p:Pr):Nat->D
 | 0=>slD 1 vg p.names
 | 1=>zei p.spans
 | _=>.junk
theorem vU:Opens W 27 2 prD (fun _=>True):=by
 intro H enc base sp hd n cs x h;obtain ⟨a0,k0,h0⟩:=zy Tryz.underlying27 h (i:=0) rfl rfl (by kernel_rfl) opens_strs;obtain ⟨a1,k1,h1⟩:=zy Tryz.underlying27 h (i:=1) rfl rfl (by kernel_rfl) zlc;refine ⟨ug Tryz.underlying27 h (by kernel_rfl),⟨a0,a1⟩,trivial,fun j hj=>?_⟩
 match j,hj with
 | 0,_=>exact h0 0 (by decide)
 | 1,_=>exact h1 0 (by decide)
theorem opens_rg:Opens W 111 2 rgD (fun _=>True):=by
 intro H enc base sp hd n cs x h;obtain ⟨a0,k0,h0⟩:=zy Tryz.underlying111 h (i:=0) rfl rfl (by kernel_rfl) (xI Tryz.underlying3)
 obtain ⟨a1,k1,h1⟩:=zy Tryz.underlying111 h (i:=1) rfl rfl (by kernel_rfl) (xI Tryz.underlying3)
 refine ⟨ug Tryz.underlying111 h (by kernel_rfl),(a0,a1),trivial,fun j hj=>?_⟩
 match j,hj with
 | 0,_=>exact h0 0 (by decide)
 | 1,_=>exact h1 0 (by decide)
theorem opens_rgs:Opens W 29 1 (fun (l:List Rg) _=>xE l) (fun _=>True):=
 (uV (f:=rgD) Tryz.underlying29 (by kernel_rfl) opens_rg).ren (fun _ _ _=>rfl) (fun _ _=>trivial)
theorem vB:Opens W 31 1 (fun (l:List Rg) _=>xE l) (fun _=>True):=by
 intro H enc base sp hd n cs x h;obtain ⟨a0,k0,h0⟩:=zy Tryz.underlying31 h (i:=0) rfl rfl (by kernel_rfl) opens_rgs;refine ⟨ug Tryz.underlying31 h (by kernel_rfl),a0,trivial,fun j hj=>?_⟩
 match j,hj with
 | 0,_=>exact h0 0 (by decide)
theorem opens_mp:Opens W 79 3 mpD (fun _=>True):=by
 intro H enc base sp hd n cs x h;obtain ⟨a0,k0,h0⟩:=zy Tryz.underlying79 h (i:=0) rfl rfl (by kernel_rfl) (xI Tryz.underlying3)
 obtain ⟨a1,k1,h1⟩:=zy Tryz.underlying79 h (i:=1) rfl rfl (by kernel_rfl) opens_ints;obtain ⟨a2,k2,h2⟩:=zy Tryz.underlying79 h (i:=2) rfl rfl (by kernel_rfl) zhj;refine ⟨ug Tryz.underlying79 h (by kernel_rfl),⟨a0,a1,a2⟩,trivial,fun j hj=>?_⟩
 match j,hj with
 | 0,_=>exact h0 0 (by decide)
 | 1,_=>exact h1 0 (by decide)
 | 2,_=>exact h2 0 (by decide)
theorem vC:Opens W 28 1 (fun (l:List Mp) _=>za0 l) (fun l=>l.length<=9223372036854775807):=
 (uV (f:=mpD) Tryz.underlying28 (by kernel_rfl) opens_mp).ren (fun _ _ _=>rfl) (fun _ h=>h.1)
def verD (x:Int × Int):Nat->D
 | 0=>.v (.int .i64 x.1)
 | 1=>.v (.int .i64 x.2)
 | _=>.junk
theorem opens_ver:Opens W 23 2 verD (fun _=>True):=by
 intro H enc base sp hd n cs x h;obtain ⟨a0,k0,h0⟩:=zy Tryz.underlying23 h (i:=0) rfl rfl (by kernel_rfl) (xI Tryz.underlying3)
 obtain ⟨a1,k1,h1⟩:=zy Tryz.underlying23 h (i:=1) rfl rfl (by kernel_rfl) (xI Tryz.underlying3)
 refine ⟨ug Tryz.underlying23 h (by kernel_rfl),(a0,a1),trivial,fun j hj=>?_⟩
 match j,hj with
 | 0,_=>exact h0 0 (by decide)
 | 1,_=>exact h1 0 (by decide)
def nrmD (x:List Sp × List Mp × List Rg):Nat->D
 | 0=>zei x.1
 | 1=>za0 x.2.1
 | 2=>xE x.2.2
 | _=>.junk
theorem opens_nrm:Opens W 33 3 nrmD (fun x=>x.2.1.length<=9223372036854775807):=by
 intro H enc base sp hd n cs x h;obtain ⟨a0,k0,h0⟩:=zy Tryz.underlying33 h (i:=0) rfl rfl (by kernel_rfl) zlc;obtain ⟨a1,k1,h1⟩:=zy Tryz.underlying33 h (i:=1) rfl rfl (by kernel_rfl) vC;obtain ⟨a2,k2,h2⟩:=zy Tryz.underlying33 h (i:=2) rfl rfl (by kernel_rfl) vB;refine ⟨ug Tryz.underlying33 h (by kernel_rfl),(a0,a1,a2),k1,fun j hj=>?_⟩
 match j,hj with
 | 0,_=>exact h0 0 (by decide)
 | 1,_=>exact h1 0 (by decide)
 | 2,_=>exact h2 0 (by decide)
def casD (x:(List Mp × List Mp × List Mp × List Mp) × List Rg × List Rg):Nat->D
 | 0=>za0 x.1.1
 | 1=>za0 x.1.2.1
 | 2=>za0 x.1.2.2.1
 | 3=>za0 x.1.2.2.2
 | 4=>xE x.2.1
 | 5=>xE x.2.2
 | _=>.junk
theorem opens_cas:Opens W 35 6 casD (fun x=>x.1.1.length<=9223372036854775807/\x.1.2.1.length<=9223372036854775807/\x.1.2.2.1.length<=9223372036854775807/\x.1.2.2.2.length<=9223372036854775807):=by
 intro H enc base sp hd n cs x h;obtain ⟨a0,k0,h0⟩:=zy Tryz.underlying35 h (i:=0) rfl rfl (by kernel_rfl) vC;obtain ⟨a1,k1,h1⟩:=zy Tryz.underlying35 h (i:=1) rfl rfl (by kernel_rfl) vC;obtain ⟨a2,k2,h2⟩:=zy Tryz.underlying35 h (i:=2) rfl rfl (by kernel_rfl) vC;obtain ⟨a3,k3,h3⟩:=zy Tryz.underlying35 h (i:=3) rfl rfl (by kernel_rfl) vC;obtain ⟨a4,k4,h4⟩:=zy Tryz.underlying35 h (i:=4) rfl rfl (by kernel_rfl) vB;obtain ⟨a5,k5,h5⟩:=zy Tryz.underlying35 h (i:=5) rfl rfl (by kernel_rfl) vB;refine ⟨ug Tryz.underlying35 h (by kernel_rfl),((a0,a1,a2,a3),a4,a5),⟨k0,k1,k2,k3⟩,fun j hj=>?_⟩
 match j,hj with
 | 0,_=>exact h0 0 (by decide)
 | 1,_=>exact h1 0 (by decide)
 | 2,_=>exact h2 0 (by decide)
 | 3,_=>exact h3 0 (by decide)
 | 4,_=>exact h4 0 (by decide)
 | 5,_=>exact h5 0 (by decide)
def idnD (x:List Rg × List Rg × List Rg):Nat->D
 | 0=>xE x.1
 | 1=>xE x.2.1
 | 2=>xE x.2.2
 | _=>.junk
theorem opens_idn:Opens W 37 3 idnD (fun _=>True):=by
 intro H enc base sp hd n cs x h;obtain ⟨a0,k0,h0⟩:=zy Tryz.underlying37 h (i:=0) rfl rfl (by kernel_rfl) vB;obtain ⟨a1,k1,h1⟩:=zy Tryz.underlying37 h (i:=1) rfl rfl (by kernel_rfl) vB;obtain ⟨a2,k2,h2⟩:=zy Tryz.underlying37 h (i:=2) rfl rfl (by kernel_rfl) vB;refine ⟨ug Tryz.underlying37 h (by kernel_rfl),(a0,a1,a2),trivial,fun j hj=>?_⟩
 match j,hj with
 | 0,_=>exact h0 0 (by decide)
 | 1,_=>exact h1 0 (by decide)
 | 2,_=>exact h2 0 (by decide)
def dbJ (d:Db) (j:Nat):D:=(dbL d).getD j .junk
def dbOf (v:Int × Int) (p0 p1 p2 p3 p4 p5 p6:Pr) (n:List Sp × List Mp × List Rg) (c:(List Mp × List Mp × List Mp × List Mp) × List Rg × List Rg) (i:List Rg × List Rg × List Rg) (f:List Mp):Db :=
 ⟨v.1,v.2,fun k=>match k with|0=>p0|1=>p1|2=>p2|3=>p3|4=>p4|5=>p5|_=>p6,n.1,
  fun k=>match k with|0=>n.2.2|1=>c.2.1|2=>c.2.2|3=>i.1|4=>i.2.1|_=>i.2.2,
  fun k=>match k with|0=>n.2.1|1=>c.1.1|2=>c.1.2.1|3=>c.1.2.2.1|4=>c.1.2.2.2|_=>f⟩
set_option maxRecDepth 100000 in
theorem opens_db:Opens W 39 29 dbJ (fitDb):=by
 intro H enc base sp hd n cs x h;obtain ⟨a0,k0,h0⟩:=zy Tryz.underlying39 h (i:=0) rfl rfl (by kernel_rfl) opens_ver;obtain ⟨a1,k1,h1⟩:=zy Tryz.underlying39 h (i:=1) rfl rfl (by kernel_rfl) vU;obtain ⟨a2,k2,h2⟩:=zy Tryz.underlying39 h (i:=2) rfl rfl (by kernel_rfl) vU;obtain ⟨a3,k3,h3⟩:=zy Tryz.underlying39 h (i:=3) rfl rfl (by kernel_rfl) vU;obtain ⟨a4,k4,h4⟩:=zy Tryz.underlying39 h (i:=4) rfl rfl (by kernel_rfl) vU;obtain ⟨a5,k5,h5⟩:=zy Tryz.underlying39 h (i:=5) rfl rfl (by kernel_rfl) vU;obtain ⟨a6,k6,h6⟩:=zy Tryz.underlying39 h (i:=6) rfl rfl (by kernel_rfl) vU;obtain ⟨a7,k7,h7⟩:=zy Tryz.underlying39 h (i:=7) rfl rfl (by kernel_rfl) vU;obtain ⟨a8,k8,h8⟩:=zy Tryz.underlying39 h (i:=8) rfl rfl (by kernel_rfl) opens_nrm;obtain ⟨a9,k9,h9⟩:=zy Tryz.underlying39 h (i:=9) rfl rfl (by kernel_rfl) opens_cas;obtain ⟨a10,k10,h10⟩:=zy Tryz.underlying39 h (i:=10) rfl rfl (by kernel_rfl) opens_idn;obtain ⟨a11,k11,h11⟩:=zy Tryz.underlying39 h (i:=11) rfl rfl (by kernel_rfl) vC;refine ⟨ug Tryz.underlying39 h (by kernel_rfl),dbOf a0 a1 a2 a3 a4 a5 a6 a7 a8 a9 a10 a11,(fun i=>by unfold dbOf;simp only;split<;>first|exact k8|exact k9.1|exact k9.2.1|exact k9.2.2.1|exact k9.2.2.2|exact k11),fun j hj=>?_⟩
 match j,hj with
 | 0,_=>exact h0 0 (by decide)
 | 1,_=>exact h0 1 (by decide)
 | 2,_=>exact h1 0 (by decide)
 | 3,_=>exact h1 1 (by decide)
 | 4,_=>exact h2 0 (by decide)
 | 5,_=>exact h2 1 (by decide)
 | 6,_=>exact h3 0 (by decide)
 | 7,_=>exact h3 1 (by decide)
 | 8,_=>exact h4 0 (by decide)
 | 9,_=>exact h4 1 (by decide)
 | 10,_=>exact h5 0 (by decide)
 | 11,_=>exact h5 1 (by decide)
 | 12,_=>exact h6 0 (by decide)
 | 13,_=>exact h6 1 (by decide)
 | 14,_=>exact h7 0 (by decide)
 | 15,_=>exact h7 1 (by decide)
 | 16,_=>exact h8 0 (by decide)
 | 17,_=>exact h8 1 (by decide)
 | 18,_=>exact h8 2 (by decide)
 | 19,_=>exact h9 0 (by decide)
 | 20,_=>exact h9 1 (by decide)
 | 21,_=>exact h9 2 (by decide)
 | 22,_=>exact h9 3 (by decide)
 | 23,_=>exact h9 4 (by decide)
 | 24,_=>exact h9 5 (by decide)
 | 25,_=>exact h10 0 (by decide)
 | 26,_=>exact h10 1 (by decide)
 | 27,_=>exact h10 2 (by decide)
 | 28,_=>exact h11 0 (by decide)
 | j0+29,h=>exact absurd (show j0+29<29 from h) (by omega)
end Go.Proofs.YtnimkdbpoeondaaGreatDoor
