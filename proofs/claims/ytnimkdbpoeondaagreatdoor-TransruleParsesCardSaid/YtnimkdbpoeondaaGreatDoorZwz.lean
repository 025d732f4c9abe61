import Derived.Test.YtnimkdbpoeondaaGreatDoorY2z
set_option linter.all false
set_option maxHeartbeats 4000000
namespace Go.Proofs
open Go Go.Sx
variable {s:ByteArray}{i:Nat}{d:Int}
variable {mx:Int}{pb:Bool}
structure FSt where
 db:Db
 s:ByteArray
 k:Nat
 bad:Bool
def FSt.at (p:FSt) (k:Nat):FSt:={ p with k:=k }
def fC (p:FSt):List D:=dbX (dD p.db)++[.v (.string p.s),.v (.int .i64 p.k),.v (.bool p.bad)]
def OkF (p:FSt):Prop:=SmD p.db/\p.k<=p.s.size+2/\p.s.size<=65536
abbrev FX:={ p:FSt // OkF p }
theorem zh (p:FSt):pdL (fC p)=true:=by
 simp[fC,dbX,pdL,pd,dD_pd]
theorem fC_pd (p:FX):pdL (fC p.1)=true:=zh p.1
def xR (b:Int):Int:=if 48<=b/\b<=57 then b - 48 else if 65<=b/\b<=70 then b - 65+10 else -1
def ctVal:Ct:={ ι:=Int,inp:=fun b=>[.v (.int .u8 b)],out:=fun b=>.v (.int .i64 (xR b)),pre:=fun b=>0<=b/\b<=255 }
theorem zVal_ok:SS mx pb 110 ctVal:=by
 refine sb (cc:=true) zH Tryz.func110 ?_;rintro (b:Int) ⟨(h0:0<=b),(h1:b<=255)⟩
 by_cases d1:48<=b/\b<=57
 ·have hv:IntKind.i64.wrap (IntKind.u8.wrap (b - 48))=xR b:=by
   unfold xR;rw[if_pos d1,u8w ⟨by omega,by omega⟩]
  repeat' first|refine gw ?_|refine bs ?_ ?_<;>intro q_
  all_goals first|exact EntR.of rfl (Ent.int hv)|(exfalso;omega)
 by_cases d2:65<=b/\b<=70
 ·have hw:IntKind.i64.wrap (IntKind.u8.wrap (b - 65))=b - 65:=u8w ⟨by omega,by omega⟩
  have hv:IntKind.i64.wrap (IntKind.u8.wrap (b - 65))+10=xR b:=by
   unfold xR;rw[if_neg d1,if_pos d2,hw]
  have hf:zs (IntKind.i64.wrap (IntKind.u8.wrap (b - 65))+10):=by
   rw[hw];unfold zs;omega
  repeat' first|refine gw ?_|refine bs ?_ ?_<;>intro q_
  all_goals first|(exfalso;omega)|exact EntR.of rfl (Ent.int hv)|(refine ⟨hf,?_⟩)
 have hv:(-1:Int)=xR b:=by
  unfold xR;rw[if_neg d1,if_neg d2]
 repeat' first|refine gw ?_|refine bs ?_ ?_<;>intro q_
 all_goals first|exact EntR.of rfl (Ent.int hv)|(exfalso;omega)
def ocFB:Oc:={ ι:=FX,t:=74,before:=fun p=>fC p.1,inp:=fun _=>[],pre:=fun _=>True,after:=fun p=>fC (p.1.at (blk p.1.s p.1.k)),res:=fun p=>.inl (.tu []) }
theorem zBl_ok:SQ mx pb 22 ocFB:=by
 refine so (cc:=true) zaq Tryz.func22 fC_pd (fun _=>rfl) (fun p=>zh _) ?_;rintro ⟨p,hp⟩ _;obtain ⟨h1,h2,h3⟩:=id hp;refine gw ?_;refine ⟨0,Nat,fun k=>⟨[(0,.own 0 0)],[.cells 74 (fC (p.at k))],[]⟩,fun k=>p.k<=k/\k<=p.s.size+2/\blk p.s k=blk p.s p.k,fun k=>p.s.size+2 - k,fun _=>Nat.le_refl _,⟨p.k,⟨Nat.le_refl _,h2,rfl⟩,yv (zh (p.at p.k)) rfl tmS⟩,?_⟩
 rintro k ⟨hk1,hk2,hk3⟩
 by_cases hb:k<p.s.size/\bAt p.s k=32
 ·have hs:=uI hb.1 hb.2;have q1:((p.at k).k:Int)<(p.at k).s.size:=(by show (k:Int)<p.s.size;omega)
  have q2:bAt (p.at k).s (p.at k).k=32:=hb.2;refine gw ?_;refine ⟨(by show zs ((k:Int)+1);unfold zs;omega),?_⟩
  refine gw ?_;exact ⟨k+1,⟨by omega,by omega,hs.trans hk3⟩,(by show p.s.size+2 - (k+1)<p.s.size+2 - k;omega),yv (zh (p.at (k+1))) rfl tmS⟩
 ·have e4:blk p.s k=k:=yz hb;have hfin:fC (p.at k)=fC (p.at (blk p.s p.k)):=by rw[<- hk3,e4]
  repeat' first|refine gw ?_|refine bs ?_ ?_<;>intro q_
  all_goals first
   | exact And.intro (zd rfl rfl) (And.intro rfl (obE (zh (p.at k)) hfin))
   | (rename_i q1;exact absurd ⟨Int.ofNat_lt.1 q1,q_⟩ hb)
def nxB (p:FSt) (t:ByteArray):Bool := !p.bad&&(decide (p.k+t.size<=p.s.size)&&decide (zN p.s p.k (p.k+t.size)=t))
def ocFN:Oc:={ ι:=FX × ByteArray,t:=74,before:=fun x=>fC x.1.1,inp:=fun x=>[.v (.string x.2)],pre:=fun x=>x.2.size<=100,after:=fun x=>fC x.1.1,res:=fun x=>.inl (.v (.bool (nxB x.1.1 x.2))) }
theorem zNx_ok:SQ mx pb 48 ocFN:=by
 refine so (cc:=true) zaq Tryz.func48 (fun x=>fC_pd x.1) (fun _=>rfl) (fun x=>fC_pd x.1) ?_;rintro ⟨⟨p,hp⟩,t⟩ (ht:t.size<=100)
 obtain ⟨h1,h2,h3⟩:=id hp;obtain ⟨db,s,k,bad⟩:=p;replace h2:k<=s.size+2:=h2;replace h3:s.size<=65536:=h3;cases bad
 ·by_cases hl:k+t.size<=s.size
  ·have hN:nxB ⟨db,s,k,false⟩ t=decide (zN s k (k+t.size)=t):=by
    unfold nxB;rw[show (!false)=true from rfl,Bool.true_and,decide_eq_true (show (⟨db,s,k,false⟩:FSt).k+t.size<=(⟨db,s,k,false⟩:FSt).s.size from hl),Bool.true_and]
   have hE:(k:Int)+(t.size:Int)=((k+t.size:Nat):Int):=by omega
   have hq:(s.size:Int) - k>=t.size:=by omega
   refine gw ?_;refine And.intro (zd (congrArg (fun b=>D.v (Value.bool b)) (Eq.trans (decide_eq_decide.2 ?_) hN.symm)) rfl) (And.intro rfl (obE (zh _)))
   show zN s ((k:Int)).toNat ((k:Int)+(t.size:Int)).toNat=t↔zN s k (k+t.size)=t;rw[hE,Int.toNat_natCast,Int.toNat_natCast]
  ·have hN:nxB ⟨db,s,k,false⟩ t=false:=by
    unfold nxB;rw[decide_eq_false (show ¬(⟨db,s,k,false⟩:FSt).k+t.size<=(⟨db,s,k,false⟩:FSt).s.size from hl)];rfl
   have hq:¬(s.size:Int) - k>=t.size:=by omega
   refine gw ?_;exact And.intro (zd (by show D.v (.bool false)=D.v (.bool (nxB ⟨db,s,k,false⟩ t));rw[hN]) rfl) (And.intro rfl (obE (zh _)))
 ·refine gw ?_;exact And.intro (zd rfl rfl) (And.intro rfl (obE (zh _)))
def brF (s:ByteArray):Nat->Nat->Nat
 | 0,i=>i
 | n+1,i=>if i<s.size/\¬bAt s i=125 then brF s n (i+1) else i
def brc (s:ByteArray) (i:Nat):Nat:=brF s (s.size - i) i
theorem brc_y (h:i<s.size) (hb:¬bAt s i=125):brc s (i+1)=brc s i:=by
 unfold brc;rw[show s.size - i=(s.size - (i+1))+1 by omega,brF,if_pos ⟨h,hb⟩]
theorem brc_n (h:¬(i<s.size/\¬bAt s i=125)):brc s i=i:=by
 unfold brc;cases s.size - i with
 | zero=>rfl
 | succ n=>rw[brF,if_neg h]
theorem brF_le {s:ByteArray}:∀ (n i:Nat),i<=s.size->i<=brF s n i/\brF s n i<=s.size
 | 0,i,h=>⟨Nat.le_refl _,h⟩
 | n+1,i,h=>by
  rw[brF];split
  ·rename_i hk;have:=brF_le (s:=s) n (i+1) (by omega)
   omega
  ·omega
def escN (s:ByteArray) (i:Nat):Nat:=if i<s.size/\(bAt s i=117\/bAt s i=112) then brc s i else i
def enS (s:ByteArray) (d:Int) (i:Nat):Int × Nat :=
 if bAt s i=91 then (d+1,i) else if bAt s i=93 then (d - 1,i) else if bAt s i=92 then (d,escN s (i+1)) else (d,i)
def enF (s:ByteArray):Nat->Int->Nat->Nat
 | 0,_,i=>i
 | n+1,d,i=>if i<s.size then (if (enS s d i).1=0 then (enS s d i).2+1 else enF s n (enS s d i).1 ((enS s d i).2+1)) else i
def enE (s:ByteArray) (k:Nat):Nat:=min (enF s (s.size - k) 0 k) s.size
theorem escN_le (h:i<=s.size):i<=escN s i/\escN s i<=s.size:=by
 unfold escN;split
 ·exact brF_le _ _ h
 ·omega
theorem enS_le (h:i<s.size):i<=(enS s d i).2/\(enS s d i).2<=s.size/\d - 1<=(enS s d i).1/\(enS s d i).1<=d+1:=by
 have:=escN_le (s:=s) (i:=i+1) (by omega)
 unfold enS;split
 ·exact ⟨Nat.le_refl _,by show i<=_;omega,by show d - 1<=d+1;omega,Int.le_refl _⟩
 ·split
  ·exact ⟨Nat.le_refl _,by show i<=_;omega,Int.le_refl _,by show d - 1<=d+1;omega⟩
  ·split
   ·exact ⟨by show i<=escN s (i+1);omega,this.2,by show d - 1<=d;omega,by show d<=d+1;omega⟩
   ·exact ⟨Nat.le_refl _,by show i<=_;omega,by show d - 1<=d;omega,by show d<=d+1;omega⟩
theorem enF_fuel {s:ByteArray}:∀ (n m:Nat) (d:Int) (i:Nat),s.size - i<=n->s.size - i<=m->enF s n d i=enF s m d i
 | 0,0,_,_,_,_=>rfl
 | 0,m+1,d,i,h,_=>by
  rw[enF,enF,if_neg (by omega)]
 | n+1,0,d,i,_,h=>by
  rw[enF,enF,if_neg (by omega)]
 | n+1,m+1,d,i,h1,h2=>by
  rw[enF,enF];by_cases hi:i<s.size
  ·have:=(enS_le (d:=d) hi).1;rw[if_pos hi,if_pos hi,enF_fuel n m _ _ (by omega) (by omega)]
  ·rw[if_neg hi,if_neg hi]
def enG (s:ByteArray) (d:Int) (i:Nat):Nat:=enF s (s.size - i) d i
theorem zc3 (hi:i<s.size) (h:¬(enS s d i).1=0):enG s d i=enG s (enS s d i).1 ((enS s d i).2+1):=by
 unfold enG;obtain ⟨n,hn⟩:∃ n,s.size - i=n+1:=⟨s.size - i - 1,by omega⟩
 have:=(enS_le (d:=d) hi).1;rw[hn,enF,if_pos hi,if_neg h];exact enF_fuel _ _ _ _ (by omega) (Nat.le_refl _)
theorem zg7 (hi:i<s.size) (h:(enS s d i).1=0):enG s d i=(enS s d i).2+1:=by
 unfold enG;obtain ⟨n,hn⟩:∃ n,s.size - i=n+1:=⟨s.size - i - 1,by omega⟩
 rw[hn,enF,if_pos hi,if_pos h]
theorem enG_n (hi:¬i<s.size):enG s d i=i:=by
 unfold enG;rw[show s.size - i=0 by omega,enF]
def ocFE:Oc:={ ι:=FX,t:=74,before:=fun p=>fC p.1,inp:=fun _=>[],pre:=fun _=>True,after:=fun p=>fC p.1,res:=fun p=>.inl (.v (.int .i64 (min (enG p.1.s 0 p.1.k) p.1.s.size:Nat))) }
theorem zEnd_ok:SQ mx pb 108 ocFE:=by
 refine so (cc:=true) zaq Tryz.func108 fC_pd (fun _=>rfl) fC_pd ?_;rintro ⟨p,hp⟩ _;obtain ⟨h1,h2,h3⟩:=id hp;obtain ⟨db,s,k,bad⟩:=p;replace h2:k<=s.size+2:=h2;replace h3:s.size<=65536:=h3;refine gw ?_;refine ⟨0,Int × Nat,fun|(d,i)=>⟨[(0,.own 0 0),(3,.v (.int .i64 d)),(4,.v (.int .i64 i))],[.cells 74 (fC ⟨db,s,k,bad⟩)],[]⟩,fun|(d,i)=>i<=s.size+2 /\ -(i:Int)<=d/\d<=i/\enG s d i=enG s 0 k,fun x=>s.size+2 - x.2,fun _=>Nat.le_refl _,⟨(0,k),⟨h2,by omega,by omega,rfl⟩,yv (zh _) rfl tmS⟩,?_⟩
 rintro ⟨d,i⟩ ⟨(i1:i<=s.size+2),(i2 : -(i:Int)<=d),(i3:d<=i),(i4:enG s d i=enG s 0 k)⟩
 by_cases hi:i<s.size
 ·have hb:=uZ s i;by_cases c1:bAt s i=91
  ·have hS:enS s d i=(d+1,i):=if_pos c1;by_cases c0:d+1=0
   ·have hE:enG s 0 k=i+1:=by rw[<- i4,zg7 hi (by rw[hS];exact c0),hS]
    have hM:min (((i:Nat):Int)+1) (s.size:Int)=((min (enG s 0 k) s.size:Nat):Int):=by rw[hE];omega
    repeat' first|refine gw ?_|refine bs ?_ ?_<;>intro q_
    all_goals first|(exfalso;omega)|exact And.intro (zd (congrArg (fun x=>D.v (Value.int .i64 x)) hM) rfl) (And.intro rfl (obE (zh _)))
   ·have hE:enG s (d+1) (i+1)=enG s 0 k:=by rw[<- i4,zc3 hi (by rw[hS];exact c0),hS]
    repeat' first|refine gw ?_|refine bs ?_ ?_<;>intro q_
    all_goals first|(exfalso;omega)|exact ⟨(d+1,i+1),⟨(by show i+1<=s.size+2;omega),(by show -(((i+1:Nat)):Int)<=d+1;omega),(by show d+1<=(((i+1:Nat)):Int);omega),hE⟩,(by show s.size+2 - (i+1)<s.size+2 - i;omega),yv (zh _) rfl tmS⟩
  by_cases c2:bAt s i=93
  ·have hS:enS s d i=(d - 1,i):=(if_neg c1).trans (if_pos c2)
   by_cases c0:d - 1=0
   ·have hE:enG s 0 k=i+1:=by rw[<- i4,zg7 hi (by rw[hS];exact c0),hS]
    have hM:min (((i:Nat):Int)+1) (s.size:Int)=((min (enG s 0 k) s.size:Nat):Int):=by rw[hE];omega
    repeat' first|refine gw ?_|refine bs ?_ ?_<;>intro q_
    all_goals first|(exfalso;omega)|exact And.intro (zd (congrArg (fun x=>D.v (Value.int .i64 x)) hM) rfl) (And.intro rfl (obE (zh _)))
   ·have hE:enG s (d - 1) (i+1)=enG s 0 k:=by rw[<- i4,zc3 hi (by rw[hS];exact c0),hS]
    repeat' first|refine gw ?_|refine bs ?_ ?_<;>intro q_
    all_goals first|(exfalso;omega)|exact ⟨(d - 1,i+1),⟨(by show i+1<=s.size+2;omega),(by show -(((i+1:Nat)):Int)<=d - 1;omega),(by show d - 1<=(((i+1:Nat)):Int);omega),hE⟩,(by show s.size+2 - (i+1)<s.size+2 - i;omega),yv (zh _) rfl tmS⟩
  by_cases c3:bAt s i=92
  ·have hS:enS s d i=(d,escN s (i+1)):=(if_neg c1).trans ((if_neg c2).trans (if_pos c3))
   by_cases g:i+1<s.size
   ·by_cases gu:bAt s ((i:Int)+1).toNat=117
    ·have hT:((i:Int)+1).toNat=i+1:=by omega
     repeat' first|refine gw ?_|refine bs ?_ ?_<;>intro q_
     all_goals first|(exfalso;omega)|skip
     refine ⟨0,Nat,fun j=>⟨[(0,.own 0 0),(3,.v (.int .i64 d)),(4,.v (.int .i64 j))],[.cells 74 (fC ⟨db,s,k,bad⟩)],[]⟩,fun j=>i+1<=j/\j<=s.size/\brc s j=brc s (i+1),fun j=>s.size - j,fun _=>Nat.le_refl _,⟨i+1,⟨Nat.le_refl _,by omega,rfl⟩,yv (zh _) rfl tmS⟩,?_⟩
     rintro j ⟨j1,j2,j3⟩
     by_cases c4:j<s.size/\¬bAt s j=125
     ·have hy:=brc_y c4.1 c4.2
      repeat' first|refine gw ?_|refine bs ?_ ?_<;>intro q_
      all_goals first|(exfalso;omega)|exact ⟨j+1,⟨by omega,by omega,hy.trans j3⟩,(by show s.size - (j+1)<s.size - j;omega),yv (zh _) rfl tmS⟩
     ·have hN:escN s (i+1)=j:=(if_pos ⟨g,.inl (by rw[<- hT];exact gu)⟩).trans (j3.symm.trans (brc_n c4))
      rw[hN] at hS;by_cases c0:d=0
      ·have hE:enG s 0 k=j+1:=by rw[<- i4,zg7 hi (by rw[hS];exact c0),hS]
       have hM:min (((j:Nat):Int)+1) (s.size:Int)=((min (enG s 0 k) s.size:Nat):Int):=by rw[hE];omega
       repeat' first|refine gw ?_|refine bs ?_ ?_<;>intro q_
       all_goals first|(exfalso;omega)|exact And.intro (zd (congrArg (fun x=>D.v (Value.int .i64 x)) hM) rfl) (And.intro rfl (obE (zh _)))
      ·have hE:enG s (d) (j+1)=enG s 0 k:=by rw[<- i4,zc3 hi (by rw[hS];exact c0),hS]
       repeat' first|refine gw ?_|refine bs ?_ ?_<;>intro q_
       all_goals first|(exfalso;omega)|exact ⟨(d,j+1),⟨(by show j+1<=s.size+2;omega),(by show -(((j+1:Nat)):Int)<=d;omega),(by show d<=(((j+1:Nat)):Int);omega),hE⟩,(by show s.size+2 - (j+1)<s.size+2 - i;omega),yv (zh _) rfl tmS⟩
    ·by_cases gp:bAt s ((i:Int)+1).toNat=112
     ·have hT:((i:Int)+1).toNat=i+1:=by omega
      repeat' first|refine gw ?_|refine bs ?_ ?_<;>intro q_
      all_goals first|(exfalso;omega)|skip
      refine ⟨0,Nat,fun j=>⟨[(0,.own 0 0),(3,.v (.int .i64 d)),(4,.v (.int .i64 j))],[.cells 74 (fC ⟨db,s,k,bad⟩)],[]⟩,fun j=>i+1<=j/\j<=s.size/\brc s j=brc s (i+1),fun j=>s.size - j,fun _=>Nat.le_refl _,⟨i+1,⟨Nat.le_refl _,by omega,rfl⟩,yv (zh _) rfl tmS⟩,?_⟩
      rintro j ⟨j1,j2,j3⟩
      by_cases c4:j<s.size/\¬bAt s j=125
      ·have hy:=brc_y c4.1 c4.2
       repeat' first|refine gw ?_|refine bs ?_ ?_<;>intro q_
       all_goals first|(exfalso;omega)|exact ⟨j+1,⟨by omega,by omega,hy.trans j3⟩,(by show s.size - (j+1)<s.size - j;omega),yv (zh _) rfl tmS⟩
      ·have hN:escN s (i+1)=j:=(if_pos ⟨g,.inr (by rw[<- hT];exact gp)⟩).trans (j3.symm.trans (brc_n c4))
       rw[hN] at hS;by_cases c0:d=0
       ·have hE:enG s 0 k=j+1:=by rw[<- i4,zg7 hi (by rw[hS];exact c0),hS]
        have hM:min (((j:Nat):Int)+1) (s.size:Int)=((min (enG s 0 k) s.size:Nat):Int):=by rw[hE];omega
        repeat' first|refine gw ?_|refine bs ?_ ?_<;>intro q_
        all_goals first|(exfalso;omega)|exact And.intro (zd (congrArg (fun x=>D.v (Value.int .i64 x)) hM) rfl) (And.intro rfl (obE (zh _)))
       ·have hE:enG s (d) (j+1)=enG s 0 k:=by rw[<- i4,zc3 hi (by rw[hS];exact c0),hS]
        repeat' first|refine gw ?_|refine bs ?_ ?_<;>intro q_
        all_goals first|(exfalso;omega)|exact ⟨(d,j+1),⟨(by show j+1<=s.size+2;omega),(by show -(((j+1:Nat)):Int)<=d;omega),(by show d<=(((j+1:Nat)):Int);omega),hE⟩,(by show s.size+2 - (j+1)<s.size+2 - i;omega),yv (zh _) rfl tmS⟩
     ·have hT:((i:Int)+1).toNat=i+1:=by omega
      have hN:escN s (i+1)=i+1:=if_neg fun h=>by
       rw[hT] at gu gp;rcases h.2 with h|h
       ·exact gu h
       ·exact gp h
      rw[hN] at hS;by_cases c0:d=0
      ·have hE:enG s 0 k=(i+1)+1:=by rw[<- i4,zg7 hi (by rw[hS];exact c0),hS]
       have hM:min ((((i+1):Nat):Int)+1) (s.size:Int)=((min (enG s 0 k) s.size:Nat):Int):=by rw[hE];omega
       repeat' first|refine gw ?_|refine bs ?_ ?_<;>intro q_
       all_goals first|(exfalso;omega)|exact And.intro (zd (congrArg (fun x=>D.v (Value.int .i64 x)) hM) rfl) (And.intro rfl (obE (zh _)))
      ·have hE:enG s (d) ((i+1)+1)=enG s 0 k:=by rw[<- i4,zc3 hi (by rw[hS];exact c0),hS]
       repeat' first|refine gw ?_|refine bs ?_ ?_<;>intro q_
       all_goals first|(exfalso;omega)|exact ⟨(d,(i+1)+1),⟨(by show (i+1)+1<=s.size+2;omega),(by show -((((i+1)+1:Nat)):Int)<=d;omega),(by show d<=((((i+1)+1:Nat)):Int);omega),hE⟩,(by show s.size+2 - ((i+1)+1)<s.size+2 - i;omega),yv (zh _) rfl tmS⟩
   ·have hN:escN s (i+1)=i+1:=if_neg fun h=>g h.1;rw[hN] at hS;by_cases c0:d=0
    ·have hE:enG s 0 k=(i+1)+1:=by rw[<- i4,zg7 hi (by rw[hS];exact c0),hS]
     have hM:min ((((i+1):Nat):Int)+1) (s.size:Int)=((min (enG s 0 k) s.size:Nat):Int):=by rw[hE];omega
     repeat' first|refine gw ?_|refine bs ?_ ?_<;>intro q_
     all_goals first|(exfalso;omega)|exact And.intro (zd (congrArg (fun x=>D.v (Value.int .i64 x)) hM) rfl) (And.intro rfl (obE (zh _)))
    ·have hE:enG s (d) ((i+1)+1)=enG s 0 k:=by rw[<- i4,zc3 hi (by rw[hS];exact c0),hS]
     repeat' first|refine gw ?_|refine bs ?_ ?_<;>intro q_
     all_goals first|(exfalso;omega)|exact ⟨(d,(i+1)+1),⟨(by show (i+1)+1<=s.size+2;omega),(by show -((((i+1)+1:Nat)):Int)<=d;omega),(by show d<=((((i+1)+1:Nat)):Int);omega),hE⟩,(by show s.size+2 - ((i+1)+1)<s.size+2 - i;omega),yv (zh _) rfl tmS⟩
  ·have hS:enS s d i=(d,i):=(if_neg c1).trans ((if_neg c2).trans (if_neg c3))
   by_cases c0:d=0
   ·have hE:enG s 0 k=i+1:=by rw[<- i4,zg7 hi (by rw[hS];exact c0),hS]
    have hM:min (((i:Nat):Int)+1) (s.size:Int)=((min (enG s 0 k) s.size:Nat):Int):=by rw[hE];omega
    repeat' first|refine gw ?_|refine bs ?_ ?_<;>intro q_
    all_goals first|(exfalso;omega)|exact And.intro (zd (congrArg (fun x=>D.v (Value.int .i64 x)) hM) rfl) (And.intro rfl (obE (zh _)))
   ·have hE:enG s (d) (i+1)=enG s 0 k:=by rw[<- i4,zc3 hi (by rw[hS];exact c0),hS]
    repeat' first|refine gw ?_|refine bs ?_ ?_<;>intro q_
    all_goals first|(exfalso;omega)|exact ⟨(d,i+1),⟨(by show i+1<=s.size+2;omega),(by show -(((i+1:Nat)):Int)<=d;omega),(by show d<=(((i+1:Nat)):Int);omega),hE⟩,(by show s.size+2 - (i+1)<s.size+2 - i;omega),yv (zh _) rfl tmS⟩
 ·have hE:enG s 0 k=i:=by rw[<- i4,enG_n hi]
  have hM:min (i:Int) (s.size:Int)=((min (enG s 0 k) s.size:Nat):Int):=by rw[hE];omega
  repeat' first|refine gw ?_|refine bs ?_ ?_<;>intro q_
  all_goals first|(exfalso;omega)|exact And.intro (zd (congrArg (fun x=>D.v (Value.int .i64 x)) hM) rfl) (And.intro rfl (obE (zh _)))
end Go.Proofs
