import Derived.Test.YtcihhjjmcompkaaGreatDoorSyz
import Derived.Test.YtcihhjjmcompkaaGreatDoorEa
set_option linter.unusedVariables false
set_option linter.unusedSimpArgs false
namespace Go.Proofs
open Go Go.Sx
variable {mx:Int}{pb:Bool}
def ldI (d:Int):Int:=([48,49,50,51,52,53,54,55,56,57,97,98,99,100,101,102]:List Int).getD (d % 16).toNat 0
def ld (d:Int):UInt8:=UInt8.ofNat (ldI d).toNat
def lowT:Nat→Int→List UInt8
 | 0,_=>[]
 | k+1,c=>ld (dv k c)::lowT k c
def numD (c:Int):Nat:=if dv 1 c=0 then 1 else if dv 2 c=0 then 2 else if dv 3 c=0 then 3 else if dv 4 c=0 then 4 else if dv 5 c=0 then 5 else 6
def lowS (c:Int):ByteArray:=⟨⟨lowT (numD c) c⟩⟩
theorem dv_zero {c:Int}{k:Nat}(h:dv k c=0):∀ j,dv (k+j) c=0
 | 0=>h
 | j+1=>by
  show dv (k+j) c / 16=0
  rw[dv_zero h j]
  rfl
theorem dig_fin:∀ i:Fin 16,(dig (i.1:Int)=48↔i.1=0)∧Lib.upperB (ld (i.1:Int))=dig (i.1:Int):=by decide
theorem dig_mod (d:Int):dig d=dig (d % 16):=by unfold dig digI;rw[Int.emod_emod_of_dvd d (Int.dvd_refl 16)]
theorem ld_mod (d:Int):ld d=ld (d % 16):=by unfold ld ldI;rw[Int.emod_emod_of_dvd d (Int.dvd_refl 16)]
theorem mod_fin (d:Int):∃ i:Fin 16,d % 16=(i.1:Int):=⟨⟨(d % 16).toNat,by omega⟩,by show d % 16=(((d % 16).toNat:Nat):Int);omega⟩
theorem dig_z {d:Int}(h0:0≤d) (h:d<16):dig d=48↔d=0:=by
 have:=(dig_fin ⟨d.toNat,by omega⟩).1
 have e:((d.toNat:Nat):Int)=d:=by omega
 simp only[e] at this
 rw[this]
 omega
theorem up_ld (d:Int):Lib.upperB (ld d)=dig d:=by
 obtain ⟨i,hi⟩:=mod_fin d
 rw[ld_mod,dig_mod,hi]
 exact (dig_fin i).2
theorem up_low (c:Int):∀ k,Lib.toUpperA (lowT k c)=tail k c
 | 0=>rfl
 | k+1=>by
  have:=up_low c k
  unfold Lib.toUpperA at this ⊢
  rw[lowT,List.map_cons,this,up_ld]
  rfl
theorem dropZ_tail {c:Int}(h0:0≤c) {m:Nat}:∀ j,dv m c=0→zdf (tail (m+j) c)=zdf (tail m c)
 | 0,_=>rfl
 | j+1,h=>by
  show zdf (dig (dv (m+j) c)::tail (m+j) c)=_
  rw[zdf,dv_zero h j,if_pos (by decide),dropZ_tail h0 j h]
theorem short_tail {c:Int}(hv:zbb c=true) {m:Nat}(h1:1≤m) (h6:m≤6) (hz:dv m c=0) (hn:2≤m→¬dv (m - 1) c=0):zc2 (zfp c)=tail m c:=by
 have hv':=zbe.1 hv
 have key:∀ n,m≤n→zdf (tail n c)=zdf (tail m c):=fun n hn=>by
  have:=dropZ_tail hv'.1 (n - m) hz
  rwa [show m+(n - m)=n by omega] at this
 have hle:∀ n,1≤n→dv n c=0→m≤n:=fun n hn1 hn0=>by
  refine Classical.byContradiction fun hh=>?_
  refine hn (by omega) ?_
  have:=dv_zero hn0 (m - 1 - n)
  rwa [show n+(m - 1 - n)=m - 1 by omega] at this
 have h66:dv 6 c=0:=by simp only[dv];omega
 have hx:zdf (zfp c)=zdf (tail m c):=by
  unfold zfp
  rw[if_pos hv]
  split
  ·exact key 4 (hle 4 (by decide) ‹_›)
  ·split
   ·exact key 5 (hle 5 (by decide) ‹_›)
   ·exact key 6 (hle 6 (by decide) h66)
 obtain ⟨q,rfl⟩:∃ q,m=q+1:=⟨m - 1,by omega⟩
 have hd:dv q c<16:=by
  have:dv q c / 16=0:=hz
  have:=zgc hv'.1 q
  omega
 unfold zc2
 rw[hx]
 show (if zdf (dig (dv q c)::tail q c)=[] then [48] else zdf (dig (dv q c)::tail q c))=dig (dv q c)::tail q c
 rw[zdf]
 by_cases h:dig (dv q c)=48
 ·have h0:=(dig_z (zgc hv'.1 q) hd).1 h
  have hq:q=0:=Classical.byContradiction fun hh=>hn (by omega) h0
  subst hq
  rw[if_pos h,h]
  rfl
 ·rw[if_neg h,if_neg (List.cons_ne_nil _ _)]
theorem numD_ok {c:Int}(hv:zbb c=true):1≤numD c∧numD c≤6∧dv (numD c) c=0∧(2≤numD c→¬dv (numD c - 1) c=0):=by
 have hv':=zbe.1 hv
 have h66:dv 6 c=0:=by simp only[dv];omega
 unfold numD
 by_cases a1:dv 1 c=0
 ·rw[if_pos a1];exact ⟨by decide,by decide,a1,fun h=>absurd h (by decide)⟩
 rw[if_neg a1]
 by_cases a2:dv 2 c=0
 ·rw[if_pos a2];exact ⟨by decide,by decide,a2,fun _=>a1⟩
 rw[if_neg a2]
 by_cases a3:dv 3 c=0
 ·rw[if_pos a3];exact ⟨by decide,by decide,a3,fun _=>a2⟩
 rw[if_neg a3]
 by_cases a4:dv 4 c=0
 ·rw[if_pos a4];exact ⟨by decide,by decide,a4,fun _=>a3⟩
 rw[if_neg a4]
 by_cases a5:dv 5 c=0
 ·rw[if_pos a5];exact ⟨by decide,by decide,a5,fun _=>a4⟩
 rw[if_neg a5]
 exact ⟨by decide,by decide,h66,fun _=>a5⟩
theorem numD_of {c:Int}(h0:0≤c) {m:Nat}(h1:1≤m) (h6:m≤6) (hz:dv m c=0) (hn:2≤m→¬dv (m - 1) c=0):numD c=m:=by
 have z:∀ n,n<m→1≤n→¬dv n c=0:=fun n hnm hn1 hh=>hn (by omega) (by
  have:=dv_zero hh (m - 1 - n)
  rwa [show n+(m - 1 - n)=m - 1 by omega] at this)
 unfold numD
 match m,h1,h6,hz,z with
 | 1,_,_,hz,z=>rw[if_pos hz]
 | 2,_,_,hz,z=>rw[if_neg (z 1 (by decide) (by decide)),if_pos hz]
 | 3,_,_,hz,z=>rw[if_neg (z 1 (by decide) (by decide)),if_neg (z 2 (by decide) (by decide)),if_pos hz]
 | 4,_,_,hz,z=>rw[if_neg (z 1 (by decide) (by decide)),if_neg (z 2 (by decide) (by decide)),if_neg (z 3 (by decide) (by decide)),if_pos hz]
 | 5,_,_,hz,z=>rw[if_neg (z 1 (by decide) (by decide)),if_neg (z 2 (by decide) (by decide)),if_neg (z 3 (by decide) (by decide)),if_neg (z 4 (by decide) (by decide)),if_pos hz]
 | 6,_,_,hz,z=>rw[if_neg (z 1 (by decide) (by decide)),if_neg (z 2 (by decide) (by decide)),if_neg (z 3 (by decide) (by decide)),if_neg (z 4 (by decide) (by decide)),if_neg (z 5 (by decide) (by decide))]
theorem up_lowS {c:Int}(hv:zbb c=true):upS (lowS c)=⟨⟨zc2 (zfp c)⟩⟩:=by
 obtain ⟨h1,h2,h3,h4⟩:=numD_ok hv
 show (⟨⟨Lib.toUpperA (lowT (numD c) c)⟩⟩:ByteArray)=_
 rw[up_low,short_tail hv h1 h2 h3 h4]
theorem ld_fin:∀ i:Fin 16,(ld (i.1:Int)).toNat<128:=by decide
theorem ld_ascii (d:Int):(ld d).toNat<128:=by
 obtain ⟨i,hi⟩:=mod_fin d
 rw[ld_mod,hi]
 exact ld_fin i
theorem low_ascii (c:Int):∀ k,(lowT k c).all (fun b=>decide (b.toNat<128))=true
 | 0=>rfl
 | k+1=>by
  rw[lowT,List.all_cons,low_ascii c k]
  simp[ld_ascii]
theorem lowT_len (c:Int):∀ k,(lowT k c).length=k
 | 0=>rfl
 | k+1=>by rw[lowT,List.length_cons,lowT_len c k]
end Go.Proofs
namespace Go.Proofs
open Go Go.Sx
variable {mx:Int}{pb:Bool}
def ctTz64:Ct:={ ι:=Unit,inp:=fun _=>[.v (.int .u64 16)],out:=fun _=>.v (.int .i64 4),pre:=fun _=>True }
set_option maxHeartbeats 1000000 in
theorem tz64_ok:zay Tryz.prog (GlT mx true) 278 ctTz64:=by
 refine zah (cc:=true) zbj Tryz.T_ok Tryz.mixed Tryz.func278 rfl (by kernel_rfl) (fun _=>rfl) (fun _ _=>by show 1≤14;decide) ?_
 intro _ _
 repeat' (first|refine gd ?_|(first|refine br ?_ ?_|refine brF ?_ ?_)<;>intro q_<;>try simp only[nz] at q_)
 refine And.intro (by decide +kernel) ?_
 repeat' (first|refine gd ?_|(first|refine br ?_ ?_|refine brF ?_ ?_)<;>intro q_<;>try simp only[nz] at q_)
 exact zas (by decide +kernel)
noncomputable def Γtz64 (mx:Int) (pb:Bool):Ctx:=fun f=>match f with
 | 278=>some (.pure ctTz64)
 | _=>none
theorem Γtz64_ok:za1 Tryz.prog (GlT mx true) (Γtz64 mx true):=by
 intro f h hh
 simp only[Γtz64] at hh
 split at hh<;>simp at hh<;>subst hh
 ·exact tz64_ok
theorem tz_ok:zay Tryz.prog (GlT mx true) 262 ctTz64:=by
 refine zah (cc:=true) Γtz64_ok Tryz.T_ok Tryz.mixed Tryz.func262 rfl (by kernel_rfl) (fun _=>rfl) (fun _ _=>by show 1≤8;decide) ?_
 intro _ _
 repeat' (first|refine gd ?_|(first|refine br ?_ ?_|refine brF ?_ ?_)<;>intro q_<;>try simp only[nz] at q_)
 exact EntR.of rfl (zab _)
def ctPow:Ct:={ ι:=Unit,inp:=fun _=>[.v (.int .i64 16)],out:=fun _=>.v (.bool true),pre:=fun _=>True }
theorem pow2_ok:zay Tryz.prog (GlT mx true) 261 ctPow:=by
 refine zah (cc:=true) zbj Tryz.T_ok Tryz.mixed Tryz.func261 rfl (by kernel_rfl) (fun _=>rfl) (fun _ _=>by show 1≤8;decide) ?_
 intro _ _
 repeat' (first|refine gd ?_|(first|refine br ?_ ?_|refine brF ?_ ?_)<;>intro q_<;>try simp only[nz] at q_)
 exact zag (by decide +kernel)
noncomputable def Γfb (mx:Int) (pb:Bool):Ctx:=fun f=>match f with
 | 262=>some (.pure ctTz64)
 | 261=>some (.pure ctPow)
 | _=>none
theorem Γfb_ok:za1 Tryz.prog (GlT mx true) (Γfb mx true):=by
 intro f h hh
 simp only[Γfb] at hh
 split at hh<;>simp at hh<;>subst hh
 ·exact tz_ok
 ·exact pow2_ok
def ctFb:Ct:={ ι:=Int,inp:=fun c=>[.v (.slice none 0 0),.v (.int .u64 c),.v (.int .i64 16),.v (.bool false),.v (.bool false)],out:=fun c=>.tu [.v (.slice none 0 0),.v (.string (lowS c))],pre:=fun c=>zbb c=true }
def lowD:Nat→Int→List D
 | 0,_=>[]
 | k+1,c=>.v (.int .u8 (ldI (dv k c)))::lowD k c
def lowers:ByteArray:=⟨#[48,49,50,51,52,53,54,55,56,57,97,98,99,100,101,102,103,104,105,106,107,108,109,110,111,112,113,114,115,116,117,118,119,120,121,122]⟩
theorem bAt_low_fin:∀ i:Fin 16,bAt lowers i.1=ldI (i.1:Int):=by decide
theorem ldI_mod (d:Int):ldI d=ldI (d % 16):=by unfold ldI;rw[Int.emod_emod_of_dvd d (Int.dvd_refl 16)]
theorem bAt_low (d:Int):bAt lowers (d % 16).toNat=ldI d:=by
 obtain ⟨i,hi⟩:=mod_fin d
 rw[ldI_mod,hi]
 exact bAt_low_fin i
theorem and15 {u:Int}(h0:0≤u) (h1:u≤1114111):IntKind.u64.wrap ((BitVec.ofInt IntKind.u64.bits u &&& BitVec.ofInt IntKind.u64.bits 15).toNat:Int)=u % 16:=by
 obtain ⟨n,rfl⟩:∃ n:Nat,u=(n:Int):=⟨u.toNat,by omega⟩
 have hb:IntKind.u64.bits=64:=rfl
 rw[hb]
 have e1:(BitVec.ofInt 64 (n:Int)).toNat=n:=by
  rw[BitVec.ofInt_natCast,BitVec.toNat_ofNat]
  exact Nat.mod_eq_of_lt (by omega)
 have e2:(BitVec.ofInt 64 15).toNat=15:=by decide
 have e3:(BitVec.ofInt 64 (n:Int) &&& BitVec.ofInt 64 15).toNat=n % 16:=by
  rw[BitVec.toNat_and,e1,e2]
  exact Nat.and_two_pow_sub_one_eq_mod n 4
 rw[e3]
 have hw:∀ m:Nat,m<16→IntKind.u64.wrap ((m:Nat):Int)=(m:Int):=by
  intro m hm
  have:∀ i:Fin 16,IntKind.u64.wrap ((i.1:Nat):Int)=(i.1:Int):=by decide
  exact this ⟨m,hm⟩
 rw[hw _ (by omega)]
 omega
theorem shr4 {u:Int}(h0:0≤u):u.fdiv (2 ^ min (Int.toNat 4) IntKind.u64.bits)=u / 16:=by
 have:(2:Int) ^ min (Int.toNat 4) IntKind.u64.bits=16:=by decide
 rw[this]
 exact Int.fdiv_eq_ediv_of_nonneg u (by decide)
def fbSt (c:Int) (k:Nat):St:=⟨[(0,.v (.slice none 0 0)),(1,.v (.int .u64 (dv k c))),(3,.v (.bool false)),(4,.v (.bool false)),(10,.v (.slice none 0 0)),(12,.own 0 0),(13,.v (.int .i64 ((65 - k:Nat):Int))),(14,.v (.int .u64 4)),(15,.v (.int .u64 16)),(16,.v (.int .u64 15))],[.cells 268 (zer (65 - k) (lowD k c))],[]⟩
set_option maxHeartbeats 16000000 in
theorem fb_ok:zay Tryz.prog (GlT mx true) 228 ctFb:=by
 refine zah (cc:=true) Γfb_ok Tryz.T_ok Tryz.mixed Tryz.func228 rfl (by kernel_rfl) (fun _=>rfl) (fun _ _=>by show 5≤102;decide) ?_
 intro (c:Int) (hv:zbb c=true)
 have hv':=zbe.1 hv
 have hn:∀ k,0≤dv k c:=zgc hv'.1
 have hm:∀ k,dv k c≤1114111:=fun k=>by have:=dv_le hv'.1 k;omega
 have h66:dv 6 c=0:=by simp only[dv];omega
 have hlz:lowers.size=36:=rfl
 repeat' (first|refine gd ?_|(first|refine br ?_ ?_|refine brF ?_ ?_)<;>intro q_<;>try simp only[nz] at q_)
 refine ⟨0,Nat,fbSt c,fun k=>k≤5∧(1≤k→¬dv k c=0),fun k=>6 - k,fun _=>Nat.zero_le _,⟨0,⟨by omega,by omega⟩,StLe.of (by repeat' (first|exact trivial|exact zab _|exact rfl|refine And.intro ?_ ?_)) (by repeat' (first|exact trivial|exact zaa _|exact rfl|refine And.intro ?_ ?_))⟩,?_⟩
 rintro k ⟨hk,hz⟩
 match k,hk,hz with
 | 0,_,hz =>
  have hE:=and15 (hn 0) (hm 0)
  have hB:=bAt_low (dv 0 c)
  have hS:=shr4 (hn 0)
  have hn0:=hn 0
  have hm0:=hm 0
  have hd:dv 1 c=dv 0 c / 16:=rfl
  by_cases h:dv 1 c=0
  ·have hlt:¬dv 0 c≥16:=by omega
   have hmd:dv 0 c % 16=dv 0 c:=by omega
   rw[hmd] at hB
   have hnum:=numD_of hv'.1 (m:=1) (by decide) (by decide) h (fun h2=>hz (by omega))
   have hB':UInt8.ofNat (bAt lowers (dv 0 c).toNat).toNat=ld (dv 0 c):=by rw[hB];rfl
   repeat' (first|refine gd ?_|(first|refine br ?_ ?_|refine brF ?_ ?_)<;>intro q_<;>try simp only[nz] at q_)
   refine EntR.of rfl (Ent.tu2 (zab _) (Ent.v (congrArg Value.string ?_)))
   show (⟨⟨UInt8.ofNat (bAt lowers (dv 0 c).toNat).toNat::lowT 0 c⟩⟩:ByteArray)=⟨⟨lowT (numD c) c⟩⟩
   rw[hnum,hB']
   rfl
  ·have hge:dv 0 c≥16:=by omega
   have hX:bAt ⟨#[48,49,50,51,52,53,54,55,56,57,97,98,99,100,101,102,103,104,105,106,107,108,109,110,111,112,113,114,115,116,117,118,119,120,121,122]⟩ (IntKind.u64.wrap ((BitVec.ofInt IntKind.u64.bits (dv 0 c) &&& BitVec.ofInt IntKind.u64.bits 15).toNat:Int)).toNat=ldI (dv 0 c):=by rw[hE];exact hB
   repeat' (first|refine gd ?_|(first|refine br ?_ ?_|refine brF ?_ ?_)<;>intro q_<;>try simp only[nz] at q_)
   rw[hX,hS]
   exact ⟨1,⟨by omega,fun _=>h⟩,(by decide),StLe.of (by repeat' (first|exact trivial|exact zab _|exact rfl|refine And.intro ?_ ?_)) (by repeat' (first|exact trivial|exact zaa _|exact rfl|refine And.intro ?_ ?_))⟩
 | 1,_,hz =>
  have hE:=and15 (hn 1) (hm 1)
  have hB:=bAt_low (dv 1 c)
  have hS:=shr4 (hn 1)
  have hn0:=hn 1
  have hm0:=hm 1
  have hd:dv 2 c=dv 1 c / 16:=rfl
  by_cases h:dv 2 c=0
  ·have hlt:¬dv 1 c≥16:=by omega
   have hmd:dv 1 c % 16=dv 1 c:=by omega
   rw[hmd] at hB
   have hnum:=numD_of hv'.1 (m:=2) (by decide) (by decide) h (fun h2=>hz (by omega))
   have hB':UInt8.ofNat (bAt lowers (dv 1 c).toNat).toNat=ld (dv 1 c):=by rw[hB];rfl
   repeat' (first|refine gd ?_|(first|refine br ?_ ?_|refine brF ?_ ?_)<;>intro q_<;>try simp only[nz] at q_)
   refine EntR.of rfl (Ent.tu2 (zab _) (Ent.v (congrArg Value.string ?_)))
   show (⟨⟨UInt8.ofNat (bAt lowers (dv 1 c).toNat).toNat::lowT 1 c⟩⟩:ByteArray)=⟨⟨lowT (numD c) c⟩⟩
   rw[hnum,hB']
   rfl
  ·have hge:dv 1 c≥16:=by omega
   have hX:bAt ⟨#[48,49,50,51,52,53,54,55,56,57,97,98,99,100,101,102,103,104,105,106,107,108,109,110,111,112,113,114,115,116,117,118,119,120,121,122]⟩ (IntKind.u64.wrap ((BitVec.ofInt IntKind.u64.bits (dv 1 c) &&& BitVec.ofInt IntKind.u64.bits 15).toNat:Int)).toNat=ldI (dv 1 c):=by rw[hE];exact hB
   repeat' (first|refine gd ?_|(first|refine br ?_ ?_|refine brF ?_ ?_)<;>intro q_<;>try simp only[nz] at q_)
   rw[hX,hS]
   exact ⟨2,⟨by omega,fun _=>h⟩,(by decide),StLe.of (by repeat' (first|exact trivial|exact zab _|exact rfl|refine And.intro ?_ ?_)) (by repeat' (first|exact trivial|exact zaa _|exact rfl|refine And.intro ?_ ?_))⟩
 | 2,_,hz =>
  have hE:=and15 (hn 2) (hm 2)
  have hB:=bAt_low (dv 2 c)
  have hS:=shr4 (hn 2)
  have hn0:=hn 2
  have hm0:=hm 2
  have hd:dv 3 c=dv 2 c / 16:=rfl
  by_cases h:dv 3 c=0
  ·have hlt:¬dv 2 c≥16:=by omega
   have hmd:dv 2 c % 16=dv 2 c:=by omega
   rw[hmd] at hB
   have hnum:=numD_of hv'.1 (m:=3) (by decide) (by decide) h (fun h2=>hz (by omega))
   have hB':UInt8.ofNat (bAt lowers (dv 2 c).toNat).toNat=ld (dv 2 c):=by rw[hB];rfl
   repeat' (first|refine gd ?_|(first|refine br ?_ ?_|refine brF ?_ ?_)<;>intro q_<;>try simp only[nz] at q_)
   refine EntR.of rfl (Ent.tu2 (zab _) (Ent.v (congrArg Value.string ?_)))
   show (⟨⟨UInt8.ofNat (bAt lowers (dv 2 c).toNat).toNat::lowT 2 c⟩⟩:ByteArray)=⟨⟨lowT (numD c) c⟩⟩
   rw[hnum,hB']
   rfl
  ·have hge:dv 2 c≥16:=by omega
   have hX:bAt ⟨#[48,49,50,51,52,53,54,55,56,57,97,98,99,100,101,102,103,104,105,106,107,108,109,110,111,112,113,114,115,116,117,118,119,120,121,122]⟩ (IntKind.u64.wrap ((BitVec.ofInt IntKind.u64.bits (dv 2 c) &&& BitVec.ofInt IntKind.u64.bits 15).toNat:Int)).toNat=ldI (dv 2 c):=by rw[hE];exact hB
   repeat' (first|refine gd ?_|(first|refine br ?_ ?_|refine brF ?_ ?_)<;>intro q_<;>try simp only[nz] at q_)
   rw[hX,hS]
   exact ⟨3,⟨by omega,fun _=>h⟩,(by decide),StLe.of (by repeat' (first|exact trivial|exact zab _|exact rfl|refine And.intro ?_ ?_)) (by repeat' (first|exact trivial|exact zaa _|exact rfl|refine And.intro ?_ ?_))⟩
 | 3,_,hz =>
  have hE:=and15 (hn 3) (hm 3)
  have hB:=bAt_low (dv 3 c)
  have hS:=shr4 (hn 3)
  have hn0:=hn 3
  have hm0:=hm 3
  have hd:dv 4 c=dv 3 c / 16:=rfl
  by_cases h:dv 4 c=0
  ·have hlt:¬dv 3 c≥16:=by omega
   have hmd:dv 3 c % 16=dv 3 c:=by omega
   rw[hmd] at hB
   have hnum:=numD_of hv'.1 (m:=4) (by decide) (by decide) h (fun h2=>hz (by omega))
   have hB':UInt8.ofNat (bAt lowers (dv 3 c).toNat).toNat=ld (dv 3 c):=by rw[hB];rfl
   repeat' (first|refine gd ?_|(first|refine br ?_ ?_|refine brF ?_ ?_)<;>intro q_<;>try simp only[nz] at q_)
   refine EntR.of rfl (Ent.tu2 (zab _) (Ent.v (congrArg Value.string ?_)))
   show (⟨⟨UInt8.ofNat (bAt lowers (dv 3 c).toNat).toNat::lowT 3 c⟩⟩:ByteArray)=⟨⟨lowT (numD c) c⟩⟩
   rw[hnum,hB']
   rfl
  ·have hge:dv 3 c≥16:=by omega
   have hX:bAt ⟨#[48,49,50,51,52,53,54,55,56,57,97,98,99,100,101,102,103,104,105,106,107,108,109,110,111,112,113,114,115,116,117,118,119,120,121,122]⟩ (IntKind.u64.wrap ((BitVec.ofInt IntKind.u64.bits (dv 3 c) &&& BitVec.ofInt IntKind.u64.bits 15).toNat:Int)).toNat=ldI (dv 3 c):=by rw[hE];exact hB
   repeat' (first|refine gd ?_|(first|refine br ?_ ?_|refine brF ?_ ?_)<;>intro q_<;>try simp only[nz] at q_)
   rw[hX,hS]
   exact ⟨4,⟨by omega,fun _=>h⟩,(by decide),StLe.of (by repeat' (first|exact trivial|exact zab _|exact rfl|refine And.intro ?_ ?_)) (by repeat' (first|exact trivial|exact zaa _|exact rfl|refine And.intro ?_ ?_))⟩
 | 4,_,hz =>
  have hE:=and15 (hn 4) (hm 4)
  have hB:=bAt_low (dv 4 c)
  have hS:=shr4 (hn 4)
  have hn0:=hn 4
  have hm0:=hm 4
  have hd:dv 5 c=dv 4 c / 16:=rfl
  by_cases h:dv 5 c=0
  ·have hlt:¬dv 4 c≥16:=by omega
   have hmd:dv 4 c % 16=dv 4 c:=by omega
   rw[hmd] at hB
   have hnum:=numD_of hv'.1 (m:=5) (by decide) (by decide) h (fun h2=>hz (by omega))
   have hB':UInt8.ofNat (bAt lowers (dv 4 c).toNat).toNat=ld (dv 4 c):=by rw[hB];rfl
   repeat' (first|refine gd ?_|(first|refine br ?_ ?_|refine brF ?_ ?_)<;>intro q_<;>try simp only[nz] at q_)
   refine EntR.of rfl (Ent.tu2 (zab _) (Ent.v (congrArg Value.string ?_)))
   show (⟨⟨UInt8.ofNat (bAt lowers (dv 4 c).toNat).toNat::lowT 4 c⟩⟩:ByteArray)=⟨⟨lowT (numD c) c⟩⟩
   rw[hnum,hB']
   rfl
  ·have hge:dv 4 c≥16:=by omega
   have hX:bAt ⟨#[48,49,50,51,52,53,54,55,56,57,97,98,99,100,101,102,103,104,105,106,107,108,109,110,111,112,113,114,115,116,117,118,119,120,121,122]⟩ (IntKind.u64.wrap ((BitVec.ofInt IntKind.u64.bits (dv 4 c) &&& BitVec.ofInt IntKind.u64.bits 15).toNat:Int)).toNat=ldI (dv 4 c):=by rw[hE];exact hB
   repeat' (first|refine gd ?_|(first|refine br ?_ ?_|refine brF ?_ ?_)<;>intro q_<;>try simp only[nz] at q_)
   rw[hX,hS]
   exact ⟨5,⟨by omega,fun _=>h⟩,(by decide),StLe.of (by repeat' (first|exact trivial|exact zab _|exact rfl|refine And.intro ?_ ?_)) (by repeat' (first|exact trivial|exact zaa _|exact rfl|refine And.intro ?_ ?_))⟩
 | 5,_,hz =>
  have hE:=and15 (hn 5) (hm 5)
  have hB:=bAt_low (dv 5 c)
  have hS:=shr4 (hn 5)
  have hn0:=hn 5
  have hm0:=hm 5
  have hd:dv 6 c=dv 5 c / 16:=rfl
  by_cases h:dv 6 c=0
  ·have hlt:¬dv 5 c≥16:=by omega
   have hmd:dv 5 c % 16=dv 5 c:=by omega
   rw[hmd] at hB
   have hnum:=numD_of hv'.1 (m:=6) (by decide) (by decide) h (fun h2=>hz (by omega))
   have hB':UInt8.ofNat (bAt lowers (dv 5 c).toNat).toNat=ld (dv 5 c):=by rw[hB];rfl
   repeat' (first|refine gd ?_|(first|refine br ?_ ?_|refine brF ?_ ?_)<;>intro q_<;>try simp only[nz] at q_)
   refine EntR.of rfl (Ent.tu2 (zab _) (Ent.v (congrArg Value.string ?_)))
   show (⟨⟨UInt8.ofNat (bAt lowers (dv 5 c).toNat).toNat::lowT 5 c⟩⟩:ByteArray)=⟨⟨lowT (numD c) c⟩⟩
   rw[hnum,hB']
   rfl
  ·exact absurd h66 h
 | k+6,hk,_=>exact absurd hk (by omega)
noncomputable def Γfi (mx:Int) (pb:Bool):Ctx:=fun f=>match f with
 | 228=>some (.pure ctFb)
 | _=>none
theorem Γfi_ok:za1 Tryz.prog (GlT mx true) (Γfi mx true):=by
 intro f h hh
 simp only[Γfi] at hh
 split at hh<;>simp at hh<;>subst hh
 ·exact fb_ok
def ctFi:Ct:={ ι:=Int,inp:=fun c=>[.v (.int .i64 c),.v (.int .i64 16)],out:=fun c=>.v (.string (lowS c)),pre:=fun c=>zbb c=true }
theorem wrap64 {c:Int}(h:zbb c=true):IntKind.u64.wrap c=c:=by
 have:=zbe.1 h
 unfold IntKind.wrap
 simp[IntKind.bits,IntKind.signed]
 omega
set_option maxHeartbeats 1000000 in
theorem fi_ok:zay Tryz.prog (GlT mx true) 172 ctFi:=by
 refine zah (cc:=true) Γfi_ok Tryz.T_ok Tryz.mixed Tryz.func172 rfl (by kernel_rfl) (fun _=>rfl) (fun _ _=>by show 2≤54;decide) ?_
 intro (c:Int) (hv:zbb c=true)
 have hv':=zbe.1 hv
 repeat' (first|refine gd ?_|(first|refine br ?_ ?_|refine brF ?_ ?_)<;>intro q_<;>try simp only[nz] at q_)
 refine ⟨c,EntL.cons (zab _) (EntL.cons (Ent.int (wrap64 hv)) (EntL.cons (zab _) (EntL.cons (Ent.v (by rw[decide_eq_false (by omega)])) (zaa _)))),hv,?_⟩
 repeat' (first|refine gd ?_|(first|refine br ?_ ?_|refine brF ?_ ?_)<;>intro q_<;>try simp only[nz] at q_)
 exact EntR.str rfl
noncomputable def Γfj (mx:Int) (pb:Bool):Ctx:=fun f=>match f with
 | 172=>some (.pure ctFi)
 | _=>none
theorem Γfj_ok:za1 Tryz.prog (GlT mx true) (Γfj mx true):=by
 intro f h hh
 simp only[Γfj] at hh
 split at hh<;>simp at hh<;>subst hh
 ·exact fi_ok
set_option maxHeartbeats 1000000 in
theorem fj_ok:zay Tryz.prog (GlT mx true) 131 ctFi:=by
 refine zah (cc:=true) Γfj_ok Tryz.T_ok Tryz.mixed Tryz.func131 rfl (by kernel_rfl) (fun _=>rfl) (fun _ _=>by show 2≤8;decide) ?_
 intro (c:Int) (hv:zbb c=true)
 repeat' (first|refine gd ?_|(first|refine br ?_ ?_|refine brF ?_ ?_)<;>intro q_<;>try simp only[nz] at q_)
 exact EntR.str rfl
def shS (c:Int):ByteArray:=⟨⟨zc2 (zfp c)⟩⟩
theorem shS_size (c:Int):(shS c).size≤6:=shortL_len c
def ctDig:Ct:={ ι:=Int,inp:=fun c=>[.v (.int .i64 c)],out:=fun c=>.v (.string (shS c)),pre:=fun c=>zbb c=true }
noncomputable def Γdg (mx:Int) (pb:Bool):Ctx:=fun f=>match f with
 | 131=>some (.pure ctFi)
 | 130=>some (.pure ctUp)
 | _=>none
theorem Γdg_ok:za1 Tryz.prog (GlT mx true) (Γdg mx true):=by
 intro f h hh
 simp only[Γdg] at hh
 split at hh<;>simp at hh<;>subst hh
 ·exact fj_ok
 ·exact up_ok
set_option maxHeartbeats 1000000 in
theorem dig_ok:zay Tryz.prog (GlT mx true) 78 ctDig:=by
 refine zah (cc:=true) Γdg_ok Tryz.T_ok Tryz.mixed Tryz.func78 rfl (by kernel_rfl) (fun _=>rfl) (fun _ _=>by show 1≤6;decide) ?_
 intro (c:Int) (hv:zbb c=true)
 have hs:(lowS c).size=numD c:=lowT_len c _
 have hn:=(numD_ok hv).2.1
 have p2:ctUp.pre (lowS c):=⟨by rw[hs];omega,low_ascii c _⟩
 repeat' (first|refine gd ?_|(first|refine br ?_ ?_|refine brF ?_ ?_)<;>intro q_<;>try simp only[nz] at q_)
 refine EntR.str ?_
 exact up_lowS hv
def dg1 (n:Int):ByteArray:=⟨⟨[UInt8.ofNat (48+n).toNat]⟩⟩
theorem cut_fin:∀ i:Fin 10,(zcd lowers i.1 (i.1+1)).data.toList=[UInt8.ofNat (48+i.1)]:=by decide
def ctIt:Ct:={ ι:=Int,inp:=fun n=>[.v (.int .i64 n)],out:=fun n=>.v (.string (dg1 n)),pre:=fun n=>0≤n∧n<10 }
set_option maxHeartbeats 1000000 in
theorem small_ok:zay Tryz.prog (GlT mx true) 225 ctIt:=by
 refine zah (cc:=true) zbj Tryz.T_ok Tryz.mixed Tryz.func225 rfl (by kernel_rfl) (fun _=>rfl) (fun _ _=>by show 1≤15;decide) ?_
 rintro (n:Int) ⟨(h0:0≤n),(h1:n<10)⟩
 have hlz:lowers.size=36:=rfl
 repeat' (first|refine gd ?_|(first|refine br ?_ ?_|refine brF ?_ ?_)<;>intro q_<;>try simp only[nz] at q_)
 refine EntR.str ?_
 have:=cut_fin ⟨n.toNat,by omega⟩
 show zcd lowers n.toNat (n+1).toNat=dg1 n
 have e1:(n+1).toNat=n.toNat+1:=by omega
 have e2:(48+n).toNat=48+n.toNat:=by omega
 rw[e1]
 unfold dg1
 rw[e2,← this]
noncomputable def Γsmb (mx:Int) (pb:Bool):Ctx:=fun f=>match f with
 | 225=>some (.pure ctIt)
 | _=>none
theorem Γsmb_ok:za1 Tryz.prog (GlT mx true) (Γsmb mx true):=by
 intro f h hh
 simp only[Γsmb] at hh
 split at hh<;>simp at hh<;>subst hh
 ·exact small_ok
def ctFt:Ct:={ ι:=Int,inp:=fun n=>[.v (.int .i64 n),.v (.int .i64 10)],out:=fun n=>.v (.string (dg1 n)),pre:=fun n=>0≤n∧n<10 }
set_option maxHeartbeats 1000000 in
theorem ft_ok:zay Tryz.prog (GlT mx true) 172 ctFt:=by
 refine zah (cc:=true) Γsmb_ok Tryz.T_ok Tryz.mixed Tryz.func172 rfl (by kernel_rfl) (fun _=>rfl) (fun _ _=>by show 2≤54;decide) ?_
 rintro (n:Int) ⟨(h0:0≤n),(h1:n<10)⟩
 repeat' (first|refine gd ?_|(first|refine br ?_ ?_|refine brF ?_ ?_)<;>intro q_<;>try simp only[nz] at q_)
 exact EntR.str rfl
noncomputable def Γft (mx:Int) (pb:Bool):Ctx:=fun f=>match f with
 | 172=>some (.pure ctFt)
 | _=>none
theorem Γft_ok:za1 Tryz.prog (GlT mx true) (Γft mx true):=by
 intro f h hh
 simp only[Γft] at hh
 split at hh<;>simp at hh<;>subst hh
 ·exact ft_ok
theorem iti_ok:zay Tryz.prog (GlT mx true) 129 ctIt:=by
 refine zah (cc:=true) Γft_ok Tryz.T_ok Tryz.mixed Tryz.func129 rfl (by kernel_rfl) (fun _=>rfl) (fun _ _=>by show 1≤5;decide) ?_
 rintro (n:Int) hp
 repeat' (first|refine gd ?_|(first|refine br ?_ ?_|refine brF ?_ ?_)<;>intro q_<;>try simp only[nz] at q_)
 exact EntR.str rfl
noncomputable def Γiti (mx:Int) (pb:Bool):Ctx:=fun f=>match f with
 | 129=>some (.pure ctIt)
 | _=>none
theorem Γiti_ok:za1 Tryz.prog (GlT mx true) (Γiti mx true):=by
 intro f h hh
 simp only[Γiti] at hh
 split at hh<;>simp at hh<;>subst hh
 ·exact iti_ok
theorem itoa1_ok:zay Tryz.prog (GlT mx true) 77 ctIt:=by
 refine zah (cc:=true) Γiti_ok Tryz.T_ok Tryz.mixed Tryz.func77 rfl (by kernel_rfl) (fun _=>rfl) (fun _ _=>by show 1≤5;decide) ?_
 rintro (n:Int) hp
 repeat' (first|refine gd ?_|(first|refine br ?_ ?_|refine brF ?_ ?_)<;>intro q_<;>try simp only[nz] at q_)
 exact EntR.str rfl
end Go.Proofs
