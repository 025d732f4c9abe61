import Derived.Test.YtcihhjjmcompkaaGreatDoorSyz
import Derived.Test.YtcihhjjmcompkaaGreatDoorY7z
import Derived.Test.YtcihhjjmcompkaaGreatDoorHbz
import Derived.Test.YtcihhjjmcompkaaGreatDoorEa
import Derived.Test.YtcihhjjmcompkaaGreatDoorGc
set_option linter.unusedVariables false
set_option linter.unusedSimpArgs false
namespace Go.Proofs
open Go Go.Sx
variable {mx:Int}{pb:Bool}
def bl (l:List UInt8):ByteArray:=⟨⟨l⟩⟩
theorem bl_size (l:List UInt8):(bl l).size=l.length:=rfl
def stL (l:List Rg):List UInt8:=(zca l).data.toList
def stsL (L:List (List Rg)):Nat→List UInt8
 | 0=>[]
 | k+1=>stsL L k++stL (L.getD k default)
def pcL (p:Rg):List UInt8:=if p.2=0 then zhq p.1 else [36,UInt8.ofNat (48+p.2).toNat]
def pcsL (l:List Rg):Nat→List UInt8
 | 0=>[]
 | k+1=>pcsL l k++pcL (l.getD k default)
def hdL (x:Tl):List UInt8:=stsL x.bef x.bef.length++[32,123,32]++stsL x.mat x.mat.length++[32,125,32]++stsL x.aft x.aft.length++[32,62,32]
def rlL (x:Tl):List UInt8:=hdL x++pcsL x.res x.res.length++[10]
def rlsL (l:List Tl):Nat→List UInt8
 | 0=>[]
 | k+1=>rlsL l k++rlL (l.getD k default)
noncomputable def txtB (l:List Tl):ByteArray:=if ziu l=0 then bl (rlsL l l.length) else bl []
noncomputable def ctTxtB:Ct:={ ι:=List Tl,inp:=fun l=>[tlsD l],out:=fun l=>.tu [.v (.string (txtB l)),.v (.int .i64 (ziu l))],pre:=bgL }
theorem stL_lenR (l:List Rg):(stL l).length≤2+21*l.length:=by
 have h1:=setTK_size (canon l) (canon l).length
 have h2:=zbh l
 have h3:(stL l).length=(zca l).size:=rfl
 have h4:shutB.size=1:=rfl
 rw[h3]
 unfold zca
 simp only[zba,h4]
 omega
theorem zb7 {l:List Rg}(h:l.length≤500000):(zca l).size≤10500002:=by
 have h1:=stL_lenR l
 have h3:(stL l).length=(zca l).size:=rfl
 omega
def bgS8 (L:List (List Rg)):Prop:=L.length≤8∧∀ i,i<L.length→(L.getD i default).length≤500000
theorem zhd {L:List (List Rg)}(h:bgS8 L):∀ k,k≤L.length→(stsL L k).length≤10500002*k
 | 0,_=>Nat.le_refl _
 | k+1,hk=>by
  have h1:=zhd h k (by omega)
  have h2:(stL (L.getD k default)).length≤10500002:=zb7 (h.2 k (by omega))
  show List.length (_++_)≤_
  rw[List.length_append]
  omega
theorem pcL_len (p:Rg):(pcL p).length≤10:=by
 have:=escL_len p.1
 unfold pcL
 split
 ·exact this
 ·simp
theorem pcsL_len (l:List Rg):∀ k,(pcsL l k).length≤10*k
 | 0=>Nat.le_refl _
 | k+1=>by
  have h1:=pcsL_len l k
  have h2:=pcL_len (l.getD k default)
  show List.length (_++_)≤_
  rw[List.length_append]
  omega
theorem zjk:∀ {l:List Tl},chkE l=0→∀ k,k<l.length→oneE (l.getD k default)=0
 | [],_,k,hk=>by simp at hk
 | x::l,h,k,hk=>by
  unfold chkE at h
  split at h
  ·rename_i h0
   match k with
   | 0=>exact h0
   | k+1=>exact zjk (l:=l) h k (by simpa using hk)
  ·rename_i h0;exact absurd h h0
theorem oneE_inv {x:Tl}(h:oneE x=0):szT x∧setT3 x∧pcsOk x:=by
 unfold oneE at h
 split at h
 ·split at h
  ·split at h
   ·exact ⟨‹_›,‹_›,‹_›⟩
   ·simp at h
  ·simp at h
 ·simp at h
theorem zjl {l:List Tl}(h:ziu l=0):l.length≤200∧chkE l=0:=by
 unfold ziu at h
 split at h
 ·simp at h
 ·exact ⟨by omega,h⟩
structure BgR (x:Tl):Prop where
 b:bgS8 x.bef
 m:bgS8 x.mat
 a:bgS8 x.aft
 r:x.res.length≤20
theorem bg_r {l:List Tl}(h:bgL l) (hc:ziu l=0) {k:Nat}(hk:k<l.length):BgR (l.getD k default):=by
 obtain ⟨hz,_,_⟩:=oneE_inv (zjk (zjl hc).2 k hk)
 obtain ⟨h1,h2,h3,_⟩:=h.2 k hk
 unfold szT at hz
 exact ⟨⟨by omega,h1.2⟩,⟨by omega,h2.2⟩,⟨by omega,h3.2⟩,by omega⟩
theorem hdL_lenB {x:Tl}(h:BgR x):(hdL x).length≤252000057:=by
 have h1:=zhd h.b _ (Nat.le_refl _)
 have h2:=zhd h.m _ (Nat.le_refl _)
 have h3:=zhd h.a _ (Nat.le_refl _)
 have l1:=h.b.1
 have l2:=h.m.1
 have l3:=h.a.1
 unfold hdL
 simp only[List.length_append,List.length_cons,List.length_nil]
 omega
theorem rlL_lenB {x:Tl}(h:BgR x):(rlL x).length≤252000300:=by
 have h1:=hdL_lenB h
 have h2:=pcsL_len x.res x.res.length
 have h3:=h.r
 unfold rlL
 simp only[List.length_append,List.length_cons,List.length_nil]
 omega
theorem rlsL_lenB {l:List Tl}(h:bgL l) (hc:ziu l=0):∀ k,k≤l.length→(rlsL l k).length≤252000300*k
 | 0,_=>Nat.le_refl _
 | k+1,hk=>by
  have h1:=rlsL_lenB h hc k (by omega)
  have h2:=rlL_lenB (bg_r h hc (show k<l.length by omega))
  show List.length (_++_)≤_
  rw[List.length_append]
  omega
def rlsB (l:List Tl) (k:Nat):ByteArray:=bl (rlsL l k)
def ctSetTxB:Ct:={ ι:=List Rg,inp:=fun l=>[zbu l],out:=fun l=>.v (.string (zca l)),pre:=fun l=>l.length≤500000 }
noncomputable def Γptb (mx:Int) (pb:Bool):Ctx:=fun f=>match f with
 | 51=>some (.pure ctCode)
 | 50=>some (.pure ctMake)
 | 49=>some (.gen (ziq true (Γbw mx pb) Tryz.T (GlT mx pb) Tryz.f49 cWStr))
 | 52=>some (.gen (ziq true Γ0 Tryz.T (GlT mx pb) Tryz.f52 cBStr))
 | _=>none
theorem Γptb_ok:za1 Tryz.prog (GlT mx true) (Γptb mx true):=by
 intro f h hh
 simp only[Γptb] at hh
 split at hh<;>simp at hh<;>subst hh
 ·exact code_ok
 ·exact zch
 ·exact zax Γbw_ok Tryz.T_ok Tryz.mixed Tryz.func49 rfl (by kernel_rfl)
 ·exact zax zbj Tryz.T_ok Tryz.mixed Tryz.func52 rfl (by kernel_rfl)
set_option maxHeartbeats 8000000 in
theorem pSetTxB_ok:zay Tryz.prog (GlT mx true) 17 ctSetTxB:=by
 refine zah (cc:=true) Γptb_ok Tryz.T_ok Tryz.mixed Tryz.func17 rfl (by kernel_rfl) (fun _=>rfl) (fun _ _=>by show 1≤33;decide) ?_
 intro (l:List Rg) (hl:l.length≤500000)
 have p1:ctMake.pre l:=⟨by omega,.inr (.inr trivial)⟩
 have hC:=za8 l
 have hlen:=zbh l
 have hout:ctSetTxB.out l=.v (.string (zbq (zh4 (canon l) (canon l).length) shutB)):=rfl
 repeat' (first|refine gl ?_|(first|refine br ?_ ?_|refine brF ?_ ?_)<;>intro q_<;>try simp only[nz] at q_)
 generalize canon l=C at hC hlen hout ⊢
 refine ⟨0,Nat,fun k=>⟨[(3,.own 0 0),(10,zdu C),(11,.v (.int .i64 C.length)),(12,.v (.int .i64 k))],[.cells 88 [.own 0 0,.row 1],.bytes 5 (zh4 C k)],[]⟩,fun k=>k≤C.length,fun k=>C.length - k,fun _=>Nat.zero_le _,⟨0,Nat.zero_le _,zaf [1,2] tmS ⟨⟨rfl,zaa _,rfl⟩,⟨rfl,rfl⟩,trivial⟩ (by decide)⟩,?_⟩
 intro k (hk:k≤C.length)
 have hs:=setTK_size C k
 by_cases hlt:k<C.length
 ·obtain ⟨r1,r2,r3⟩:=zb5 hC hlt
  have p2:ctCode.pre (C.getD k default).1:=zbe.2 ⟨by omega,by omega⟩
  have p3:ctCode.pre (C.getD k default).2:=zbe.2 ⟨by omega,by omega⟩
  have e1:=zjf (C.getD k default).1
  have e2:=zjf (C.getD k default).2
  have y1:(Src.str (escS (C.getD ((k:Int)).toNat default).1)).len≤10:=e1
  have y4:(zbq (zh4 C k) (escS (C.getD ((k:Int)).toNat default).1)).size≤(zh4 C k).size+10:=by rw[zba];show _+(escS (C.getD k default).1).size≤_;omega
  have y2:(Src.str (zbq ⟨#[45]⟩ (escS (C.getD ((k:Int)).toNat default).2))).len≤11:=by show (zbq _ _).size≤11;rw[zba];show 1+(escS (C.getD k default).2).size≤11;omega
  repeat' (first|refine gl ?_|(first|refine br ?_ ?_|refine brF ?_ ?_)<;>intro q_<;>try simp only[nz] at q_)
  ·exact ⟨k+1,(by show k+1≤C.length;omega),(by show C.length - (k+1)<C.length - k;omega),zaf [0,4] tmS ⟨⟨rfl,zaa _,rfl⟩,⟨rfl,by first|(show rgW (zh4 C k) (C.getD k default)=_;rw[rgW,if_neg q_];rfl)|(show _=rgW (zh4 C k) (C.getD k default);rw[rgW,if_neg q_];rfl)⟩,trivial⟩ (by decide)⟩
  ·exact ⟨k+1,(by show k+1≤C.length;omega),(by show C.length - (k+1)<C.length - k;omega),zaf [0,3] tmS ⟨⟨rfl,zaa _,rfl⟩,⟨rfl,by first|(show rgW (zh4 C k) (C.getD k default)=_;rw[rgW,if_pos q_];rfl)|(show _=rgW (zh4 C k) (C.getD k default);rw[rgW,if_pos q_];rfl)⟩,trivial⟩ (by decide)⟩
 ·have he:k=C.length:=by omega
  have y3:(Src.str ⟨#[93]⟩).len=1:=rfl
  repeat' (first|refine gl ?_|(first|refine br ?_ ?_|refine brF ?_ ?_)<;>intro q_<;>try simp only[nz] at q_)
  refine EntR.str ?_
  show zbq (zh4 C k) shutB=zca l
  rw[he]
  exact (Value.string.inj (D.v.inj hout)).symm
end Go.Proofs
namespace Go.Proofs
open Go Go.Sx
variable {mx:Int}{pb:Bool}
noncomputable def cWr:Code:=(Tryz.f76.body).getD .skip
noncomputable def Γwr (mx:Int) (pb:Bool):Ctx:=fun f=>match f with
 | 17=>some (.pure ctSetTxB)
 | 49=>some (.gen (ziq true (Γbw mx pb) Tryz.T (GlT mx pb) Tryz.f49 cWStr))
 | _=>none
theorem Γwr_ok:za1 Tryz.prog (GlT mx true) (Γwr mx true):=by
 intro f h hh
 simp only[Γwr] at hh
 split at hh<;>simp at hh<;>subst hh
 ·exact pSetTxB_ok
 ·exact zax Γbw_ok Tryz.T_ok Tryz.mixed Tryz.func49 rfl (by kernel_rfl)
noncomputable def Γpx (mx:Int) (pb:Bool):Ctx:=fun f=>match f with
 | 39=>some (.pure ctChkB)
 | 77=>some (.pure ctIt)
 | 78=>some (.pure ctDig)
 | 49=>some (.gen (ziq true (Γbw mx pb) Tryz.T (GlT mx pb) Tryz.f49 cWStr))
 | 52=>some (.gen (ziq true Γ0 Tryz.T (GlT mx pb) Tryz.f52 cBStr))
 | 76=>some (.gen (ziq true (Γwr mx pb) Tryz.T (GlT mx pb) Tryz.f76 cWr))
 | _=>none
theorem Γpx_ok:za1 Tryz.prog (GlT mx true) (Γpx mx true):=by
 intro f h hh
 simp only[Γpx] at hh
 split at hh<;>simp at hh<;>subst hh
 ·exact pChkB_ok
 ·exact itoa1_ok
 ·exact dig_ok
 ·exact zax Γbw_ok Tryz.T_ok Tryz.mixed Tryz.func49 rfl (by kernel_rfl)
 ·exact zax zbj Tryz.T_ok Tryz.mixed Tryz.func52 rfl (by kernel_rfl)
 ·exact zax Γwr_ok Tryz.T_ok Tryz.mixed Tryz.func76 rfl (by kernel_rfl)
def bOw5 (b:ByteArray):Nat→List Own
 | 0=>[.cells 88 [.v (.pointer none),.v (.slice none 0 0)]]
 | _+1=>[.cells 88 [.own 0 0,.row 1],.bytes 5 b]
def wB (b:ByteArray) (L:List (List Rg)):Nat→ByteArray
 | 0=>b
 | k+1=>zbq (wB b L k) (zca (L.getD k default))
def pB (b:ByteArray) (l:List Rg):Nat→ByteArray
 | 0=>b
 | k+1=>if (l.getD k default).2=0 then zbq (pB b l k) (zbq (zbq ⟨#[92,117,123]⟩ (shS (l.getD k default).1)) ⟨#[125]⟩) else zbq (pB b l k) (zbq ⟨#[36]⟩ (dg1 (l.getD k default).2))
theorem wB_list (b:ByteArray) (L:List (List Rg)):∀ k,(wB b L k).data.toList=b.data.toList++stsL L k
 | 0=>(List.append_nil _).symm
 | k+1=>by
  show (wB b L k).data.toList++stL (L.getD k default)=b.data.toList++(stsL L k++stL (L.getD k default))
  rw[wB_list b L k,List.append_assoc]
theorem pB_list (b:ByteArray) (l:List Rg):∀ k,(pB b l k).data.toList=b.data.toList++pcsL l k
 | 0=>(List.append_nil _).symm
 | k+1=>by
  have ih:=pB_list b l k
  show (pB b l (k+1)).data.toList=b.data.toList++(pcsL l k++pcL (l.getD k default))
  unfold pB pcL
  by_cases h:(l.getD k default).2=0
  ·rw[if_pos h,if_pos h,← List.append_assoc,← ih]
   rfl
  ·rw[if_neg h,if_neg h,← List.append_assoc,← ih]
   rfl
theorem zhc {b:ByteArray}{L:List (List Rg)}(h:bgS8 L) {k:Nat}(hk:k≤L.length):(wB b L k).size≤b.size+84000016:=by
 have h1:(wB b L k).size=((wB b L k).data.toList).length:=rfl
 have h2:=zhd h k hk
 have h3:=h.1
 rw[h1,wB_list,List.length_append]
 show b.size+_≤_
 omega
theorem pB_size (b:ByteArray) {l:List Rg}(h:l.length≤20) {k:Nat}(hk:k≤l.length):(pB b l k).size≤b.size+200:=by
 have h1:(pB b l k).size=((pB b l k).data.toList).length:=rfl
 have h2:=pcsL_len l k
 rw[h1,pB_list,List.length_append]
 show b.size+_≤_
 omega
def hdB (l:List Tl) (k:Nat):ByteArray:=zbq (wB (zbq (wB (zbq (wB (rlsB l k) (l.getD k default).bef (l.getD k default).bef.length) ⟨#[32,123,32]⟩) (l.getD k default).mat (l.getD k default).mat.length) ⟨#[32,125,32]⟩) (l.getD k default).aft (l.getD k default).aft.length) ⟨#[32,62,32]⟩
theorem fin_eq (l:List Tl) (k:Nat):zbq (pB (hdB l k) (l.getD k default).res (l.getD k default).res.length) ⟨#[10]⟩=rlsB l (k+1):=by
 have e1:∀ x y:ByteArray,(zbq x y).data.toList=x.data.toList++y.data.toList:=fun _ _=>rfl
 have e2:(rlsB l k).data.toList=rlsL l k:=rfl
 have e3:(zbq (pB (hdB l k) (l.getD k default).res (l.getD k default).res.length) ⟨#[10]⟩).data.toList=rlsL l k++rlL (l.getD k default):=by
  rw[e1,pB_list]
  unfold hdB
  rw[e1,wB_list,e1,wB_list,e1,wB_list,e2]
  unfold rlL hdL
  simp only[List.append_assoc]
 have e4:∀ x:ByteArray,x=bl x.data.toList:=fun _=>rfl
 rw[e4 (zbq _ _),e3]
 rfl
def wS (pre:List Own) (r:Nat) (e:ByteArray) (b:ByteArray) (L:List (List Rg)) (j:Nat):St:=⟨[(1,.v (.string e)),(2,.own 0 0),(7,zix L),(8,.v (.int .i64 L.length)),(9,.v (.int .i64 j))],.cells 88 [.own 0 0,.row r]::(pre++[.bytes 5 (wB b L j)]),[]⟩
def wS0 (pre:List Own) (e:ByteArray) (L:List (List Rg)) (j:Nat):St:=⟨[(1,.v (.string e)),(2,.own 0 0),(7,zix L),(8,.v (.int .i64 L.length)),(9,.v (.int .i64 j))],.cells 88 [.v (.pointer none),.v (.slice none 0 0)]::pre,[]⟩
def wSz (pre:List Own) (r:Nat) (e:ByteArray) (b:ByteArray) (L:List (List Rg)):Nat × Nat→St
 | (j,0)=>wS0 pre e L j
 | (j,_+1)=>wS pre r e b L j
set_option maxHeartbeats 32000000 in
theorem pTxtB_ok:zay Tryz.prog (GlT mx true) 38 ctTxtB:=by
 refine zah (cc:=true) Γpx_ok Tryz.T_ok Tryz.mixed Tryz.func38 rfl (by kernel_rfl) (fun _=>rfl) (fun _ _=>by show 1≤60;decide) ?_
 intro (l:List Tl) (hl:bgL l)
 have p0:ctChkB.pre l:=hl
 by_cases he:ziu l=0
 ·have h6:=(zjl he).1
  have hout:ctTxtB.out l=.tu [.v (.string (rlsB l l.length)),.v (.int .i64 0)]:=by
   show D.tu [.v (.string (txtB l)),.v (.int .i64 (ziu l))]=_
   rw[txtB,if_pos he,he]
   rfl
  rw[hout]
  repeat' (first|refine gl ?_|(first|refine br ?_ ?_|refine brF ?_ ?_)<;>intro q_<;>try simp only[nz] at q_)
  refine ⟨0,Nat × Nat,fun|(k,z)=>⟨[(5,.own 0 0),(6,.fn 76 [.own 0 0]),(17,tlsD l),(18,.v (.int .i64 l.length)),(19,.v (.int .i64 k))],bOw5 (rlsB l k) z,[]⟩,fun|(k,z)=>k≤l.length∧(z=0→k=0),fun x=>l.length - x.1,fun _=>Nat.zero_le _,⟨(0,0),⟨Nat.zero_le _,fun h=>h⟩,zaf [0] tmS ⟨⟨rfl,zaa _,rfl⟩,trivial⟩ (by decide)⟩,?_⟩
  rintro ⟨k,z⟩ ⟨hk,hz0⟩
  have hs:(rlsB l k).size≤252000300*k:=rlsL_lenB hl he k hk
  by_cases hlt:k<l.length
  ·obtain ⟨hz,_,hp⟩:=oneE_inv (zjk (zjl he).2 k hlt)
   obtain ⟨q1,q2,q3,q4⟩:=bg_r hl he hlt
   have b1:=q1.1
   have b2:=q2.1
   have b3:=q3.1
   have hfin:=fin_eq l k
   have y1:(Src.str ⟨#[32,123,32]⟩).len=3:=rfl
   have y2:(Src.str ⟨#[32,125,32]⟩).len=3:=rfl
   have y3:(Src.str ⟨#[32,62,32]⟩).len=3:=rfl
   have y4:(Src.str ⟨#[10]⟩).len=1:=rfl
   unfold hdB at hfin
   rcases z with _|z
   ·repeat' (first|refine gl ?_|(first|refine br ?_ ?_|refine brF ?_ ?_)<;>intro q_<;>try simp only[nz] at q_)
    have hk0:=hz0 rfl
    have hr0:rlsB l k=⟨#[]⟩:=by rw[hk0];rfl
    have hs0:(rlsB l k).size=0:=by rw[hr0];rfl
    refine ⟨0,Nat × Nat,wSz [.cells 79 [tlD (l.getD k default) 0,tlD (l.getD k default) 1,tlD (l.getD k default) 2,tlD (l.getD k default) 3]] 2 ⟨#[32,123,32]⟩ (rlsB l k) (l.getD k default).bef,fun x=>x.1≤(l.getD k default).bef.length∧(x.2=0→x.1=0),fun x=>(l.getD k default).bef.length - x.1,fun x=>(by rcases x with ⟨a,_|b⟩;exact Nat.le_refl 2;exact (by decide:2≤3)),⟨(0,0),⟨Nat.zero_le _,fun h=>h⟩,zaq (m:=2) [0,1] tmS ⟨⟨rfl,zaa _,rfl⟩,⟨rfl,zaa _,rfl⟩,trivial⟩ (by decide) (by decide) (by simp)⟩,?_⟩
    rintro ⟨j0,z0⟩ ⟨(hj0:j0≤(l.getD k default).bef.length),(hz1:z0=0→j0=0)⟩
    have hw0:=zhc (b:=rlsB l k) q1 hj0
    rcases z0 with _|z0
    ·have hj00:=hz1 rfl
     subst hj00
     by_cases hl0:0<(l.getD k default).bef.length
     ·have p1:ctSetTxB.pre ((l.getD k default).bef.getD 0 default):=q1.2 0 hl0
      have hx:=zb7 (q1.2 0 hl0)
      unfold wSz wS0
      repeat' (first|refine gl ?_|(first|refine br ?_ ?_|refine brF ?_ ?_)<;>intro q_<;>try simp only[nz] at q_)
      exact ⟨(1,1),⟨by show 1≤_;omega,by omega⟩,(by show _ - 1<_ - 0;omega),zaq (m:=2) [0,1,3] tmS ⟨⟨rfl,zaa _,rfl⟩,⟨rfl,zaa _,rfl⟩,⟨rfl,by first|(show wB (rlsB l k) (l.getD k default).bef 1=_;rw[wB,wB,hr0];rfl)|(show _=wB (rlsB l k) (l.getD k default).bef 1;rw[wB,wB,hr0];rfl)⟩,trivial⟩ (by decide) (by decide) (by simp)⟩
     have hn0:(l.getD k default).bef.length=0:=by omega
     unfold wSz wS0
     repeat' (first|refine gl ?_|(first|refine br ?_ ?_|refine brF ?_ ?_)<;>intro q_<;>try simp only[nz] at q_)
     have hB2:(zbq (wB (rlsB l k) (l.getD k default).bef (l.getD k default).bef.length) ⟨#[32,123,32]⟩).size≤50484060019:=by simp only[zba];show (wB _ _ _).size+3≤_;rw[hn0];show (rlsB l k).size+3≤_;omega
     clear hw0 hs0
     have hB20:zbq (wB (rlsB l k) (l.getD k default).bef (l.getD k default).bef.length) ⟨#[32,123,32]⟩=⟨#[32,123,32]⟩:=by rw[hn0,wB,hr0];rfl
     generalize zbq (wB (rlsB l k) (l.getD k default).bef (l.getD k default).bef.length) ⟨#[32,123,32]⟩=B2 at hB2 hB20 hfin ⊢
     rw[← hB20]
     refine ⟨0,Nat,wS [.cells 79 [tlD (l.getD k default) 0,tlD (l.getD k default) 1,tlD (l.getD k default) 2,tlD (l.getD k default) 3],.gone] 3 ⟨#[32,125,32]⟩ B2 (l.getD k default).mat,fun j=>j≤(l.getD k default).mat.length,fun j=>(l.getD k default).mat.length - j,fun _=>(by show 3≤4;decide),⟨0,Nat.zero_le _,StLe.trans (StLe.moveB (m:=3) (i:=0) (j:=1) (r:=2) rfl rfl rfl) (zaq (m:=3) [0,1,2,3] tmS ⟨⟨rfl,zaa _,rfl⟩,⟨rfl,zaa _,rfl⟩,trivial,⟨rfl,rfl⟩,trivial⟩ (by decide) (by decide) (by simp))⟩,?_⟩
     intro j1 (hj1:j1≤(l.getD k default).mat.length)
     have hw1:=zhc (b:=B2) q2 hj1
     by_cases hl1:j1<(l.getD k default).mat.length
     ·have p1:ctSetTxB.pre ((l.getD k default).mat.getD j1 default):=q2.2 j1 hl1
      have hx:=zb7 (q2.2 j1 hl1)
      have hx':(Src.str (zca ((l.getD k default).mat.getD j1 default))).len≤10500002:=hx
      unfold wS
      repeat' (first|refine gl ?_|(first|refine br ?_ ?_|refine brF ?_ ?_)<;>intro q_<;>try simp only[nz] at q_)
      exact ⟨j1+1,(by show j1+1≤_;omega),(by show _ - (j1+1)<_ - j1;omega),zaq (m:=3) [0,1,2,5] tmS ⟨⟨rfl,zaa _,rfl⟩,⟨rfl,zaa _,rfl⟩,trivial,⟨rfl,rfl⟩,trivial⟩ (by decide) (by decide) (by simp)⟩
     have hje1:j1=(l.getD k default).mat.length:=by omega
     subst hje1
     unfold wS
     repeat' (first|refine gl ?_|(first|refine br ?_ ?_|refine brF ?_ ?_)<;>intro q_<;>try simp only[nz] at q_)
     have hB3:(zbq (wB B2 (l.getD k default).mat (l.getD k default).mat.length) ⟨#[32,125,32]⟩).size≤50568060038:=by simp only[zba];show _+3≤_;omega
     clear hw1 hB2
     generalize zbq (wB B2 (l.getD k default).mat (l.getD k default).mat.length) ⟨#[32,125,32]⟩=B3 at hB3 hfin ⊢
     refine ⟨0,Nat,wS [.cells 79 [tlD (l.getD k default) 0,tlD (l.getD k default) 1,tlD (l.getD k default) 2,tlD (l.getD k default) 3],.gone,.gone,.gone] 5 ⟨#[32,62,32]⟩ B3 (l.getD k default).aft,fun j=>j≤(l.getD k default).aft.length,fun j=>(l.getD k default).aft.length - j,fun _=>(by show 5≤6;decide),⟨0,Nat.zero_le _,StLe.trans (StLe.moveB (m:=5) (i:=0) (j:=1) (r:=4) rfl rfl rfl) (zaq (m:=5) [0,1,2,3,4,5] tmS ⟨⟨rfl,zaa _,rfl⟩,⟨rfl,zaa _,rfl⟩,trivial,trivial,trivial,⟨rfl,rfl⟩,trivial⟩ (by decide) (by decide) (by simp))⟩,?_⟩
     intro j2 (hj2:j2≤(l.getD k default).aft.length)
     have hw2:=zhc (b:=B3) q3 hj2
     by_cases hl2:j2<(l.getD k default).aft.length
     ·have p1:ctSetTxB.pre ((l.getD k default).aft.getD j2 default):=q3.2 j2 hl2
      have hx:=zb7 (q3.2 j2 hl2)
      have hx':(Src.str (zca ((l.getD k default).aft.getD j2 default))).len≤10500002:=hx
      unfold wS
      repeat' (first|refine gl ?_|(first|refine br ?_ ?_|refine brF ?_ ?_)<;>intro q_<;>try simp only[nz] at q_)
      exact ⟨j2+1,(by show j2+1≤_;omega),(by show _ - (j2+1)<_ - j2;omega),zaq (m:=5) [0,1,2,3,4,7] tmS ⟨⟨rfl,zaa _,rfl⟩,⟨rfl,zaa _,rfl⟩,trivial,trivial,trivial,⟨rfl,rfl⟩,trivial⟩ (by decide) (by decide) (by simp)⟩
     have hje2:j2=(l.getD k default).aft.length:=by omega
     subst hje2
     unfold wS
     repeat' (first|refine gl ?_|(first|refine br ?_ ?_|refine brF ?_ ?_)<;>intro q_<;>try simp only[nz] at q_)
     have hB4:(zbq (wB B3 (l.getD k default).aft (l.getD k default).aft.length) ⟨#[32,62,32]⟩).size≤50652060057:=by simp only[zba];show _+3≤_;omega
     clear hw2 hB3
     generalize zbq (wB B3 (l.getD k default).aft (l.getD k default).aft.length) ⟨#[32,62,32]⟩=B4 at hB4 hfin ⊢
     refine ⟨0,Nat,fun j=>⟨[(5,.own 0 0),(6,.fn 76 [.own 0 0]),(17,tlsD l),(18,.v (.int .i64 l.length)),(19,.v (.int .i64 k)),(36,zdu (l.getD k default).res),(37,.v (.int .i64 (l.getD k default).res.length)),(38,.v (.int .i64 j))],[.cells 88 [.own 0 0,.row 2],.cells 79 [tlD (l.getD k default) 0,tlD (l.getD k default) 1,tlD (l.getD k default) 2,tlD (l.getD k default) 3],.bytes 5 (pB B4 (l.getD k default).res j)],[]⟩,fun j=>j≤(l.getD k default).res.length,fun j=>(l.getD k default).res.length - j,fun _=>Nat.zero_le _,⟨0,Nat.zero_le _,zaf [0,1,6] tmS ⟨⟨rfl,zaa _,rfl⟩,⟨rfl,zaa _,rfl⟩,⟨rfl,rfl⟩,trivial⟩ (by decide)⟩,?_⟩
     intro j (hj:j≤(l.getD k default).res.length)
     have hsj:=pB_size B4 q4 hj
     by_cases hjl:j<(l.getD k default).res.length
     ·have hpj:=hp j hjl
      have hm8:=hz.2.1
      unfold pcOk at hpj
      by_cases hc0:((l.getD k default).res.getD ((j:Int)).toNat default).2=0
      ·have hc:((l.getD k default).res.getD j default).2=0:=hc0
       have hv:zbb ((l.getD k default).res.getD j default).1=true:=by
        rcases hpj with h|h
        ·exact h.2
        ·omega
       have p4:ctDig.pre ((l.getD k default).res.getD j default).1:=hv
       have e1:=shS_size ((l.getD k default).res.getD j default).1
       have e2:(Src.str (zbq (zbq ⟨#[92,117,123]⟩ (shS ((l.getD k default).res.getD j default).1)) ⟨#[125]⟩)).len≤10:=by show (zbq _ _).size≤10;rw[zba,zba];show 3+_+1≤10;omega
       repeat' (first|refine gl ?_|(first|refine br ?_ ?_|refine brF ?_ ?_)<;>intro q_<;>try simp only[nz] at q_)
       exact ⟨j+1,(by show j+1≤_;omega),(by show _ - (j+1)<_ - j;omega),zaf [0,1,4] tmS ⟨⟨rfl,zaa _,rfl⟩,⟨rfl,zaa _,rfl⟩,⟨rfl,by first|(show pB B4 (l.getD k default).res (j+1)=_;rw[pB,if_pos hc];rfl)|(show _=pB B4 (l.getD k default).res (j+1);rw[pB,if_pos hc];rfl)⟩,trivial⟩ (by decide)⟩
      ·have hc:¬((l.getD k default).res.getD j default).2=0:=hc0
       have hv:1≤((l.getD k default).res.getD j default).2∧((l.getD k default).res.getD j default).2≤8:=by
        rcases hpj with h|h
        ·exact absurd h.1 hc
        ·omega
       have p4:ctIt.pre ((l.getD k default).res.getD j default).2:=⟨by omega,by omega⟩
       have e1:(dg1 ((l.getD k default).res.getD j default).2).size=1:=rfl
       have e2:(Src.str (zbq ⟨#[36]⟩ (dg1 ((l.getD k default).res.getD j default).2))).len≤10:=by show (zbq _ _).size≤10;rw[zba,e1];decide
       repeat' (first|refine gl ?_|(first|refine br ?_ ?_|refine brF ?_ ?_)<;>intro q_<;>try simp only[nz] at q_)
       exact ⟨j+1,(by show j+1≤_;omega),(by show _ - (j+1)<_ - j;omega),zaf [0,1,4] tmS ⟨⟨rfl,zaa _,rfl⟩,⟨rfl,zaa _,rfl⟩,⟨rfl,by first|(show pB B4 (l.getD k default).res (j+1)=_;rw[pB,if_neg hc];rfl)|(show _=pB B4 (l.getD k default).res (j+1);rw[pB,if_neg hc];rfl)⟩,trivial⟩ (by decide)⟩
     have hje:j=(l.getD k default).res.length:=by omega
     subst hje
     repeat' (first|refine gl ?_|(first|refine br ?_ ?_|refine brF ?_ ?_)<;>intro q_<;>try simp only[nz] at q_)
     exact ⟨(k+1,1),⟨by omega,by omega⟩,(by show l.length - (k+1)<l.length - k;omega),zaf [0,3] tmS ⟨⟨rfl,zaa _,rfl⟩,⟨rfl,by first|exact hfin|exact hfin.symm⟩,trivial⟩ (by decide)⟩
    ·by_cases hl0:j0<(l.getD k default).bef.length
     ·have p1:ctSetTxB.pre ((l.getD k default).bef.getD j0 default):=q1.2 j0 hl0
      have hx:=zb7 (q1.2 j0 hl0)
      have hx':(Src.str (zca ((l.getD k default).bef.getD j0 default))).len≤10500002:=hx
      unfold wSz wS
      repeat' (first|refine gl ?_|(first|refine br ?_ ?_|refine brF ?_ ?_)<;>intro q_<;>try simp only[nz] at q_)
      exact ⟨(j0+1,1),⟨by show j0+1≤_;omega,by omega⟩,(by show _ - (j0+1)<_ - j0;omega),zaq (m:=2) [0,1,4] tmS ⟨⟨rfl,zaa _,rfl⟩,⟨rfl,zaa _,rfl⟩,⟨rfl,rfl⟩,trivial⟩ (by decide) (by decide) (by simp)⟩
     have hje0:j0=(l.getD k default).bef.length:=by omega
     subst hje0
     unfold wSz wS
     repeat' (first|refine gl ?_|(first|refine br ?_ ?_|refine brF ?_ ?_)<;>intro q_<;>try simp only[nz] at q_)
     have hB2:(zbq (wB (rlsB l k) (l.getD k default).bef (l.getD k default).bef.length) ⟨#[32,123,32]⟩).size≤50484060019:=by simp only[zba];show _+3≤_;omega
     clear hw0
     generalize zbq (wB (rlsB l k) (l.getD k default).bef (l.getD k default).bef.length) ⟨#[32,123,32]⟩=B2 at hB2 hfin ⊢
     refine ⟨0,Nat,wS [.cells 79 [tlD (l.getD k default) 0,tlD (l.getD k default) 1,tlD (l.getD k default) 2,tlD (l.getD k default) 3],.gone,.gone] 4 ⟨#[32,125,32]⟩ B2 (l.getD k default).mat,fun j=>j≤(l.getD k default).mat.length,fun j=>(l.getD k default).mat.length - j,fun _=>(by show 4≤5;decide),⟨0,Nat.zero_le _,StLe.trans (StLe.moveB (m:=4) (i:=0) (j:=1) (r:=3) rfl rfl rfl) (zaq (m:=4) [0,1,2,3,4] tmS ⟨⟨rfl,zaa _,rfl⟩,⟨rfl,zaa _,rfl⟩,trivial,trivial,⟨rfl,rfl⟩,trivial⟩ (by decide) (by decide) (by simp))⟩,?_⟩
     intro j1 (hj1:j1≤(l.getD k default).mat.length)
     have hw1:=zhc (b:=B2) q2 hj1
     by_cases hl1:j1<(l.getD k default).mat.length
     ·have p1:ctSetTxB.pre ((l.getD k default).mat.getD j1 default):=q2.2 j1 hl1
      have hx:=zb7 (q2.2 j1 hl1)
      have hx':(Src.str (zca ((l.getD k default).mat.getD j1 default))).len≤10500002:=hx
      unfold wS
      repeat' (first|refine gl ?_|(first|refine br ?_ ?_|refine brF ?_ ?_)<;>intro q_<;>try simp only[nz] at q_)
      exact ⟨j1+1,(by show j1+1≤_;omega),(by show _ - (j1+1)<_ - j1;omega),zaq (m:=4) [0,1,2,3,6] tmS ⟨⟨rfl,zaa _,rfl⟩,⟨rfl,zaa _,rfl⟩,trivial,trivial,⟨rfl,rfl⟩,trivial⟩ (by decide) (by decide) (by simp)⟩
     have hje1:j1=(l.getD k default).mat.length:=by omega
     subst hje1
     unfold wS
     repeat' (first|refine gl ?_|(first|refine br ?_ ?_|refine brF ?_ ?_)<;>intro q_<;>try simp only[nz] at q_)
     have hB3:(zbq (wB B2 (l.getD k default).mat (l.getD k default).mat.length) ⟨#[32,125,32]⟩).size≤50568060038:=by simp only[zba];show _+3≤_;omega
     clear hw1 hB2
     generalize zbq (wB B2 (l.getD k default).mat (l.getD k default).mat.length) ⟨#[32,125,32]⟩=B3 at hB3 hfin ⊢
     refine ⟨0,Nat,wS [.cells 79 [tlD (l.getD k default) 0,tlD (l.getD k default) 1,tlD (l.getD k default) 2,tlD (l.getD k default) 3],.gone,.gone,.gone,.gone] 6 ⟨#[32,62,32]⟩ B3 (l.getD k default).aft,fun j=>j≤(l.getD k default).aft.length,fun j=>(l.getD k default).aft.length - j,fun _=>(by show 6≤7;decide),⟨0,Nat.zero_le _,StLe.trans (StLe.moveB (m:=6) (i:=0) (j:=1) (r:=5) rfl rfl rfl) (zaq (m:=6) [0,1,2,3,4,5,6] tmS ⟨⟨rfl,zaa _,rfl⟩,⟨rfl,zaa _,rfl⟩,trivial,trivial,trivial,trivial,⟨rfl,rfl⟩,trivial⟩ (by decide) (by decide) (by simp))⟩,?_⟩
     intro j2 (hj2:j2≤(l.getD k default).aft.length)
     have hw2:=zhc (b:=B3) q3 hj2
     by_cases hl2:j2<(l.getD k default).aft.length
     ·have p1:ctSetTxB.pre ((l.getD k default).aft.getD j2 default):=q3.2 j2 hl2
      have hx:=zb7 (q3.2 j2 hl2)
      have hx':(Src.str (zca ((l.getD k default).aft.getD j2 default))).len≤10500002:=hx
      unfold wS
      repeat' (first|refine gl ?_|(first|refine br ?_ ?_|refine brF ?_ ?_)<;>intro q_<;>try simp only[nz] at q_)
      exact ⟨j2+1,(by show j2+1≤_;omega),(by show _ - (j2+1)<_ - j2;omega),zaq (m:=6) [0,1,2,3,4,5,8] tmS ⟨⟨rfl,zaa _,rfl⟩,⟨rfl,zaa _,rfl⟩,trivial,trivial,trivial,trivial,⟨rfl,rfl⟩,trivial⟩ (by decide) (by decide) (by simp)⟩
     have hje2:j2=(l.getD k default).aft.length:=by omega
     subst hje2
     unfold wS
     repeat' (first|refine gl ?_|(first|refine br ?_ ?_|refine brF ?_ ?_)<;>intro q_<;>try simp only[nz] at q_)
     have hB4:(zbq (wB B3 (l.getD k default).aft (l.getD k default).aft.length) ⟨#[32,62,32]⟩).size≤50652060057:=by simp only[zba];show _+3≤_;omega
     clear hw2 hB3
     generalize zbq (wB B3 (l.getD k default).aft (l.getD k default).aft.length) ⟨#[32,62,32]⟩=B4 at hB4 hfin ⊢
     refine ⟨0,Nat,fun j=>⟨[(5,.own 0 0),(6,.fn 76 [.own 0 0]),(17,tlsD l),(18,.v (.int .i64 l.length)),(19,.v (.int .i64 k)),(36,zdu (l.getD k default).res),(37,.v (.int .i64 (l.getD k default).res.length)),(38,.v (.int .i64 j))],[.cells 88 [.own 0 0,.row 2],.cells 79 [tlD (l.getD k default) 0,tlD (l.getD k default) 1,tlD (l.getD k default) 2,tlD (l.getD k default) 3],.bytes 5 (pB B4 (l.getD k default).res j)],[]⟩,fun j=>j≤(l.getD k default).res.length,fun j=>(l.getD k default).res.length - j,fun _=>Nat.zero_le _,⟨0,Nat.zero_le _,zaf [0,1,7] tmS ⟨⟨rfl,zaa _,rfl⟩,⟨rfl,zaa _,rfl⟩,⟨rfl,rfl⟩,trivial⟩ (by decide)⟩,?_⟩
     intro j (hj:j≤(l.getD k default).res.length)
     have hsj:=pB_size B4 q4 hj
     by_cases hjl:j<(l.getD k default).res.length
     ·have hpj:=hp j hjl
      have hm8:=hz.2.1
      unfold pcOk at hpj
      by_cases hc0:((l.getD k default).res.getD ((j:Int)).toNat default).2=0
      ·have hc:((l.getD k default).res.getD j default).2=0:=hc0
       have hv:zbb ((l.getD k default).res.getD j default).1=true:=by
        rcases hpj with h|h
        ·exact h.2
        ·omega
       have p4:ctDig.pre ((l.getD k default).res.getD j default).1:=hv
       have e1:=shS_size ((l.getD k default).res.getD j default).1
       have e2:(Src.str (zbq (zbq ⟨#[92,117,123]⟩ (shS ((l.getD k default).res.getD j default).1)) ⟨#[125]⟩)).len≤10:=by show (zbq _ _).size≤10;rw[zba,zba];show 3+_+1≤10;omega
       repeat' (first|refine gl ?_|(first|refine br ?_ ?_|refine brF ?_ ?_)<;>intro q_<;>try simp only[nz] at q_)
       exact ⟨j+1,(by show j+1≤_;omega),(by show _ - (j+1)<_ - j;omega),zaf [0,1,4] tmS ⟨⟨rfl,zaa _,rfl⟩,⟨rfl,zaa _,rfl⟩,⟨rfl,by first|(show pB B4 (l.getD k default).res (j+1)=_;rw[pB,if_pos hc];rfl)|(show _=pB B4 (l.getD k default).res (j+1);rw[pB,if_pos hc];rfl)⟩,trivial⟩ (by decide)⟩
      ·have hc:¬((l.getD k default).res.getD j default).2=0:=hc0
       have hv:1≤((l.getD k default).res.getD j default).2∧((l.getD k default).res.getD j default).2≤8:=by
        rcases hpj with h|h
        ·exact absurd h.1 hc
        ·omega
       have p4:ctIt.pre ((l.getD k default).res.getD j default).2:=⟨by omega,by omega⟩
       have e1:(dg1 ((l.getD k default).res.getD j default).2).size=1:=rfl
       have e2:(Src.str (zbq ⟨#[36]⟩ (dg1 ((l.getD k default).res.getD j default).2))).len≤10:=by show (zbq _ _).size≤10;rw[zba,e1];decide
       repeat' (first|refine gl ?_|(first|refine br ?_ ?_|refine brF ?_ ?_)<;>intro q_<;>try simp only[nz] at q_)
       exact ⟨j+1,(by show j+1≤_;omega),(by show _ - (j+1)<_ - j;omega),zaf [0,1,4] tmS ⟨⟨rfl,zaa _,rfl⟩,⟨rfl,zaa _,rfl⟩,⟨rfl,by first|(show pB B4 (l.getD k default).res (j+1)=_;rw[pB,if_neg hc];rfl)|(show _=pB B4 (l.getD k default).res (j+1);rw[pB,if_neg hc];rfl)⟩,trivial⟩ (by decide)⟩
     have hje:j=(l.getD k default).res.length:=by omega
     subst hje
     repeat' (first|refine gl ?_|(first|refine br ?_ ?_|refine brF ?_ ?_)<;>intro q_<;>try simp only[nz] at q_)
     exact ⟨(k+1,1),⟨by omega,by omega⟩,(by show l.length - (k+1)<l.length - k;omega),zaf [0,3] tmS ⟨⟨rfl,zaa _,rfl⟩,⟨rfl,by first|exact hfin|exact hfin.symm⟩,trivial⟩ (by decide)⟩
   ·repeat' (first|refine gl ?_|(first|refine br ?_ ?_|refine brF ?_ ?_)<;>intro q_<;>try simp only[nz] at q_)
    refine ⟨0,Nat,wS [.gone,.cells 79 [tlD (l.getD k default) 0,tlD (l.getD k default) 1,tlD (l.getD k default) 2,tlD (l.getD k default) 3]] 3 ⟨#[32,123,32]⟩ (rlsB l k) (l.getD k default).bef,fun j=>j≤(l.getD k default).bef.length,fun j=>(l.getD k default).bef.length - j,fun _=>(by show 3≤4;decide),⟨0,Nat.zero_le _,StLe.trans (StLe.moveB (m:=3) (i:=0) (j:=1) (r:=1) rfl rfl rfl) (zaq (m:=3) [0,1,2,3] tmS ⟨⟨rfl,zaa _,rfl⟩,trivial,⟨rfl,zaa _,rfl⟩,⟨rfl,rfl⟩,trivial⟩ (by decide) (by decide) (by simp))⟩,?_⟩
    intro j0 (hj0:j0≤(l.getD k default).bef.length)
    have hw0:=zhc (b:=(rlsB l k)) q1 hj0
    by_cases hl0:j0<(l.getD k default).bef.length
    ·have p1:ctSetTxB.pre ((l.getD k default).bef.getD j0 default):=q1.2 j0 hl0
     have hx:=zb7 (q1.2 j0 hl0)
     have hx':(Src.str (zca ((l.getD k default).bef.getD j0 default))).len≤10500002:=hx
     unfold wS
     repeat' (first|refine gl ?_|(first|refine br ?_ ?_|refine brF ?_ ?_)<;>intro q_<;>try simp only[nz] at q_)
     exact ⟨j0+1,(by show j0+1≤_;omega),(by show _ - (j0+1)<_ - j0;omega),zaq (m:=3) [0,1,2,5] tmS ⟨⟨rfl,zaa _,rfl⟩,trivial,⟨rfl,zaa _,rfl⟩,⟨rfl,rfl⟩,trivial⟩ (by decide) (by decide) (by simp)⟩
    have hje0:j0=(l.getD k default).bef.length:=by omega
    subst hje0
    unfold wS
    repeat' (first|refine gl ?_|(first|refine br ?_ ?_|refine brF ?_ ?_)<;>intro q_<;>try simp only[nz] at q_)
    have hB2:(zbq (wB (rlsB l k) (l.getD k default).bef (l.getD k default).bef.length) ⟨#[32,123,32]⟩).size≤50484060019:=by simp only[zba];show _+3≤_;omega
    clear hw0
    generalize zbq (wB (rlsB l k) (l.getD k default).bef (l.getD k default).bef.length) ⟨#[32,123,32]⟩=B2 at hB2 hfin ⊢
    refine ⟨0,Nat,wS [.gone,.cells 79 [tlD (l.getD k default) 0,tlD (l.getD k default) 1,tlD (l.getD k default) 2,tlD (l.getD k default) 3],.gone,.gone] 5 ⟨#[32,125,32]⟩ B2 (l.getD k default).mat,fun j=>j≤(l.getD k default).mat.length,fun j=>(l.getD k default).mat.length - j,fun _=>(by show 5≤6;decide),⟨0,Nat.zero_le _,StLe.trans (StLe.moveB (m:=5) (i:=0) (j:=1) (r:=4) rfl rfl rfl) (zaq (m:=5) [0,1,2,3,4,5] tmS ⟨⟨rfl,zaa _,rfl⟩,trivial,⟨rfl,zaa _,rfl⟩,trivial,trivial,⟨rfl,rfl⟩,trivial⟩ (by decide) (by decide) (by simp))⟩,?_⟩
    intro j1 (hj1:j1≤(l.getD k default).mat.length)
    have hw1:=zhc (b:=B2) q2 hj1
    by_cases hl1:j1<(l.getD k default).mat.length
    ·have p1:ctSetTxB.pre ((l.getD k default).mat.getD j1 default):=q2.2 j1 hl1
     have hx:=zb7 (q2.2 j1 hl1)
     have hx':(Src.str (zca ((l.getD k default).mat.getD j1 default))).len≤10500002:=hx
     unfold wS
     repeat' (first|refine gl ?_|(first|refine br ?_ ?_|refine brF ?_ ?_)<;>intro q_<;>try simp only[nz] at q_)
     exact ⟨j1+1,(by show j1+1≤_;omega),(by show _ - (j1+1)<_ - j1;omega),zaq (m:=5) [0,1,2,3,4,7] tmS ⟨⟨rfl,zaa _,rfl⟩,trivial,⟨rfl,zaa _,rfl⟩,trivial,trivial,⟨rfl,rfl⟩,trivial⟩ (by decide) (by decide) (by simp)⟩
    have hje1:j1=(l.getD k default).mat.length:=by omega
    subst hje1
    unfold wS
    repeat' (first|refine gl ?_|(first|refine br ?_ ?_|refine brF ?_ ?_)<;>intro q_<;>try simp only[nz] at q_)
    have hB3:(zbq (wB B2 (l.getD k default).mat (l.getD k default).mat.length) ⟨#[32,125,32]⟩).size≤50568060038:=by simp only[zba];show _+3≤_;omega
    clear hw1 hB2
    generalize zbq (wB B2 (l.getD k default).mat (l.getD k default).mat.length) ⟨#[32,125,32]⟩=B3 at hB3 hfin ⊢
    refine ⟨0,Nat,wS [.gone,.cells 79 [tlD (l.getD k default) 0,tlD (l.getD k default) 1,tlD (l.getD k default) 2,tlD (l.getD k default) 3],.gone,.gone,.gone,.gone] 7 ⟨#[32,62,32]⟩ B3 (l.getD k default).aft,fun j=>j≤(l.getD k default).aft.length,fun j=>(l.getD k default).aft.length - j,fun _=>(by show 7≤8;decide),⟨0,Nat.zero_le _,StLe.trans (StLe.moveB (m:=7) (i:=0) (j:=1) (r:=6) rfl rfl rfl) (zaq (m:=7) [0,1,2,3,4,5,6,7] tmS ⟨⟨rfl,zaa _,rfl⟩,trivial,⟨rfl,zaa _,rfl⟩,trivial,trivial,trivial,trivial,⟨rfl,rfl⟩,trivial⟩ (by decide) (by decide) (by simp))⟩,?_⟩
    intro j2 (hj2:j2≤(l.getD k default).aft.length)
    have hw2:=zhc (b:=B3) q3 hj2
    by_cases hl2:j2<(l.getD k default).aft.length
    ·have p1:ctSetTxB.pre ((l.getD k default).aft.getD j2 default):=q3.2 j2 hl2
     have hx:=zb7 (q3.2 j2 hl2)
     have hx':(Src.str (zca ((l.getD k default).aft.getD j2 default))).len≤10500002:=hx
     unfold wS
     repeat' (first|refine gl ?_|(first|refine br ?_ ?_|refine brF ?_ ?_)<;>intro q_<;>try simp only[nz] at q_)
     exact ⟨j2+1,(by show j2+1≤_;omega),(by show _ - (j2+1)<_ - j2;omega),zaq (m:=7) [0,1,2,3,4,5,6,9] tmS ⟨⟨rfl,zaa _,rfl⟩,trivial,⟨rfl,zaa _,rfl⟩,trivial,trivial,trivial,trivial,⟨rfl,rfl⟩,trivial⟩ (by decide) (by decide) (by simp)⟩
    have hje2:j2=(l.getD k default).aft.length:=by omega
    subst hje2
    unfold wS
    repeat' (first|refine gl ?_|(first|refine br ?_ ?_|refine brF ?_ ?_)<;>intro q_<;>try simp only[nz] at q_)
    have hB4:(zbq (wB B3 (l.getD k default).aft (l.getD k default).aft.length) ⟨#[32,62,32]⟩).size≤50652060057:=by simp only[zba];show _+3≤_;omega
    clear hw2 hB3
    generalize zbq (wB B3 (l.getD k default).aft (l.getD k default).aft.length) ⟨#[32,62,32]⟩=B4 at hB4 hfin ⊢
    refine ⟨0,Nat,fun j=>⟨[(5,.own 0 0),(6,.fn 76 [.own 0 0]),(17,tlsD l),(18,.v (.int .i64 l.length)),(19,.v (.int .i64 k)),(36,zdu (l.getD k default).res),(37,.v (.int .i64 (l.getD k default).res.length)),(38,.v (.int .i64 j))],[.cells 88 [.own 0 0,.row 2],.cells 79 [tlD (l.getD k default) 0,tlD (l.getD k default) 1,tlD (l.getD k default) 2,tlD (l.getD k default) 3],.bytes 5 (pB B4 (l.getD k default).res j)],[]⟩,fun j=>j≤(l.getD k default).res.length,fun j=>(l.getD k default).res.length - j,fun _=>Nat.zero_le _,⟨0,Nat.zero_le _,zaf [0,2,8] tmS ⟨⟨rfl,zaa _,rfl⟩,⟨rfl,zaa _,rfl⟩,⟨rfl,rfl⟩,trivial⟩ (by decide)⟩,?_⟩
    intro j (hj:j≤(l.getD k default).res.length)
    have hsj:=pB_size B4 q4 hj
    by_cases hjl:j<(l.getD k default).res.length
    ·have hpj:=hp j hjl
     have hm8:=hz.2.1
     unfold pcOk at hpj
     by_cases hc0:((l.getD k default).res.getD ((j:Int)).toNat default).2=0
     ·have hc:((l.getD k default).res.getD j default).2=0:=hc0
      have hv:zbb ((l.getD k default).res.getD j default).1=true:=by
       rcases hpj with h|h
       ·exact h.2
       ·omega
      have p4:ctDig.pre ((l.getD k default).res.getD j default).1:=hv
      have e1:=shS_size ((l.getD k default).res.getD j default).1
      have e2:(Src.str (zbq (zbq ⟨#[92,117,123]⟩ (shS ((l.getD k default).res.getD j default).1)) ⟨#[125]⟩)).len≤10:=by show (zbq _ _).size≤10;rw[zba,zba];show 3+_+1≤10;omega
      repeat' (first|refine gl ?_|(first|refine br ?_ ?_|refine brF ?_ ?_)<;>intro q_<;>try simp only[nz] at q_)
      exact ⟨j+1,(by show j+1≤_;omega),(by show _ - (j+1)<_ - j;omega),zaf [0,1,4] tmS ⟨⟨rfl,zaa _,rfl⟩,⟨rfl,zaa _,rfl⟩,⟨rfl,by first|(show pB B4 (l.getD k default).res (j+1)=_;rw[pB,if_pos hc];rfl)|(show _=pB B4 (l.getD k default).res (j+1);rw[pB,if_pos hc];rfl)⟩,trivial⟩ (by decide)⟩
     ·have hc:¬((l.getD k default).res.getD j default).2=0:=hc0
      have hv:1≤((l.getD k default).res.getD j default).2∧((l.getD k default).res.getD j default).2≤8:=by
       rcases hpj with h|h
       ·exact absurd h.1 hc
       ·omega
      have p4:ctIt.pre ((l.getD k default).res.getD j default).2:=⟨by omega,by omega⟩
      have e1:(dg1 ((l.getD k default).res.getD j default).2).size=1:=rfl
      have e2:(Src.str (zbq ⟨#[36]⟩ (dg1 ((l.getD k default).res.getD j default).2))).len≤10:=by show (zbq _ _).size≤10;rw[zba,e1];decide
      repeat' (first|refine gl ?_|(first|refine br ?_ ?_|refine brF ?_ ?_)<;>intro q_<;>try simp only[nz] at q_)
      exact ⟨j+1,(by show j+1≤_;omega),(by show _ - (j+1)<_ - j;omega),zaf [0,1,4] tmS ⟨⟨rfl,zaa _,rfl⟩,⟨rfl,zaa _,rfl⟩,⟨rfl,by first|(show pB B4 (l.getD k default).res (j+1)=_;rw[pB,if_neg hc];rfl)|(show _=pB B4 (l.getD k default).res (j+1);rw[pB,if_neg hc];rfl)⟩,trivial⟩ (by decide)⟩
    have hje:j=(l.getD k default).res.length:=by omega
    subst hje
    repeat' (first|refine gl ?_|(first|refine br ?_ ?_|refine brF ?_ ?_)<;>intro q_<;>try simp only[nz] at q_)
    exact ⟨(k+1,1),⟨by omega,by omega⟩,(by show l.length - (k+1)<l.length - k;omega),zaf [0,3] tmS ⟨⟨rfl,zaa _,rfl⟩,⟨rfl,by first|exact hfin|exact hfin.symm⟩,trivial⟩ (by decide)⟩
  ·have hke:k=l.length:=by omega
   rcases z with _|z
   ·have h0:=hz0 rfl
    repeat' (first|refine gl ?_|(first|refine br ?_ ?_|refine brF ?_ ?_)<;>intro q_<;>try simp only[nz] at q_)
    refine EntR.of rfl (Ent.tu2 (Ent.v (congrArg Value.string ?_)) (zab _))
    rw[← hke,h0]
    rfl
   ·repeat' (first|refine gl ?_|(first|refine br ?_ ?_|refine brF ?_ ?_)<;>intro q_<;>try simp only[nz] at q_)
    refine EntR.of rfl (Ent.tu2 (Ent.v (congrArg Value.string ?_)) (zab _))
    rw[hke]
 ·have hout:ctTxtB.out l=.tu [.v (.string (bl [])),.v (.int .i64 (ziu l))]:=by
   show D.tu [.v (.string (txtB l)),.v (.int .i64 (ziu l))]=_
   rw[txtB,if_neg he]
  rw[hout]
  repeat' (first|refine gl ?_|(first|refine br ?_ ?_|refine brF ?_ ?_)<;>intro q_<;>try simp only[nz] at q_)
  exact EntR.of rfl (zab _)
end Go.Proofs
