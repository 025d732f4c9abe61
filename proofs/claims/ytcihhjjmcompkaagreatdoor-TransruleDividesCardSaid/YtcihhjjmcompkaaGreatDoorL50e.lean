import Derived.Test.YtcihhjjmcompkaaGreatDoorL50d
import Derived.Test.YtcihhjjmcompkaaGreatDoorDv7
import Derived.Test.YtcihhjjmcompkaaGreatDoorUz
set_option linter.unusedVariables false
set_option linter.unusedSimpArgs false
namespace Go.Proofs
open Go Go.Sx
variable {mx:Int}{pb:Bool}
def ctLaw50D:Ct:={ ι:=List Tl × Int,inp:=fun x=>[tlsD x.1,.v (.int .i64 x.2)],out:=fun _=>.v (.bool true),pre:=fun _=>True }
noncomputable def Γl50e (mx:Int):Ctx:=fun f=>match f with
 | 37=>some (.pure ctSmL)
 | 41=>some (.pure ctCls)
 | 44=>some (.pure ctVsB)
 | 45=>some (.pure ctCnR)
 | 46=>some (.pure ctHas)
 | 33=>some (.pure ctAlive)
 | _=>none
theorem Γl50e_ok {mx:Int}:CtxOk Tryz.prog (GlT mx true) (Γl50e mx):=by
 intro f h hh
 simp only[Γl50e] at hh
 split at hh<;>simp at hh<;>subst hh
 ·exact rSmL_ok
 ·exact pCls_ok
 ·exact pVsB_ok
 ·exact cpCount_ok
 ·exact cpHas_ok
 ·exact alive50_ok mx
set_option maxHeartbeats 8000000 in
theorem lawTD_ok {mx:Int}:Sound Tryz.prog (GlT mx true) 14 ctLaw50D:=by
 refine sound_by (cc:=true) Γl50e_ok Tryz.T_ok Tryz.mixed Tryz.func14 rfl (by kernel_rfl) (fun _=>rfl) (fun _ _=>by show 2≤92;decide) ?_
 rintro ⟨(l:List Tl),(c:Int)⟩ -
 have a0:ctAlive.pre ():=trivial
 by_cases hl:smL l
 case neg =>
  have hsl:smLB l=false:=(smLB_f hl).symm
  repeat' (first|refine gl ?_|(first|refine br ?_ ?_|refine brF ?_ ?_)<;>intro q_<;>try simp only[nz] at q_)
  exact EntR.of rfl (Ent.refl _)
 have hsl:smLB l=true:=smLB_iff.2 hl
 have p2:ctCls.pre l:=hl
 obtain ⟨hP1,hP2⟩:=clsP_len hl
 have hC:=clsP_ok (S:=setsOf l) fun X hX=>(sets_ok rfl hl X hX).1
 obtain ⟨P,hPd⟩:∃ P,P=clsP (setsOf l):=⟨_,rfl⟩
 have hout:ctCls.out l=stsD P:=by rw[hPd];rfl
 have hlen:(clsP (setsOf l)).length=P.length:=by rw[hPd]
 rw[← hPd] at hP1 hP2 hC
 have hTot:=tot_all hC
 repeat' (first|refine gl ?_|(first|refine br ?_ ?_|refine brF ?_ ?_)<;>intro q_<;>try simp only[nz] at q_)
 rw[hout]
 refine ⟨0,Nat,fun k=>⟨[(1,.v (.int .i64 c)),(5,stsD P),(6,.v (.int .i64 (hitK P c k))),(7,.v (.int .i64 (totK P k))),(8,.v (.int .i64 (lasK P k))),(9,.v (.int .i64 k))],[],[]⟩,fun k=>k≤P.length,fun k=>P.length - k,fun _=>Nat.zero_le _,⟨0,Nat.zero_le _,StLe.ren [] tmS trivial (by decide)⟩,?_⟩
 intro k (hk:k≤P.length)
 obtain ⟨b1,b2⟩:=totK_bd hC.ok hP2 k hk
 obtain ⟨b3,b4⟩:=hitK_bd P c k
 by_cases hlt:k<P.length
 ·have hok:=hC.ok _ (getD_mem' hlt)
  have hXl:=hP2 k hlt
  have hX0:¬((P.getD k default).length:Int)=0:=by have:=hok.2;omega
  have hla:=las_lt hC hlt
  have hla2:¬((P.getD k default).getD 0 default).1≤lasK P k:=by
   have:hdR (P.getD k default)=((P.getD k default).getD 0 default).1:=rfl
   omega
  have q1:ctVsB.pre (P.getD k default):=(by show _≤500000;omega)
  have q2:ctCnR.pre (P.getD k default):=hok.1 ▸ canon_mk (by omega)
  have q3:ctHas.pre (P.getD k default,c):=(by show (P.getD k default).length≤1000000;omega)
  have o1:ctVsB.out (P.getD k default)=.v (.bool true):=congrArg (fun b=>D.v (.bool b)) (decide_eq_true hok.1)
  have o2:ctCnR.out (P.getD k default)=.v (.int .i64 (cnR (P.getD k default) (P.getD k default).length)):=by
   show D.v (.int .i64 (cnR (canon _) (canon _).length))=_
   rw[hok.1]
  obtain ⟨g1,g2⟩:=cnR_bd (okS_canon hok) _ (Nat.le_refl _)
  have hf:fitsI64 (totK P k+cnR (canon (P.getD k default)) (canon (P.getD k default)).length):=by
   rw[hok.1]
   unfold fitsI64
   omega
  have hT:totK P (k+1)=totK P k+cnR (canon (P.getD k default)) (canon (P.getD k default)).length:=by rw[hok.1];rfl
  repeat' (first|refine gl ?_|(first|refine br ?_ ?_|refine brF ?_ ?_)<;>intro q_<;>try simp only[nz] at q_)
  ·refine ⟨hf,?_⟩
   repeat' (first|refine gl ?_|(first|refine br ?_ ?_|refine brF ?_ ?_)<;>intro q_<;>try simp only[nz] at q_)
   ·exact ⟨k+1,hlt,(by show P.length - (k+1)<P.length - k;omega),StLe.ren [] ⟨Ent.refl _,rfl,Ent.refl _,rfl,Ent.int (hitK_y q_).symm,rfl,Ent.int hT.symm,rfl,Ent.refl _,rfl,Ent.refl _,rfl,trivial⟩ trivial (by decide)⟩
   ·exact ⟨k+1,hlt,(by show P.length - (k+1)<P.length - k;omega),StLe.ren [] ⟨Ent.refl _,rfl,Ent.refl _,rfl,Ent.int (hitK_n (by rw[q_];simp)).symm,rfl,Ent.int hT.symm,rfl,Ent.refl _,rfl,Ent.refl _,rfl,trivial⟩ trivial (by decide)⟩
  ·exact absurd hok.1 q_
 ·have e:k=P.length:=by omega
  subst e
  have hH:hitK P c P.length=if 0≤c∧c≤1114111 then 1 else 0:=by
   by_cases hc:0≤c∧c≤1114111
   ·obtain ⟨j,hj,hh⟩:=hit_one hC hc
    rw[hh _ (Nat.le_refl _),if_pos hj,if_pos hc]
   ·rw[hit_out hc,if_neg hc]
  have hH1:hitK P c P.length≤1:=by rw[hH];split<;>omega
  repeat' (first|refine gl ?_|(first|refine br ?_ ?_|refine brF ?_ ?_)<;>intro q_<;>try simp only[nz] at q_)
  all_goals first
   | exact EntR.of rfl (Ent.refl _)
   | exact absurd hH1 q_
   | (exfalso
      rw[hH] at q_
      by_cases hc:0≤c∧c≤1114111
      ·rw[if_pos hc] at q_
       simp[hc.1,hc.2] at q_
       try omega
      ·rw[if_neg hc] at q_
       simp at q_
       try omega)
end Go.Proofs
