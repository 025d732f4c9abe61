import Derived.Test.YtcihhjjmcompkaaGreatDoorDh0
import Derived.Test.YtcihhjjmcompkaaGreatDoorDv1
import Derived.Test.YtcihhjjmcompkaaGreatDoorDvb
import Derived.Test.YtcihhjjmcompkaaGreatDoorTr1
import Derived.Test.YtcihhjjmcompkaaGreatDoorRz
set_option linter.unusedVariables false
set_option linter.unusedSimpArgs false
namespace Go.Proofs
open Go Go.Sx
variable {mx:Int}{pb:Bool}
theorem samB_iff {L:List (List Rg)}{a b:Int}(ha:0≤a∧a≤1114111) (hb:0≤b∧b≤1114111):samB L a b=true↔∀ X∈L,(inR X a↔inR X b):=by
 unfold samB
 rw[decide_eq_true_iff]
 constructor
 ·intro h X hX
  obtain ⟨n,hn,rfl⟩:=List.getElem_of_mem hX
  have:=h n hn
  rw[show L.getD n default=L[n] by simp[List.getD_eq_getElem?_getD,hn],Bool.eq_iff_iff,hasB_iff,hasB_iff] at this
  exact ⟨fun hh=>(this.1 ⟨ha,hh⟩).2,fun hh=>(this.2 ⟨hb,hh⟩).2⟩
 ·intro h i hi
  have:=h _ (getD_mem' hi)
  rw[Bool.eq_iff_iff,hasB_iff,hasB_iff]
  exact ⟨fun hh=>⟨hb,this.1 hh.2⟩,fun hh=>⟨ha,this.2 hh.2⟩⟩
def tlB (x:Tl) (a b:Int):Bool:=samB x.bef a b&&(samB x.mat a b&&samB x.aft a b)
def aliK (l:List Tl) (a b:Int) (k:Nat):Bool:=(l.take k).all fun x=>tlB x a b
theorem aliK_succ {l:List Tl}{a b:Int}{k:Nat}(h:k<l.length):aliK l a b (k+1)=(aliK l a b k&&tlB (l.getD k default) a b):=by
 unfold aliK
 rw[take_at h,List.all_append,List.all_cons,List.all_nil,Bool.and_true]
theorem ali_iff {l:List Tl}{a b:Int}(ha:0≤a∧a≤1114111) (hb:0≤b∧b≤1114111):aliK l a b l.length=true↔∀ Z∈allS l,(inR Z a↔inR Z b):=by
 unfold aliK
 rw[List.take_length,List.all_eq_true]
 unfold allS
 simp only[List.mem_flatMap]
 have key:∀ x:Tl,tlB x a b=true↔∀ Z∈setsT x,(inR Z a↔inR Z b):=fun x=>by
  unfold tlB setsT
  rw[Bool.and_eq_true,Bool.and_eq_true,samB_iff ha hb,samB_iff ha hb,samB_iff ha hb]
  simp only[List.mem_append]
  constructor
  ·rintro ⟨h1,h2,h3⟩ Z (h|h|h)
   ·exact h1 Z h
   ·exact h2 Z h
   ·exact h3 Z h
  ·intro h
   exact ⟨fun Z hZ=>h Z (.inl hZ),fun Z hZ=>h Z (.inr (.inl hZ)),fun Z hZ=>h Z (.inr (.inr hZ))⟩
 constructor
 ·rintro h Z ⟨x,hx,hZ⟩
  exact (key x).1 (h x hx) Z hZ
 ·intro h x hx
  exact (key x).2 fun Z hZ=>h Z ⟨x,hx,hZ⟩
theorem clsP_sam {l:List Tl}(hl:smL l) {a b:Int}(ha:0≤a∧a≤1114111) (hb:0≤b∧b≤1114111):samB (clsP (setsOf l)) a b=true↔∀ Z∈setsOf l,(inR Z a↔inR Z b):=by
 have h:=clsP_ok (S:=setsOf l) fun X hX=>(sets_ok rfl hl X hX).1
 rw[samB_iff ha hb,h.alike ha hb]
theorem colL_len (bs cl:List Int):(colL bs cl).length≤bs.length∧∀ i,i<(colL bs cl).length→((colL bs cl).getD i default).length≤bs.length:=by
 have h1:=colK_len cl bs.length
 unfold colL
 rw[List.length_map]
 refine ⟨h1,fun i hi=>?_⟩
 have e:((colK cl bs.length).map fun c=>canon (ivs bs cl c bs.length)).getD i default=canon (ivs bs cl ((colK cl bs.length).getD i default) bs.length):=by
  simp[List.getD_eq_getElem?_getD,hi]
 rw[e]
 exact Nat.le_trans (canon_len _) (ivs_len bs cl _ _)
theorem begF_len {S:List (List Rg)}(hS:∀ X∈S,X.length≤12) (hl:S.length≤180):(begF S).length≤5000:=by
 have h1:(cutB S).length≤(begA S S.length).length:=by
  have:=compact_le (sortL (begA S S.length))
  rw[show (sortL (begA S S.length)).length=(begA S S.length).length from List.length_mergeSort _] at this
  exact this
 have h2:=(begA_len S 12 hS S.length (Nat.le_refl _)).2
 unfold begF
 split
 ·rw[List.length_take];omega
 ·omega
theorem clsP_len {l:List Tl}(hl:smL l):(clsP (setsOf l)).length≤5000∧∀ i,i<(clsP (setsOf l)).length→((clsP (setsOf l)).getD i default).length≤5000:=by
 have h1:=begF_len (S:=setsOf l) (fun X hX=>(sets_ok rfl hl X hX).2) (sets_len rfl hl)
 have h2:=colL_len (begF (setsOf l)) (clsF (setsOf l))
 exact ⟨Nat.le_trans h2.1 h1,fun i hi=>Nat.le_trans (h2.2 i hi) h1⟩
def ctLaw50A:Ct:={ ι:=List Tl × Int × Int,inp:=fun x=>[tlsD x.1,.v (.int .i64 x.2.1),.v (.int .i64 x.2.2)],out:=fun _=>.v (.bool true),pre:=fun _=>True }
noncomputable def Γl50d (mx:Int):Ctx:=fun f=>match f with
 | 37=>some (.pure ctSmL)
 | 39=>some (.pure ctChkB)
 | 41=>some (.pure ctCls)
 | 43=>some (.pure ctSam)
 | 33=>some (.pure ctAlive)
 | _=>none
theorem Γl50d_ok {mx:Int}:CtxOk Tryz.prog (GlT mx true) (Γl50d mx):=by
 intro f h hh
 simp only[Γl50d] at hh
 split at hh<;>simp at hh<;>subst hh
 ·exact rSmL_ok
 ·exact pChkB_ok
 ·exact pCls_ok
 ·exact sam_ok
 ·exact alive50_ok mx
set_option maxHeartbeats 8000000 in
theorem lawTA_ok {mx:Int}:Sound Tryz.prog (GlT mx true) 13 ctLaw50A:=by
 refine sound_by (cc:=true) Γl50d_ok Tryz.T_ok Tryz.mixed Tryz.func13 rfl (by kernel_rfl) (fun _=>rfl) (fun _ _=>by show 3≤83;decide) ?_
 rintro ⟨(l:List Tl),(a:Int),(b:Int)⟩ -
 have a0:ctAlive.pre ():=trivial
 by_cases hl:smL l
 case neg =>
  have hsl:smLB l=false:=(smLB_f hl).symm
  repeat' (first|refine gl ?_|(first|refine br ?_ ?_|refine brF ?_ ?_)<;>intro q_<;>try simp only[nz] at q_)
  exact EntR.of rfl (Ent.refl _)
 have hsl:smLB l=true:=smLB_iff.2 hl
 by_cases g1:a<0
 ·repeat' (first|refine gl ?_|(first|refine br ?_ ?_|refine brF ?_ ?_)<;>intro q_<;>try simp only[nz] at q_)
  exact EntR.of rfl (Ent.refl _)
 by_cases g2:a>1114111
 ·repeat' (first|refine gl ?_|(first|refine br ?_ ?_|refine brF ?_ ?_)<;>intro q_<;>try simp only[nz] at q_)
  exact EntR.of rfl (Ent.refl _)
 by_cases g3:b<0
 ·repeat' (first|refine gl ?_|(first|refine br ?_ ?_|refine brF ?_ ?_)<;>intro q_<;>try simp only[nz] at q_)
  exact EntR.of rfl (Ent.refl _)
 by_cases g4:b>1114111
 ·repeat' (first|refine gl ?_|(first|refine br ?_ ?_|refine brF ?_ ?_)<;>intro q_<;>try simp only[nz] at q_)
  exact EntR.of rfl (Ent.refl _)
 have ha:0≤a∧a≤1114111:=⟨by omega,by omega⟩
 have hb:0≤b∧b≤1114111:=⟨by omega,by omega⟩
 have p1:ctChkB.pre l:=sm_bgL hl
 have p2:ctCls.pre l:=hl
 have hP:=clsP_len hl
 have p3:ctSam.pre (clsP (setsOf l),a,b):=⟨Nat.le_trans hP.1 (by decide),fun i hi=>Nat.le_trans (hP.2 i hi) (by decide)⟩
 have hsam:=clsP_sam hl ha hb
 have h6:=hl.1
 by_cases hc:chkB l=0
 ·have eS:setsOf l=allS l:=if_pos hc
  repeat' (first|refine gl ?_|(first|refine br ?_ ?_|refine brF ?_ ?_)<;>intro q_<;>try simp only[nz] at q_)
  refine ⟨0,Nat,fun k=>⟨[(0,tlsD l),(1,.v (.int .i64 a)),(2,.v (.int .i64 b)),(7,.v (.bool (aliK l a b k))),(8,.v (.int .i64 k))],[],[]⟩,fun k=>k≤l.length,fun k=>l.length - k,fun _=>Nat.zero_le _,⟨0,Nat.zero_le _,StLe.ren [] tmS trivial (by decide)⟩,?_⟩
  intro k (hk:k≤l.length)
  by_cases hlt:k<l.length
  ·obtain ⟨s1,s2,s3,_⟩:=hl.2 k hlt
   have q1:ctSam.pre ((l.getD k default).bef,a,b):=⟨Nat.le_trans s1.1 (by decide),fun i hi=>Nat.le_trans (s1.2 i hi) (by decide)⟩
   have q2:ctSam.pre ((l.getD k default).mat,a,b):=⟨Nat.le_trans s2.1 (by decide),fun i hi=>Nat.le_trans (s2.2 i hi) (by decide)⟩
   have q3:ctSam.pre ((l.getD k default).aft,a,b):=⟨Nat.le_trans s3.1 (by decide),fun i hi=>Nat.le_trans (s3.2 i hi) (by decide)⟩
   have oS:∀ L v,samB L a b=v→ctSam.out (L,a,b)=.v (.bool v):=fun L v h=>by rw[← h];rfl
   cases hA:aliK l a b k
   ·repeat' (first|refine gl ?_|(first|refine br ?_ ?_|refine brF ?_ ?_)<;>intro q_<;>try simp only[nz] at q_)
    exact ⟨k+1,hlt,(by show l.length - (k+1)<l.length - k;omega),StLe.ren [] ⟨Ent.refl _,rfl,Ent.refl _,rfl,Ent.refl _,rfl,Ent.of_eq (by rw[aliK_succ hlt,hA,Bool.false_and]<;>rfl),rfl,Ent.refl _,rfl,trivial⟩ trivial (by decide)⟩
   ·cases h1:samB (l.getD k default).bef a b
    ·repeat' (first|refine gl ?_|(first|refine br ?_ ?_|refine brF ?_ ?_)<;>intro q_<;>try simp only[nz] at q_)
     refine ⟨((l.getD k default).bef,a,b),EntL.refl _,q1,?_⟩
     rw[oS _ _ h1]
     repeat' (first|refine gl ?_|(first|refine br ?_ ?_|refine brF ?_ ?_)<;>intro q_<;>try simp only[nz] at q_)
     exact ⟨k+1,hlt,(by show l.length - (k+1)<l.length - k;omega),StLe.ren [] ⟨Ent.refl _,rfl,Ent.refl _,rfl,Ent.refl _,rfl,Ent.of_eq (by rw[aliK_succ hlt,hA,tlB,h1,Bool.false_and,Bool.and_false]<;>rfl),rfl,Ent.refl _,rfl,trivial⟩ trivial (by decide)⟩
    ·cases h2:samB (l.getD k default).mat a b
     ·repeat' (first|refine gl ?_|(first|refine br ?_ ?_|refine brF ?_ ?_)<;>intro q_<;>try simp only[nz] at q_)
      refine ⟨((l.getD k default).bef,a,b),EntL.refl _,q1,?_⟩
      rw[oS _ _ h1]
      repeat' (first|refine gl ?_|(first|refine br ?_ ?_|refine brF ?_ ?_)<;>intro q_<;>try simp only[nz] at q_)
      refine ⟨((l.getD k default).mat,a,b),EntL.refl _,q2,?_⟩
      rw[oS _ _ h2]
      repeat' (first|refine gl ?_|(first|refine br ?_ ?_|refine brF ?_ ?_)<;>intro q_<;>try simp only[nz] at q_)
      exact ⟨k+1,hlt,(by show l.length - (k+1)<l.length - k;omega),StLe.ren [] ⟨Ent.refl _,rfl,Ent.refl _,rfl,Ent.refl _,rfl,Ent.of_eq (by rw[aliK_succ hlt,hA,tlB,h1,h2,Bool.false_and,Bool.and_false,Bool.and_false]<;>rfl),rfl,Ent.refl _,rfl,trivial⟩ trivial (by decide)⟩
     ·repeat' (first|refine gl ?_|(first|refine br ?_ ?_|refine brF ?_ ?_)<;>intro q_<;>try simp only[nz] at q_)
      refine ⟨((l.getD k default).bef,a,b),EntL.refl _,q1,?_⟩
      rw[oS _ _ h1]
      repeat' (first|refine gl ?_|(first|refine br ?_ ?_|refine brF ?_ ?_)<;>intro q_<;>try simp only[nz] at q_)
      refine ⟨((l.getD k default).mat,a,b),EntL.refl _,q2,?_⟩
      rw[oS _ _ h2]
      repeat' (first|refine gl ?_|(first|refine br ?_ ?_|refine brF ?_ ?_)<;>intro q_<;>try simp only[nz] at q_)
      exact ⟨k+1,hlt,(by show l.length - (k+1)<l.length - k;omega),StLe.ren [] ⟨Ent.refl _,rfl,Ent.refl _,rfl,Ent.refl _,rfl,Ent.of_eq (by rw[aliK_succ hlt,hA,tlB,h1,h2,Bool.true_and,Bool.true_and,Bool.true_and]<;>rfl),rfl,Ent.refl _,rfl,trivial⟩ trivial (by decide)⟩
  ·have e:k=l.length:=by omega
   subst e
   have hQ:samB (clsP (setsOf l)) a b=aliK l a b l.length:=by
    rw[Bool.eq_iff_iff,hsam,ali_iff ha hb,eS]
   repeat' (first|refine gl ?_|(first|refine br ?_ ?_|refine brF ?_ ?_)<;>intro q_<;>try simp only[nz] at q_)
   ·exact EntR.of rfl (Ent.refl _)
   ·rw[hQ] at q_
    simp at q_
 ·have eS:setsOf l=[]:=if_neg hc
  have hQ:samB (clsP (setsOf l)) a b=true:=by
   rw[hsam,eS]
   intro Z hZ
   simp at hZ
  repeat' (first|refine gl ?_|(first|refine br ?_ ?_|refine brF ?_ ?_)<;>intro q_<;>try simp only[nz] at q_)
  refine ⟨2,?_⟩
  repeat' (first|refine gl ?_|(first|refine br ?_ ?_|refine brF ?_ ?_)<;>intro q_<;>try simp only[nz] at q_)
  all_goals first|exact EntR.of rfl (Ent.refl _)|(rw[hQ] at q_;simp at q_)
end Go.Proofs
