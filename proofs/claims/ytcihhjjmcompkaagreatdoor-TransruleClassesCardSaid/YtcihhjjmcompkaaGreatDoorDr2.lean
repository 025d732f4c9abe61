import Derived.Test.YtcihhjjmcompkaaGreatDoorDr1
import Derived.Test.YtcihhjjmcompkaaGreatDoorDvb
import Derived.Test.YtcihhjjmcompkaaGreatDoorTr1
import Derived.Test.YtcihhjjmcompkaaGreatDoorXs
set_option linter.unusedVariables false
set_option linter.unusedSimpArgs false
namespace Go.Proofs
open Go Go.Sx
variable {mx:Int}{pb:Bool}
attribute [local irreducible] exPs exCk exSch exAlt
noncomputable def Γrcl:Ctx:=fun f=>match f with
 | 73=>some (.pure ctChkE)
 | 86=>some (.pure ctSets)
 | 87=>some (.pure ctCuts)
 | 88=>some (.pure ctSam)
 | 24=>some (.pure ctOrR)
 | _=>none
theorem Γrcl_ok:CtxOk Tryz.prog (GlT mx pb) Γrcl:=by
 intro f h hh
 simp only[Γrcl] at hh
 split at hh<;>simp at hh<;>subst hh
 ·exact rChk_ok
 ·exact rAll_ok
 ·exact cuts_ok
 ·exact rAlk_ok
 ·exact rOrR_ok
theorem one_ent {r:Rg}{f:Nat→Nat→D}(h0:f 0 0=.v (.int .i64 r.1)) (h1:f 0 1=.v (.int .i64 r.2)):Ent (.ag [.sl 2 1 f]) (setD [r]):=by
 refine Ent.ag (EntL.cons (Ent.sl rfl fun a ha j hj=>Ent.of_eq ?_) (EntL.refl []))
 obtain rfl:a=0:=(by omega)
 match j,hj with
 | 0,_=>exact h0
 | 1,_=>exact h1
theorem own_updS {ρ:List Nat}{e i:Nat}{X:List Rg}{K:List (List Rg)}:OwnRen ρ (.row e 1 K.length (updF (fun a j=>stD (K.getD a default) j) i 0 [rgsD X])) (rowL e 1 stD (K.set i X)):=by
 refine ⟨rfl,rfl,List.length_set.symm,fun a ha j hj=>Ent.of_eq ?_⟩
 obtain rfl:j=0:=(by omega)
 show updF _ i 0 _ a 0=stD ((K.set i X).getD a default) 0
 unfold updF
 by_cases h:a=i
 ·subst h
  rw[setG_eq ha,if_pos rfl]
  rfl
 ·rw[setG_ne h,if_neg h]
theorem rc_app {n:Nat}{f g:Nat→Nat→D}{z:TI}(hz:z.size=1):rowCells (catF n f g) ((n:Int)).toNat 0 z.size=[g 0 0]:=by
 rw[hz,show ((n:Int)).toNat=n by omega]
 show [catF n f g n 0]=[g 0 0]
 unfold catF
 rw[if_neg (Nat.lt_irrefl _),Nat.sub_self]
theorem own_appS {ρ:List Nat}{e m:Nat}{X:List Rg}{K:List (List Rg)}{g:Nat→Nat→D}(hm:m=K.length+1):OwnRen ρ (.row e 1 m (updF (catF K.length (fun a j=>stD (K.getD a default) j) g) K.length 0 [rgsD X])) (rowL e 1 stD (K++[X])):=by
 subst hm
 refine ⟨rfl,rfl,by simp,fun a ha j hj=>Ent.of_eq ?_⟩
 obtain rfl:j=0:=(by omega)
 show updF _ _ 0 _ a 0=stD ((K++[X]).getD a default) 0
 unfold updF catF
 rw[getD_snoc]
 by_cases h:a=K.length
 ·subst h
  have e:(if K.length<K.length then K.getD K.length default else if K.length=K.length then X else default)=X:=by rw[if_neg (Nat.lt_irrefl _),if_pos rfl]
  rw[e,if_pos rfl]
  rfl
 ·rw[if_neg h,if_pos (by omega),if_pos (by omega)]
noncomputable def refP (l:List Tl):List (List Rg):=refK (setsOf l) (cutQ (setsOf l) (setsOf l).length) (cutQ (setsOf l) (setsOf l).length).length
noncomputable def ctRef:Ct:={ ι:=List Tl,inp:=fun l=>[tlsD l],out:=fun l=>stsD (refP l),pre:=smL }
set_option maxHeartbeats 16000000 in
theorem rCls_ok:Sound Tryz.prog (GlT mx pb) 42 ctRef:=by
 refine sound_by (cc:=true) Γrcl_ok Tryz.T_ok Tryz.mixed Tryz.func42 rfl (by kernel_rfl) (fun _=>rfl) (fun _ _=>by show 1≤92;decide) ?_
 intro (l:List Tl) (hl:smL l)
 have p1:ctChkE.pre l:=hl
 have h6:=hl.1
 have hcc:chkB l=chkE l:=if_neg (by omega)
 by_cases hc:chkE l=0
 ·obtain ⟨S,hSd⟩:∃ S,S=setsOf l:=⟨_,rfl⟩
  have ps:ctSets.pre l:=hl
  have eS:setsOf l=allS l:=if_pos (hcc.trans hc)
  have hSl:S.length≤180:=sets_len hSd hl
  repeat' (first|refine gw ?_|(first|refine br ?_ ?_|refine brF ?_ ?_)<;>intro q_<;>try simp only[nz] at q_)
  rw[show ctSets.out l=stsD S by rw[hSd,eS];rfl]
  simp only[setOwn,goneO,rowL,retD,nr,ns,Nat.reduceAdd,Nat.zero_add,reduceIte]
  repeat' (first|refine gw ?_|(first|refine br ?_ ?_|refine brF ?_ ?_)<;>intro q_<;>try simp only[nz] at q_)
  have hS:=sets_ok hSd hl
  refine ⟨0,Nat,fun k=>⟨[(3,stsD S),(4,intsD (cutQ S k)),(5,.v (.int .i64 k))],[],[]⟩,fun k=>k≤S.length,fun k=>S.length - k,fun _=>Nat.zero_le _,⟨0,Nat.zero_le _,StLe.trans (StLe.frzT (t:=4) rfl rfl) (StLe.ren [] ⟨Ent.refl _,rfl,Ent.sl rfl (fun a ha j hj=>Ent.of_eq (by
   obtain rfl:a=0:=(by omega)
   obtain rfl:j=0:=(by omega)
   rfl)),rfl,Ent.refl _,rfl,trivial⟩ trivial (by decide))⟩,?_⟩
  intro k (hk:k≤S.length)
  have hcl:=cutQ_len (fun X hX=>(hS X hX).2) k hk
  by_cases hlt:k<S.length
  ·obtain ⟨hX1,hX2⟩:=hS _ (getD_mem' hlt)
   have pq:ctCuts.pre (cutQ S k,S.getD k default):=⟨(by show (cutQ S k).length≤100000;omega),(by show (S.getD k default).length≤100000;omega)⟩
   repeat' (first|refine gw ?_|(first|refine br ?_ ?_|refine brF ?_ ?_)<;>intro q_<;>try simp only[nz] at q_)
   exact ⟨k+1,hlt,(by show S.length - (k+1)<S.length - k;omega),StLe.ren [] ⟨Ent.refl _,rfl,Ent.of_eq (by rw[cutQ_succ hlt];rfl),rfl,Ent.refl _,rfl,trivial⟩ trivial (by decide)⟩
  ·have e:k=S.length:=by omega
   subst e
   have hS1:∀ X∈S,okS X:=fun X hX=>(hS X hX).1
   have hCb:=cutQ_bd hS1
   have hCa:=cutQ_asc S.length (Nat.le_refl S.length)
   have psm:∀ a b,ctSam.pre (S,a,b):=fun a b=>⟨(by show S.length≤1000000;omega),fun i hi=>(by
    have:=(hS _ (getD_mem' hi)).2
    show (S.getD i default).length≤1000000
    omega)⟩
   repeat' (first|refine gw ?_|(first|refine br ?_ ?_|refine brF ?_ ?_)<;>intro q_<;>try simp only[nz] at q_)
   refine ⟨0,Nat,fun i=>⟨[(3,stsD S),(4,intsD (cutQ S S.length)),(6,.row 0),(7,.v (.int .i64 i))],[rowL 24 1 stD (refK S (cutQ S S.length) i)],[]⟩,fun i=>i≤(cutQ S S.length).length,fun i=>(cutQ S S.length).length - i,fun _=>Nat.zero_le _,⟨0,Nat.zero_le _,StLe.trans (StLe.nilRow (t:=6) 24 1 (fun _ _=>.junk) rfl) (StLe.ren [0] tmS ⟨own_nil,trivial⟩ (by decide))⟩,?_⟩
   intro i (hi:i≤(cutQ S S.length).length)
   obtain ⟨k1,k2⟩:=refK_len S (cutQ S S.length) i
   have hKo:=refK_ok (S:=S) hCa hCb i hi
   by_cases hil:i<(cutQ S S.length).length
   ·have hb1:=hCb _ (getD_mem' hil)
    have hiv:=ivI_ok hCa hCb hil
    by_cases h2:i+1<(cutQ S S.length).length
    ·have hb2:=hCb _ (getD_mem' h2)
     have he2:(cutQ S S.length).getD ((i:Int)+1).toNat default - 1=(ivI (cutQ S S.length) i).2:=by
      unfold ivI
      rw[show ((i:Int)+1).toNat=i+1 by omega]
      exact (if_pos h2).symm
     have hb3:0≤(cutQ S S.length).getD ((i:Int)+1).toNat default∧(cutQ S S.length).getD ((i:Int)+1).toNat default≤1114111:=by
      rw[show ((i:Int)+1).toNat=i+1 by omega]
      exact hb2
     repeat' (first|refine gw ?_|(first|refine br ?_ ?_|refine brF ?_ ?_)<;>intro q_<;>try simp only[nz] at q_)
     refine ⟨0,Nat,fun j=>⟨[(3,stsD S),(4,intsD (cutQ S S.length)),(6,.row 0),(7,.v (.int .i64 i)),(8,.own 1 0),(9,.v (.int .i64 j))],[rowL 24 1 stD (refK S (cutQ S S.length) i),.cells 82 [.v (.int .i64 ((cutQ S S.length).getD i default)),.v (.int .i64 (ivI (cutQ S S.length) i).2)]],[]⟩,fun j=>j≤(refK S (cutQ S S.length) i).length∧∀ j',j'<j→¬samB S (hdR ((refK S (cutQ S S.length) i).getD j' default)) ((cutQ S S.length).getD i default)=true,fun j=>(refK S (cutQ S S.length) i).length - j,fun _=>Nat.zero_le _,⟨0,⟨Nat.zero_le _,fun j hj=>by omega⟩,StLe.ren [0,1] tmS ⟨⟨rfl,rfl,rfl,fun a ha j hj=>Ent.refl _⟩,⟨rfl,EntL.cons (Ent.refl _) (EntL.cons (Ent.int he2) (EntL.refl [])),rfl⟩,trivial⟩ (by decide)⟩,?_⟩
     rintro j ⟨hj,hd⟩
     by_cases hjl:j<(refK S (cutQ S S.length) i).length
     ·have hok:=hKo _ (getD_mem' hjl)
      have hl0:0<((refK S (cutQ S S.length) i).getD j default).length:=by have:=hok.2;omega
      have q1:=psm (((refK S (cutQ S S.length) i).getD j default).getD 0 default).1 ((cutQ S S.length).getD i default)
      have qo:ctOrR.pre ((refK S (cutQ S S.length) i).getD j default,[ivI (cutQ S S.length) i]):=⟨(by have:=k2 j hjl;show ((refK S (cutQ S S.length) i).getD j default).length≤10000;omega),(by show 1≤10000;omega)⟩
      have oR:ctOrR.out ((refK S (cutQ S S.length) i).getD j default,[ivI (cutQ S S.length) i])=setD (canon ((refK S (cutQ S S.length) i).getD j default++[ivI (cutQ S S.length) i])):=congrArg setD (comb_one _ _)
      repeat' (first|refine gw ?_|(first|refine br ?_ ?_|refine brF ?_ ?_)<;>intro q_<;>try simp only[nz] at q_)
      ·exact ⟨j+1,⟨hjl,next_at hd (fun h=>Bool.noConfusion (h.symm.trans q_))⟩,(by show (refK S (cutQ S S.length) i).length - (j+1)<(refK S (cutQ S S.length) i).length - j;omega),StLe.ren [0,1] tmS ⟨⟨rfl,rfl,rfl,fun a ha j hj=>Ent.refl _⟩,⟨rfl,EntL.refl _,rfl⟩,trivial⟩ (by decide)⟩
      ·refine ⟨((refK S (cutQ S S.length) i).getD j default,[ivI (cutQ S S.length) i]),EntL.cons (Ent.refl _) (EntL.cons (one_ent rfl rfl) (EntL.refl [])),fun _=>qo,?_⟩
       rw[oR]
       have hf:=fnd_eq (S:=S) (x:=(cutQ S S.length).getD i default) hj hd (.inr q_)
       have hst:refK S (cutQ S S.length) (i+1)=(refK S (cutQ S S.length) i).set j (canon ((refK S (cutQ S S.length) i).getD j default++[ivI (cutQ S S.length) i])):=by
        show stpK S (cutQ S S.length) (refK S (cutQ S S.length) i) i=_
        unfold stpK
        rw[hf,if_neg (by omega)]
       repeat' (first|refine gw ?_|(first|refine br ?_ ?_|refine brF ?_ ?_)<;>intro q_<;>try simp only[nz] at q_)
       exact ⟨i+1,hil,(by show (cutQ S S.length).length - (i+1)<(cutQ S S.length).length - i;omega),StLe.ren [0] tmS ⟨(by rw[hst];exact own_updS),trivial⟩ (by decide)⟩
     ·have e:j=(refK S (cutQ S S.length) i).length:=by omega
      subst e
      have qo:ctOrR.pre ([],[ivI (cutQ S S.length) i]):=⟨Nat.zero_le _,(by show 1≤10000;omega)⟩
      have oR:ctOrR.out ([],[ivI (cutQ S S.length) i])=setD (canon [ivI (cutQ S S.length) i]):=congrArg setD (comb_one _ _)
      repeat' (first|refine gw ?_|(first|refine br ?_ ?_|refine brF ?_ ?_)<;>intro q_<;>try simp only[nz] at q_)
      refine ⟨(by show (refK S (cutQ S S.length) i).length+1≤9223372036854775807;omega),(by show ((refK S (cutQ S S.length) i).length+1)*24≤140737488355328;omega),?_⟩
      repeat' (first|refine gw ?_|(first|refine br ?_ ?_|refine brF ?_ ?_)<;>intro q_<;>try simp only[nz] at q_)
      refine ⟨fun _=>(by show 0≤((refK S (cutQ S S.length) i).length:Int)∧((refK S (cutQ S S.length) i).length:Int)<(((refK S (cutQ S S.length) i).length+1:Nat):Int);omega),?_⟩
      repeat' (first|refine gw ?_|(first|refine br ?_ ?_|refine brF ?_ ?_)<;>intro q_<;>try simp only[nz] at q_)
      refine ⟨fun _=>(by show ((refK S (cutQ S S.length) i).length:Int).toNat<(refK S (cutQ S S.length) i).length+1;omega),?_⟩
      rw[rc_app rfl]
      repeat' (first|refine gw ?_|(first|refine br ?_ ?_|refine brF ?_ ?_)<;>intro q_<;>try simp only[nz] at q_)
      refine ⟨([],[ivI (cutQ S S.length) i]),EntL.cons (Ent.ag (EntL.cons Ent.nil (EntL.refl []))) (EntL.cons (one_ent rfl rfl) (EntL.refl [])),fun _=>qo,?_⟩
      rw[oR]
      repeat' (first|refine gw ?_|(first|refine br ?_ ?_|refine brF ?_ ?_)<;>intro q_<;>try simp only[nz] at q_)
      refine ⟨fun _=>(by show 0≤((refK S (cutQ S S.length) i).length:Int)∧((refK S (cutQ S S.length) i).length:Int)<(((refK S (cutQ S S.length) i).length+1:Nat):Int);omega),?_⟩
      repeat' (first|refine gw ?_|(first|refine br ?_ ?_|refine brF ?_ ?_)<;>intro q_<;>try simp only[nz] at q_)
      refine ⟨(by show ((refK S (cutQ S S.length) i).length:Int).toNat<(refK S (cutQ S S.length) i).length+1;omega),?_⟩
      have hf:=fnd_eq (S:=S) (x:=(cutQ S S.length).getD i default) hj hd (.inl rfl)
      have hst:refK S (cutQ S S.length) (i+1)=refK S (cutQ S S.length) i++[canon [ivI (cutQ S S.length) i]]:=by
       show stpK S (cutQ S S.length) (refK S (cutQ S S.length) i) i=_
       unfold stpK
       rw[hf,if_pos rfl]
      repeat' (first|refine gw ?_|(first|refine br ?_ ?_|refine brF ?_ ?_)<;>intro q_<;>try simp only[nz] at q_)
      exact ⟨i+1,hil,(by show (cutQ S S.length).length - (i+1)<(cutQ S S.length).length - i;omega),StLe.ren [2] tmS ⟨(by rw[hst];exact own_appS rfl),trivial⟩ (by decide)⟩
    ·have he2:(1114111:Int)=(ivI (cutQ S S.length) i).2:=(if_neg h2).symm
     repeat' (first|refine gw ?_|(first|refine br ?_ ?_|refine brF ?_ ?_)<;>intro q_<;>try simp only[nz] at q_)
     refine ⟨0,Nat,fun j=>⟨[(3,stsD S),(4,intsD (cutQ S S.length)),(6,.row 0),(7,.v (.int .i64 i)),(8,.own 1 0),(9,.v (.int .i64 j))],[rowL 24 1 stD (refK S (cutQ S S.length) i),.cells 82 [.v (.int .i64 ((cutQ S S.length).getD i default)),.v (.int .i64 (ivI (cutQ S S.length) i).2)]],[]⟩,fun j=>j≤(refK S (cutQ S S.length) i).length∧∀ j',j'<j→¬samB S (hdR ((refK S (cutQ S S.length) i).getD j' default)) ((cutQ S S.length).getD i default)=true,fun j=>(refK S (cutQ S S.length) i).length - j,fun _=>Nat.zero_le _,⟨0,⟨Nat.zero_le _,fun j hj=>by omega⟩,StLe.ren [0,1] tmS ⟨⟨rfl,rfl,rfl,fun a ha j hj=>Ent.refl _⟩,⟨rfl,EntL.cons (Ent.refl _) (EntL.cons (Ent.int he2) (EntL.refl [])),rfl⟩,trivial⟩ (by decide)⟩,?_⟩
     rintro j ⟨hj,hd⟩
     by_cases hjl:j<(refK S (cutQ S S.length) i).length
     ·have hok:=hKo _ (getD_mem' hjl)
      have hl0:0<((refK S (cutQ S S.length) i).getD j default).length:=by have:=hok.2;omega
      have q1:=psm (((refK S (cutQ S S.length) i).getD j default).getD 0 default).1 ((cutQ S S.length).getD i default)
      have qo:ctOrR.pre ((refK S (cutQ S S.length) i).getD j default,[ivI (cutQ S S.length) i]):=⟨(by have:=k2 j hjl;show ((refK S (cutQ S S.length) i).getD j default).length≤10000;omega),(by show 1≤10000;omega)⟩
      have oR:ctOrR.out ((refK S (cutQ S S.length) i).getD j default,[ivI (cutQ S S.length) i])=setD (canon ((refK S (cutQ S S.length) i).getD j default++[ivI (cutQ S S.length) i])):=congrArg setD (comb_one _ _)
      repeat' (first|refine gw ?_|(first|refine br ?_ ?_|refine brF ?_ ?_)<;>intro q_<;>try simp only[nz] at q_)
      ·exact ⟨j+1,⟨hjl,next_at hd (fun h=>Bool.noConfusion (h.symm.trans q_))⟩,(by show (refK S (cutQ S S.length) i).length - (j+1)<(refK S (cutQ S S.length) i).length - j;omega),StLe.ren [0,1] tmS ⟨⟨rfl,rfl,rfl,fun a ha j hj=>Ent.refl _⟩,⟨rfl,EntL.refl _,rfl⟩,trivial⟩ (by decide)⟩
      ·refine ⟨((refK S (cutQ S S.length) i).getD j default,[ivI (cutQ S S.length) i]),EntL.cons (Ent.refl _) (EntL.cons (one_ent rfl rfl) (EntL.refl [])),fun _=>qo,?_⟩
       rw[oR]
       have hf:=fnd_eq (S:=S) (x:=(cutQ S S.length).getD i default) hj hd (.inr q_)
       have hst:refK S (cutQ S S.length) (i+1)=(refK S (cutQ S S.length) i).set j (canon ((refK S (cutQ S S.length) i).getD j default++[ivI (cutQ S S.length) i])):=by
        show stpK S (cutQ S S.length) (refK S (cutQ S S.length) i) i=_
        unfold stpK
        rw[hf,if_neg (by omega)]
       repeat' (first|refine gw ?_|(first|refine br ?_ ?_|refine brF ?_ ?_)<;>intro q_<;>try simp only[nz] at q_)
       exact ⟨i+1,hil,(by show (cutQ S S.length).length - (i+1)<(cutQ S S.length).length - i;omega),StLe.ren [0] tmS ⟨(by rw[hst];exact own_updS),trivial⟩ (by decide)⟩
     ·have e:j=(refK S (cutQ S S.length) i).length:=by omega
      subst e
      have qo:ctOrR.pre ([],[ivI (cutQ S S.length) i]):=⟨Nat.zero_le _,(by show 1≤10000;omega)⟩
      have oR:ctOrR.out ([],[ivI (cutQ S S.length) i])=setD (canon [ivI (cutQ S S.length) i]):=congrArg setD (comb_one _ _)
      repeat' (first|refine gw ?_|(first|refine br ?_ ?_|refine brF ?_ ?_)<;>intro q_<;>try simp only[nz] at q_)
      refine ⟨(by show (refK S (cutQ S S.length) i).length+1≤9223372036854775807;omega),(by show ((refK S (cutQ S S.length) i).length+1)*24≤140737488355328;omega),?_⟩
      repeat' (first|refine gw ?_|(first|refine br ?_ ?_|refine brF ?_ ?_)<;>intro q_<;>try simp only[nz] at q_)
      refine ⟨fun _=>(by show 0≤((refK S (cutQ S S.length) i).length:Int)∧((refK S (cutQ S S.length) i).length:Int)<(((refK S (cutQ S S.length) i).length+1:Nat):Int);omega),?_⟩
      repeat' (first|refine gw ?_|(first|refine br ?_ ?_|refine brF ?_ ?_)<;>intro q_<;>try simp only[nz] at q_)
      refine ⟨fun _=>(by show ((refK S (cutQ S S.length) i).length:Int).toNat<(refK S (cutQ S S.length) i).length+1;omega),?_⟩
      rw[rc_app rfl]
      repeat' (first|refine gw ?_|(first|refine br ?_ ?_|refine brF ?_ ?_)<;>intro q_<;>try simp only[nz] at q_)
      refine ⟨([],[ivI (cutQ S S.length) i]),EntL.cons (Ent.ag (EntL.cons Ent.nil (EntL.refl []))) (EntL.cons (one_ent rfl rfl) (EntL.refl [])),fun _=>qo,?_⟩
      rw[oR]
      repeat' (first|refine gw ?_|(first|refine br ?_ ?_|refine brF ?_ ?_)<;>intro q_<;>try simp only[nz] at q_)
      refine ⟨fun _=>(by show 0≤((refK S (cutQ S S.length) i).length:Int)∧((refK S (cutQ S S.length) i).length:Int)<(((refK S (cutQ S S.length) i).length+1:Nat):Int);omega),?_⟩
      repeat' (first|refine gw ?_|(first|refine br ?_ ?_|refine brF ?_ ?_)<;>intro q_<;>try simp only[nz] at q_)
      refine ⟨(by show ((refK S (cutQ S S.length) i).length:Int).toNat<(refK S (cutQ S S.length) i).length+1;omega),?_⟩
      have hf:=fnd_eq (S:=S) (x:=(cutQ S S.length).getD i default) hj hd (.inl rfl)
      have hst:refK S (cutQ S S.length) (i+1)=refK S (cutQ S S.length) i++[canon [ivI (cutQ S S.length) i]]:=by
       show stpK S (cutQ S S.length) (refK S (cutQ S S.length) i) i=_
       unfold stpK
       rw[hf,if_pos rfl]
      repeat' (first|refine gw ?_|(first|refine br ?_ ?_|refine brF ?_ ?_)<;>intro q_<;>try simp only[nz] at q_)
      exact ⟨i+1,hil,(by show (cutQ S S.length).length - (i+1)<(cutQ S S.length).length - i;omega),StLe.ren [2] tmS ⟨(by rw[hst];exact own_appS rfl),trivial⟩ (by decide)⟩
   ·have e:i=(cutQ S S.length).length:=by omega
    subst e
    repeat' (first|refine gw ?_|(first|refine br ?_ ?_|refine brF ?_ ?_)<;>intro q_<;>try simp only[nz] at q_)
    rw[show ctRef.out l=stsD (refK S (cutQ S S.length) (cutQ S S.length).length) by rw[hSd];rfl]
    exact EntR.of rfl (Ent.refl _)
 ·obtain ⟨S,hSd⟩:∃ S,S=setsOf l:=⟨_,rfl⟩
  have eS:setsOf l=[]:=if_neg (by rw[hcc];exact hc)
  have hSl:S.length≤180:=sets_len hSd hl
  repeat' (first|refine gw ?_|(first|refine br ?_ ?_|refine brF ?_ ?_)<;>intro q_<;>try simp only[nz] at q_)
  refine ⟨[],EntL.cons Ent.nil (EntL.refl []),sm_nil,?_⟩
  rw[show ctSets.out []=stsD S by rw[hSd,eS];rfl]
  simp only[setOwn,goneO,rowL,retD,nr,ns,Nat.reduceAdd,Nat.zero_add,reduceIte]
  repeat' (first|refine gw ?_|(first|refine br ?_ ?_|refine brF ?_ ?_)<;>intro q_<;>try simp only[nz] at q_)
  have hS:=sets_ok hSd hl
  refine ⟨0,Nat,fun k=>⟨[(3,stsD S),(4,intsD (cutQ S k)),(5,.v (.int .i64 k))],[],[]⟩,fun k=>k≤S.length,fun k=>S.length - k,fun _=>Nat.zero_le _,⟨0,Nat.zero_le _,StLe.trans (StLe.frzT (t:=4) rfl rfl) (StLe.ren [] ⟨Ent.refl _,rfl,Ent.sl rfl (fun a ha j hj=>Ent.of_eq (by
   obtain rfl:a=0:=(by omega)
   obtain rfl:j=0:=(by omega)
   rfl)),rfl,Ent.refl _,rfl,trivial⟩ trivial (by decide))⟩,?_⟩
  intro k (hk:k≤S.length)
  have hcl:=cutQ_len (fun X hX=>(hS X hX).2) k hk
  by_cases hlt:k<S.length
  ·obtain ⟨hX1,hX2⟩:=hS _ (getD_mem' hlt)
   have pq:ctCuts.pre (cutQ S k,S.getD k default):=⟨(by show (cutQ S k).length≤100000;omega),(by show (S.getD k default).length≤100000;omega)⟩
   repeat' (first|refine gw ?_|(first|refine br ?_ ?_|refine brF ?_ ?_)<;>intro q_<;>try simp only[nz] at q_)
   exact ⟨k+1,hlt,(by show S.length - (k+1)<S.length - k;omega),StLe.ren [] ⟨Ent.refl _,rfl,Ent.of_eq (by rw[cutQ_succ hlt];rfl),rfl,Ent.refl _,rfl,trivial⟩ trivial (by decide)⟩
  ·have e:k=S.length:=by omega
   subst e
   have hS1:∀ X∈S,okS X:=fun X hX=>(hS X hX).1
   have hCb:=cutQ_bd hS1
   have hCa:=cutQ_asc S.length (Nat.le_refl S.length)
   have psm:∀ a b,ctSam.pre (S,a,b):=fun a b=>⟨(by show S.length≤1000000;omega),fun i hi=>(by
    have:=(hS _ (getD_mem' hi)).2
    show (S.getD i default).length≤1000000
    omega)⟩
   repeat' (first|refine gw ?_|(first|refine br ?_ ?_|refine brF ?_ ?_)<;>intro q_<;>try simp only[nz] at q_)
   refine ⟨0,Nat,fun i=>⟨[(3,stsD S),(4,intsD (cutQ S S.length)),(6,.row 0),(7,.v (.int .i64 i))],[rowL 24 1 stD (refK S (cutQ S S.length) i)],[]⟩,fun i=>i≤(cutQ S S.length).length,fun i=>(cutQ S S.length).length - i,fun _=>Nat.zero_le _,⟨0,Nat.zero_le _,StLe.trans (StLe.nilRow (t:=6) 24 1 (fun _ _=>.junk) rfl) (StLe.ren [0] tmS ⟨own_nil,trivial⟩ (by decide))⟩,?_⟩
   intro i (hi:i≤(cutQ S S.length).length)
   obtain ⟨k1,k2⟩:=refK_len S (cutQ S S.length) i
   have hKo:=refK_ok (S:=S) hCa hCb i hi
   by_cases hil:i<(cutQ S S.length).length
   ·have hb1:=hCb _ (getD_mem' hil)
    have hiv:=ivI_ok hCa hCb hil
    by_cases h2:i+1<(cutQ S S.length).length
    ·have hb2:=hCb _ (getD_mem' h2)
     have he2:(cutQ S S.length).getD ((i:Int)+1).toNat default - 1=(ivI (cutQ S S.length) i).2:=by
      unfold ivI
      rw[show ((i:Int)+1).toNat=i+1 by omega]
      exact (if_pos h2).symm
     have hb3:0≤(cutQ S S.length).getD ((i:Int)+1).toNat default∧(cutQ S S.length).getD ((i:Int)+1).toNat default≤1114111:=by
      rw[show ((i:Int)+1).toNat=i+1 by omega]
      exact hb2
     repeat' (first|refine gw ?_|(first|refine br ?_ ?_|refine brF ?_ ?_)<;>intro q_<;>try simp only[nz] at q_)
     refine ⟨0,Nat,fun j=>⟨[(3,stsD S),(4,intsD (cutQ S S.length)),(6,.row 0),(7,.v (.int .i64 i)),(8,.own 1 0),(9,.v (.int .i64 j))],[rowL 24 1 stD (refK S (cutQ S S.length) i),.cells 82 [.v (.int .i64 ((cutQ S S.length).getD i default)),.v (.int .i64 (ivI (cutQ S S.length) i).2)]],[]⟩,fun j=>j≤(refK S (cutQ S S.length) i).length∧∀ j',j'<j→¬samB S (hdR ((refK S (cutQ S S.length) i).getD j' default)) ((cutQ S S.length).getD i default)=true,fun j=>(refK S (cutQ S S.length) i).length - j,fun _=>Nat.zero_le _,⟨0,⟨Nat.zero_le _,fun j hj=>by omega⟩,StLe.ren [0,1] tmS ⟨⟨rfl,rfl,rfl,fun a ha j hj=>Ent.refl _⟩,⟨rfl,EntL.cons (Ent.refl _) (EntL.cons (Ent.int he2) (EntL.refl [])),rfl⟩,trivial⟩ (by decide)⟩,?_⟩
     rintro j ⟨hj,hd⟩
     by_cases hjl:j<(refK S (cutQ S S.length) i).length
     ·have hok:=hKo _ (getD_mem' hjl)
      have hl0:0<((refK S (cutQ S S.length) i).getD j default).length:=by have:=hok.2;omega
      have q1:=psm (((refK S (cutQ S S.length) i).getD j default).getD 0 default).1 ((cutQ S S.length).getD i default)
      have qo:ctOrR.pre ((refK S (cutQ S S.length) i).getD j default,[ivI (cutQ S S.length) i]):=⟨(by have:=k2 j hjl;show ((refK S (cutQ S S.length) i).getD j default).length≤10000;omega),(by show 1≤10000;omega)⟩
      have oR:ctOrR.out ((refK S (cutQ S S.length) i).getD j default,[ivI (cutQ S S.length) i])=setD (canon ((refK S (cutQ S S.length) i).getD j default++[ivI (cutQ S S.length) i])):=congrArg setD (comb_one _ _)
      repeat' (first|refine gw ?_|(first|refine br ?_ ?_|refine brF ?_ ?_)<;>intro q_<;>try simp only[nz] at q_)
      ·exact ⟨j+1,⟨hjl,next_at hd (fun h=>Bool.noConfusion (h.symm.trans q_))⟩,(by show (refK S (cutQ S S.length) i).length - (j+1)<(refK S (cutQ S S.length) i).length - j;omega),StLe.ren [0,1] tmS ⟨⟨rfl,rfl,rfl,fun a ha j hj=>Ent.refl _⟩,⟨rfl,EntL.refl _,rfl⟩,trivial⟩ (by decide)⟩
      ·refine ⟨((refK S (cutQ S S.length) i).getD j default,[ivI (cutQ S S.length) i]),EntL.cons (Ent.refl _) (EntL.cons (one_ent rfl rfl) (EntL.refl [])),fun _=>qo,?_⟩
       rw[oR]
       have hf:=fnd_eq (S:=S) (x:=(cutQ S S.length).getD i default) hj hd (.inr q_)
       have hst:refK S (cutQ S S.length) (i+1)=(refK S (cutQ S S.length) i).set j (canon ((refK S (cutQ S S.length) i).getD j default++[ivI (cutQ S S.length) i])):=by
        show stpK S (cutQ S S.length) (refK S (cutQ S S.length) i) i=_
        unfold stpK
        rw[hf,if_neg (by omega)]
       repeat' (first|refine gw ?_|(first|refine br ?_ ?_|refine brF ?_ ?_)<;>intro q_<;>try simp only[nz] at q_)
       exact ⟨i+1,hil,(by show (cutQ S S.length).length - (i+1)<(cutQ S S.length).length - i;omega),StLe.ren [0] tmS ⟨(by rw[hst];exact own_updS),trivial⟩ (by decide)⟩
     ·have e:j=(refK S (cutQ S S.length) i).length:=by omega
      subst e
      have qo:ctOrR.pre ([],[ivI (cutQ S S.length) i]):=⟨Nat.zero_le _,(by show 1≤10000;omega)⟩
      have oR:ctOrR.out ([],[ivI (cutQ S S.length) i])=setD (canon [ivI (cutQ S S.length) i]):=congrArg setD (comb_one _ _)
      repeat' (first|refine gw ?_|(first|refine br ?_ ?_|refine brF ?_ ?_)<;>intro q_<;>try simp only[nz] at q_)
      refine ⟨(by show (refK S (cutQ S S.length) i).length+1≤9223372036854775807;omega),(by show ((refK S (cutQ S S.length) i).length+1)*24≤140737488355328;omega),?_⟩
      repeat' (first|refine gw ?_|(first|refine br ?_ ?_|refine brF ?_ ?_)<;>intro q_<;>try simp only[nz] at q_)
      refine ⟨fun _=>(by show 0≤((refK S (cutQ S S.length) i).length:Int)∧((refK S (cutQ S S.length) i).length:Int)<(((refK S (cutQ S S.length) i).length+1:Nat):Int);omega),?_⟩
      repeat' (first|refine gw ?_|(first|refine br ?_ ?_|refine brF ?_ ?_)<;>intro q_<;>try simp only[nz] at q_)
      refine ⟨fun _=>(by show ((refK S (cutQ S S.length) i).length:Int).toNat<(refK S (cutQ S S.length) i).length+1;omega),?_⟩
      rw[rc_app rfl]
      repeat' (first|refine gw ?_|(first|refine br ?_ ?_|refine brF ?_ ?_)<;>intro q_<;>try simp only[nz] at q_)
      refine ⟨([],[ivI (cutQ S S.length) i]),EntL.cons (Ent.ag (EntL.cons Ent.nil (EntL.refl []))) (EntL.cons (one_ent rfl rfl) (EntL.refl [])),fun _=>qo,?_⟩
      rw[oR]
      repeat' (first|refine gw ?_|(first|refine br ?_ ?_|refine brF ?_ ?_)<;>intro q_<;>try simp only[nz] at q_)
      refine ⟨fun _=>(by show 0≤((refK S (cutQ S S.length) i).length:Int)∧((refK S (cutQ S S.length) i).length:Int)<(((refK S (cutQ S S.length) i).length+1:Nat):Int);omega),?_⟩
      repeat' (first|refine gw ?_|(first|refine br ?_ ?_|refine brF ?_ ?_)<;>intro q_<;>try simp only[nz] at q_)
      refine ⟨(by show ((refK S (cutQ S S.length) i).length:Int).toNat<(refK S (cutQ S S.length) i).length+1;omega),?_⟩
      have hf:=fnd_eq (S:=S) (x:=(cutQ S S.length).getD i default) hj hd (.inl rfl)
      have hst:refK S (cutQ S S.length) (i+1)=refK S (cutQ S S.length) i++[canon [ivI (cutQ S S.length) i]]:=by
       show stpK S (cutQ S S.length) (refK S (cutQ S S.length) i) i=_
       unfold stpK
       rw[hf,if_pos rfl]
      repeat' (first|refine gw ?_|(first|refine br ?_ ?_|refine brF ?_ ?_)<;>intro q_<;>try simp only[nz] at q_)
      exact ⟨i+1,hil,(by show (cutQ S S.length).length - (i+1)<(cutQ S S.length).length - i;omega),StLe.ren [2] tmS ⟨(by rw[hst];exact own_appS rfl),trivial⟩ (by decide)⟩
    ·have he2:(1114111:Int)=(ivI (cutQ S S.length) i).2:=(if_neg h2).symm
     repeat' (first|refine gw ?_|(first|refine br ?_ ?_|refine brF ?_ ?_)<;>intro q_<;>try simp only[nz] at q_)
     refine ⟨0,Nat,fun j=>⟨[(3,stsD S),(4,intsD (cutQ S S.length)),(6,.row 0),(7,.v (.int .i64 i)),(8,.own 1 0),(9,.v (.int .i64 j))],[rowL 24 1 stD (refK S (cutQ S S.length) i),.cells 82 [.v (.int .i64 ((cutQ S S.length).getD i default)),.v (.int .i64 (ivI (cutQ S S.length) i).2)]],[]⟩,fun j=>j≤(refK S (cutQ S S.length) i).length∧∀ j',j'<j→¬samB S (hdR ((refK S (cutQ S S.length) i).getD j' default)) ((cutQ S S.length).getD i default)=true,fun j=>(refK S (cutQ S S.length) i).length - j,fun _=>Nat.zero_le _,⟨0,⟨Nat.zero_le _,fun j hj=>by omega⟩,StLe.ren [0,1] tmS ⟨⟨rfl,rfl,rfl,fun a ha j hj=>Ent.refl _⟩,⟨rfl,EntL.cons (Ent.refl _) (EntL.cons (Ent.int he2) (EntL.refl [])),rfl⟩,trivial⟩ (by decide)⟩,?_⟩
     rintro j ⟨hj,hd⟩
     by_cases hjl:j<(refK S (cutQ S S.length) i).length
     ·have hok:=hKo _ (getD_mem' hjl)
      have hl0:0<((refK S (cutQ S S.length) i).getD j default).length:=by have:=hok.2;omega
      have q1:=psm (((refK S (cutQ S S.length) i).getD j default).getD 0 default).1 ((cutQ S S.length).getD i default)
      have qo:ctOrR.pre ((refK S (cutQ S S.length) i).getD j default,[ivI (cutQ S S.length) i]):=⟨(by have:=k2 j hjl;show ((refK S (cutQ S S.length) i).getD j default).length≤10000;omega),(by show 1≤10000;omega)⟩
      have oR:ctOrR.out ((refK S (cutQ S S.length) i).getD j default,[ivI (cutQ S S.length) i])=setD (canon ((refK S (cutQ S S.length) i).getD j default++[ivI (cutQ S S.length) i])):=congrArg setD (comb_one _ _)
      repeat' (first|refine gw ?_|(first|refine br ?_ ?_|refine brF ?_ ?_)<;>intro q_<;>try simp only[nz] at q_)
      ·exact ⟨j+1,⟨hjl,next_at hd (fun h=>Bool.noConfusion (h.symm.trans q_))⟩,(by show (refK S (cutQ S S.length) i).length - (j+1)<(refK S (cutQ S S.length) i).length - j;omega),StLe.ren [0,1] tmS ⟨⟨rfl,rfl,rfl,fun a ha j hj=>Ent.refl _⟩,⟨rfl,EntL.refl _,rfl⟩,trivial⟩ (by decide)⟩
      ·refine ⟨((refK S (cutQ S S.length) i).getD j default,[ivI (cutQ S S.length) i]),EntL.cons (Ent.refl _) (EntL.cons (one_ent rfl rfl) (EntL.refl [])),fun _=>qo,?_⟩
       rw[oR]
       have hf:=fnd_eq (S:=S) (x:=(cutQ S S.length).getD i default) hj hd (.inr q_)
       have hst:refK S (cutQ S S.length) (i+1)=(refK S (cutQ S S.length) i).set j (canon ((refK S (cutQ S S.length) i).getD j default++[ivI (cutQ S S.length) i])):=by
        show stpK S (cutQ S S.length) (refK S (cutQ S S.length) i) i=_
        unfold stpK
        rw[hf,if_neg (by omega)]
       repeat' (first|refine gw ?_|(first|refine br ?_ ?_|refine brF ?_ ?_)<;>intro q_<;>try simp only[nz] at q_)
       exact ⟨i+1,hil,(by show (cutQ S S.length).length - (i+1)<(cutQ S S.length).length - i;omega),StLe.ren [0] tmS ⟨(by rw[hst];exact own_updS),trivial⟩ (by decide)⟩
     ·have e:j=(refK S (cutQ S S.length) i).length:=by omega
      subst e
      have qo:ctOrR.pre ([],[ivI (cutQ S S.length) i]):=⟨Nat.zero_le _,(by show 1≤10000;omega)⟩
      have oR:ctOrR.out ([],[ivI (cutQ S S.length) i])=setD (canon [ivI (cutQ S S.length) i]):=congrArg setD (comb_one _ _)
      repeat' (first|refine gw ?_|(first|refine br ?_ ?_|refine brF ?_ ?_)<;>intro q_<;>try simp only[nz] at q_)
      refine ⟨(by show (refK S (cutQ S S.length) i).length+1≤9223372036854775807;omega),(by show ((refK S (cutQ S S.length) i).length+1)*24≤140737488355328;omega),?_⟩
      repeat' (first|refine gw ?_|(first|refine br ?_ ?_|refine brF ?_ ?_)<;>intro q_<;>try simp only[nz] at q_)
      refine ⟨fun _=>(by show 0≤((refK S (cutQ S S.length) i).length:Int)∧((refK S (cutQ S S.length) i).length:Int)<(((refK S (cutQ S S.length) i).length+1:Nat):Int);omega),?_⟩
      repeat' (first|refine gw ?_|(first|refine br ?_ ?_|refine brF ?_ ?_)<;>intro q_<;>try simp only[nz] at q_)
      refine ⟨fun _=>(by show ((refK S (cutQ S S.length) i).length:Int).toNat<(refK S (cutQ S S.length) i).length+1;omega),?_⟩
      rw[rc_app rfl]
      repeat' (first|refine gw ?_|(first|refine br ?_ ?_|refine brF ?_ ?_)<;>intro q_<;>try simp only[nz] at q_)
      refine ⟨([],[ivI (cutQ S S.length) i]),EntL.cons (Ent.ag (EntL.cons Ent.nil (EntL.refl []))) (EntL.cons (one_ent rfl rfl) (EntL.refl [])),fun _=>qo,?_⟩
      rw[oR]
      repeat' (first|refine gw ?_|(first|refine br ?_ ?_|refine brF ?_ ?_)<;>intro q_<;>try simp only[nz] at q_)
      refine ⟨fun _=>(by show 0≤((refK S (cutQ S S.length) i).length:Int)∧((refK S (cutQ S S.length) i).length:Int)<(((refK S (cutQ S S.length) i).length+1:Nat):Int);omega),?_⟩
      repeat' (first|refine gw ?_|(first|refine br ?_ ?_|refine brF ?_ ?_)<;>intro q_<;>try simp only[nz] at q_)
      refine ⟨(by show ((refK S (cutQ S S.length) i).length:Int).toNat<(refK S (cutQ S S.length) i).length+1;omega),?_⟩
      have hf:=fnd_eq (S:=S) (x:=(cutQ S S.length).getD i default) hj hd (.inl rfl)
      have hst:refK S (cutQ S S.length) (i+1)=refK S (cutQ S S.length) i++[canon [ivI (cutQ S S.length) i]]:=by
       show stpK S (cutQ S S.length) (refK S (cutQ S S.length) i) i=_
       unfold stpK
       rw[hf,if_pos rfl]
      repeat' (first|refine gw ?_|(first|refine br ?_ ?_|refine brF ?_ ?_)<;>intro q_<;>try simp only[nz] at q_)
      exact ⟨i+1,hil,(by show (cutQ S S.length).length - (i+1)<(cutQ S S.length).length - i;omega),StLe.ren [2] tmS ⟨(by rw[hst];exact own_appS rfl),trivial⟩ (by decide)⟩
   ·have e:i=(cutQ S S.length).length:=by omega
    subst e
    repeat' (first|refine gw ?_|(first|refine br ?_ ?_|refine brF ?_ ?_)<;>intro q_<;>try simp only[nz] at q_)
    rw[show ctRef.out l=stsD (refK S (cutQ S S.length) (cutQ S S.length).length) by rw[hSd];rfl]
    exact EntR.of rfl (Ent.refl _)
end Go.Proofs
