import Derived.Test.YtcihhjjmcompkaaGreatDoorDva
import Derived.Test.YtcihhjjmcompkaaGreatDoorDvb
import Derived.Test.YtcihhjjmcompkaaGreatDoorY5
import Derived.Test.YtcihhjjmcompkaaGreatDoorXs
import Derived.Test.YtcihhjjmcompkaaGreatDoorEa
set_option linter.unusedVariables false
set_option linter.unusedSimpArgs false
namespace Go.Proofs
open Go Go.Sx
variable {mx:Int}{pb:Bool}
noncomputable def divT (mx:Int) (pb:Bool):Tr:=inlW true Γdv Tryz.T (GlT mx pb) Tryz.f83 cDv
theorem divT_ok:SoundT Tryz.prog (GlT mx pb) 83 (divT mx pb):=soundT_inlW Γdv_ok Tryz.T_ok Tryz.mixed Tryz.func83 rfl (by kernel_rfl)
theorem div_at {Y:Ys}{k:D→List Own→Prop}{B:List Int}{X:List Rg}{s:List Int × Int}(h0:0<B.length) (h1:B.length≤100000) (h2:B.Pairwise (· ≤ ·)) (h3:X.length≤12) (h4:s.1.length=B.length) (h5:0≤s.2∧s.2≤4000000000000000)
  (hK:∀ f,k (.tu []) (owD B X (divS B s X).1 (divS B s X).2++[.map 3 3 (.i .i64) f])):divT mx pb Y [setD X,.own 0 0,.own 1 0,.own 2 0] (owD B X s.1 s.2) k:=div_walk h0 h1 h2 h3 h4 h5 hK
attribute [local irreducible] divT
noncomputable def Γcls (mx:Int) (pb:Bool):Ctx:=fun f=>match f with
 | 39=>some (.pure ctChkB)
 | 80=>some (.pure ctSets)
 | 81=>some (.gen sortI)
 | 82=>some (.gen compI)
 | 83=>some (.gen (divT mx pb))
 | 85=>some (.pure ctCol)
 | _=>none
theorem Γcls_ok:CtxOk Tryz.prog (GlT mx pb) (Γcls mx pb):=by
 intro f h hh
 simp only[Γcls] at hh
 split at hh<;>simp at hh<;>subst hh
 ·exact pChkB_ok
 ·exact pSets_ok
 ·exact srtI_ok
 ·exact cpcI_ok
 ·exact divT_ok
 ·exact col_ok
theorem jz {P:Nat→Prop}{j:Nat}(hj:j<1) (h:P 0):P j:=by
 have hj0:j=0:=by omega
 subst hj0
 exact h
theorem own_app22 {α:Type} [Inhabited α] {ρ:List Nat}{e sz:Nat}{enc:α→Nat→D}{l:List α}{x y:α}{g:Nat→Nat→D}(h1:∀ j,j<sz→Ent (g 0 j) (enc x j)) (h2:∀ j,j<sz→Ent (g 1 j) (enc y j)):
  OwnRen ρ (.row e sz (l.length+2) (catF l.length (fun i j=>enc (l.getD i default) j) g)) (rowL e sz enc (l++[x,y])):=by
 refine ⟨rfl,rfl,by simp,fun a ha j hj=>?_⟩
 show Ent _ (enc ((l++[x,y]).getD a default) j)
 have e0:l++[x,y]=l++[x]++[y]:=by simp
 rw[e0,getD_snoc,List.length_append,List.length_singleton]
 unfold catF
 by_cases h4:a<l.length
 ·rw[if_pos h4,if_pos (show a<l.length+1 by omega),getD_snoc,if_pos h4];exact Ent.refl _
 ·rw[if_neg h4]
  by_cases h5:a=l.length
  ·subst h5
   rw[if_pos (Nat.lt_succ_self _),getD_snoc,if_neg (Nat.lt_irrefl _),if_pos rfl,Nat.sub_self];exact h1 j hj
  ·have:a=l.length+1:=by omega
   subst this
   rw[if_neg (Nat.lt_irrefl _),if_pos rfl,show l.length+1 - l.length=1 by omega];exact h2 j hj
theorem rep0 {n a:Nat}:(List.replicate n (0:Int)).getD a default=0:=by
 simp only[List.getD_eq_getElem?_getD,List.getElem?_replicate]
 split<;>rfl
def dvA (S:List (List Rg)) (k:Nat):List Int × Int:=divK (begF S) (List.replicate (begF S).length 0,1) S k
theorem dvA_len {S:List (List Rg)}{m:Nat}(hm:∀ X∈S,X.length≤m) (k:Nat) (hk:k≤S.length):(dvA S k).1.length=(begF S).length∧1≤(dvA S k).2∧(dvA S k).2≤1+(begF S).length*m*k:=by
 have:=divK_len (begF S) (List.replicate (begF S).length 0,1) S m hm k hk
 rw[List.length_replicate] at this
 exact this
theorem dvA_succ {S:List (List Rg)}{k:Nat}(h:k<S.length):dvA S (k+1)=divS (begF S) (dvA S k) (S.getD k default):=divK_succ h
theorem hEA {S:List (List Rg)}(hT:(cutB S).getD (((cutB S).length:Int) - 1).toNat default>1114111):Ent (.sl 1 (((cutB S).length:Int) - 1).toNat fun a _=>D.v (.int .i64 ((cutB S).getD a default))) (intsD (begF S)):=by
 have hp:=cutB_pos S
 have hTn:(((cutB S).length:Int) - 1).toNat=(cutB S).length - 1:=by omega
 have e:begF S=(cutB S).take ((cutB S).length - 1):=by
  unfold begF
  rw[if_pos (by rw[← hTn];exact hT)]
 rw[e]
 refine Ent.sl (by rw[List.length_take,hTn];omega) fun a ha j hj=>Ent.of_eq ?_
 obtain rfl:j=0:=(by omega)
 rw[hTn] at ha
 show D.v (.int .i64 ((cutB S).getD a default))=.v (.int .i64 (((cutB S).take ((cutB S).length - 1)).getD a default))
 simp only[List.getD_eq_getElem?_getD]
 rw[List.getElem?_take_of_lt ha]
theorem hEB {S:List (List Rg)}(hT:¬(cutB S).getD (((cutB S).length:Int) - 1).toNat default>1114111):Ent (.sl 1 (cutB S).length fun a _=>D.v (.int .i64 ((cutB S).getD a default))) (intsD (begF S)):=by
 have hp:=cutB_pos S
 have hTn:(((cutB S).length:Int) - 1).toNat=(cutB S).length - 1:=by omega
 have e:begF S=cutB S:=by
  unfold begF
  rw[if_neg (by rw[← hTn];exact hT)]
 rw[e]
 exact Ent.sl rfl fun a ha j hj=>by
  obtain rfl:j=0:=(by omega)
  exact Ent.refl _
noncomputable def ctCls:Ct:={ ι:=List Tl,inp:=fun l=>[tlsD l],out:=fun l=>stsD (clsP (setsOf l)),pre:=smL }
set_option maxHeartbeats 16000000 in
theorem pCls_ok:Sound Tryz.prog (GlT mx pb) 41 ctCls:=by
 refine sound_by (cc:=true) Γcls_ok Tryz.T_ok Tryz.mixed Tryz.func41 rfl (by kernel_rfl) (fun _=>rfl) (fun _ _=>by show 1≤76;decide) ?_
 intro (l:List Tl) (hl:smL l)
 have p1:ctChkB.pre l:=sm_bgL hl
 by_cases hc:chkB l=0
 ·obtain ⟨S,hSd⟩:∃ S,S=setsOf l:=⟨_,rfl⟩
  have ps:ctSets.pre l:=hl
  have eS:setsOf l=allS l:=if_pos hc
  have hSl:S.length≤180:=sets_len hSd hl
  have hAS:allS l=S:=(hSd.trans eS).symm
  repeat' (first|refine gw ?_|(first|refine br ?_ ?_|refine brF ?_ ?_)<;>intro q_<;>try simp only[nz] at q_)
  rw[show ctSets.out l=stsD S by rw[hSd,eS];rfl]
  simp only[setOwn,goneO,rowL,retD,nr,ns,Nat.reduceAdd,Nat.zero_add,reduceIte]
  repeat' (first|refine gw ?_|(first|refine br ?_ ?_|refine brF ?_ ?_)<;>intro q_<;>try simp only[nz] at q_)
  have hS:=sets_ok hSd hl
  refine ⟨0,Nat,fun k=>⟨[(3,stsD S),(4,.own 0 0),(20,stsD S),(21,.v (.int .i64 S.length)),(22,.v (.int .i64 k))],[.cells 129 [.row 1],rowL 3 1 intD (begA S k)],[]⟩,fun k=>k≤S.length,fun k=>S.length - k,fun _=>Nat.zero_le _,⟨0,Nat.zero_le _,StLe.ren [1,0] ⟨Ent.refl _,rfl,Ent.refl _,rfl,Ent.refl _,rfl,Ent.int (by rw[← hAS]),rfl,Ent.refl _,rfl,trivial⟩ ⟨⟨rfl,EntL.refl _,rfl⟩,⟨rfl,rfl,rfl,fun a ha j hj=>(by
   have ha0:a=0:=by omega
   have hj0:j=0:=by omega
   subst ha0 hj0
   exact Ent.refl _)⟩,trivial⟩ (by decide)⟩,?_⟩
  intro k (hk:k≤S.length)
  obtain ⟨hb0,hb1⟩:=begA_len S 12 (fun X hX=>(hS X hX).2) k hk
  by_cases hlt:k<S.length
  ·obtain ⟨hX1,hX2⟩:=hS _ (getD_mem' hlt)
   repeat' (first|refine gw ?_|(first|refine br ?_ ?_|refine brF ?_ ?_)<;>intro q_<;>try simp only[nz] at q_)
   refine ⟨0,Nat,fun m=>⟨[(3,stsD S),(4,.own 0 0),(20,stsD S),(21,.v (.int .i64 S.length)),(22,.v (.int .i64 k)),(27,rgsD (S.getD k default)),(28,.v (.int .i64 (S.getD k default).length)),(29,.v (.int .i64 m))],[.cells 129 [.row 1],rowL 3 1 intD (begK (begA S k) (S.getD k default) m)],[]⟩,fun m=>m≤(S.getD k default).length,fun m=>(S.getD k default).length - m,fun _=>Nat.zero_le _,⟨0,Nat.zero_le _,StLe.ren [0,1] tmS ⟨⟨rfl,EntL.refl _,rfl⟩,⟨rfl,rfl,rfl,fun a ha j hj=>Ent.refl _⟩,trivial⟩ (by decide)⟩,?_⟩
   intro m (hm:m≤(S.getD k default).length)
   have hbl:=begK_len (begA S k) (S.getD k default) m hm
   by_cases hml:m<(S.getD k default).length
   ·have hr:=(okS_canon hX1).ok _ (getD_mem' hml)
    repeat' (first|refine gw ?_|(first|refine br ?_ ?_|refine brF ?_ ?_)<;>intro q_<;>try simp only[nz] at q_)
    refine ⟨(by show (begK (begA S k) (S.getD k default) m).length+2≤9223372036854775807;omega),(by show ((begK (begA S k) (S.getD k default) m).length+2)*8≤140737488355328;omega),?_⟩
    repeat' (first|refine gw ?_|(first|refine br ?_ ?_|refine brF ?_ ?_)<;>intro q_<;>try simp only[nz] at q_)
    exact ⟨m+1,hml,(by show (S.getD k default).length - (m+1)<(S.getD k default).length - m;omega),StLe.ren [0,3] tmS ⟨⟨rfl,EntL.refl _,rfl⟩,(by rw[begK_succ hml];exact own_app22 (fun j hj=>by obtain rfl:j=0:=(by omega);exact Ent.refl _) (fun j hj=>by obtain rfl:j=0:=(by omega);exact Ent.refl _)),trivial⟩ (by decide)⟩
   ·have e:m=(S.getD k default).length:=by omega
    subst e
    repeat' (first|refine gw ?_|(first|refine br ?_ ?_|refine brF ?_ ?_)<;>intro q_<;>try simp only[nz] at q_)
    exact ⟨k+1,hlt,(by show S.length - (k+1)<S.length - k;omega),StLe.ren [0,1] tmS ⟨⟨rfl,EntL.refl _,rfl⟩,(by rw[begA_succ hlt];exact ⟨rfl,rfl,rfl,fun a ha j hj=>Ent.refl _⟩),trivial⟩ (by decide)⟩
  ·have e:k=S.length:=by omega
   subst e
   clear hlt
   have hB:=begF_spec (S:=S) (fun X hX=>(hS X hX).1)
   repeat' (first|refine gw ?_|(first|refine br ?_ ?_|refine brF ?_ ?_)<;>intro q_<;>try simp only[nz] at q_)
   refine ⟨1,_,_,begA S S.length,rfl,rfl,fun a ha=>Ent.refl _,by omega,by omega,?_⟩
   have hZl:(sortL (begA S S.length)).length=(begA S S.length).length:=List.length_mergeSort _
   repeat' (first|refine gw ?_|(first|refine br ?_ ?_|refine brF ?_ ?_)<;>intro q_<;>try simp only[nz] at q_)
   rw[← hZl]
   refine ⟨1,_,_,sortL (begA S S.length),rfl,rfl,fun a ha=>Ent.refl _,by omega,by omega,?_⟩
   have hC1:=cutB_pos S
   have hC2:(cutB S).length≤(begA S S.length).length:=by rw[← hZl];exact compact_le _
   rw[show Lib.compact (sortL (begA S S.length))=cutB S from rfl]
   have hTn:(((cutB S).length:Int) - 1).toNat=(cutB S).length - 1:=by omega
   by_cases hT:(cutB S).getD (((cutB S).length:Int) - 1).toNat default>1114111
   ·have hL:(begF S).length=(cutB S).length - 1:=by
     unfold begF
     rw[if_pos (by rw[← hTn];exact hT),List.length_take]
     omega
    have hBl:(begF S).length≤5000:=by omega
    repeat' (first|refine gw ?_|(first|refine br ?_ ?_|refine brF ?_ ?_)<;>intro q_<;>try simp only[nz] at q_)
    refine ⟨0,Nat,fun k=>⟨[(3,stsD S),(4,.own 0 0),(9,.own 1 0),(11,.fn 83 [.own 0 0,.own 1 0,.own 2 0]),(63,stsD S),(64,.v (.int .i64 S.length)),(65,.v (.int .i64 k))],[.cells 129 [intsD (begF S)],.cells 129 [.row 3],.cells 3 [.v (.int .i64 (dvA S k).2)],rowL 3 1 intD (dvA S k).1],[]⟩,fun k=>k≤S.length,fun k=>S.length - k,fun _=>Nat.zero_le _,⟨0,Nat.zero_le _,StLe.ren [0,4,5,3] ⟨Ent.refl _,rfl,Ent.refl _,rfl,Ent.refl _,rfl,Ent.refl _,rfl,Ent.refl _,rfl,Ent.refl _,rfl,Ent.refl _,rfl,trivial⟩ ⟨⟨rfl,EntL.cons (hEA hT) (EntL.refl []),rfl⟩,⟨rfl,EntL.refl _,rfl⟩,⟨rfl,EntL.refl _,rfl⟩,⟨rfl,rfl,(by
     show ((((cutB S).length:Int) - 1).toNat:Int).toNat=(List.replicate (begF S).length 0).length
     rw[List.length_replicate,hL]
     omega),fun a ha j hj=>Ent.of_eq (by
     obtain rfl:j=0:=(by omega)
     show D.v (.int .i64 0)=.v (.int .i64 ((List.replicate (begF S).length 0).getD a default))
     rw[rep0])⟩,trivial⟩ (by decide)⟩,?_⟩
    intro k (hk:k≤S.length)
    obtain ⟨d1,d2,d3⟩:=dvA_len (fun X hX=>(hS X hX).2) k hk
    by_cases hlt:k<S.length
    ·obtain ⟨hX1,hX2⟩:=hS _ (getD_mem' hlt)
     have hcn:(begF S).length*12*k≤5000*12*180:=Nat.mul_le_mul (Nat.mul_le_mul hBl (Nat.le_refl _)) (by omega)
     have hcn2:(((begF S).length*12*k:Nat):Int)=(begF S).length*(12:Nat)*k:=by simp only[Int.natCast_mul]
     repeat' (first|refine gw ?_|(first|refine br ?_ ?_|refine brF ?_ ?_)<;>intro q_<;>try simp only[nz] at q_)
     refine div_at (B:=begF S) (X:=S.getD k default) (s:=dvA S k) (begF_pos fun X hX=>(hS X hX).1) (by omega) (hB.1.imp fun h=>by omega) hX2 d1 ⟨by omega,by omega⟩ (fun f=>?_)
     repeat' (first|refine gw ?_|(first|refine br ?_ ?_|refine brF ?_ ?_)<;>intro q_<;>try simp only[nz] at q_)
     exact ⟨k+1,hlt,(by show S.length - (k+1)<S.length - k;omega),StLe.ren [0,1,2,3] tmS (by
      rw[dvA_succ hlt]
      exact ⟨⟨rfl,EntL.refl _,rfl⟩,⟨rfl,EntL.refl _,rfl⟩,⟨rfl,EntL.refl _,rfl⟩,⟨rfl,rfl,rfl,fun a ha j hj=>Ent.refl _⟩,trivial⟩) (by decide)⟩
    ·have e:k=S.length:=by omega
     subst e
     have pc:ctCol.pre (begF S,clsF S):=⟨d1.symm,(by show (begF S).length≤1000000;omega),fun i hi=>(by
      have hbd:=begF_bd (S:=S) (fun X hX=>(hS X hX).1) hi
      show 0≤(begF S).getD i default∧(begF S).getD i default≤1114112
      omega)⟩
     repeat' (first|refine gw ?_|(first|refine br ?_ ?_|refine brF ?_ ?_)<;>intro q_<;>try simp only[nz] at q_)
     rw[show ctCls.out l=ctCol.out (begF S,clsF S) by rw[hSd];rfl]
     exact EntR.of rfl (Ent.refl _)
   ·have hL:(begF S).length=(cutB S).length:=by
     unfold begF
     rw[if_neg (by rw[← hTn];exact hT)]
    have hBl:(begF S).length≤5000:=by omega
    repeat' (first|refine gw ?_|(first|refine br ?_ ?_|refine brF ?_ ?_)<;>intro q_<;>try simp only[nz] at q_)
    refine ⟨0,Nat,fun k=>⟨[(3,stsD S),(4,.own 0 0),(9,.own 1 0),(11,.fn 83 [.own 0 0,.own 1 0,.own 2 0]),(63,stsD S),(64,.v (.int .i64 S.length)),(65,.v (.int .i64 k))],[.cells 129 [intsD (begF S)],.cells 129 [.row 3],.cells 3 [.v (.int .i64 (dvA S k).2)],rowL 3 1 intD (dvA S k).1],[]⟩,fun k=>k≤S.length,fun k=>S.length - k,fun _=>Nat.zero_le _,⟨0,Nat.zero_le _,StLe.trans (StLe.frz (i:=0) (j:=0) rfl rfl rfl) (StLe.ren [0,4,5,3] ⟨Ent.refl _,rfl,Ent.refl _,rfl,Ent.refl _,rfl,Ent.refl _,rfl,Ent.refl _,rfl,Ent.refl _,rfl,Ent.refl _,rfl,trivial⟩ ⟨⟨rfl,EntL.cons (hEB hT) (EntL.refl []),rfl⟩,⟨rfl,EntL.refl _,rfl⟩,⟨rfl,EntL.refl _,rfl⟩,⟨rfl,rfl,(by
     show ((cutB S).length:Int).toNat=(List.replicate (begF S).length 0).length
     rw[List.length_replicate,hL]
     omega),fun a ha j hj=>Ent.of_eq (by
     obtain rfl:j=0:=(by omega)
     show D.v (.int .i64 0)=.v (.int .i64 ((List.replicate (begF S).length 0).getD a default))
     rw[rep0])⟩,trivial⟩ (by decide))⟩,?_⟩
    intro k (hk:k≤S.length)
    obtain ⟨d1,d2,d3⟩:=dvA_len (fun X hX=>(hS X hX).2) k hk
    by_cases hlt:k<S.length
    ·obtain ⟨hX1,hX2⟩:=hS _ (getD_mem' hlt)
     have hcn:(begF S).length*12*k≤5000*12*180:=Nat.mul_le_mul (Nat.mul_le_mul hBl (Nat.le_refl _)) (by omega)
     have hcn2:(((begF S).length*12*k:Nat):Int)=(begF S).length*(12:Nat)*k:=by simp only[Int.natCast_mul]
     repeat' (first|refine gw ?_|(first|refine br ?_ ?_|refine brF ?_ ?_)<;>intro q_<;>try simp only[nz] at q_)
     refine div_at (B:=begF S) (X:=S.getD k default) (s:=dvA S k) (begF_pos fun X hX=>(hS X hX).1) (by omega) (hB.1.imp fun h=>by omega) hX2 d1 ⟨by omega,by omega⟩ (fun f=>?_)
     repeat' (first|refine gw ?_|(first|refine br ?_ ?_|refine brF ?_ ?_)<;>intro q_<;>try simp only[nz] at q_)
     exact ⟨k+1,hlt,(by show S.length - (k+1)<S.length - k;omega),StLe.ren [0,1,2,3] tmS (by
      rw[dvA_succ hlt]
      exact ⟨⟨rfl,EntL.refl _,rfl⟩,⟨rfl,EntL.refl _,rfl⟩,⟨rfl,EntL.refl _,rfl⟩,⟨rfl,rfl,rfl,fun a ha j hj=>Ent.refl _⟩,trivial⟩) (by decide)⟩
    ·have e:k=S.length:=by omega
     subst e
     have pc:ctCol.pre (begF S,clsF S):=⟨d1.symm,(by show (begF S).length≤1000000;omega),fun i hi=>(by
      have hbd:=begF_bd (S:=S) (fun X hX=>(hS X hX).1) hi
      show 0≤(begF S).getD i default∧(begF S).getD i default≤1114112
      omega)⟩
     repeat' (first|refine gw ?_|(first|refine br ?_ ?_|refine brF ?_ ?_)<;>intro q_<;>try simp only[nz] at q_)
     rw[show ctCls.out l=ctCol.out (begF S,clsF S) by rw[hSd];rfl]
     exact EntR.of rfl (Ent.refl _)
 ·obtain ⟨S,hSd⟩:∃ S,S=setsOf l:=⟨_,rfl⟩
  have eS:setsOf l=[]:=if_neg hc
  have hSl:S.length≤180:=sets_len hSd hl
  have hAS:allS []=S:=(hSd.trans eS).symm
  repeat' (first|refine gw ?_|(first|refine br ?_ ?_|refine brF ?_ ?_)<;>intro q_<;>try simp only[nz] at q_)
  refine ⟨[],EntL.cons Ent.nil (EntL.refl []),sm_nil,?_⟩
  rw[show ctSets.out []=stsD S by rw[hSd,eS];rfl]
  simp only[setOwn,goneO,rowL,retD,nr,ns,Nat.reduceAdd,Nat.zero_add,reduceIte]
  repeat' (first|refine gw ?_|(first|refine br ?_ ?_|refine brF ?_ ?_)<;>intro q_<;>try simp only[nz] at q_)
  have hS:=sets_ok hSd hl
  refine ⟨0,Nat,fun k=>⟨[(3,stsD S),(4,.own 0 0),(20,stsD S),(21,.v (.int .i64 S.length)),(22,.v (.int .i64 k))],[.cells 129 [.row 1],rowL 3 1 intD (begA S k)],[]⟩,fun k=>k≤S.length,fun k=>S.length - k,fun _=>Nat.zero_le _,⟨0,Nat.zero_le _,StLe.ren [1,0] ⟨Ent.refl _,rfl,Ent.refl _,rfl,Ent.refl _,rfl,Ent.int (by rw[← hAS]),rfl,Ent.refl _,rfl,trivial⟩ ⟨⟨rfl,EntL.refl _,rfl⟩,⟨rfl,rfl,rfl,fun a ha j hj=>(by
   have ha0:a=0:=by omega
   have hj0:j=0:=by omega
   subst ha0 hj0
   exact Ent.refl _)⟩,trivial⟩ (by decide)⟩,?_⟩
  intro k (hk:k≤S.length)
  obtain ⟨hb0,hb1⟩:=begA_len S 12 (fun X hX=>(hS X hX).2) k hk
  by_cases hlt:k<S.length
  ·obtain ⟨hX1,hX2⟩:=hS _ (getD_mem' hlt)
   repeat' (first|refine gw ?_|(first|refine br ?_ ?_|refine brF ?_ ?_)<;>intro q_<;>try simp only[nz] at q_)
   refine ⟨0,Nat,fun m=>⟨[(3,stsD S),(4,.own 0 0),(20,stsD S),(21,.v (.int .i64 S.length)),(22,.v (.int .i64 k)),(27,rgsD (S.getD k default)),(28,.v (.int .i64 (S.getD k default).length)),(29,.v (.int .i64 m))],[.cells 129 [.row 1],rowL 3 1 intD (begK (begA S k) (S.getD k default) m)],[]⟩,fun m=>m≤(S.getD k default).length,fun m=>(S.getD k default).length - m,fun _=>Nat.zero_le _,⟨0,Nat.zero_le _,StLe.ren [0,1] tmS ⟨⟨rfl,EntL.refl _,rfl⟩,⟨rfl,rfl,rfl,fun a ha j hj=>Ent.refl _⟩,trivial⟩ (by decide)⟩,?_⟩
   intro m (hm:m≤(S.getD k default).length)
   have hbl:=begK_len (begA S k) (S.getD k default) m hm
   by_cases hml:m<(S.getD k default).length
   ·have hr:=(okS_canon hX1).ok _ (getD_mem' hml)
    repeat' (first|refine gw ?_|(first|refine br ?_ ?_|refine brF ?_ ?_)<;>intro q_<;>try simp only[nz] at q_)
    refine ⟨(by show (begK (begA S k) (S.getD k default) m).length+2≤9223372036854775807;omega),(by show ((begK (begA S k) (S.getD k default) m).length+2)*8≤140737488355328;omega),?_⟩
    repeat' (first|refine gw ?_|(first|refine br ?_ ?_|refine brF ?_ ?_)<;>intro q_<;>try simp only[nz] at q_)
    exact ⟨m+1,hml,(by show (S.getD k default).length - (m+1)<(S.getD k default).length - m;omega),StLe.ren [0,3] tmS ⟨⟨rfl,EntL.refl _,rfl⟩,(by rw[begK_succ hml];exact own_app22 (fun j hj=>by obtain rfl:j=0:=(by omega);exact Ent.refl _) (fun j hj=>by obtain rfl:j=0:=(by omega);exact Ent.refl _)),trivial⟩ (by decide)⟩
   ·have e:m=(S.getD k default).length:=by omega
    subst e
    repeat' (first|refine gw ?_|(first|refine br ?_ ?_|refine brF ?_ ?_)<;>intro q_<;>try simp only[nz] at q_)
    exact ⟨k+1,hlt,(by show S.length - (k+1)<S.length - k;omega),StLe.ren [0,1] tmS ⟨⟨rfl,EntL.refl _,rfl⟩,(by rw[begA_succ hlt];exact ⟨rfl,rfl,rfl,fun a ha j hj=>Ent.refl _⟩),trivial⟩ (by decide)⟩
  ·have e:k=S.length:=by omega
   subst e
   clear hlt
   have hB:=begF_spec (S:=S) (fun X hX=>(hS X hX).1)
   repeat' (first|refine gw ?_|(first|refine br ?_ ?_|refine brF ?_ ?_)<;>intro q_<;>try simp only[nz] at q_)
   refine ⟨1,_,_,begA S S.length,rfl,rfl,fun a ha=>Ent.refl _,by omega,by omega,?_⟩
   have hZl:(sortL (begA S S.length)).length=(begA S S.length).length:=List.length_mergeSort _
   repeat' (first|refine gw ?_|(first|refine br ?_ ?_|refine brF ?_ ?_)<;>intro q_<;>try simp only[nz] at q_)
   rw[← hZl]
   refine ⟨1,_,_,sortL (begA S S.length),rfl,rfl,fun a ha=>Ent.refl _,by omega,by omega,?_⟩
   have hC1:=cutB_pos S
   have hC2:(cutB S).length≤(begA S S.length).length:=by rw[← hZl];exact compact_le _
   rw[show Lib.compact (sortL (begA S S.length))=cutB S from rfl]
   have hTn:(((cutB S).length:Int) - 1).toNat=(cutB S).length - 1:=by omega
   by_cases hT:(cutB S).getD (((cutB S).length:Int) - 1).toNat default>1114111
   ·have hL:(begF S).length=(cutB S).length - 1:=by
     unfold begF
     rw[if_pos (by rw[← hTn];exact hT),List.length_take]
     omega
    have hBl:(begF S).length≤5000:=by omega
    repeat' (first|refine gw ?_|(first|refine br ?_ ?_|refine brF ?_ ?_)<;>intro q_<;>try simp only[nz] at q_)
    refine ⟨0,Nat,fun k=>⟨[(3,stsD S),(4,.own 0 0),(9,.own 1 0),(11,.fn 83 [.own 0 0,.own 1 0,.own 2 0]),(63,stsD S),(64,.v (.int .i64 S.length)),(65,.v (.int .i64 k))],[.cells 129 [intsD (begF S)],.cells 129 [.row 3],.cells 3 [.v (.int .i64 (dvA S k).2)],rowL 3 1 intD (dvA S k).1],[]⟩,fun k=>k≤S.length,fun k=>S.length - k,fun _=>Nat.zero_le _,⟨0,Nat.zero_le _,StLe.ren [0,4,5,3] ⟨Ent.refl _,rfl,Ent.refl _,rfl,Ent.refl _,rfl,Ent.refl _,rfl,Ent.refl _,rfl,Ent.refl _,rfl,Ent.refl _,rfl,trivial⟩ ⟨⟨rfl,EntL.cons (hEA hT) (EntL.refl []),rfl⟩,⟨rfl,EntL.refl _,rfl⟩,⟨rfl,EntL.refl _,rfl⟩,⟨rfl,rfl,(by
     show ((((cutB S).length:Int) - 1).toNat:Int).toNat=(List.replicate (begF S).length 0).length
     rw[List.length_replicate,hL]
     omega),fun a ha j hj=>Ent.of_eq (by
     obtain rfl:j=0:=(by omega)
     show D.v (.int .i64 0)=.v (.int .i64 ((List.replicate (begF S).length 0).getD a default))
     rw[rep0])⟩,trivial⟩ (by decide)⟩,?_⟩
    intro k (hk:k≤S.length)
    obtain ⟨d1,d2,d3⟩:=dvA_len (fun X hX=>(hS X hX).2) k hk
    by_cases hlt:k<S.length
    ·obtain ⟨hX1,hX2⟩:=hS _ (getD_mem' hlt)
     have hcn:(begF S).length*12*k≤5000*12*180:=Nat.mul_le_mul (Nat.mul_le_mul hBl (Nat.le_refl _)) (by omega)
     have hcn2:(((begF S).length*12*k:Nat):Int)=(begF S).length*(12:Nat)*k:=by simp only[Int.natCast_mul]
     repeat' (first|refine gw ?_|(first|refine br ?_ ?_|refine brF ?_ ?_)<;>intro q_<;>try simp only[nz] at q_)
     refine div_at (B:=begF S) (X:=S.getD k default) (s:=dvA S k) (begF_pos fun X hX=>(hS X hX).1) (by omega) (hB.1.imp fun h=>by omega) hX2 d1 ⟨by omega,by omega⟩ (fun f=>?_)
     repeat' (first|refine gw ?_|(first|refine br ?_ ?_|refine brF ?_ ?_)<;>intro q_<;>try simp only[nz] at q_)
     exact ⟨k+1,hlt,(by show S.length - (k+1)<S.length - k;omega),StLe.ren [0,1,2,3] tmS (by
      rw[dvA_succ hlt]
      exact ⟨⟨rfl,EntL.refl _,rfl⟩,⟨rfl,EntL.refl _,rfl⟩,⟨rfl,EntL.refl _,rfl⟩,⟨rfl,rfl,rfl,fun a ha j hj=>Ent.refl _⟩,trivial⟩) (by decide)⟩
    ·have e:k=S.length:=by omega
     subst e
     have pc:ctCol.pre (begF S,clsF S):=⟨d1.symm,(by show (begF S).length≤1000000;omega),fun i hi=>(by
      have hbd:=begF_bd (S:=S) (fun X hX=>(hS X hX).1) hi
      show 0≤(begF S).getD i default∧(begF S).getD i default≤1114112
      omega)⟩
     repeat' (first|refine gw ?_|(first|refine br ?_ ?_|refine brF ?_ ?_)<;>intro q_<;>try simp only[nz] at q_)
     rw[show ctCls.out l=ctCol.out (begF S,clsF S) by rw[hSd];rfl]
     exact EntR.of rfl (Ent.refl _)
   ·have hL:(begF S).length=(cutB S).length:=by
     unfold begF
     rw[if_neg (by rw[← hTn];exact hT)]
    have hBl:(begF S).length≤5000:=by omega
    repeat' (first|refine gw ?_|(first|refine br ?_ ?_|refine brF ?_ ?_)<;>intro q_<;>try simp only[nz] at q_)
    refine ⟨0,Nat,fun k=>⟨[(3,stsD S),(4,.own 0 0),(9,.own 1 0),(11,.fn 83 [.own 0 0,.own 1 0,.own 2 0]),(63,stsD S),(64,.v (.int .i64 S.length)),(65,.v (.int .i64 k))],[.cells 129 [intsD (begF S)],.cells 129 [.row 3],.cells 3 [.v (.int .i64 (dvA S k).2)],rowL 3 1 intD (dvA S k).1],[]⟩,fun k=>k≤S.length,fun k=>S.length - k,fun _=>Nat.zero_le _,⟨0,Nat.zero_le _,StLe.trans (StLe.frz (i:=0) (j:=0) rfl rfl rfl) (StLe.ren [0,4,5,3] ⟨Ent.refl _,rfl,Ent.refl _,rfl,Ent.refl _,rfl,Ent.refl _,rfl,Ent.refl _,rfl,Ent.refl _,rfl,Ent.refl _,rfl,trivial⟩ ⟨⟨rfl,EntL.cons (hEB hT) (EntL.refl []),rfl⟩,⟨rfl,EntL.refl _,rfl⟩,⟨rfl,EntL.refl _,rfl⟩,⟨rfl,rfl,(by
     show ((cutB S).length:Int).toNat=(List.replicate (begF S).length 0).length
     rw[List.length_replicate,hL]
     omega),fun a ha j hj=>Ent.of_eq (by
     obtain rfl:j=0:=(by omega)
     show D.v (.int .i64 0)=.v (.int .i64 ((List.replicate (begF S).length 0).getD a default))
     rw[rep0])⟩,trivial⟩ (by decide))⟩,?_⟩
    intro k (hk:k≤S.length)
    obtain ⟨d1,d2,d3⟩:=dvA_len (fun X hX=>(hS X hX).2) k hk
    by_cases hlt:k<S.length
    ·obtain ⟨hX1,hX2⟩:=hS _ (getD_mem' hlt)
     have hcn:(begF S).length*12*k≤5000*12*180:=Nat.mul_le_mul (Nat.mul_le_mul hBl (Nat.le_refl _)) (by omega)
     have hcn2:(((begF S).length*12*k:Nat):Int)=(begF S).length*(12:Nat)*k:=by simp only[Int.natCast_mul]
     repeat' (first|refine gw ?_|(first|refine br ?_ ?_|refine brF ?_ ?_)<;>intro q_<;>try simp only[nz] at q_)
     refine div_at (B:=begF S) (X:=S.getD k default) (s:=dvA S k) (begF_pos fun X hX=>(hS X hX).1) (by omega) (hB.1.imp fun h=>by omega) hX2 d1 ⟨by omega,by omega⟩ (fun f=>?_)
     repeat' (first|refine gw ?_|(first|refine br ?_ ?_|refine brF ?_ ?_)<;>intro q_<;>try simp only[nz] at q_)
     exact ⟨k+1,hlt,(by show S.length - (k+1)<S.length - k;omega),StLe.ren [0,1,2,3] tmS (by
      rw[dvA_succ hlt]
      exact ⟨⟨rfl,EntL.refl _,rfl⟩,⟨rfl,EntL.refl _,rfl⟩,⟨rfl,EntL.refl _,rfl⟩,⟨rfl,rfl,rfl,fun a ha j hj=>Ent.refl _⟩,trivial⟩) (by decide)⟩
    ·have e:k=S.length:=by omega
     subst e
     have pc:ctCol.pre (begF S,clsF S):=⟨d1.symm,(by show (begF S).length≤1000000;omega),fun i hi=>(by
      have hbd:=begF_bd (S:=S) (fun X hX=>(hS X hX).1) hi
      show 0≤(begF S).getD i default∧(begF S).getD i default≤1114112
      omega)⟩
     repeat' (first|refine gw ?_|(first|refine br ?_ ?_|refine brF ?_ ?_)<;>intro q_<;>try simp only[nz] at q_)
     rw[show ctCls.out l=ctCol.out (begF S,clsF S) by rw[hSd];rfl]
     exact EntR.of rfl (Ent.refl _)
end Go.Proofs
