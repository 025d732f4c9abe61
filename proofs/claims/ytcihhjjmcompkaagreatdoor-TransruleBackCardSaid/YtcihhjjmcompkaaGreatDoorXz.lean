import Derived.Test.YtcihhjjmcompkaaGreatDoorRa0
import Derived.Test.YtcihhjjmcompkaaGreatDoorE8
import Derived.Test.YtcihhjjmcompkaaGreatDoorEa
import Derived.Test.YtcihhjjmcompkaaGreatDoorX9
import Derived.Test.YtcihhjjmcompkaaGreatDoorLz
set_option linter.unusedVariables false
set_option linter.unusedSimpArgs false
namespace Go.Proofs
open Go Go.Sx
variable {mx:Int}{pb:Bool}
theorem Γ0n_ok:za1 Tryz.prog (fun _=>none) Γ0:=fun f h hh=>by simp[Γ0] at hh
theorem quietR:zih Tryz.prog 120:=by
 refine dquiet_of (cc:=true) Γ0n_ok Tryz.T_ok Tryz.mixed Tryz.func120 (by kernel_rfl) rfl rfl rfl (by decide) (by decide) ?_
 exact And.intro (fun h=>Bool.noConfusion h) (fun _=>And.intro rfl trivial)
theorem quietE:zih Tryz.prog 53:=by
 refine dquiet_of (cc:=true) Γ0n_ok Tryz.T_ok Tryz.mixed Tryz.func53 (by kernel_rfl) rfl rfl rfl (by decide) (by decide) ?_
 exact And.intro (fun h=>Bool.noConfusion h) (fun _=>And.intro rfl trivial)
end Go.Proofs
namespace Go.Proofs
open Go Go.Sx
variable {mx:Int}{pb:Bool}
attribute [local irreducible] exPs exCk zcc zgw
theorem xGrp_ok:∀ n,n≤17→zbt Tryz.prog (GlT mx pb) 57 (ocGrp n)
 | 0,_=>xGrp_0 0 rfl
 | n+1,h=>xGrp_step (by omega) (xGrp_ok n (by omega))
noncomputable def ctPrs:Ct:={ ι:=Db × ByteArray,inp:=fun x=>[dbA x.1,.v (.string x.2)],out:=fun x=>.tu [zbu (prs x.1 x.2).1,.ag [.v (.int .i64 (prs x.1 x.2).2.1),.v (.int .i64 (prs x.1 x.2).2.2)]],pre:=fun x=>SmD x.1 }
noncomputable def Γps (mx:Int) (pb:Bool):Ctx:=fun f=>match f with
 | 55=>some (.obj zid)
 | 56=>some (.obj zg5)
 | 54=>some (.obj zi7)
 | 57=>some (.obj (ocGrp 17))
 | 53=>some .recov
 | _=>none
theorem Γps_ok:za1 Tryz.prog (GlT mx pb) (Γps mx pb):=by
 intro f h hh
 simp only[Γps] at hh
 split at hh<;>simp at hh<;>subst hh
 ·exact zek
 ·exact zdi
 ·exact zht
 ·exact xGrp_ok 17 (by decide)
 ·exact quietE
set_option maxHeartbeats 16000000 in
theorem prsC_ok:zay Tryz.prog (GlT mx pb) 18 ctPrs:=by
 refine sound_rec (cc:=true) (m:=3) Γps_ok Tryz.T_ok Tryz.mixed Tryz.func18 rfl (by kernel_rfl) (fun _=>rfl) (fun _ _=>by show 2≤_;decide) Tryz.func53 rfl rfl rfl (by decide) (by decide) ?_
 rintro ⟨d,s⟩ (hd:SmD d)
 by_cases hs:s.size≤65536
 ·have hS:OkS d s:=⟨hd,hs⟩
  have ho:ctPrs.out (d,s)=.tu [zbu (prsP (zeu d s hS)).1,.ag [.v (.int .i64 (prsP (zeu d s hS)).2.1),.v (.int .i64 (prsP (zeu d s hS)).2.2)]]:=by
   show D.tu [zbu (prs d s).1,.ag [.v (.int .i64 (prs d s).2.1),.v (.int .i64 (prs d s).2.2)]]=_
   rw[prs_at hS]
  rw[ho]
  repeat' (first|refine gw ?_|(first|refine br ?_ ?_|refine brF ?_ ?_)<;>intro q_<;>try simp only[nz] at q_)
  ·exfalso
   omega
  refine ⟨(zeu d s hS:PX),obE (zan (zeu d s hS)),zaa _,trivial,?_⟩
  repeat' (first|refine gw ?_|(first|refine br ?_ ?_|refine brF ?_ ?_)<;>intro q_<;>try simp only[nz] at q_)
  refine ⟨(blP (zeu d s hS):PX),obE (zan (blP (zeu d s hS))),zaa _,trivial,?_⟩
  by_cases h91:pkV (blP (zeu d s hS)).1=91
  ·repeat' (first|refine gw ?_|(first|refine br ?_ ?_|refine brF ?_ ?_)<;>intro q_<;>try simp only[nz] at q_)
   have hP:prsP (zeu d s hS)=(match za5 17 (blP (zeu d s hS)) with
    | .bad e a _=>([],e,a)
    | .ok L q=>prsE (zeu d s hS) q L):=if_pos h91
   cases hg:za5 17 (blP (zeu d s hS)) with
   | bad e b q =>
    rw[hg] at hP
    refine ⟨((blP (zeu d s hS),0,.bad e b q):PX × Int × OutP),obE (zan (blP (zeu d s hS))),zaa _,⟨⟨h91,by show (0:Int)=17 - ((17:Nat):Int);decide⟩,by show (za5 17 _).p zbu=_;rw[hg];rfl⟩,?_⟩
    rw[hP]
    refine And.intro rfl ?_
    simp only[zai,zbm,zb3,zc5,nr,ns,Nat.reduceAdd,Nat.zero_add,reduceIte]
    repeat' (first|refine gx ?_|(first|refine br ?_ ?_|refine brF ?_ ?_)<;>intro q_<;>try simp only[nz] at q_)
    refine .inr ⟨.stage [0,1,2] (.alt 3 [1,2] (.stage [] (.alt 4 [] (.done []) .nil)) .nil),by decide +kernel,?_⟩
    refine xs1 ?_
    repeat' (first|refine gx ?_|refine xp1 ?_|refine xp0 ?_|refine xc1 ?_ ?_|refine xc0 ?_|refine xs1 ?_|refine xs2 ?_|refine xs3 ?_|refine xs4 ?_ ?_|refine xa1 ?_|exact rfl)
    exact EntR.of rfl (Ent.tu2 (Ent.ag (EntL.cons Ent.nil (zaa _))) (zab _))
   | ok L q =>
    rw[hg] at hP
    refine ⟨((blP (zeu d s hS),0,.ok (zbu L) q):PX × Int × OutP),obE (zan (blP (zeu d s hS))),zaa _,⟨⟨h91,by show (0:Int)=17 - ((17:Nat):Int);decide⟩,by show (za5 17 _).p zbu=_;rw[hg];rfl⟩,?_⟩
    have hs2:q.1.s=s:=(zbs 17 _ _ _ h91 hg).s
    have g1:(blP q).1.k≤(blP q).1.s.size:=(blP q).2.2.1
    have g2:(blP q).1.s.size≤65536:=(blP q).2.2.2
    repeat' (first|refine gw ?_|(first|refine br ?_ ?_|refine brF ?_ ?_)<;>intro q_<;>try simp only[nz] at q_)
    refine ⟨(q:PX),obE (zan q),zaa _,trivial,?_⟩
    by_cases hlt:((blP q).1.k:Int)<s.size
    ·have hE:prsE (zeu d s hS) q L=([],3,((blP q).1.k:Int)):=if_pos (show (blP q).1.k<s.size by omega)
     rw[hP.trans hE]
     repeat' (first|refine gw ?_|(first|refine br ?_ ?_|refine brF ?_ ?_)<;>intro q_<;>try simp only[nz] at q_)
     refine ⟨((blP q,3,((blP q).1.k:Int)):PX × Int × Int),obE (zan (blP q)),zaa _,trivial,?_⟩
     refine And.intro rfl ?_
     simp only[zai,zbm,zb3,zc5,nr,ns,Nat.reduceAdd,Nat.zero_add,reduceIte]
     repeat' (first|refine gx ?_|(first|refine br ?_ ?_|refine brF ?_ ?_)<;>intro q_<;>try simp only[nz] at q_)
     refine .inr ⟨.stage [0,1,2] (.alt 3 [1,2] (.stage [] (.alt 4 [] (.done []) .nil)) .nil),by decide +kernel,?_⟩
     refine xs1 ?_
     repeat' (first|refine gx ?_|refine xp1 ?_|refine xp0 ?_|refine xc1 ?_ ?_|refine xc0 ?_|refine xs1 ?_|refine xs2 ?_|refine xs3 ?_|refine xs4 ?_ ?_|refine xa1 ?_|exact rfl)
     exact EntR.of rfl (Ent.tu2 (Ent.ag (EntL.cons Ent.nil (zaa _))) (zab _))
    ·have hE:prsE (zeu d s hS) q L=(L,0,0):=if_neg (show ¬(blP q).1.k<s.size by omega)
     rw[hP.trans hE]
     repeat' (first|refine gw ?_|(first|refine br ?_ ?_|refine brF ?_ ?_)<;>intro q_<;>try simp only[nz] at q_)
     exact EntR.of rfl (Ent.tu2 (zab _) (zab _))
  ·have hP:prsP (zeu d s hS)=([],3,((blP (zeu d s hS)).1.k:Int)):=if_neg h91
   rw[hP]
   repeat' (first|refine gw ?_|(first|refine br ?_ ?_|refine brF ?_ ?_)<;>intro q_<;>try simp only[nz] at q_)
   refine ⟨((blP (zeu d s hS),3,((blP (zeu d s hS)).1.k:Int)):PX × Int × Int),obE (zan (blP (zeu d s hS))),zaa _,trivial,?_⟩
   refine And.intro rfl ?_
   simp only[zai,zbm,zb3,zc5,nr,ns,Nat.reduceAdd,Nat.zero_add,reduceIte]
   repeat' (first|refine gx ?_|(first|refine br ?_ ?_|refine brF ?_ ?_)<;>intro q_<;>try simp only[nz] at q_)
   refine .inr ⟨.stage [0,1,2] (.alt 3 [1,2] (.stage [] (.alt 4 [] (.done []) .nil)) .nil),by decide +kernel,?_⟩
   refine xs1 ?_
   repeat' (first|refine gx ?_|refine xp1 ?_|refine xp0 ?_|refine xc1 ?_ ?_|refine xc0 ?_|refine xs1 ?_|refine xs2 ?_|refine xs3 ?_|refine xs4 ?_ ?_|refine xa1 ?_|exact rfl)
   exact EntR.of rfl (Ent.tu2 (Ent.ag (EntL.cons Ent.nil (zaa _))) (zab _))
 ·have ho:ctPrs.out (d,s)=.tu [zbu [],.ag [.v (.int .i64 2),.v (.int .i64 0)]]:=by
   show D.tu [zbu (prs d s).1,.ag [.v (.int .i64 (prs d s).2.1),.v (.int .i64 (prs d s).2.2)]]=_
   rw[show prs d s=([],2,0) from dif_neg fun h=>hs h.2]
  rw[ho]
  repeat' (first|refine gw ?_|(first|refine br ?_ ?_|refine brF ?_ ?_)<;>intro q_<;>try simp only[nz] at q_)
  ·exact EntR.of rfl (Ent.tu2 (Ent.ag (EntL.cons Ent.nil (zaa _))) (zab _))
  ·exfalso
   omega
end Go.Proofs
