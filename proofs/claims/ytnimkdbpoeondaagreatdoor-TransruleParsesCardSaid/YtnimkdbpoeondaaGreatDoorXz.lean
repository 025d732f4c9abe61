import Derived.Test.YtnimkdbpoeondaaGreatDoorX9
import Derived.Test.YtnimkdbpoeondaaGreatDoorLz
set_option linter.all false
set_option maxHeartbeats 4000000
namespace Go.Proofs
open Go Go.Sx
variable {mx:Int}{pb:Bool}
theorem Γ0n_ok:CtxOk Tryz.prog (fun _=>none) Γ0:=fun f h hh=>by simp[Γ0] at hh
theorem quietR:zb5 Tryz.prog 41:=by
 refine zmb (cc:=true) Γ0n_ok Tryz.T_ok Tryz.mixed Tryz.func41 (by kernel_rfl) rfl rfl rfl (by decide) (by decide) ?_;exact And.intro (fun h=>Bool.noConfusion h) (fun _=>And.intro rfl trivial)
theorem quietE:zb5 Tryz.prog 127:=by
 refine zmb (cc:=true) Γ0n_ok Tryz.T_ok Tryz.mixed Tryz.func127 (by kernel_rfl) rfl rfl rfl (by decide) (by decide) ?_;exact And.intro (fun h=>Bool.noConfusion h) (fun _=>And.intro rfl trivial)
attribute [local irreducible] zbs zbi yf xD
theorem xGrp_ok:∀ n,n<=17->SQ mx pb 131 (zgz n)
 | 0,_=>xGrp_0 0 rfl
 | n+1,h=>xGrp_step (by omega) (xGrp_ok n (by omega))
noncomputable def ctPrs:Ct:={ ι:=Db × ByteArray,inp:=fun x=>[dbA x.1,.v (.string x.2)],out:=fun x=>.tu [zR (prs x.1 x.2).1,.ag [.v (.int .i64 (prs x.1 x.2).2.1),.v (.int .i64 (prs x.1 x.2).2.2)]],pre:=fun x=>SmD x.1 }
noncomputable def Γps (mx:Int) (pb:Bool):Ctx:=fun f=>match f with
 | 129=>some (.obj zbx)
 | 130=>some (.obj zal)
 | 128=>some (.obj zcu)
 | 131=>some (.obj (zgz 17))
 | 127=>some .recov
 | _=>none
theorem Γps_ok:CK mx pb (Γps mx pb):=by
 intro f h hh;simp only[Γps] at hh;split at hh<;>simp at hh<;>subst hh
 ·exact uz
 ·exact xF
 ·exact za9
 ·exact xGrp_ok 17 (by decide)
 ·exact quietE
theorem prsC_ok:SS mx pb 103 ctPrs:=by
 refine zkr (cc:=true) (m:=3) Γps_ok Tryz.T_ok Tryz.mixed Tryz.func103 rfl (by kernel_rfl) (fun _=>rfl) (fun _ _=>by show 2<=_;decide) Tryz.func127 rfl rfl rfl (by decide) (by decide) ?_;rintro ⟨d,s⟩ (hd:SmD d)
 by_cases hs:s.size<=65536
 ·have hS:OkS d s:=⟨hd,hs⟩
  have ho:ctPrs.out (d,s)=.tu [zR (prsP (yY d s hS)).1,.ag [.v (.int .i64 (prsP (yY d s hS)).2.1),.v (.int .i64 (prsP (yY d s hS)).2.2)]]:=by
   show D.tu [zR (prs d s).1,.ag [.v (.int .i64 (prs d s).2.1),.v (.int .i64 (prs d s).2.2)]]=_;rw[zk7 hS]
  rw[ho]
  repeat' first|refine gw ?_|refine bs ?_ ?_<;>intro q_
  ·exfalso;omega
  refine ⟨(yY d s hS:PX),obE (zm (yY d s hS)),eL,trivial,?_⟩
  refine gw ?_;refine ⟨(blP (yY d s hS):PX),obE (zm (blP (yY d s hS))),eL,trivial,?_⟩
  by_cases h91:pkV (blP (yY d s hS)).1=91
  ·refine gw ?_;have hP:prsP (yY d s hS)=(match zB 17 (blP (yY d s hS)) with
    | .bad e a _=>([],e,a)
    | .ok L q=>prsE (yY d s hS) q L):=if_pos h91
   cases hg:zB 17 (blP (yY d s hS)) with
   | bad e b q =>
    rw[hg] at hP;refine ⟨((blP (yY d s hS),0,.bad e b q):PX × Int × OutP),obE (zm (blP (yY d s hS))),eL,⟨⟨h91,by show (0:Int)=17 - ((17:Nat):Int);decide⟩,by show (zB 17 _).p zR=_;rw[hg];rfl⟩,?_⟩
    rw[hP];refine And.intro rfl ?_;simp only[nq,zG,zW,nr,ns,Nat.reduceAdd,reduceIte];refine gx ?_;refine .inr ⟨.stage [0,1,2] (.alt 3 [1,2] (.stage [] (.alt 4 [] (.done []) .nil)) .nil),by decide +kernel,?_⟩
    refine xs1 ?_
    repeat' first|refine gx ?_|refine gy ?_|refine xc1 ?_ ?_|refine xs4 ?_ ?_|exact rfl
    exact EntR.of rfl (Ent.tu2 (Ent.ag (EntL.cons Ent.nil eL)) eE)
   | ok L q =>
    rw[hg] at hP;refine ⟨((blP (yY d s hS),0,.ok (zR L) q):PX × Int × OutP),obE (zm (blP (yY d s hS))),eL,⟨⟨h91,by show (0:Int)=17 - ((17:Nat):Int);decide⟩,by show (zB 17 _).p zR=_;rw[hg];rfl⟩,?_⟩
    have hs2:q.1.s=s:=(zQ 17 _ _ _ h91 hg).s;have g1:(blP q).1.k<=(blP q).1.s.size:=(blP q).2.2.1;have g2:(blP q).1.s.size<=65536:=(blP q).2.2.2;refine gw ?_;refine ⟨(q:PX),obE (zm q),eL,trivial,?_⟩
    by_cases hlt:((blP q).1.k:Int)<s.size
    ·have hE:prsE (yY d s hS) q L=([],3,((blP q).1.k:Int)):=if_pos (show (blP q).1.k<s.size by omega)
     rw[hP.trans hE];refine gw ?_;refine ⟨((blP q,3,((blP q).1.k:Int)):PX × Int × Int),obE (zm (blP q)),eL,trivial,?_⟩
     refine And.intro rfl ?_;simp only[nq,zG,zW,nr,ns,Nat.reduceAdd,reduceIte];refine gx ?_;refine .inr ⟨.stage [0,1,2] (.alt 3 [1,2] (.stage [] (.alt 4 [] (.done []) .nil)) .nil),by decide +kernel,?_⟩
     refine xs1 ?_
     repeat' first|refine gx ?_|refine gy ?_|refine xc1 ?_ ?_|refine xs4 ?_ ?_|exact rfl
     exact EntR.of rfl (Ent.tu2 (Ent.ag (EntL.cons Ent.nil eL)) eE)
    ·have hE:prsE (yY d s hS) q L=(L,0,0):=if_neg (show ¬(blP q).1.k<s.size by omega)
     rw[hP.trans hE];refine gw ?_;exact EntR.of rfl (Ent.tu2 eE eE)
  ·have hP:prsP (yY d s hS)=([],3,((blP (yY d s hS)).1.k:Int)):=if_neg h91;rw[hP];refine gw ?_;refine ⟨((blP (yY d s hS),3,((blP (yY d s hS)).1.k:Int)):PX × Int × Int),obE (zm (blP (yY d s hS))),eL,trivial,?_⟩
   refine And.intro rfl ?_;simp only[nq,zG,zW,nr,ns,Nat.reduceAdd,reduceIte];refine gx ?_;refine .inr ⟨.stage [0,1,2] (.alt 3 [1,2] (.stage [] (.alt 4 [] (.done []) .nil)) .nil),by decide +kernel,?_⟩
   refine xs1 ?_
   repeat' first|refine gx ?_|refine gy ?_|refine xc1 ?_ ?_|refine xs4 ?_ ?_|exact rfl
   exact EntR.of rfl (Ent.tu2 (Ent.ag (EntL.cons Ent.nil eL)) eE)
 ·have ho:ctPrs.out (d,s)=.tu [zR [],.ag [.v (.int .i64 2),.v (.int .i64 0)]]:=by
   show D.tu [zR (prs d s).1,.ag [.v (.int .i64 (prs d s).2.1),.v (.int .i64 (prs d s).2.2)]]=_;rw[show prs d s=([],2,0) from dif_neg fun h=>hs h.2]
  rw[ho]
  repeat' first|refine gw ?_|refine bs ?_ ?_<;>intro q_
  ·exact EntR.of rfl (Ent.tu2 (Ent.ag (EntL.cons Ent.nil eL)) eE)
  ·exfalso;omega
end Go.Proofs
