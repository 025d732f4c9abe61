import Derived.Test.YtcihhjjmcompkaaGreatDoorDz
import Derived.Test.YtcihhjjmcompkaaGreatDoorSoz
import Derived.Test.YtcihhjjmcompkaaGreatDoorP1
set_option linter.unusedVariables false
set_option linter.unusedSimpArgs false
namespace Go.Proofs
open Go Go.Sx
variable {mx:Int}{pb:Bool}
def clsIn (s:Sp):Prop:=0≤s.lo∧s.lo≤s.hi∧s.hi≤1114111∧1≤s.val∧s.val≤254
def clsAt (l:List Sp) (i:Nat):Prop:=clsIn (l.getD i default)∧(0<i→spAft (l.getD (i - 1) default) (l.getD i default))
def clsOk (l:List Sp):Prop:=∀ i,i<l.length→clsAt l i
open Classical in
noncomputable def clsB (l:List Sp):Bool:=decide (clsOk l)
theorem clsB_t {l:List Sp}(h:clsOk l):true=clsB l:=(@decide_eq_true _ (Classical.propDecidable _) h).symm
theorem clsB_f {l:List Sp}(h:¬clsOk l):false=clsB l:=(@decide_eq_false _ (Classical.propDecidable _) h).symm
noncomputable def ptE:Pt→Int
 | .pr p=>if zb4 p=true then 0 else 11
 | .cl l=>if clsB l=true then 0 else 11
 | .st l=>if canon l=l then 0 else 11
 | .mp l=>zdo l
noncomputable def fileE (d:Db):Nat→Int
 | 0=>0
 | k+1=>ptE (partOf d k)
noncomputable def firstE (d:Db):Int:=match (List.range 21).find? (fun k=>decide (fileE d k≠0)) with|some k=>fileE d k|none=>0
theorem firstE_at {d:Db}{k:Nat}(hk:k<21) (hn:∀ j,j<k→fileE d j=0) (h:¬fileE d k=0):firstE d=fileE d k:=by
 have:(List.range 21).find? (fun k=>decide (fileE d k≠0))=some k:=by
  rw[List.find?_range_eq_some]
  refine ⟨decide_eq_true h,List.mem_range.2 hk,fun j hj=>?_⟩
  rw[decide_eq_false (fun hh=>hh (hn j hj))]
  rfl
 rw[firstE,this]
theorem firstE_0 {d:Db}(hn:∀ j,j<21→fileE d j=0):firstE d=0:=by
 have:(List.range 21).find? (fun k=>decide (fileE d k≠0))=none:=by
  rw[List.find?_eq_none]
  intro j hj
  rw[decide_eq_false (fun hh=>hh (hn j (List.mem_range.1 hj)))]
  decide
 rw[firstE,this]
def verOk (d:Db):Prop:=0≤d.maj∧d.maj≤9999∧0≤d.mnr∧d.mnr≤9999
instance (d:Db):Decidable (verOk d):=inferInstanceAs (Decidable (_∧_))
noncomputable def dbE (d:Db):Int:=if verOk d then firstE d else 1
noncomputable def ctDbE:Ct:={ ι:=Db,inp:=fun d=>[dbA d],out:=fun d=>.v (.int .i64 (dbE d)),pre:=SmD }
end Go.Proofs
namespace Go.Proofs
open Go Go.Sx
variable {mx:Int}{pb:Bool}
noncomputable def cFind:Code:=(Tryz.f269.body).getD .skip
noncomputable def cCkV:Code:=(Tryz.f310.body).getD .skip
noncomputable def cCkP:Code:=(Tryz.f313.body).getD .skip
noncomputable def cCkC:Code:=(Tryz.f316.body).getD .skip
noncomputable def cCkM:Code:=(Tryz.f319.body).getD .skip
noncomputable def cCkS:Code:=(Tryz.f329.body).getD .skip
noncomputable def Γkp:Ctx:=fun f=>match f with
 | 271=>some (.pure ctPV)
 | _=>none
theorem Γkp_ok:za1 Tryz.prog (GlT mx pb) Γkp:=by
 intro f h hh
 simp only[Γkp] at hh
 split at hh<;>simp at hh<;>subst hh
 ·exact pValid_ok
noncomputable def Γkm:Ctx:=fun f=>match f with
 | 322=>some (.pure ctCheck)
 | _=>none
theorem Γkm_ok:za1 Tryz.prog (GlT mx pb) Γkm:=by
 intro f h hh
 simp only[Γkm] at hh
 split at hh<;>simp at hh<;>subst hh
 ·exact check_ok
noncomputable def Γks:Ctx:=fun f=>match f with
 | 44=>some (.pure ctVs)
 | _=>none
theorem Γks_ok:za1 Tryz.prog (GlT mx pb) Γks:=by
 intro f h hh
 simp only[Γks] at hh
 split at hh<;>simp at hh<;>subst hh
 ·exact pVs_ok
noncomputable def Γdk (mx:Int) (pb:Bool):Ctx:=fun f=>match f with
 | 268=>some (.pure ctFiles)
 | 269=>some (.gen (ziq true Γ0 Tryz.T (GlT mx pb) Tryz.f269 cFind))
 | 310=>some (.gen (ziq true Γ0 Tryz.T (GlT mx pb) Tryz.f310 cCkV))
 | 313=>some (.gen (ziq true Γkp Tryz.T (GlT mx pb) Tryz.f313 cCkP))
 | 316=>some (.gen (ziq true Γ0 Tryz.T (GlT mx pb) Tryz.f316 cCkC))
 | 319=>some (.gen (ziq true Γkm Tryz.T (GlT mx pb) Tryz.f319 cCkM))
 | 329=>some (.gen (ziq true Γks Tryz.T (GlT mx pb) Tryz.f329 cCkS))
 | _=>none
theorem Γdk_ok:za1 Tryz.prog (GlT mx pb) (Γdk mx pb):=by
 intro f h hh
 simp only[Γdk] at hh
 split at hh<;>simp at hh<;>subst hh
 ·exact pFiles_ok
 ·exact zax zbj Tryz.T_ok Tryz.mixed Tryz.func269 rfl (by kernel_rfl)
 ·exact zax zbj Tryz.T_ok Tryz.mixed Tryz.func310 rfl (by kernel_rfl)
 ·exact zax Γkp_ok Tryz.T_ok Tryz.mixed Tryz.func313 rfl (by kernel_rfl)
 ·exact zax zbj Tryz.T_ok Tryz.mixed Tryz.func316 rfl (by kernel_rfl)
 ·exact zax Γkm_ok Tryz.T_ok Tryz.mixed Tryz.func319 rfl (by kernel_rfl)
 ·exact zax Γks_ok Tryz.T_ok Tryz.mixed Tryz.func329 rfl (by kernel_rfl)
theorem StLe.m1a {tm tm':List (Nat × D)}{ow ow':List Own}(h1:renT [0,1] tm tm') (h2:renO [0,1] ow [0,1] ow'):StLe 1 ⟨tm,ow,[]⟩ ⟨tm',ow',[]⟩:=zaq [0,1] h1 h2 (by decide) (by decide) (by simp)
set_option maxHeartbeats 64000000 in
theorem pDbE_ok:zay Tryz.prog (GlT mx pb) 243 ctDbE:=by
 refine zah (cc:=true) Γdk_ok Tryz.T_ok Tryz.mixed Tryz.func243 rfl (by kernel_rfl) (fun _=>rfl) (fun _ _=>by show 1≤19;decide) ?_
 intro (d:Db) (hs:SmD d)
 have hlen:=filesL_len
 repeat' (first|refine gd ?_|(first|refine br ?_ ?_|refine brF ?_ ?_)<;>intro q_<;>try simp only[nz] at q_)
 refine ⟨0,Nat,fun k=>⟨[(1,.own 0 0),(6,slD 1 zg7 filesL),(7,.v (.int .i64 filesL.length)),(8,.v (.int .i64 k))],[.cells 47 (dbL d)],[]⟩,fun k=>k≤21∧(∀ j,j<k→fileE d j=0)∧(0<k→verOk d),fun k=>21 - k,fun _=>Nat.zero_le _,⟨0,⟨Nat.zero_le _,fun j hj=>by omega,fun h=>by omega⟩,zaf [0] tmS ⟨⟨rfl,zaa _,rfl⟩,trivial⟩ (by decide)⟩,?_⟩
 rintro k ⟨hk,hd,hv⟩
 by_cases hlt:k<21
 ·have bad:∀ e,(0<k→fileE d k=e)→0<k→¬e=0→dbE d=e:=fun e h1 h2 h3=>by
   rw[dbE,if_pos (hv h2),firstE_at hlt hd (by rw[h1 h2];exact h3),h1 h2]
  have nxt:(fileE d k=0∧verOk d)→(k+1≤21∧(∀ j,j<k+1→fileE d j=0)∧(0<k+1→verOk d)):=fun h=>⟨by omega,zaw hd h.1,fun _=>h.2⟩
  have hk21:k<21:=hlt
  match k,hk21 with
  | 0,_ =>
   repeat' (first|refine gd ?_|(first|refine br ?_ ?_|refine brF ?_ ?_)<;>intro q_<;>try simp only[nz] at q_)
   refine ⟨4,?_⟩
   repeat' (first|refine gd ?_|(first|refine br ?_ ?_|refine brF ?_ ?_)<;>intro q_<;>try simp only[nz] at q_)
   all_goals first
    | exact zas (show (1:Int)=dbE d from (if_neg (fun h:verOk d=>by unfold verOk at h;omega)).symm)
    | exact ⟨1,nxt ⟨rfl,by unfold verOk;omega⟩,(by show 21 - 1<21 - 0;decide),zaf [0] tmS ⟨⟨rfl,zaa _,rfl⟩,trivial⟩ (by decide)⟩
  | 1,_ =>
   have p2:ctPV.pre (d.prs 0):=(by have:=(hs.prs 0 (by decide)).2;show (d.prs 0).spans.length≤1000000000;omega)
   repeat' (first|refine gd ?_|(first|refine br ?_ ?_|refine brF ?_ ?_)<;>intro q_<;>try simp only[nz] at q_)
   ·exact zas (bad 11 (fun _=>if_neg (by rw[show zb4 (d.prs 0)=false from q_];decide)) (by decide) (by decide)).symm
   ·exact ⟨2,nxt ⟨if_pos (show zb4 (d.prs 0)=true from q_),hv (by decide)⟩,(by show 21 - 2<21 - 1;decide),zaf [0] tmS ⟨⟨rfl,zaa _,rfl⟩,trivial⟩ (by decide)⟩
  | 2,_ =>
   have p2:ctPV.pre (d.prs 1):=(by have:=(hs.prs 1 (by decide)).2;show (d.prs 1).spans.length≤1000000000;omega)
   repeat' (first|refine gd ?_|(first|refine br ?_ ?_|refine brF ?_ ?_)<;>intro q_<;>try simp only[nz] at q_)
   ·exact zas (bad 11 (fun _=>if_neg (by rw[show zb4 (d.prs 1)=false from q_];decide)) (by decide) (by decide)).symm
   ·exact ⟨3,nxt ⟨if_pos (show zb4 (d.prs 1)=true from q_),hv (by decide)⟩,(by show 21 - 3<21 - 2;decide),zaf [0] tmS ⟨⟨rfl,zaa _,rfl⟩,trivial⟩ (by decide)⟩
  | 3,_ =>
   have p2:ctPV.pre (d.prs 2):=(by have:=(hs.prs 2 (by decide)).2;show (d.prs 2).spans.length≤1000000000;omega)
   repeat' (first|refine gd ?_|(first|refine br ?_ ?_|refine brF ?_ ?_)<;>intro q_<;>try simp only[nz] at q_)
   ·exact zas (bad 11 (fun _=>if_neg (by rw[show zb4 (d.prs 2)=false from q_];decide)) (by decide) (by decide)).symm
   ·exact ⟨4,nxt ⟨if_pos (show zb4 (d.prs 2)=true from q_),hv (by decide)⟩,(by show 21 - 4<21 - 3;decide),zaf [0] tmS ⟨⟨rfl,zaa _,rfl⟩,trivial⟩ (by decide)⟩
  | 4,_ =>
   have p2:ctPV.pre (d.prs 3):=(by have:=(hs.prs 3 (by decide)).2;show (d.prs 3).spans.length≤1000000000;omega)
   repeat' (first|refine gd ?_|(first|refine br ?_ ?_|refine brF ?_ ?_)<;>intro q_<;>try simp only[nz] at q_)
   ·exact zas (bad 11 (fun _=>if_neg (by rw[show zb4 (d.prs 3)=false from q_];decide)) (by decide) (by decide)).symm
   ·exact ⟨5,nxt ⟨if_pos (show zb4 (d.prs 3)=true from q_),hv (by decide)⟩,(by show 21 - 5<21 - 4;decide),zaf [0] tmS ⟨⟨rfl,zaa _,rfl⟩,trivial⟩ (by decide)⟩
  | 5,_ =>
   have p2:ctPV.pre (d.prs 4):=(by have:=(hs.prs 4 (by decide)).2;show (d.prs 4).spans.length≤1000000000;omega)
   repeat' (first|refine gd ?_|(first|refine br ?_ ?_|refine brF ?_ ?_)<;>intro q_<;>try simp only[nz] at q_)
   ·exact zas (bad 11 (fun _=>if_neg (by rw[show zb4 (d.prs 4)=false from q_];decide)) (by decide) (by decide)).symm
   ·exact ⟨6,nxt ⟨if_pos (show zb4 (d.prs 4)=true from q_),hv (by decide)⟩,(by show 21 - 6<21 - 5;decide),zaf [0] tmS ⟨⟨rfl,zaa _,rfl⟩,trivial⟩ (by decide)⟩
  | 6,_ =>
   have p2:ctPV.pre (d.prs 5):=(by have:=(hs.prs 5 (by decide)).2;show (d.prs 5).spans.length≤1000000000;omega)
   repeat' (first|refine gd ?_|(first|refine br ?_ ?_|refine brF ?_ ?_)<;>intro q_<;>try simp only[nz] at q_)
   ·exact zas (bad 11 (fun _=>if_neg (by rw[show zb4 (d.prs 5)=false from q_];decide)) (by decide) (by decide)).symm
   ·exact ⟨7,nxt ⟨if_pos (show zb4 (d.prs 5)=true from q_),hv (by decide)⟩,(by show 21 - 7<21 - 6;decide),zaf [0] tmS ⟨⟨rfl,zaa _,rfl⟩,trivial⟩ (by decide)⟩
  | 7,_ =>
   have p2:ctPV.pre (d.prs 6):=(by have:=(hs.prs 6 (by decide)).2;show (d.prs 6).spans.length≤1000000000;omega)
   repeat' (first|refine gd ?_|(first|refine br ?_ ?_|refine brF ?_ ?_)<;>intro q_<;>try simp only[nz] at q_)
   ·exact zas (bad 11 (fun _=>if_neg (by rw[show zb4 (d.prs 6)=false from q_];decide)) (by decide) (by decide)).symm
   ·exact ⟨8,nxt ⟨if_pos (show zb4 (d.prs 6)=true from q_),hv (by decide)⟩,(by show 21 - 8<21 - 7;decide),zaf [0] tmS ⟨⟨rfl,zaa _,rfl⟩,trivial⟩ (by decide)⟩
  | 8,_ =>
   have hcl:=hs.cls
   repeat' (first|refine gd ?_|(first|refine br ?_ ?_|refine brF ?_ ?_)<;>intro q_<;>try simp only[nz] at q_)
   refine ⟨0,Nat,fun j=>⟨[(1,.own 1 0),(9,spsD d.cls),(10,.v (.int .i64 d.cls.length)),(11,.v (.int .i64 j))],[.cells 47 (dbL d),.cells 293 [.own 0 16]],[]⟩,fun j=>j≤d.cls.length∧∀ i,i<j→clsAt d.cls i,fun j=>d.cls.length - j,fun _=>(by show 1≤2;decide),⟨0,⟨Nat.zero_le _,fun j hj=>by omega⟩,StLe.m1a tmS ⟨⟨rfl,zaa _,rfl⟩,⟨rfl,zaa _,rfl⟩,trivial⟩⟩,?_⟩
   rintro j ⟨hj,hdj⟩
   by_cases hjl:j<d.cls.length
   ·have ek:((j:Int) - 1).toNat=j - 1:=by omega
    have no:¬clsAt d.cls j→(11:Int)=dbE d:=fun h=>(bad 11 (fun _=>if_neg (by rw[show clsB d.cls=false from (clsB_f fun hh=>h (hh j hjl)).symm];decide)) (by decide) (by decide)).symm
    rcases Nat.eq_zero_or_pos j with h0|h0
    ·repeat' (first|refine gl ?_|(first|refine br ?_ ?_|refine brF ?_ ?_)<;>intro q_<;>try simp only[nz] at q_)
     all_goals first
      | exact zas (no fun h=>by have h1:=h.1;unfold clsIn at h1;omega)
      | exact ⟨j+1,⟨by omega,zaw hdj ⟨⟨by omega,by omega,by omega,by omega,by omega⟩,fun h=>by omega⟩⟩,(by show _ - (j+1)<_ - j;omega),StLe.m1a tmS ⟨⟨rfl,zaa _,rfl⟩,⟨rfl,zaa _,rfl⟩,trivial⟩⟩
    ·have hb:=(hdj (j - 1) (by omega)).1
     unfold clsIn at hb
     have hb2:(d.cls.getD ((j:Int) - 1).toNat default).hi≤1114111:=by rw[ek];omega
     have hb3:0≤(d.cls.getD ((j:Int) - 1).toNat default).hi:=by rw[ek];omega
     repeat' (first|refine gd ?_|(first|refine br ?_ ?_|refine brF ?_ ?_)<;>intro q_<;>try simp only[nz] at q_)
     all_goals try rw[ek] at *
     all_goals first
      | exact zas (no fun h=>by have h1:=h.1;have h2:=h.2 h0;unfold clsIn at h1;unfold spAft at h2;omega)
      | exact ⟨j+1,⟨by omega,zaw hdj ⟨⟨by omega,by omega,by omega,by omega,by omega⟩,fun _=>⟨by omega,by omega⟩⟩⟩,(by show _ - (j+1)<_ - j;omega),StLe.m1a tmS ⟨⟨rfl,zaa _,rfl⟩,⟨rfl,zaa _,rfl⟩,trivial⟩⟩
   ·repeat' (first|refine gl ?_|(first|refine br ?_ ?_|refine brF ?_ ?_)<;>intro q_<;>try simp only[nz] at q_)
    exact ⟨9,nxt ⟨if_pos (clsB_t fun i hi=>hdj i (by omega)).symm,hv (by decide)⟩,(by show 21 - 9<21 - 8;decide),zaf [0] tmS ⟨⟨rfl,zaa _,rfl⟩,trivial⟩ (by decide)⟩
  | 9,_ =>
   have p2:ctCheck.pre (d.mps 0):=zfv (hs.mps 0 (by decide))
   repeat' (first|refine gd ?_|(first|refine br ?_ ?_|refine brF ?_ ?_)<;>intro q_<;>try simp only[nz] at q_)
   ·exact zas (bad (zdo (d.mps 0)) (fun _=>rfl) (by decide) q_).symm
   ·exact ⟨10,nxt ⟨show zdo (d.mps 0)=0 from q_,hv (by decide)⟩,(by show 21 - 10<21 - 9;decide),zaf [0] tmS ⟨⟨rfl,zaa _,rfl⟩,trivial⟩ (by decide)⟩
  | 10,_ =>
   have p2:ctVs.pre (d.sts 0):=hs.sts 0 (by decide)
   repeat' (first|refine gd ?_|(first|refine br ?_ ?_|refine brF ?_ ?_)<;>intro q_<;>try simp only[nz] at q_)
   ·exact zas (bad 11 (fun _=>if_neg (show ¬canon (d.sts 0)=d.sts 0 from q_)) (by decide) (by decide)).symm
   ·exact ⟨11,nxt ⟨if_pos (show canon (d.sts 0)=d.sts 0 from q_),hv (by decide)⟩,(by show 21 - 11<21 - 10;decide),zaf [0] tmS ⟨⟨rfl,zaa _,rfl⟩,trivial⟩ (by decide)⟩
  | 11,_ =>
   have p2:ctCheck.pre (d.mps 1):=zfv (hs.mps 1 (by decide))
   repeat' (first|refine gd ?_|(first|refine br ?_ ?_|refine brF ?_ ?_)<;>intro q_<;>try simp only[nz] at q_)
   ·exact zas (bad (zdo (d.mps 1)) (fun _=>rfl) (by decide) q_).symm
   ·exact ⟨12,nxt ⟨show zdo (d.mps 1)=0 from q_,hv (by decide)⟩,(by show 21 - 12<21 - 11;decide),zaf [0] tmS ⟨⟨rfl,zaa _,rfl⟩,trivial⟩ (by decide)⟩
  | 12,_ =>
   have p2:ctCheck.pre (d.mps 2):=zfv (hs.mps 2 (by decide))
   repeat' (first|refine gd ?_|(first|refine br ?_ ?_|refine brF ?_ ?_)<;>intro q_<;>try simp only[nz] at q_)
   ·exact zas (bad (zdo (d.mps 2)) (fun _=>rfl) (by decide) q_).symm
   ·exact ⟨13,nxt ⟨show zdo (d.mps 2)=0 from q_,hv (by decide)⟩,(by show 21 - 13<21 - 12;decide),zaf [0] tmS ⟨⟨rfl,zaa _,rfl⟩,trivial⟩ (by decide)⟩
  | 13,_ =>
   have p2:ctCheck.pre (d.mps 3):=zfv (hs.mps 3 (by decide))
   repeat' (first|refine gd ?_|(first|refine br ?_ ?_|refine brF ?_ ?_)<;>intro q_<;>try simp only[nz] at q_)
   ·exact zas (bad (zdo (d.mps 3)) (fun _=>rfl) (by decide) q_).symm
   ·exact ⟨14,nxt ⟨show zdo (d.mps 3)=0 from q_,hv (by decide)⟩,(by show 21 - 14<21 - 13;decide),zaf [0] tmS ⟨⟨rfl,zaa _,rfl⟩,trivial⟩ (by decide)⟩
  | 14,_ =>
   have p2:ctCheck.pre (d.mps 4):=zfv (hs.mps 4 (by decide))
   repeat' (first|refine gd ?_|(first|refine br ?_ ?_|refine brF ?_ ?_)<;>intro q_<;>try simp only[nz] at q_)
   ·exact zas (bad (zdo (d.mps 4)) (fun _=>rfl) (by decide) q_).symm
   ·exact ⟨15,nxt ⟨show zdo (d.mps 4)=0 from q_,hv (by decide)⟩,(by show 21 - 15<21 - 14;decide),zaf [0] tmS ⟨⟨rfl,zaa _,rfl⟩,trivial⟩ (by decide)⟩
  | 15,_ =>
   have p2:ctVs.pre (d.sts 1):=hs.sts 1 (by decide)
   repeat' (first|refine gd ?_|(first|refine br ?_ ?_|refine brF ?_ ?_)<;>intro q_<;>try simp only[nz] at q_)
   ·exact zas (bad 11 (fun _=>if_neg (show ¬canon (d.sts 1)=d.sts 1 from q_)) (by decide) (by decide)).symm
   ·exact ⟨16,nxt ⟨if_pos (show canon (d.sts 1)=d.sts 1 from q_),hv (by decide)⟩,(by show 21 - 16<21 - 15;decide),zaf [0] tmS ⟨⟨rfl,zaa _,rfl⟩,trivial⟩ (by decide)⟩
  | 16,_ =>
   have p2:ctVs.pre (d.sts 2):=hs.sts 2 (by decide)
   repeat' (first|refine gd ?_|(first|refine br ?_ ?_|refine brF ?_ ?_)<;>intro q_<;>try simp only[nz] at q_)
   ·exact zas (bad 11 (fun _=>if_neg (show ¬canon (d.sts 2)=d.sts 2 from q_)) (by decide) (by decide)).symm
   ·exact ⟨17,nxt ⟨if_pos (show canon (d.sts 2)=d.sts 2 from q_),hv (by decide)⟩,(by show 21 - 17<21 - 16;decide),zaf [0] tmS ⟨⟨rfl,zaa _,rfl⟩,trivial⟩ (by decide)⟩
  | 17,_ =>
   have p2:ctVs.pre (d.sts 3):=hs.sts 3 (by decide)
   repeat' (first|refine gd ?_|(first|refine br ?_ ?_|refine brF ?_ ?_)<;>intro q_<;>try simp only[nz] at q_)
   ·exact zas (bad 11 (fun _=>if_neg (show ¬canon (d.sts 3)=d.sts 3 from q_)) (by decide) (by decide)).symm
   ·exact ⟨18,nxt ⟨if_pos (show canon (d.sts 3)=d.sts 3 from q_),hv (by decide)⟩,(by show 21 - 18<21 - 17;decide),zaf [0] tmS ⟨⟨rfl,zaa _,rfl⟩,trivial⟩ (by decide)⟩
  | 18,_ =>
   have p2:ctVs.pre (d.sts 4):=hs.sts 4 (by decide)
   repeat' (first|refine gd ?_|(first|refine br ?_ ?_|refine brF ?_ ?_)<;>intro q_<;>try simp only[nz] at q_)
   ·exact zas (bad 11 (fun _=>if_neg (show ¬canon (d.sts 4)=d.sts 4 from q_)) (by decide) (by decide)).symm
   ·exact ⟨19,nxt ⟨if_pos (show canon (d.sts 4)=d.sts 4 from q_),hv (by decide)⟩,(by show 21 - 19<21 - 18;decide),zaf [0] tmS ⟨⟨rfl,zaa _,rfl⟩,trivial⟩ (by decide)⟩
  | 19,_ =>
   have p2:ctVs.pre (d.sts 5):=hs.sts 5 (by decide)
   repeat' (first|refine gd ?_|(first|refine br ?_ ?_|refine brF ?_ ?_)<;>intro q_<;>try simp only[nz] at q_)
   ·exact zas (bad 11 (fun _=>if_neg (show ¬canon (d.sts 5)=d.sts 5 from q_)) (by decide) (by decide)).symm
   ·exact ⟨20,nxt ⟨if_pos (show canon (d.sts 5)=d.sts 5 from q_),hv (by decide)⟩,(by show 21 - 20<21 - 19;decide),zaf [0] tmS ⟨⟨rfl,zaa _,rfl⟩,trivial⟩ (by decide)⟩
  | 20,_ =>
   have p2:ctCheck.pre (d.mps 5):=zfv (hs.mps 5 (by decide))
   repeat' (first|refine gd ?_|(first|refine br ?_ ?_|refine brF ?_ ?_)<;>intro q_<;>try simp only[nz] at q_)
   ·exact zas (bad (zdo (d.mps 5)) (fun _=>rfl) (by decide) q_).symm
   ·exact ⟨21,nxt ⟨show zdo (d.mps 5)=0 from q_,hv (by decide)⟩,(by show 21 - 21<21 - 20;decide),zaf [0] tmS ⟨⟨rfl,zaa _,rfl⟩,trivial⟩ (by decide)⟩
  | k0+21,h=>exact absurd h (by omega)
 ·repeat' (first|refine gl ?_|(first|refine br ?_ ?_|refine brF ?_ ?_)<;>intro q_<;>try simp only[nz] at q_)
  have hk0:0<k:=by omega
  exact zas (by rw[dbE,if_pos (hv hk0)];exact (firstE_0 fun j hj=>hd j (by omega)).symm)
end Go.Proofs
