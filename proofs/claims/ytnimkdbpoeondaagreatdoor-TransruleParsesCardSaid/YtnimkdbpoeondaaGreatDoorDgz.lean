import Derived.Test.YtnimkdbpoeondaaGreatDoorDz
set_option linter.all false
set_option maxHeartbeats 4000000
namespace Go.Proofs
open Go Go.Sx
variable {l:List Sp}
variable {mx:Int}{pb:Bool}
def zor (s:Sp):Prop:=0<=s.lo/\s.lo<=s.hi/\s.hi<=1114111/\1<=s.val/\s.val<=254
def clsAt (l:List Sp) (i:Nat):Prop:=zor (l.getD i default)/\(0<i->spAft (l.getD (i - 1) default) (l.getD i default))
def clsOk (l:List Sp):Prop:=∀ i,i<l.length->clsAt l i
open Classical in
noncomputable def clsB (l:List Sp):Bool:=decide (clsOk l)
theorem clsB_t (h:clsOk l):true=clsB l:=(@decide_eq_true _ (Classical.propDecidable _) h).symm
theorem clsB_f (h:¬clsOk l):false=clsB l:=(@decide_eq_false _ (Classical.propDecidable _) h).symm
theorem clsB_iff:clsB l=true↔clsOk l:=by
 unfold clsB;exact @decide_eq_true_iff _ (Classical.propDecidable _)
noncomputable def ptE:Pt->Int
 | .pr p=>if zT p=true then 0 else 11
 | .cl l=>if clsB l=true then 0 else 11
 | .st l=>if canon l=l then 0 else 11
 | .mp l=>xk l
noncomputable def zbr (d:Db):Nat->Int
 | 0=>0
 | k+1=>ptE (partOf d k)
noncomputable def zdw (d:Db):Int:=match (List.range 21).find? (fun k=>decide (zbr d k≠0)) with|some k=>zbr d k|none=>0
theorem zl1 {d:Db}{k:Nat}(hk:k<21) (hn:∀ j,j<k->zbr d j=0) (h:¬zbr d k=0):zdw d=zbr d k:=by
 have:(List.range 21).find? (fun k=>decide (zbr d k≠0))=some k:=by
  rw[List.find?_range_eq_some];refine ⟨decide_eq_true h,List.mem_range.2 hk,fun j hj=>?_⟩
  rw[decide_eq_false (fun hh=>hh (hn j hj))];rfl
 rw[zdw,this]
theorem firstE_0 {d:Db}(hn:∀ j,j<21->zbr d j=0):zdw d=0:=by
 have:(List.range 21).find? (fun k=>decide (zbr d k≠0))=none:=by
  rw[List.find?_eq_none];intro j hj;rw[decide_eq_false (fun hh=>hh (hn j (List.mem_range.1 hj)))];decide
 rw[zdw,this]
theorem uM {d:Db}(h:zdw d=0):∀ j,j<21->zbr d j=0:=by
 intro j hj;cases hf:(List.range 21).find? (fun k=>decide (zbr d k≠0)) with
 | none =>
  rw[List.find?_eq_none] at hf;have:=hf j (List.mem_range.2 hj)
  simpa using this
 | some k =>
  have h1:=List.find?_some hf;rw[zdw,hf] at h;simp at h1;exact absurd h h1
def zd4 (d:Db):Prop:=0<=d.maj/\d.maj<=9999/\0<=d.mnr/\d.mnr<=9999
instance (d:Db):Decidable (zd4 d):=inferInstanceAs (Decidable (_/\_))
noncomputable def dbE (d:Db):Int:=if zd4 d then zdw d else 1
noncomputable def ctDbE:Ct:={ ι:=Db,inp:=fun d=>[dbA d],out:=fun d=>.v (.int .i64 (dbE d)),pre:=SmD }
noncomputable def ctCls:Ct:={ ι:=List Sp,inp:=fun l=>[zei l],out:=fun l=>.v (.bool (clsB l)),pre:=fun l=>l.length<=1000000000 }
theorem rCls_ok:SS mx pb 194 ctCls:=by
 refine sb (cc:=true) zH Tryz.func194 ?_;intro (l:List Sp) (hl:l.length<=1000000000)
 refine gl ?_;refine ⟨0,Nat,fun k=>⟨[(0,zei l),(3,.v (.int .i64 k))],[],[]⟩,fun k=>k<=l.length/\∀ i,i<k->clsAt l i,fun k=>l.length - k,fun _=>Nat.zero_le _,⟨0,⟨Nat.zero_le _,fun j hj=>by omega⟩,StLe.ren [] tmS trivial (by decide)⟩,?_⟩
 rintro k ⟨hk,hd⟩
 by_cases hlt:k<l.length
 ·have ek:((k:Int) - 1).toNat=k - 1:=by omega
  have no:¬clsAt l k->false=clsB l:=fun h=>clsB_f fun hh=>h (hh k hlt)
  rcases Nat.eq_zero_or_pos k with h0|h0
  ·repeat' first|refine gl ?_|refine bs ?_ ?_<;>intro q_
   all_goals first
    | exact ze (no fun h=>by have h1:=h.1;unfold zor at h1;omega)
    | exact ⟨k+1,⟨by omega,zo hd ⟨⟨by omega,by omega,by omega,by omega,by omega⟩,fun h=>by omega⟩⟩,(by show _ - (k+1)<_ - k;omega),StLe.ren [] tmS trivial (by decide)⟩
  ·have hb:=(hd (k - 1) (by omega)).1;unfold zor at hb;have hb2:(l.getD ((k:Int) - 1).toNat default).hi<=1114111:=by rw[ek];omega
   have hb3:0<=(l.getD ((k:Int) - 1).toNat default).hi:=by rw[ek];omega
   repeat' first|refine gl ?_|refine bs ?_ ?_<;>intro q_
   all_goals try rw[ek] at *
   all_goals first
    | exact ze (no fun h=>by have h1:=h.1;have h2:=h.2 h0;unfold zor at h1;unfold spAft at h2;omega)
    | exact ⟨k+1,⟨by omega,zo hd ⟨⟨by omega,by omega,by omega,by omega,by omega⟩,fun _=>⟨by omega,by omega⟩⟩⟩,(by show _ - (k+1)<_ - k;omega),StLe.ren [] tmS trivial (by decide)⟩
 ·refine gl ?_;exact ze (clsB_t fun i hi=>hd i (by omega))
def yL (s:ByteArray):Int:=if eqB s ⟨#[101,120,99,108,117,115,105,111,110,115]⟩=true then 0 else if eqB s ⟨#[99,97,115,101,100]⟩=true then 1 else if eqB s ⟨#[105,103,110,111,114,97,98,108,101]⟩=true then 2 else if eqB s ⟨#[115,116,97,114,116]⟩=true then 3 else if eqB s ⟨#[99,111,110,116,105,110,117,101]⟩=true then 4 else if eqB s ⟨#[109,101,100,105,97,108]⟩=true then 5 else -1
def ctSetOf:Ct:={ ι:=ByteArray,inp:=fun s=>[.v (.string s)],out:=fun s=>.v (.int .i64 (yL s)),pre:=fun _=>True }
theorem zk6:SS mx pb 195 ctSetOf:=by
 refine sb (cc:=true) zH Tryz.func195 ?_;intro (s:ByteArray) _
 repeat' first|refine gl ?_|refine bs ?_ ?_<;>intro q_
 all_goals (refine zf ?_;simp only[yL,yC];simp_all)
def ctPart2:Ct:={ ι:=Int,inp:=fun n=>[.v (.int .i64 n)],out:=fun n=>.v (.bool (decide (0<=n/\n<=9999))),pre:=fun _=>True }
theorem rPart_ok:SS mx pb 164 ctPart2:=by
 refine sb (cc:=true) zH Tryz.func164 ?_;intro (n:Int) _
 repeat' first|refine gl ?_|refine bs ?_ ?_<;>intro q_
 all_goals (refine ze ?_;first|(rw[eq_comm,decide_eq_true_eq];omega)|(rw[eq_comm,decide_eq_false_iff_not];omega)|(by_cases h:n<=9999<;>simp[h]<;>omega))
noncomputable def ctFileE:Ct:={ ι:=Db × Int,inp:=fun x=>[dbA x.1,.v (.int .i64 x.2)],out:=fun x=>.v (.int .i64 (zbr x.1 x.2.toNat)),pre:=fun x=>SmD x.1/\0<=x.2/\x.2<21 }
noncomputable def Γfe:Ctx:=fun f=>match f with
 | 12=>some (.pure za7)
 | 9=>some (.pure ctPropI)
 | 11=>some (.pure ctSetI)
 | 14=>some (.pure ctMapI)
 | 193=>some (.pure ctPV)
 | 194=>some (.pure ctCls)
 | 195=>some (.pure ctSetOf)
 | 111=>some (.pure ctVs)
 | 196=>some (.pure ctCheck)
 | _=>none
theorem Γfe_ok:CK mx pb Γfe:=by
 intro f h hh;simp only[Γfe] at hh;split at hh<;>simp at hh<;>subst hh
 ·exact zav
 ·exact ziu
 ·exact znf
 ·exact rMapI_ok
 ·exact zhi
 ·exact rCls_ok
 ·exact zk6
 ·exact rVs_ok
 ·exact rcheck_ok
theorem rFileE_ok:SS mx pb 165 ctFileE:=by
 refine sb (cc:=true) Γfe_ok Tryz.func165 ?_;rintro ⟨(d:Db),(i:Int)⟩ ⟨(hs:SmD d),(h0:0<=i),(h7:i<21)⟩
 obtain ⟨n,rfl⟩:∃ n:Nat,i=n:=⟨i.toNat,by omega⟩
 have hn:n<21:=by omega
 have hlen:=uN
 match n,hn with
 | 0,_ =>
  refine gl ?_;exact zf rfl
 | 1,_ =>
  have p1:ctPropI.pre (d,((1:Nat):Int) - 1):=(by show 0<=((1:Nat):Int) - 1/\((1:Nat):Int) - 1<7;decide)
  have p2:ctPV.pre (d.prs (((1:Nat):Int) - 1).toNat):=(by have:(d.prs (((1:Nat):Int) - 1).toNat).spans.length<=16:=(hs.prs 0 (by decide)).2;show (d.prs (((1:Nat):Int) - 1).toNat).spans.length<=1000000000;omega)
  repeat' first|refine gl ?_|refine bs ?_ ?_<;>intro q_
  ·exact zf (if_neg (by rw[show zT (d.prs 0)=false from q_];decide)).symm
  ·exact zf (if_pos (show zT (d.prs 0)=true from q_)).symm
 | 2,_ =>
  have p1:ctPropI.pre (d,((2:Nat):Int) - 1):=(by show 0<=((2:Nat):Int) - 1/\((2:Nat):Int) - 1<7;decide)
  have p2:ctPV.pre (d.prs (((2:Nat):Int) - 1).toNat):=(by have:(d.prs (((2:Nat):Int) - 1).toNat).spans.length<=16:=(hs.prs 1 (by decide)).2;show (d.prs (((2:Nat):Int) - 1).toNat).spans.length<=1000000000;omega)
  repeat' first|refine gl ?_|refine bs ?_ ?_<;>intro q_
  ·exact zf (if_neg (by rw[show zT (d.prs 1)=false from q_];decide)).symm
  ·exact zf (if_pos (show zT (d.prs 1)=true from q_)).symm
 | 3,_ =>
  have p1:ctPropI.pre (d,((3:Nat):Int) - 1):=(by show 0<=((3:Nat):Int) - 1/\((3:Nat):Int) - 1<7;decide)
  have p2:ctPV.pre (d.prs (((3:Nat):Int) - 1).toNat):=(by have:(d.prs (((3:Nat):Int) - 1).toNat).spans.length<=16:=(hs.prs 2 (by decide)).2;show (d.prs (((3:Nat):Int) - 1).toNat).spans.length<=1000000000;omega)
  repeat' first|refine gl ?_|refine bs ?_ ?_<;>intro q_
  ·exact zf (if_neg (by rw[show zT (d.prs 2)=false from q_];decide)).symm
  ·exact zf (if_pos (show zT (d.prs 2)=true from q_)).symm
 | 4,_ =>
  have p1:ctPropI.pre (d,((4:Nat):Int) - 1):=(by show 0<=((4:Nat):Int) - 1/\((4:Nat):Int) - 1<7;decide)
  have p2:ctPV.pre (d.prs (((4:Nat):Int) - 1).toNat):=(by have:(d.prs (((4:Nat):Int) - 1).toNat).spans.length<=16:=(hs.prs 3 (by decide)).2;show (d.prs (((4:Nat):Int) - 1).toNat).spans.length<=1000000000;omega)
  repeat' first|refine gl ?_|refine bs ?_ ?_<;>intro q_
  ·exact zf (if_neg (by rw[show zT (d.prs 3)=false from q_];decide)).symm
  ·exact zf (if_pos (show zT (d.prs 3)=true from q_)).symm
 | 5,_ =>
  have p1:ctPropI.pre (d,((5:Nat):Int) - 1):=(by show 0<=((5:Nat):Int) - 1/\((5:Nat):Int) - 1<7;decide)
  have p2:ctPV.pre (d.prs (((5:Nat):Int) - 1).toNat):=(by have:(d.prs (((5:Nat):Int) - 1).toNat).spans.length<=16:=(hs.prs 4 (by decide)).2;show (d.prs (((5:Nat):Int) - 1).toNat).spans.length<=1000000000;omega)
  repeat' first|refine gl ?_|refine bs ?_ ?_<;>intro q_
  ·exact zf (if_neg (by rw[show zT (d.prs 4)=false from q_];decide)).symm
  ·exact zf (if_pos (show zT (d.prs 4)=true from q_)).symm
 | 6,_ =>
  have p1:ctPropI.pre (d,((6:Nat):Int) - 1):=(by show 0<=((6:Nat):Int) - 1/\((6:Nat):Int) - 1<7;decide)
  have p2:ctPV.pre (d.prs (((6:Nat):Int) - 1).toNat):=(by have:(d.prs (((6:Nat):Int) - 1).toNat).spans.length<=16:=(hs.prs 5 (by decide)).2;show (d.prs (((6:Nat):Int) - 1).toNat).spans.length<=1000000000;omega)
  repeat' first|refine gl ?_|refine bs ?_ ?_<;>intro q_
  ·exact zf (if_neg (by rw[show zT (d.prs 5)=false from q_];decide)).symm
  ·exact zf (if_pos (show zT (d.prs 5)=true from q_)).symm
 | 7,_ =>
  have p1:ctPropI.pre (d,((7:Nat):Int) - 1):=(by show 0<=((7:Nat):Int) - 1/\((7:Nat):Int) - 1<7;decide)
  have p2:ctPV.pre (d.prs (((7:Nat):Int) - 1).toNat):=(by have:(d.prs (((7:Nat):Int) - 1).toNat).spans.length<=16:=(hs.prs 6 (by decide)).2;show (d.prs (((7:Nat):Int) - 1).toNat).spans.length<=1000000000;omega)
  repeat' first|refine gl ?_|refine bs ?_ ?_<;>intro q_
  ·exact zf (if_neg (by rw[show zT (d.prs 6)=false from q_];decide)).symm
  ·exact zf (if_pos (show zT (d.prs 6)=true from q_)).symm
 | 8,_ =>
  have p1:ctCls.pre d.cls:=(by have:=hs.cls;show d.cls.length<=1000000000;omega)
  repeat' first|refine gl ?_|refine bs ?_ ?_<;>intro q_
  ·exact zf (if_neg (by rw[show clsB d.cls=false from q_];decide)).symm
  ·exact zf (if_pos (show clsB d.cls=true from q_)).symm
 | 9,_ =>
  have p1:ctMapI.pre (d,((9:Nat):Int)):=(by show 0<=((9:Nat):Int)/\((9:Nat):Int)<21;decide)
  have p2:ctCheck.pre (mapI d ((9:Nat):Int).toNat):=yK (hs.mps 0 (by decide))
  refine gl ?_;exact zf rfl
 | 10,_ =>
  have p1:ctSetI.pre (d,yL (filesL.getD ((10:Nat):Int).toNat default)):=(by show 0<=(0:Int)/\(0:Int)<6;decide)
  have p2:ctVs.pre (d.sts (yL (filesL.getD ((10:Nat):Int).toNat default)).toNat):=hs.sts 0 (by decide)
  repeat' first|refine gl ?_|refine bs ?_ ?_<;>intro q_
  ·exact zf (if_neg (show ¬canon (d.sts 0)=d.sts 0 from q_)).symm
  ·exact zf (if_pos (show canon (d.sts 0)=d.sts 0 from q_)).symm
 | 11,_ =>
  have p1:ctMapI.pre (d,((11:Nat):Int)):=(by show 0<=((11:Nat):Int)/\((11:Nat):Int)<21;decide)
  have p2:ctCheck.pre (mapI d ((11:Nat):Int).toNat):=yK (hs.mps 1 (by decide))
  refine gl ?_;exact zf rfl
 | 12,_ =>
  have p1:ctMapI.pre (d,((12:Nat):Int)):=(by show 0<=((12:Nat):Int)/\((12:Nat):Int)<21;decide)
  have p2:ctCheck.pre (mapI d ((12:Nat):Int).toNat):=yK (hs.mps 2 (by decide))
  refine gl ?_;exact zf rfl
 | 13,_ =>
  have p1:ctMapI.pre (d,((13:Nat):Int)):=(by show 0<=((13:Nat):Int)/\((13:Nat):Int)<21;decide)
  have p2:ctCheck.pre (mapI d ((13:Nat):Int).toNat):=yK (hs.mps 3 (by decide))
  refine gl ?_;exact zf rfl
 | 14,_ =>
  have p1:ctMapI.pre (d,((14:Nat):Int)):=(by show 0<=((14:Nat):Int)/\((14:Nat):Int)<21;decide)
  have p2:ctCheck.pre (mapI d ((14:Nat):Int).toNat):=yK (hs.mps 4 (by decide))
  refine gl ?_;exact zf rfl
 | 15,_ =>
  have p1:ctSetI.pre (d,yL (filesL.getD ((15:Nat):Int).toNat default)):=(by show 0<=(1:Int)/\(1:Int)<6;decide)
  have p2:ctVs.pre (d.sts (yL (filesL.getD ((15:Nat):Int).toNat default)).toNat):=hs.sts 1 (by decide)
  repeat' first|refine gl ?_|refine bs ?_ ?_<;>intro q_
  ·exact zf (if_neg (show ¬canon (d.sts 1)=d.sts 1 from q_)).symm
  ·exact zf (if_pos (show canon (d.sts 1)=d.sts 1 from q_)).symm
 | 16,_ =>
  have p1:ctSetI.pre (d,yL (filesL.getD ((16:Nat):Int).toNat default)):=(by show 0<=(2:Int)/\(2:Int)<6;decide)
  have p2:ctVs.pre (d.sts (yL (filesL.getD ((16:Nat):Int).toNat default)).toNat):=hs.sts 2 (by decide)
  repeat' first|refine gl ?_|refine bs ?_ ?_<;>intro q_
  ·exact zf (if_neg (show ¬canon (d.sts 2)=d.sts 2 from q_)).symm
  ·exact zf (if_pos (show canon (d.sts 2)=d.sts 2 from q_)).symm
 | 17,_ =>
  have p1:ctSetI.pre (d,yL (filesL.getD ((17:Nat):Int).toNat default)):=(by show 0<=(3:Int)/\(3:Int)<6;decide)
  have p2:ctVs.pre (d.sts (yL (filesL.getD ((17:Nat):Int).toNat default)).toNat):=hs.sts 3 (by decide)
  repeat' first|refine gl ?_|refine bs ?_ ?_<;>intro q_
  ·exact zf (if_neg (show ¬canon (d.sts 3)=d.sts 3 from q_)).symm
  ·exact zf (if_pos (show canon (d.sts 3)=d.sts 3 from q_)).symm
 | 18,_ =>
  have p1:ctSetI.pre (d,yL (filesL.getD ((18:Nat):Int).toNat default)):=(by show 0<=(4:Int)/\(4:Int)<6;decide)
  have p2:ctVs.pre (d.sts (yL (filesL.getD ((18:Nat):Int).toNat default)).toNat):=hs.sts 4 (by decide)
  repeat' first|refine gl ?_|refine bs ?_ ?_<;>intro q_
  ·exact zf (if_neg (show ¬canon (d.sts 4)=d.sts 4 from q_)).symm
  ·exact zf (if_pos (show canon (d.sts 4)=d.sts 4 from q_)).symm
 | 19,_ =>
  have p1:ctSetI.pre (d,yL (filesL.getD ((19:Nat):Int).toNat default)):=(by show 0<=(5:Int)/\(5:Int)<6;decide)
  have p2:ctVs.pre (d.sts (yL (filesL.getD ((19:Nat):Int).toNat default)).toNat):=hs.sts 5 (by decide)
  repeat' first|refine gl ?_|refine bs ?_ ?_<;>intro q_
  ·exact zf (if_neg (show ¬canon (d.sts 5)=d.sts 5 from q_)).symm
  ·exact zf (if_pos (show canon (d.sts 5)=d.sts 5 from q_)).symm
 | 20,_ =>
  have p1:ctMapI.pre (d,((20:Nat):Int)):=(by show 0<=((20:Nat):Int)/\((20:Nat):Int)<21;decide)
  have p2:ctCheck.pre (mapI d ((20:Nat):Int).toNat):=yK (hs.mps 5 (by decide))
  refine gl ?_;exact zf rfl
noncomputable def Γck:Ctx:=fun f=>match f with
 | 12=>some (.pure za7)
 | 164=>some (.pure ctPart2)
 | 165=>some (.pure ctFileE)
 | _=>none
theorem Γck_ok:CK mx pb Γck:=by
 intro f h hh;simp only[Γck] at hh;split at hh<;>simp at hh<;>subst hh
 ·exact zav
 ·exact rPart_ok
 ·exact rFileE_ok
theorem rDbE_ok:SS mx pb 133 ctDbE:=by
 refine sb (cc:=true) Γck_ok Tryz.func133 ?_;intro (d:Db) (hs:SmD d)
 have hlen:=uN
 repeat' first|refine gl ?_|refine bs ?_ ?_<;>intro q_
 all_goals first
  | exact zf (if_neg (fun h:zd4 d=>by unfold zd4 at h;omega)).symm
  | skip
 have hv:zd4 d:=by unfold zd4;omega
 have e:dbE d=zdw d:=if_pos hv;refine ⟨0,Nat,fun k=>⟨[(1,.own 0 0),(3,.v (.int .i64 k))],[.cells 39 (dbL d)],[]⟩,fun k=>k<=21/\∀ j,j<k->zbr d j=0,fun k=>21 - k,fun _=>Nat.zero_le _,⟨0,⟨Nat.zero_le _,fun j hj=>by omega⟩,(sr [0])⟩,?_⟩
 rintro k ⟨hk,hd⟩
 by_cases hlt:k<21
 ·have p1:ctFileE.pre (d,(k:Int)):=⟨hs,by show 0<=(k:Int);omega,by show (k:Int)<21;omega⟩
  repeat' first|refine gl ?_|refine bs ?_ ?_<;>intro q_
  ·exact zf (by rw[e];exact (zl1 hlt hd q_).symm)
  ·exact ⟨k+1,⟨by omega,zo hd q_⟩,(by show 21 - (k+1)<21 - k;omega),(sr [0])⟩
 ·refine gl ?_;exact zf (by rw[e];exact (firstE_0 fun j hj=>hd j (by omega)).symm)
noncomputable def cFind:Code:=(Tryz.f240.body).getD .skip
noncomputable def cCkV:Code:=(Tryz.f260.body).getD .skip
noncomputable def cCkP:Code:=(Tryz.f263.body).getD .skip
noncomputable def cCkC:Code:=(Tryz.f266.body).getD .skip
noncomputable def cCkM:Code:=(Tryz.f269.body).getD .skip
noncomputable def cCkS:Code:=(Tryz.f279.body).getD .skip
noncomputable def Γkp:Ctx:=fun f=>match f with
 | 242=>some (.pure ctPV)
 | _=>none
theorem Γkp_ok:CK mx pb Γkp:=by
 intro f h hh;simp only[Γkp] at hh;split at hh<;>simp at hh<;>subst hh
 ·exact zla
noncomputable def Γkm:Ctx:=fun f=>match f with
 | 272=>some (.pure ctCheck)
 | _=>none
theorem Γkm_ok:CK mx pb Γkm:=by
 intro f h hh;simp only[Γkm] at hh;split at hh<;>simp at hh<;>subst hh
 ·exact check_ok
noncomputable def Γks:Ctx:=fun f=>match f with
 | 76=>some (.pure ctVs)
 | _=>none
theorem Γks_ok:CK mx pb Γks:=by
 intro f h hh;simp only[Γks] at hh;split at hh<;>simp at hh<;>subst hh
 ·exact pVs_ok
noncomputable def Γdk (mx:Int) (pb:Bool):Ctx:=fun f=>match f with
 | 239=>some (.pure za7)
 | 240=>some (.gen (zds true Γ0 Tryz.T (GlT mx pb) Tryz.f240 cFind))
 | 260=>some (.gen (zds true Γ0 Tryz.T (GlT mx pb) Tryz.f260 cCkV))
 | 263=>some (.gen (zds true Γkp Tryz.T (GlT mx pb) Tryz.f263 cCkP))
 | 266=>some (.gen (zds true Γ0 Tryz.T (GlT mx pb) Tryz.f266 cCkC))
 | 269=>some (.gen (zds true Γkm Tryz.T (GlT mx pb) Tryz.f269 cCkM))
 | 279=>some (.gen (zds true Γks Tryz.T (GlT mx pb) Tryz.f279 cCkS))
 | _=>none
theorem Γdk_ok:CK mx pb (Γdk mx pb):=by
 intro f h hh;simp only[Γdk] at hh;split at hh<;>simp at hh<;>subst hh
 ·exact pFiles_ok
 ·exact si zH Tryz.func240
 ·exact si zH Tryz.func260
 ·exact si Γkp_ok Tryz.func263
 ·exact si zH Tryz.func266
 ·exact si Γkm_ok Tryz.func269
 ·exact si Γks_ok Tryz.func279
theorem StLe.m1a {tm tm':List (Nat × D)}{ow ow':List Own}(h1:renT [0,1] tm tm') (h2:renO [0,1] ow [0,1] ow'):StLe 1 ⟨tm,ow,[]⟩ ⟨tm',ow',[]⟩:=zq [0,1] h1 h2 (by decide) (by decide) (by simp)
theorem pDbE_ok:SS mx pb 222 ctDbE:=by
 refine sb (cc:=true) Γdk_ok Tryz.func222 ?_;intro (d:Db) (hs:SmD d)
 have hlen:=uN;refine gd ?_;refine ⟨0,Nat,fun k=>⟨[(1,.own 0 0),(6,slD 1 vg filesL),(7,.v (.int .i64 filesL.length)),(8,.v (.int .i64 k))],[.cells 39 (dbL d)],[]⟩,fun k=>k<=21/\(∀ j,j<k->zbr d j=0)/\(0<k->zd4 d),fun k=>21 - k,fun _=>Nat.zero_le _,⟨0,⟨Nat.zero_le _,fun j hj=>by omega,fun h=>by omega⟩,(sr [0])⟩,?_⟩
 rintro k ⟨hk,hd,hv⟩
 by_cases hlt:k<21
 ·have bad:∀ e,(0<k->zbr d k=e)->0<k->¬e=0->dbE d=e:=fun e h1 h2 h3=>by
   rw[dbE,if_pos (hv h2),zl1 hlt hd (by rw[h1 h2];exact h3),h1 h2]
  have nxt:(zbr d k=0/\zd4 d)->(k+1<=21/\(∀ j,j<k+1->zbr d j=0)/\(0<k+1->zd4 d)):=fun h=>⟨by omega,zo hd h.1,fun _=>h.2⟩
  have hk21:k<21:=hlt
  match k,hk21 with
  | 0,_ =>
   refine gd ?_;refine ⟨4,?_⟩
   repeat' first|refine gd ?_|refine bs ?_ ?_<;>intro q_
   all_goals first
    | exact zf (show (1:Int)=dbE d from (if_neg (fun h:zd4 d=>by unfold zd4 at h;omega)).symm)
    | exact ⟨1,nxt ⟨rfl,by unfold zd4;omega⟩,(by show 21 - 1<21 - 0;decide),(sr [0])⟩
  | 1,_ =>
   have p2:ctPV.pre (d.prs 0):=(by have:=(hs.prs 0 (by decide)).2;show (d.prs 0).spans.length<=1000000000;omega)
   repeat' first|refine gd ?_|refine bs ?_ ?_<;>intro q_
   ·exact zf (bad 11 (fun _=>if_neg (by rw[show zT (d.prs 0)=false from q_];decide)) (by decide) (by decide)).symm
   ·exact ⟨2,nxt ⟨if_pos (show zT (d.prs 0)=true from q_),hv (by decide)⟩,(by show 21 - 2<21 - 1;decide),(sr [0])⟩
  | 2,_ =>
   have p2:ctPV.pre (d.prs 1):=(by have:=(hs.prs 1 (by decide)).2;show (d.prs 1).spans.length<=1000000000;omega)
   repeat' first|refine gd ?_|refine bs ?_ ?_<;>intro q_
   ·exact zf (bad 11 (fun _=>if_neg (by rw[show zT (d.prs 1)=false from q_];decide)) (by decide) (by decide)).symm
   ·exact ⟨3,nxt ⟨if_pos (show zT (d.prs 1)=true from q_),hv (by decide)⟩,(by show 21 - 3<21 - 2;decide),(sr [0])⟩
  | 3,_ =>
   have p2:ctPV.pre (d.prs 2):=(by have:=(hs.prs 2 (by decide)).2;show (d.prs 2).spans.length<=1000000000;omega)
   repeat' first|refine gd ?_|refine bs ?_ ?_<;>intro q_
   ·exact zf (bad 11 (fun _=>if_neg (by rw[show zT (d.prs 2)=false from q_];decide)) (by decide) (by decide)).symm
   ·exact ⟨4,nxt ⟨if_pos (show zT (d.prs 2)=true from q_),hv (by decide)⟩,(by show 21 - 4<21 - 3;decide),(sr [0])⟩
  | 4,_ =>
   have p2:ctPV.pre (d.prs 3):=(by have:=(hs.prs 3 (by decide)).2;show (d.prs 3).spans.length<=1000000000;omega)
   repeat' first|refine gd ?_|refine bs ?_ ?_<;>intro q_
   ·exact zf (bad 11 (fun _=>if_neg (by rw[show zT (d.prs 3)=false from q_];decide)) (by decide) (by decide)).symm
   ·exact ⟨5,nxt ⟨if_pos (show zT (d.prs 3)=true from q_),hv (by decide)⟩,(by show 21 - 5<21 - 4;decide),(sr [0])⟩
  | 5,_ =>
   have p2:ctPV.pre (d.prs 4):=(by have:=(hs.prs 4 (by decide)).2;show (d.prs 4).spans.length<=1000000000;omega)
   repeat' first|refine gd ?_|refine bs ?_ ?_<;>intro q_
   ·exact zf (bad 11 (fun _=>if_neg (by rw[show zT (d.prs 4)=false from q_];decide)) (by decide) (by decide)).symm
   ·exact ⟨6,nxt ⟨if_pos (show zT (d.prs 4)=true from q_),hv (by decide)⟩,(by show 21 - 6<21 - 5;decide),(sr [0])⟩
  | 6,_ =>
   have p2:ctPV.pre (d.prs 5):=(by have:=(hs.prs 5 (by decide)).2;show (d.prs 5).spans.length<=1000000000;omega)
   repeat' first|refine gd ?_|refine bs ?_ ?_<;>intro q_
   ·exact zf (bad 11 (fun _=>if_neg (by rw[show zT (d.prs 5)=false from q_];decide)) (by decide) (by decide)).symm
   ·exact ⟨7,nxt ⟨if_pos (show zT (d.prs 5)=true from q_),hv (by decide)⟩,(by show 21 - 7<21 - 6;decide),(sr [0])⟩
  | 7,_ =>
   have p2:ctPV.pre (d.prs 6):=(by have:=(hs.prs 6 (by decide)).2;show (d.prs 6).spans.length<=1000000000;omega)
   repeat' first|refine gd ?_|refine bs ?_ ?_<;>intro q_
   ·exact zf (bad 11 (fun _=>if_neg (by rw[show zT (d.prs 6)=false from q_];decide)) (by decide) (by decide)).symm
   ·exact ⟨8,nxt ⟨if_pos (show zT (d.prs 6)=true from q_),hv (by decide)⟩,(by show 21 - 8<21 - 7;decide),(sr [0])⟩
  | 8,_ =>
   have hcl:=hs.cls;refine gd ?_;refine ⟨0,Nat,fun j=>⟨[(1,.own 1 0),(9,zei d.cls),(10,.v (.int .i64 d.cls.length)),(11,.v (.int .i64 j))],[.cells 39 (dbL d),.cells 270 [.own 0 16]],[]⟩,fun j=>j<=d.cls.length/\∀ i,i<j->clsAt d.cls i,fun j=>d.cls.length - j,fun _=>(by show 1<=2;decide),⟨0,⟨Nat.zero_le _,fun j hj=>by omega⟩,StLe.m1a tmS ⟨eZ,eZ,trivial⟩⟩,?_⟩
   rintro j ⟨hj,hdj⟩
   by_cases hjl:j<d.cls.length
   ·have ek:((j:Int) - 1).toNat=j - 1:=by omega
    have no:¬clsAt d.cls j->(11:Int)=dbE d:=fun h=>(bad 11 (fun _=>if_neg (by rw[show clsB d.cls=false from (clsB_f fun hh=>h (hh j hjl)).symm];decide)) (by decide) (by decide)).symm;rcases Nat.eq_zero_or_pos j with h0|h0
    ·repeat' first|refine gl ?_|refine bs ?_ ?_<;>intro q_
     all_goals first
      | exact zf (no fun h=>by have h1:=h.1;unfold zor at h1;omega)
      | exact ⟨j+1,⟨by omega,zo hdj ⟨⟨by omega,by omega,by omega,by omega,by omega⟩,fun h=>by omega⟩⟩,(by show _ - (j+1)<_ - j;omega),StLe.m1a tmS ⟨eZ,eZ,trivial⟩⟩
    ·have hb:=(hdj (j - 1) (by omega)).1;unfold zor at hb;have hb2:(d.cls.getD ((j:Int) - 1).toNat default).hi<=1114111:=by rw[ek];omega
     have hb3:0<=(d.cls.getD ((j:Int) - 1).toNat default).hi:=by rw[ek];omega
     repeat' first|refine gd ?_|refine bs ?_ ?_<;>intro q_
     all_goals try rw[ek] at *
     all_goals first
      | exact zf (no fun h=>by have h1:=h.1;have h2:=h.2 h0;unfold zor at h1;unfold spAft at h2;omega)
      | exact ⟨j+1,⟨by omega,zo hdj ⟨⟨by omega,by omega,by omega,by omega,by omega⟩,fun _=>⟨by omega,by omega⟩⟩⟩,(by show _ - (j+1)<_ - j;omega),StLe.m1a tmS ⟨eZ,eZ,trivial⟩⟩
   ·refine gl ?_;exact ⟨9,nxt ⟨if_pos (clsB_t fun i hi=>hdj i (by omega)).symm,hv (by decide)⟩,(by show 21 - 9<21 - 8;decide),(sr [0])⟩
  | 9,_ =>
   have p2:ctCheck.pre (d.mps 0):=yK (hs.mps 0 (by decide))
   repeat' first|refine gd ?_|refine bs ?_ ?_<;>intro q_
   ·exact zf (bad (xk (d.mps 0)) (fun _=>rfl) (by decide) q_).symm
   ·exact ⟨10,nxt ⟨show xk (d.mps 0)=0 from q_,hv (by decide)⟩,(by show 21 - 10<21 - 9;decide),(sr [0])⟩
  | 10,_ =>
   have p2:ctVs.pre (d.sts 0):=hs.sts 0 (by decide)
   repeat' first|refine gd ?_|refine bs ?_ ?_<;>intro q_
   ·exact zf (bad 11 (fun _=>if_neg (show ¬canon (d.sts 0)=d.sts 0 from q_)) (by decide) (by decide)).symm
   ·exact ⟨11,nxt ⟨if_pos (show canon (d.sts 0)=d.sts 0 from q_),hv (by decide)⟩,(by show 21 - 11<21 - 10;decide),(sr [0])⟩
  | 11,_ =>
   have p2:ctCheck.pre (d.mps 1):=yK (hs.mps 1 (by decide))
   repeat' first|refine gd ?_|refine bs ?_ ?_<;>intro q_
   ·exact zf (bad (xk (d.mps 1)) (fun _=>rfl) (by decide) q_).symm
   ·exact ⟨12,nxt ⟨show xk (d.mps 1)=0 from q_,hv (by decide)⟩,(by show 21 - 12<21 - 11;decide),(sr [0])⟩
  | 12,_ =>
   have p2:ctCheck.pre (d.mps 2):=yK (hs.mps 2 (by decide))
   repeat' first|refine gd ?_|refine bs ?_ ?_<;>intro q_
   ·exact zf (bad (xk (d.mps 2)) (fun _=>rfl) (by decide) q_).symm
   ·exact ⟨13,nxt ⟨show xk (d.mps 2)=0 from q_,hv (by decide)⟩,(by show 21 - 13<21 - 12;decide),(sr [0])⟩
  | 13,_ =>
   have p2:ctCheck.pre (d.mps 3):=yK (hs.mps 3 (by decide))
   repeat' first|refine gd ?_|refine bs ?_ ?_<;>intro q_
   ·exact zf (bad (xk (d.mps 3)) (fun _=>rfl) (by decide) q_).symm
   ·exact ⟨14,nxt ⟨show xk (d.mps 3)=0 from q_,hv (by decide)⟩,(by show 21 - 14<21 - 13;decide),(sr [0])⟩
  | 14,_ =>
   have p2:ctCheck.pre (d.mps 4):=yK (hs.mps 4 (by decide))
   repeat' first|refine gd ?_|refine bs ?_ ?_<;>intro q_
   ·exact zf (bad (xk (d.mps 4)) (fun _=>rfl) (by decide) q_).symm
   ·exact ⟨15,nxt ⟨show xk (d.mps 4)=0 from q_,hv (by decide)⟩,(by show 21 - 15<21 - 14;decide),(sr [0])⟩
  | 15,_ =>
   have p2:ctVs.pre (d.sts 1):=hs.sts 1 (by decide)
   repeat' first|refine gd ?_|refine bs ?_ ?_<;>intro q_
   ·exact zf (bad 11 (fun _=>if_neg (show ¬canon (d.sts 1)=d.sts 1 from q_)) (by decide) (by decide)).symm
   ·exact ⟨16,nxt ⟨if_pos (show canon (d.sts 1)=d.sts 1 from q_),hv (by decide)⟩,(by show 21 - 16<21 - 15;decide),(sr [0])⟩
  | 16,_ =>
   have p2:ctVs.pre (d.sts 2):=hs.sts 2 (by decide)
   repeat' first|refine gd ?_|refine bs ?_ ?_<;>intro q_
   ·exact zf (bad 11 (fun _=>if_neg (show ¬canon (d.sts 2)=d.sts 2 from q_)) (by decide) (by decide)).symm
   ·exact ⟨17,nxt ⟨if_pos (show canon (d.sts 2)=d.sts 2 from q_),hv (by decide)⟩,(by show 21 - 17<21 - 16;decide),(sr [0])⟩
  | 17,_ =>
   have p2:ctVs.pre (d.sts 3):=hs.sts 3 (by decide)
   repeat' first|refine gd ?_|refine bs ?_ ?_<;>intro q_
   ·exact zf (bad 11 (fun _=>if_neg (show ¬canon (d.sts 3)=d.sts 3 from q_)) (by decide) (by decide)).symm
   ·exact ⟨18,nxt ⟨if_pos (show canon (d.sts 3)=d.sts 3 from q_),hv (by decide)⟩,(by show 21 - 18<21 - 17;decide),(sr [0])⟩
  | 18,_ =>
   have p2:ctVs.pre (d.sts 4):=hs.sts 4 (by decide)
   repeat' first|refine gd ?_|refine bs ?_ ?_<;>intro q_
   ·exact zf (bad 11 (fun _=>if_neg (show ¬canon (d.sts 4)=d.sts 4 from q_)) (by decide) (by decide)).symm
   ·exact ⟨19,nxt ⟨if_pos (show canon (d.sts 4)=d.sts 4 from q_),hv (by decide)⟩,(by show 21 - 19<21 - 18;decide),(sr [0])⟩
  | 19,_ =>
   have p2:ctVs.pre (d.sts 5):=hs.sts 5 (by decide)
   repeat' first|refine gd ?_|refine bs ?_ ?_<;>intro q_
   ·exact zf (bad 11 (fun _=>if_neg (show ¬canon (d.sts 5)=d.sts 5 from q_)) (by decide) (by decide)).symm
   ·exact ⟨20,nxt ⟨if_pos (show canon (d.sts 5)=d.sts 5 from q_),hv (by decide)⟩,(by show 21 - 20<21 - 19;decide),(sr [0])⟩
  | 20,_ =>
   have p2:ctCheck.pre (d.mps 5):=yK (hs.mps 5 (by decide))
   repeat' first|refine gd ?_|refine bs ?_ ?_<;>intro q_
   ·exact zf (bad (xk (d.mps 5)) (fun _=>rfl) (by decide) q_).symm
   ·exact ⟨21,nxt ⟨show xk (d.mps 5)=0 from q_,hv (by decide)⟩,(by show 21 - 21<21 - 20;decide),(sr [0])⟩
  | k0+21,h=>exact absurd h (by omega)
 ·refine gl ?_;have hk0:0<k:=by omega
  exact zf (by rw[dbE,if_pos (hv hk0)];exact (firstE_0 fun j hj=>hd j (by omega)).symm)
end Go.Proofs
