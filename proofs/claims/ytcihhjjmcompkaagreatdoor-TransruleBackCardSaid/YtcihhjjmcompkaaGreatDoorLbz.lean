import Derived.Test.YtcihhjjmcompkaaGreatDoorCvz
import Derived.Test.YtcihhjjmcompkaaGreatDoorXz
import Derived.Test.YtcihhjjmcompkaaGreatDoorSyz
import Derived.Test.YtcihhjjmcompkaaGreatDoorC2
import Derived.Test.YtcihhjjmcompkaaGreatDoorBkz
import Derived.Test.YtcihhjjmcompkaaGreatDoorTxz
import Derived.Test.YtcihhjjmcompkaaGreatDoorY8z
set_option linter.unusedVariables false
set_option linter.unusedSimpArgs false
namespace Go.Proofs
open Go Go.Sx
variable {mx:Int}{pb:Bool}
noncomputable def Γr50:Ctx:=fun f=>match f with
 | 15=>some (.pure ctSm2)
 | _=>none
theorem Γr50_ok:za1 Tryz.prog (GlT mx pb) Γr50:=by
 intro f h hh
 simp only[Γr50] at hh
 split at hh<;>simp at hh<;>subst hh
 ·exact r2Small_ok
set_option maxHeartbeats 2000000 in
theorem rSets_ok:zay Tryz.prog (GlT mx pb) 75 ctSmS:=by
 refine zah (cc:=true) Γr50_ok Tryz.T_ok Tryz.mixed Tryz.func75 rfl (by kernel_rfl) (fun _=>rfl) (fun _ _=>by show 1≤23;decide) ?_
 intro (L:List (List Rg)) _
 repeat' (first|refine gl ?_|(first|refine br ?_ ?_|refine brF ?_ ?_)<;>intro q_<;>try simp only[nz] at q_)
 refine ⟨0,Nat,fun k=>⟨[(0,zix L),(3,.v (.int .i64 k))],[],[]⟩,fun k=>k≤20∧k≤L.length∧∀ j,j<k→(L.getD j default).length≤12,fun k=>20 - k,fun _=>Nat.zero_le _,⟨0,⟨Nat.zero_le _,Nat.zero_le _,fun j hj=>by omega⟩,zaf [] tmS trivial (by decide)⟩,?_⟩
 rintro k ⟨h20,hk,hd⟩
 by_cases hlt:k<L.length
 ·by_cases h2:k<20
  ·repeat' (first|refine gl ?_|(first|refine br ?_ ?_|refine brF ?_ ?_)<;>intro q_<;>try simp only[nz] at q_)
   ·exact zag (smSB_f fun h=>q_ (by have:=h.2 k hlt;omega))
   ·exact ⟨k+1,⟨by omega,by omega,zaw hd (by omega)⟩,(by show 20 - (k+1)<20 - k;omega),zaf [] tmS trivial (by decide)⟩
  ·repeat' (first|refine gl ?_|(first|refine br ?_ ?_|refine brF ?_ ?_)<;>intro q_<;>try simp only[nz] at q_)
   exact zag ((decide_eq_false (by omega)).trans (smSB_f fun h=>by have:=h.1;omega))
 ·repeat' (first|refine gl ?_|(first|refine br ?_ ?_|refine brF ?_ ?_)<;>intro q_<;>try simp only[nz] at q_)
  refine zag ?_
  by_cases h10:L.length≤10
  ·exact (decide_eq_true (by omega)).trans (smSB_t ⟨h10,fun i hi=>hd i (by omega)⟩)
  ·exact (decide_eq_false (by omega)).trans (smSB_f fun h=>h10 h.1)
noncomputable def Γs50:Ctx:=fun f=>match f with
 | 75=>some (.pure ctSmS)
 | _=>none
theorem Γs50_ok:za1 Tryz.prog (GlT mx pb) Γs50:=by
 intro f h hh
 simp only[Γs50] at hh
 split at hh<;>simp at hh<;>subst hh
 ·exact rSets_ok
set_option maxHeartbeats 4000000 in
theorem rSmL_ok:zay Tryz.prog (GlT mx pb) 37 ctSmL:=by
 refine zah (cc:=true) Γs50_ok Tryz.T_ok Tryz.mixed Tryz.func37 rfl (by kernel_rfl) (fun _=>rfl) (fun _ _=>by show 1≤51;decide) ?_
 intro (l:List Tl) _
 repeat' (first|refine gl ?_|(first|refine br ?_ ?_|refine brF ?_ ?_)<;>intro q_<;>try simp only[nz] at q_)
 refine ⟨0,Nat,fun k=>⟨[(0,tlsD l),(3,.v (.int .i64 k))],[],[]⟩,fun k=>k≤10∧k≤l.length∧∀ j,j<k→smT (l.getD j default),fun k=>10 - k,fun _=>Nat.zero_le _,⟨0,⟨Nat.zero_le _,Nat.zero_le _,fun j hj=>by omega⟩,zaf [] tmS trivial (by decide)⟩,?_⟩
 rintro k ⟨h20,hk,hd⟩
 by_cases hlt:k<l.length
 ·by_cases h2:k<10
  ·have hb := @smSB_iff (l.getD k default).bef
   have hm := @smSB_iff (l.getD k default).mat
   have ha := @smSB_iff (l.getD k default).aft
   repeat' (first|refine gl ?_|(first|refine br ?_ ?_|refine brF ?_ ?_)<;>intro q_<;>try simp only[nz] at q_)
   ·exact zag (smLB_f fun h=>by have:=(h.2 k hlt).2.2.2;omega)
   ·exact ⟨k+1,⟨by omega,by omega,zaw hd ⟨hb.1 (by assumption),hm.1 (by assumption),ha.1 (by assumption),by omega⟩⟩,(by show 10 - (k+1)<10 - k;omega),zaf [] tmS trivial (by decide)⟩
   ·exact zag (smLB_f fun h=>Bool.noConfusion ((ha.2 (h.2 k hlt).2.2.1).symm.trans q_))
   ·exact zag (smLB_f fun h=>Bool.noConfusion ((hm.2 (h.2 k hlt).2.1).symm.trans q_))
   ·exact zag (smLB_f fun h=>Bool.noConfusion ((hb.2 (h.2 k hlt).1).symm.trans q_))
  ·repeat' (first|refine gl ?_|(first|refine br ?_ ?_|refine brF ?_ ?_)<;>intro q_<;>try simp only[nz] at q_)
   exact zag ((decide_eq_false (by omega)).trans (smLB_f fun h=>by have:=h.1;omega))
 ·repeat' (first|refine gl ?_|(first|refine br ?_ ?_|refine brF ?_ ?_)<;>intro q_<;>try simp only[nz] at q_)
  refine zag ?_
  by_cases h10:l.length≤6
  ·exact (decide_eq_true (by omega)).trans (smLB_t ⟨h10,fun i hi=>hd i (by omega)⟩)
  ·exact (decide_eq_false (by omega)).trans (smLB_f fun h=>h10 h.1)
end Go.Proofs
namespace Go.Proofs
open Go Go.Sx
variable {mx:Int}{pb:Bool}
def zdb:Db:=⟨0,0,fun _=>⟨[],[]⟩,[],fun _=>[],fun _=>[]⟩
theorem zdb_ent {r r':List D}(h:EntL r r'):EntL (.ag [.v (.int .i64 0),.v (.int .i64 0),zgi,zgi,zgi,zgi,zgi,zgi,zgi,zgi,zgi,zgi,zgi,zgi,zgi,zgi,zgi,zgi,zgi,zgi,zgi,zgi,zgi,zgi,zgi,zgi,zgi,zgi,zgi]::r) (dbA zdb::r'):=by
 refine EntL.cons (Ent.ag (EntL.cons (zab _) (EntL.cons (zab _) ?_))) h
 iterate 27 refine EntL.cons Ent.nil ?_
 exact zaa _
theorem zdb_sm:SmD zdb:=⟨Nat.zero_le _,fun _ _=>⟨Nat.zero_le _,Nat.zero_le _⟩,fun _ _=>Nat.zero_le _,fun _ _=>(by show zia []=true;decide)⟩
def exA:ByteArray:=⟨#[91,97,45,122,45,45,91,97,101,105,111,117,93,93]⟩
def exB:ByteArray:=⟨#[91,97,45,99,45,101,93]⟩
end Go.Proofs
namespace Go.Proofs
open Go Go.Sx
variable {mx:Int}{pb:Bool}
theorem sm_bg {l:List Tl}(h:smL l):bgL l:=by
 have key:∀ {L:List (List Rg)},smS L→bgS L:=fun {L} h=>⟨by have:=h.1;omega,fun i hi=>by have:=h.2 i hi;omega⟩
 refine ⟨by have:=h.1;omega,fun i hi=>?_⟩
 obtain ⟨h1,h2,h3,h4⟩:=h.2 i hi
 exact ⟨key h1,key h2,key h3,by omega⟩
theorem sm_stsL {L:List (List Rg)}(h:smS L):∀ k,k≤L.length→(stsL L k).length≤260*k
 | 0,_=>Nat.le_refl _
 | k+1,hk=>by
  have h1:=sm_stsL h k (by omega)
  have h2:=stL_lenR (L.getD k default)
  have h3:=h.2 k (by omega)
  show List.length (_++_)≤_
  rw[List.length_append]
  omega
theorem sm_rlsL {l:List Tl}(h:smL l):∀ k,k≤l.length→(rlsL l k).length≤8200*k
 | 0,_=>Nat.le_refl _
 | k+1,hk=>by
  have h1:=sm_rlsL h k (by omega)
  obtain ⟨q1,q2,q3,q4⟩:=h.2 k (by omega)
  have g1:=sm_stsL q1 _ (Nat.le_refl _)
  have g2:=sm_stsL q2 _ (Nat.le_refl _)
  have g3:=sm_stsL q3 _ (Nat.le_refl _)
  have g4:=pcsL_len (l.getD k default).res (l.getD k default).res.length
  have l1:=q1.1
  have l2:=q2.1
  have l3:=q3.1
  show List.length (_++(hdL _++_++_))≤_
  unfold hdL
  simp only[List.length_append,List.length_cons,List.length_nil]
  omega
theorem txtB_ok {l:List Tl}(h:ziu l=0):txtB l=bl (rlsL l l.length):=if_pos h
def ctLaw50B:Ct:={ ι:=Db × List Tl × ByteArray,inp:=fun x=>[dbA x.1,tlsD x.2.1,.v (.string x.2.2)],out:=fun _=>.v (.bool true),pre:=fun x=>fitDb x.1 }
noncomputable def Γl50b (mx:Int):Ctx:=fun f=>match f with
 | 27=>some (.pure ctSmDb)
 | 37=>some (.pure ctSmL)
 | 38=>some (.pure ctTxtB)
 | 39=>some (.pure ctChkB)
 | 34=>some (.pure ctTrP)
 | 36=>some (.pure ctSmTl)
 | 33=>some (.pure ctAlive)
 | _=>none
theorem Γl50b_ok {mx:Int}:za1 Tryz.prog (GlT mx true) (Γl50b mx):=by
 intro f h hh
 simp only[Γl50b] at hh
 split at hh<;>simp at hh<;>subst hh
 ·exact rSmDb_ok
 ·exact rSmL_ok
 ·exact pTxtB_ok
 ·exact pChkB_ok
 ·exact trP_ok
 ·exact rSmTl_ok
 ·exact alive50_ok mx
set_option maxHeartbeats 8000000 in
theorem lawTB_ok {mx:Int}:zay Tryz.prog (GlT mx true) 10 ctLaw50B:=by
 refine zah (cc:=true) Γl50b_ok Tryz.T_ok Tryz.mixed Tryz.func10 rfl (by kernel_rfl) (fun _=>rfl) (fun _ _=>by show 3≤108;decide) ?_
 rintro ⟨(d:Db),(l:List Tl),(s:ByteArray)⟩ (hf:fitDb d)
 have a0:ctAlive.pre ():=trivial
 have a1:ctSmDb.pre d:=hf
 by_cases hd:SmD d
 case neg =>
  have hsd:smDb d=false:=(smDb_f hd).symm
  repeat' (first|refine gl ?_|(first|refine br ?_ ?_|refine brF ?_ ?_)<;>intro q_<;>try simp only[nz] at q_)
  exact EntR.of rfl (zab _)
 have hsd:smDb d=true:=smDb_iff.2 hd
 by_cases hl:smL l
 case neg =>
  have hsl:smLB l=false:=(smLB_f hl).symm
  repeat' (first|refine gl ?_|(first|refine br ?_ ?_|refine brF ?_ ?_)<;>intro q_<;>try simp only[nz] at q_)
  exact EntR.of rfl (zab _)
 have hsl:smLB l=true:=smLB_iff.2 hl
 by_cases hs:s.size≤500
 case neg =>
  have hg:(s.size:Int)>500:=by omega
  repeat' (first|refine gl ?_|(first|refine br ?_ ?_|refine brF ?_ ?_)<;>intro q_<;>try simp only[nz] at q_)
  exact EntR.of rfl (zab _)
 have hg:¬(s.size:Int)>500:=by omega
 have hb:=sm_bg hl
 have p1:ctTxtB.pre l:=hb
 have p2:ctChkB.pre l:=hb
 have p3:ctSmTl.pre l:=hb
 have hz:=sm_rlsL hl l.length (Nat.le_refl _)
 have h6:=hl.1
 have hdf:Unit→SmD d:=fun _=>hd
 have hbk:ziu l=0→trP d (txtB l)=(l,0,0):=fun hc=>by rw[txtB_ok hc];exact trP_back hd hc (by omega)
 clear hd hl hb
 by_cases hc:ziu l=0
 ·have e1:=zfn (hbk hc)
  repeat' (first|refine gl ?_|(first|refine br ?_ ?_|refine brF ?_ ?_)<;>intro q_<;>try simp only[nz] at q_)
  refine ⟨(d,txtB l),zaa _,hdf (),?_⟩
  rw[e1]
  simp only[zai,zbm,zb3,zc5,nr,ns,Nat.reduceAdd,Nat.zero_add,reduceIte]
  repeat' (first|refine gl ?_|(first|refine br ?_ ?_|refine brF ?_ ?_)<;>intro q_<;>try simp only[nz] at q_)
  refine ⟨(d,s),zaa _,hdf (),?_⟩
  cases hP:trP d s with
  | mk R z =>
  obtain ⟨e,a⟩:=z
  rw[zfn hP]
  simp only[zai,zbm,zb3,zc5,nr,ns,Nat.reduceAdd,Nat.zero_add,reduceIte]
  by_cases h0:e=0
  ·have hA:=trP_again (d:=d) (d':=zdb) zdb_sm hs (by rw[hP];exact h0)
   have q1:bgL R:=by have:=trP_bg (d:=d) (s:=s);rw[hP] at this;exact this
   rw[hP] at hA
   obtain ⟨ha0,hcR,hbR⟩:=hA
   replace ha0:a=0:=ha0
   replace hcR:ziu R=0:=hcR
   replace hbR:trP zdb (bl (rlsL R R.length))=(R,0,0):=hbR
   rw[← txtB_ok hcR] at hbR
   subst h0
   subst ha0
   have p4:ctTxtB.pre R:=q1
   have p5:ctChkB.pre R:=q1
   have p6:ctSmTl.pre R:=q1
   repeat' (first|refine gl ?_|(first|refine br ?_ ?_|refine brF ?_ ?_)<;>intro q_<;>try simp only[nz] at q_)
   refine ⟨(zdb,txtB R),zdb_ent (zaa _),zdb_sm,?_⟩
   rw[zfn hbR]
   simp only[zai,zbm,zb3,zc5,nr,ns,Nat.reduceAdd,Nat.zero_add,reduceIte]
   repeat' (first|refine gl ?_|(first|refine br ?_ ?_|refine brF ?_ ?_)<;>intro q_<;>try simp only[nz] at q_)
   exact EntR.of rfl (zab _)
  ·have hB:=trP_bad hs (by rw[hP];exact h0)
   rw[hP] at hB
   obtain ⟨hR0,ha1⟩:=hB
   replace hR0:R=[]:=hR0
   replace ha1:1≤a:=ha1
   subst hR0
   repeat' (first|refine gl ?_|(first|refine br ?_ ?_|refine brF ?_ ?_)<;>intro q_<;>try simp only[nz] at q_)
   exact EntR.of rfl (zab _)
 ·repeat' (first|refine gl ?_|(first|refine br ?_ ?_|refine brF ?_ ?_)<;>intro q_<;>try simp only[nz] at q_)
  refine ⟨(d,s),zaa _,hdf (),?_⟩
  cases hP:trP d s with
  | mk R z =>
  obtain ⟨e,a⟩:=z
  rw[zfn hP]
  simp only[zai,zbm,zb3,zc5,nr,ns,Nat.reduceAdd,Nat.zero_add,reduceIte]
  by_cases h0:e=0
  ·have hA:=trP_again (d:=d) (d':=zdb) zdb_sm hs (by rw[hP];exact h0)
   have q1:bgL R:=by have:=trP_bg (d:=d) (s:=s);rw[hP] at this;exact this
   rw[hP] at hA
   obtain ⟨ha0,hcR,hbR⟩:=hA
   replace ha0:a=0:=ha0
   replace hcR:ziu R=0:=hcR
   replace hbR:trP zdb (bl (rlsL R R.length))=(R,0,0):=hbR
   rw[← txtB_ok hcR] at hbR
   subst h0
   subst ha0
   have p4:ctTxtB.pre R:=q1
   have p5:ctChkB.pre R:=q1
   have p6:ctSmTl.pre R:=q1
   repeat' (first|refine gl ?_|(first|refine br ?_ ?_|refine brF ?_ ?_)<;>intro q_<;>try simp only[nz] at q_)
   refine ⟨(zdb,txtB R),zdb_ent (zaa _),zdb_sm,?_⟩
   rw[zfn hbR]
   simp only[zai,zbm,zb3,zc5,nr,ns,Nat.reduceAdd,Nat.zero_add,reduceIte]
   repeat' (first|refine gl ?_|(first|refine br ?_ ?_|refine brF ?_ ?_)<;>intro q_<;>try simp only[nz] at q_)
   exact EntR.of rfl (zab _)
  ·have hB:=trP_bad hs (by rw[hP];exact h0)
   rw[hP] at hB
   obtain ⟨hR0,ha1⟩:=hB
   replace hR0:R=[]:=hR0
   replace ha1:1≤a:=ha1
   subst hR0
   repeat' (first|refine gl ?_|(first|refine br ?_ ?_|refine brF ?_ ?_)<;>intro q_<;>try simp only[nz] at q_)
   exact EntR.of rfl (zab _)
end Go.Proofs
