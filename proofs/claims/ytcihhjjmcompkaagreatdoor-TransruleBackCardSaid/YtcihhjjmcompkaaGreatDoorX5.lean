import Derived.Test.YtcihhjjmcompkaaGreatDoorX1
import Derived.Test.YtcihhjjmcompkaaGreatDoorDgz
import Derived.Test.YtcihhjjmcompkaaGreatDoorGc
import Derived.Test.YtcihhjjmcompkaaGreatDoorDz
import Derived.Test.YtcihhjjmcompkaaGreatDoorQz
import Derived.Test.YtcihhjjmcompkaaGreatDoorUz
set_option linter.unusedVariables false
set_option linter.unusedSimpArgs false
namespace Go.Proofs
open Go Go.Sx
variable {mx:Int}{pb:Bool}
def ctSetFl:Ct:={ ι:=Unit,inp:=fun _=>[],out:=fun _=>slD 1 zg7 setFl,pre:=fun _=>True }
theorem setFl_ok:zay Tryz.prog (GlT mx pb) 200 ctSetFl:=by
 refine zah (cc:=true) zbj Tryz.T_ok Tryz.mixed Tryz.func200 rfl (by kernel_rfl) (fun _=>rfl) (fun _ _=>by show 0≤2;decide) ?_
 intro _ _
 repeat' (first|refine gl ?_|(first|refine br ?_ ?_|refine brF ?_ ?_)<;>intro q_<;>try simp only[nz] at q_)
 exact EntR.of rfl (ent_lit rfl rfl)
def ctPrFl:Ct:={ ι:=Unit,inp:=fun _=>[],out:=fun _=>slD 1 zg7 prFl,pre:=fun _=>True }
theorem prFl_ok:zay Tryz.prog (GlT mx pb) 203 ctPrFl:=by
 refine zah (cc:=true) zbj Tryz.T_ok Tryz.mixed Tryz.func203 rfl (by kernel_rfl) (fun _=>rfl) (fun _ _=>by show 0≤2;decide) ?_
 intro _ _
 repeat' (first|refine gl ?_|(first|refine br ?_ ?_|refine brF ?_ ?_)<;>intro q_<;>try simp only[nz] at q_)
 exact EntR.of rfl (ent_lit rfl rfl)
noncomputable def ocFnd:Oc:=ocM (List ByteArray × ByteArray × Int) (fun x=>[slD 1 zg7 x.1,.v (.string x.2.1),.v (.int .i64 x.2.2)]) (fun _ x=>x.1.length≤100) zfy
theorem fst_stop {l:List ByteArray}{s:ByteArray}{k:Nat}(hk:k<l.length) (hn:∀ j,j<k→¬l.getD j default=s) (h:l.getD k default=s):fstI l s=k:=by
 unfold fstI
 rw[List.findIdx_eq hk]
 refine ⟨zd1.2 ?_,fun j hj=>?_⟩
 ·rw[← h];simp[List.getD_eq_getElem?_getD,hk]
 ·have hjl:j<l.length:=Nat.lt_trans hj hk
  have:=hn j hj
  rw[show l.getD j default=l[j] by simp[List.getD_eq_getElem?_getD,hjl]] at this
  rw[← Bool.not_eq_true,zd1]
  exact this
theorem fst_none {l:List ByteArray}{s:ByteArray}(hn:∀ j,j<l.length→¬l.getD j default=s):¬fstI l s<l.length:=by
 intro h
 unfold fstI at h
 have h1:=List.findIdx_getElem (w:=h)
 rw[zd1] at h1
 refine hn _ h (Eq.trans ?_ h1)
 simp[List.getD_eq_getElem?_getD,h]
noncomputable def Γxf:Ctx:=fun f=>match f with
 | 243=>some (.pure ctDbE)
 | 56=>some (.obj zg5)
 | _=>none
theorem Γxf_ok:za1 Tryz.prog (GlT mx pb) Γxf:=by
 intro f h hh
 simp only[Γxf] at hh
 split at hh<;>simp at hh<;>subst hh
 ·exact pDbE_ok
 ·exact zdi
set_option maxHeartbeats 4000000 in
theorem xFnd_ok:zbt Tryz.prog (GlT mx pb) 199 ocFnd:=by
 refine zbc (cc:=true) Γxf_ok Tryz.T_ok Tryz.mixed Tryz.func199 rfl (by kernel_rfl) (fun x=>zan x.1) (fun _=>rfl) (fun x=>zan x.2.2.st) (fun _ _=>by show 4≤_;decide) ?_
 rintro ⟨⟨⟨db,ch,us,s,k⟩,hp⟩,⟨fl,nm,st⟩,o⟩ ⟨hl,ho⟩
 replace hl:fl.length≤100:=hl
 replace ho:zfy ⟨⟨db,ch,us,s,k⟩,hp⟩ (fl,nm,st)=o:=ho
 subst ho
 obtain ⟨⟨hsm,hus⟩,h2,h3⟩:=id hp
 have hsm:ctDbE.pre db:=hsm
 have hus:ch=true→us=usB db:=hus
 have hbad:¬(usB db=true∧fstI fl nm<fl.length)→zfy ⟨⟨db,ch,us,s,k⟩,hp⟩ (fl,nm,st)=.bad 6 st (ckd ⟨⟨db,ch,us,s,k⟩,hp⟩):=fun h=>if_neg h
 have hgo:usB db=true∧fstI fl nm<fl.length→zfy ⟨⟨db,ch,us,s,k⟩,hp⟩ (fl,nm,st)=.ok (.v (.int .i64 (fstI fl nm))) (ckd ⟨⟨db,ch,us,s,k⟩,hp⟩):=fun h=>if_pos h
 obtain ⟨u,hu⟩:∃ u,usB db=u:=⟨_,rfl⟩
 have hC:pC ⟨db,true,u,s,k⟩=pC (ckd ⟨⟨db,ch,us,s,k⟩,hp⟩).1:=by show _=pC ⟨db,true,usB db,s,k⟩;rw[hu]
 have hC2:pC ⟨db,true,usB db,s,k⟩=pC ⟨db,true,u,s,k⟩:=by rw[hu]
 have hpd:pdL (pC ⟨db,true,u,s,k⟩)=true:=by rw[hC];exact zan (ckd ⟨⟨db,ch,us,s,k⟩,hp⟩)
 have hX:OkP ⟨db,true,u,s,k⟩:=⟨⟨hsm,fun _=>hu.symm⟩,h2,h3⟩
 cases ch with
 | true =>
  obtain rfl:=hus rfl
  repeat' (first|refine gw ?_|(first|refine br ?_ ?_|refine brF ?_ ?_)<;>intro q_<;>try simp only[nz] at q_)
  refine ⟨0,Nat,fun i=>⟨[(0,.own 0 0),(2,.v (.string nm)),(3,.v (.int .i64 st)),(28,slD 1 zg7 fl),(29,.v (.int .i64 fl.length)),(30,.v (.int .i64 i))],[.cells 100 (pC ⟨db,true,u,s,k⟩)],[]⟩,fun i=>i≤fl.length∧(u=true→∀ j,j<i→¬fl.getD j default=nm),fun i=>fl.length - i,fun _=>Nat.le_refl _,⟨0,⟨Nat.zero_le _,fun _ j hj=>by omega⟩,zfc hpd hC2 tmS⟩,?_⟩
  rintro i ⟨hi,hn⟩
  replace hi:i≤fl.length:=hi
  by_cases hlt:i<fl.length
  ·cases u with
   | true =>
    repeat' (first|refine gw ?_|(first|refine br ?_ ?_|refine brF ?_ ?_)<;>intro q_<;>try simp only[nz] at q_)
    ·have e:=fst_stop hlt (hn rfl) q_
     exact retM (q:=ckd ⟨⟨db,true,usB db,s,k⟩,hp⟩) (hgo ⟨hu,by rw[e];exact hlt⟩) (zaj (by rw[e];rfl) rfl) rfl hC
    ·exact ⟨i+1,⟨by omega,fun _=>zaw (hn rfl) q_⟩,(by show fl.length - (i+1)<fl.length - i;omega),zfc hpd rfl tmS⟩
   | false =>
    repeat' (first|refine gw ?_|(first|refine br ?_ ?_|refine brF ?_ ?_)<;>intro q_<;>try simp only[nz] at q_)
    exact ⟨i+1,⟨by omega,fun h=>Bool.noConfusion h⟩,(by show fl.length - (i+1)<fl.length - i;omega),zfc hpd rfl tmS⟩
  ·repeat' (first|refine gw ?_|(first|refine br ?_ ?_|refine brF ?_ ?_)<;>intro q_<;>try simp only[nz] at q_)
   refine ⟨((⟨⟨db,true,u,s,k⟩,hX⟩,6,st):PX × Int × Int),obE (zan ⟨⟨db,true,u,s,k⟩,hX⟩),zaa _,trivial,?_⟩
   exact panM (q:=ckd ⟨⟨db,true,usB db,s,k⟩,hp⟩) (hbad fun h=>fst_none (fun j hj=>hn (hu.symm.trans h.1) j (by omega)) h.2) (zaj rfl rfl) rfl hC
 | false =>
  repeat' (first|refine gw ?_|(first|refine br ?_ ?_|refine brF ?_ ?_)<;>intro q_<;>try simp only[nz] at q_)
  refine ⟨0,Nat,fun i=>⟨[(0,.own 0 0),(2,.v (.string nm)),(3,.v (.int .i64 st)),(28,slD 1 zg7 fl),(29,.v (.int .i64 fl.length)),(30,.v (.int .i64 i))],[.cells 100 (pC ⟨db,true,u,s,k⟩)],[]⟩,fun i=>i≤fl.length∧(u=true→∀ j,j<i→¬fl.getD j default=nm),fun i=>fl.length - i,fun _=>Nat.le_refl _,⟨0,⟨Nat.zero_le _,fun _ j hj=>by omega⟩,zfc hpd hC2 tmS⟩,?_⟩
  rintro i ⟨hi,hn⟩
  replace hi:i≤fl.length:=hi
  by_cases hlt:i<fl.length
  ·cases u with
   | true =>
    repeat' (first|refine gw ?_|(first|refine br ?_ ?_|refine brF ?_ ?_)<;>intro q_<;>try simp only[nz] at q_)
    ·have e:=fst_stop hlt (hn rfl) q_
     exact retM (q:=ckd ⟨⟨db,false,us,s,k⟩,hp⟩) (hgo ⟨hu,by rw[e];exact hlt⟩) (zaj (by rw[e];rfl) rfl) rfl hC
    ·exact ⟨i+1,⟨by omega,fun _=>zaw (hn rfl) q_⟩,(by show fl.length - (i+1)<fl.length - i;omega),zfc hpd rfl tmS⟩
   | false =>
    repeat' (first|refine gw ?_|(first|refine br ?_ ?_|refine brF ?_ ?_)<;>intro q_<;>try simp only[nz] at q_)
    exact ⟨i+1,⟨by omega,fun h=>Bool.noConfusion h⟩,(by show fl.length - (i+1)<fl.length - i;omega),zfc hpd rfl tmS⟩
  ·repeat' (first|refine gw ?_|(first|refine br ?_ ?_|refine brF ?_ ?_)<;>intro q_<;>try simp only[nz] at q_)
   refine ⟨((⟨⟨db,true,u,s,k⟩,hX⟩,6,st):PX × Int × Int),obE (zan ⟨⟨db,true,u,s,k⟩,hX⟩),zaa _,trivial,?_⟩
   exact panM (q:=ckd ⟨⟨db,false,us,s,k⟩,hp⟩) (hbad fun h=>fst_none (fun j hj=>hn (hu.symm.trans h.1) j (by omega)) h.2) (zaj rfl rfl) rfl hC
end Go.Proofs
namespace Go.Proofs
open Go Go.Sx
variable {mx:Int}{pb:Bool}
theorem hp_pre2 (p:PX) (a b:UInt8):hpB (zcd p.1.s p.1.k p.1.s.size) ⟨#[a,b]⟩=pre2 p.1 a.toNat b.toNat:=by
 obtain ⟨⟨db,ch,us,s,k⟩,hp⟩:=p
 have hk:k≤s.data.toList.length:=hp.2.1
 have hc:zcd s k s.size=⟨⟨s.data.toList.drop k⟩⟩:=by
  show (⟨⟨(s.data.toList.take s.data.toList.length).drop k⟩⟩:ByteArray)=_
  rw[List.take_length]
 show hpB (zcd s k s.size) ⟨#[a,b]⟩=pre2 ⟨db,ch,us,s,k⟩ a.toNat b.toNat
 rw[hc]
 unfold hpB pre2
 have hsz:(⟨⟨s.data.toList.drop k⟩⟩:ByteArray).size=s.size - k:=by show (s.data.toList.drop k).length=_;rw[List.length_drop];rfl
 have h2:(⟨#[a,b]⟩:ByteArray).size=2:=rfl
 rw[hsz,h2]
 by_cases h:k+1<s.size
 ·have h1:k+1<s.data.toList.length:=h
  have hd:s.data.toList.drop k=s.data.toList[k]::s.data.toList[k+1]::s.data.toList.drop (k+2):=by
   rw[List.drop_eq_getElem_cons (by omega),List.drop_eq_getElem_cons h1]
  have hcc:zcd ⟨⟨s.data.toList.drop k⟩⟩ 0 2=⟨#[s.data.toList[k],s.data.toList[k+1]]⟩:=by
   rw[hd];rfl
  rw[hcc,decide_eq_true (show 2≤s.size - k by omega),Bool.true_and]
  have e0:bAt s k=(s.data.toList[k]).toNat:=by unfold bAt;rw[List.getElem?_eq_getElem (by omega)];rfl
  have e1:bAt s (k+1)=(s.data.toList[k+1]).toNat:=by unfold bAt;rw[List.getElem?_eq_getElem h1];rfl
  have key:eqB ⟨#[s.data.toList[k],s.data.toList[k+1]]⟩ ⟨#[a,b]⟩=true↔(s.data.toList[k]=a∧s.data.toList[k+1]=b):=by
   rw[zd1]
   constructor
   ·intro hh
    have:(#[s.data.toList[k],s.data.toList[k+1]]:Array UInt8) = #[a,b]:=congrArg ByteArray.data hh
    simpa using this
   ·rintro ⟨h1,h2⟩;rw[h1,h2]
  have u8:∀ x y:UInt8,((x.toNat:Int)=y.toNat)↔x=y:=fun x y=>⟨fun hh=>UInt8.toNat_inj.1 (by omega),fun hh=>by rw[hh]⟩
  rw[Bool.eq_iff_iff,key,decide_eq_true_iff,e0,e1,u8,u8]
  exact ⟨fun hh=>⟨h,hh⟩,fun hh=>hh.2⟩
 ·rw[decide_eq_false (show ¬2≤s.size - k by omega),Bool.false_and,decide_eq_false (fun hh=>h hh.1)]
def ocL (A:Type) (inpD:A→List D) (pre:PX→A→Prop) (f:List Rg→D) (run:PX→A→OutL):Oc:=ocM A inpD pre fun p a=>(run p a).p f
noncomputable def ocCls:Oc:=ocL Unit (fun _=>[]) (fun p _=>pkV p.1=92) zbu fun p _=>zb0 p
theorem panL {A:Type}{inpD:A→List D}{pre:PX→A→Prop}{f:List Rg→D}{run:PX→A→OutL}{x:PX × A × OutP}{p:PX}{a:A}{d:D}{e n:Int}{q:PX}{ow:List Own}{l:List D}(hx:x=(p,a,(run p a).p f)) (hr:run p a=.bad e n q) (h:EntR d (stopD e n)) (ho:ow[0]?=some (Own.cells 100 l)) (hl:l=pC q.1):panO (ocL A inpD pre f run) x ⟨[(0,d)],ow,[]⟩:=by
 subst hx
 exact panM (run:=fun p a=>(run p a).p f) (p:=p) (a:=a) (q:=q) (by show (run p a).p f=_;rw[hr];rfl) h ho hl
theorem retL {A:Type}{inpD:A→List D}{pre:PX→A→Prop}{f:List Rg→D}{run:PX→A→OutL}{x:PX × A × OutP}{p:PX}{a:A}{d:D}{L:List Rg}{q:PX}{ow:List Own}{l:List D}(hx:x=(p,a,(run p a).p f)) (hr:run p a=.ok L q) (h:EntR d (f L)) (ho:ow[0]?=some (Own.cells 100 l)) (hl:l=pC q.1):retO (ocL A inpD pre f run) x d ow:=by
 subst hx
 exact retM (run:=fun p a=>(run p a).p f) (p:=p) (a:=a) (q:=q) (by show (run p a).p f=_;rw[hr];rfl) h ho hl
theorem pad {f:List Rg→D}{o:OutL}{e a:Int}{q:PX}(h:o=.bad e a q):o.p f=.bad e a q:=by rw[h];rfl
theorem pok {f:List Rg→D}{o:OutL}{L:List Rg}{q:PX}(h:o=.ok L q):o.p f=.ok (f L) q:=by rw[h];rfl
end Go.Proofs
