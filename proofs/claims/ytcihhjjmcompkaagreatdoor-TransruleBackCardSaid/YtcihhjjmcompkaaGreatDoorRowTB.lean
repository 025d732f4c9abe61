import Derived.Test.YtcihhjjmcompkaaGreatDoorRo51
import Derived.Test.YtcihhjjmcompkaaGreatDoorLbz
import Derived.Test.YtcihhjjmcompkaaGreatDoorOpz
set_option linter.unusedVariables false
set_option linter.unusedSimpArgs false
namespace Go.Proofs.YtcihhjjmcompkaaGreatDoor
open Go Go.Sx Go.ChangeShapes Go.WideShapes Go.ChangeAt Go.RowKit
set_option maxRecDepth 100000 in
theorem liftedTB (os:Os) (started:os.Started) (H:Type) (enc:TypeId × Value→H):
  ReturnsInHanded {} Tryz.checked os 10 .any (fun w args=>(Rows.transruleBackSpec.pre enc Tryz.prog Tryz.f10 [] false w args∧laidMetH Tryz.prog Rows.transruleBackRow.laid w)∧sizedMet enc Tryz.prog Tryz.f10 (OpenSpec.ofChange Rows.transruleBackSpec) false w args)
   (Rows.transruleBackSpec.post enc Tryz.prog Tryz.f10 false true false false):=by
 refine ret_shaped (C:=Tryz.checked) (X:=fun w _=>laidMetH Tryz.prog Rows.transruleBackRow.laid w) (fun _ _ _ hh h=>h.of_heap hh) own started (by kernel_rfl) Tryz.func10
  (ChangeSpec.witness_shaped (enc:=enc) (C:=Tryz.checked) (os:=os) (X:=fun w _=>laidMetH Tryz.prog Rows.transruleBackRow.laid w) false (World.laidAll Tryz.prog os Rows.transruleBackRow.laid) #[.agg #[.int .i64 0,.int .i64 0,.slice none 0 0,.slice none 0 0,.slice none 0 0,.slice none 0 0,.slice none 0 0,.slice none 0 0,.slice none 0 0,.slice none 0 0,.slice none 0 0,.slice none 0 0,.slice none 0 0,.slice none 0 0,.slice none 0 0,.slice none 0 0,.slice none 0 0,.slice none 0 0,.slice none 0 0,.slice none 0 0,.slice none 0 0,.slice none 0 0,.slice none 0 0,.slice none 0 0,.slice none 0 0,.slice none 0 0,.slice none 0 0,.slice none 0 0,.slice none 0 0],.slice none 0 0,.string ⟨#[]⟩] 8 (World.laidAll_os _ _ _)
    (World.shaped_of_ZipB (by kernel_rfl) (by kernel_rfl)) (by kernel_rfl) (by kernel_rfl) (by kernel_rfl)
    (by rw[MakeChecks.laidMetH_plain _ _ _ (by kernel_rfl)];exact laidMet_laidAll _ (by kernel_rfl) (by kernel_rfl))) ?_
 intro W base args ds gs before hval0 hW hL hsh
 have hval:∀ (j:Nat) t v,Tryz.f10.params[j]?=some t→args[j]?=some v→Value.okWide Tryz.prog W .any base t v:=hval0
 have hW':=hW
 obtain ⟨p,q,hA0,hV,rfl,hfz,hnd⟩:=hW
 have hA:DataW.TrodAll enc Tryz.prog W 0 (fun _=>true) true Tryz.f10.params.toList args.toList ds p:=hA0
 rw[Tryz.params10] at hA hval
 obtain ⟨v1,v2,v3,d1,d2,d3,p1,p2,p3,rfl,rfl,rfl,h1,h2,h3⟩:=trodAll_three hA
 obtain ⟨rfl,rfl⟩:=trodVars_none hV
 have hlt:∀ x∈p1++p2++p3,x.block<W.heap.size:=fun x hx=>by simpa using hW'.lt x (by simpa using hx)
 have hargs1:∀ (W':World),Below W.heap.size W W'→DataW.Trod enc Tryz.prog W' 0 (fun b=>decide (b<W.heap.size)) true 47 v1 d1 p1 :=
  fun W' hn=>Below.trod laidOut (by kernel_rfl) (of_decide_eq_true (by kernel_rfl)) h1 hn (fun x hx=>hlt x (by simp[hx]))
 have hargs2:∀ (W':World),Below W.heap.size W W'→DataW.Trod enc Tryz.prog W' 0 (fun b=>decide (b<W.heap.size)) true 63 v2 d2 p2 :=
  fun W' hn=>Below.trod laidOut (by kernel_rfl) (of_decide_eq_true (by kernel_rfl)) h2 hn (fun x hx=>hlt x (by simp[hx]))
 have hargs3:∀ (W':World),Below W.heap.size W W'→DataW.Trod enc Tryz.prog W' 0 (fun b=>decide (b<W.heap.size)) true 9 v3 d3 p3 :=
  fun W' hn=>Below.trod laidOut (by kernel_rfl) (of_decide_eq_true (by kernel_rfl)) h3 hn (fun x hx=>hlt x (by simp[hx]))
 obtain ⟨c0,ok0,hrep0⟩:=open_agg Tryz.underlying47 (hval 0 47 v1 rfl rfl) h1 opens_db
 have hrep0:Rep (zh6 W) [] (dbA c0) v1:=hrep0
 obtain ⟨c1,ok1,hrep1⟩:=open_one (okWide_slice Tryz.underlying63 (hval 1 63 v2 rfl rfl)) h2 opens_tls
 have hrep1:Rep (zh6 W) [] (tlsD c1) v2:=hrep1
 obtain ⟨s2,rfl⟩:=okWide_string Tryz.underlying9 (hval 2 9 v3 rfl rfl)
 obtain ⟨mx,hm⟩:=max_of hsh
 have hin:RepL (zh6 W) [] (ctLaw50B.inp (c0,c1,s2)) #[v1,v2,.string s2].toList:=RepL.cons hrep0 (RepL.cons hrep1 (RepL.cons (zal _) RepL.nil))
 have hcall:=(lawTB_ok (mx:=mx)).2.2 (c0,c1,s2) ok0 (zh6 W) W #[v1,v2,.string s2] (memOf_fits W) (gl_ok hL hm) hin 0
 refine (callsIn_wide.1 hcall).mono fun e W' hR=>?_
 obtain ⟨M',u,rfl,_,_,_,hu,hb⟩:=hR
 have hu':u=.bool true:=hu
 subst hu'
 simp only[List.append_nil] at hW'
 refine ⟨_,rfl,_,_,_,[],p1++p2++p3,[],hW',?_,?_,rfl,hb.frame _,fun h=>by cases h⟩
 ·exact trodAll_mk1 (shut_bool Tryz.underlying4 true)
 ·rw[List.append_assoc];exact trodAll_mk3 (hargs1 _ hb) (hargs2 _ hb) (hargs3 _ hb)
theorem rowTB_f:Tryz.prog.funcNamed Rows.transruleBackRow.func=some 10:=by kernel_rfl
theorem rowTB_c9:(Rows.transruleBackRow.inPlace==Tryz.prog.inPlace 10)=true:=by kernel_rfl
theorem rowTB_c10:(Rows.transruleBackRow.unfollowed==Tryz.prog.unfollowed 10)=true:=by kernel_rfl
theorem rowTB_c11:(Rows.transruleBackRow.recurses==Tryz.prog.recurses 10)=true:=by kernel_rfl
theorem rowTB_c12:(Rows.transruleBackRow.named==Tryz.prog.varsNamed 10)=true:=by kernel_rfl
theorem rowTB_c0:Rows.transruleBackRow.wf (OpenSpec.ofChange Rows.transruleBackSpec)=true:=by kernel_rfl
theorem rowTB_c3:Tryz.f10.params.all (Tryz.prog.readableRec ·)=true:=by kernel_rfl
theorem rowTB_c4:namedTie Tryz.prog Rows.transruleBackRow.named Rows.transruleBackSpec.vars=true:=by kernel_rfl
theorem rowTB_c5:(Rows.transruleBackRow.stops==[])=true:=by kernel_rfl
theorem rowTB_c6:(Tryz.prog.stops==[])=true:=by kernel_rfl
theorem rowTB_c7:(Rows.transruleBackRow.knobs==[])=true:=by kernel_rfl
theorem rowTB_c8:(Tryz.prog.stopKnobs==[])=true:=by kernel_rfl
theorem rowTB_c13:(Rows.transruleBackRow.maps==(Tryz.f10.params.toList++Rows.transruleBackSpec.plain.varTypes Tryz.prog).any (Tryz.prog.mapsRec ·))=true:=by kernel_rfl
theorem rowTB_c14:(Rows.transruleBackRow.ifaces==(Tryz.f10.params.toList++Rows.transruleBackSpec.plain.varTypes Tryz.prog).any (Tryz.prog.ifacesRec ·))=true:=by kernel_rfl
theorem rowTB_c15:(Rows.transruleBackRow.mapsOut==Tryz.prog.mapsAmong Tryz.f10.resultTypes.toList)=true:=by kernel_rfl
theorem rowTB_c16:(Rows.transruleBackRow.loops==(Tryz.f10.params.toList++Rows.transruleBackSpec.plain.varTypes Tryz.prog).any (Tryz.prog.loopsFrom ·))=true:=by kernel_rfl
theorem rowTB_c17:(Rows.transruleBackRow.wideKeys==(Tryz.f10.params.toList++Rows.transruleBackSpec.plain.varTypes Tryz.prog++Tryz.f10.resultTypes.toList).any (Tryz.prog.wideKeysFrom ·))=true:=by kernel_rfl
theorem rowTB_c18:Rows.transruleBackSpec.vars.all (Tryz.prog.varReadable ·)=true:=by kernel_rfl
theorem rowTB_c19:Tryz.f10.resultTypes.all (fun t=>Tryz.prog.readableRec t&&decide (t<Tryz.prog.types.size))=true:=by kernel_rfl
theorem rowTB_c20:(Rows.transruleBackRow.ifacesOut==Tryz.f10.resultTypes.toList.any (Tryz.prog.ifacesRec ·))=true:=by kernel_rfl
theorem rowTB_c21:(Rows.transruleBackRow.loopsOut==Tryz.f10.resultTypes.toList.any (Tryz.prog.loopsFrom ·))=true:=by kernel_rfl
theorem rowTB_c22:(Rows.transruleBackRow.plainKeys==Tryz.prog.plainKeys)=true:=by kernel_rfl
theorem rowTB_c23:Rows.transruleBackRow.shortTexts.isNone=true:=by kernel_rfl
theorem rowTB_c26:(Rows.transruleBackRow.lifted==Tryz.prog.liftsFinal)=true:=by rw[show Rows.transruleBackRow.lifted=Rows.setexprTextsRow.lifted from by kernel_rfl];exact jfLift
theorem rowTB_c27:(Tryz.prog.make==some Rows.transruleBackRow.make)=true:=by rw[show Rows.transruleBackRow.make=Rows.setexprTextsRow.make from by kernel_rfl];exact jfMake
theorem rowTB_c29:(Rows.transruleBackRow.pinned==Rows.transruleBackRow.pinnedBy)=true:=by kernel_rfl
theorem rowTB_c30:(Rows.transruleBackRow.veiled==(Tryz.f10.params.toList++Rows.transruleBackSpec.plain.varTypes Tryz.prog++Tryz.f10.resultTypes.toList).any (Tryz.prog.veiledRec ·))=true:=by kernel_rfl
theorem rowTB_c31:Rows.transruleBackRow.veiledFits Tryz.prog Tryz.f10.params.toList (Tryz.f10.params.toList++Rows.transruleBackSpec.plain.varTypes Tryz.prog++Tryz.f10.resultTypes.toList)=true:=by kernel_rfl
theorem rowTB_c:joinedFacts Tryz.prog 10 Tryz.f10 Rows.transruleBackSpec Rows.transruleBackRow=true:=ziv (ziv (ziv (ziv (ziv (ziv (ziv (ziv (ziv (ziv (ziv (ziv (ziv (ziv (ziv (ziv (ziv (ziv (ziv (ziv (ziv (ziv (ziv (ziv (ziv (ziv (ziv (ziv (ziv (ziv (ziv (rowTB_c0) jfOut) jfMaps) rowTB_c3) rowTB_c4) rowTB_c5) rowTB_c6) rowTB_c7) rowTB_c8) rowTB_c9) rowTB_c10) rowTB_c11) rowTB_c12) rowTB_c13) rowTB_c14) rowTB_c15) rowTB_c16) rowTB_c17) rowTB_c18) rowTB_c19) rowTB_c20) rowTB_c21) rowTB_c22) rowTB_c23) jfHeard) jfEnter) rowTB_c26) rowTB_c27) (by kernel_rfl)) rowTB_c29) rowTB_c30) rowTB_c31
theorem rowTB_i:Tryz.f10.isInstance Tryz.prog Rows.transruleBackRow.origin Rows.transruleBackRow.targs:=of_decide_eq_true (by kernel_rfl)
theorem rowTB_w:Tryz.f10.isWrapper Tryz.prog Rows.transruleBackRow.wrapper Rows.transruleBackRow.mainSum:=by unfold Func.isWrapper;rw[if_neg (by decide +kernel)];exact ⟨rfl,rfl⟩
theorem rowTB_holds:Rows.TransruleBackSaid :=
 OpenClaim.holds_of_wide 10 Tryz.f10 rfl rfl rfl rfl rfl rfl rfl ⟨rfl,rfl,rfl,rfl,rfl⟩ rfl rfl rfl rfl rfl rowTB_f Tryz.func10 rowTB_c rowTB_i rowTB_w
  (fun os started H enc _=>liftedTB os started H enc)
end Go.Proofs.YtcihhjjmcompkaaGreatDoor
