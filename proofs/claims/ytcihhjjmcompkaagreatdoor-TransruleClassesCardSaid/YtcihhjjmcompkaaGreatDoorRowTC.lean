import Derived.Test.YtcihhjjmcompkaaGreatDoorRo51
import Derived.Test.YtcihhjjmcompkaaGreatDoorL50f
import Derived.Test.YtcihhjjmcompkaaGreatDoorOpz
set_option linter.unusedVariables false
set_option linter.unusedSimpArgs false
namespace Go.Proofs.YtcihhjjmcompkaaGreatDoor
open Go Go.Sx Go.ChangeShapes Go.WideShapes Go.ChangeAt Go.RowKit
set_option maxRecDepth 100000 in
theorem liftedTC (os:Os) (started:os.Started) (H:Type) (enc:TypeId × Value→H):
  ReturnsInHanded {} Tryz.checked os 12 .any (fun w args=>(Rows.transruleClassesSpec.pre enc Tryz.prog Tryz.f12 [] false w args∧laidMetH Tryz.prog Rows.transruleClassesRow.laid w)∧sizedMet enc Tryz.prog Tryz.f12 (OpenSpec.ofChange Rows.transruleClassesSpec) false w args)
   (Rows.transruleClassesSpec.post enc Tryz.prog Tryz.f12 false true false false):=by
 refine ret_shaped (C:=Tryz.checked) (X:=fun w _=>laidMetH Tryz.prog Rows.transruleClassesRow.laid w) (fun _ _ _ hh h=>h.of_heap hh) own started (by kernel_rfl) Tryz.func12
  (ChangeSpec.witness_shaped (enc:=enc) (C:=Tryz.checked) (os:=os) (X:=fun w _=>laidMetH Tryz.prog Rows.transruleClassesRow.laid w) false (World.laidAll Tryz.prog os Rows.transruleClassesRow.laid) #[.slice none 0 0] 8 (World.laidAll_os _ _ _)
    (World.shaped_of_ZipB (by kernel_rfl) (by kernel_rfl)) (by kernel_rfl) (by kernel_rfl) (by kernel_rfl)
    (by rw[MakeChecks.laidMetH_plain _ _ _ (by kernel_rfl)];exact laidMet_laidAll _ (by kernel_rfl) (by kernel_rfl))) ?_
 intro W base args ds gs before hval0 hW hL hsh
 have hval:∀ (j:Nat) t v,Tryz.f12.params[j]?=some t→args[j]?=some v→Value.okWide Tryz.prog W .any base t v:=hval0
 have hW':=hW
 obtain ⟨p,q,hA0,hV,rfl,hfz,hnd⟩:=hW
 have hA:DataW.TrodAll enc Tryz.prog W 0 (fun _=>true) true Tryz.f12.params.toList args.toList ds p:=hA0
 rw[Tryz.params12] at hA hval
 obtain ⟨v1,d1,rfl,rfl,h1⟩:=trodAll_one hA
 obtain ⟨rfl,rfl⟩:=trodVars_none hV
 have hlt:∀ x∈p,x.block<W.heap.size:=fun x hx=>by simpa using hW'.lt x (by simpa using hx)
 have hargs1:∀ (W':World),Below W.heap.size W W'→DataW.Trod enc Tryz.prog W' 0 (fun b=>decide (b<W.heap.size)) true 63 v1 d1 p :=
  fun W' hn=>Below.trod laidOut (by kernel_rfl) (of_decide_eq_true (by kernel_rfl)) h1 hn (fun x hx=>hlt x (by simp[hx]))
 obtain ⟨c0,ok0,hrep0⟩:=open_one (okWide_slice Tryz.underlying63 (hval 0 63 v1 rfl rfl)) h1 opens_tls
 have hrep0:Rep (memOf W) [] (tlsD c0) v1:=hrep0
 obtain ⟨mx,hm⟩:=max_of hsh
 have hin:RepL (memOf W) [] (ctLaw50C.inp c0) #[v1].toList:=RepL.cons hrep0 RepL.nil
 have hcall:=(lawTC_ok (mx:=mx)).2.2 c0 trivial (memOf W) W #[v1] (memOf_fits W) (gl_ok hL hm) hin 0
 refine (callsIn_wide.1 hcall).mono fun e W' hR=>?_
 obtain ⟨M',u,rfl,_,_,_,hu,hb⟩:=hR
 have hu':u=.bool true:=hu
 subst hu'
 simp only[List.append_nil] at hW'
 refine ⟨_,rfl,_,_,_,[],p,[],hW',?_,?_,rfl,hb.frame _,fun h=>by cases h⟩
 ·exact trodAll_mk1 (shut_bool Tryz.underlying4 true)
 ·exact trodAll_mk1 (hargs1 _ hb)
theorem rowTC_f:Tryz.prog.funcNamed Rows.transruleClassesRow.func=some 12:=by kernel_rfl
theorem rowTC_c9:(Rows.transruleClassesRow.inPlace==Tryz.prog.inPlace 12)=true:=by kernel_rfl
theorem rowTC_c10:(Rows.transruleClassesRow.unfollowed==Tryz.prog.unfollowed 12)=true:=by kernel_rfl
theorem rowTC_c11:(Rows.transruleClassesRow.recurses==Tryz.prog.recurses 12)=true:=by kernel_rfl
theorem rowTC_c12:(Rows.transruleClassesRow.named==Tryz.prog.varsNamed 12)=true:=by kernel_rfl
theorem rowTC_c0:Rows.transruleClassesRow.wf (OpenSpec.ofChange Rows.transruleClassesSpec)=true:=by kernel_rfl
theorem rowTC_c3:Tryz.f12.params.all (Tryz.prog.readableRec ·)=true:=by kernel_rfl
theorem rowTC_c4:namedTie Tryz.prog Rows.transruleClassesRow.named Rows.transruleClassesSpec.vars=true:=by kernel_rfl
theorem rowTC_c5:(Rows.transruleClassesRow.stops==[])=true:=by kernel_rfl
theorem rowTC_c6:(Tryz.prog.stops==[])=true:=by kernel_rfl
theorem rowTC_c7:(Rows.transruleClassesRow.knobs==[])=true:=by kernel_rfl
theorem rowTC_c8:(Tryz.prog.stopKnobs==[])=true:=by kernel_rfl
theorem rowTC_c13:(Rows.transruleClassesRow.maps==(Tryz.f12.params.toList++Rows.transruleClassesSpec.plain.varTypes Tryz.prog).any (Tryz.prog.mapsRec ·))=true:=by kernel_rfl
theorem rowTC_c14:(Rows.transruleClassesRow.ifaces==(Tryz.f12.params.toList++Rows.transruleClassesSpec.plain.varTypes Tryz.prog).any (Tryz.prog.ifacesRec ·))=true:=by kernel_rfl
theorem rowTC_c15:(Rows.transruleClassesRow.mapsOut==Tryz.prog.mapsAmong Tryz.f12.resultTypes.toList)=true:=by kernel_rfl
theorem rowTC_c16:(Rows.transruleClassesRow.loops==(Tryz.f12.params.toList++Rows.transruleClassesSpec.plain.varTypes Tryz.prog).any (Tryz.prog.loopsFrom ·))=true:=by kernel_rfl
theorem rowTC_c17:(Rows.transruleClassesRow.wideKeys==(Tryz.f12.params.toList++Rows.transruleClassesSpec.plain.varTypes Tryz.prog++Tryz.f12.resultTypes.toList).any (Tryz.prog.wideKeysFrom ·))=true:=by kernel_rfl
theorem rowTC_c18:Rows.transruleClassesSpec.vars.all (Tryz.prog.varReadable ·)=true:=by kernel_rfl
theorem rowTC_c19:Tryz.f12.resultTypes.all (fun t=>Tryz.prog.readableRec t&&decide (t<Tryz.prog.types.size))=true:=by kernel_rfl
theorem rowTC_c20:(Rows.transruleClassesRow.ifacesOut==Tryz.f12.resultTypes.toList.any (Tryz.prog.ifacesRec ·))=true:=by kernel_rfl
theorem rowTC_c21:(Rows.transruleClassesRow.loopsOut==Tryz.f12.resultTypes.toList.any (Tryz.prog.loopsFrom ·))=true:=by kernel_rfl
theorem rowTC_c22:(Rows.transruleClassesRow.plainKeys==Tryz.prog.plainKeys)=true:=by kernel_rfl
theorem rowTC_c23:Rows.transruleClassesRow.shortTexts.isNone=true:=by kernel_rfl
theorem rowTC_c26:(Rows.transruleClassesRow.lifted==Tryz.prog.liftsFinal)=true:=by rw[show Rows.transruleClassesRow.lifted=Rows.setexprTextsRow.lifted from by kernel_rfl];exact jfLift
theorem rowTC_c27:(Tryz.prog.make==some Rows.transruleClassesRow.make)=true:=by rw[show Rows.transruleClassesRow.make=Rows.setexprTextsRow.make from by kernel_rfl];exact jfMake
theorem rowTC_c29:(Rows.transruleClassesRow.pinned==Rows.transruleClassesRow.pinnedBy)=true:=by kernel_rfl
theorem rowTC_c30:(Rows.transruleClassesRow.veiled==(Tryz.f12.params.toList++Rows.transruleClassesSpec.plain.varTypes Tryz.prog++Tryz.f12.resultTypes.toList).any (Tryz.prog.veiledRec ·))=true:=by kernel_rfl
theorem rowTC_c31:Rows.transruleClassesRow.veiledFits Tryz.prog Tryz.f12.params.toList (Tryz.f12.params.toList++Rows.transruleClassesSpec.plain.varTypes Tryz.prog++Tryz.f12.resultTypes.toList)=true:=by kernel_rfl
theorem rowTC_c:joinedFacts Tryz.prog 12 Tryz.f12 Rows.transruleClassesSpec Rows.transruleClassesRow=true:=and2 (and2 (and2 (and2 (and2 (and2 (and2 (and2 (and2 (and2 (and2 (and2 (and2 (and2 (and2 (and2 (and2 (and2 (and2 (and2 (and2 (and2 (and2 (and2 (and2 (and2 (and2 (and2 (and2 (and2 (and2 (rowTC_c0) jfOut) jfMaps) rowTC_c3) rowTC_c4) rowTC_c5) rowTC_c6) rowTC_c7) rowTC_c8) rowTC_c9) rowTC_c10) rowTC_c11) rowTC_c12) rowTC_c13) rowTC_c14) rowTC_c15) rowTC_c16) rowTC_c17) rowTC_c18) rowTC_c19) rowTC_c20) rowTC_c21) rowTC_c22) rowTC_c23) jfHeard) jfEnter) rowTC_c26) rowTC_c27) (by kernel_rfl)) rowTC_c29) rowTC_c30) rowTC_c31
theorem rowTC_i:Tryz.f12.isInstance Tryz.prog Rows.transruleClassesRow.origin Rows.transruleClassesRow.targs:=of_decide_eq_true (by kernel_rfl)
theorem rowTC_w:Tryz.f12.isWrapper Tryz.prog Rows.transruleClassesRow.wrapper Rows.transruleClassesRow.mainSum:=by unfold Func.isWrapper;rw[if_neg (by decide +kernel)];exact ⟨rfl,rfl⟩
theorem rowTC_holds:Rows.TransruleClassesSaid :=
 OpenClaim.holds_of_wide 12 Tryz.f12 rfl rfl rfl rfl rfl rfl rfl ⟨rfl,rfl,rfl,rfl,rfl⟩ rfl rfl rfl rfl rfl rowTC_f Tryz.func12 rowTC_c rowTC_i rowTC_w
  (fun os started H enc _=>liftedTC os started H enc)
end Go.Proofs.YtcihhjjmcompkaaGreatDoor
