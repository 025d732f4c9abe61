import Derived.Test.YtcihhjjmcompkaaGreatDoorRo51
import Derived.Test.YtcihhjjmcompkaaGreatDoorL50e
import Derived.Test.YtcihhjjmcompkaaGreatDoorOpz
set_option linter.unusedVariables false
set_option linter.unusedSimpArgs false
namespace Go.Proofs.YtcihhjjmcompkaaGreatDoor
open Go Go.Sx Go.ChangeShapes Go.WideShapes Go.ChangeAt Go.RowKit
set_option maxRecDepth 100000 in
theorem liftedTD (os:Os) (started:os.Started) (H:Type) (enc:TypeId × Value→H):
  ReturnsInHanded {} Tryz.checked os 14 .any (fun w args=>(Rows.transruleDividesSpec.pre enc Tryz.prog Tryz.f14 [] false w args∧laidMetH Tryz.prog Rows.transruleDividesRow.laid w)∧sizedMet enc Tryz.prog Tryz.f14 (OpenSpec.ofChange Rows.transruleDividesSpec) false w args)
   (Rows.transruleDividesSpec.post enc Tryz.prog Tryz.f14 false true false false):=by
 refine ret_shaped (C:=Tryz.checked) (X:=fun w _=>laidMetH Tryz.prog Rows.transruleDividesRow.laid w) (fun _ _ _ hh h=>h.of_heap hh) own started (by kernel_rfl) Tryz.func14
  (ChangeSpec.witness_shaped (enc:=enc) (C:=Tryz.checked) (os:=os) (X:=fun w _=>laidMetH Tryz.prog Rows.transruleDividesRow.laid w) false (World.laidAll Tryz.prog os Rows.transruleDividesRow.laid) #[.slice none 0 0,.int .i64 0] 8 (World.laidAll_os _ _ _)
    (World.shaped_of_ZipB (by kernel_rfl) (by kernel_rfl)) (by kernel_rfl) (by kernel_rfl) (by kernel_rfl)
    (by rw[MakeChecks.laidMetH_plain _ _ _ (by kernel_rfl)];exact laidMet_laidAll _ (by kernel_rfl) (by kernel_rfl))) ?_
 intro W base args ds gs before hval0 hW hL hsh
 have hval:∀ (j:Nat) t v,Tryz.f14.params[j]?=some t→args[j]?=some v→Value.okWide Tryz.prog W .any base t v:=hval0
 have hW':=hW
 obtain ⟨p,q,hA0,hV,rfl,hfz,hnd⟩:=hW
 have hA:DataW.TrodAll enc Tryz.prog W 0 (fun _=>true) true Tryz.f14.params.toList args.toList ds p:=hA0
 rw[Tryz.params14] at hA hval
 obtain ⟨v1,v2,d1,d2,p1,p2,rfl,rfl,rfl,h1,h2⟩:=trodAll_two hA
 obtain ⟨rfl,rfl⟩:=trodVars_none hV
 have hlt:∀ x∈p1++p2,x.block<W.heap.size:=fun x hx=>by simpa using hW'.lt x (by simpa using hx)
 have hargs1:∀ (W':World),Below W.heap.size W W'→DataW.Trod enc Tryz.prog W' 0 (fun b=>decide (b<W.heap.size)) true 63 v1 d1 p1 :=
  fun W' hn=>Below.trod laidOut (by kernel_rfl) (of_decide_eq_true (by kernel_rfl)) h1 hn (fun x hx=>hlt x (by simp[hx]))
 have hargs2:∀ (W':World),Below W.heap.size W W'→DataW.Trod enc Tryz.prog W' 0 (fun b=>decide (b<W.heap.size)) true 3 v2 d2 p2 :=
  fun W' hn=>Below.trod laidOut (by kernel_rfl) (of_decide_eq_true (by kernel_rfl)) h2 hn (fun x hx=>hlt x (by simp[hx]))
 obtain ⟨c0,ok0,hrep0⟩:=open_one (okWide_slice Tryz.underlying63 (hval 0 63 v1 rfl rfl)) h1 opens_tls
 have hrep0:Rep (memOf W) [] (tlsD c0) v1:=hrep0
 obtain ⟨n1,rfl⟩:=okWide_int Tryz.underlying3 (hval 1 3 v2 rfl rfl)
 obtain ⟨mx,hm⟩:=max_of hsh
 have hin:RepL (memOf W) [] (ctLaw50D.inp (c0,n1)) #[v1,.int .i64 n1].toList:=RepL.cons hrep0 (RepL.cons (Rep.val _) RepL.nil)
 have hcall:=(lawTD_ok (mx:=mx)).2.2 (c0,n1) trivial (memOf W) W #[v1,.int .i64 n1] (memOf_fits W) (gl_ok hL hm) hin 0
 refine (callsIn_wide.1 hcall).mono fun e W' hR=>?_
 obtain ⟨M',u,rfl,_,_,_,hu,hb⟩:=hR
 have hu':u=.bool true:=hu
 subst hu'
 simp only[List.append_nil] at hW'
 refine ⟨_,rfl,_,_,_,[],p1++p2,[],hW',?_,?_,rfl,hb.frame _,fun h=>by cases h⟩
 ·exact trodAll_mk1 (shut_bool Tryz.underlying4 true)
 ·exact trodAll_mk2 (hargs1 _ hb) (hargs2 _ hb)
theorem rowTD_f:Tryz.prog.funcNamed Rows.transruleDividesRow.func=some 14:=by kernel_rfl
theorem rowTD_c9:(Rows.transruleDividesRow.inPlace==Tryz.prog.inPlace 14)=true:=by kernel_rfl
theorem rowTD_c10:(Rows.transruleDividesRow.unfollowed==Tryz.prog.unfollowed 14)=true:=by kernel_rfl
theorem rowTD_c11:(Rows.transruleDividesRow.recurses==Tryz.prog.recurses 14)=true:=by kernel_rfl
theorem rowTD_c12:(Rows.transruleDividesRow.named==Tryz.prog.varsNamed 14)=true:=by kernel_rfl
theorem rowTD_c0:Rows.transruleDividesRow.wf (OpenSpec.ofChange Rows.transruleDividesSpec)=true:=by kernel_rfl
theorem rowTD_c3:Tryz.f14.params.all (Tryz.prog.readableRec ·)=true:=by kernel_rfl
theorem rowTD_c4:namedTie Tryz.prog Rows.transruleDividesRow.named Rows.transruleDividesSpec.vars=true:=by kernel_rfl
theorem rowTD_c5:(Rows.transruleDividesRow.stops==[])=true:=by kernel_rfl
theorem rowTD_c6:(Tryz.prog.stops==[])=true:=by kernel_rfl
theorem rowTD_c7:(Rows.transruleDividesRow.knobs==[])=true:=by kernel_rfl
theorem rowTD_c8:(Tryz.prog.stopKnobs==[])=true:=by kernel_rfl
theorem rowTD_c13:(Rows.transruleDividesRow.maps==(Tryz.f14.params.toList++Rows.transruleDividesSpec.plain.varTypes Tryz.prog).any (Tryz.prog.mapsRec ·))=true:=by kernel_rfl
theorem rowTD_c14:(Rows.transruleDividesRow.ifaces==(Tryz.f14.params.toList++Rows.transruleDividesSpec.plain.varTypes Tryz.prog).any (Tryz.prog.ifacesRec ·))=true:=by kernel_rfl
theorem rowTD_c15:(Rows.transruleDividesRow.mapsOut==Tryz.prog.mapsAmong Tryz.f14.resultTypes.toList)=true:=by kernel_rfl
theorem rowTD_c16:(Rows.transruleDividesRow.loops==(Tryz.f14.params.toList++Rows.transruleDividesSpec.plain.varTypes Tryz.prog).any (Tryz.prog.loopsFrom ·))=true:=by kernel_rfl
theorem rowTD_c17:(Rows.transruleDividesRow.wideKeys==(Tryz.f14.params.toList++Rows.transruleDividesSpec.plain.varTypes Tryz.prog++Tryz.f14.resultTypes.toList).any (Tryz.prog.wideKeysFrom ·))=true:=by kernel_rfl
theorem rowTD_c18:Rows.transruleDividesSpec.vars.all (Tryz.prog.varReadable ·)=true:=by kernel_rfl
theorem rowTD_c19:Tryz.f14.resultTypes.all (fun t=>Tryz.prog.readableRec t&&decide (t<Tryz.prog.types.size))=true:=by kernel_rfl
theorem rowTD_c20:(Rows.transruleDividesRow.ifacesOut==Tryz.f14.resultTypes.toList.any (Tryz.prog.ifacesRec ·))=true:=by kernel_rfl
theorem rowTD_c21:(Rows.transruleDividesRow.loopsOut==Tryz.f14.resultTypes.toList.any (Tryz.prog.loopsFrom ·))=true:=by kernel_rfl
theorem rowTD_c22:(Rows.transruleDividesRow.plainKeys==Tryz.prog.plainKeys)=true:=by kernel_rfl
theorem rowTD_c23:Rows.transruleDividesRow.shortTexts.isNone=true:=by kernel_rfl
theorem rowTD_c26:(Rows.transruleDividesRow.lifted==Tryz.prog.liftsFinal)=true:=by rw[show Rows.transruleDividesRow.lifted=Rows.setexprTextsRow.lifted from by kernel_rfl];exact jfLift
theorem rowTD_c27:(Tryz.prog.make==some Rows.transruleDividesRow.make)=true:=by rw[show Rows.transruleDividesRow.make=Rows.setexprTextsRow.make from by kernel_rfl];exact jfMake
theorem rowTD_c29:(Rows.transruleDividesRow.pinned==Rows.transruleDividesRow.pinnedBy)=true:=by kernel_rfl
theorem rowTD_c30:(Rows.transruleDividesRow.veiled==(Tryz.f14.params.toList++Rows.transruleDividesSpec.plain.varTypes Tryz.prog++Tryz.f14.resultTypes.toList).any (Tryz.prog.veiledRec ·))=true:=by kernel_rfl
theorem rowTD_c31:Rows.transruleDividesRow.veiledFits Tryz.prog Tryz.f14.params.toList (Tryz.f14.params.toList++Rows.transruleDividesSpec.plain.varTypes Tryz.prog++Tryz.f14.resultTypes.toList)=true:=by kernel_rfl
theorem rowTD_c:joinedFacts Tryz.prog 14 Tryz.f14 Rows.transruleDividesSpec Rows.transruleDividesRow=true:=and2 (and2 (and2 (and2 (and2 (and2 (and2 (and2 (and2 (and2 (and2 (and2 (and2 (and2 (and2 (and2 (and2 (and2 (and2 (and2 (and2 (and2 (and2 (and2 (and2 (and2 (and2 (and2 (and2 (and2 (and2 (rowTD_c0) jfOut) jfMaps) rowTD_c3) rowTD_c4) rowTD_c5) rowTD_c6) rowTD_c7) rowTD_c8) rowTD_c9) rowTD_c10) rowTD_c11) rowTD_c12) rowTD_c13) rowTD_c14) rowTD_c15) rowTD_c16) rowTD_c17) rowTD_c18) rowTD_c19) rowTD_c20) rowTD_c21) rowTD_c22) rowTD_c23) jfHeard) jfEnter) rowTD_c26) rowTD_c27) (by kernel_rfl)) rowTD_c29) rowTD_c30) rowTD_c31
theorem rowTD_i:Tryz.f14.isInstance Tryz.prog Rows.transruleDividesRow.origin Rows.transruleDividesRow.targs:=of_decide_eq_true (by kernel_rfl)
theorem rowTD_w:Tryz.f14.isWrapper Tryz.prog Rows.transruleDividesRow.wrapper Rows.transruleDividesRow.mainSum:=by unfold Func.isWrapper;rw[if_neg (by decide +kernel)];exact ⟨rfl,rfl⟩
theorem rowTD_holds:Rows.TransruleDividesSaid :=
 OpenClaim.holds_of_wide 14 Tryz.f14 rfl rfl rfl rfl rfl rfl rfl ⟨rfl,rfl,rfl,rfl,rfl⟩ rfl rfl rfl rfl rfl rowTD_f Tryz.func14 rowTD_c rowTD_i rowTD_w
  (fun os started H enc _=>liftedTD os started H enc)
end Go.Proofs.YtcihhjjmcompkaaGreatDoor
