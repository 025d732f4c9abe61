import Derived.Test.YtcihhjjmcompkaaGreatDoorRo51
import Derived.Test.YtcihhjjmcompkaaGreatDoorL50d
import Derived.Test.YtcihhjjmcompkaaGreatDoorOpz
set_option linter.unusedVariables false
set_option linter.unusedSimpArgs false
namespace Go.Proofs.YtcihhjjmcompkaaGreatDoor
open Go Go.Sx Go.ChangeShapes Go.WideShapes Go.ChangeAt Go.RowKit
set_option maxRecDepth 100000 in
theorem liftedTA (os:Os) (started:os.Started) (H:Type) (enc:TypeId × Value→H):
  ReturnsInHanded {} Tryz.checked os 13 .any (fun w args=>(Rows.transruleAlikeSpec.pre enc Tryz.prog Tryz.f13 [] false w args∧laidMetH Tryz.prog Rows.transruleAlikeRow.laid w)∧sizedMet enc Tryz.prog Tryz.f13 (OpenSpec.ofChange Rows.transruleAlikeSpec) false w args)
   (Rows.transruleAlikeSpec.post enc Tryz.prog Tryz.f13 false true false false):=by
 refine ret_shaped (C:=Tryz.checked) (X:=fun w _=>laidMetH Tryz.prog Rows.transruleAlikeRow.laid w) (fun _ _ _ hh h=>h.of_heap hh) own started (by kernel_rfl) Tryz.func13
  (ChangeSpec.witness_shaped (enc:=enc) (C:=Tryz.checked) (os:=os) (X:=fun w _=>laidMetH Tryz.prog Rows.transruleAlikeRow.laid w) false (World.laidAll Tryz.prog os Rows.transruleAlikeRow.laid) #[.slice none 0 0,.int .i64 0,.int .i64 0] 8 (World.laidAll_os _ _ _)
    (World.shaped_of_ZipB (by kernel_rfl) (by kernel_rfl)) (by kernel_rfl) (by kernel_rfl) (by kernel_rfl)
    (by rw[MakeChecks.laidMetH_plain _ _ _ (by kernel_rfl)];exact laidMet_laidAll _ (by kernel_rfl) (by kernel_rfl))) ?_
 intro W base args ds gs before hval0 hW hL hsh
 have hval:∀ (j:Nat) t v,Tryz.f13.params[j]?=some t→args[j]?=some v→Value.okWide Tryz.prog W .any base t v:=hval0
 have hW':=hW
 obtain ⟨p,q,hA0,hV,rfl,hfz,hnd⟩:=hW
 have hA:DataW.TrodAll enc Tryz.prog W 0 (fun _=>true) true Tryz.f13.params.toList args.toList ds p:=hA0
 rw[Tryz.params13] at hA hval
 obtain ⟨v1,v2,v3,d1,d2,d3,p1,p2,p3,rfl,rfl,rfl,h1,h2,h3⟩:=trodAll_three hA
 obtain ⟨rfl,rfl⟩:=trodVars_none hV
 have hlt:∀ x∈p1++p2++p3,x.block<W.heap.size:=fun x hx=>by simpa using hW'.lt x (by simpa using hx)
 have hargs1:∀ (W':World),Below W.heap.size W W'→DataW.Trod enc Tryz.prog W' 0 (fun b=>decide (b<W.heap.size)) true 63 v1 d1 p1 :=
  fun W' hn=>Below.trod laidOut (by kernel_rfl) (of_decide_eq_true (by kernel_rfl)) h1 hn (fun x hx=>hlt x (by simp[hx]))
 have hargs2:∀ (W':World),Below W.heap.size W W'→DataW.Trod enc Tryz.prog W' 0 (fun b=>decide (b<W.heap.size)) true 3 v2 d2 p2 :=
  fun W' hn=>Below.trod laidOut (by kernel_rfl) (of_decide_eq_true (by kernel_rfl)) h2 hn (fun x hx=>hlt x (by simp[hx]))
 have hargs3:∀ (W':World),Below W.heap.size W W'→DataW.Trod enc Tryz.prog W' 0 (fun b=>decide (b<W.heap.size)) true 3 v3 d3 p3 :=
  fun W' hn=>Below.trod laidOut (by kernel_rfl) (of_decide_eq_true (by kernel_rfl)) h3 hn (fun x hx=>hlt x (by simp[hx]))
 obtain ⟨c0,ok0,hrep0⟩:=open_one (okWide_slice Tryz.underlying63 (hval 0 63 v1 rfl rfl)) h1 opens_tls
 have hrep0:Rep (memOf W) [] (tlsD c0) v1:=hrep0
 obtain ⟨n1,rfl⟩:=okWide_int Tryz.underlying3 (hval 1 3 v2 rfl rfl)
 obtain ⟨n2,rfl⟩:=okWide_int Tryz.underlying3 (hval 2 3 v3 rfl rfl)
 obtain ⟨mx,hm⟩:=max_of hsh
 have hin:RepL (memOf W) [] (ctLaw50A.inp (c0,n1,n2)) #[v1,.int .i64 n1,.int .i64 n2].toList:=RepL.cons hrep0 (RepL.cons (Rep.val _) (RepL.cons (Rep.val _) RepL.nil))
 have hcall:=(lawTA_ok (mx:=mx)).2.2 (c0,n1,n2) trivial (memOf W) W #[v1,.int .i64 n1,.int .i64 n2] (memOf_fits W) (gl_ok hL hm) hin 0
 refine (callsIn_wide.1 hcall).mono fun e W' hR=>?_
 obtain ⟨M',u,rfl,_,_,_,hu,hb⟩:=hR
 have hu':u=.bool true:=hu
 subst hu'
 simp only[List.append_nil] at hW'
 refine ⟨_,rfl,_,_,_,[],p1++p2++p3,[],hW',?_,?_,rfl,hb.frame _,fun h=>by cases h⟩
 ·exact trodAll_mk1 (shut_bool Tryz.underlying4 true)
 ·rw[List.append_assoc];exact trodAll_mk3 (hargs1 _ hb) (hargs2 _ hb) (hargs3 _ hb)
theorem rowTA_f:Tryz.prog.funcNamed Rows.transruleAlikeRow.func=some 13:=by kernel_rfl
theorem rowTA_c9:(Rows.transruleAlikeRow.inPlace==Tryz.prog.inPlace 13)=true:=by kernel_rfl
theorem rowTA_c10:(Rows.transruleAlikeRow.unfollowed==Tryz.prog.unfollowed 13)=true:=by kernel_rfl
theorem rowTA_c11:(Rows.transruleAlikeRow.recurses==Tryz.prog.recurses 13)=true:=by kernel_rfl
theorem rowTA_c12:(Rows.transruleAlikeRow.named==Tryz.prog.varsNamed 13)=true:=by kernel_rfl
theorem rowTA_c0:Rows.transruleAlikeRow.wf (OpenSpec.ofChange Rows.transruleAlikeSpec)=true:=by kernel_rfl
theorem rowTA_c3:Tryz.f13.params.all (Tryz.prog.readableRec ·)=true:=by kernel_rfl
theorem rowTA_c4:namedTie Tryz.prog Rows.transruleAlikeRow.named Rows.transruleAlikeSpec.vars=true:=by kernel_rfl
theorem rowTA_c5:(Rows.transruleAlikeRow.stops==[])=true:=by kernel_rfl
theorem rowTA_c6:(Tryz.prog.stops==[])=true:=by kernel_rfl
theorem rowTA_c7:(Rows.transruleAlikeRow.knobs==[])=true:=by kernel_rfl
theorem rowTA_c8:(Tryz.prog.stopKnobs==[])=true:=by kernel_rfl
theorem rowTA_c13:(Rows.transruleAlikeRow.maps==(Tryz.f13.params.toList++Rows.transruleAlikeSpec.plain.varTypes Tryz.prog).any (Tryz.prog.mapsRec ·))=true:=by kernel_rfl
theorem rowTA_c14:(Rows.transruleAlikeRow.ifaces==(Tryz.f13.params.toList++Rows.transruleAlikeSpec.plain.varTypes Tryz.prog).any (Tryz.prog.ifacesRec ·))=true:=by kernel_rfl
theorem rowTA_c15:(Rows.transruleAlikeRow.mapsOut==Tryz.prog.mapsAmong Tryz.f13.resultTypes.toList)=true:=by kernel_rfl
theorem rowTA_c16:(Rows.transruleAlikeRow.loops==(Tryz.f13.params.toList++Rows.transruleAlikeSpec.plain.varTypes Tryz.prog).any (Tryz.prog.loopsFrom ·))=true:=by kernel_rfl
theorem rowTA_c17:(Rows.transruleAlikeRow.wideKeys==(Tryz.f13.params.toList++Rows.transruleAlikeSpec.plain.varTypes Tryz.prog++Tryz.f13.resultTypes.toList).any (Tryz.prog.wideKeysFrom ·))=true:=by kernel_rfl
theorem rowTA_c18:Rows.transruleAlikeSpec.vars.all (Tryz.prog.varReadable ·)=true:=by kernel_rfl
theorem rowTA_c19:Tryz.f13.resultTypes.all (fun t=>Tryz.prog.readableRec t&&decide (t<Tryz.prog.types.size))=true:=by kernel_rfl
theorem rowTA_c20:(Rows.transruleAlikeRow.ifacesOut==Tryz.f13.resultTypes.toList.any (Tryz.prog.ifacesRec ·))=true:=by kernel_rfl
theorem rowTA_c21:(Rows.transruleAlikeRow.loopsOut==Tryz.f13.resultTypes.toList.any (Tryz.prog.loopsFrom ·))=true:=by kernel_rfl
theorem rowTA_c22:(Rows.transruleAlikeRow.plainKeys==Tryz.prog.plainKeys)=true:=by kernel_rfl
theorem rowTA_c23:Rows.transruleAlikeRow.shortTexts.isNone=true:=by kernel_rfl
theorem rowTA_c26:(Rows.transruleAlikeRow.lifted==Tryz.prog.liftsFinal)=true:=by rw[show Rows.transruleAlikeRow.lifted=Rows.setexprTextsRow.lifted from by kernel_rfl];exact jfLift
theorem rowTA_c27:(Tryz.prog.make==some Rows.transruleAlikeRow.make)=true:=by rw[show Rows.transruleAlikeRow.make=Rows.setexprTextsRow.make from by kernel_rfl];exact jfMake
theorem rowTA_c29:(Rows.transruleAlikeRow.pinned==Rows.transruleAlikeRow.pinnedBy)=true:=by kernel_rfl
theorem rowTA_c30:(Rows.transruleAlikeRow.veiled==(Tryz.f13.params.toList++Rows.transruleAlikeSpec.plain.varTypes Tryz.prog++Tryz.f13.resultTypes.toList).any (Tryz.prog.veiledRec ·))=true:=by kernel_rfl
theorem rowTA_c31:Rows.transruleAlikeRow.veiledFits Tryz.prog Tryz.f13.params.toList (Tryz.f13.params.toList++Rows.transruleAlikeSpec.plain.varTypes Tryz.prog++Tryz.f13.resultTypes.toList)=true:=by kernel_rfl
theorem rowTA_c:joinedFacts Tryz.prog 13 Tryz.f13 Rows.transruleAlikeSpec Rows.transruleAlikeRow=true:=and2 (and2 (and2 (and2 (and2 (and2 (and2 (and2 (and2 (and2 (and2 (and2 (and2 (and2 (and2 (and2 (and2 (and2 (and2 (and2 (and2 (and2 (and2 (and2 (and2 (and2 (and2 (and2 (and2 (and2 (and2 (rowTA_c0) jfOut) jfMaps) rowTA_c3) rowTA_c4) rowTA_c5) rowTA_c6) rowTA_c7) rowTA_c8) rowTA_c9) rowTA_c10) rowTA_c11) rowTA_c12) rowTA_c13) rowTA_c14) rowTA_c15) rowTA_c16) rowTA_c17) rowTA_c18) rowTA_c19) rowTA_c20) rowTA_c21) rowTA_c22) rowTA_c23) jfHeard) jfEnter) rowTA_c26) rowTA_c27) (by kernel_rfl)) rowTA_c29) rowTA_c30) rowTA_c31
theorem rowTA_i:Tryz.f13.isInstance Tryz.prog Rows.transruleAlikeRow.origin Rows.transruleAlikeRow.targs:=of_decide_eq_true (by kernel_rfl)
theorem rowTA_w:Tryz.f13.isWrapper Tryz.prog Rows.transruleAlikeRow.wrapper Rows.transruleAlikeRow.mainSum:=by unfold Func.isWrapper;rw[if_neg (by decide +kernel)];exact ⟨rfl,rfl⟩
theorem rowTA_holds:Rows.TransruleAlikeSaid :=
 OpenClaim.holds_of_wide 13 Tryz.f13 rfl rfl rfl rfl rfl rfl rfl ⟨rfl,rfl,rfl,rfl,rfl⟩ rfl rfl rfl rfl rfl rowTA_f Tryz.func13 rowTA_c rowTA_i rowTA_w
  (fun os started H enc _=>liftedTA os started H enc)
end Go.Proofs.YtcihhjjmcompkaaGreatDoor
