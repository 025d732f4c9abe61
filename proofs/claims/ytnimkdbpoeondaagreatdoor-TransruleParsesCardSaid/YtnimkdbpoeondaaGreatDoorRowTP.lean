import Derived.Test.YtnimkdbpoeondaaGreatDoorRo51
import Derived.Test.YtnimkdbpoeondaaGreatDoorZ6z
set_option linter.all false
namespace Go.Proofs.YtnimkdbpoeondaaGreatDoor
open Go Go.Sx Go.ChangeShapes Go.WideShapes Go.ChangeAt Go.RowKit
set_option maxRecDepth 100000 in
theorem liftedTP (os:Os) (started:os.Started) (H:Type) (enc:TypeId × Value->H):
  ReturnsInHanded {} Tryz.checked os 3 .any (fun w args=>(Rows.transruleParsesSpec.pre enc Tryz.prog Tryz.f3 [] false w args/\laidMetH Tryz.prog Rows.transruleParsesRow.laid w)/\sizedMet enc Tryz.prog Tryz.f3 (OpenSpec.ofChange Rows.transruleParsesSpec) false w args)
   (Rows.transruleParsesSpec.post enc Tryz.prog Tryz.f3 false true false false):=by
 refine ret_shaped (C:=Tryz.checked) (X:=fun w _=>laidMetH Tryz.prog Rows.transruleParsesRow.laid w) (fun _ _ _ hh h=>h.of_heap hh) own started (by kernel_rfl) Tryz.func3
  (ChangeSpec.witness_shaped (enc:=enc) (C:=Tryz.checked) (os:=os) (X:=fun w _=>laidMetH Tryz.prog Rows.transruleParsesRow.laid w) false (World.laidAll Tryz.prog os Rows.transruleParsesRow.laid) #[.agg #[.int .i64 0,.int .i64 0,.slice none 0 0,.slice none 0 0,.slice none 0 0,.slice none 0 0,.slice none 0 0,.slice none 0 0,.slice none 0 0,.slice none 0 0,.slice none 0 0,.slice none 0 0,.slice none 0 0,.slice none 0 0,.slice none 0 0,.slice none 0 0,.slice none 0 0,.slice none 0 0,.slice none 0 0,.slice none 0 0,.slice none 0 0,.slice none 0 0,.slice none 0 0,.slice none 0 0,.slice none 0 0,.slice none 0 0,.slice none 0 0,.slice none 0 0,.slice none 0 0],.string ⟨#[]⟩] 8 (World.laidAll_os _ _ _)
    (World.shaped_of_ZipB (by kernel_rfl) (by kernel_rfl)) (by kernel_rfl) (by kernel_rfl) (by kernel_rfl)
    (by rw[MakeChecks.laidMetH_plain _ _ _ (by kernel_rfl)];exact laidMet_laidAll _ (by kernel_rfl) (by kernel_rfl))) ?_
 intro W base args ds gs before hval0 hW hL hsh;have hval:∀ (j:Nat) t v,Tryz.f3.params[j]?=some t->args[j]?=some v->Value.okWide Tryz.prog W .any base t v:=hval0;have hW':=hW;obtain ⟨p,q,hA0,hV,rfl,hfz,hnd⟩:=hW;have hA:DataW.TrodAll enc Tryz.prog W 0 (fun _=>true) true Tryz.f3.params.toList args.toList ds p:=hA0;rw[Tryz.params3] at hA hval;obtain ⟨v1,v2,d1,d2,p1,p2,rfl,rfl,rfl,h1,h2⟩:=trodAll_two hA;obtain ⟨rfl,rfl⟩:=trodVars_none hV;have hlt:∀ x∈p1++p2,x.block<W.heap.size:=fun x hx=>by simpa using hW'.lt x (by simpa using hx)
 have hargs1:∀ (W':World),Below W.heap.size W W'->DataW.Trod enc Tryz.prog W' 0 (fun b=>decide (b<W.heap.size)) true 39 v1 d1 p1 :=
  fun W' hn=>Below.trod laidOut (by kernel_rfl) (of_decide_eq_true (by kernel_rfl)) h1 hn (fun x hx=>hlt x (by simp[hx]))
 have hargs2:∀ (W':World),Below W.heap.size W W'->DataW.Trod enc Tryz.prog W' 0 (fun b=>decide (b<W.heap.size)) true 9 v2 d2 p2 :=
  fun W' hn=>Below.trod laidOut (by kernel_rfl) (of_decide_eq_true (by kernel_rfl)) h2 hn (fun x hx=>hlt x (by simp[hx]))
 obtain ⟨c0,ok0,hrep0⟩:=open_agg Tryz.underlying39 (hval 0 39 v1 rfl rfl) h1 opens_db;have hrep0:Rep (zcw W) [] (dbA c0) v1:=hrep0;obtain ⟨s1,rfl⟩:=okWide_string Tryz.underlying9 (hval 1 9 v2 rfl rfl)
 obtain ⟨mx,hm⟩:=max_of hsh;have hin:RepL (zcw W) [] (ctLaw50P.inp (c0,s1)) #[v1,.string s1].toList:=RepL.cons hrep0 (RepL.cons (zk _) RepL.nil)
 have hcall:=(lawTP_ok (mx:=mx)).2.2 (c0,s1) ok0 (zcw W) W #[v1,.string s1] (memOf_fits W) (gl_ok hL hm) hin 0;refine (callsIn_wide.1 hcall).mono fun e W' hR=>?_;obtain ⟨M',u,rfl,_,_,_,hu,hb⟩:=hR;have hu':u=.bool true:=hu;subst hu';simp only[List.append_nil] at hW';refine ⟨_,rfl,_,_,_,[],p1++p2,[],hW',?_,?_,rfl,hb.frame _,fun h=>by cases h⟩
 ·exact trodAll_mk1 (shut_bool Tryz.underlying4 true)
 ·exact trodAll_mk2 (hargs1 _ hb) (hargs2 _ hb)
theorem rowTP_f:Tryz.prog.funcNamed Rows.transruleParsesRow.func=some 3:=by kernel_rfl
theorem rowTP_c9:(Rows.transruleParsesRow.inPlace==Tryz.prog.inPlace 3)=true:=by kernel_rfl
theorem rowTP_c10:(Rows.transruleParsesRow.unfollowed==Tryz.prog.unfollowed 3)=true:=by kernel_rfl
theorem rowTP_c11:(Rows.transruleParsesRow.recurses==Tryz.prog.recurses 3)=true:=by kernel_rfl
theorem rowTP_c12:(Rows.transruleParsesRow.named==Tryz.prog.varsNamed 3)=true:=by kernel_rfl
theorem rowTP_c0:Rows.transruleParsesRow.wf (OpenSpec.ofChange Rows.transruleParsesSpec)=true:=by kernel_rfl
theorem rowTP_c3:Tryz.f3.params.all (Tryz.prog.readableRec ·)=true:=by kernel_rfl
theorem rowTP_c4:namedTie Tryz.prog Rows.transruleParsesRow.named Rows.transruleParsesSpec.vars=true:=by kernel_rfl
theorem rowTP_c5:(Rows.transruleParsesRow.stops==[])=true:=by kernel_rfl
theorem rowTP_c6:(Tryz.prog.stops==[])=true:=by kernel_rfl
theorem rowTP_c7:(Rows.transruleParsesRow.knobs==[])=true:=by kernel_rfl
theorem rowTP_c8:(Tryz.prog.stopKnobs==[])=true:=by kernel_rfl
theorem rowTP_c13:(Rows.transruleParsesRow.maps==(Tryz.f3.params.toList++Rows.transruleParsesSpec.plain.varTypes Tryz.prog).any (Tryz.prog.mapsRec ·))=true:=by kernel_rfl
theorem rowTP_c14:(Rows.transruleParsesRow.ifaces==(Tryz.f3.params.toList++Rows.transruleParsesSpec.plain.varTypes Tryz.prog).any (Tryz.prog.ifacesRec ·))=true:=by kernel_rfl
theorem rowTP_c15:(Rows.transruleParsesRow.mapsOut==Tryz.prog.mapsAmong Tryz.f3.resultTypes.toList)=true:=by kernel_rfl
theorem rowTP_c16:(Rows.transruleParsesRow.loops==(Tryz.f3.params.toList++Rows.transruleParsesSpec.plain.varTypes Tryz.prog).any (Tryz.prog.loopsFrom ·))=true:=by kernel_rfl
theorem rowTP_c17:(Rows.transruleParsesRow.wideKeys==(Tryz.f3.params.toList++Rows.transruleParsesSpec.plain.varTypes Tryz.prog++Tryz.f3.resultTypes.toList).any (Tryz.prog.wideKeysFrom ·))=true:=by kernel_rfl
theorem rowTP_c18:Rows.transruleParsesSpec.vars.all (Tryz.prog.varReadable ·)=true:=by kernel_rfl
theorem rowTP_c19:Tryz.f3.resultTypes.all (fun t=>Tryz.prog.readableRec t&&decide (t<Tryz.prog.types.size))=true:=by kernel_rfl
theorem rowTP_c20:(Rows.transruleParsesRow.ifacesOut==Tryz.f3.resultTypes.toList.any (Tryz.prog.ifacesRec ·))=true:=by kernel_rfl
theorem rowTP_c21:(Rows.transruleParsesRow.loopsOut==Tryz.f3.resultTypes.toList.any (Tryz.prog.loopsFrom ·))=true:=by kernel_rfl
theorem rowTP_c22:(Rows.transruleParsesRow.plainKeys==Tryz.prog.plainKeys)=true:=by kernel_rfl
theorem rowTP_c23:Rows.transruleParsesRow.shortTexts.isNone=true:=by kernel_rfl
theorem rowTP_c26:(Rows.transruleParsesRow.lifted==Tryz.prog.liftsFinal)=true:=by rw[show Rows.transruleParsesRow.lifted=Rows.transruleParsesRow.lifted from by kernel_rfl];exact jfLift
theorem rowTP_c27:(Tryz.prog.make==some Rows.transruleParsesRow.make)=true:=by rw[show Rows.transruleParsesRow.make=Rows.transruleParsesRow.make from by kernel_rfl];exact jfMake
theorem rowTP_c29:(Rows.transruleParsesRow.pinned==Rows.transruleParsesRow.pinnedBy)=true:=by kernel_rfl
theorem rowTP_c30:(Rows.transruleParsesRow.veiled==(Tryz.f3.params.toList++Rows.transruleParsesSpec.plain.varTypes Tryz.prog++Tryz.f3.resultTypes.toList).any (Tryz.prog.veiledRec ·))=true:=by kernel_rfl
theorem rowTP_c31:Rows.transruleParsesRow.veiledFits Tryz.prog Tryz.f3.params.toList (Tryz.f3.params.toList++Rows.transruleParsesSpec.plain.varTypes Tryz.prog++Tryz.f3.resultTypes.toList)=true:=by kernel_rfl
theorem rowTP_c:joinedFacts Tryz.prog 3 Tryz.f3 Rows.transruleParsesSpec Rows.transruleParsesRow=true:=zcg (zcg (zcg (zcg (zcg (zcg (zcg (zcg (zcg (zcg (zcg (zcg (zcg (zcg (zcg (zcg (zcg (zcg (zcg (zcg (zcg (zcg (zcg (zcg (zcg (zcg (zcg (zcg (zcg (zcg (zcg (rowTP_c0) jfOut) jfMaps) rowTP_c3) rowTP_c4) rowTP_c5) rowTP_c6) rowTP_c7) rowTP_c8) rowTP_c9) rowTP_c10) rowTP_c11) rowTP_c12) rowTP_c13) rowTP_c14) rowTP_c15) rowTP_c16) rowTP_c17) rowTP_c18) rowTP_c19) rowTP_c20) rowTP_c21) rowTP_c22) rowTP_c23) jfHeard) jfEnter) rowTP_c26) rowTP_c27) (by kernel_rfl)) rowTP_c29) rowTP_c30) rowTP_c31
theorem rowTP_i:Tryz.f3.isInstance Tryz.prog Rows.transruleParsesRow.origin Rows.transruleParsesRow.targs:=of_decide_eq_true (by kernel_rfl)
theorem rowTP_w:Tryz.f3.isWrapper Tryz.prog Rows.transruleParsesRow.wrapper Rows.transruleParsesRow.mainSum:=by unfold Func.isWrapper;rw[if_neg (by decide +kernel)];exact ⟨rfl,rfl⟩
theorem rowTP_holds:Rows.TransruleParsesSaid :=
 OpenClaim.holds_of_wide 3 Tryz.f3 rfl rfl rfl rfl rfl rfl rfl ⟨rfl,rfl,rfl,rfl,rfl⟩ rfl rfl rfl rfl rfl rowTP_f Tryz.func3 rowTP_c rowTP_i rowTP_w
  (fun os started H enc _=>liftedTP os started H enc)
end Go.Proofs.YtnimkdbpoeondaaGreatDoor
