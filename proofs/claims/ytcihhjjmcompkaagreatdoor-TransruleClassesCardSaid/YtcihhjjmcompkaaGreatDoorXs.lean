import Derived.Test.YtcihhjjmcompkaaGreatDoorEa
import Derived.Test.YtcihhjjmcompkaaGreatDoorE6
set_option linter.unusedVariables false
set_option linter.unusedSimpArgs false
namespace Go.Proofs
open Go Go.Sx
variable {mx:Int}{pb:Bool}
theorem gx {p q:Prop}(k:q) (h:q∧True→p:=by intro hq;(first|refine wk1 ?_|refine wk2 ?_|refine wk3 ?_|refine wt1 ?_|refine wt2 ?_|refine wt3 ?_|refine wt4 ?_|refine wca _ (EntL.refl _) ?_|refine wcb _ (EntL.refl _) ?_|refine bt1 ?_|refine bt2 ?_|refine bt3 ?_|refine bt4 ?_|refine wn1 ?_|refine wn2 ?_|refine wnb ?_|refine wa ?_|refine wn5 ?_);(repeat (first|refine wk1 ?_|refine wk2 ?_|refine wk3 ?_|refine wt1 ?_|refine wt2 ?_|refine wt3 ?_|refine wt4 ?_|refine wca _ (EntL.refl _) ?_|refine wcb _ (EntL.refl _) ?_|refine bt1 ?_|refine bt2 ?_|refine bt3 ?_|refine bt4 ?_|refine wn1 ?_|refine wn2 ?_|refine wnb ?_|refine wa ?_|refine wn5 ?_));exact hq.1):p:=h ⟨k,trivial⟩
theorem xp0 {Γ:Ctx}{T:TT}{Gl:Nat→Option D}{N:Nat}{all:List Oper}{tm:List (Nat × D)}{ow:List Own}{k:List (Nat × D)→Prop}(h:k tm):exPs Γ T Gl N all [] tm ow k:=h
theorem xp1 {Γ:Ctx}{T:TT}{Gl:Nat→Option D}{N:Nat}{all:List Oper}{i:Nat}{is:List Nat}{tm:List (Nat × D)}{ow:List Own}{k:List (Nat × D)→Prop}(h:WkP true Γ T Gl N all (all.drop i) 1 tm [] ow fun tm' _=>exPs Γ T Gl N all is tm' ow k):exPs Γ T Gl N all (i::is) tm ow k:=by
 rw[WkP_eq] at h
 exact h
theorem xc0 {Γ:Ctx}{T:TT}{Gl:Nat→Option D}{N:Nat}{all:List Oper}{tm:List (Nat × D)}{ow:List Own}{k:Prop}(h:k):exCk Γ T Gl N all [] tm ow k:=h
theorem xc1 {Γ:Ctx}{T:TT}{Gl:Nat→Option D}{N:Nat}{all:List Oper}{i:Nat}{is:List Nat}{tm:List (Nat × D)}{ow:List Own}{k:Prop}(hk:exCk Γ T Gl N all is tm ow k) (h:WkP true Γ T Gl N all (all.drop i) 1 tm [] ow fun tm' _=>match dstOf all i with|some t=>lk tm' t=lk tm t|none=>False):exCk Γ T Gl N all (i::is) tm ow k:=by
 rw[WkP_eq] at h
 exact ⟨h,hk⟩
theorem xs1 {Γ:Ctx}{Y:Ys}{T:TT}{Gl:Nat→Option D}{N:Nat}{all:List Oper}{new pend:List Nat}{alts:Sch}{tm:List (Nat × D)}{ow:List Own}{k:List (Nat × D)→List Own→Prop}(h:exPs Γ T Gl N all new tm ow fun tm=>exCk Γ T Gl N all (pend++new) tm ow (exSch Γ Y T Gl N all alts [] tm ow k)):exSch Γ Y T Gl N all (.stage new alts) pend tm ow k:=h
theorem xs2 {Γ:Ctx}{Y:Ys}{T:TT}{Gl:Nat→Option D}{N:Nat}{all:List Oper}{last pend:List Nat}{tm:List (Nat × D)}{ow:List Own}{k:List (Nat × D)→List Own→Prop}(h:exPs Γ T Gl N all last tm ow fun tm=>exCk Γ T Gl N all (pend++last) tm ow (k tm ow)):exSch Γ Y T Gl N all (.done last) pend tm ow k:=h
theorem xs3 {Γ:Ctx}{Y:Ys}{T:TT}{Gl:Nat→Option D}{N:Nat}{all:List Oper}{c:Nat}{late pend:List Nat}{sub:Sch}{tm:List (Nat × D)}{ow:List Own}{k:List (Nat × D)→List Own→Prop}(h:exAlt Γ Y T Gl N all c late tm ow fun tm' ow'=>exSch Γ Y T Gl N all sub late tm' ow' k):exSch Γ Y T Gl N all (.alt c late sub .nil) pend tm ow k:=h
theorem xa1 {Γ:Ctx}{Y:Ys}{T:TT}{Gl:Nat→Option D}{N:Nat}{all:List Oper}{c:Nat}{late:List Nat}{tm:List (Nat × D)}{ow:List Own}{k:List (Nat × D)→List Own→Prop}(h:match all[c]? with
 | some ⟨dst,op,_,_,_,none⟩=>exOp true Γ Y T Gl N op dst (junkL all tm late) [] ow fun tm' ow'=>k (restL all tm late tm') ow'
 | _=>False):exAlt Γ Y T Gl N all c late tm ow k:=h
theorem xs4 {Γ:Ctx}{Y:Ys}{T:TT}{Gl:Nat→Option D}{N:Nat}{all:List Oper}{c c2:Nat}{late late2 pend:List Nat}{sub sub2 rest:Sch}{tm:List (Nat × D)}{ow:List Own}{k:List (Nat × D)→List Own→Prop}(h:exAlt Γ Y T Gl N all c late tm ow fun tm' ow'=>exSch Γ Y T Gl N all sub late tm' ow' k) (h2:exSch Γ Y T Gl N all (.alt c2 late2 sub2 rest) [] tm ow k):exSch Γ Y T Gl N all (.alt c late sub (.alt c2 late2 sub2 rest)) pend tm ow k:=⟨h,h2⟩
end Go.Proofs
namespace Go.Sx
open Go Go.RowKit
theorem StLe.frz0 {m r e sz n:Nat}{f:Nat→Nat→D}{tm:List (Nat × D)}{ow:List Own}{df:List DE}(hr:ow[r]?=some (.row e sz n f)):StLe m ⟨tm,ow,df⟩ ⟨tm,setOwn ow r (.frozen sz n f),df⟩:=by
 refine ⟨rfl,?_⟩
 intro B w0 M0 dv N M E w a hW hR
 obtain ⟨v,hv⟩:=get_some (l:=E) (n:=r) (by rw[hW.len];exact get_lt hr)
 obtain ⟨M',hle,hW1,hrep⟩:=hW.freeze hr rfl hv
 exact ⟨M',E,hle,fun i v _ hv=>hv,fun i _ b hb=>hb,hW1,hR.mono hle (EnvLe.refl _)⟩
end Go.Sx
