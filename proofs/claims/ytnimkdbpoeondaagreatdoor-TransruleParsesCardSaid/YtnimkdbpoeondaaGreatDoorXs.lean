import Derived.Test.YtnimkdbpoeondaaGreatDoorEa
set_option linter.all false
namespace Go.Proofs
open Go Go.Sx
variable {k:List (Nat × D)->List Own->Prop}{tm:List (Nat × D)}{Gl:Nat->Option D}{all:List Oper}{ow:List Own}{Γ:Ctx}{N:Nat}{T:TT}{Y:Ys}
variable {mx:Int}{pb:Bool}
theorem gx {p q:Prop}(k:q) (h:q/\True->p:=by intro hq;(first|refine wk1 ?_|refine wk2 ?_|refine wk3 ?_|refine wt1 ?_|refine wt2 ?_|refine wt3 ?_|refine wt4 ?_|refine wca _ eL ?_|refine wcb _ eL ?_|refine bt1 ?_|refine bt2 ?_|refine bt3 ?_|refine bt4 ?_|refine wn1 ?_|refine wn2 ?_|refine wnb ?_|refine wa ?_|refine wn5 ?_);(repeat (first|refine wk1 ?_|refine wk2 ?_|refine wk3 ?_|refine wt1 ?_|refine wt2 ?_|refine wt3 ?_|refine wt4 ?_|refine wca _ eL ?_|refine wcb _ eL ?_|refine bt1 ?_|refine bt2 ?_|refine bt3 ?_|refine bt4 ?_|refine wn1 ?_|refine wn2 ?_|refine wnb ?_|refine wa ?_|refine wn5 ?_));exact hq.1):p:=h ⟨k,trivial⟩
theorem xp0 {k:List (Nat × D)->Prop}(h:k tm):zbs Γ T Gl N all [] tm ow k:=h
theorem xp1 {i:Nat}{is:List Nat}{k:List (Nat × D)->Prop}(h:WkP true Γ T Gl N all (all.drop i) 1 tm [] ow fun tm' _=>zbs Γ T Gl N all is tm' ow k):zbs Γ T Gl N all (i::is) tm ow k:=by
 rw[WkP_eq] at h;exact h
theorem xc0 {k:Prop}(h:k):zbi Γ T Gl N all [] tm ow k:=h
theorem xc1 {i:Nat}{is:List Nat}{k:Prop}(hk:zbi Γ T Gl N all is tm ow k) (h:WkP true Γ T Gl N all (all.drop i) 1 tm [] ow fun tm' _=>match uf all i with|some t=>lk tm' t=lk tm t|none=>False):zbi Γ T Gl N all (i::is) tm ow k:=by
 rw[WkP_eq] at h;exact ⟨h,hk⟩
theorem xs1 {new pend:List Nat}{alts:Sch}(h:zbs Γ T Gl N all new tm ow fun tm=>zbi Γ T Gl N all (pend++new) tm ow (yf Γ Y T Gl N all alts [] tm ow k)):yf Γ Y T Gl N all (.stage new alts) pend tm ow k:=h
theorem xs2 {last pend:List Nat}(h:zbs Γ T Gl N all last tm ow fun tm=>zbi Γ T Gl N all (pend++last) tm ow (k tm ow)):yf Γ Y T Gl N all (.done last) pend tm ow k:=h
theorem xs3 {c:Nat}{late pend:List Nat}{sub:Sch}(h:xD Γ Y T Gl N all c late tm ow fun tm' ow'=>yf Γ Y T Gl N all sub late tm' ow' k):yf Γ Y T Gl N all (.alt c late sub .nil) pend tm ow k:=h
theorem xa1 {c:Nat}{late:List Nat}(h:match all[c]? with
 | some ⟨dst,op,_,_,_,none⟩=>zkf true Γ Y T Gl N op dst (zja all tm late) [] ow fun tm' ow'=>k (zit all tm late tm') ow'
 | _=>False):xD Γ Y T Gl N all c late tm ow k:=h
theorem xs4 {c c2:Nat}{late late2 pend:List Nat}{sub sub2 rest:Sch}(h:xD Γ Y T Gl N all c late tm ow fun tm' ow'=>yf Γ Y T Gl N all sub late tm' ow' k) (h2:yf Γ Y T Gl N all (.alt c2 late2 sub2 rest) [] tm ow k):yf Γ Y T Gl N all (.alt c late sub (.alt c2 late2 sub2 rest)) pend tm ow k:=⟨h,h2⟩
end Go.Proofs
namespace Go.Sx
open Go Go.RowKit
theorem StLe.frz0 {m r e sz n:Nat}{f:Nat->Nat->D}{tm:List (Nat × D)}{ow:List Own}{df:List DE}(hr:ow[r]?=some (.row e sz n f)):StLe m ⟨tm,ow,df⟩ ⟨tm,zj ow r (.frozen sz n f),df⟩:=by
 refine ⟨rfl,?_⟩
 intro B w0 M0 dv N M E w a hW hR;obtain ⟨v,hv⟩:=zje (l:=E) (n:=r) (by rw[hW.len];exact zE hr)
 obtain ⟨M',hle,hW1,hrep⟩:=hW.freeze hr rfl hv;exact ⟨M',E,hle,fun i v _ hv=>hv,fun i _ b hb=>hb,hW1,hR.mono hle (zc _)⟩
theorem gy {p q:Prop}(k:q) (h:q/\True->p:=by intro hq;first|exact xp1 hq.1|exact xp0 hq.1|exact xc0 hq.1|exact xs1 hq.1|exact xs2 hq.1|exact xs3 hq.1|exact xa1 hq.1):p:=h ⟨k,trivial⟩
end Go.Sx
