import Derived.Test.YtnimkdbpoeondaaGreatDoorEs
set_option linter.all false
namespace Go.Sx
open Go Go.RowKit
def decP:List DP->Bool
 | []=>true
 | ⟨p,d⟩::r=>match @decide p d with|true=>decP r|false=>false
structure Env where
 T:TT
 Gl:Nat->Option D
 fn:FuncId->Option Func
 pf:FuncId->Bool
 same:FuncId->Bool
 ext:FuncId->List D->Option D
 sum:FuncId->List D->Option D
 quiet:FuncId->Bool:=fun _=>false
inductive YC where
 | mk (i N:Nat) (tm:List (Nat × D)) (ps:List Nat) (as bd:Code) (Y:List YC)
def lkY:List YC->Nat->Option YC
 | [],_=>none
 | .mk i N tm ps as bd Y::r,j=>if i=j then some (.mk i N tm ps as bd Y) else lkY r j
abbrev RC:=Code->Nat->List YC->Bool->St->Option (Exit × St)
abbrev RTm:=List (Nat × D)
def putR (N:Nat) (dst:Option Nat) (d:D) (tm:RTm):Option RTm :=
 match dst with
 | some t=>if t<N then some (zaf tm t d) else none
 | none=>some tm
def zj6 (X:Env) (rc:RC) (f:FuncId) (ds:List D):Option D :=
 match X.sum f ds with
 | some d=>if pdL ds then some d else none
 | none =>
 match X.fn f with
 | some fn =>
  match fn.body with
  | some c =>
   if pdL ds then
    if ds.length<=fn.ntmps then
     match rc c fn.ntmps [] false ⟨vT 0 ds,[],[]⟩ with
     | some (e,s) =>
      (match e with
      | .ret | .normal =>
       (match zcl s.ow s.df with
       | some ow' =>
        (match zfj X.T s.tm ow' fn.results.toList with
        | some rs=>(match zew ow' rs with|(rs',_)=>if pd (zW rs') then some (zW rs') else none)
        | none=>none)
       | none=>none)
      | _=>none)
     | none=>none
    else none
   else none
  | none=>none
 | none=>none
def zow (X:Env) (rc:RC) (f:FuncId) (Y:List YC) (ds:List D) (ow:List Own):Option (D × List Own):=
 match X.fn f with
 | some fn =>
  match fn.body with
  | some c =>
   if ds.length<=fn.ntmps then
    match rc c fn.ntmps Y false ⟨vT 0 ds,ow,[]⟩ with
    | some (e,s) =>
     (match e with
     | .ret | .normal =>
      (match zcl s.ow s.df with
      | some ow' =>
       (match zfj X.T s.tm ow' fn.results.toList with
       | some rs=>some (zW rs,ow')
       | none=>none)
      | none=>none)
     | _=>none)
    | none=>none
   else none
  | none=>none
 | none=>none
def callR (X:Env) (rc:RC) (f:FuncId) (Y:List YC) (ds:List D) (ow:List Own):Option (D × List Own):=
 if X.quiet f then none
 else if X.same f then (match X.ext f ds with|some d=>some (d,ow)|none=>none)
 else if X.pf f then (match zew ow ds with|(ds',ow')=>match zj6 X rc f ds' with|some d=>some (d,ow')|none=>none)
 else zow X rc f Y ds ow
def roundR (rc:RC) (N:Nat) (tm:RTm) (ps:List Nat) (i:Nat) (as bd:Code) (Y:List YC) (ds:List D) (ow:List Own):Option (D × List Own):=
 match zkv N ps ds tm with
 | some tm' =>
  match rc as N Y true ⟨tm',ow,[]⟩ with
  | some (.normal,s) =>
   (match s.ow[i]?,s.df with
   | some (.lp .ready p),[] =>
    (match rc bd N Y true ⟨s.tm,zj s.ow i (.lp .busy p),[]⟩ with
    | some (e,s) =>
     (match s.ow[i]?,s.df with
     | some (.lp _ _),[]=>(match e with
      | .normal=>some (.v (.bool true),zj s.ow i (.lp .ready none))
      | .ret=>some (.v (.bool false),zj s.ow i (.lp .done (some .ret)))
      | .exit id=>some (.v (.bool false),zj s.ow i (.lp .done (some (.exit id))))
      | _=>none)
     | _,_=>none)
    | none=>none)
   | _,_=>none)
  | _=>none
 | none=>none
def opR (X:Env) (tm:RTm) (x:Operand):Option D :=
 match x with
 | .tmp t=>lk tm t
 | .const v=>some (.v v)
 | .global g=>X.Gl g
 | .func f=>some (.fn f [])
def opRR (X:Env) (tm:RTm) (ow:List Own) (x:Operand):Option D :=
 match opR X tm x with
 | some (.row i)=>(match ow[i]? with|some (.frozen sz n f)=>some (.sl sz n f)|_=>some (.row i))
 | some d=>some d
 | none=>none
def xG (N:Nat) (dst:Option Nat) (tm:RTm):Option (D × List Own)->Option (RTm × List Own)
 | some (d,ow')=>(match putR N dst d tm with|some tm'=>some (tm',ow')|none=>none)
 | none=>none
def runOp (X:Env) (rc:RC) (Y:List YC) (N:Nat) (op:Op) (dst:Option Nat) (tm:RTm) (ow:List Own):Option (RTm × List Own):=
 match op with
 | .pick (.tmp s) a b =>
  match lk tm s with
  | some (.v (.bool x))=>(match opR X tm (match x with|true=>a|false=>b) with|some d=>xG N dst tm (some (d,ow))|none=>none)
  | _=>none
 | .call ⟨.value (.func f),args,_⟩ =>
  match zgt (opR X tm) args.toList with
  | some ds=>xG N dst tm (callR X rc f Y ds ow)
  | none=>none
 | .call ⟨.value (.tmp y),args,_⟩ =>
  match lk tm y,zgt (opR X tm) args.toList with
  | some (.fn f caps),some ds=>xG N dst tm (callR X rc f Y (ds++caps) ow)
  | some (.yl i),some ds=>(match lkY Y i with|some (.mk i N' tm' ps as bd Y')=>xG N dst tm (roundR rc N' tm' ps i as bd Y' ds ow)|none=>none)
  | _,_=>none
 | .call ⟨.invoke x name,args,_⟩ =>
  match opR X tm x,zgt (opR X tm) args.toList with
  | some (.ifc t d),some ds =>
   (match X.T t with
   | some ti=>(match methOf ti name with|some f=>xG N dst tm (callR X rc f Y (d::ds) ow)|none=>none)
   | none=>none)
  | _,_=>none
 | .call ⟨.builtin .append,⟨[s,x]⟩,⟨[t,t']⟩⟩ =>
  match opR X tm s,opRR X tm ow x with
  | some ds,some dx =>
   match evApp X.T t t' ow ds dx with
   | some (vs,i,o)=>if decP vs then xG N dst tm (some (.row ow.length,xb ow i++[o])) else none
   | none=>none
  | _,_=>none
 | .lookup t x ix ok =>
  match X.T t,opR X tm x,opR X tm ix with
  | some { kind:=.map kt vt,.. },some (.mp i),some kd =>
   match X.T kt,X.T vt,ow[i]?,kvOf kd with
   | some ki,some vi,some (.map kt' vt' sh f),some key =>
    if kt'=kt/\vt'=vt/\ksOf ki=some sh/\zcb key=sh then
     match zeroD vi with
     | some z=>(match f key with
      | some d=>xG N dst tm (some (if ok then .tu [d,.v (.bool true)] else d,ow))
      | none=>xG N dst tm (some (if ok then .tu [z,.v (.bool false)] else z,ow)))
     | none=>none
    else none
   | _,_,_,_=>none
  | _,_,_=>none
 | op =>
  match zY X.T op (opRR X tm ow) ow with
  | some (vs,d)=>if decP vs then xG N dst tm (some (d,ow)) else none
  | none =>
   match evNew X.T op (opRR X tm ow) ow with
   | some (d,ow')=>xG N dst tm (some (d,ow'))
   | none =>
    match zl5 X.T op (opRR X tm ow) ow with
    | some (vs,d,ow')=>if decP vs then xG N dst tm (some (d,ow')) else none
    | none =>
     match zho X.T op (opRR X tm ow) ow with
     | some (n+1,neg)=>xG N dst tm (some (.v (.bool (xor false neg)),ow))
     | _=>none
def zah (X:Env) (rc:RC) (Y:List YC) (N:Nat) (all:List Oper):List Oper->RTm->List Own->Option (RTm × List Own)
 | [],tm,ow=>some (tm,ow)
 | ⟨dst,op,_,_,_,none⟩::r,tm,ow=>match runOp X rc Y N op dst tm ow with|some (tm',ow')=>zah X rc Y N all r tm' ow'|none=>none
 | ⟨dst,op,_,_,_,some (j,b)⟩::r,tm,ow =>
  match all[j]? with
  | some ⟨some s,_,_,_,_,_⟩ =>
   match lk tm s with
   | some (.v (.bool x)) =>
    if x=b then (match runOp X rc Y N op dst tm ow with|some (tm',ow')=>zah X rc Y N all r tm' ow'|none=>none)
    else (match putR N dst (.v undef) tm with|some tm'=>zah X rc Y N all r tm' ow|none=>none)
   | some (.v (.tuple _))=>(match putR N dst (.v undef) tm with|some tm'=>zah X rc Y N all r tm' ow|none=>none)
   | _=>none
  | _=>none
def runQ (X:Env) (rc:RC) (op:Op) (tm:RTm) (ow:List Own):Option D :=
 match op with
 | .pick (.tmp s) a b =>
  match lk tm s with
  | some (.v (.bool x))=>opR X tm (match x with|true=>a|false=>b)
  | _=>none
 | .call ⟨.value (.func f),args,_⟩ =>
  if X.quiet f then none else if X.same f then none else if X.pf f then (match zgt (opR X tm) args.toList with|some ds=>zj6 X rc f (zgs ow ds)|none=>none) else none
 | op =>
  match zY X.T op (opRR X tm ow) ow with
  | some (vs,d)=>if decP vs then some d else none
  | none=>ur X.T op (opRR X tm ow) ow
def vk (X:Env) (rc:RC) (N:Nat) (all:List Oper):List Oper->Nat->RTm->List Own->Option RTm
 | _,0,tm,_=>some tm
 | [],_+1,tm,_=>some tm
 | ⟨some t,op,_,_,_,none⟩::r,p+1,tm,ow =>
  if t<N then (match runQ X rc op tm ow with|some d=>vk X rc N all r p (zaf tm t d) ow|none=>none) else none
 | ⟨some t,op,_,_,_,some (j,b)⟩::r,p+1,tm,ow =>
  match all[j]? with
  | some ⟨some s,_,_,_,_,_⟩ =>
   match lk tm s with
   | some (.v (.bool x)) =>
    if t<N then
     if t=s then none else
     if x=b then (match runQ X rc op tm ow with|some d=>vk X rc N all r p (zaf tm t d) ow|none=>none)
     else vk X rc N all r p (zaf tm t (.v undef)) ow
    else none
   | some (.v (.tuple _))=>if t<N then (if t=s then none else vk X rc N all r p (zaf tm t (.v undef)) ow) else none
   | _=>none
  | _=>none
 | _::_,_+1,_,_=>none
def yR (X:Env) (f:FuncId):Bool:=X.pf f && !X.same f && !X.quiet f
def eqDV:Value->Value->Bool
 | .int k a,.int k' b=>if k=k' then decide (a=b) else false
 | .string a,.string b => @decide (a=b) (zed a b)
 | .bool a,.bool b=>a==b
 | .pointer none,.pointer none=>true
 | .slice none 0 0,.slice none 0 0=>true
 | .nilIface,.nilIface=>true
 | .tuple ⟨[]⟩,.tuple ⟨[]⟩=>true
 | _,_=>false
mutual
def eqD:D->D->Bool
 | .v a,.v b=>eqDV a b
 | .own i o,.own j q=>decide (i=j)&&decide (o=q)
 | .row i,.row j=>decide (i=j)
 | .mp i,.mp j=>decide (i=j)
 | .ag l,.ag r=>eqDL l r
 | .tu l,.tu r=>eqDL l r
 | .fn f l,.fn g r=>decide (f=g)&&eqDL l r
 | .ifc t d,.ifc t' d'=>decide (t=t')&&eqD d d'
 | _,_=>false
def eqDL:List D->List D->Bool
 | [],[]=>true
 | a::l,b::r=>eqD a b&&eqDL l r
 | _,_=>false
end
def schGo (pf:FuncId->Bool) (ops:List Oper) (ms:List Nat):Nat->List Nat->List Nat->Option Sch
 | 0,_,_=>none
 | n+1,known,pend =>
  let q:=fun i=>match ops[i]? with|some o=>isQuiet pf o.op|none=>false
  let nq:=(List.range ops.length).filter fun i => !known.contains i && !q i
  let new:=(List.range ops.length).filter fun i => !known.contains i&&q i&&nq.all fun c => !(ms.getD i 0).testBit c
  match nq with
  | []=>some (.done new)
  | c::_ =>
   let late:=(pend++new).filter fun i => !(ms.getD c 0).testBit i
   match schGo pf ops ms n (known++new++[c]) late with
   | some sub=>some (.stage new (.alt c late sub .nil))
   | none=>none
def autoSch (pf:FuncId->Bool) (ops:List Oper):Option Sch:=schGo pf ops (xJ ops []) (ops.length+1) [] []
def runPs (X:Env) (rc:RC) (N:Nat) (all:List Oper):List Nat->RTm->List Own->Option RTm
 | [],tm,_=>some tm
 | i::is,tm,ow=>match vk X rc N all (all.drop i) 1 tm ow with|some tm'=>runPs X rc N all is tm' ow|none=>none
def runCk (X:Env) (rc:RC) (N:Nat) (all:List Oper):List Nat->RTm->List Own->Bool
 | [],_,_=>true
 | i::is,tm,ow=>(match vk X rc N all (all.drop i) 1 tm ow with
  | some tm'=>(match uf all i with|some t=>(match lk tm' t,lk tm t with|some a,some b=>eqD a b|none,none=>true|_,_=>false)|none=>false)
  | none=>false)&&runCk X rc N all is tm ow
def runAlt (X:Env) (rc:RC) (Y:List YC) (N:Nat) (all:List Oper) (c:Nat) (late:List Nat) (tm:RTm) (ow:List Own):Option (RTm × List Own):=
 match all[c]? with
 | some ⟨dst,op,_,_,_,none⟩=>(match runOp X rc Y N op dst (zja all tm late) ow with|some (tm',ow')=>some (zit all tm late tm',ow')|none=>none)
 | _=>none
def zas (X:Env) (rc:RC) (Y:List YC) (N:Nat) (all:List Oper):Sch->List Nat->RTm->List Own->Option (RTm × List Own)
 | .done last,pend,tm,ow=>(match runPs X rc N all last tm ow with|some tm1=>if runCk X rc N all (pend++last) tm1 ow then some (tm1,ow) else none|none=>none)
 | .stage new alts,pend,tm,ow=>(match runPs X rc N all new tm ow with|some tm1=>if runCk X rc N all (pend++new) tm1 ow then zas X rc Y N all alts [] tm1 ow else none|none=>none)
 | .nil,_,_,_=>none
 | .alt c late sub .nil,_,tm,ow=>(match runAlt X rc Y N all c late tm ow with|some (tm1,ow1)=>zas X rc Y N all sub late tm1 ow1|none=>none)
 | .alt _ _ _ _,_,_,_=>none
def runOld (X:Env) (rc:RC) (Y:List YC) (N:Nat) (R:Bool) (ops:List Oper) (s:St):Option (Exit × St):=
 match zch ops (zao (yR X) ops) with
 | none =>
  if zfp R ops (zao (yR X) ops) then
   match vk X rc N ops ops (zao (yR X) ops) s.tm s.ow with
   | some tm=>(match zah X rc Y N ops (ops.drop (zao (yR X) ops)) tm s.ow with|some (tm,ow)=>some (.normal,⟨tm,ow,s.df⟩)|none=>none)
   | none=>none
  else none
 | some (t,e) =>
  if vD ops (zao (yR X) ops+1) then
   match vk X rc N ops ops (zao (yR X) ops) s.tm s.ow,X.T e with
   | some tm,some { zero:=some z,.. } =>
    if t<N then
     (match zah X rc Y N ops (ops.drop (zao (yR X) ops+1)) (zaf tm t (.own s.ow.length 0)) (s.ow++[.cells e (z.map .v)]) with|some (tm,ow)=>some (.normal,⟨tm,ow,s.df⟩)|none=>none)
    else none
   | _,_=>none
  else none
def runTry (X:Env) (rc:RC) (Y:List YC) (N:Nat) (pf:FuncId->Bool) (ops:List Oper) (s:St):Option (Exit × St):=
 match autoSch pf ops with
 | some sch=>if okSch ops sch then (match zas X rc Y N ops sch [] s.tm s.ow with|some (tm,ow)=>some (.normal,⟨tm,ow,s.df⟩)|none=>none) else none
 | none=>none
def uT (X:Env):Nat->RC
 | 0,_,_,_,_,_=>none
 | n+1,c,N,Y,R,s =>
  match c with
  | .skip | .label _=>some (.normal,s)
  | .region _ ops draw =>
   (match draw with
   | false =>
    match zab ops.toList with
    | none=>(match zah X (uT X n) Y N ops.toList ops.toList s.tm s.ow with|some (tm,ow)=>some (.normal,⟨tm,ow,s.df⟩)|none=>none)
    | some (l,y)=>(match zah X (uT X n) Y N ops.toList l s.tm s.ow with
     | some (tm,ow)=>(match lk tm y,R with
      | some (.fn f [_,_]),false=>if X.quiet f then some (.normal,⟨tm,ow,.c f::s.df⟩) else none
      | _,_=>none)
     | none=>none)
   | true =>
    match runOld X (uT X n) Y N R ops.toList s with
    | some r=>some r
    | none=>match runTry X (uT X n) Y N (yR X) ops.toList s with
     | some r=>some r
     | none=>runTry X (uT X n) Y N (fun _=>false) ops.toList s)
  | .seq a b =>
   (match uT X n a N Y R s with
   | some (.normal,s')=>uT X n b N Y R s'
   | r=>r)
  | .cond x a b =>
   (match opR X s.tm x with
   | some (.v (.bool true))=>uT X n a N Y R s
   | some (.v (.bool false))=>uT X n b N Y R s
   | _=>none)
  | .block id a =>
   (match uT X n a N Y R s with
   | some (.exit i,s')=>if i=id then some (.normal,s') else some (.exit i,s')
   | r=>r)
  | .scope a =>
   (match uT X n a N Y R s with
   | some (.goto _,_)=>none
   | r=>r)
  | .exit id=>some (.exit id,s)
  | .ret=>some (.ret,s)
  | .loop a =>
   (match uT X n a N Y R s with
   | some (.normal,s')=>uT X n (.loop a) N Y R s'
   | r=>r)
  | .rangeFunc f ps as bd =>
   (match R,opR X s.tm f with
   | false,some (.fn g caps) =>
    if X.pf g||X.same g||X.quiet g then none else
    match zow X (uT X n) g (.mk (s.ow.length+1) N s.tm ps.toList as bd Y::Y) (.yl (s.ow.length+1)::caps) (s.ow++[.defd,.lp .ready none]) with
    | some (_,ow') =>
     (match ow'[s.ow.length+1]? with
     | some (.lp .busy _)=>none
     | some (.lp _ none)=>some (.normal,⟨s.tm,zj ow' (s.ow.length+1) (.lp .exhausted none),.m s.ow.length::s.df⟩)
     | some (.lp _ (some .ret))=>some (.ret,⟨s.tm,zj ow' (s.ow.length+1) (.lp .exhausted (some .ret)),.m s.ow.length::s.df⟩)
     | some (.lp _ (some (.exit id)))=>some (.exit id,⟨s.tm,zj ow' (s.ow.length+1) (.lp .exhausted (some (.exit id))),.m s.ow.length::s.df⟩)
     | _=>none)
    | none=>none
   | _,_=>none)
  | _=>none
end Go.Sx
