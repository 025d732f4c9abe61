import Derived.Test.YtfalaomjfkaphaaGreatDoorE1
import Derived.KernelRfl
set_option linter.unusedVariables false
set_option linter.unusedSimpArgs false
namespace Go.Sx
open Go Go.RowKit

/-! A run: the evaluation where all is told. -/

def parTm : Nat → List D → List (Nat × D)
  | _, [] => []
  | i, d :: ds => (i, d) :: parTm (i + 1) ds

def resD1 (T : TT) (tm : List (Nat × D)) (ow : List Own) : ResultVar → Option D
  | .tmp t => lk tm t
  | .cell a t => match T t, lk tm a with
    | some ti, some (.own i off) => (match evLoad ti ow (.own i off) with | some ([], d) => some d | _ => none)
    | _, _ => none

def resDL (T : TT) (tm : List (Nat × D)) (ow : List Own) : List ResultVar → Option (List D)
  | [] => some []
  | r :: rs => match resD1 T tm ow r, resDL T tm ow rs with | some d, some ds => some (d :: ds) | _, _ => none

def retD : List D → D
  | [d] => d
  | ds => .tu ds

/-- The marks are shut. -/
def shutO (ow : List Own) : List Nat → Option (List Own)
  | [] => some ow
  | i :: is => match ow[i]? with | some .defd => shutO (setOwn ow i .gone) is | _ => none

def decP : List DP → Bool
  | [] => true
  | ⟨p, d⟩ :: r => match @decide p d with | true => decP r | false => false

/-- What a run is told: types, variables, functions, which of them are called by value alone, which hand back their argument. -/
structure Env where
  T : TT
  Gl : Nat → Option D
  fn : FuncId → Option Func
  pf : FuncId → Bool
  same : FuncId → Bool
  ext : FuncId → List D → Option D
  sum : FuncId → List D → Option D

/-- A loop over a function that is under way. -/
inductive YC where
  | mk (i N : Nat) (tm : List (Nat × D)) (ps : List Nat) (as bd : Code) (Y : List YC)

def lkY : List YC → Nat → Option YC
  | [], _ => none
  | .mk i N tm ps as bd Y :: r, j => if i = j then some (.mk i N tm ps as bd Y) else lkY r j

abbrev RC := Code → Nat → List YC → Bool → St → Option (Exit × St)
abbrev RTm := List (Nat × D)

def putR (N : Nat) (dst : Option Nat) (d : D) (tm : RTm) : Option RTm :=
  match dst with
  | some t => if t < N then some (setT tm t d) else none
  | none => some tm

/-- A call by value alone. -/
def callV (X : Env) (rc : RC) (f : FuncId) (ds : List D) : Option D :=
  match X.sum f ds with
  | some d => if pdL ds then some d else none
  | none =>
  match X.fn f with
  | some fn =>
    match fn.body with
    | some c =>
      if pdL ds then
        if ds.length ≤ fn.ntmps then
          match rc c fn.ntmps [] false ⟨parTm 0 ds, [], []⟩ with
          | some (e, s) =>
            (match e with
            | .ret | .normal =>
              (match shutO s.ow s.df with
              | some ow' =>
                (match resDL X.T s.tm ow' fn.results.toList with
                | some rs => (match frzL ow' rs with | (rs', _) => if pd (retD rs') then some (retD rs') else none)
                | none => none)
              | none => none)
            | _ => none)
          | none => none
        else none
      else none
    | none => none
  | none => none

/-- A call that is walked in place. -/
def callI (X : Env) (rc : RC) (f : FuncId) (Y : List YC) (ds : List D) (ow : List Own) : Option (D × List Own) :=
  match X.fn f with
  | some fn =>
    match fn.body with
    | some c =>
      if ds.length ≤ fn.ntmps then
        match rc c fn.ntmps Y false ⟨parTm 0 ds, ow, []⟩ with
        | some (e, s) =>
          (match e with
          | .ret | .normal =>
            (match shutO s.ow s.df with
            | some ow' =>
              (match resDL X.T s.tm ow' fn.results.toList with
              | some rs => some (retD rs, ow')
              | none => none)
            | none => none)
          | _ => none)
        | none => none
      else none
    | none => none
  | none => none

def callR (X : Env) (rc : RC) (f : FuncId) (Y : List YC) (ds : List D) (ow : List Own) : Option (D × List Own) :=
  if X.same f then (match X.ext f ds with | some d => some (d, ow) | none => none)
  else if X.pf f then (match frzL ow ds with | (ds', ow') => match callV X rc f ds' with | some d => some (d, ow') | none => none)
  else callI X rc f Y ds ow

/-- A round. -/
def roundR (rc : RC) (N : Nat) (tm : RTm) (ps : List Nat) (i : Nat) (as bd : Code) (Y : List YC) (ds : List D) (ow : List Own) : Option (D × List Own) :=
  match setPs N ps ds tm with
  | some tm' =>
    match rc as N Y true ⟨tm', ow, []⟩ with
    | some (.normal, s) =>
      (match s.ow[i]?, s.df with
      | some (.lp .ready p), [] =>
        (match rc bd N Y true ⟨s.tm, setOwn s.ow i (.lp .busy p), []⟩ with
        | some (e, s) =>
          (match s.ow[i]?, s.df with
          | some (.lp _ _), [] => (match e with
            | .normal => some (.v (.bool true), setOwn s.ow i (.lp .ready none))
            | .ret => some (.v (.bool false), setOwn s.ow i (.lp .done (some .ret)))
            | .exit id => some (.v (.bool false), setOwn s.ow i (.lp .done (some (.exit id))))
            | _ => none)
          | _, _ => none)
        | none => none)
      | _, _ => none)
    | _ => none
  | none => none

def opR (X : Env) (tm : RTm) (x : Operand) : Option D :=
  match x with
  | .tmp t => lk tm t
  | .const v => some (.v v)
  | .global g => X.Gl g
  | .func f => some (.fn f [])

def opRR (X : Env) (tm : RTm) (ow : List Own) (x : Operand) : Option D :=
  match opR X tm x with
  | some (.row i) => (match ow[i]? with | some (.frozen sz n f) => some (.sl sz n f) | _ => some (.row i))
  | some d => some d
  | none => none

def thenPut (N : Nat) (dst : Option Nat) (tm : RTm) : Option (D × List Own) → Option (RTm × List Own)
  | some (d, ow') => (match putR N dst d tm with | some tm' => some (tm', ow') | none => none)
  | none => none

/-- One operation. -/
def runOp (X : Env) (rc : RC) (Y : List YC) (N : Nat) (op : Op) (dst : Option Nat) (tm : RTm) (ow : List Own) : Option (RTm × List Own) :=
  match op with
  | .pick (.tmp s) a b =>
    match lk tm s with
    | some (.v (.bool x)) => (match opR X tm (match x with | true => a | false => b) with | some d => thenPut N dst tm (some (d, ow)) | none => none)
    | _ => none
  | .call ⟨.value (.func f), args, _⟩ =>
    match gets (opR X tm) args.toList with
    | some ds => thenPut N dst tm (callR X rc f Y ds ow)
    | none => none
  | .call ⟨.value (.tmp y), args, _⟩ =>
    match lk tm y, gets (opR X tm) args.toList with
    | some (.fn f caps), some ds => thenPut N dst tm (callR X rc f Y (ds ++ caps) ow)
    | some (.yl i), some ds => (match lkY Y i with | some (.mk i N' tm' ps as bd Y') => thenPut N dst tm (roundR rc N' tm' ps i as bd Y' ds ow) | none => none)
    | _, _ => none
  | .call ⟨.invoke x name, args, _⟩ =>
    match opR X tm x, gets (opR X tm) args.toList with
    | some (.ifc t d), some ds =>
      (match X.T t with
      | some ti => (match methOf ti name with | some f => thenPut N dst tm (callR X rc f Y (d :: ds) ow) | none => none)
      | none => none)
    | _, _ => none
  | .call ⟨.builtin .append, ⟨[s, x]⟩, ⟨[t, t']⟩⟩ =>
    match opR X tm s, opRR X tm ow x with
    | some ds, some dx =>
      match evApp X.T t t' ow ds dx with
      | some (vs, i, o) => if decP vs then thenPut N dst tm (some (.row ow.length, goneO ow i ++ [o])) else none
      | none => none
    | _, _ => none
  | .lookup t x ix ok =>
    match X.T t, opR X tm x, opR X tm ix with
    | some { kind := .map kt vt, .. }, some (.mp i), some kd =>
      match X.T kt, X.T vt, ow[i]?, kvOf kd with
      | some ki, some vi, some (.map kt' vt' sh f), some key =>
        if kt' = kt ∧ vt' = vt ∧ ksOf ki = some sh ∧ kvSh key = sh then
          match zeroD vi with
          | some z => (match f key with
            | some d => thenPut N dst tm (some (if ok then .tu [d, .v (.bool true)] else d, ow))
            | none => thenPut N dst tm (some (if ok then .tu [z, .v (.bool false)] else z, ow)))
          | none => none
        else none
      | _, _, _, _ => none
    | _, _, _ => none
  | op =>
    match evPure X.T op (opRR X tm ow) ow with
    | some (vs, d) => if decP vs then thenPut N dst tm (some (d, ow)) else none
    | none =>
      match evNew X.T op (opRR X tm ow) ow with
      | some (d, ow') => thenPut N dst tm (some (d, ow'))
      | none =>
        match evOwn X.T op (opRR X tm ow) ow with
        | some (vs, d, ow') => if decP vs then thenPut N dst tm (some (d, ow')) else none
        | none =>
          match nilCmp X.T op (opRR X tm ow) ow with
          | some (n + 1, neg) => thenPut N dst tm (some (.v (.bool (xor false neg)), ow))
          | _ => none

def runOps (X : Env) (rc : RC) (Y : List YC) (N : Nat) (all : List Oper) : List Oper → RTm → List Own → Option (RTm × List Own)
  | [], tm, ow => some (tm, ow)
  | ⟨dst, op, _, _, _, none⟩ :: r, tm, ow => match runOp X rc Y N op dst tm ow with | some (tm', ow') => runOps X rc Y N all r tm' ow' | none => none
  | ⟨dst, op, _, _, _, some (j, b)⟩ :: r, tm, ow =>
    match all[j]? with
    | some ⟨some s, _, _, _, _, _⟩ =>
      match lk tm s with
      | some (.v (.bool x)) =>
        if x = b then (match runOp X rc Y N op dst tm ow with | some (tm', ow') => runOps X rc Y N all r tm' ow' | none => none)
        else (match putR N dst (.v undef) tm with | some tm' => runOps X rc Y N all r tm' ow | none => none)
      | some (.v (.tuple _)) => (match putR N dst (.v undef) tm with | some tm' => runOps X rc Y N all r tm' ow | none => none)
      | _ => none
    | _ => none

/-- An operation that only looks, computes, calls by value alone or makes data. -/
def runQ (X : Env) (rc : RC) (op : Op) (tm : RTm) (ow : List Own) : Option D :=
  match op with
  | .pick (.tmp s) a b =>
    match lk tm s with
    | some (.v (.bool x)) => opR X tm (match x with | true => a | false => b)
    | _ => none
  | .call ⟨.value (.func f), args, _⟩ =>
    if X.same f then none else if X.pf f then (match gets (opR X tm) args.toList with | some ds => callV X rc f (resL ow ds) | none => none) else none
  | op =>
    match evPure X.T op (opRR X tm ow) ow with
    | some (vs, d) => if decP vs then some d else none
    | none => evNewD X.T op (opRR X tm ow) ow

def runPre (X : Env) (rc : RC) (N : Nat) (all : List Oper) : List Oper → Nat → RTm → List Own → Option RTm
  | _, 0, tm, _ => some tm
  | [], _ + 1, tm, _ => some tm
  | ⟨some t, op, _, _, _, none⟩ :: r, p + 1, tm, ow =>
    if t < N then (match runQ X rc op tm ow with | some d => runPre X rc N all r p (setT tm t d) ow | none => none) else none
  | ⟨some t, op, _, _, _, some (j, b)⟩ :: r, p + 1, tm, ow =>
    match all[j]? with
    | some ⟨some s, _, _, _, _, _⟩ =>
      match lk tm s with
      | some (.v (.bool x)) =>
        if t < N then
          if t = s then none else
          if x = b then (match runQ X rc op tm ow with | some d => runPre X rc N all r p (setT tm t d) ow | none => none)
          else runPre X rc N all r p (setT tm t (.v undef)) ow
        else none
      | some (.v (.tuple _)) => if t < N then (if t = s then none else runPre X rc N all r p (setT tm t (.v undef)) ow) else none
      | _ => none
    | _ => none
  | _ :: _, _ + 1, _, _ => none

def isPureR (X : Env) (f : FuncId) : Bool := X.pf f && !X.same f

def runC (X : Env) : Nat → RC
  | 0, _, _, _, _, _ => none
  | n + 1, c, N, Y, R, s =>
    match c with
    | .skip | .label _ => some (.normal, s)
    | .region _ ops draw =>
      (match draw with
      | false => match runOps X (runC X n) Y N ops.toList ops.toList s.tm s.ow with | some (tm, ow) => some (.normal, ⟨tm, ow, s.df⟩) | none => none
      | true =>
        match allocAt ops.toList (qlen (isPureR X) ops.toList) with
        | none =>
          if okDrawR R ops.toList (qlen (isPureR X) ops.toList) then
            match runPre X (runC X n) N ops.toList ops.toList (qlen (isPureR X) ops.toList) s.tm s.ow with
            | some tm => (match runOps X (runC X n) Y N ops.toList (ops.toList.drop (qlen (isPureR X) ops.toList)) tm s.ow with | some (tm, ow) => some (.normal, ⟨tm, ow, s.df⟩) | none => none)
            | none => none
          else none
        | some (t, e) =>
          if okDraw ops.toList (qlen (isPureR X) ops.toList + 1) then
            match runPre X (runC X n) N ops.toList ops.toList (qlen (isPureR X) ops.toList) s.tm s.ow, X.T e with
            | some tm, some { zero := some z, .. } =>
              if t < N then
                (match runOps X (runC X n) Y N ops.toList (ops.toList.drop (qlen (isPureR X) ops.toList + 1)) (setT tm t (.own s.ow.length 0)) (s.ow ++ [.cells e (z.map .v)]) with | some (tm, ow) => some (.normal, ⟨tm, ow, s.df⟩) | none => none)
              else none
            | _, _ => none
          else none)
    | .seq a b =>
      (match runC X n a N Y R s with
      | some (.normal, s') => runC X n b N Y R s'
      | r => r)
    | .cond x a b =>
      (match opR X s.tm x with
      | some (.v (.bool true)) => runC X n a N Y R s
      | some (.v (.bool false)) => runC X n b N Y R s
      | _ => none)
    | .block id a =>
      (match runC X n a N Y R s with
      | some (.exit i, s') => if i = id then some (.normal, s') else some (.exit i, s')
      | r => r)
    | .scope a =>
      (match runC X n a N Y R s with
      | some (.goto _, _) => none
      | r => r)
    | .exit id => some (.exit id, s)
    | .ret => some (.ret, s)
    | .loop a =>
      (match runC X n a N Y R s with
      | some (.normal, s') => runC X n (.loop a) N Y R s'
      | r => r)
    | .rangeFunc f ps as bd =>
      (match R, opR X s.tm f with
      | false, some (.fn g caps) =>
        if X.pf g || X.same g then none else
        match callI X (runC X n) g (.mk (s.ow.length + 1) N s.tm ps.toList as bd Y :: Y) (.yl (s.ow.length + 1) :: caps) (s.ow ++ [.defd, .lp .ready none]) with
        | some (_, ow') =>
          (match ow'[s.ow.length + 1]? with
          | some (.lp .busy _) => none
          | some (.lp _ none) => some (.normal, ⟨s.tm, setOwn ow' (s.ow.length + 1) (.lp .exhausted none), s.ow.length :: s.df⟩)
          | some (.lp _ (some .ret)) => some (.ret, ⟨s.tm, setOwn ow' (s.ow.length + 1) (.lp .exhausted (some .ret)), s.ow.length :: s.df⟩)
          | some (.lp _ (some (.exit id))) => some (.exit id, ⟨s.tm, setOwn ow' (s.ow.length + 1) (.lp .exhausted (some (.exit id))), s.ow.length :: s.df⟩)
          | _ => none)
        | none => none
      | _, _ => none)
    | _ => none

end Go.Sx

namespace Go.Sx
open Go Go.RowKit

/-- A table of types in rows of sixteen. -/
def tbT (tb : List (List (Option TI))) : TT := fun t =>
  match tb[t / 16]? with
  | some r => match r[t % 16]? with
    | some (some i) => some i
    | _ => none
  | none => none

def tbRow (P : Program) (n i : Nat) : Nat → Nat → List (Option TI)
  | _, 0 => []
  | j, k + 1 => if 16 * i + j < n then tiOf P (16 * i + j) :: tbRow P n i (j + 1) k else []

def tbAll (P : Program) (n : Nat) : Nat → Nat → List (List (Option TI))
  | _, 0 => []
  | i, k + 1 => tbRow P n i 0 16 :: tbAll P n (i + 1) k

theorem tbRow_get (P : Program) (n i : Nat) : ∀ (k j q : Nat) (x : Option TI), (tbRow P n i j k)[q]? = some x → x = tiOf P (16 * i + (j + q))
  | 0, j, q, x, h => by simp [tbRow] at h
  | k + 1, j, q, x, h => by
    simp only [tbRow] at h
    split at h
    · cases q with
      | zero => simp at h; exact h.symm
      | succ q =>
        simp at h
        have := tbRow_get P n i k (j + 1) q x h
        rw [this, show j + 1 + q = j + (q + 1) by omega]
    · simp at h

theorem tbAll_get (P : Program) (n : Nat) : ∀ (k i q : Nat) (r : List (Option TI)), (tbAll P n i k)[q]? = some r → r = tbRow P n (i + q) 0 16
  | 0, i, q, r, h => by simp [tbAll] at h
  | k + 1, i, q, r, h => by
    simp only [tbAll] at h
    cases q with
    | zero => simp at h; exact h.symm
    | succ q =>
      simp at h
      have := tbAll_get P n k (i + 1) q r h
      rw [this, show i + 1 + q = i + (q + 1) by omega]

theorem tbT_ok {P : Program} {tb : List (List (Option TI))} (_c m n : Nat) (h : tb = tbAll P n 0 m) : TOk P (tbT tb) := by
  intro t i ht
  unfold tbT at ht
  split at ht
  · rename_i r hr
    split at ht
    · rename_i i' hi
      simp at ht; subst ht
      rw [h] at hr
      have h1 := tbAll_get _ _ _ _ _ _ hr
      subst h1
      have h2 := tbRow_get _ _ _ _ _ _ _ hi
      rw [h2, show 16 * (0 + t / 16) + (0 + t % 16) = t by omega]
    · simp at ht
  · simp at ht
end Go.Sx
