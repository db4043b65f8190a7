/- This file proves nothing of the program: the evaluator's regions with an open order, statements, loops, deferred calls and functions. -/
import Derived.Test.YtanfoijdfcnpoaaGreatDoorEvB
set_option linter.unusedVariables false
namespace Go.Proofs.YtanfoijdfcnpoaaGreatDoor.Ev

section
variable {S : Sig} (P : Program) (L : Lay S) (call : CallT S) {ρ : Type}

/-- The slots that an operation takes. -/
def rawTmps (tk : Bool) (o : Oper) : List Nat :=
  match o.op with
  | .assign x | .box _ x | .store _ _ x => tmps [x]
  | .move x => if tk then tmps [x] else []
  | .call c =>
    match c.callee with
    | .builtin .append => tmps (c.args.toList.take 1)
    | .value _ => if tk then tmps c.args.toList else []
    | _ => []
  | _ => []

/-- The cells that an operation looks at (false), or may write (true). -/
def cellsOf (tk fl : Bool) (cid : Nat) (o : Oper) (st : St S) : List (Nat × Bool) :=
  match o.op with
  | .alloc _ | .box .. => [(cid, true)]
  | .load _ a =>
    match rd P L st 0 a with
    | some (.ptr c _) => [(c, tk)]
    | _ => []
  | .store _ a _ =>
    match rd P L st 0 a with
    | some (.ptr c _) => [(c, true)]
    | _ => []
  | .call c =>
    match c.callee with
    | .value f =>
      match rd P L st 0 f with
      | some (.fn (.func g) fst cap) =>
        match callArgs P L tk fl st fst cap c.argTypes.toList c.args.toList with
        | some args => (reachN st.mem.length st.mem (PV.ptrsL args).eraseDups).map fun c => (c, true)
        | none => []
      | _ => []
    | _ => []
  | _ => []

def depB (ops : Array Oper) : Nat → Nat → Nat → Bool
  | 0, _, _ => false
  | n + 1, i, j =>
    match ops[j]? with
    | some o => o.after.any fun e => Region.binds .any e && (e.on == i || depB ops n i e.on)
    | none => false

def clash (a b : List (Nat × Bool)) : Bool := a.any fun (c, w) => b.any fun (c', w') => c == c' && (w || w')

def disj (a b : List Nat) : Bool := a.all fun x => !b.contains x

/-- Nothing that may come before i, and has not come up yet, touches its slots. -/
def freeT (tk : Nat → Bool) (ops : Array Oper) (listed : Array Bool) (i : Nat) : Bool :=
  match ops[i]? with
  | none => false
  | some oi => (List.range ops.size).all fun j => j == i || listed.getD j true || match ops[j]? with
      | some oj => oj.after.any (fun e => Region.binds .any e && e.on == i) ||
          (oi.apart ops oj && (disj (rawTmps (tk i) oi) (oj.looksAt ops) && disj (rawTmps (tk j) oj) (oi.looksAt ops)))
      | none => true

def floatsAt (ops : Array Oper) (i : Nat) : Bool :=
  match ops[i]? with
  | some o => floats o.op
  | none => false

abbrev Seen := List (Nat × List (Nat × Bool))

def fpOf (tk fl : Nat → Bool) (ops : Array Oper) (i : Nat) (st : St S) : List (Nat × Bool) :=
  match ops[i]? with
  | some o => cellsOf P L (tk i) (fl i) (st.rb + cellsBefore ops.toList i) o st
  | none => []

def compat (ops : Array Oper) (ex : Seen) (i : Nat) (fp : List (Nat × Bool)) : Bool :=
  ex.all fun (y, f) => !clash f fp || depB ops ops.size y i

def written (ops : Array Oper) (t : Nat) : Bool := ops.any fun o => o.dst == some t

/-- A state in which a region was left by a panic: the region's own cells are gone, and what it writes is forgotten. -/
def St.left (st : St S) (ops : Array Oper) (base : Nat) : St S :=
  { st with
    slots := fun t => bif written ops t then .any else bif Nat.ble (maxL (st.slots t).ptrs) base then st.slots t else .any
    mem := (st.mem.take base).map fun | some v => some (v.map PV.norm1) | none => none }

/-- Nothing reaches the region's own cells. -/
def leftOk (np base : Nat) (p : PV S) (s : St S) : Bool := Nat.ble np base && decide (maxL (p.ptrs ++ (ptrsMem s.mem ++ s.dfs.flatMap fun d => PV.ptrsL d.2)) ≤ base)

def drawK (tk fl : Nat → Bool) (ops : Array Oper) (np base : Nat) : Nat → Array Bool → Seen → St S → (Ex S → St S → Option ρ) → Option ρ
  | 0, listed, ex, st, K => if Region.ready .any ops listed = [] then K .normal st else none
  | n + 1, listed, ex, st, K =>
    match (Region.ready .any ops listed).find? (fun i => floatsAt ops i && freeT tk ops listed i) with
    | some i =>
      cond (compat ops ex i (fpOf P L tk fl ops i st))
        (opG P L call (tk i) (fl i) ops i st fun st1 out => match out with
          | .ok e => cond (fits st.nt e.w) (drawK tk fl ops np base n (listed.setIfInBounds i true) ((i, fpOf P L tk fl ops i st) :: ex) (e.apply st1) K) none
          | .pan _ _ => none) none
    | none =>
      match Region.ready .any ops listed with
      | [] => K .normal st
      | [i] =>
        cond (compat ops ex i (fpOf P L tk fl ops i st))
          (opG P L call (tk i) (fl i) ops i st fun st1 out => match out with
            | .ok e => cond (fits st.nt e.w) (drawK tk fl ops np base n (listed.setIfInBounds i true) ((i, fpOf P L tk fl ops i st) :: ex) (e.apply st1) K) none
            | .pan p e => cond (leftOk np base p ((st1.panned e).left ops base)) (K (.pan p) ((st1.panned e).left ops base)) none) none
      | _ => none

def nCells (ops : Array Oper) : Nat := (ops.toList.filter fun o => makesCell o.op).length

def regionK (H : Hints) (f : FuncId) (np : Nat) (id : Nat) (ops : Array Oper) (draw : Bool) (st : St S) (K : Ex S → St S → Option ρ) : Option ρ :=
  let st := keepOnly np st (H.keep f id)
  let st' := reserve st (nCells ops)
  if draw then drawK P L call (H.take f id) (H.full f id) ops np st.mem.length ops.size (Array.replicate ops.size false) [] st' K
  else opsK P L call (H.take f id) (H.full f id) ops (List.range ops.size) st' K

/-- The first region of a text. -/
def headOf : Code → Option Nat
  | .region id _ _ => some id
  | .seq a b => match headOf a with | some i => some i | none => headOf b
  | .block _ c => headOf c
  | .loop c => headOf c
  | _ => none

/-- The loops' bodies in a text. -/
def loopsOf : Code → List Code
  | .seq a b => loopsOf a ++ loopsOf b
  | .cond _ a b => loopsOf a ++ loopsOf b
  | .block _ c => loopsOf c
  | .loop c => c :: loopsOf c
  | .scope c => loopsOf c
  | _ => []

/-- What loops come to: of a function, with so many cells before it, by the first region, from a state. -/
abbrev LoopT (S : Sig) := ∀ ρ : Type, FuncId → Nat → Nat → St S → (Ex S → St S → Option ρ) → Option ρ

def dirL (LT : LoopT S) (f np key : Nat) (st : St S) : Option (Ex S × St S) := LT _ f np key st fun e s => some (e, s)

class NaturalL (LT : LoopT S) : Prop where
  nat : ∀ (ρ : Type) (f np key : Nat) (st : St S) (K : Ex S → St S → Option ρ), LT ρ f np key st K = (dirL LT f np key st).bind fun q => K q.1 q.2

variable (LT : LoopT S)

def evK (H : Hints) (f : FuncId) (np : Nat) : Code → St S → (Ex S → St S → Option ρ) → Option ρ
  | .skip, st, K => K .normal st
  | .label _, st, K => K .normal st
  | .region id ops draw, st, K => regionK P L call H f np id ops draw st K
  | .seq a b, st, K => evK H f np a st fun e st => match e with | .normal => evK H f np b st K | e => K e st
  | .cond c a b, st, K =>
    match rdB st c with
    | some t => cond t (evK H f np a st K) (evK H f np b st K)
    | none => none
  | .block id c, st, K => evK H f np c st fun e st => match e with
      | .exit i => cond (Nat.beq i id) (K .normal st) (K (.exit i) st)
      | e => K e st
  | .loop c, st, K =>
    match headOf c with
    | some key => LT ρ f np key st K
    | none => none
  | .exit id, st, K => K (.exit id) st
  | .ret, st, K => K .ret st
  | .scope c, st, K => evK H f np c st K
  | .rangeFunc .., _, _ | .goto _, _, _ | .refuse _, _, _ => none

def resItem (st : St S) : ResultVar → Option (PV S)
  | .tmp t => some (st.slots t)
  | .cell a t =>
    match st.slots a with
    | .ptr c 0 =>
      match cellAt st.mem c, szT P t with
      | some cs, some n =>
        if n = cs.length then
          match aggT P t, cs with
          | some true, cs => some (.agg (cs.map PV.strip))
          | some false, [p] => some p.strip
          | _, _ => none
        else none
      | _, _ => none
    | _ => none

/-- What is returned, read off the slots and cells. -/
def resultsE (rf : Bool) (fn : Func) (st : St S) : Option (PV S) :=
  match fn.results.toList.mapM (resItem P st) with
  | none => none
  | some [p] => if rf then some p else some (match p with | .own k l => .own k l | p => p.norm)
  | some ps => some (.tup (ps.map PV.norm))

/-- The deferred calls: of each the evaluator is told what it does to the cells that it reaches, and to a panic. -/
abbrev DeferT (S : Sig) := FuncId → List (PV S) → Mem S → Option (PV S) → Option (Option (PV S) × Mem S)

def noPtr : Option (PV S) → Bool
  | none => true
  | some p => p.ptrs.isEmpty

/-- A deferred call, with the cells that its arguments reach, and no others. -/
def deferC (D : DeferT S) (f : FuncId) (args : List (PV S)) (u : Option (PV S)) (m : Mem S) : Option (Option (PV S) × Mem S) :=
  let cs := reachN m.length m (PV.ptrsL args).eraseDups
  if closedB m cs args = true ∧ noPtr u = true then
    match locMem m cs with
    | none => none
    | some lm =>
      match D f (PV.renL (idx cs) args) lm u with
      | none => none
      | some (u', m') =>
        match someAll (m'.take cs.length) with
        | none => none
        | some now =>
          if now.length = cs.length ∧ noPtr u' = true then some (u', setL m (cs.zip (now.map (PV.renL (back cs m.length)))) ++ backMem cs m.length (m'.drop cs.length)) else none
  else none

def defersE (D : DeferT S) : List (FuncId × List (PV S)) → Option (PV S) → Mem S → Option (Option (PV S) × Mem S)
  | [], u, m => some (u, m)
  | (f, args) :: r, u, m =>
    bif Nat.beq f markId then none else
    match deferC D f args u m with
    | some (u', m') => defersE D r u' m'
    | none => none

/-- The cells behind the first np ones are dropped, if nothing reaches them. -/
def trim (np : Nat) (p : PV S) (m : Mem S) : Mem S :=
  if maxL p.ptrs ≤ np ∧ maxL (ptrsMem (m.take np)) ≤ np then m.take np else m

def finishE (rf : Bool) (D : DeferT S) (fn : Func) (np : Nat) (e : Ex S) (st : St S) : Option (Res S × Mem S) :=
  match e with
  | .normal | .ret =>
    match st.dfs with
    | [] => (resultsE P rf fn st).map fun p => (.ret p, trim np p st.mem)
    | ds =>
      match defersE D ds none st.mem with
      | some (none, m) => (resultsE P rf fn { st with slots := fun t => (st.slots t).strip, mem := m }).map fun p => (.ret p, trim np p m)
      | _ => none
  | .pan p =>
    match st.dfs with
    | [] => some (.pan p, trim np p st.mem)
    | ds =>
      match defersE D ds (some p) st.mem with
      | some (none, m) => (resultsE P rf fn { st with slots := fun t => (st.slots t).strip, mem := m }).map fun p => (.ret p, trim np p m)
      | some (some q, m) => some (.pan q, trim np q m)
      | none => none
  | .exit _ => none

def startE (fn : Func) (args : List (PV S)) (m : Mem S) : St S :=
  { slots := fun i => if i < args.length then args.getD i .any else .any, mem := m, dfs := [], nt := fn.ntmps, rb := m.length }

def evF (H : Hints) (D : DeferT S) (f : FuncId) (args : List (PV S)) (m : Mem S) (F : Res S × Mem S → Option ρ) : Option ρ :=
  match P.funcs[f]? with
  | none => none
  | some fn =>
    match fn.body with
    | none => none
    | some c =>
      if args.length ≤ fn.ntmps then
        evK P L call LT H f m.length c (startE fn args m) fun e st =>
          match finishE P (H.ret f) D fn m.length e st with
          | some q => F q
          | none => none
      else none

end
end Go.Proofs.YtanfoijdfcnpoaaGreatDoor.Ev
