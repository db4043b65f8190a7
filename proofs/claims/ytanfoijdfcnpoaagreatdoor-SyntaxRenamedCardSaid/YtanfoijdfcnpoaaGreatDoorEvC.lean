/- This file proves nothing of the program: the evaluator's regions with an open order, statements, loops, deferred calls and functions. -/
import Derived.Test.YtanfoijdfcnpoaaGreatDoorEvB
set_option linter.unusedVariables false
namespace Go.Proofs.YtanfoijdfcnpoaaGreatDoor.Ev

section
variable {S : Sig} (P : Program) (L : Lay S) (call : CallT S) {ρ : Type}

/-- The slots that an operation takes. -/
def rawTmps (tk : Bool) (o : Oper) : List Nat :=
  match o.op with
  | .assign x | .box _ x | .store _ _ x => tmps [x]
  | .move x => if tk then tmps [x] else []
  | .call c =>
    match c.callee with
    | .builtin .append => tmps (c.args.toList.take 1)
    | .value _ => if tk then tmps c.args.toList else []
    | _ => []
  | _ => []

/-- The cells that an operation looks at (false), or may write (true). -/
def cellsOf (tk fl : Bool) (cid : Nat) (o : Oper) (st : St S) : List (Nat × Bool) :=
  match o.op with
  | .alloc _ | .box .. | .makeMap .. => [(cid, true)]
  | .buildSlice .. => if tk then [(cid, true)] else []
  | .insert t m _ _ | .mapUpdate t m _ _ =>
    match rd P L st t m with
    | some (.mp c) => [(c, true)]
    | _ => []
  | .lookup t m _ _ =>
    match rd P L st t m with
    | some (.mp c) => [(c, false)]
    | _ => []
  | .load _ a =>
    match rd P L st 0 a with
    | some (.ptr c _) => [(c, tk)]
    | _ => []
  | .store _ a _ =>
    match rd P L st 0 a with
    | some (.ptr c _) => [(c, true)]
    | _ => []
  | .call c =>
    match c.callee with
    | .value f =>
      match rd P L st 0 f with
      | some (.fn (.func g) fst cap) =>
        match callArgs P L tk fl st fst cap c.argTypes.toList c.args.toList with
        | some args => (reachN st.mem.length st.mem (PV.ptrsL args).eraseDups).map fun c => (c, true)
        | none => []
      | _ => []
    | .builtin .delete =>
      match c.argTypes.toList, c.args.toList with
      | t :: _, m :: _ =>
        match rd P L st t m with
        | some (.mp c) => [(c, true)]
        | _ => []
      | _, _ => []
    | _ => []
  | _ => []

def depB (ops : Array Oper) : Nat → Nat → Nat → Bool
  | 0, _, _ => false
  | n + 1, i, j =>
    match ops[j]? with
    | some o => o.after.any fun e => Region.binds .any e && (e.on == i || depB ops n i e.on)
    | none => false

def clash (a b : List (Nat × Bool)) : Bool := a.any fun (c, w) => b.any fun (c', w') => c == c' && (w || w')

def disj (a b : List Nat) : Bool := a.all fun x => !b.contains x

/-- Nothing that may come before i, and has not come up yet, touches its slots. -/
def freeT (tk : Nat → Bool) (ops : Array Oper) (listed : Array Bool) (i : Nat) : Bool :=
  match ops[i]? with
  | none => false
  | some oi => (List.range ops.size).all fun j => j == i || listed.getD j true || match ops[j]? with
      | some oj => oj.after.any (fun e => Region.binds .any e && e.on == i) ||
          (oi.apart ops oj && (disj (rawTmps (tk i) oi) (oj.looksAt ops) && disj (rawTmps (tk j) oj) (oi.looksAt ops)))
      | none => true

def floatsAt (ops : Array Oper) (i : Nat) : Bool :=
  match ops[i]? with
  | some o => floats o.op
  | none => false

abbrev Seen := List (Nat × List (Nat × Bool))

def fpOf (tk fl : Nat → Bool) (ops : Array Oper) (i : Nat) (st : St S) : List (Nat × Bool) :=
  match ops[i]? with
  | some o => cellsOf P L (tk i) (fl i) (st.rb + cellsBefore ops.toList i) o st
  | none => []

/-- Whether an operation is an insertion of a key into a set. -/
def insB (ops : Array Oper) (i : Nat) : Bool :=
  match ops[i]? with
  | some o => match o.op with | .insert _ _ _ (.const (.bool true)) => true | _ => false
  | none => false

/-- An operation that looks at no cell that is there. -/
def blindOp : Op → Bool
  | .move _ | .assign _ | .build .. | .box .. => true
  | _ => false

/-- Two insertions that are ready, each of which may come first, and nothing but blind operations left. -/
def pairB (ops : Array Oper) (listed : Array Bool) (i j : Nat) : Bool :=
  match ops[i]?, ops[j]? with
  | some oi, some oj =>
    insB ops i && (insB ops j && (oi.guard.isNone && (oj.guard.isNone && (oi.dst.isNone && (oj.dst.isNone && (!Nat.beq i j &&
      (Region.ready .any ops (listed.setIfInBounds i true) == [j] && (Region.ready .any ops (listed.setIfInBounds j true) == [i] &&
      (List.range ops.size).all fun k => Nat.beq k i || (Nat.beq k j || (listed.getD k false || match ops[k]? with | some o => blindOp o.op && o.guard.isNone | none => true))))))))))
  | _, _ => false

/-- The map that an insertion goes to. -/
def insAt (ops : Array Oper) (st : St S) (i : Nat) : Option Nat :=
  match ops[i]? with
  | some o =>
    match o.op with
    | .insert t m _ _ => match rd P L st t m with | some (.mp c) => some c | _ => none
    | _ => none
  | none => none

def sameAt (a b : Option Nat) : Bool :=
  match a, b with
  | some c, some d => Nat.beq c d
  | _, _ => false

def compat (ops : Array Oper) (ex : Seen) (i : Nat) (fp : List (Nat × Bool)) : Bool :=
  ex.all fun (y, f) => !clash f fp || (depB ops ops.size y i || (insB ops y && insB ops i))

def written (ops : Array Oper) (t : Nat) : Bool := ops.any fun o => o.dst == some t

/-- A state in which a region was left by a panic: the region's own cells are gone, and what it writes is forgotten. -/
def St.left (st : St S) (ops : Array Oper) (base : Nat) : St S :=
  { st with
    slots := fun t => bif written ops t then .any else bif Nat.ble (maxL (st.slots t).ptrs) base then st.slots t else .any
    mem := (st.mem.take base).map fun | some v => some (v.map PV.norm1) | none => none }

/-- Nothing reaches the region's own cells. -/
def leftOk (np base : Nat) (p : PV S) (s : St S) : Bool := Nat.ble np base && decide (maxL (p.ptrs ++ (ptrsMem s.mem ++ s.dfs.flatMap fun d => PV.ptrsL d.2)) ≤ base)

def drawK (tk fl : Nat → Bool) (ops : Array Oper) (np base : Nat) : Nat → Array Bool → Seen → St S → (Ex S → St S → Option ρ) → Option ρ
  | 0, listed, ex, st, K => if Region.ready .any ops listed = [] then K .normal st else none
  | n + 1, listed, ex, st, K =>
    match (Region.ready .any ops listed).find? (fun i => floatsAt ops i && freeT tk ops listed i) with
    | some i =>
      cond (compat ops ex i (fpOf P L tk fl ops i st))
        (opG P L call (tk i) (fl i) ops i st fun st1 out => match out with
          | .ok e => cond (fits st.nt e.w) (drawK tk fl ops np base n (listed.setIfInBounds i true) ((i, fpOf P L tk fl ops i st) :: ex) (e.apply st1) K) none
          | .pan _ _ => none) none
    | none =>
      match Region.ready .any ops listed with
      | [] => K .normal st
      | [i] =>
        cond (compat ops ex i (fpOf P L tk fl ops i st))
          (opG P L call (tk i) (fl i) ops i st fun st1 out => match out with
            | .ok e => cond (fits st.nt e.w) (drawK tk fl ops np base n (listed.setIfInBounds i true) ((i, fpOf P L tk fl ops i st) :: ex) (e.apply st1) K) none
            | .pan p e => cond (leftOk np base p ((st1.panned e).left ops base)) (K (.pan p) ((st1.panned e).left ops base)) none) none
      | [i, j] =>
        match n with
        | 0 => none
        | n + 1 =>
          cond (pairB ops listed i j && (sameAt (insAt P L ops st i) (insAt P L ops st j) && (compat ops ex i (fpOf P L tk fl ops i st) && compat ops ex j (fpOf P L tk fl ops j st))))
            (opG P L call (tk i) (fl i) ops i st fun st1 out => match out with
              | .ok e => opG P L call (tk j) (fl j) ops j (e.apply st1) fun st2 out2 => match out2 with
                | .ok e2 => drawK tk fl ops np base n ((listed.setIfInBounds i true).setIfInBounds j true) ((j, fpOf P L tk fl ops j st) :: (i, fpOf P L tk fl ops i st) :: ex) (e2.apply st2) K
                | .pan _ _ => none
              | .pan _ _ => none) none
      | _ => none

def nCells (ops : Array Oper) : Nat := (ops.toList.filter fun o => makesCell o.op).length

def regionK (H : Hints) (f : FuncId) (np : Nat) (id : Nat) (ops : Array Oper) (draw : Bool) (st : St S) (K : Ex S → St S → Option ρ) : Option ρ :=
  let st := keepOnly np st (H.keep f id)
  let st' := reserve st (nCells ops)
  if draw then drawK P L call (H.take f id) (H.full f id) ops np st.mem.length ops.size (Array.replicate ops.size false) [] st' K
  else opsK P L call (H.take f id) (H.full f id) ops (List.range ops.size) st' K

/-- The first region of a text. -/
def headOf : Code → Option Nat
  | .region id _ _ => some id
  | .seq a b => match headOf a with | some i => some i | none => headOf b
  | .block _ c => headOf c
  | .loop c => headOf c
  | _ => none

/-- The loops' bodies in a text. -/
def loopsOf : Code → List Code
  | .seq a b => loopsOf a ++ loopsOf b
  | .cond _ a b => loopsOf a ++ loopsOf b
  | .block _ c => loopsOf c
  | .loop c => c :: loopsOf c
  | .scope c => loopsOf c
  | _ => []

/-- What loops come to: of a function, with so many cells before it, by the first region, from a state. -/
abbrev LoopT (S : Sig) := ∀ ρ : Type, FuncId → Nat → Nat → St S → (Ex S → St S → Option ρ) → Option ρ

def dirL (LT : LoopT S) (f np key : Nat) (st : St S) : Option (Ex S × St S) := LT _ f np key st fun e s => some (e, s)

class NaturalL (LT : LoopT S) : Prop where
  nat : ∀ (ρ : Type) (f np key : Nat) (st : St S) (K : Ex S → St S → Option ρ), LT ρ f np key st K = (dirL LT f np key st).bind fun q => K q.1 q.2

/-! ### A range over a map that copies it into another one -/

structure CopyI where
  ty : TypeId
  src : Nat
  dst : Nat
  junk : List Nat

def opMove (o : Oper) : Option (Nat × Nat) :=
  match o.op, o.dst, o.guard with
  | .move (.tmp x), some d, none => some (d, x)
  | _, _, _ => none
def opAssign (o : Oper) : Option (Nat × Nat) :=
  match o.op, o.dst, o.guard with
  | .assign (.tmp x), some d, none => some (d, x)
  | _, _, _ => none
def opRange (o : Oper) : Option (Nat × TypeId × Nat) :=
  match o.op, o.dst, o.guard with
  | .range t (.tmp x), some d, none => some (d, t, x)
  | _, _, _ => none
def opNext (o : Oper) : Option (Nat × Nat) :=
  match o.op, o.dst, o.guard with
  | .next (.tmp x) false, some d, none => some (d, x)
  | _, _, _ => none
def opEntry (o : Oper) : Option (Nat × Nat) :=
  match o.op, o.dst, o.guard with
  | .entry (.tmp x), some d, none => some (d, x)
  | _, _, _ => none
def opExtract (o : Oper) : Option (Nat × Nat × Nat) :=
  match o.op, o.dst, o.guard with
  | .extract (.tmp x) i, some d, none => some (d, x, i)
  | _, _, _ => none
def opUpdate (o : Oper) : Option (TypeId × Nat × Nat × Nat) :=
  match o.op, o.dst, o.guard with
  | .mapUpdate t (.tmp m) (.tmp k) (.tmp v), none, none => some (t, m, k, v)
  | _, _, _ => none

def nodupN : List Nat → Bool
  | [] => true
  | x :: r => r.all (fun y => !Nat.beq x y) && nodupN r

/-- The operations of a range over a map that is copied: the range itself; the step; the entry; the copying. -/
def copyOps (oA oB oC oD : List Oper) (tc : Nat) : Option CopyI :=
  match oA, oB, oC, oD with
  | [a1, a2], [b1, b2], [c1, c2, c3, c4, c5], [d1, d2, d3, d4] =>
    match opMove a1, opRange a2, opNext b1, opExtract b2 with
    | some (dA, src), some (it, ty, xA), some (nx, x1), some (ok, x2, i2) =>
      match opEntry c1, opExtract c2, opExtract c3, opAssign c4, opAssign c5 with
      | some (en, x3), some (k0, x4, i4), some (v0, x5, i5), some (k1, x6), some (v1, x7) =>
        match opMove d1, opMove d2, opMove d3, opUpdate d4 with
        | some (m2, dst), some (k2, x8), some (v2, x9), some (ty', x10, x11, x12) =>
          if xA = dA ∧ x1 = it ∧ x2 = nx ∧ i2 = 0 ∧ tc = ok ∧ x3 = it ∧ x4 = en ∧ i4 = 0 ∧ x5 = en ∧ i5 = 1 ∧ x6 = k0 ∧ x7 = v0 ∧ x8 = k1 ∧ x9 = v1 ∧ ty' = ty ∧ x10 = m2 ∧ x11 = k2 ∧ x12 = v2 ∧ nodupN [dst, src, dA, it, nx, ok, en, k0, v0, k1, v1, m2, k2, v2] = true
          then some ⟨ty, src, dst, [dA, it, nx, ok, en, k0, v0, k1, v1, m2, k2, v2]⟩ else none
        | _, _, _, _ => none
      | _, _, _, _, _ => none
    | _, _, _, _ => none
  | _, _, _, _ => none

def copyOf (a b : Code) : Option CopyI :=
  match a, b with
  | .region _ oA false, .block bA (.loop (.seq (.region _ oB false) (.seq (.cond (.tmp tc) .skip (.exit bE)) (.block _ (.seq (.region _ oC false) (.region _ oD false)))))) =>
    if bE = bA then copyOps oA.toList oB.toList oC.toList oD.toList tc else none
  | _, _ => none

/-- A map, and what another one had. -/
def mcopy {α : Type} (l l2 : List (ByteArray × α)) : List (ByteArray × α) := l.foldl (fun r x => mset r x.1 x.2) l2

def St.copied (st : St S) (i : CopyI) (d : Nat) (l : List (ByteArray × ByteArray)) : St S :=
  { st with slots := fun t => bif i.junk.any (Nat.beq t) then .any else st.slots t, mem := st.mem.set d (some [.mpo (.s l)]) }

/-- What is copied has no more than one entry. -/
def copyK (i : CopyI) (st : St S) (K : Ex S → St S → Option ρ) : Option ρ :=
  match emptyM P L i.ty, st.slots i.dst, i.junk.all (fun t => Nat.blt t st.nt) with
  | some (.s [], _, _), .mp d, true =>
    match cellAt st.mem d, st.slots i.src with
    | some [.mpo (.s l2)], .nilmp => K .normal (st.copied i d l2)
    | some [.mpo (.s l2)], .mp c =>
      match cellAt st.mem c, Nat.beq c d with
      | some [.mpo (.s l)], false => cond (decide (l.length ≤ 1)) (K .normal (st.copied i d (mcopy l l2))) none
      | _, _ => none
    | _, _ => none
  | _, _, _ => none

variable (LT : LoopT S)

def evK (H : Hints) (f : FuncId) (np : Nat) : Code → St S → (Ex S → St S → Option ρ) → Option ρ
  | .skip, st, K => K .normal st
  | .label _, st, K => K .normal st
  | .region id ops draw, st, K => regionK P L call H f np id ops draw st K
  | .seq a b, st, K => match copyOf a b with
    | some i => copyK P L i st K
    | none => evK H f np a st fun e st => match e with | .normal => evK H f np b st K | e => K e st
  | .cond c a b, st, K =>
    match rdB st c with
    | some t => cond t (evK H f np a st K) (evK H f np b st K)
    | none => none
  | .block id c, st, K => evK H f np c st fun e st => match e with
      | .exit i => cond (Nat.beq i id) (K .normal st) (K (.exit i) st)
      | e => K e st
  | .loop c, st, K =>
    match headOf c with
    | some key => LT ρ f np key st K
    | none => none
  | .exit id, st, K => K (.exit id) st
  | .ret, st, K => K .ret st
  | .scope c, st, K => evK H f np c st K
  | .rangeFunc .., _, _ | .goto _, _, _ | .refuse _, _, _ => none

def resItem (st : St S) : ResultVar → Option (PV S)
  | .tmp t => some (st.slots t)
  | .cell a t =>
    match st.slots a with
    | .ptr c 0 =>
      match cellAt st.mem c, szT P t with
      | some cs, some n =>
        if n = cs.length ∧ noMap cs = true then
          match aggT P t, cs with
          | some true, cs => some (.agg (cs.map PV.strip))
          | some false, [p] => some p.strip
          | _, _ => none
        else none
      | _, _ => none
    | _ => none

/-- What is returned, read off the slots and cells. -/
def resultsE (rf : Bool) (fn : Func) (st : St S) : Option (PV S) :=
  match fn.results.toList.mapM (resItem P st) with
  | none => none
  | some [p] => if rf then some p else some (match p with | .own k l => .own k l | p => p.norm)
  | some ps => some (.tup (ps.map PV.norm))

/-- The deferred calls: of each the evaluator is told what it does to the cells that it reaches, and to a panic. -/
abbrev DeferT (S : Sig) := FuncId → List (PV S) → Mem S → Option (PV S) → Option (Option (PV S) × Mem S)

def noPtr : Option (PV S) → Bool
  | none => true
  | some p => p.ptrs.isEmpty

/-- A deferred call, with the cells that its arguments reach, and no others. -/
def deferC (D : DeferT S) (f : FuncId) (args : List (PV S)) (u : Option (PV S)) (m : Mem S) : Option (Option (PV S) × Mem S) :=
  let cs := reachN m.length m (PV.ptrsL args).eraseDups
  if closedB m cs args = true ∧ noPtr u = true then
    match locMem m cs with
    | none => none
    | some lm =>
      match D f (PV.renL (idx cs) args) lm u with
      | none => none
      | some (u', m') =>
        match someAll (m'.take cs.length) with
        | none => none
        | some now =>
          if now.length = cs.length ∧ noPtr u' = true then some (u', setL m (cs.zip (now.map (PV.renL (back cs m.length)))) ++ backMem cs m.length (m'.drop cs.length)) else none
  else none

def defersE (D : DeferT S) : List (FuncId × List (PV S)) → Option (PV S) → Mem S → Option (Option (PV S) × Mem S)
  | [], u, m => some (u, m)
  | (f, args) :: r, u, m =>
    bif Nat.beq f markId then none else
    match deferC D f args u m with
    | some (u', m') => defersE D r u' m'
    | none => none

/-- The cells behind the first np ones are dropped, if nothing reaches them. -/
def trim (np : Nat) (p : PV S) (m : Mem S) : Mem S :=
  if maxL p.ptrs ≤ np ∧ maxL (ptrsMem (m.take np)) ≤ np then m.take np else m

/-- The elements of a slice whose variables are the evaluator's own. -/
def elsOf (k : S.K) : Nat → List (PV S) → Option (List (S.El k))
  | 0, [] => some []
  | 0, _ :: _ => none
  | n + 1, cs =>
    match dvs (cs.take (L.sz k)), elsOf k n (cs.drop (L.sz k)) with
    | some ds, some r =>
      match L.mkE k ds with
      | some x => some (x :: r)
      | none => none
    | _, _ => none

def unlo (m : Mem S) : PV S → Option (PV S × Nat)
  | .agg [x, y, .lo k c n] =>
    match cellAt m c with
    | some cs =>
      match elsOf L k n cs with
      | some l => some (.agg [x, y, .d (.sl k l)], c)
      | none => none
    | none => none
  | _ => none

def hasLo : PV S → Bool
  | .agg [_, _, .lo _ _ _] => true
  | _ => false

/-- What is returned: a slice whose variables are the evaluator's own becomes a plain one. -/
def retE (np : Nat) (p : PV S) (m : Mem S) : Option (Res S × Mem S) :=
  match hasLo p with
  | true =>
    match unlo L m p with
    | some (q, c) => if np ≤ c ∧ maxL q.ptrs ≤ np ∧ maxL (ptrsMem (m.take np)) ≤ np then some (.ret q, m.take np) else none
    | none => none
  | false => some (.ret p, trim np p m)

def finishE (rf : Bool) (D : DeferT S) (fn : Func) (np : Nat) (e : Ex S) (st : St S) : Option (Res S × Mem S) :=
  match e with
  | .normal | .ret =>
    match st.dfs with
    | [] => (resultsE P rf fn st).bind fun p => retE L np p st.mem
    | ds =>
      match defersE D ds none st.mem with
      | some (none, m) => (resultsE P rf fn { st with slots := fun t => (st.slots t).strip, mem := m }).map fun p => (.ret p, trim np p m)
      | _ => none
  | .pan p =>
    match st.dfs with
    | [] => some (.pan p, trim np p st.mem)
    | ds =>
      match defersE D ds (some p) st.mem with
      | some (none, m) => (resultsE P rf fn { st with slots := fun t => (st.slots t).strip, mem := m }).map fun p => (.ret p, trim np p m)
      | some (some q, m) => some (.pan q, trim np q m)
      | none => none
  | .exit _ => none

def startE (fn : Func) (args : List (PV S)) (m : Mem S) : St S :=
  { slots := fun i => if i < args.length then args.getD i .any else .any, mem := m, dfs := [], nt := fn.ntmps, rb := m.length }

def evF (H : Hints) (D : DeferT S) (f : FuncId) (args : List (PV S)) (m : Mem S) (F : Res S × Mem S → Option ρ) : Option ρ :=
  match P.funcs[f]? with
  | none => none
  | some fn =>
    match fn.body with
    | none => none
    | some c =>
      if args.length ≤ fn.ntmps then
        evK P L call LT H f m.length c (startE fn args m) fun e st =>
          match finishE P L (H.ret f) D fn m.length e st with
          | some q => F q
          | none => none
      else none

end
end Go.Proofs.YtanfoijdfcnpoaaGreatDoor.Ev
