/- This file proves nothing of the program: it defines a deterministic evaluator of the model's code over plain values (numbers, strings, lists), which later files show sound. -/
import Derived.Calls
import Derived.Orders
set_option linter.unusedVariables false

namespace Go.Proofs.YtanfoijdfcnpoaaGreatDoor.Ev

structure Sig where
  K : Type
  dec : DecidableEq K
  El : K → Type

instance (S : Sig) : DecidableEq S.K := S.dec

inductive DV (S : Sig) : Type
  | bool (b : Bool)
  | int (k : IntKind) (n : Int)
  | str (s : ByteArray)
  | sl (t : S.K) (l : List (S.El t))

structure Lay (S : Sig) where
  cells : ∀ t, S.El t → List (DV S)
  mkE : ∀ t, List (DV S) → Option (S.El t)
  sz : S.K → Nat
  dflt : ∀ t, S.El t
  key : TypeId → Option S.K
  mk_cells : ∀ t cs x, mkE t cs = some x → cells t x = cs
  len : ∀ t x, (cells t x).length = sz t
  /-- The blocks of variables of the program's own that stay, and what they hold. -/
  fixB : Nat → Bool := fun _ => false
  fixOk : Nat → Obj → Prop := fun _ _ => True

/-- What a map holds, in the order of its entries. -/
inductive MapC : Type
  | b (l : List (ByteArray × Bool))
  | s (l : List (ByteArray × ByteArray))

inductive PV (S : Sig) : Type
  | d (x : DV S)
  | full (t : S.K) (l : List (S.El t))
  | own (t : S.K) (l : List (S.El t))
  | ptr (c o : Nat)
  | dp (t : S.K) (x : S.El t) (o : Nat)
  | nilp
  | fn (f : Fn) (fst cap : List (PV S))
  | nilfn
  | iface (t : TypeId) (x : PV S)
  | nilif
  | agg (l : List (PV S))
  | tup (l : List (PV S))
  | bot
  | any
  | mp (c : Nat)
  | lo (k : S.K) (c n : Nat)
  | nilmp
  | mpo (x : MapC)

section
variable {S : Sig}

def PV.strip : PV S → PV S
  | .own k l => .d (.sl k l)
  | p => p

def PV.norm1 : PV S → PV S
  | .own k l => .d (.sl k l)
  | .full k l => .d (.sl k l)
  | p => p

def PV.norm : PV S → PV S
  | .own k l => .d (.sl k l)
  | .full k l => .d (.sl k l)
  | .agg l => .agg (l.map PV.norm1)
  | p => p

def PV.dv? : PV S → Option (DV S)
  | .d x => some x
  | .own k l => some (.sl k l)
  | .full k l => some (.sl k l)
  | _ => none

def PV.cells : PV S → List (PV S)
  | .agg l => l
  | p => [p]

/-- The cells of a value that is stored. -/
def PV.toCells : PV S → List (PV S)
  | .agg l => l.map PV.strip
  | p => [p]

/-- A value of one cell. -/
def PV.one : PV S → Bool
  | .agg _ | .tup _ | .bot | .any | .mpo _ => false
  | _ => true

mutual
def PV.ptrs : PV S → List Nat
  | .ptr c _ => [c]
  | .mp c => [c]
  | .lo _ c _ => [c]
  | .fn _ a b => PV.ptrsL a ++ PV.ptrsL b
  | .iface _ x => x.ptrs
  | .agg l => PV.ptrsL l
  | .tup l => PV.ptrsL l
  | _ => []
def PV.ptrsL : List (PV S) → List Nat
  | [] => []
  | p :: r => p.ptrs ++ PV.ptrsL r
end

mutual
def PV.ren (f : Nat → Nat) : PV S → PV S
  | .ptr c o => .ptr (f c) o
  | .mp c => .mp (f c)
  | .lo k c n => .lo k (f c) n
  | .fn g a b => .fn g (PV.renL f a) (PV.renL f b)
  | .iface t x => .iface t (x.ren f)
  | .agg l => .agg (PV.renL f l)
  | .tup l => .tup (PV.renL f l)
  | p => p
def PV.renL (f : Nat → Nat) : List (PV S) → List (PV S)
  | [] => []
  | p :: r => p.ren f :: PV.renL f r
end

/-- What a block of variables holds: nothing that is a map's inside. -/
def PV.plain : PV S → Bool
  | .mpo _ => false
  | _ => true
def noMap (ps : List (PV S)) : Bool := ps.all PV.plain

abbrev Mem (S : Sig) := List (Option (List (PV S)))

/-- A result: what is returned, or what a panic bears. -/
inductive Res (S : Sig) : Type
  | ret (p : PV S)
  | pan (p : PV S)

structure St (S : Sig) where
  slots : Nat → PV S
  mem : Mem S
  dfs : List (FuncId × List (PV S))
  nt : Nat
  rb : Nat

def upd (s : Nat → PV S) (i : Nat) (p : PV S) : Nat → PV S := fun j => bif Nat.beq j i then p else s j

structure Eff (S : Sig) where
  w : List (Nat × PV S) := []
  m : List (Nat × List (PV S)) := []
  g : Mem S := []
  df : List (FuncId × List (PV S)) := []

inductive Out (S : Sig) : Type
  | ok (e : Eff S)
  | pan (p : PV S) (e : Eff S)

def updL (s : Nat → PV S) : List (Nat × PV S) → Nat → PV S
  | [] => s
  | (i, p) :: r => updL (upd s i p) r

def setL (m : Mem S) : List (Nat × List (PV S)) → Mem S
  | [] => m
  | (c, v) :: r => setL (m.set c (some v)) r

def Eff.apply (e : Eff S) (st : St S) : St S :=
  { st with slots := updL st.slots e.w, mem := setL st.mem e.m ++ e.g, dfs := e.df ++ st.dfs }

/-- The cell c, if it is there. -/
def cellAt (m : Mem S) (c : Nat) : Option (List (PV S)) :=
  match m[c]? with
  | some (some v) => some v
  | _ => none

variable (P : Program) (L : Lay S)

def aggT (t : TypeId) : Option Bool :=
  match P.underlying t with
  | some (.struct _) | some (.array _ _) => some true
  | some _ => some false
  | none => none

def szT (t : TypeId) : Option Nat := (P.info? t).map (·.size)

/-- A cell of a constant, read at a type that is no struct. -/
def constCell (t : TypeDesc) (v : Value) : Option (PV S) :=
  match t, v with
  | .bool, .bool b => some (.d (.bool b))
  | .int k, .int k' n => if k = k' then some (.d (.int k n)) else none
  | .string, .string s => some (.d (.str s))
  | .pointer _, .pointer none => some .nilp
  | .func .., .nilFunc => some .nilfn
  | .interface _, .nilIface => some .nilif
  | .slice e, .slice none 0 0 => (L.key e).map fun k => .full k []
  | .map .., .map none => some .nilmp
  | _, _ => none

/-- The types of a type's cells. -/
def flat : Nat → TypeId → Option (List TypeDesc)
  | 0, _ => none
  | n + 1, t =>
    match P.underlying t with
    | some (.struct fs) => (fs.toList.mapM fun f => flat n f.type).map List.flatten
    | some (.array ..) => none
    | some d => some [d]
    | none => none

def constCells : List TypeDesc → List Value → Option (List (PV S))
  | [], [] => some []
  | t :: ts, v :: vs =>
    match constCell L t v, constCells ts vs with
    | some p, some r => some (p :: r)
    | _, _ => none
  | _, _ => none

/-- A constant, read at a type. -/
def constAt (t : TypeId) (v : Value) : Option (PV S) :=
  match v with
  | .agg cs =>
    match flat P 8 t with
    | some ts => (constCells L ts cs.toList).map .agg
    | none => none
  | v =>
    match P.underlying t with
    | some d => constCell L d v
    | none => none

def zeroCells (t : TypeId) : Option (List (PV S)) :=
  match (P.info? t).bind (·.zero), flat P 8 t with
  | some z, some ts => constCells L ts z.cells.toList
  | _, _ => none

/-- A type's zero value. -/
def zeroPV (t : TypeId) : Option (PV S) :=
  match (P.info? t).bind (·.zero) with
  | some z => constAt P L t z
  | none => none

/-- An operand as it stands (an owned slice stays one). -/
def rdRaw (st : St S) (t : TypeId) : Operand → Option (PV S)
  | .tmp i => some (st.slots i)
  | .const v => constAt P L t v
  | .func f => some (.fn (.func f) [] [])
  | .global _ => none

def rd (st : St S) (t : TypeId) (x : Operand) : Option (PV S) := (rdRaw P L st t x).map PV.strip

/-- What becomes of an operand that is taken. -/
def took (st : St S) : Operand → List (Nat × PV S)
  | .tmp i => [(i, (st.slots i).strip)]
  | _ => []

def wr (dst : Option Nat) (p : PV S) : List (Nat × PV S) :=
  match dst with
  | some d => [(d, p)]
  | none => []

def rdAll (st : St S) : List TypeId → List Operand → Option (List (PV S))
  | t :: ts, x :: xs =>
    match rd P L st t x, rdAll st ts xs with
    | some p, some r => some (p :: r)
    | _, _ => none
  | [], [] => some []
  | _, _ => none

def rdAllRaw (st : St S) : List TypeId → List Operand → Option (List (PV S))
  | t :: ts, x :: xs =>
    match rdRaw P L st t x, rdAllRaw st ts xs with
    | some p, some r => some (p :: r)
    | _, _ => none
  | [], [] => some []
  | _, _ => none

def tookAll (st : St S) : List Operand → List (Nat × PV S)
  | [] => []
  | x :: xs => took st x ++ tookAll st xs

def dvs : List (PV S) → Option (List (DV S))
  | [] => some []
  | p :: r =>
    match p.dv?, dvs r with
    | some x, some y => some (x :: y)
    | _, _ => none

/-- Replace the cells from o on. -/
def putAt (cs : List (PV S)) (o : Nat) (vs : List (PV S)) : List (PV S) := cs.take o ++ vs ++ cs.drop (o + vs.length)

def fillB (st : St S) (fs : List Field) : List (Nat × Operand) → List (PV S) → Option (List (PV S))
  | [], cs => some cs
  | (i, x) :: r, cs =>
    match fs[i]? with
    | some f =>
      match rd P L st f.type x, szT P f.type with
      | some p, some n =>
        if p.cells.length = n ∧ f.offset + n ≤ cs.length ∧ p.cells.all PV.one = true then fillB st fs r (putAt cs f.offset p.cells) else none
      | _, _ => none
    | none => none

def elsB (st : St S) (e : TypeId) (k : S.K) : Nat → List (Nat × Operand) → Option (List (S.El k))
  | _, [] => some []
  | n, (i, x) :: r =>
    if i = n then
      match rd P L st e x with
      | some p =>
        match dvs p.cells with
        | some ds =>
          match L.mkE k ds, elsB st e k (n + 1) r with
          | some x, some l => some (x :: l)
          | _, _ => none
        | none => none
      | none => none
    else none

def cmpInt (op : BinOp) (a b : Int) : Option Bool :=
  match op with
  | .eql => some (a == b)
  | .neq => some (a != b)
  | .lss => some (decide (a < b))
  | .leq => some (decide (a ≤ b))
  | .gtr => some (decide (a > b))
  | .geq => some (decide (a ≥ b))
  | _ => none

/-- The bytes of a string as numbers. -/
def strEq (a b : ByteArray) : Bool := a.toList == b.toList

def reachN : Nat → Mem S → List Nat → List Nat
  | 0, _, cs => cs
  | n + 1, m, cs => reachN n m (cs ++ (cs.flatMap fun c => match cellAt m c with | some v => PV.ptrsL v | none => [])).eraseDups

def idx (cs : List Nat) (c : Nat) : Nat := cs.idxOf c

def back (cs : List Nat) (base i : Nat) : Nat :=
  match cs[i]? with
  | some c => c
  | none => base + (i - cs.length)

def ptrsMem (m : Mem S) : List Nat := m.flatMap fun | some v => PV.ptrsL v | none => []

/-- The cells cs, counted anew. -/
def locMem (m : Mem S) (cs : List Nat) : Option (Mem S) :=
  cs.mapM fun c => (cellAt m c).map fun v => some (PV.renL (idx cs) v)

def backMem (cs : List Nat) (base : Nat) (m : Mem S) : Mem S := m.map fun | some v => some (PV.renL (back cs base) v) | none => none

def someAll : Mem S → Option (List (List (PV S)))
  | [] => some []
  | some v :: r => (someAll r).map (v :: ·)
  | none :: _ => none

/-- What functions answer, one answer for each. -/
abbrev DCall (S : Sig) := FuncId → List (PV S) → Mem S → Option (Res S × Mem S)

/-- What functions answer, with what is done with the answer. -/
abbrev CallT (S : Sig) := ∀ ρ : Type, FuncId → List (PV S) → Mem S → (Res S × Mem S → Option ρ) → Option ρ

def dir (call : CallT S) : DCall S := fun f args m => call _ f args m some

class Natural (call : CallT S) : Prop where
  nat : ∀ (ρ : Type) (f : FuncId) (args : List (PV S)) (m : Mem S) (K : Res S × Mem S → Option ρ), call ρ f args m K = (dir call f args m).bind K

variable (call : DCall S)

def resRen (f : Nat → Nat) : Res S → Res S
  | .ret p => .ret (p.ren f)
  | .pan p => .pan (p.ren f)

/-- The cells cs are all that is reached, and each stands there once. -/
def closedB (m : Mem S) (cs : List Nat) (args : List (PV S)) : Bool :=
  (PV.ptrsL args).all (fun c => cs.contains c) && (cs.all (fun c => match cellAt m c with | some v => (PV.ptrsL v).all fun c' => cs.contains c' | none => false) && decide cs.Nodup)

/-- A call, with the cells that its arguments reach, and no others. -/
def callE (st : St S) (f : FuncId) (args : List (PV S)) : Option (Res S × List Nat × List (List (PV S)) × Mem S) :=
  let cs := reachN st.mem.length st.mem (PV.ptrsL args).eraseDups
  if closedB st.mem cs args = true then
    match locMem st.mem cs with
    | none => none
    | some lm =>
      match call f (PV.renL (idx cs) args) lm with
      | none => none
      | some (r, m') =>
        match someAll (m'.take cs.length) with
        | none => none
        | some now =>
          if now.length = cs.length then
            some (resRen (back cs st.mem.length) r, cs, now.map (PV.renL (back cs st.mem.length)), backMem cs st.mem.length (m'.drop cs.length))
          else none
  else none

/-- The same, with what is done with the answer. -/
def callC {ρ : Type} (call : CallT S) (st : St S) (f : FuncId) (args : List (PV S)) (K : Res S × List Nat × List (List (PV S)) × Mem S → Option ρ) : Option ρ :=
  let cs := reachN st.mem.length st.mem (PV.ptrsL args).eraseDups
  if closedB st.mem cs args = true then
    match locMem st.mem cs with
    | none => none
    | some lm => call ρ f (PV.renL (idx cs) args) lm fun q =>
      match someAll (q.2.take cs.length) with
      | none => none
      | some now =>
        if now.length = cs.length then
          K (resRen (back cs st.mem.length) q.1, cs, now.map (PV.renL (back cs st.mem.length)), backMem cs st.mem.length (q.2.drop cs.length))
        else none
  else none

theorem callC_eq {ρ : Type} {call : CallT S} [hn : Natural call] {st : St S} {f : FuncId} {args : List (PV S)} {K : Res S × List Nat × List (List (PV S)) × Mem S → Option ρ} :
    callC call st f args K = (callE (dir call) st f args).bind K := by
  unfold callC callE
  simp only
  split
  · split
    · rfl
    · rw [hn.nat]
      cases dir call f _ _ with
      | none => rfl
      | some q =>
        obtain ⟨r, m'⟩ := q
        simp only [Option.bind_some]
        split
        · rfl
        · split <;> rfl
  · rfl

def tmps (xs : List Operand) : List Nat := xs.filterMap fun | .tmp t => some t | _ => none

/-- The arguments of a call. -/
def callArgs (tk fl : Bool) (st : St S) (fst cap : List (PV S)) (ts : List TypeId) (xs : List Operand) : Option (List (PV S)) :=
  match (if tk then (if (tmps xs).Nodup then rdAllRaw P L st ts xs else none) else if fl then rdAll P L st ts xs else (rdAll P L st ts xs).map (List.map PV.norm)) with
  | some args => some (fst.map PV.norm ++ args ++ cap.map PV.norm)
  | none => none

end
end Go.Proofs.YtanfoijdfcnpoaaGreatDoor.Ev
