/- This file proves nothing of the program: the evaluator's operations, statements and calls (continuation passing, so that a symbolic test becomes a 'cond' of two whole evaluations). -/
import Derived.Test.YtanfoijdfcnpoaaGreatDoorEvA
set_option linter.unusedVariables false
namespace Go.Proofs.YtanfoijdfcnpoaaGreatDoor.Ev

/-- What stands for the mark of a range over a function among the deferred calls. -/
def markId : FuncId := 1000000

section
variable {S : Sig} (P : Program) (L : Lay S) (call : CallT S) {ρ : Type}

def rdB (st : St S) : Operand → Option Bool
  | .tmp i => match st.slots i with | .d (.bool b) => some b | _ => none
  | .const (.bool b) => some b
  | _ => none

def val (o : Oper) (p : PV S) : Out S := .ok { w := wr o.dst p }

/-- Bytes as the evaluator gives them. -/
def bt (s : ByteArray) (i : Int) : Int := ((s.data.toList.getD i.toNat 0).toNat : Int)

def rdEl (k : S.K) (l : List (S.El k)) (i : Int) : S.El k := l.getD i.toNat (L.dflt k)

/-- The bytes of a slice's elements. -/
def byteList : List (List (DV S)) → Option (List Int)
  | [] => some []
  | [.int .u8 n] :: r => (byteList r).map (n :: ·)
  | _ :: _ => none

def strOf (ns : List Int) : ByteArray := ns.foldl (fun r n => r.push (UInt8.ofNat n.toNat)) ByteArray.empty

/-- Whether two structs of plain fields are equal, field by field. -/
def eqFlds : List Field → List (PV S) → List (PV S) → Option Bool
  | [], _, _ => some true
  | f :: r, cs, ds =>
    match f.name == "_", P.underlying f.type, cs[f.offset]?, ds[f.offset]?, eqFlds r cs ds with
    | false, some (.int _), some (.d (.int k1 a)), some (.d (.int k2 b)), some t => if k1 = k2 then some ((a == b) && t) else none
    | false, some .string, some (.d (.str a)), some (.d (.str b)), some t => some (strEq a b && t)
    | false, some .bool, some (.d (.bool a)), some (.d (.bool b)), some t => some ((a == b) && t)
    | _, _, _, _, _ => none

def binK (o : Oper) (op : BinOp) (xt : TypeId) (x y : Operand) (p q : PV S) (K : Out S → Option ρ) : Option ρ :=
  match p, q with
  | .d (.int k a), .d (.int k' b) =>
    if k = k' then
      match op with
      | .add => K (val o (.d (.int k (k.wrap (a + b)))))
      | .sub => K (val o (.d (.int k (k.wrap (a - b)))))
      | .mul => K (val o (.d (.int k (k.wrap (a * b)))))
      | .rem => cond (b == 0) none (K (val o (.d (.int k (a.tmod b)))))
      | .quo => cond (b == 0) none (K (val o (.d (.int k (k.wrap (a.tdiv b))))))
      | op =>
        match cmpInt op a b with
        | some c => K (val o (.d (.bool c)))
        | none => none
    else none
  | .d (.str a), .d (.str b) =>
    match op with
    | .add => cond (decide (a.size + b.size ≤ 9223372036854775807)) (K (val o (.d (.str (a ++ b))))) none
    | .eql => K (val o (.d (.bool (strEq a b))))
    | .neq => K (val o (.d (.bool !strEq a b)))
    | _ => none
  | .d (.bool a), .d (.bool b) =>
    match P.underlying xt, op with
    | some .bool, .eql => K (val o (.d (.bool (a == b))))
    | some .bool, .neq => K (val o (.d (.bool !(a == b))))
    | _, _ => none
  | .nilif, .nilif =>
    match P.underlying xt, op, y with
    | some (.interface _), .eql, .const _ => K (val o (.d (.bool true)))
    | some (.interface _), .neq, .const _ => K (val o (.d (.bool false)))
    | _, _, _ => none
  | .iface _ _, .nilif =>
    match P.underlying xt, op with
    | some (.interface _), .eql => K (val o (.d (.bool false)))
    | some (.interface _), .neq => K (val o (.d (.bool true)))
    | _, _ => none
  | .agg cs, .agg ds =>
    match P.underlying xt, op, P.eqGuardType P.depth xt, P.stoodInHeld xt with
    | some (.struct fs), .eql, false, false =>
      match eqFlds P fs.toList cs ds with
      | some t => K (val o (.d (.bool t)))
      | none => none
    | _, _, _, _ => none
  | _, _ => none

def convK (o : Oper) (src dst : TypeId) (p : PV S) (K : Out S → Option ρ) : Option ρ :=
  match P.underlying src, P.underlying dst, p with
  | some _, some (.int k), .d (.int _ n) => K (val o (.d (.int k (k.wrap n))))
  | some _, some .string, .d (.str s) => K (val o (.d (.str s)))
  | some _, some .string, .d (.int _ n) => K (val o (.d (.str (Utf8.encode n))))
  | some (.slice e), some .string, p =>
    match P.underlying e, p.dv? with
    | some (.int .u8), some (.sl k l) =>
      match byteList (l.map (L.cells k)) with
      | some ns => K (val o (.d (.str (strOf ns))))
      | none => none
    | _, _ => none
  | _, _, _ => none

def intOf? : Option (PV S) → Option Int
  | some (.d (.int _ n)) => some n
  | _ => none

def boundOr (st : St S) (x : Option Operand) (d : Int) : Option Int :=
  match x with
  | none => some d
  | some (.const (.int _ n)) => some n
  | some (.tmp i) => intOf? (some (st.slots i))
  | _ => none

/-- A slice that was made by the evaluator's own operations. -/
def PV.made : PV S → Bool
  | .full _ _ | .own _ _ => true
  | _ => false

def sliceK (o : Oper) (st : St S) (t : TypeId) (p : PV S) (lo hi mx : Option Operand) (K : Out S → Option ρ) : Option ρ :=
  match P.underlying t, p.dv? with
  | some .string, some (.str s) =>
    match mx, boundOr st lo 0, boundOr st hi s.size with
    | none, some l, some h => cond (decide (0 ≤ l) && (decide (l ≤ h) && decide (h ≤ (s.size : Int)))) (K (val o (.d (.str (s.extract l.toNat h.toNat))))) none
    | _, _, _ => none
  | some (.slice e), some (.sl k l) =>
    match mx with
    | none =>
      match szT P e with
      | some sz =>
        if sz = L.sz k then
          match boundOr st lo 0, boundOr st hi l.length with
          | some a, some b => cond (decide (0 ≤ a) && (decide (a ≤ b) && decide (b ≤ (l.length : Int)))) (K (val o (.d (.sl k ((l.take b.toNat).drop a.toNat))))) none
          | _, _ => none
        else none
      | none => none
    | some (.const (.int _ 0)) =>
      match lo, hi, szT P e with
      | none, some (.const (.int _ 0)), some _ => cond p.made (K (val o (.full k []))) none
      | _, _, _ => none
    | _ => none
  | _, _ => none

/-- The elements of what is appended: a slice, or a string's bytes. -/
def newEls (k : S.K) : PV S → Option (List (S.El k))
  | p =>
    match p.dv? with
    | some (.sl k' l) => match S.dec k' k with | .isTrue h => some (h ▸ l) | .isFalse _ => none
    | some (.str s) => s.data.toList.mapM fun b => L.mkE k [.int .u8 b.toNat]
    | _ => none

def bytesT (t : TypeId) : Option Nat := (P.info? t).map (·.bytes)

/-- What may be appended is a slice or a string. -/
def appT (u : TypeId) : Bool :=
  match P.underlying u with
  | some (.slice _) | some .string => true
  | _ => false

def appK (o : Oper) (st : St S) (ts : List TypeId) (xs : List Operand) (K : Out S → Option ρ) : Option ρ :=
  match ts, xs with
  | [t, u], [x, y] =>
    match P.underlying t, rdRaw P L st t x, rd P L st u y with
    | some (.slice e), some p, some q =>
      match P.info? e with
      | some i =>
        match i.zero with
        | some z =>
          match p with
          | .own k l =>
            if L.key e = some k ∧ i.size = L.sz k ∧ 1 ≤ i.bytes ∧ appT P u = true ∧ z.cells.size = i.size then
              match newEls L k q with
              | some l' => cond (decide ((l.length + l'.length) * i.bytes ≤ 140737488355328)) (K (.ok { w := took st x ++ wr o.dst (.own k (l ++ l')) })) none
              | none => none
            else none
          | .full k l =>
            if L.key e = some k ∧ i.size = L.sz k ∧ 1 ≤ i.bytes ∧ appT P u = true ∧ z.cells.size = i.size then
              match newEls L k q with
              | some l' => cond (decide ((l.length + l'.length) * i.bytes ≤ 140737488355328)) (K (.ok { w := took st x ++ wr o.dst (.own k (l ++ l')) })) none
              | none => none
            else none
          | _ => none
        | none => none
      | none => none
    | _, _, _ => none
  | _, _ => none

def min2 (a b : Int) : Int := if b < a then b else a

/-! ### Maps -/

/-- A map in which a key has a value. -/
def mset {α : Type} : List (ByteArray × α) → ByteArray → α → List (ByteArray × α)
  | [], k, v => [(k, v)]
  | x :: r, k, v => bif strEq k x.1 then (x.1, v) :: r else x :: mset r k v
def mget {α : Type} (d : α) : List (ByteArray × α) → ByteArray → α
  | [], _ => d
  | x :: r, k => bif strEq k x.1 then x.2 else mget d r k
def mdel {α : Type} : List (ByteArray × α) → ByteArray → List (ByteArray × α)
  | [], _ => []
  | x :: r, k => bif strEq k x.1 then r else x :: mdel r k

def MapC.set : MapC → ByteArray → PV S → Option MapC
  | .b l, k, .d (.bool v) => some (.b (mset l k v))
  | .s l, k, .d (.str v) => some (.s (mset l k v))
  | _, _, _ => none
def MapC.get : MapC → ByteArray → DV S
  | .b l, k => .bool (mget false l k)
  | .s l, k => .str (mget (ByteArray.mk #[]) l k)
def MapC.del : MapC → ByteArray → MapC
  | .b l, k => .b (mdel l k)
  | .s l, k => .s (mdel l k)

/-- An empty map of a type. -/
def emptyM (t : TypeId) : Option (MapC × TypeId × TypeId) :=
  match P.underlying t with
  | some (.map kt et) =>
    match P.underlying kt, zeroPV P L et with
    | some .string, some (.d (.bool false)) => some (.b [], kt, et)
    | some .string, some (.d (.str s)) => bif strEq s (ByteArray.mk #[]) then some (.s [], kt, et) else none
    | _, _ => none
  | _ => none

/-- Maps of one type. -/
def MapC.like : MapC → MapC → Bool
  | .b _, .b _ => true
  | .s _, .s _ => true
  | _, _ => false

/-- What a map handle of a type holds. -/
def mapAt (st : St S) (c : Nat) (z : MapC) : Option MapC :=
  match cellAt st.mem c with
  | some [.mpo y] => bif y.like z then some y else none
  | _ => none

def mapSetK (o : Oper) (st : St S) (t : TypeId) (m k x : Operand) (K : Out S → Option ρ) : Option ρ :=
  match emptyM P L t with
  | some (z, kt, et) =>
    match rd P L st t m, rd P L st kt k, rd P L st et x with
    | some (.mp c), some (.d (.str s)), some p =>
      match mapAt st c z with
      | some y =>
        match y.set s p with
        | some y' => K (.ok { w := wr o.dst .bot, m := [(c, [.mpo y'])] })
        | none => none
      | none => none
    | _, _, _ => none
  | none => none

def mapGetK (o : Oper) (st : St S) (t : TypeId) (m k : Operand) (K : Out S → Option ρ) : Option ρ :=
  match emptyM P L t with
  | some (z, kt, _) =>
    match rd P L st t m, rd P L st kt k with
    | some (.mp c), some (.d (.str s)) =>
      match mapAt st c z with
      | some y => K (val o (.d (y.get s)))
      | none => none
    | some .nilmp, some (.d (.str s)) => K (val o (.d (z.get s)))
    | _, _ => none
  | none => none

def mapDelK (o : Oper) (st : St S) (ts : List TypeId) (xs : List Operand) (K : Out S → Option ρ) : Option ρ :=
  match ts, xs, o.dst with
  | [t, _], [m, k], none =>
    match emptyM P L t with
    | some (z, kt, _) =>
      match rd P L st t m, rd P L st kt k with
      | some (.mp c), some (.d (.str s)) =>
        match mapAt st c z with
        | some y => K (.ok { m := [(c, [.mpo (y.del s)])] })
        | none => none
      | _, _ => none
    | none => none
  | _, _, _ => none

def builtinK (o : Oper) (st : St S) (b : Builtin) (ts : List TypeId) (xs : List Operand) (K : Out S → Option ρ) : Option ρ :=
  match b with
  | .len =>
    match ts, xs with
    | [t], [x] =>
      match P.underlying t, (rd P L st t x).bind PV.dv? with
      | some (.slice _), some (.sl k l) => K (val o (.d (.int .i64 l.length)))
      | some .string, some (.str s) => K (val o (.d (.int .i64 s.size)))
      | _, _ => none
    | _, _ => none
  | .append => appK P L o st ts xs K
  | .delete => mapDelK P L o st ts xs K
  | .min =>
    match ts, xs with
    | [t, u], [x, y] =>
      match rd P L st t x, rd P L st u y with
      | some (.d (.int k a)), some (.d (.int _ b)) => K (val o (.d (.int k (min2 a b))))
      | _, _ => none
    | _, _ => none
  | _ => none

def callK (o : Oper) (tk fl : Bool) (st : St S) (f : Operand) (ts : List TypeId) (xs : List Operand) (K : Out S → Option ρ) : Option ρ :=
  match rd P L st 0 f with
  | some (.fn (.func g) fst cap) =>
    match callArgs P L tk fl st fst cap ts xs with
    | some args =>
      callC call st g args fun r =>
        match r with
        | (.ret p, cs, now, more) => K (.ok { w := (if tk then tookAll st xs else []) ++ wr o.dst p, m := cs.zip now, g := more })
        | (.pan p, cs, now, more) => K (.pan p { m := cs.zip now, g := more })
    | none => none
  | _ => none

def loadK (o : Oper) (tk : Bool) (st : St S) (t : TypeId) (a : PV S) (K : Out S → Option ρ) : Option ρ :=
  match szT P t with
  | some n =>
    match a with
    | .ptr c off =>
      match cellAt st.mem c with
      | some cs =>
        if off + n ≤ cs.length ∧ noMap cs = true then
          match aggT P t, (cs.drop off).take n with
          | some true, ps => K (val o (.agg (ps.map PV.strip)))
          | some false, [p] =>
            if tk then K (.ok { w := wr o.dst p, m := [(c, putAt cs off [p.strip])] })
            else K (val o p.strip)
          | _, _ => none
        else none
      | none => none
    | .dp k x off =>
      if off + n ≤ L.sz k then
        match aggT P t, ((L.cells k x).drop off).take n with
        | some true, ps => K (val o (.agg (ps.map .d)))
        | some false, [p] => K (val o (.d p))
        | _, _ => none
      else none
    | _ => none
  | none => none

def fieldOf (t : TypeId) (f : Nat) : Option Field :=
  match P.underlying t with
  | some (.struct fs) => fs[f]?
  | _ => none

/-- What is picked is there. -/
def pickK (o : Oper) (p : PV S) (K : Out S → Option ρ) : Option ρ :=
  match p with
  | .bot => none
  | p => K (val o p)

/-! ### Slices whose variables are the evaluator's own -/

def loCells (k : S.K) (l : List (S.El k)) : List (PV S) := (l.flatMap (L.cells k)).map .d

def sliceLitK (tk : Bool) (cid : Nat) (o : Oper) (st : St S) (n : Nat) (k : S.K) (l : List (S.El k)) (K : Out S → Option ρ) : Option ρ :=
  match tk with
  | false => K (val o (.full k l))
  | true =>
    match st.mem[cid]? with
    | some none => K (.ok { w := wr o.dst (.lo k cid n), m := [(cid, loCells L k l)] })
    | _ => none

def loOf : Option (PV S) → Option (S.K × Nat × Nat)
  | some (.lo k c m) => some (k, c, m)
  | _ => none

def loIdxK (o : Oper) (st : St S) (t : TypeId) (q : S.K × Nat × Nat) (i : Operand) (K : Out S → Option ρ) : Option ρ :=
  match P.underlying t, boundOr st (some i) 0 with
  | some (.slice e), some n =>
    if szT P e = some (L.sz q.1) then
      cond (decide (0 ≤ n) && decide (n < (q.2.2 : Int))) (K (val o (.ptr q.2.1 (n.toNat * L.sz q.1)))) none
    else none
  | _, _ => none

/-- One operation. 'tk': its operands are taken; 'cid': the cell that it makes, if it makes one. -/
def effK (tk fl : Bool) (cid : Nat) (o : Oper) (st : St S) (K : Out S → Option ρ) : Option ρ :=
  match o.op with
  | .move x =>
    match rdRaw P L st o.type x with
    | some p => if tk then K (.ok { w := took st x ++ wr o.dst p }) else K (val o p.strip)
    | none => none
  | .assign x =>
    match rdRaw P L st o.type x with
    | some p => K (.ok { w := took st x ++ wr o.dst p })
    | none => none
  | .pick c a b =>
    match rdB st c with
    | some t =>
      match rd P L st o.type a, rd P L st o.type b with
      | some p, some q => cond t (pickK o p K) (pickK o q K)
      | _, _ => none
    | none => none
  | .alloc e =>
    match zeroCells P L e, st.mem[cid]? with
    | some cs, some none => K (.ok { w := wr o.dst (.ptr cid 0), m := [(cid, cs)] })
    | _, _ => none
  | .box e x =>
    match rdRaw P L st e x, st.mem[cid]? with
    | some p, some none => if p.cells.all PV.one = true then K (.ok { w := took st x ++ wr o.dst (.ptr cid 0), m := [(cid, p.toCells)] }) else none
    | _, _ => none
  | .build t ps =>
    match P.underlying t, zeroCells P L t with
    | some (.struct fs), some z =>
      if (fs.toList.all fun f => (szT P f.type).isSome) = true then
        match fillB P L st fs.toList ps.toList z with
        | some cs => K (val o (.agg cs))
        | none => none
      else none
    | _, _ => none
  | .buildSlice t n ps =>
    match P.underlying t with
    | some (.slice e) =>
      match L.key e with
      | some k =>
        if szT P e = some (L.sz k) ∧ ps.size = n ∧ n * L.sz k ≤ 1000 ∧ ((P.info? e).bind (·.zero)).isSome = true then
          match elsB P L st e k 0 ps.toList with
          | some l => sliceLitK L tk cid o st n k l K
          | none => none
        else none
      | none => none
    | _ => none
  | .load t a =>
    match rd P L st 0 a with
    | some p => loadK P L o tk st t p K
    | none => none
  | .store t a x =>
    match rd P L st 0 a, rdRaw P L st t x with
    | some (.ptr c off), some p =>
      match cellAt st.mem c with
      | some cs =>
        if szT P t = some p.cells.length ∧ off + p.cells.length ≤ cs.length ∧ p.cells.all PV.one = true ∧ noMap cs = true then
          K (.ok { w := took st x ++ wr o.dst .bot, m := [(c, putAt cs off p.toCells)] })
        else none
      | none => none
    | _, _ => none
  | .nilCheck x =>
    match rd P L st 0 x with
    | some (.ptr c off) => K (val o (.ptr c off))
    | some (.dp k x off) => K (val o (.dp k x off))
    | _ => none
  | .binOp op xt x y yt =>
    match rd P L st xt x, rd P L st yt y with
    | some p, some q => binK P o op xt x y p q K
    | _, _ => none
  | .unOp .not _ x =>
    match rdB st x with
    | some b => K (val o (.d (.bool !b)))
    | none => none
  | .convert src dst x =>
    match rd P L st src x with
    | some p => convK P L o src dst p K
    | none => none
  | .makeInterface t x =>
    match P.underlying t, rd P L st t x with
    | some (.interface _), _ => none
    | some _, some p => K (val o (.iface t p.norm))
    | _, _ => none
  | .makeFunc (.func f) fst cap =>
    match rdAll P L st (fst.toList.map fun _ => 0) fst.toList, rdAll P L st (cap.toList.map fun _ => 0) cap.toList with
    | some a, some b => K (val o (.fn (.func f) (a.map PV.norm) (b.map PV.norm)))
    | _, _ => none
  | .slice t x lo hi mx =>
    match rd P L st t x with
    | some p => sliceK P L o st t p lo hi mx K
    | none => none
  | .fieldAddr t x f =>
    match fieldOf P t f, rd P L st 0 x with
    | some fd, some p =>
      match szT P fd.type with
      | some (_ + 1) =>
        match p with
        | .ptr c off => K (val o (.ptr c (off + fd.offset)))
        | .dp k x off => K (val o (.dp k x (off + fd.offset)))
        | _ => none
      | _ => none
    | _, _ => none
  | .field t x f =>
    match fieldOf P t f, rd P L st t x with
    | some fd, some (.agg cs) =>
      match aggT P fd.type, szT P fd.type with
      | some true, some n => if fd.offset + n ≤ cs.length then K (val o (.agg ((cs.drop fd.offset).take n))) else none
      | some false, some _ =>
        match cs[fd.offset]? with
        | some p => K (val o p.strip)
        | none => none
      | _, _ => none
    | _, _ => none
  | .indexAddr t x i =>
    match loOf (rd P L st t x) with
    | some q => loIdxK P L o st t q i K
    | none =>
    match P.underlying t, (rd P L st t x).bind PV.dv?, boundOr st (some i) 0 with
    | some (.slice e), some (.sl k l), some n =>
      if szT P e = some (L.sz k) ∧ L.key e = some k then
        cond (decide (0 ≤ n) && decide (n < (l.length : Int))) (K (val o (.dp k (rdEl L k l n) 0))) none
      else none
    | _, _, _ => none
  | .index t x i =>
    match P.underlying t, rd P L st t x, boundOr st (some i) 0 with
    | some .string, some (.d (.str s)), some n => cond (decide (0 ≤ n) && decide (n < (s.size : Int))) (K (val o (.d (.int .u8 (bt s n))))) none
    | _, _, _ => none
  | .typeAssert x t a true =>
    match P.underlying a, rd P L st 0 x with
    | some (.interface _), _ => none
    | some _, some (.iface t' p) =>
      if t' = a then K (val o (.tup [p, .d (.bool true)]))
      else
        match zeroPV P L a with
        | some z => K (val o (.tup [z, .d (.bool false)]))
        | none => none
    | some _, some .nilif =>
      match zeroPV P L a with
      | some z => K (val o (.tup [z, .d (.bool false)]))
      | none => none
    | _, _ => none
  | .extract x i =>
    match rd P L st 0 x with
    | some (.tup l) =>
      match l[i]? with
      | some p => K (val o p.strip)
      | none => none
    | _ => none
  | .makeMap t none =>
    match emptyM P L t, st.mem[cid]? with
    | some (z, _, _), some none => K (.ok { w := wr o.dst (.mp cid), m := [(cid, [.mpo z])] })
    | _, _ => none
  | .insert t m k x => mapSetK P L o st t m k x K
  | .mapUpdate t m k x => mapSetK P L o st t m k x K
  | .lookup t m k false => mapGetK P L o st t m k K
  | .call c =>
    match c.callee with
    | .value f => callK P L call o tk fl st f c.argTypes.toList c.args.toList K
    | .builtin b => builtinK P L o st b c.argTypes.toList c.args.toList K
    | .invoke _ _ => none
  | .defer c =>
    match c.callee with
    | .value f =>
      match rd P L st 0 f, rdAll P L st c.argTypes.toList c.args.toList with
      | some (.fn (.func g) fst cap), some args => match Nat.beq g markId with | true => none | false => K (.ok { w := wr o.dst .bot, df := [(g, fst ++ args.map PV.norm ++ cap)] })
      | _, _ => none
    | _ => none
  | .panic x =>
    match rd P L st 0 x with
    | some (.iface t p) => K (.pan (.iface t p) {})
    | _ => none
  | _ => none

/-- What a function's text does not say: which operations take what they read; which slots are forgotten at a region; in which order a drawn region is evaluated. -/
structure Hints where
  take : FuncId → Nat → Nat → Bool   /- function, region, operation -/
  keep : FuncId → Nat → Option (List Nat)
  full : FuncId → Nat → Nat → Bool
  ret : FuncId → Bool

def makesCell : Op → Bool
  | .alloc _ | .box .. | .makeMap .. | .buildSlice .. => true
  | _ => false

def cellsBefore (ops : List Oper) (i : Nat) : Nat := ((ops.take i).filter fun o => makesCell o.op).length

/-- Operations that may be carried out at any time. -/
def floats : Op → Bool
  | .move _ | .pick .. | .alloc _ | .box .. | .build .. | .buildSlice .. | .load .. | .nilCheck _ | .binOp .. | .unOp .. | .convert .. | .makeInterface .. | .makeFunc ..
  | .slice .. | .fieldAddr .. | .field .. | .indexAddr .. | .index .. | .typeAssert .. | .extract .. => true
  | .call { callee := .builtin .len, .. } | .call { callee := .builtin .min, .. } => true
  | _ => false

inductive Ex (S : Sig) : Type
  | normal
  | exit (id : Nat)
  | ret
  | pan (p : PV S)

/-- One operation under its guard. -/
def opK (tk fl : Bool) (ops : Array Oper) (i : Nat) (st : St S) (K : Out S → Option ρ) : Option ρ :=
  match ops[i]? with
  | none => none
  | some o =>
    match o.guard with
    | none => effK P L call tk fl (st.rb + cellsBefore ops.toList i) o st K
    | some (j, want) =>
      match (ops[j]?).bind (·.dst) with
      | none => none
      | some t =>
        match st.slots t with
        | .d (.bool b) =>
          match want with
          | true => cond b (effK P L call tk fl (st.rb + cellsBefore ops.toList i) o st K) (K (val o .bot))
          | false => cond b (K (val o .bot)) (effK P L call tk fl (st.rb + cellsBefore ops.toList i) o st K)
        | .bot => K (val o .bot)
        | _ => none

/-- A state in which a slot is known. -/
def St.know (st : St S) (t : Nat) (b : Bool) : St S := { st with slots := upd st.slots t (.d (.bool b)) }

/-- One operation under its guard, which is known afterwards. -/
def opG (tk fl : Bool) (ops : Array Oper) (i : Nat) (st : St S) (K : St S → Out S → Option ρ) : Option ρ :=
  match ops[i]? with
  | none => none
  | some o =>
    match o.guard with
    | none => effK P L call tk fl (st.rb + cellsBefore ops.toList i) o st (K st)
    | some (j, want) =>
      match (ops[j]?).bind (·.dst) with
      | none => none
      | some t =>
        match st.slots t with
        | .d (.bool b) =>
          match want with
          | true => cond b (effK P L call tk fl (st.rb + cellsBefore ops.toList i) o st (K (st.know t true))) (K (st.know t false) (val o .bot))
          | false => cond b (K (st.know t true) (val o .bot)) (effK P L call tk fl (st.rb + cellsBefore ops.toList i) o st (K (st.know t false)))
        | .bot => K st (val o .bot)
        | _ => none

def fits (nt : Nat) : List (Nat × PV S) → Bool
  | [] => true
  | (i, _) :: r => Nat.blt i nt && fits nt r

/-- The state in which an operation panicked. -/
def St.panned (st : St S) (e : Eff S) : St S := { e.apply st with slots := fun t => (st.slots t).strip }

/-- The operations of a region that draws no order. -/
def opsK (tk fl : Nat → Bool) (ops : Array Oper) : List Nat → St S → (Ex S → St S → Option ρ) → Option ρ
  | [], st, K => K .normal st
  | i :: r, st, K => opG P L call (tk i) (fl i) ops i st fun st out => match out with
    | .ok e => cond (fits st.nt e.w) (opsK tk fl ops r (e.apply st) K) none
    | .pan p e => K (.pan p) (st.panned e)

def reserve (st : St S) (n : Nat) : St S := { st with mem := st.mem ++ List.replicate n none, rb := st.mem.length }

def slotsOf : List (Nat × PV S) → Nat → PV S
  | [] => fun _ => .any
  | (i, p) :: r => upd (slotsOf r) i p

def maxL : List Nat → Nat
  | [] => 0
  | c :: r => Nat.max (c + 1) (maxL r)

/-- Only some slots are kept, and the cells up to the last one that is still reached (the first np ones always). -/
def keepOnly (np : Nat) (st : St S) : Option (List Nat) → St S
  | none => st
  | some ks =>
    let sl := ks.map fun i => (i, st.slots i)
    let n := Nat.max np (maxL (PV.ptrsL (sl.map (·.2)) ++ st.dfs.flatMap fun d => PV.ptrsL d.2))
    { st with
      slots := slotsOf sl
      mem := if maxL (ptrsMem (st.mem.take n)) ≤ n then st.mem.take n else st.mem }

end
end Go.Proofs.YtanfoijdfcnpoaaGreatDoor.Ev
