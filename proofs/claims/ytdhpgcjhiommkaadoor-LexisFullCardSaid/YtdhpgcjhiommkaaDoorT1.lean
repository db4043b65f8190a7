/- This file proves nothing of the program: the data of layer 1 (tokens, bytes, strings) for the evaluator, and what the library's functions answer. -/
import Derived.Test.YtdhpgcjhiommkaaDoorEvM
import Derived.Test.YtdhpgcjhiommkaaDoorProg
import Derived.Shelf.Small.Strs
import Derived.Shelf.Strings.Count
import Derived.Shelf.Strings.LastIndex
import Derived.Shelf.Strings.OnBuilder
import Derived.Shelf.Strconv.AtoiAll
import Derived.Shelf.Strconv.Itoa3
set_option linter.unusedVariables false
namespace Go.Proofs.YtdhpgcjhiommkaaDoor.Ev

structure Tok where
  kind : Int
  text : ByteArray
  at_ : Int

inductive Key | tok | u8 | str
deriving DecidableEq

def sig : Sig where
  K := Key
  dec := inferInstance
  El := fun | .tok => Tok | .u8 => Int | .str => ByteArray

/-- The variables strconv.ErrSyntax (1), strconv.ErrRange (2) and the table of powers (3). -/
def fixOk1 (b : Nat) (o : Obj) : Prop :=
  (b = 1 ∨ b = 2 → ∃ te pe ty fr, o = .cells #[.iface te pe] ty fr) ∧ (b = 3 → ∃ ty fr, o = .cells (Lib.pow10Tab.map fun z => Value.int .u64 z).toArray ty fr)

def lay : Lay sig where
  cells := fun | .tok => fun t => [.int .i64 t.kind, .str t.text, .int .i64 t.at_] | .u8 => fun n => [.int .u8 n] | .str => fun s => [.str s]
  mkE := fun
    | .tok => fun | [.int .i64 a, .str b, .int .i64 c] => some (⟨a, b, c⟩ : Tok) | _ => none
    | .u8 => fun | [.int .u8 n] => some n | _ => none
    | .str => fun | [.str s] => some s | _ => none
  sz := fun | .tok => 3 | .u8 => 1 | .str => 1
  dflt := fun | .tok => (⟨0, ByteArray.mk #[], 0⟩ : Tok) | .u8 => (0 : Int) | .str => ByteArray.mk #[]
  key := fun t => bif Nat.beq t 32 then some .tok else bif Nat.beq t 5 then some .u8 else bif Nat.beq t 9 then some .str else none
  mk_cells := by
    intro t cs x h
    cases t
    all_goals
      dsimp only at h
      split at h
      · cases h; rfl
      · cases h
  len := by intro t x; cases t <;> rfl
  fixB := fun b => Nat.beq b 1 || (Nat.beq b 2 || Nat.beq b 3)
  fixOk := fixOk1

def uTokL {ρ : Type} (l : List (PV sig)) (f : Tok → Option ρ) : Option ρ :=
  uC l fun x0 l => uC l fun x1 l => uC l fun x2 l => u0 l <|
  uI .i64 x0 fun a => uStr x1 fun b => uI .i64 x2 fun c => f ⟨a, b, c⟩

theorem uTokL_cases (l : List (PV sig)) : (∀ (ρ : Type) (f : Tok → Option ρ), uTokL l f = none) ∨
    ∃ t : Tok, l = [.d (.int .i64 t.kind), .d (.str t.text), .d (.int .i64 t.at_)] := by
  rcases uC_cases l with h | ⟨x0, l0, rfl⟩
  · exact .inl fun _ _ => h ..
  rcases uC_cases l0 with h | ⟨x1, l1, rfl⟩
  · exact .inl fun _ _ => h ..
  rcases uC_cases l1 with h | ⟨x2, l2, rfl⟩
  · exact .inl fun _ _ => h ..
  rcases u0_cases l2 with h | rfl
  · exact .inl fun _ _ => h ..
  rcases uI_cases .i64 x0 with h | ⟨a, rfl⟩
  · exact .inl fun _ _ => h ..
  rcases uStr_cases x1 with h | ⟨b, rfl⟩
  · exact .inl fun _ _ => h ..
  rcases uI_cases .i64 x2 with h | ⟨c, rfl⟩
  · exact .inl fun _ _ => h ..
  exact .inr ⟨⟨a, b, c⟩, rfl⟩

def uTok {ρ : Type} (p : PV sig) (f : Tok → Option ρ) : Option ρ := uAgg p fun l => uTokL l f

theorem uTok_cases (p : PV sig) : (∀ (ρ : Type) (f : Tok → Option ρ), uTok p f = none) ∨
    ∃ t : Tok, p = .agg [.d (.int .i64 t.kind), .d (.str t.text), .d (.int .i64 t.at_)] := by
  rcases uAgg_cases p with h | ⟨l, rfl⟩
  · exact .inl fun _ _ => h ..
  rcases uTokL_cases l with h | ⟨t, rfl⟩
  · exact .inl fun _ _ => h ..
  exact .inr ⟨t, rfl⟩

theorem uTokL_emb {ρ : Type} (t : Tok) (f : Tok → Option ρ) : uTokL [.d (.int .i64 t.kind), .d (.str t.text), .d (.int .i64 t.at_)] f = f t := rfl

theorem uTokL_k {Γ : Type 1} {κ : Type → Type} {Q : Prop} {x : List (PV sig)} {F : Γ → (ρ : Type) → κ ρ → Tok → Option ρ} (h : ∀ t : Tok, x = [.d (.int .i64 t.kind), .d (.str t.text), .d (.int .i64 t.at_)] → (∀ C ρ K, F C ρ K t = none) ∨ Q) : (∀ C ρ K, uTokL x (F C ρ K) = none) ∨ Q := by
  rcases uTokL_cases x with h1 | ⟨t, rfl⟩
  · exact .inl fun C ρ K => h1 _ _
  · rcases h t rfl with h2 | h2
    · exact .inl fun C ρ K => (uTokL_emb t _).trans <| h2 C ρ K
    · exact .inr h2

theorem uTok_k {Γ : Type 1} {κ : Type → Type} {Q : Prop} {x : PV sig} {F : Γ → (ρ : Type) → κ ρ → Tok → Option ρ} (h : ∀ t : Tok, x = .agg [.d (.int .i64 t.kind), .d (.str t.text), .d (.int .i64 t.at_)] → (∀ C ρ K, F C ρ K t = none) ∨ Q) : (∀ C ρ K, uTok x (F C ρ K) = none) ∨ Q := by
  rcases uTok_cases x with h1 | ⟨t, rfl⟩
  · exact .inl fun C ρ K => h1 _ _
  · rcases h t rfl with h2 | h2
    · exact .inl fun C ρ K => (uTokL_emb t _).trans <| h2 C ρ K
    · exact .inr h2

/-- A slice of bytes as a string. -/
def bytesK {ρ : Type} (l : List Int) (f : ByteArray → Option ρ) : Option ρ :=
  match byteList (l.map (lay.cells Key.u8)) with
  | some ns => f (strOf ns)
  | none => none

/-- A string's bytes as elements. -/
def appStrK {ρ : Type} (s : ByteArray) (f : List Int → Option ρ) : Option ρ :=
  match newEls lay Key.u8 (.d (.str s)) with
  | some l => f l
  | none => none

/-! ### What the library's functions answer -/

def toldAtoi {ρ : Type} (s : ByteArray) (k0 k1 : Int → Option ρ) : Option ρ :=
  cond (decide (s.size ≤ 140737488355328)) (match Lib.atoiAll s.data.toList with
    | .ok v => k0 v
    | Lib.NumEnd.syntax => k1 0
    | .range => k1 (Lib.atoiSat s.data.toList)) none
def toldItoa {ρ : Type} (n : Int) (k0 : ByteArray → Option ρ) : Option ρ :=
  cond (decide (-9223372036854775808 ≤ n) && decide (n ≤ 9223372036854775807)) (k0 ⟨(Lib.itoa n).toArray⟩) none
def toldIndexByte {ρ : Type} (s : ByteArray) (c : Int) (k0 : Int → Option ρ) : Option ρ := k0 (Lib.indexByte s.data.toList c.toNat.toUInt8)
def toldLastIndexByte {ρ : Type} (s : ByteArray) (c : Int) (k0 : Int → Option ρ) : Option ρ :=
  cond (decide (s.size < 4611686018427387904)) (k0 (Lib.lastIndexByte s c)) none
def toldCount {ρ : Type} (s t : ByteArray) (k0 : Int → Option ρ) : Option ρ :=
  match t.data.toList with
  | [c] => k0 (Lib.countByte s.data.toList c)
  | _ => none
def toldJoin {ρ : Type} (l : List ByteArray) (t : ByteArray) (k0 : ByteArray → Option ρ) : Option ρ :=
  cond (decide (l.length ≤ 140737488355328) && decide ((Lib.join (l.map (·.data.toList)) t.data.toList).length ≤ 140737488355328)) (k0 ⟨(Lib.join (l.map (·.data.toList)) t.data.toList).toArray⟩) none

end Go.Proofs.YtdhpgcjhiommkaaDoor.Ev
