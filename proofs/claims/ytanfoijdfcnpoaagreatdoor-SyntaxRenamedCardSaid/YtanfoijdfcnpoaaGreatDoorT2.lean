/- This file proves nothing of the program: the data of layer 2 (tokens, raw expressions, bytes, strings, ints) for the evaluator, and what the library's functions answer. -/
import Derived.Test.YtanfoijdfcnpoaaGreatDoorEvM
import Derived.Test.YtanfoijdfcnpoaaGreatDoorProg
import Derived.Shelf.Small.Strs
import Derived.Shelf.Strings.OnBuilder
import Derived.Shelf.Strconv.AtoiAll
import Derived.Shelf.Strconv.Itoa3
set_option linter.unusedVariables false
namespace Go.Proofs.YtanfoijdfcnpoaaGreatDoor.Ev

structure Tok where
  kind : Int
  text : ByteArray
  at_ : Int

/-- Raw expressions. -/
structure Rw where
  op : Int
  name : ByteArray
  args : List Rw

/-- Parts of directives. -/
structure Pt where
  op : Int
  sign : ByteArray
  name : ByteArray
  num : Int
  raw : Rw
  parts : List Pt

/-- Items. -/
structure It where
  word : ByteArray
  name : ByteArray
  raw : Rw
  parts : List Pt

inductive Key | tok | u8 | str | raw | int | part | item
deriving DecidableEq

def sig : Sig where
  K := Key
  dec := inferInstance
  El := fun | .tok => Tok | .u8 => Int | .str => ByteArray | .raw => Rw | .int => Int | .part => Pt | .item => It

/-- The variables strconv.ErrSyntax (2), strconv.ErrRange (3) and the table of powers (1). -/
def fixOk1 (b : Nat) (o : Obj) : Prop :=
  (b = 2 ∨ b = 3 → ∃ te pe ty fr, o = .cells #[.iface te pe] ty fr) ∧ (b = 1 → ∃ ty fr, o = .cells (Lib.pow10Tab.map fun z => Value.int .u64 z).toArray ty fr)

def lay : Lay sig where
  cells := fun | .tok => fun t => [.int .i64 t.kind, .str t.text, .int .i64 t.at_] | .u8 => fun n => [.int .u8 n] | .str => fun s => [.str s] | .raw => fun t => [.int .i64 t.op, .str t.name, .sl Key.raw t.args] | .int => fun n => [.int .i64 n] | .part => fun t => [.int .i64 t.op, .str t.sign, .str t.name, .int .i64 t.num, .int .i64 t.raw.op, .str t.raw.name, .sl Key.raw t.raw.args, .sl Key.part t.parts] | .item => fun t => [.str t.word, .str t.name, .int .i64 t.raw.op, .str t.raw.name, .sl Key.raw t.raw.args, .sl Key.part t.parts]
  mkE := fun
    | .tok => fun | [.int .i64 a, .str b, .int .i64 c] => some (⟨a, b, c⟩ : Tok) | _ => none
    | .u8 => fun | [.int .u8 n] => some n | _ => none
    | .str => fun | [.str s] => some s | _ => none
    | .raw => fun | [.int .i64 a, .str b, .sl Key.raw l] => some (⟨a, b, l⟩ : Rw) | _ => none
    | .int => fun | [.int .i64 n] => some n | _ => none
    | .part => fun | [.int .i64 a, .str b, .str c, .int .i64 d, .int .i64 e, .str f, .sl Key.raw g, .sl Key.part h] => some (⟨a, b, c, d, ⟨e, f, g⟩, h⟩ : Pt) | _ => none
    | .item => fun | [.str a, .str b, .int .i64 c, .str d, .sl Key.raw e, .sl Key.part f] => some (⟨a, b, ⟨c, d, e⟩, f⟩ : It) | _ => none
  sz := fun | .tok => 3 | .u8 => 1 | .str => 1 | .raw => 3 | .int => 1 | .part => 8 | .item => 6
  dflt := fun | .tok => (⟨0, ByteArray.mk #[], 0⟩ : Tok) | .u8 => (0 : Int) | .str => ByteArray.mk #[] | .raw => (⟨0, ByteArray.mk #[], []⟩ : Rw) | .int => (0 : Int) | .part => (⟨0, ByteArray.mk #[], ByteArray.mk #[], 0, ⟨0, ByteArray.mk #[], []⟩, []⟩ : Pt) | .item => (⟨ByteArray.mk #[], ByteArray.mk #[], ⟨0, ByteArray.mk #[], []⟩, []⟩ : It)
  key := fun t => bif Nat.beq t 69 then some .tok else bif Nat.beq t 5 then some .u8 else bif Nat.beq t 9 then some .str else bif Nat.beq t 24 then some .raw else bif Nat.beq t 3 then some .int else bif Nat.beq t 98 then some .part else bif Nat.beq t 52 then some .item else none
  mk_cells := by
    intro t cs x h
    cases t
    all_goals
      dsimp only at h
      split at h
      · cases h; rfl
      · cases h
  len := by intro t x; cases t <;> rfl
  fixB := fun b => Nat.beq b 1 || (Nat.beq b 2 || Nat.beq b 3)
  fixOk := fixOk1

/-- The mark of a range over a function, among the deferred calls. -/
def uY {S : Sig} {ρ : Type} (p : PV S) (f : Nat → Option ρ) : Option ρ := match p with | .fn (.yield r) [] [] => f r | _ => none

theorem uY_cases {S : Sig} (p : PV S) : (∀ (ρ : Type) (f : Nat → Option ρ), uY p f = none) ∨ ∃ r, p = .fn (.yield r) [] [] := by
  cases p with
  | fn t a b =>
    cases t with
    | yield r =>
      cases a with
      | nil => cases b with
        | nil => exact .inr ⟨r, rfl⟩
        | cons _ _ => exact .inl fun _ _ => rfl
      | cons _ _ => exact .inl fun _ _ => rfl
    | _ => exact .inl fun _ _ => rfl
  | _ => exact .inl fun _ _ => rfl

theorem uY_k {Γ : Type 1} {κ : Type → Type} {Q : Prop} {x : PV sig} {F : Γ → (ρ : Type) → κ ρ → Nat → Option ρ} (h : ∀ r, x = .fn (.yield r) [] [] → (∀ C ρ K, F C ρ K r = none) ∨ Q) : (∀ C ρ K, uY x (F C ρ K) = none) ∨ Q := by
  rcases uY_cases x with h1 | ⟨r, rfl⟩
  · exact .inl fun C ρ K => h1 _ _
  · rcases h r rfl with h2 | h2
    · exact .inl fun C ρ K => h2 C ρ K
    · exact .inr h2

def uTokL {ρ : Type} (l : List (PV sig)) (f : Tok → Option ρ) : Option ρ :=
  uC l fun x0 l => uC l fun x1 l => uC l fun x2 l => u0 l <|
  uI .i64 x0 fun a => uStr x1 fun b => uI .i64 x2 fun c => f ⟨a, b, c⟩

theorem uTokL_cases (l : List (PV sig)) : (∀ (ρ : Type) (f : Tok → Option ρ), uTokL l f = none) ∨
    ∃ t : Tok, l = [.d (.int .i64 t.kind), .d (.str t.text), .d (.int .i64 t.at_)] := by
  rcases uC_cases l with h | ⟨x0, l0, rfl⟩
  · exact .inl fun _ _ => h ..
  rcases uC_cases l0 with h | ⟨x1, l1, rfl⟩
  · exact .inl fun _ _ => h ..
  rcases uC_cases l1 with h | ⟨x2, l2, rfl⟩
  · exact .inl fun _ _ => h ..
  rcases u0_cases l2 with h | rfl
  · exact .inl fun _ _ => h ..
  rcases uI_cases .i64 x0 with h | ⟨a, rfl⟩
  · exact .inl fun _ _ => h ..
  rcases uStr_cases x1 with h | ⟨b, rfl⟩
  · exact .inl fun _ _ => h ..
  rcases uI_cases .i64 x2 with h | ⟨c, rfl⟩
  · exact .inl fun _ _ => h ..
  exact .inr ⟨⟨a, b, c⟩, rfl⟩

def uTok {ρ : Type} (p : PV sig) (f : Tok → Option ρ) : Option ρ := uAgg p fun l => uTokL l f

theorem uTok_cases (p : PV sig) : (∀ (ρ : Type) (f : Tok → Option ρ), uTok p f = none) ∨
    ∃ t : Tok, p = .agg [.d (.int .i64 t.kind), .d (.str t.text), .d (.int .i64 t.at_)] := by
  rcases uAgg_cases p with h | ⟨l, rfl⟩
  · exact .inl fun _ _ => h ..
  rcases uTokL_cases l with h | ⟨t, rfl⟩
  · exact .inl fun _ _ => h ..
  exact .inr ⟨t, rfl⟩

theorem uTokL_emb {ρ : Type} (t : Tok) (f : Tok → Option ρ) : uTokL [.d (.int .i64 t.kind), .d (.str t.text), .d (.int .i64 t.at_)] f = f t := rfl

theorem uTokL_k {Γ : Type 1} {κ : Type → Type} {Q : Prop} {x : List (PV sig)} {F : Γ → (ρ : Type) → κ ρ → Tok → Option ρ} (h : ∀ t : Tok, x = [.d (.int .i64 t.kind), .d (.str t.text), .d (.int .i64 t.at_)] → (∀ C ρ K, F C ρ K t = none) ∨ Q) : (∀ C ρ K, uTokL x (F C ρ K) = none) ∨ Q := by
  rcases uTokL_cases x with h1 | ⟨t, rfl⟩
  · exact .inl fun C ρ K => h1 _ _
  · rcases h t rfl with h2 | h2
    · exact .inl fun C ρ K => (uTokL_emb t _).trans <| h2 C ρ K
    · exact .inr h2

theorem uTok_k {Γ : Type 1} {κ : Type → Type} {Q : Prop} {x : PV sig} {F : Γ → (ρ : Type) → κ ρ → Tok → Option ρ} (h : ∀ t : Tok, x = .agg [.d (.int .i64 t.kind), .d (.str t.text), .d (.int .i64 t.at_)] → (∀ C ρ K, F C ρ K t = none) ∨ Q) : (∀ C ρ K, uTok x (F C ρ K) = none) ∨ Q := by
  rcases uTok_cases x with h1 | ⟨t, rfl⟩
  · exact .inl fun C ρ K => h1 _ _
  · rcases h t rfl with h2 | h2
    · exact .inl fun C ρ K => (uTokL_emb t _).trans <| h2 C ρ K
    · exact .inr h2

def uRwL {ρ : Type} (md : SMd) (l : List (PV sig)) (f : Rw → Option ρ) : Option ρ :=
  uC l fun x0 l => uC l fun x1 l => uC l fun x2 l => u0 l <|
  uI .i64 x0 fun a => uStr x1 fun b => uS (S := sig) md Key.raw x2 fun c => f ⟨a, b, c⟩

theorem uRwL_cases (md : SMd) (l : List (PV sig)) : (∀ (ρ : Type) (f : Rw → Option ρ), uRwL md l f = none) ∨
    ∃ t : Rw, l = [.d (.int .i64 t.op), .d (.str t.name), embS (S := sig) md Key.raw t.args] := by
  rcases uC_cases l with h | ⟨x0, l0, rfl⟩
  · exact .inl fun _ _ => h ..
  rcases uC_cases l0 with h | ⟨x1, l1, rfl⟩
  · exact .inl fun _ _ => h ..
  rcases uC_cases l1 with h | ⟨x2, l2, rfl⟩
  · exact .inl fun _ _ => h ..
  rcases u0_cases l2 with h | rfl
  · exact .inl fun _ _ => h ..
  rcases uI_cases .i64 x0 with h | ⟨a, rfl⟩
  · exact .inl fun _ _ => h ..
  rcases uStr_cases x1 with h | ⟨b, rfl⟩
  · exact .inl fun _ _ => h ..
  rcases uS_cases (S := sig) md Key.raw x2 with h | ⟨c, rfl⟩
  · exact .inl fun _ _ => h ..
  exact .inr ⟨⟨a, b, c⟩, rfl⟩

def uRw {ρ : Type} (md : SMd) (p : PV sig) (f : Rw → Option ρ) : Option ρ := uAgg p fun l => uRwL md l f

theorem uRw_cases (md : SMd) (p : PV sig) : (∀ (ρ : Type) (f : Rw → Option ρ), uRw md p f = none) ∨
    ∃ t : Rw, p = .agg [.d (.int .i64 t.op), .d (.str t.name), embS (S := sig) md Key.raw t.args] := by
  rcases uAgg_cases p with h | ⟨l, rfl⟩
  · exact .inl fun _ _ => h ..
  rcases uRwL_cases md l with h | ⟨t, rfl⟩
  · exact .inl fun _ _ => h ..
  exact .inr ⟨t, rfl⟩

theorem uRwL_emb {ρ : Type} (md : SMd) (t : Rw) (f : Rw → Option ρ) : uRwL md [.d (.int .i64 t.op), .d (.str t.name), embS (S := sig) md Key.raw t.args] f = f t := by
  obtain ⟨a, b, c⟩ := t
  exact uS_emb (S := sig) md Key.raw c (fun d => f ⟨a, b, d⟩)

theorem uRwL_k {Γ : Type 1} {κ : Type → Type} {Q : Prop} {md : SMd} {x : List (PV sig)} {F : Γ → (ρ : Type) → κ ρ → Rw → Option ρ} (h : ∀ t : Rw, x = [.d (.int .i64 t.op), .d (.str t.name), embS (S := sig) md Key.raw t.args] → (∀ C ρ K, F C ρ K t = none) ∨ Q) : (∀ C ρ K, uRwL md x (F C ρ K) = none) ∨ Q := by
  rcases uRwL_cases md x with h1 | ⟨t, rfl⟩
  · exact .inl fun C ρ K => h1 _ _
  · rcases h t rfl with h2 | h2
    · exact .inl fun C ρ K => (uRwL_emb md t _).trans <| h2 C ρ K
    · exact .inr h2

theorem uRw_k {Γ : Type 1} {κ : Type → Type} {Q : Prop} {md : SMd} {x : PV sig} {F : Γ → (ρ : Type) → κ ρ → Rw → Option ρ} (h : ∀ t : Rw, x = .agg [.d (.int .i64 t.op), .d (.str t.name), embS (S := sig) md Key.raw t.args] → (∀ C ρ K, F C ρ K t = none) ∨ Q) : (∀ C ρ K, uRw md x (F C ρ K) = none) ∨ Q := by
  rcases uRw_cases md x with h1 | ⟨t, rfl⟩
  · exact .inl fun C ρ K => h1 _ _
  · rcases h t rfl with h2 | h2
    · exact .inl fun C ρ K => (uRwL_emb md t _).trans <| h2 C ρ K
    · exact .inr h2

def uPtL {ρ : Type} (md : SMd) (me : SMd) (l : List (PV sig)) (f : Pt → Option ρ) : Option ρ :=
  uC l fun x0 l => uC l fun x1 l => uC l fun x2 l => uC l fun x3 l => uC l fun x4 l => uC l fun x5 l => uC l fun x6 l => uC l fun x7 l => u0 l <|
  uI .i64 x0 fun y0 => uStr x1 fun y1 => uStr x2 fun y2 => uI .i64 x3 fun y3 => uI .i64 x4 fun y4 => uStr x5 fun y5 => uS (S := sig) md Key.raw x6 fun y6 => uS (S := sig) me Key.part x7 fun y7 => f ⟨y0, y1, y2, y3, ⟨y4, y5, y6⟩, y7⟩

theorem uPtL_cases (md : SMd) (me : SMd) (l : List (PV sig)) : (∀ (ρ : Type) (f : Pt → Option ρ), uPtL md me l f = none) ∨
    ∃ t : Pt, l = [.d (.int .i64 t.op), .d (.str t.sign), .d (.str t.name), .d (.int .i64 t.num), .d (.int .i64 t.raw.op), .d (.str t.raw.name), embS (S := sig) md Key.raw t.raw.args, embS (S := sig) me Key.part t.parts] := by
  rcases uC_cases l with h | ⟨x0, l0, rfl⟩
  · exact .inl fun _ _ => h ..
  rcases uC_cases l0 with h | ⟨x1, l1, rfl⟩
  · exact .inl fun _ _ => h ..
  rcases uC_cases l1 with h | ⟨x2, l2, rfl⟩
  · exact .inl fun _ _ => h ..
  rcases uC_cases l2 with h | ⟨x3, l3, rfl⟩
  · exact .inl fun _ _ => h ..
  rcases uC_cases l3 with h | ⟨x4, l4, rfl⟩
  · exact .inl fun _ _ => h ..
  rcases uC_cases l4 with h | ⟨x5, l5, rfl⟩
  · exact .inl fun _ _ => h ..
  rcases uC_cases l5 with h | ⟨x6, l6, rfl⟩
  · exact .inl fun _ _ => h ..
  rcases uC_cases l6 with h | ⟨x7, l7, rfl⟩
  · exact .inl fun _ _ => h ..
  rcases u0_cases l7 with h | rfl
  · exact .inl fun _ _ => h ..
  rcases uI_cases .i64 x0 with h | ⟨y0, rfl⟩
  · exact .inl fun _ _ => h ..
  rcases uStr_cases x1 with h | ⟨y1, rfl⟩
  · exact .inl fun _ _ => h ..
  rcases uStr_cases x2 with h | ⟨y2, rfl⟩
  · exact .inl fun _ _ => h ..
  rcases uI_cases .i64 x3 with h | ⟨y3, rfl⟩
  · exact .inl fun _ _ => h ..
  rcases uI_cases .i64 x4 with h | ⟨y4, rfl⟩
  · exact .inl fun _ _ => h ..
  rcases uStr_cases x5 with h | ⟨y5, rfl⟩
  · exact .inl fun _ _ => h ..
  rcases uS_cases (S := sig) md Key.raw x6 with h | ⟨y6, rfl⟩
  · exact .inl fun _ _ => h ..
  rcases uS_cases (S := sig) me Key.part x7 with h | ⟨y7, rfl⟩
  · exact .inl fun _ f => (uS_emb (S := sig) md Key.raw y6 (fun d => uS (S := sig) me Key.part x7 fun y7 => f ⟨y0, y1, y2, y3, ⟨y4, y5, d⟩, y7⟩)).trans (h ..)
  exact .inr ⟨⟨y0, y1, y2, y3, ⟨y4, y5, y6⟩, y7⟩, rfl⟩

def uPt {ρ : Type} (md : SMd) (me : SMd) (p : PV sig) (f : Pt → Option ρ) : Option ρ := uAgg p fun l => uPtL md me l f

theorem uPt_cases (md : SMd) (me : SMd) (p : PV sig) : (∀ (ρ : Type) (f : Pt → Option ρ), uPt md me p f = none) ∨
    ∃ t : Pt, p = .agg [.d (.int .i64 t.op), .d (.str t.sign), .d (.str t.name), .d (.int .i64 t.num), .d (.int .i64 t.raw.op), .d (.str t.raw.name), embS (S := sig) md Key.raw t.raw.args, embS (S := sig) me Key.part t.parts] := by
  rcases uAgg_cases p with h | ⟨l, rfl⟩
  · exact .inl fun _ _ => h ..
  rcases uPtL_cases md me l with h | ⟨t, rfl⟩
  · exact .inl fun _ _ => h ..
  exact .inr ⟨t, rfl⟩

theorem uPtL_emb {ρ : Type} (md : SMd) (me : SMd) (t : Pt) (f : Pt → Option ρ) : uPtL md me [.d (.int .i64 t.op), .d (.str t.sign), .d (.str t.name), .d (.int .i64 t.num), .d (.int .i64 t.raw.op), .d (.str t.raw.name), embS (S := sig) md Key.raw t.raw.args, embS (S := sig) me Key.part t.parts] f = f t := by
  obtain ⟨y0, y1, y2, y3, ⟨y4, y5, y6⟩, y7⟩ := t
  refine (uS_emb (S := sig) md Key.raw y6 (fun d1 => uS (S := sig) me Key.part (embS (S := sig) me Key.part y7) fun d2 => f ⟨y0, y1, y2, y3, ⟨y4, y5, d1⟩, d2⟩)).trans ?_
  exact uS_emb (S := sig) me Key.part y7 (fun d2 => f ⟨y0, y1, y2, y3, ⟨y4, y5, y6⟩, d2⟩)

theorem uPtL_k {Γ : Type 1} {κ : Type → Type} {Q : Prop} {md : SMd} {me : SMd} {x : List (PV sig)} {F : Γ → (ρ : Type) → κ ρ → Pt → Option ρ} (h : ∀ t : Pt, x = [.d (.int .i64 t.op), .d (.str t.sign), .d (.str t.name), .d (.int .i64 t.num), .d (.int .i64 t.raw.op), .d (.str t.raw.name), embS (S := sig) md Key.raw t.raw.args, embS (S := sig) me Key.part t.parts] → (∀ C ρ K, F C ρ K t = none) ∨ Q) : (∀ C ρ K, uPtL md me x (F C ρ K) = none) ∨ Q := by
  rcases uPtL_cases md me x with h1 | ⟨t, rfl⟩
  · exact .inl fun C ρ K => h1 _ _
  · rcases h t rfl with h2 | h2
    · exact .inl fun C ρ K => (uPtL_emb md me t _).trans <| h2 C ρ K
    · exact .inr h2

theorem uPt_k {Γ : Type 1} {κ : Type → Type} {Q : Prop} {md : SMd} {me : SMd} {x : PV sig} {F : Γ → (ρ : Type) → κ ρ → Pt → Option ρ} (h : ∀ t : Pt, x = .agg [.d (.int .i64 t.op), .d (.str t.sign), .d (.str t.name), .d (.int .i64 t.num), .d (.int .i64 t.raw.op), .d (.str t.raw.name), embS (S := sig) md Key.raw t.raw.args, embS (S := sig) me Key.part t.parts] → (∀ C ρ K, F C ρ K t = none) ∨ Q) : (∀ C ρ K, uPt md me x (F C ρ K) = none) ∨ Q := by
  rcases uPt_cases md me x with h1 | ⟨t, rfl⟩
  · exact .inl fun C ρ K => h1 _ _
  · rcases h t rfl with h2 | h2
    · exact .inl fun C ρ K => (uPtL_emb md me t _).trans <| h2 C ρ K
    · exact .inr h2

def uItL {ρ : Type} (md : SMd) (me : SMd) (l : List (PV sig)) (f : It → Option ρ) : Option ρ :=
  uC l fun x0 l => uC l fun x1 l => uC l fun x2 l => uC l fun x3 l => uC l fun x4 l => uC l fun x5 l => u0 l <|
  uStr x0 fun y0 => uStr x1 fun y1 => uI .i64 x2 fun y2 => uStr x3 fun y3 => uS (S := sig) md Key.raw x4 fun y4 => uS (S := sig) me Key.part x5 fun y5 => f ⟨y0, y1, ⟨y2, y3, y4⟩, y5⟩

theorem uItL_cases (md : SMd) (me : SMd) (l : List (PV sig)) : (∀ (ρ : Type) (f : It → Option ρ), uItL md me l f = none) ∨
    ∃ t : It, l = [.d (.str t.word), .d (.str t.name), .d (.int .i64 t.raw.op), .d (.str t.raw.name), embS (S := sig) md Key.raw t.raw.args, embS (S := sig) me Key.part t.parts] := by
  rcases uC_cases l with h | ⟨x0, l0, rfl⟩
  · exact .inl fun _ _ => h ..
  rcases uC_cases l0 with h | ⟨x1, l1, rfl⟩
  · exact .inl fun _ _ => h ..
  rcases uC_cases l1 with h | ⟨x2, l2, rfl⟩
  · exact .inl fun _ _ => h ..
  rcases uC_cases l2 with h | ⟨x3, l3, rfl⟩
  · exact .inl fun _ _ => h ..
  rcases uC_cases l3 with h | ⟨x4, l4, rfl⟩
  · exact .inl fun _ _ => h ..
  rcases uC_cases l4 with h | ⟨x5, l5, rfl⟩
  · exact .inl fun _ _ => h ..
  rcases u0_cases l5 with h | rfl
  · exact .inl fun _ _ => h ..
  rcases uStr_cases x0 with h | ⟨y0, rfl⟩
  · exact .inl fun _ _ => h ..
  rcases uStr_cases x1 with h | ⟨y1, rfl⟩
  · exact .inl fun _ _ => h ..
  rcases uI_cases .i64 x2 with h | ⟨y2, rfl⟩
  · exact .inl fun _ _ => h ..
  rcases uStr_cases x3 with h | ⟨y3, rfl⟩
  · exact .inl fun _ _ => h ..
  rcases uS_cases (S := sig) md Key.raw x4 with h | ⟨y4, rfl⟩
  · exact .inl fun _ _ => h ..
  rcases uS_cases (S := sig) me Key.part x5 with h | ⟨y5, rfl⟩
  · exact .inl fun _ f => (uS_emb (S := sig) md Key.raw y4 (fun d => uS (S := sig) me Key.part x5 fun y5 => f ⟨y0, y1, ⟨y2, y3, d⟩, y5⟩)).trans (h ..)
  exact .inr ⟨⟨y0, y1, ⟨y2, y3, y4⟩, y5⟩, rfl⟩

def uIt {ρ : Type} (md : SMd) (me : SMd) (p : PV sig) (f : It → Option ρ) : Option ρ := uAgg p fun l => uItL md me l f

theorem uIt_cases (md : SMd) (me : SMd) (p : PV sig) : (∀ (ρ : Type) (f : It → Option ρ), uIt md me p f = none) ∨
    ∃ t : It, p = .agg [.d (.str t.word), .d (.str t.name), .d (.int .i64 t.raw.op), .d (.str t.raw.name), embS (S := sig) md Key.raw t.raw.args, embS (S := sig) me Key.part t.parts] := by
  rcases uAgg_cases p with h | ⟨l, rfl⟩
  · exact .inl fun _ _ => h ..
  rcases uItL_cases md me l with h | ⟨t, rfl⟩
  · exact .inl fun _ _ => h ..
  exact .inr ⟨t, rfl⟩

theorem uItL_emb {ρ : Type} (md : SMd) (me : SMd) (t : It) (f : It → Option ρ) : uItL md me [.d (.str t.word), .d (.str t.name), .d (.int .i64 t.raw.op), .d (.str t.raw.name), embS (S := sig) md Key.raw t.raw.args, embS (S := sig) me Key.part t.parts] f = f t := by
  obtain ⟨y0, y1, ⟨y2, y3, y4⟩, y5⟩ := t
  refine (uS_emb (S := sig) md Key.raw y4 (fun d1 => uS (S := sig) me Key.part (embS (S := sig) me Key.part y5) fun d2 => f ⟨y0, y1, ⟨y2, y3, d1⟩, d2⟩)).trans ?_
  exact uS_emb (S := sig) me Key.part y5 (fun d2 => f ⟨y0, y1, ⟨y2, y3, y4⟩, d2⟩)

theorem uItL_k {Γ : Type 1} {κ : Type → Type} {Q : Prop} {md : SMd} {me : SMd} {x : List (PV sig)} {F : Γ → (ρ : Type) → κ ρ → It → Option ρ} (h : ∀ t : It, x = [.d (.str t.word), .d (.str t.name), .d (.int .i64 t.raw.op), .d (.str t.raw.name), embS (S := sig) md Key.raw t.raw.args, embS (S := sig) me Key.part t.parts] → (∀ C ρ K, F C ρ K t = none) ∨ Q) : (∀ C ρ K, uItL md me x (F C ρ K) = none) ∨ Q := by
  rcases uItL_cases md me x with h1 | ⟨t, rfl⟩
  · exact .inl fun C ρ K => h1 _ _
  · rcases h t rfl with h2 | h2
    · exact .inl fun C ρ K => (uItL_emb md me t _).trans <| h2 C ρ K
    · exact .inr h2

theorem uIt_k {Γ : Type 1} {κ : Type → Type} {Q : Prop} {md : SMd} {me : SMd} {x : PV sig} {F : Γ → (ρ : Type) → κ ρ → It → Option ρ} (h : ∀ t : It, x = .agg [.d (.str t.word), .d (.str t.name), .d (.int .i64 t.raw.op), .d (.str t.raw.name), embS (S := sig) md Key.raw t.raw.args, embS (S := sig) me Key.part t.parts] → (∀ C ρ K, F C ρ K t = none) ∨ Q) : (∀ C ρ K, uIt md me x (F C ρ K) = none) ∨ Q := by
  rcases uIt_cases md me x with h1 | ⟨t, rfl⟩
  · exact .inl fun C ρ K => h1 _ _
  · rcases h t rfl with h2 | h2
    · exact .inl fun C ρ K => (uItL_emb md me t _).trans <| h2 C ρ K
    · exact .inr h2

/-- A slice of bytes as a string. -/
def bytesK {ρ : Type} (l : List Int) (f : ByteArray → Option ρ) : Option ρ :=
  match byteList (l.map (lay.cells Key.u8)) with
  | some ns => f (strOf ns)
  | none => none

/-- A string's bytes as elements. -/
def appStrK {ρ : Type} (s : ByteArray) (f : List Int → Option ρ) : Option ρ :=
  match newEls lay Key.u8 (.d (.str s)) with
  | some l => f l
  | none => none

/-! ### What the library's functions answer -/

def toldAtoi {ρ : Type} (s : ByteArray) (k0 k1 : Int → Option ρ) : Option ρ :=
  cond (decide (s.size ≤ 140737488355328)) (match Lib.atoiAll s.data.toList with
    | .ok v => k0 v
    | Lib.NumEnd.syntax => k1 0
    | .range => k1 (Lib.atoiSat s.data.toList)) none
def toldItoa {ρ : Type} (n : Int) (k0 : ByteArray → Option ρ) : Option ρ :=
  cond (decide (-9223372036854775808 ≤ n) && decide (n ≤ 9223372036854775807)) (k0 ⟨(Lib.itoa n).toArray⟩) none
def toldIndexByte {ρ : Type} (s : ByteArray) (c : Int) (k0 : Int → Option ρ) : Option ρ := k0 (Lib.indexByte s.data.toList c.toNat.toUInt8)

def toldJoin {ρ : Type} (l : List ByteArray) (t : ByteArray) (k0 : ByteArray → Option ρ) : Option ρ :=
  cond (decide (l.length ≤ 140737488355328) && decide ((Lib.join (l.map (·.data.toList)) t.data.toList).length ≤ 140737488355328)) (k0 ⟨(Lib.join (l.map (·.data.toList)) t.data.toList).toArray⟩) none

def toldClone {ρ : Type} (l : List ByteArray) (k0 : List ByteArray → Option ρ) : Option ρ := cond (decide (l.length * 16 ≤ 140737488355328)) (k0 l) none

/-- What a deferred 'caught' (failures of the type 'failure') does: the panic of a failure becomes the error, with its place. -/
def caughtD : DeferT sig := fun f args m u =>
  match args, m with
  | [.ptr 0 0, .ptr 1 0], [some [.d (.int .i64 a)], some [.d (.int .i64 b)]] =>
    match u with
    | none => some (none, [some [.d (.int .i64 a)], some [.d (.int .i64 b)]])
    | some (.iface 114 (.agg [.d (.int .i64 x), .d (.int .i64 y)])) => some (none, [some [.d (.int .i64 x)], some [.d (.int .i64 y)]])
    | _ => none
  | _, _ => none

end Go.Proofs.YtanfoijdfcnpoaaGreatDoor.Ev
