/- This file proves nothing of the program: the data of layer 4 (terms, simple types) for the evaluator. -/
import Derived.Test.YtcgbfghdcjmaeaaEvM
import Derived.Test.YtcgbfghdcjmaeaaQ0
import Derived.Test.YtcgbfghdcjmaeaaProg
set_option linter.unusedVariables false
namespace Go.Proofs.Ytcgbfghdcjmaeaa.Ev

inductive Key | tm | sm | int
deriving DecidableEq

def sig : Sig where
  K := Key
  dec := inferInstance
  El := fun | .tm => Tm | .sm => Sm | .int => Int

def cellsTm (t : Tm) : List (DV sig) := [.int .i64 t.op, .int .i64 t.head, .int .i64 t.n, .sl Key.tm t.args]
def cellsSm (t : Sm) : List (DV sig) := [.sl Key.sm t.args, .int .i64 t.con]

def lay : Lay sig where
  cells := fun | .tm => cellsTm | .sm => cellsSm | .int => fun n => [.int .i64 n]
  mkE := fun
    | .tm => fun | [.int .i64 a, .int .i64 b, .int .i64 c, .sl Key.tm l] => some (⟨a, b, c, l⟩ : Tm) | _ => none
    | .sm => fun | [.sl Key.sm l, .int .i64 c] => some (⟨l, c⟩ : Sm) | _ => none
    | .int => fun | [.int .i64 n] => some n | _ => none
  sz := fun | .tm => 4 | .sm => 2 | .int => 1
  dflt := fun | .tm => (⟨0, 0, 0, []⟩ : Tm) | .sm => (⟨[], 0⟩ : Sm) | .int => (0 : Int)
  key := fun t => bif Nat.beq t 24 then some .tm else bif Nat.beq t 27 then some .sm else bif Nat.beq t 3 then some .int else none
  mk_cells := by
    intro t cs x h
    cases t
    all_goals
      dsimp only at h
      split at h
      · cases h; rfl
      · cases h
  len := by intro t x; cases t <;> rfl

abbrev tmP (t : Tm) : PV sig := .agg [.d (.int .i64 t.op), .d (.int .i64 t.head), .d (.int .i64 t.n), .d (.sl Key.tm t.args)]
abbrev smP (t : Sm) : PV sig := .agg [.d (.sl Key.sm t.args), .d (.int .i64 t.con)]
abbrev inP (n : Int) : PV sig := .d (.int .i64 n)
abbrev boP (b : Bool) : PV sig := .d (.bool b)

/-- The cells of a term: a list of values read as one. -/
def uTmL {ρ : Type} (md : SMd) (l : List (PV sig)) (f : Tm → Option ρ) : Option ρ :=
  uC l fun x0 l => uC l fun x1 l => uC l fun x2 l => uC l fun x3 l => u0 l <|
  uI .i64 x0 fun a => uI .i64 x1 fun b => uI .i64 x2 fun c => uS (S := sig) md Key.tm x3 fun d => f ⟨a, b, c, d⟩

theorem uTmL_cases (md : SMd) (l : List (PV sig)) : (∀ (ρ : Type) (f : Tm → Option ρ), uTmL md l f = none) ∨
    ∃ t : Tm, l = [.d (.int .i64 t.op), .d (.int .i64 t.head), .d (.int .i64 t.n), embS (S := sig) md Key.tm t.args] := by
  rcases uC_cases l with h | ⟨x0, l0, rfl⟩
  · exact .inl fun _ _ => h ..
  rcases uC_cases l0 with h | ⟨x1, l1, rfl⟩
  · exact .inl fun _ _ => h ..
  rcases uC_cases l1 with h | ⟨x2, l2, rfl⟩
  · exact .inl fun _ _ => h ..
  rcases uC_cases l2 with h | ⟨x3, l3, rfl⟩
  · exact .inl fun _ _ => h ..
  rcases u0_cases l3 with h | rfl
  · exact .inl fun _ _ => h ..
  rcases uI_cases .i64 x0 with h | ⟨a, rfl⟩
  · exact .inl fun _ _ => h ..
  rcases uI_cases .i64 x1 with h | ⟨b, rfl⟩
  · exact .inl fun _ _ => h ..
  rcases uI_cases .i64 x2 with h | ⟨c, rfl⟩
  · exact .inl fun _ _ => h ..
  rcases uS_cases (S := sig) md Key.tm x3 with h | ⟨d, rfl⟩
  · exact .inl fun _ _ => h ..
  exact .inr ⟨⟨a, b, c, d⟩, rfl⟩

def uTm {ρ : Type} (md : SMd) (p : PV sig) (f : Tm → Option ρ) : Option ρ := uAgg p fun l => uTmL md l f

theorem uTm_cases (md : SMd) (p : PV sig) : (∀ (ρ : Type) (f : Tm → Option ρ), uTm md p f = none) ∨
    ∃ t : Tm, p = .agg [.d (.int .i64 t.op), .d (.int .i64 t.head), .d (.int .i64 t.n), embS (S := sig) md Key.tm t.args] := by
  rcases uAgg_cases p with h | ⟨l, rfl⟩
  · exact .inl fun _ _ => h ..
  rcases uTmL_cases md l with h | ⟨t, rfl⟩
  · exact .inl fun _ _ => h ..
  exact .inr ⟨t, rfl⟩

/-- The cells of a simple type. -/
def uSmL {ρ : Type} (md : SMd) (l : List (PV sig)) (f : Sm → Option ρ) : Option ρ :=
  uC l fun x0 l => uC l fun x1 l => u0 l <| uI .i64 x1 fun c => uS (S := sig) md Key.sm x0 fun d => f ⟨d, c⟩

theorem uSmL_cases (md : SMd) (l : List (PV sig)) : (∀ (ρ : Type) (f : Sm → Option ρ), uSmL md l f = none) ∨
    ∃ t : Sm, l = [embS (S := sig) md Key.sm t.args, .d (.int .i64 t.con)] := by
  rcases uC_cases l with h | ⟨x0, l0, rfl⟩
  · exact .inl fun _ _ => h ..
  rcases uC_cases l0 with h | ⟨x1, l1, rfl⟩
  · exact .inl fun _ _ => h ..
  rcases u0_cases l1 with h | rfl
  · exact .inl fun _ _ => h ..
  rcases uI_cases .i64 x1 with h | ⟨c, rfl⟩
  · exact .inl fun _ _ => h ..
  rcases uS_cases (S := sig) md Key.sm x0 with h | ⟨d, rfl⟩
  · exact .inl fun _ _ => h ..
  exact .inr ⟨⟨d, c⟩, rfl⟩

def uSm {ρ : Type} (md : SMd) (p : PV sig) (f : Sm → Option ρ) : Option ρ := uAgg p fun l => uSmL md l f

theorem uSm_cases (md : SMd) (p : PV sig) : (∀ (ρ : Type) (f : Sm → Option ρ), uSm md p f = none) ∨
    ∃ t : Sm, p = .agg [embS (S := sig) md Key.sm t.args, .d (.int .i64 t.con)] := by
  rcases uAgg_cases p with h | ⟨l, rfl⟩
  · exact .inl fun _ _ => h ..
  rcases uSmL_cases md l with h | ⟨t, rfl⟩
  · exact .inl fun _ _ => h ..
  exact .inr ⟨t, rfl⟩


theorem uTmL_emb {ρ : Type} (md : SMd) (t : Tm) (f : Tm → Option ρ) : uTmL md [.d (.int .i64 t.op), .d (.int .i64 t.head), .d (.int .i64 t.n), embS (S := sig) md Key.tm t.args] f = f t := by
  obtain ⟨a, b, c, d⟩ := t
  exact uS_emb (S := sig) md Key.tm d (fun d => f ⟨a, b, c, d⟩)

theorem uTmL_k {Γ : Type 1} {κ : Type → Type} {Q : Prop} {md : SMd} {x : List (PV sig)} {F : Γ → (ρ : Type) → κ ρ → Tm → Option ρ} (h : ∀ t : Tm, x = [.d (.int .i64 t.op), .d (.int .i64 t.head), .d (.int .i64 t.n), embS (S := sig) md Key.tm t.args] → (∀ C ρ K, F C ρ K t = none) ∨ Q) : (∀ C ρ K, uTmL md x (F C ρ K) = none) ∨ Q := by
  rcases uTmL_cases md x with h1 | ⟨t, rfl⟩
  · exact .inl fun C ρ K => h1 _ _
  · rcases h t rfl with h2 | h2
    · exact .inl fun C ρ K => (uTmL_emb md t _).trans <| h2 C ρ K
    · exact .inr h2

theorem uTm_k {Γ : Type 1} {κ : Type → Type} {Q : Prop} {md : SMd} {x : PV sig} {F : Γ → (ρ : Type) → κ ρ → Tm → Option ρ} (h : ∀ t : Tm, x = .agg [.d (.int .i64 t.op), .d (.int .i64 t.head), .d (.int .i64 t.n), embS (S := sig) md Key.tm t.args] → (∀ C ρ K, F C ρ K t = none) ∨ Q) : (∀ C ρ K, uTm md x (F C ρ K) = none) ∨ Q := by
  rcases uTm_cases md x with h1 | ⟨t, rfl⟩
  · exact .inl fun C ρ K => h1 _ _
  · rcases h t rfl with h2 | h2
    · exact .inl fun C ρ K => (uTmL_emb md t _).trans <| h2 C ρ K
    · exact .inr h2


theorem uSmL_emb {ρ : Type} (md : SMd) (t : Sm) (f : Sm → Option ρ) : uSmL md [embS (S := sig) md Key.sm t.args, .d (.int .i64 t.con)] f = f t := by
  obtain ⟨a, b⟩ := t
  exact uS_emb (S := sig) md Key.sm a (fun d => f ⟨d, b⟩)

theorem uSmL_k {Γ : Type 1} {κ : Type → Type} {Q : Prop} {md : SMd} {x : List (PV sig)} {F : Γ → (ρ : Type) → κ ρ → Sm → Option ρ} (h : ∀ t : Sm, x = [embS (S := sig) md Key.sm t.args, .d (.int .i64 t.con)] → (∀ C ρ K, F C ρ K t = none) ∨ Q) : (∀ C ρ K, uSmL md x (F C ρ K) = none) ∨ Q := by
  rcases uSmL_cases md x with h1 | ⟨t, rfl⟩
  · exact .inl fun C ρ K => h1 _ _
  · rcases h t rfl with h2 | h2
    · exact .inl fun C ρ K => (uSmL_emb md t _).trans <| h2 C ρ K
    · exact .inr h2

theorem uSm_k {Γ : Type 1} {κ : Type → Type} {Q : Prop} {md : SMd} {x : PV sig} {F : Γ → (ρ : Type) → κ ρ → Sm → Option ρ} (h : ∀ t : Sm, x = .agg [embS (S := sig) md Key.sm t.args, .d (.int .i64 t.con)] → (∀ C ρ K, F C ρ K t = none) ∨ Q) : (∀ C ρ K, uSm md x (F C ρ K) = none) ∨ Q := by
  rcases uSm_cases md x with h1 | ⟨t, rfl⟩
  · exact .inl fun C ρ K => h1 _ _
  · rcases h t rfl with h2 | h2
    · exact .inl fun C ρ K => (uSmL_emb md t _).trans <| h2 C ρ K
    · exact .inr h2

/-- What a deferred 'caught' (function 40, failures of type 104) does: the panic of a failure becomes the error. -/
def caughtD : DeferT sig := fun f args m u =>
  match args, m with
  | [.ptr 0 0, .ptr 1 0], [some [a, b, c, d], some [e]] =>
    match u with
    | none => some (none, [some [a, b, c, d], some [e]])
    | some (.iface 104 (.agg [.d (.int .i64 x)])) => some (none, [some [inP 0, inP 0, inP 0, .full Key.tm []], some [inP x]])
    | _ => none
  | _, _ => none

end Go.Proofs.Ytcgbfghdcjmaeaa.Ev
