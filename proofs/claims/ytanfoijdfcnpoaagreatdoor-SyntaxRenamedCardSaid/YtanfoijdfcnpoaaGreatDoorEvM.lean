/- This file proves how the tables of typed functions read the evaluator's values; without any condition. -/
import Derived.Test.YtanfoijdfcnpoaaGreatDoorEvK
set_option linter.unusedVariables false
namespace Go.Proofs.YtanfoijdfcnpoaaGreatDoor.Ev

/-- How a slice is held. -/
inductive SMd
  | d
  | full
  | own

section
variable {S : Sig} {ρ : Type}

def embS (md : SMd) (k : S.K) (l : List (S.El k)) : PV S :=
  match md with
  | .d => .d (.sl k l)
  | .full => .full k l
  | .own => .own k l

def castL (t k : S.K) (l : List (S.El t)) (f : List (S.El k) → Option ρ) : Option ρ :=
  match S.dec t k with
  | .isTrue h => f (h ▸ l)
  | .isFalse _ => none

def uS (md : SMd) (k : S.K) (p : PV S) (f : List (S.El k) → Option ρ) : Option ρ :=
  match md, p with
  | .d, .d (.sl t l) => castL t k l f
  | .full, .full t l => castL t k l f
  | .own, .own t l => castL t k l f
  | _, _ => none

theorem castL_cases (t k : S.K) (l : List (S.El t)) : (∀ (ρ : Type) (f : List (S.El k) → Option ρ), castL t k l f = none) ∨ ∃ h : t = k, ∀ (ρ : Type) (f : List (S.El k) → Option ρ), castL t k l f = f (h ▸ l) := by
  unfold castL
  cases S.dec t k with
  | isTrue h => exact .inr ⟨h, fun _ _ => rfl⟩
  | isFalse h => exact .inl fun _ _ => rfl

theorem uS_cases (md : SMd) (k : S.K) (p : PV S) : (∀ (ρ : Type) (f : List (S.El k) → Option ρ), uS md k p f = none) ∨ ∃ l, p = embS md k l := by
  cases md <;> cases p
  case d.d x =>
    cases x
    case sl t l =>
      rcases castL_cases t k l with h | ⟨rfl, _⟩
      · exact .inl h
      · exact .inr ⟨l, rfl⟩
    all_goals exact .inl fun _ _ => rfl
  case full.full t l =>
    rcases castL_cases t k l with h | ⟨rfl, _⟩
    · exact .inl h
    · exact .inr ⟨l, rfl⟩
  case own.own t l =>
    rcases castL_cases t k l with h | ⟨rfl, _⟩
    · exact .inl h
    · exact .inr ⟨l, rfl⟩
  all_goals exact .inl fun _ _ => rfl

def uB (p : PV S) (f : Bool → Option ρ) : Option ρ := match p with | .d (.bool b) => f b | _ => none

theorem uB_cases (p : PV S) : (∀ (ρ : Type) (f : Bool → Option ρ), uB p f = none) ∨ ∃ b, p = .d (.bool b) := by
  cases p with
  | d x => cases x with
    | bool b => exact .inr ⟨b, rfl⟩
    | _ => exact .inl fun _ _ => rfl
  | _ => exact .inl fun _ _ => rfl

def uI (k : IntKind) (p : PV S) (f : Int → Option ρ) : Option ρ := match p with | .d (.int k' n) => if k' = k then f n else none | _ => none

theorem uI_cases (k : IntKind) (p : PV S) : (∀ (ρ : Type) (f : Int → Option ρ), uI k p f = none) ∨ ∃ n, p = .d (.int k n) := by
  cases p with
  | d x => cases x with
    | int k' n =>
      by_cases h : k' = k
      · subst h; exact .inr ⟨n, rfl⟩
      · exact .inl fun _ _ => by simp [uI, h]
    | _ => exact .inl fun _ _ => rfl
  | _ => exact .inl fun _ _ => rfl

def uStr (p : PV S) (f : ByteArray → Option ρ) : Option ρ := match p with | .d (.str b) => f b | _ => none

theorem uStr_cases (p : PV S) : (∀ (ρ : Type) (f : ByteArray → Option ρ), uStr p f = none) ∨ ∃ b, p = .d (.str b) := by
  cases p with
  | d x => cases x with
    | str b => exact .inr ⟨b, rfl⟩
    | _ => exact .inl fun _ _ => rfl
  | _ => exact .inl fun _ _ => rfl

def uP (c o : Nat) (p : PV S) (f : Option ρ) : Option ρ := match p with | .ptr c' o' => bif Nat.beq c' c && Nat.beq o' o then f else none | _ => none

theorem uP_cases (c o : Nat) (p : PV S) : (∀ (ρ : Type) (f : Option ρ), uP c o p f = none) ∨ p = .ptr c o := by
  cases p with
  | ptr c' o' =>
    cases h : Nat.beq c' c && Nat.beq o' o with
    | true =>
      simp only [Bool.and_eq_true] at h
      have h1 := Nat.eq_of_beq_eq_true h.1
      have h2 := Nat.eq_of_beq_eq_true h.2
      subst h1; subst h2; exact .inr rfl
    | false => exact .inl fun _ _ => by simp only [uP, h]; rfl
  | _ => exact .inl fun _ _ => rfl

def uDp (k : S.K) (o : Nat) (p : PV S) (f : S.El k → Option ρ) : Option ρ :=
  match p with
  | .dp t x o' => match S.dec t k with
    | .isTrue h => bif Nat.beq o' o then f (h ▸ x) else none
    | .isFalse _ => none
  | _ => none

theorem uDp_cases (k : S.K) (o : Nat) (p : PV S) : (∀ (ρ : Type) (f : S.El k → Option ρ), uDp k o p f = none) ∨ ∃ x, p = .dp k x o := by
  cases p with
  | dp t x o' =>
    unfold uDp
    simp only
    cases S.dec t k with
    | isFalse _ => exact .inl fun _ _ => rfl
    | isTrue h =>
      subst h
      cases hb : Nat.beq o' o with
      | true => have := Nat.eq_of_beq_eq_true hb; subst this; exact .inr ⟨x, rfl⟩
      | false => exact .inl fun _ _ => rfl
  | _ => exact .inl fun _ _ => rfl

def uNilp (p : PV S) (f : Option ρ) : Option ρ := match p with | .nilp => f | _ => none
theorem uNilp_cases (p : PV S) : (∀ (ρ : Type) (f : Option ρ), uNilp p f = none) ∨ p = .nilp := by
  cases p with
  | nilp => exact .inr rfl
  | _ => exact .inl fun _ _ => rfl
def uNilfn (p : PV S) (f : Option ρ) : Option ρ := match p with | .nilfn => f | _ => none
theorem uNilfn_cases (p : PV S) : (∀ (ρ : Type) (f : Option ρ), uNilfn p f = none) ∨ p = .nilfn := by
  cases p with
  | nilfn => exact .inr rfl
  | _ => exact .inl fun _ _ => rfl
def uNilif (p : PV S) (f : Option ρ) : Option ρ := match p with | .nilif => f | _ => none
theorem uNilif_cases (p : PV S) : (∀ (ρ : Type) (f : Option ρ), uNilif p f = none) ∨ p = .nilif := by
  cases p with
  | nilif => exact .inr rfl
  | _ => exact .inl fun _ _ => rfl
def uBot (p : PV S) (f : Option ρ) : Option ρ := match p with | .bot => f | _ => none
theorem uBot_cases (p : PV S) : (∀ (ρ : Type) (f : Option ρ), uBot p f = none) ∨ p = .bot := by
  cases p with
  | bot => exact .inr rfl
  | _ => exact .inl fun _ _ => rfl
def uAny (p : PV S) (f : Option ρ) : Option ρ := match p with | .any => f | _ => none
theorem uAny_cases (p : PV S) : (∀ (ρ : Type) (f : Option ρ), uAny p f = none) ∨ p = .any := by
  cases p with
  | any => exact .inr rfl
  | _ => exact .inl fun _ _ => rfl
def uAgg (p : PV S) (f : List (PV S) → Option ρ) : Option ρ := match p with | .agg l => f l | _ => none
theorem uAgg_cases (p : PV S) : (∀ (ρ : Type) (f : List (PV S) → Option ρ), uAgg p f = none) ∨ ∃ l, p = .agg l := by
  cases p with
  | agg l => exact .inr ⟨l, rfl⟩
  | _ => exact .inl fun _ _ => rfl
def uTup (p : PV S) (f : List (PV S) → Option ρ) : Option ρ := match p with | .tup l => f l | _ => none
theorem uTup_cases (p : PV S) : (∀ (ρ : Type) (f : List (PV S) → Option ρ), uTup p f = none) ∨ ∃ l, p = .tup l := by
  cases p with
  | tup l => exact .inr ⟨l, rfl⟩
  | _ => exact .inl fun _ _ => rfl
def uIf (t : TypeId) (p : PV S) (f : PV S → Option ρ) : Option ρ := match p with | .iface t' x => bif Nat.beq t' t then f x else none | _ => none
theorem uIf_cases (t : TypeId) (p : PV S) : (∀ (ρ : Type) (f : PV S → Option ρ), uIf t p f = none) ∨ ∃ x, p = .iface t x := by
  cases p with
  | iface t' x =>
    cases h : Nat.beq t' t with
    | true => have := Nat.eq_of_beq_eq_true h; subst this; exact .inr ⟨x, rfl⟩
    | false => exact .inl fun _ _ => by simp only [uIf, h]; rfl
  | _ => exact .inl fun _ _ => rfl
def uFn (g : FuncId) (p : PV S) (f : List (PV S) → List (PV S) → Option ρ) : Option ρ := match p with | .fn (.func g') a b => bif Nat.beq g' g then f a b else none | _ => none
theorem uFn_cases (g : FuncId) (p : PV S) : (∀ (ρ : Type) (f : List (PV S) → List (PV S) → Option ρ), uFn g p f = none) ∨ ∃ a b, p = .fn (.func g) a b := by
  cases p with
  | fn f' a b =>
    cases f' with
    | func g' =>
      cases h : Nat.beq g' g with
      | true => have := Nat.eq_of_beq_eq_true h; subst this; exact .inr ⟨a, b, rfl⟩
      | false => exact .inl fun _ _ => by simp only [uFn, h]; rfl
    | _ => exact .inl fun _ _ => rfl
  | _ => exact .inl fun _ _ => rfl

def uC (l : List (PV S)) (f : PV S → List (PV S) → Option ρ) : Option ρ := match l with | x :: r => f x r | [] => none
theorem uC_cases (l : List (PV S)) : (∀ (ρ : Type) (f : PV S → List (PV S) → Option ρ), uC l f = none) ∨ ∃ x r, l = x :: r := by
  cases l with
  | nil => exact .inl fun _ _ => rfl
  | cons x r => exact .inr ⟨x, r, rfl⟩
def u0 (l : List (PV S)) (f : Option ρ) : Option ρ := match l with | [] => f | _ :: _ => none
theorem u0_cases (l : List (PV S)) : (∀ (ρ : Type) (f : Option ρ), u0 l f = none) ∨ l = [] := by
  cases l with
  | nil => exact .inr rfl
  | cons x r => exact .inl fun _ _ => rfl
def uM (l : Mem S) (f : List (PV S) → Mem S → Option ρ) : Option ρ := match l with | some x :: r => f x r | _ => none
theorem uM_cases (l : Mem S) : (∀ (ρ : Type) (f : List (PV S) → Mem S → Option ρ), uM l f = none) ∨ ∃ x r, l = some x :: r := by
  cases l with
  | nil => exact .inl fun _ _ => rfl
  | cons x r => cases x with
    | none => exact .inl fun _ _ => rfl
    | some x => exact .inr ⟨x, r, rfl⟩
def uMn (l : Mem S) (f : Mem S → Option ρ) : Option ρ := match l with | none :: r => f r | _ => none
theorem uMn_cases (l : Mem S) : (∀ (ρ : Type) (f : Mem S → Option ρ), uMn l f = none) ∨ ∃ r, l = none :: r := by
  cases l with
  | nil => exact .inl fun _ _ => rfl
  | cons x r => cases x with
    | some _ => exact .inl fun _ _ => rfl
    | none => exact .inr ⟨r, rfl⟩
def uE (l : Mem S) (f : Option ρ) : Option ρ := match l with | [] => f | _ :: _ => none
theorem uE_cases (l : Mem S) : (∀ (ρ : Type) (f : Option ρ), uE l f = none) ∨ l = [] := by
  cases l with
  | nil => exact .inr rfl
  | cons x r => exact .inl fun _ _ => rfl
def uD (g : FuncId) (l : List (FuncId × List (PV S))) (f : List (PV S) → List (FuncId × List (PV S)) → Option ρ) : Option ρ := match l with | (g', x) :: r => bif Nat.beq g' g then f x r else none | [] => none
theorem uD_cases (g : FuncId) (l : List (FuncId × List (PV S))) : (∀ (ρ : Type) (f : List (PV S) → List (FuncId × List (PV S)) → Option ρ), uD g l f = none) ∨ ∃ x r, l = (g, x) :: r := by
  cases l with
  | nil => exact .inl fun _ _ => rfl
  | cons y r =>
    obtain ⟨g', x⟩ := y
    cases h : Nat.beq g' g with
    | true => have := Nat.eq_of_beq_eq_true h; subst this; exact .inr ⟨x, r, rfl⟩
    | false => exact .inl fun _ _ => by simp only [uD, h]; rfl
def uDe (l : List (FuncId × List (PV S))) (f : Option ρ) : Option ρ := match l with | [] => f | _ :: _ => none
theorem uDe_cases (l : List (FuncId × List (PV S))) : (∀ (ρ : Type) (f : Option ρ), uDe l f = none) ∨ l = [] := by
  cases l with
  | nil => exact .inr rfl
  | cons x r => exact .inl fun _ _ => rfl
def uN (m n : Nat) (f : Option ρ) : Option ρ := bif Nat.beq m n then f else none
theorem uN_cases (m n : Nat) : (∀ (ρ : Type) (f : Option ρ), uN m n f = none) ∨ m = n := by
  cases h : Nat.beq m n with
  | true => exact .inr (Nat.eq_of_beq_eq_true h)
  | false => exact .inl fun _ _ => by simp only [uN, h]; rfl

/-! ### Reading, step by step -/

section
variable {Γ : Type 1} {κ : Type → Type} {Q : Prop}

theorem castL_self (k : S.K) (l : List (S.El k)) (f : List (S.El k) → Option ρ) : castL k k l f = f l := by
  unfold castL
  cases S.dec k k with
  | isTrue h => rfl
  | isFalse h => exact absurd rfl h

theorem uS_emb (md : SMd) (k : S.K) (l : List (S.El k)) (f : List (S.El k) → Option ρ) : uS md k (embS md k l) f = f l := by
  cases md <;> exact castL_self k l f

theorem uDp_emb (k : S.K) (o : Nat) (x : S.El k) (f : S.El k → Option ρ) : uDp k o (.dp k x o) f = f x := by
  unfold uDp
  simp only
  cases S.dec k k with
  | isTrue h => simp
  | isFalse h => exact absurd rfl h

theorem uS_k {md : SMd} {k : S.K} {x : PV S} {F : Γ → (ρ : Type) → κ ρ → List (S.El k) → Option ρ} (h : ∀ l, x = embS md k l → (∀ C ρ K, F C ρ K l = none) ∨ Q) : (∀ C ρ K, uS md k x (F C ρ K) = none) ∨ Q := by
  rcases uS_cases md k x with h1 | ⟨l, rfl⟩
  · exact .inl fun C ρ K => h1 _ _
  · rcases h l rfl with h2 | h2
    · exact .inl fun C ρ K => (uS_emb md k l _).trans <| h2 C ρ K
    · exact .inr h2

theorem uB_k {x : PV S} {F : Γ → (ρ : Type) → κ ρ → Bool → Option ρ} (h : ∀ b, x = .d (.bool b) → (∀ C ρ K, F C ρ K b = none) ∨ Q) : (∀ C ρ K, uB x (F C ρ K) = none) ∨ Q := by
  rcases uB_cases x with h1 | ⟨b, rfl⟩
  · exact .inl fun C ρ K => h1 _ _
  · rcases h b rfl with h2 | h2
    · exact .inl fun C ρ K => h2 C ρ K
    · exact .inr h2

theorem uI_k {k : IntKind} {x : PV S} {F : Γ → (ρ : Type) → κ ρ → Int → Option ρ} (h : ∀ n, x = .d (.int k n) → (∀ C ρ K, F C ρ K n = none) ∨ Q) : (∀ C ρ K, uI k x (F C ρ K) = none) ∨ Q := by
  rcases uI_cases k x with h1 | ⟨n, rfl⟩
  · exact .inl fun C ρ K => h1 _ _
  · rcases h n rfl with h2 | h2
    · exact .inl fun C ρ K => (if_pos rfl).trans <| h2 C ρ K
    · exact .inr h2

theorem uStr_k {x : PV S} {F : Γ → (ρ : Type) → κ ρ → ByteArray → Option ρ} (h : ∀ b, x = .d (.str b) → (∀ C ρ K, F C ρ K b = none) ∨ Q) : (∀ C ρ K, uStr x (F C ρ K) = none) ∨ Q := by
  rcases uStr_cases x with h1 | ⟨b, rfl⟩
  · exact .inl fun C ρ K => h1 _ _
  · rcases h b rfl with h2 | h2
    · exact .inl fun C ρ K => h2 C ρ K
    · exact .inr h2

theorem uP_k {c o : Nat} {x : PV S} {F : Γ → (ρ : Type) → κ ρ → Option ρ} (h : x = .ptr c o → (∀ C ρ K, F C ρ K = none) ∨ Q) : (∀ C ρ K, uP c o x (F C ρ K) = none) ∨ Q := by
  rcases uP_cases c o x with h1 | rfl
  · exact .inl fun C ρ K => h1 _ _
  · rcases h rfl with h2 | h2
    · exact .inl fun C ρ K => (by simp [uP] : uP c o (.ptr c o) _ = _).trans <| h2 C ρ K
    · exact .inr h2

theorem uDp_k {k : S.K} {o : Nat} {x : PV S} {F : Γ → (ρ : Type) → κ ρ → S.El k → Option ρ} (h : ∀ y, x = .dp k y o → (∀ C ρ K, F C ρ K y = none) ∨ Q) : (∀ C ρ K, uDp k o x (F C ρ K) = none) ∨ Q := by
  rcases uDp_cases k o x with h1 | ⟨y, rfl⟩
  · exact .inl fun C ρ K => h1 _ _
  · rcases h y rfl with h2 | h2
    · exact .inl fun C ρ K => (uDp_emb k o y _).trans <| h2 C ρ K
    · exact .inr h2

theorem uNilp_k {x : PV S} {F : Γ → (ρ : Type) → κ ρ → Option ρ} (h : x = .nilp → (∀ C ρ K, F C ρ K = none) ∨ Q) : (∀ C ρ K, uNilp x (F C ρ K) = none) ∨ Q := by
  rcases uNilp_cases x with h1 | rfl
  · exact .inl fun C ρ K => h1 _ _
  · rcases h rfl with h2 | h2
    · exact .inl fun C ρ K => h2 C ρ K
    · exact .inr h2

theorem uNilfn_k {x : PV S} {F : Γ → (ρ : Type) → κ ρ → Option ρ} (h : x = .nilfn → (∀ C ρ K, F C ρ K = none) ∨ Q) : (∀ C ρ K, uNilfn x (F C ρ K) = none) ∨ Q := by
  rcases uNilfn_cases x with h1 | rfl
  · exact .inl fun C ρ K => h1 _ _
  · rcases h rfl with h2 | h2
    · exact .inl fun C ρ K => h2 C ρ K
    · exact .inr h2

theorem uNilif_k {x : PV S} {F : Γ → (ρ : Type) → κ ρ → Option ρ} (h : x = .nilif → (∀ C ρ K, F C ρ K = none) ∨ Q) : (∀ C ρ K, uNilif x (F C ρ K) = none) ∨ Q := by
  rcases uNilif_cases x with h1 | rfl
  · exact .inl fun C ρ K => h1 _ _
  · rcases h rfl with h2 | h2
    · exact .inl fun C ρ K => h2 C ρ K
    · exact .inr h2

theorem uBot_k {x : PV S} {F : Γ → (ρ : Type) → κ ρ → Option ρ} (h : x = .bot → (∀ C ρ K, F C ρ K = none) ∨ Q) : (∀ C ρ K, uBot x (F C ρ K) = none) ∨ Q := by
  rcases uBot_cases x with h1 | rfl
  · exact .inl fun C ρ K => h1 _ _
  · rcases h rfl with h2 | h2
    · exact .inl fun C ρ K => h2 C ρ K
    · exact .inr h2

theorem uAny_k {x : PV S} {F : Γ → (ρ : Type) → κ ρ → Option ρ} (h : x = .any → (∀ C ρ K, F C ρ K = none) ∨ Q) : (∀ C ρ K, uAny x (F C ρ K) = none) ∨ Q := by
  rcases uAny_cases x with h1 | rfl
  · exact .inl fun C ρ K => h1 _ _
  · rcases h rfl with h2 | h2
    · exact .inl fun C ρ K => h2 C ρ K
    · exact .inr h2

theorem uAgg_k {x : PV S} {F : Γ → (ρ : Type) → κ ρ → List (PV S) → Option ρ} (h : ∀ l, x = .agg l → (∀ C ρ K, F C ρ K l = none) ∨ Q) : (∀ C ρ K, uAgg x (F C ρ K) = none) ∨ Q := by
  rcases uAgg_cases x with h1 | ⟨l, rfl⟩
  · exact .inl fun C ρ K => h1 _ _
  · rcases h l rfl with h2 | h2
    · exact .inl fun C ρ K => h2 C ρ K
    · exact .inr h2

theorem uTup_k {x : PV S} {F : Γ → (ρ : Type) → κ ρ → List (PV S) → Option ρ} (h : ∀ l, x = .tup l → (∀ C ρ K, F C ρ K l = none) ∨ Q) : (∀ C ρ K, uTup x (F C ρ K) = none) ∨ Q := by
  rcases uTup_cases x with h1 | ⟨l, rfl⟩
  · exact .inl fun C ρ K => h1 _ _
  · rcases h l rfl with h2 | h2
    · exact .inl fun C ρ K => h2 C ρ K
    · exact .inr h2

theorem uIf_k {t : TypeId} {x : PV S} {F : Γ → (ρ : Type) → κ ρ → PV S → Option ρ} (h : ∀ y, x = .iface t y → (∀ C ρ K, F C ρ K y = none) ∨ Q) : (∀ C ρ K, uIf t x (F C ρ K) = none) ∨ Q := by
  rcases uIf_cases t x with h1 | ⟨y, rfl⟩
  · exact .inl fun C ρ K => h1 _ _
  · rcases h y rfl with h2 | h2
    · exact .inl fun C ρ K => (by simp [uIf] : uIf t (.iface t y) _ = _).trans <| h2 C ρ K
    · exact .inr h2

theorem uFn_k {g : FuncId} {x : PV S} {F : Γ → (ρ : Type) → κ ρ → List (PV S) → List (PV S) → Option ρ} (h : ∀ a b, x = .fn (.func g) a b → (∀ C ρ K, F C ρ K a b = none) ∨ Q) : (∀ C ρ K, uFn g x (F C ρ K) = none) ∨ Q := by
  rcases uFn_cases g x with h1 | ⟨a, b, rfl⟩
  · exact .inl fun C ρ K => h1 _ _
  · rcases h a b rfl with h2 | h2
    · exact .inl fun C ρ K => (by simp [uFn] : uFn g (.fn (.func g) a b) _ = _).trans <| h2 C ρ K
    · exact .inr h2

theorem uC_k {x : List (PV S)} {F : Γ → (ρ : Type) → κ ρ → PV S → List (PV S) → Option ρ} (h : ∀ y r, x = y :: r → (∀ C ρ K, F C ρ K y r = none) ∨ Q) : (∀ C ρ K, uC x (F C ρ K) = none) ∨ Q := by
  rcases uC_cases x with h1 | ⟨y, r, rfl⟩
  · exact .inl fun C ρ K => h1 _ _
  · rcases h y r rfl with h2 | h2
    · exact .inl fun C ρ K => h2 C ρ K
    · exact .inr h2

theorem u0_k {x : List (PV S)} {F : Γ → (ρ : Type) → κ ρ → Option ρ} (h : x = [] → (∀ C ρ K, F C ρ K = none) ∨ Q) : (∀ C ρ K, u0 x (F C ρ K) = none) ∨ Q := by
  rcases u0_cases x with h1 | rfl
  · exact .inl fun C ρ K => h1 _ _
  · rcases h rfl with h2 | h2
    · exact .inl fun C ρ K => h2 C ρ K
    · exact .inr h2

theorem uM_k {x : Mem S} {F : Γ → (ρ : Type) → κ ρ → List (PV S) → Mem S → Option ρ} (h : ∀ y r, x = some y :: r → (∀ C ρ K, F C ρ K y r = none) ∨ Q) : (∀ C ρ K, uM x (F C ρ K) = none) ∨ Q := by
  rcases uM_cases x with h1 | ⟨y, r, rfl⟩
  · exact .inl fun C ρ K => h1 _ _
  · rcases h y r rfl with h2 | h2
    · exact .inl fun C ρ K => h2 C ρ K
    · exact .inr h2

theorem uMn_k {x : Mem S} {F : Γ → (ρ : Type) → κ ρ → Mem S → Option ρ} (h : ∀ r, x = none :: r → (∀ C ρ K, F C ρ K r = none) ∨ Q) : (∀ C ρ K, uMn x (F C ρ K) = none) ∨ Q := by
  rcases uMn_cases x with h1 | ⟨r, rfl⟩
  · exact .inl fun C ρ K => h1 _ _
  · rcases h r rfl with h2 | h2
    · exact .inl fun C ρ K => h2 C ρ K
    · exact .inr h2

theorem uE_k {x : Mem S} {F : Γ → (ρ : Type) → κ ρ → Option ρ} (h : x = [] → (∀ C ρ K, F C ρ K = none) ∨ Q) : (∀ C ρ K, uE x (F C ρ K) = none) ∨ Q := by
  rcases uE_cases x with h1 | rfl
  · exact .inl fun C ρ K => h1 _ _
  · rcases h rfl with h2 | h2
    · exact .inl fun C ρ K => h2 C ρ K
    · exact .inr h2

theorem uD_k {g : FuncId} {x : List (FuncId × List (PV S))} {F : Γ → (ρ : Type) → κ ρ → List (PV S) → List (FuncId × List (PV S)) → Option ρ} (h : ∀ y r, x = (g, y) :: r → (∀ C ρ K, F C ρ K y r = none) ∨ Q) : (∀ C ρ K, uD g x (F C ρ K) = none) ∨ Q := by
  rcases uD_cases g x with h1 | ⟨y, r, rfl⟩
  · exact .inl fun C ρ K => h1 _ _
  · rcases h y r rfl with h2 | h2
    · exact .inl fun C ρ K => (by simp [uD] : uD g ((g, y) :: r) _ = _).trans <| h2 C ρ K
    · exact .inr h2

theorem uDe_k {x : List (FuncId × List (PV S))} {F : Γ → (ρ : Type) → κ ρ → Option ρ} (h : x = [] → (∀ C ρ K, F C ρ K = none) ∨ Q) : (∀ C ρ K, uDe x (F C ρ K) = none) ∨ Q := by
  rcases uDe_cases x with h1 | rfl
  · exact .inl fun C ρ K => h1 _ _
  · rcases h rfl with h2 | h2
    · exact .inl fun C ρ K => h2 C ρ K
    · exact .inr h2

theorem uN_k {n x : Nat} {F : Γ → (ρ : Type) → κ ρ → Option ρ} (h : x = n → (∀ C ρ K, F C ρ K = none) ∨ Q) : (∀ C ρ K, uN x n (F C ρ K) = none) ∨ Q := by
  rcases uN_cases x n with h1 | rfl
  · exact .inl fun C ρ K => h1 _ _
  · rcases h rfl with h2 | h2
    · exact .inl fun C ρ K => (by simp [uN] : uN x x _ = _).trans <| h2 C ρ K
    · exact .inr h2


/-! ### Maps -/

def uMp (c : Nat) (p : PV S) (f : Option ρ) : Option ρ := match p with | .mp c' => bif Nat.beq c' c then f else none | _ => none

theorem uMp_cases (c : Nat) (p : PV S) : (∀ (ρ : Type) (f : Option ρ), uMp c p f = none) ∨ p = .mp c := by
  cases p with
  | mp c' =>
    cases h : Nat.beq c' c with
    | true => have h1 := Nat.eq_of_beq_eq_true h; subst h1; exact .inr rfl
    | false => exact .inl fun _ _ => by simp only [uMp, h]; rfl
  | _ => exact .inl fun _ _ => rfl

theorem uMp_k {c : Nat} {x : PV S} {F : Γ → (ρ : Type) → κ ρ → Option ρ} (h : x = .mp c → (∀ C ρ K, F C ρ K = none) ∨ Q) : (∀ C ρ K, uMp c x (F C ρ K) = none) ∨ Q := by
  rcases uMp_cases c x with h1 | rfl
  · exact .inl fun C ρ K => h1 _ _
  · rcases h rfl with h2 | h2
    · exact .inl fun C ρ K => (by simp [uMp] : uMp c (.mp c : PV S) _ = _).trans <| h2 C ρ K
    · exact .inr h2

def uNilmp (p : PV S) (f : Option ρ) : Option ρ := match p with | .nilmp => f | _ => none

theorem uNilmp_cases (p : PV S) : (∀ (ρ : Type) (f : Option ρ), uNilmp p f = none) ∨ p = .nilmp := by
  cases p with
  | nilmp => exact .inr rfl
  | _ => exact .inl fun _ _ => rfl

theorem uNilmp_k {x : PV S} {F : Γ → (ρ : Type) → κ ρ → Option ρ} (h : x = .nilmp → (∀ C ρ K, F C ρ K = none) ∨ Q) : (∀ C ρ K, uNilmp x (F C ρ K) = none) ∨ Q := by
  rcases uNilmp_cases x with h1 | rfl
  · exact .inl fun C ρ K => h1 _ _
  · rcases h rfl with h2 | h2
    · exact .inl fun C ρ K => h2 C ρ K
    · exact .inr h2

def uMb (p : PV S) (f : List (ByteArray × Bool) → Option ρ) : Option ρ := match p with | .mpo (.b l) => f l | _ => none

theorem uMb_cases (p : PV S) : (∀ (ρ : Type) (f : List (ByteArray × Bool) → Option ρ), uMb p f = none) ∨ ∃ l, p = .mpo (.b l) := by
  cases p with
  | mpo x => cases x with
    | b l => exact .inr ⟨l, rfl⟩
    | s _ => exact .inl fun _ _ => rfl
  | _ => exact .inl fun _ _ => rfl

theorem uMb_k {x : PV S} {F : Γ → (ρ : Type) → κ ρ → List (ByteArray × Bool) → Option ρ} (h : ∀ l, x = .mpo (.b l) → (∀ C ρ K, F C ρ K l = none) ∨ Q) : (∀ C ρ K, uMb x (F C ρ K) = none) ∨ Q := by
  rcases uMb_cases x with h1 | ⟨l, rfl⟩
  · exact .inl fun C ρ K => h1 _ _
  · rcases h l rfl with h2 | h2
    · exact .inl fun C ρ K => h2 C ρ K
    · exact .inr h2

def uMs (p : PV S) (f : List (ByteArray × ByteArray) → Option ρ) : Option ρ := match p with | .mpo (.s l) => f l | _ => none

theorem uMs_cases (p : PV S) : (∀ (ρ : Type) (f : List (ByteArray × ByteArray) → Option ρ), uMs p f = none) ∨ ∃ l, p = .mpo (.s l) := by
  cases p with
  | mpo x => cases x with
    | s l => exact .inr ⟨l, rfl⟩
    | b _ => exact .inl fun _ _ => rfl
  | _ => exact .inl fun _ _ => rfl

theorem uMs_k {x : PV S} {F : Γ → (ρ : Type) → κ ρ → List (ByteArray × ByteArray) → Option ρ} (h : ∀ l, x = .mpo (.s l) → (∀ C ρ K, F C ρ K l = none) ∨ Q) : (∀ C ρ K, uMs x (F C ρ K) = none) ∨ Q := by
  rcases uMs_cases x with h1 | ⟨l, rfl⟩
  · exact .inl fun C ρ K => h1 _ _
  · rcases h l rfl with h2 | h2
    · exact .inl fun C ρ K => h2 C ρ K
    · exact .inr h2

end

/-- A loop's body. -/
def bodyOf (P : Program) (f key : Nat) : Code := (loopOf P f key).getD .skip

/-- A state as it is seen. -/
def canon (ks : List Nat) (vs : List (PV S)) (m : Mem S) (ds : List (FuncId × List (PV S))) (nt : Nat) : St S :=
  { slots := slotsOf (ks.zip vs), mem := m, dfs := ds, nt := nt, rb := 0 }

def seenV (sp : Seen2) (st : St S) : List (PV S) := sp.1.map fun x => x.2.ap (st.slots x.1)

def seenM (np : Nat) (sp : Seen2) (st : St S) : Mem S :=
  let n := Nat.max np (maxL (PV.ptrsL (seenV sp st) ++ ([] ++ st.dfs.flatMap fun d => PV.ptrsL d.2)))
  modesM sp.2 (if maxL (ptrsMem (st.mem.take n)) ≤ n then st.mem.take n else st.mem)

theorem park_seen (np : Nat) (sp : Seen2) (st : St S) : park np sp [] st = canon (sp.1.map (·.1)) (seenV sp st) (seenM np sp st) st.dfs st.nt := by
  unfold park canon seenM
  have h1 : (sp.1.map (·.1)).zip (seenV sp st) = sp.1.map fun x => (x.1, x.2.ap (st.slots x.1)) := by
    unfold seenV
    generalize sp.1 = l
    induction l with
    | nil => rfl
    | cons x r ih => simp only [List.map_cons, List.zip_cons_cons, ih]
  have h2 : (sp.1.map fun x => (x.1, x.2.ap (st.slots x.1))).map (·.2) = seenV sp st := by
    unfold seenV; rw [List.map_map]; rfl
  simp only [h1, h2]

end
end Go.Proofs.YtanfoijdfcnpoaaGreatDoor.Ev
