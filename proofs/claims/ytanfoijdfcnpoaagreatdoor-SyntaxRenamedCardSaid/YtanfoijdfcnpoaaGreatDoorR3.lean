/- This file proves plain laws of a reader of raw expressions over tokens: what it leaves, and that it ends; without any condition. -/
import Derived.Test.YtanfoijdfcnpoaaGreatDoorR0
set_option linter.unusedVariables false
set_option linter.unusedSimpArgs false
namespace Go.Proofs.YtanfoijdfcnpoaaGreatDoor.Ev

abbrev tLB : ByteArray := ByteArray.mk #[123]
abbrev tRB : ByteArray := ByteArray.mk #[125]
abbrev tLS : ByteArray := ByteArray.mk #[91]
abbrev tRS : ByteArray := ByteArray.mk #[93]
abbrev tLP : ByteArray := ByteArray.mk #[40]
abbrev tRP : ByteArray := ByteArray.mk #[41]
abbrev tCo : ByteArray := ByteArray.mk #[58]
abbrev tAr : ByteArray := ByteArray.mk #[45, 62]
abbrev tAl : ByteArray := ByteArray.mk #[60, 45]
abbrev tTy : ByteArray := ByteArray.mk #[116, 121, 112, 101]
abbrev tNo : ByteArray := ByteArray.mk #[]

/-- Whether the next token is one of these signs. -/
def sees : List Tok → List ByteArray → Bool
  | [], _ => false
  | t :: _, ws => t.kind == 4 && ws.any (strEq t.text)

def atomicB (ts : List Tok) : Bool :=
  match ts with
  | [] => false
  | t :: _ => t.kind == 1 || (t.kind == 2 || (t.kind == 3 || sees ts [tLP]))

def isNameB (t : Tok) : Bool := t.kind == 2 || (t.kind == 1 && !strEq t.text tTy)

def atomOf : List Tok → Rw
  | [] => ⟨0, tNo, []⟩
  | t :: _ => bif t.kind == 3 then ⟨3, tNo, []⟩ else bif strEq t.text tTy then ⟨1, tNo, []⟩ else ⟨2, t.text, []⟩

/-- What a reader leaves: an expression, whether it is closed, and the tokens behind it; or the tokens where it stopped. -/
inductive PRes
  | ok (x : Rw) (c : Bool) (ts : List Tok)
  | err (ts : List Tok)

inductive Tag
  | expr | atom | app | appL (x : Rw) | arrL (x : Rw) (c : Bool) | binder

/-- The result of a reader goes on, or stops. -/
def andR (r : Option PRes) (f : Rw → Bool → List Tok → Option PRes) : Option PRes :=
  match r with
  | some (.ok x c ts) => f x c ts
  | r => r

/-- The reader, with so much fuel. -/
def pr : Nat → Tag → List Tok → Option PRes
  | 0, _, _ => none
  | f + 1, .expr, ts =>
    bif sees ts [tLB, tLS] then pr f .binder ts else
    andR (pr f .app ts) fun x c ts1 =>
      bif c then some (.ok x c ts1) else
      bif sees ts1 [tAr] then andR (pr f .expr ts1.tail) fun y _ ts2 => some (.ok ⟨6, tNo, [x, y]⟩ false ts2) else
      pr f (.arrL x c) ts1
  | f + 1, .atom, ts =>
    bif atomicB ts then
      bif sees ts [tLP] then andR (pr f .expr ts.tail) fun x _ ts1 => bif sees ts1 [tRP] then some (.ok x false ts1.tail) else some (.err ts1)
      else some (.ok (atomOf ts) false ts.tail)
    else some (.err ts)
  | f + 1, .app, ts =>
    andR (pr f .atom ts) fun x _ ts1 => andR (pr f (.appL x) ts1) fun y _ ts2 =>
      bif sees ts2 [tLB, tLS] then andR (pr f .binder ts2) fun z _ ts3 => some (.ok ⟨4, tNo, [y, z]⟩ true ts3)
      else some (.ok y false ts2)
  | f + 1, .appL x, ts =>
    bif atomicB ts then andR (pr f .atom ts) fun y _ ts1 => pr f (.appL ⟨4, tNo, [x, y]⟩) ts1
    else some (.ok x false ts)
  | f + 1, .arrL x c, ts =>
    bif c then some (.ok x c ts) else
    bif sees ts [tAl] then
      bif sees ts.tail [tLB, tLS] then andR (pr f .binder ts.tail) fun y _ ts1 => pr f (.arrL ⟨6, tNo, [y, x]⟩ true) ts1
      else andR (pr f .app ts.tail) fun y c' ts1 => pr f (.arrL ⟨6, tNo, [y, x]⟩ c') ts1
    else some (.ok x c ts)
  | f + 1, .binder, ts =>
    match ts.tail with
    | [] => some (.err ts)
    | t :: r =>
      bif sees ts [tLB, tLS] then
        bif isNameB t then
          andR (bif sees r [tCo] then pr f .expr r.tail else some (.ok ⟨3, tNo, []⟩ false r)) fun x _ ts1 =>
            bif sees ts1 [bif sees ts [tLS] then tRS else tRB] then andR (pr f .expr ts1.tail) fun y _ ts2 => some (.ok ⟨bif sees ts [tLS] then 7 else 5, t.text, [x, y]⟩ false ts2)
            else some (.err ts1)
        else some (.err (t :: r))
      else some (.err ts)

/-- The last token, and it alone, is the end. -/
def Gd (ts : List Tok) : Prop := ∃ pre e, ts = pre ++ [e] ∧ e.kind = 7

theorem Gd.ne {ts : List Tok} (h : Gd ts) : ts ≠ [] := by
  obtain ⟨p, e, rfl, _⟩ := h; simp
theorem Gd.tail {t : Tok} {r : List Tok} (h : Gd (t :: r)) (ht : t.kind ≠ 7) : Gd r := by
  obtain ⟨p, e, h1, h2⟩ := h
  cases p with
  | nil => simp at h1; exact absurd (h1.1 ▸ h2) ht
  | cons a p => simp at h1; exact ⟨p, e, h1.2, h2⟩
theorem Gd.suf {ts l : List Tok} (h : Gd l) (hs : ts <:+ l) (hne : ts ≠ []) : Gd ts := by
  obtain ⟨p, e, rfl, h2⟩ := h
  obtain ⟨q, hq⟩ := hs
  obtain ⟨ys, y, rfl⟩ : ∃ ys y, ts = ys ++ [y] := ⟨ts.dropLast, ts.getLast hne, (List.dropLast_concat_getLast hne).symm⟩
  rw [← List.append_assoc] at hq
  have := List.append_inj' hq rfl
  refine ⟨ys, y, rfl, ?_⟩
  have h3 := this.2
  simp at h3
  rw [h3]; exact h2

theorem sees_kind {ts : List Tok} {ws : List ByteArray} (h : sees ts ws = true) : ∃ t r, ts = t :: r ∧ t.kind = 4 := by
  cases ts with
  | nil => cases h
  | cons t r =>
    simp only [sees, Bool.and_eq_true, beq_iff_eq] at h
    exact ⟨t, r, rfl, h.1⟩

theorem atomic_kind {ts : List Tok} (h : atomicB ts = true) : ∃ t r, ts = t :: r ∧ t.kind ≠ 7 := by
  cases ts with
  | nil => cases h
  | cons t r =>
    refine ⟨t, r, rfl, fun h7 => ?_⟩
    simp only [atomicB, sees, h7] at h
    exact absurd h (by simp)

theorem isName_kind {t : Tok} (h : isNameB t = true) : t.kind ≠ 7 := by
  intro h7
  simp only [isNameB, h7] at h
  exact absurd h (by simp)

def PRes.rest : PRes → List Tok
  | .ok _ _ ts => ts
  | .err ts => ts

/-- What is left is behind what was there. -/
def Tag.eats : Tag → Nat
  | .expr | .atom | .app | .binder => 1
  | _ => 0
def PRes.oks : PRes → Nat
  | .ok .. => 1
  | .err _ => 0

/-- What a step of the reader must keep. -/
def Keeps (n : Nat) (ts : List Tok) (res : PRes) : Prop := res.rest <:+ ts ∧ Gd res.rest ∧ res.rest.length + res.oks * n ≤ ts.length

theorem keeps_err {n : Nat} {ts ts' : List Tok} (h : ts' <:+ ts) (hg : Gd ts') : Keeps n ts (.err ts') := ⟨h, hg, by have := h.length_le; simp only [PRes.rest, PRes.oks]; omega⟩
theorem keeps_ok {n : Nat} {ts ts' : List Tok} {x : Rw} {c : Bool} (h : ts' <:+ ts) (hg : Gd ts') (hl : ts'.length + n ≤ ts.length) : Keeps n ts (.ok x c ts') := ⟨h, hg, by simp only [PRes.rest, PRes.oks]; omega⟩
theorem Keeps.mono {n m : Nat} {ts ts0 : List Tok} {res : PRes} (h : Keeps n ts res) (hs : ts <:+ ts0) (hm : m + ts.length ≤ n + ts0.length) : Keeps m ts0 res := by
  obtain ⟨h1, h2, h3⟩ := h
  have := hs.length_le
  have := h1.length_le
  refine ⟨h1.trans hs, h2, ?_⟩
  cases res <;> simp only [PRes.rest, PRes.oks] at * <;> omega

theorem andR_some {r : Option PRes} {f : Rw → Bool → List Tok → Option PRes} {res : PRes} (h : andR r f = some res) :
    (∃ x c ts, r = some (.ok x c ts) ∧ f x c ts = some res) ∨ (∃ ts, r = some (.err ts) ∧ res = .err ts) := by
  unfold andR at h
  split at h
  · exact .inl ⟨_, _, _, rfl, h⟩
  · rename_i r' hr
    cases res with
    | ok x c ts => exact absurd h (hr x c ts)
    | err ts => exact .inr ⟨ts, h, rfl⟩

theorem bif_some {α : Type} {b : Bool} {p q : Option α} {x : α} (h : (bif b then p else q) = some x) : (b = true ∧ p = some x) ∨ (b = false ∧ q = some x) := by
  cases b
  · exact .inr ⟨rfl, h⟩
  · exact .inl ⟨rfl, h⟩

theorem suf_tl (ts : List Tok) : ts.tail <:+ ts := List.tail_suffix ts
theorem gd_tl {ts : List Tok} (h : Gd ts) (hk : ∃ t r, ts = t :: r ∧ t.kind ≠ 7) : Gd ts.tail ∧ ts.tail.length + 1 = ts.length := by
  obtain ⟨t, r, rfl, h1⟩ := hk
  exact ⟨h.tail h1, by simp⟩
theorem sees7 {ts : List Tok} {ws : List ByteArray} (h : sees ts ws = true) : ∃ t r, ts = t :: r ∧ t.kind ≠ 7 := by
  obtain ⟨t, r, h1, h2⟩ := sees_kind h
  exact ⟨t, r, h1, by rw [h2]; decide⟩

theorem pr_keeps : ∀ (f : Nat) (tag : Tag) (ts : List Tok) (res : PRes), pr f tag ts = some res → Gd ts → Keeps tag.eats ts res := by
  intro f
  induction f with
  | zero => intro tag ts res h; cases h
  | succ f ih =>
    intro tag ts res h hg
    cases tag with
    | expr =>
      simp only [pr] at h
      rcases bif_some h with ⟨hs, h⟩ | ⟨hs, h⟩
      · exact ih .binder ts res h hg
      rcases andR_some h with ⟨x, c, ts1, h1, h⟩ | ⟨ts1, h1, rfl⟩
      · obtain ⟨a1, a2, a3⟩ := ih _ _ _ h1 hg
        simp only [PRes.rest, PRes.oks, Tag.eats] at a1 a2 a3
        rcases bif_some h with ⟨hc, h⟩ | ⟨hc, h⟩
        · cases h; exact keeps_ok a1 a2 (by simp only [Tag.eats]; omega)
        rcases bif_some h with ⟨hs1, h⟩ | ⟨hs1, h⟩
        · obtain ⟨g1, g2⟩ := gd_tl a2 (sees7 hs1)
          rcases andR_some h with ⟨y, c2, ts2, h2, h⟩ | ⟨ts2, h2, rfl⟩
          · cases h
            obtain ⟨b1, b2, b3⟩ := ih _ _ _ h2 g1
            simp only [PRes.rest, PRes.oks, Tag.eats] at b1 b2 b3
            exact keeps_ok ((b1.trans (suf_tl _)).trans a1) b2 (by simp only [Tag.eats]; omega)
          · obtain ⟨b1, b2, b3⟩ := ih _ _ _ h2 g1
            exact keeps_err ((b1.trans (suf_tl _)).trans a1) b2
        · exact (ih _ _ _ h a2).mono a1 (by simp only [Tag.eats]; omega)
      · obtain ⟨a1, a2, a3⟩ := ih _ _ _ h1 hg
        exact keeps_err a1 a2
    | atom =>
      simp only [pr] at h
      rcases bif_some h with ⟨ha, h⟩ | ⟨ha, h⟩
      · obtain ⟨g1, g2⟩ := gd_tl hg (atomic_kind ha)
        rcases bif_some h with ⟨hs, h⟩ | ⟨hs, h⟩
        · rcases andR_some h with ⟨x, c, ts1, h1, h⟩ | ⟨ts1, h1, rfl⟩
          · obtain ⟨a1, a2, a3⟩ := ih _ _ _ h1 g1
            simp only [PRes.rest, PRes.oks, Tag.eats] at a1 a2 a3
            rcases bif_some h with ⟨hs1, h⟩ | ⟨hs1, h⟩
            · cases h
              obtain ⟨g3, g4⟩ := gd_tl a2 (sees7 hs1)
              exact keeps_ok (((suf_tl _).trans a1).trans (suf_tl _)) g3 (by simp only [Tag.eats]; omega)
            · cases h
              exact keeps_err (a1.trans (suf_tl _)) a2
          · obtain ⟨a1, a2, a3⟩ := ih _ _ _ h1 g1
            exact keeps_err (a1.trans (suf_tl _)) a2
        · cases h
          exact keeps_ok (suf_tl _) g1 (by simp only [Tag.eats]; omega)
      · cases h
        exact keeps_err (List.suffix_refl _) hg
    | app =>
      simp only [pr] at h
      rcases andR_some h with ⟨x, c, ts1, h1, h⟩ | ⟨ts1, h1, rfl⟩
      · obtain ⟨a1, a2, a3⟩ := ih _ _ _ h1 hg
        simp only [PRes.rest, PRes.oks, Tag.eats] at a1 a2 a3
        rcases andR_some h with ⟨y, c2, ts2, h2, h⟩ | ⟨ts2, h2, rfl⟩
        · obtain ⟨b1, b2, b3⟩ := ih _ _ _ h2 a2
          simp only [PRes.rest, PRes.oks, Tag.eats] at b1 b2 b3
          rcases bif_some h with ⟨hs1, h⟩ | ⟨hs1, h⟩
          · rcases andR_some h with ⟨z, c3, ts3, h3, h⟩ | ⟨ts3, h3, rfl⟩
            · cases h
              obtain ⟨d1, d2, d3⟩ := ih _ _ _ h3 b2
              simp only [PRes.rest, PRes.oks, Tag.eats] at d1 d2 d3
              exact keeps_ok ((d1.trans b1).trans a1) d2 (by simp only [Tag.eats]; omega)
            · obtain ⟨d1, d2, d3⟩ := ih _ _ _ h3 b2
              exact keeps_err ((d1.trans b1).trans a1) d2
          · cases h
            exact keeps_ok (b1.trans a1) b2 (by simp only [Tag.eats]; omega)
        · obtain ⟨b1, b2, b3⟩ := ih _ _ _ h2 a2
          exact keeps_err (b1.trans a1) b2
      · obtain ⟨a1, a2, a3⟩ := ih _ _ _ h1 hg
        exact keeps_err a1 a2
    | appL x =>
      simp only [pr] at h
      rcases bif_some h with ⟨ha, h⟩ | ⟨ha, h⟩
      · rcases andR_some h with ⟨y, c, ts1, h1, h⟩ | ⟨ts1, h1, rfl⟩
        · obtain ⟨a1, a2, a3⟩ := ih _ _ _ h1 hg
          simp only [PRes.rest, PRes.oks, Tag.eats] at a1 a2 a3
          exact (ih _ _ _ h a2).mono a1 (by simp only [Tag.eats]; omega)
        · obtain ⟨a1, a2, a3⟩ := ih _ _ _ h1 hg
          exact keeps_err a1 a2
      · cases h
        exact keeps_ok (List.suffix_refl _) hg (by simp only [Tag.eats]; omega)
    | arrL x c =>
      simp only [pr] at h
      rcases bif_some h with ⟨hc, h⟩ | ⟨hc, h⟩
      · cases h
        exact keeps_ok (List.suffix_refl _) hg (by simp only [Tag.eats]; omega)
      rcases bif_some h with ⟨hs, h⟩ | ⟨hs, h⟩
      · obtain ⟨g1, g2⟩ := gd_tl hg (sees7 hs)
        rcases bif_some h with ⟨hs1, h⟩ | ⟨hs1, h⟩
        · rcases andR_some h with ⟨y, c2, ts1, h1, h⟩ | ⟨ts1, h1, rfl⟩
          · obtain ⟨a1, a2, a3⟩ := ih _ _ _ h1 g1
            simp only [PRes.rest, PRes.oks, Tag.eats] at a1 a2 a3
            exact (ih _ _ _ h a2).mono (a1.trans (suf_tl _)) (by simp only [Tag.eats]; omega)
          · obtain ⟨a1, a2, a3⟩ := ih _ _ _ h1 g1
            exact keeps_err (a1.trans (suf_tl _)) a2
        · rcases andR_some h with ⟨y, c2, ts1, h1, h⟩ | ⟨ts1, h1, rfl⟩
          · obtain ⟨a1, a2, a3⟩ := ih _ _ _ h1 g1
            simp only [PRes.rest, PRes.oks, Tag.eats] at a1 a2 a3
            exact (ih _ _ _ h a2).mono (a1.trans (suf_tl _)) (by simp only [Tag.eats]; omega)
          · obtain ⟨a1, a2, a3⟩ := ih _ _ _ h1 g1
            exact keeps_err (a1.trans (suf_tl _)) a2
      · cases h
        exact keeps_ok (List.suffix_refl _) hg (by simp only [Tag.eats]; omega)
    | binder =>
      cases ts with
      | nil => exact absurd rfl hg.ne
      | cons t0 r0 =>
        cases r0 with
        | nil => simp only [pr, List.tail_cons, Option.some.injEq] at h; subst h; exact keeps_err (List.suffix_refl _) hg
        | cons t r =>
          simp only [pr, List.tail_cons] at h
          rcases bif_some h with ⟨hs, h⟩ | ⟨hs, h⟩
          · obtain ⟨g1, g2⟩ := gd_tl hg (sees7 hs)
            simp only [List.tail_cons] at g1 g2
            have s0 : (t :: r) <:+ (t0 :: t :: r) := List.suffix_cons ..
            rcases bif_some h with ⟨hn, h⟩ | ⟨hn, h⟩
            · have g3 : Gd r := g1.tail (isName_kind hn)
              have s1 : r <:+ (t0 :: t :: r) := (List.suffix_cons ..).trans s0
              have fin : ∀ {x : Rw} {ts1 : List Tok}, ts1 <:+ r → Gd ts1 → (bif sees ts1 [bif sees (t0 :: t :: r) [tLS] then tRS else tRB] then andR (pr f .expr ts1.tail) fun y _ ts2 => some (.ok ⟨bif sees (t0 :: t :: r) [tLS] then 7 else 5, t.text, [x, y]⟩ false ts2)
            else some (.err ts1)) = some res → Keeps 1 (t0 :: t :: r) res := by
                intro x ts1 hsf hg1 h
                have hsl := hsf.length_le
                rcases bif_some h with ⟨he, h⟩ | ⟨he, h⟩
                · obtain ⟨g5, g6⟩ := gd_tl hg1 (sees7 he)
                  rcases andR_some h with ⟨y, c2, ts2, h2, h⟩ | ⟨ts2, h2, rfl⟩
                  · cases h
                    obtain ⟨b1, b2, b3⟩ := ih _ _ _ h2 g5
                    simp only [PRes.rest, PRes.oks, Tag.eats] at b1 b2 b3
                    exact keeps_ok (((b1.trans (suf_tl _)).trans hsf).trans s1) b2 (by simp only [List.length_cons]; omega)
                  · obtain ⟨b1, b2, b3⟩ := ih _ _ _ h2 g5
                    exact keeps_err (((b1.trans (suf_tl _)).trans hsf).trans s1) b2
                · cases h
                  exact keeps_err (hsf.trans s1) hg1
              rcases andR_some h with ⟨x, c, ts1, h1, h⟩ | ⟨ts1, h1, rfl⟩
              · rcases bif_some h1 with ⟨hc, h1⟩ | ⟨hc, h1⟩
                · obtain ⟨g5, g6⟩ := gd_tl g3 (sees7 hc)
                  obtain ⟨a1, a2, a3⟩ := ih _ _ _ h1 g5
                  exact fin (a1.trans (suf_tl _)) a2 h
                · cases h1
                  exact fin (List.suffix_refl _) g3 h
              · rcases bif_some h1 with ⟨hc, h1⟩ | ⟨hc, h1⟩
                · obtain ⟨g5, g6⟩ := gd_tl g3 (sees7 hc)
                  obtain ⟨a1, a2, a3⟩ := ih _ _ _ h1 g5
                  exact keeps_err ((a1.trans (suf_tl _)).trans s1) a2
                · cases h1
            · cases h
              exact keeps_err s0 g1
          · cases h
            exact keeps_err (List.suffix_refl _) hg

def Tag.rank : Tag → Nat
  | .atom | .binder => 0
  | .app | .appL _ | .arrL .. => 1
  | .expr => 2

theorem andR_ne {r : Option PRes} {f : Rw → Bool → List Tok → Option PRes} (h : r ≠ none) (hf : ∀ x c ts, r = some (.ok x c ts) → f x c ts ≠ none) : andR r f ≠ none := by
  cases r with
  | none => exact absurd rfl h
  | some p =>
    cases p with
    | ok x c ts => exact hf x c ts rfl
    | err ts => simp [andR]

theorem bif_ne {α : Type} {b : Bool} {p q : Option α} (hp : b = true → p ≠ none) (hq : b = false → q ≠ none) : (bif b then p else q) ≠ none := by
  cases b
  · exact hq rfl
  · exact hp rfl

/-- With fuel enough the reader ends. -/
theorem pr_ends : ∀ (f : Nat) (tag : Tag) (ts : List Tok), Gd ts → 4 * ts.length + tag.rank < f → pr f tag ts ≠ none := by
  intro f
  induction f with
  | zero => intro tag ts _ h; omega
  | succ f ih =>
    intro tag ts hg hf
    have K : ∀ {tag ts x c ts1}, pr f tag ts = some (.ok x c ts1) → Gd ts → ts1.length + tag.eats ≤ ts.length ∧ Gd ts1 := by
      intro tag ts x c ts1 h hg
      obtain ⟨a1, a2, a3⟩ := pr_keeps _ _ _ _ h hg
      simp only [PRes.rest, PRes.oks] at a2 a3
      exact ⟨by omega, a2⟩
    cases tag with
    | expr =>
      simp only [pr, Tag.rank] at hf ⊢
      refine bif_ne (fun _ => ih _ _ hg (by simp only [Tag.rank]; omega)) fun _ => andR_ne (ih _ _ hg (by simp only [Tag.rank]; omega)) fun x c ts1 h1 => bif_ne (fun _ => by simp) fun _ => ?_
      obtain ⟨k1, k2⟩ := K h1 hg
      simp only [Tag.eats] at k1
      refine bif_ne (fun hs => ?_) fun _ => ih _ _ k2 (by simp only [Tag.rank]; omega)
      obtain ⟨g1, g2⟩ := gd_tl k2 (sees7 hs)
      exact andR_ne (ih _ _ g1 (by simp only [Tag.rank]; omega)) fun _ _ _ _ => by simp
    | atom =>
      simp only [pr, Tag.rank] at hf ⊢
      refine bif_ne (fun ha => bif_ne (fun hs => ?_) fun _ => by simp) fun _ => by simp
      obtain ⟨g1, g2⟩ := gd_tl hg (sees7 hs)
      exact andR_ne (ih _ _ g1 (by simp only [Tag.rank]; omega)) fun _ _ _ _ => bif_ne (fun _ => by simp) fun _ => by simp
    | app =>
      simp only [pr, Tag.rank] at hf ⊢
      refine andR_ne (ih _ _ hg (by simp only [Tag.rank]; omega)) fun x c ts1 h1 => ?_
      obtain ⟨k1, k2⟩ := K h1 hg
      simp only [Tag.eats] at k1
      refine andR_ne (ih _ _ k2 (by simp only [Tag.rank]; omega)) fun y c2 ts2 h2 => ?_
      obtain ⟨k3, k4⟩ := K h2 k2
      simp only [Tag.eats] at k3
      exact bif_ne (fun _ => andR_ne (ih _ _ k4 (by simp only [Tag.rank]; omega)) fun _ _ _ _ => by simp) fun _ => by simp
    | appL x =>
      simp only [pr, Tag.rank] at hf ⊢
      refine bif_ne (fun ha => andR_ne (ih _ _ hg (by simp only [Tag.rank]; omega)) fun y c ts1 h1 => ?_) fun _ => by simp
      obtain ⟨k1, k2⟩ := K h1 hg
      simp only [Tag.eats] at k1
      exact ih _ _ k2 (by simp only [Tag.rank]; omega)
    | arrL x c =>
      simp only [pr, Tag.rank] at hf ⊢
      refine bif_ne (fun _ => by simp) fun _ => bif_ne (fun hs => ?_) fun _ => by simp
      obtain ⟨g1, g2⟩ := gd_tl hg (sees7 hs)
      refine bif_ne (fun _ => andR_ne (ih _ _ g1 (by simp only [Tag.rank]; omega)) fun y c ts1 h1 => ?_) fun _ => andR_ne (ih _ _ g1 (by simp only [Tag.rank]; omega)) fun y c ts1 h1 => ?_
      · obtain ⟨k1, k2⟩ := K h1 g1
        simp only [Tag.eats] at k1
        exact ih _ _ k2 (by simp only [Tag.rank]; omega)
      · obtain ⟨k1, k2⟩ := K h1 g1
        simp only [Tag.eats] at k1
        exact ih _ _ k2 (by simp only [Tag.rank]; omega)
    | binder =>
      cases ts with
      | nil => exact absurd rfl hg.ne
      | cons t0 r0 =>
        cases r0 with
        | nil => simp [pr]
        | cons t r =>
          simp only [pr, List.tail_cons, Tag.rank, List.length_cons] at hf ⊢
          refine bif_ne (fun hs => bif_ne (fun hn => ?_) fun _ => by simp) fun _ => by simp
          obtain ⟨g1, g2⟩ := gd_tl hg (sees7 hs)
          simp only [List.tail_cons] at g1 g2
          have g3 : Gd r := g1.tail (isName_kind hn)
          have fin : ∀ {x : Rw} {ts1 : List Tok}, ts1.length ≤ r.length → Gd ts1 → (bif sees ts1 [bif sees (t0 :: t :: r) [tLS] then tRS else tRB] then andR (pr f .expr ts1.tail) fun y _ ts2 => some (.ok ⟨bif sees (t0 :: t :: r) [tLS] then 7 else 5, t.text, [x, y]⟩ false ts2)
            else some (.err ts1)) ≠ none := by
            intro x ts1 hl hg1
            refine bif_ne (fun he => ?_) fun _ => by simp
            obtain ⟨g5, g6⟩ := gd_tl hg1 (sees7 he)
            exact andR_ne (ih _ _ g5 (by simp only [Tag.rank]; omega)) fun _ _ _ _ => by simp
          refine andR_ne (bif_ne (fun hc => ?_) fun _ => by simp) fun x c ts1 h1 => ?_
          · obtain ⟨g5, g6⟩ := gd_tl g3 (sees7 hc)
            exact ih _ _ g5 (by simp only [Tag.rank]; omega)
          · rcases bif_some h1 with ⟨hc, h1⟩ | ⟨hc, h1⟩
            · obtain ⟨g5, g6⟩ := gd_tl g3 (sees7 hc)
              obtain ⟨k1, k2⟩ := K h1 g5
              simp only [Tag.eats] at k1
              exact fin (by omega) k2
            · cases h1
              exact fin (Nat.le_refl _) g3

end Go.Proofs.YtanfoijdfcnpoaaGreatDoor.Ev
