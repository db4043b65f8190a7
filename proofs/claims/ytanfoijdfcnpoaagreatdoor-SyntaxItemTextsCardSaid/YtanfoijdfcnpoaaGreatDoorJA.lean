/- This file proves what the program's Items returns, and when items are well formed; without any condition. -/
import Derived.Test.YtanfoijdfcnpoaaGreatDoorR5
set_option linter.unusedVariables false
set_option linter.unusedSimpArgs false
namespace Go.Proofs.YtanfoijdfcnpoaaGreatDoor.Ev

abbrev tPl : ByteArray := ByteArray.mk #[43]
abbrev tMi : ByteArray := ByteArray.mk #[45]
abbrev tSt : ByteArray := ByteArray.mk #[42]
abbrev tBa : ByteArray := ByteArray.mk #[124]
abbrev tEq : ByteArray := ByteArray.mk #[61]
abbrev tDo : ByteArray := ByteArray.mk #[46]

/-- The number that digits say. -/
def numT (w : ByteArray) : Int := match dig10 0 w.data.toList with | some v => v | none => 0

def hdT : List Tok → Tok
  | [] => ⟨7, tNo, 0⟩
  | t :: _ => t

/-- The reader of expressions, with fuel enough. -/
def prE (ts : List Tok) : Option PRes := pr (4 * ts.length + 3) .expr ts

inductive QRes
  | one (x : Pt) (ts : List Tok)
  | all (l : List Pt) (ts : List Tok)
  | err (ts : List Tok)

inductive QTag
  | part
  | parts (e : ByteArray) (acc : List Pt)

def andE (r : Option PRes) (f : Rw → List Tok → Option QRes) : Option QRes :=
  match r with
  | some (.ok x _ ts) => f x ts
  | some (.err ts) => some (.err ts)
  | none => none
def andO (r : Option QRes) (f : Pt → List Tok → Option QRes) : Option QRes :=
  match r with
  | some (.one x ts) => f x ts
  | some (.err ts) => some (.err ts)
  | _ => none
def andA (r : Option QRes) (f : List Pt → List Tok → Option QRes) : Option QRes :=
  match r with
  | some (.all l ts) => f l ts
  | some (.err ts) => some (.err ts)
  | _ => none

/-- A name, and a colon. -/
def bindB : List Tok → Bool
  | n :: c :: _ => isNameB n && (c.kind == 4 && strEq c.text tCo)
  | _ => false

/-- The reader of parts, with so much fuel. -/
def qr : Nat → QTag → List Tok → Option QRes
  | 0, _, _ => none
  | f + 1, .part, ts =>
    bif isNameB (hdT ts) then some (.one ⟨1, tNo, (hdT ts).text, 0, zR, []⟩ ts.tail)
    else bif (hdT ts).kind == 6 then some (.one ⟨3, tNo, tNo, numT (hdT ts).text, zR, []⟩ ts.tail)
    else bif sees ts [tPl, tMi, tSt] then
      bif isNameB (hdT ts.tail) then some (.one ⟨2, (hdT ts).text, (hdT ts.tail).text, 0, zR, []⟩ ts.tail.tail) else some (.err ts.tail)
    else bif sees ts [tCo, tBa, tEq] then some (.one ⟨8, (hdT ts).text, tNo, 0, zR, []⟩ ts.tail)
    else bif sees ts [tLP] then andE (prE ts.tail) fun x ts1 => bif sees ts1 [tRP] then some (.one ⟨4, tNo, tNo, 0, x, []⟩ ts1.tail) else some (.err ts1)
    else bif sees ts [tLS] then andA (qr f (.parts tRS []) ts.tail) fun l ts1 => some (.one ⟨6, tNo, tNo, 0, zR, l⟩ ts1)
    else bif sees ts [tLB] then
      bif bindB ts.tail then andE (prE ts.tail.tail.tail) fun x ts1 => bif sees ts1 [tRB] then some (.one ⟨7, tNo, (hdT ts.tail).text, 0, x, []⟩ ts1.tail) else some (.err ts1)
      else andA (qr f (.parts tRB []) ts.tail) fun l ts1 => some (.one ⟨5, tNo, tNo, 0, zR, l⟩ ts1)
    else some (.err ts)
  | f + 1, .parts e acc, ts =>
    bif sees ts [e] then some (.all acc ts.tail)
    else andO (qr f .part ts) fun x ts1 => qr f (.parts e (acc ++ [x])) ts1

def QRes.rest : QRes → List Tok
  | .one _ ts => ts
  | .all _ ts => ts
  | .err ts => ts

/-- What a step of the reader must keep. -/
def KeepQ (tag : QTag) (ts : List Tok) (res : QRes) : Prop :=
  res.rest <:+ ts ∧ Gd res.rest ∧ match tag, res with
    | .part, .one _ ts' => ts'.length + 1 ≤ ts.length
    | .parts _ _, .all _ ts' => ts'.length + 1 ≤ ts.length
    | _, .err _ => True
    | _, _ => False

theorem keepq_err {tag : QTag} {ts ts' : List Tok} (h : ts' <:+ ts) (hg : Gd ts') : KeepQ tag ts (.err ts') := ⟨h, hg, by cases tag <;> trivial⟩
theorem keepq_one {ts ts' : List Tok} {x : Pt} (h : ts' <:+ ts) (hg : Gd ts') (hl : ts'.length + 1 ≤ ts.length) : KeepQ .part ts (.one x ts') := ⟨h, hg, hl⟩
theorem keepq_all {e : ByteArray} {acc : List Pt} {ts ts' : List Tok} {l : List Pt} (h : ts' <:+ ts) (hg : Gd ts') (hl : ts'.length + 1 ≤ ts.length) : KeepQ (.parts e acc) ts (.all l ts') := ⟨h, hg, hl⟩

theorem andE_some {r : Option PRes} {f : Rw → List Tok → Option QRes} {res : QRes} (h : andE r f = some res) :
    (∃ x c ts, r = some (.ok x c ts) ∧ f x ts = some res) ∨ (∃ ts, r = some (.err ts) ∧ res = .err ts) := by
  unfold andE at h
  split at h
  · exact .inl ⟨_, _, _, rfl, h⟩
  · cases h; exact .inr ⟨_, rfl, rfl⟩
  · cases h
theorem andO_some {r : Option QRes} {f : Pt → List Tok → Option QRes} {res : QRes} (h : andO r f = some res) :
    (∃ x ts, r = some (.one x ts) ∧ f x ts = some res) ∨ (∃ ts, r = some (.err ts) ∧ res = .err ts) := by
  unfold andO at h
  split at h
  · exact .inl ⟨_, _, rfl, h⟩
  · cases h; exact .inr ⟨_, rfl, rfl⟩
  · cases h
theorem andA_some {r : Option QRes} {f : List Pt → List Tok → Option QRes} {res : QRes} (h : andA r f = some res) :
    (∃ l ts, r = some (.all l ts) ∧ f l ts = some res) ∨ (∃ ts, r = some (.err ts) ∧ res = .err ts) := by
  unfold andA at h
  split at h
  · exact .inl ⟨_, _, rfl, h⟩
  · cases h; exact .inr ⟨_, rfl, rfl⟩
  · cases h

theorem prE_some {ts : List Tok} (hg : Gd ts) : ∃ res, prE ts = some res := by
  cases h : prE ts with
  | none => exact absurd h (pr_ends _ .expr ts hg (by simp only [Tag.rank]; omega))
  | some res => exact ⟨res, rfl⟩
theorem prE_keeps {ts : List Tok} {res : PRes} (h : prE ts = some res) (hg : Gd ts) : res.rest <:+ ts ∧ Gd res.rest := by
  obtain ⟨a, b, _⟩ := pr_keeps _ _ _ _ h hg
  exact ⟨a, b⟩

theorem hd7 {ts : List Tok} (hg : Gd ts) (h : (hdT ts).kind ≠ 7) : ∃ t r, ts = t :: r ∧ t.kind ≠ 7 := by
  cases ts with
  | nil => exact absurd rfl hg.ne
  | cons t r => exact ⟨t, r, rfl, h⟩
theorem bind_two {ts : List Tok} (h : bindB ts = true) : ∃ n c r, ts = n :: c :: r ∧ isNameB n = true ∧ c.kind = 4 ∧ strEq c.text tCo = true := by
  unfold bindB at h
  split at h
  · rename_i n c r
    simp only [Bool.and_eq_true, beq_iff_eq] at h
    exact ⟨n, c, r, rfl, h.1, h.2.1, h.2.2⟩
  · cases h

theorem qr_keeps : ∀ (f : Nat) (tag : QTag) (ts : List Tok) (res : QRes), qr f tag ts = some res → Gd ts → KeepQ tag ts res := by
  intro f
  induction f with
  | zero => intro tag ts res h; cases h
  | succ f ih =>
    intro tag ts res h hg
    cases tag with
    | part =>
      simp only [qr] at h
      rcases bif_some h with ⟨h1, h⟩ | ⟨h1, h⟩
      · cases h
        obtain ⟨g1, g2⟩ := gd_tl hg (hd7 hg (isName_kind h1))
        exact keepq_one (suf_tl _) g1 (by omega)
      rcases bif_some h with ⟨h2, h⟩ | ⟨h2, h⟩
      · cases h
        obtain ⟨g1, g2⟩ := gd_tl hg (hd7 hg (by rw [eq_of_beq h2]; decide))
        exact keepq_one (suf_tl _) g1 (by omega)
      rcases bif_some h with ⟨h3, h⟩ | ⟨h3, h⟩
      · obtain ⟨g1, g2⟩ := gd_tl hg (sees7 h3)
        rcases bif_some h with ⟨h4, h⟩ | ⟨h4, h⟩
        · cases h
          obtain ⟨g3, g4⟩ := gd_tl g1 (hd7 g1 (isName_kind h4))
          exact keepq_one ((suf_tl _).trans (suf_tl _)) g3 (by omega)
        · cases h; exact keepq_err (suf_tl _) g1
      rcases bif_some h with ⟨h4, h⟩ | ⟨h4, h⟩
      · cases h
        obtain ⟨g1, g2⟩ := gd_tl hg (sees7 h4)
        exact keepq_one (suf_tl _) g1 (by omega)
      rcases bif_some h with ⟨h5, h⟩ | ⟨h5, h⟩
      · obtain ⟨g1, g2⟩ := gd_tl hg (sees7 h5)
        rcases andE_some h with ⟨x, c, ts1, h6, h⟩ | ⟨ts1, h6, rfl⟩
        · obtain ⟨a1, a2⟩ := prE_keeps h6 g1
          simp only [PRes.rest] at a1 a2
          have := a1.length_le
          rcases bif_some h with ⟨h7, h⟩ | ⟨h7, h⟩
          · cases h
            obtain ⟨g3, g4⟩ := gd_tl a2 (sees7 h7)
            exact keepq_one (((suf_tl _).trans a1).trans (suf_tl _)) g3 (by omega)
          · cases h; exact keepq_err (a1.trans (suf_tl _)) a2
        · obtain ⟨a1, a2⟩ := prE_keeps h6 g1
          exact keepq_err (a1.trans (suf_tl _)) a2
      rcases bif_some h with ⟨h6, h⟩ | ⟨h6, h⟩
      · obtain ⟨g1, g2⟩ := gd_tl hg (sees7 h6)
        rcases andA_some h with ⟨l, ts1, h7, h⟩ | ⟨ts1, h7, rfl⟩
        · cases h
          obtain ⟨a1, a2, a3⟩ := ih _ _ _ h7 g1
          simp only [QRes.rest] at a1 a2 a3
          exact keepq_one (a1.trans (suf_tl _)) a2 (by omega)
        · obtain ⟨a1, a2, a3⟩ := ih _ _ _ h7 g1
          exact keepq_err (a1.trans (suf_tl _)) a2
      rcases bif_some h with ⟨h7, h⟩ | ⟨h7, h⟩
      · obtain ⟨g1, g2⟩ := gd_tl hg (sees7 h7)
        rcases bif_some h with ⟨h8, h⟩ | ⟨h8, h⟩
        · obtain ⟨n, c, r, hr, hn, hc, _⟩ := bind_two h8
          rw [hr] at g1 h
          rw [hr] at g2
          have g3 := g1.tail (isName_kind hn)
          have g4 := g3.tail (by rw [hc]; decide)
          have sr : r <:+ ts := ((List.suffix_cons c r).trans (List.suffix_cons n _)).trans (hr ▸ suf_tl ts)
          have hrl : r.length + 3 = ts.length := by simp only [List.length_cons] at g2; omega
          simp only [List.tail_cons] at h
          rcases andE_some h with ⟨x, c2, ts1, h9, h⟩ | ⟨ts1, h9, rfl⟩
          · obtain ⟨a1, a2⟩ := prE_keeps h9 g4
            simp only [PRes.rest] at a1 a2
            have := a1.length_le
            rcases bif_some h with ⟨h10, h⟩ | ⟨h10, h⟩
            · cases h
              obtain ⟨g5, g6⟩ := gd_tl a2 (sees7 h10)
              exact keepq_one (((suf_tl _).trans a1).trans sr) g5 (by omega)
            · cases h; exact keepq_err (a1.trans sr) a2
          · obtain ⟨a1, a2⟩ := prE_keeps h9 g4
            exact keepq_err (a1.trans sr) a2
        · rcases andA_some h with ⟨l, ts1, h9, h⟩ | ⟨ts1, h9, rfl⟩
          · cases h
            obtain ⟨a1, a2, a3⟩ := ih _ _ _ h9 g1
            simp only [QRes.rest] at a1 a2 a3
            exact keepq_one (a1.trans (suf_tl _)) a2 (by omega)
          · obtain ⟨a1, a2, a3⟩ := ih _ _ _ h9 g1
            exact keepq_err (a1.trans (suf_tl _)) a2
      cases h
      exact keepq_err (List.suffix_refl _) hg
    | parts e acc =>
      simp only [qr] at h
      rcases bif_some h with ⟨h1, h⟩ | ⟨h1, h⟩
      · cases h
        obtain ⟨g1, g2⟩ := gd_tl hg (sees7 h1)
        exact keepq_all (suf_tl _) g1 (by omega)
      rcases andO_some h with ⟨x, ts1, h2, h⟩ | ⟨ts1, h2, rfl⟩
      · obtain ⟨a1, a2, a3⟩ := ih _ _ _ h2 hg
        simp only [QRes.rest] at a1 a2 a3
        obtain ⟨b1, b2, b3⟩ := ih _ _ _ h a2
        refine ⟨b1.trans a1, b2, ?_⟩
        cases res with
        | one _ _ => exact b3
        | all l ts2 => exact Nat.le_trans b3 (by omega)
        | err _ => trivial
      · obtain ⟨a1, a2, a3⟩ := ih _ _ _ h2 hg
        exact keepq_err a1 a2

def QTag.rank : QTag → Nat
  | .part => 0
  | .parts _ _ => 1

theorem andE_ne {r : Option PRes} {f : Rw → List Tok → Option QRes} (h : ∃ p, r = some p) (hf : ∀ x c ts, r = some (.ok x c ts) → f x ts ≠ none) : andE r f ≠ none := by
  obtain ⟨p, rfl⟩ := h
  cases p with
  | ok x c ts => exact hf x c ts rfl
  | err ts => simp [andE]

/-- With fuel enough the reader ends. -/
theorem qr_ends : ∀ (f : Nat) (tag : QTag) (ts : List Tok), Gd ts → 2 * ts.length + tag.rank < f → qr f tag ts ≠ none := by
  intro f
  induction f with
  | zero => intro tag ts _ h; omega
  | succ f ih =>
    intro tag ts hg hf
    have A : ∀ {e ts} {k : List Pt → List Tok → Option QRes}, Gd ts → 2 * ts.length + 1 < f → (∀ l ts1, k l ts1 ≠ none) → andA (qr f (.parts e []) ts) k ≠ none := by
      intro e ts k hg hl hk
      have hne := ih (.parts e []) ts hg hl
      cases h : qr f (.parts e []) ts with
      | none => exact absurd h hne
      | some res =>
        obtain ⟨_, _, h3⟩ := qr_keeps _ _ _ _ h hg
        cases res with
        | one _ _ => exact h3.elim
        | all l ts1 => exact hk l ts1
        | err _ => simp [andA]
    cases tag with
    | part =>
      simp only [qr, QTag.rank] at hf ⊢
      refine bif_ne (fun _ => by simp) fun _ => bif_ne (fun _ => by simp) fun _ => bif_ne (fun h3 => bif_ne (fun _ => by simp) fun _ => by simp) fun _ => bif_ne (fun _ => by simp) fun _ => bif_ne (fun h5 => ?_) fun _ => bif_ne (fun h6 => ?_) fun _ => bif_ne (fun h7 => bif_ne (fun h8 => ?_) fun _ => ?_) fun _ => by simp
      · obtain ⟨g1, g2⟩ := gd_tl hg (sees7 h5)
        exact andE_ne (prE_some g1) fun x c ts1 h1 => bif_ne (fun _ => by simp) fun _ => by simp
      · obtain ⟨g1, g2⟩ := gd_tl hg (sees7 h6)
        exact A g1 (by omega) fun l ts1 => by simp
      · obtain ⟨g1, g2⟩ := gd_tl hg (sees7 h7)
        obtain ⟨n, c, r, hr, hn, hc, _⟩ := bind_two h8
        rw [hr] at g1 ⊢
        have g3 := g1.tail (isName_kind hn)
        have g4 := g3.tail (by rw [hc]; decide)
        exact andE_ne (prE_some g4) fun x c ts1 h1 => bif_ne (fun _ => by simp) fun _ => by simp
      · obtain ⟨g1, g2⟩ := gd_tl hg (sees7 h7)
        exact A g1 (by omega) fun l ts1 => by simp
    | parts e acc =>
      simp only [qr, QTag.rank] at hf ⊢
      refine bif_ne (fun _ => by simp) fun _ => ?_
      have hne := ih .part ts hg (by simp only [QTag.rank]; omega)
      cases h : qr f .part ts with
      | none => exact absurd h hne
      | some res =>
        obtain ⟨_, h2, h3⟩ := qr_keeps _ _ _ _ h hg
        cases res with
        | one x ts1 =>
          simp only [QRes.rest] at h2
          have h3 : ts1.length + 1 ≤ ts.length := h3
          exact ih _ ts1 h2 (by simp only [QTag.rank]; omega)
        | all l ts1 => exact h3.elim
        | err _ => simp [andO]

/-! ### Items -/

inductive IRes
  | ok (x : It) (ts : List Tok)
  | err (ts : List Tok)

def IRes.rest : IRes → List Tok
  | .ok _ ts => ts
  | .err ts => ts

/-- The reader of parts, with fuel enough. -/
def qrE (e : ByteArray) (ts : List Tok) : Option QRes := qr (2 * ts.length + 2) (.parts e []) ts

/-- The reader of one item. -/
def itemP (ts : List Tok) : Option IRes :=
  bif (hdT ts).kind == 5 then
    match qrE tDo ts.tail with
    | some (.all l ts1) => some (.ok ⟨ByteArray.extract (hdT ts).text 1 (hdT ts).text.size, tNo, zR, l⟩ ts1)
    | some (.err ts1) => some (.err ts1)
    | _ => none
  else bif (hdT ts).kind == 1 && !strEq (hdT ts).text tTy then
    bif sees ts.tail [tCo] then
      match prE ts.tail.tail with
      | some (.ok x _ ts1) => bif sees ts1 [tDo] then some (.ok ⟨tNo, (hdT ts).text, x, []⟩ ts1.tail) else some (.err ts1)
      | some (.err ts1) => some (.err ts1)
      | none => none
    else some (.err ts.tail)
  else some (.err ts)

theorem qrE_ends {e : ByteArray} {ts : List Tok} (hg : Gd ts) : (∃ l ts1, qrE e ts = some (.all l ts1) ∧ ts1 <:+ ts ∧ Gd ts1 ∧ ts1.length + 1 ≤ ts.length) ∨ ∃ ts1, qrE e ts = some (.err ts1) ∧ ts1 <:+ ts ∧ Gd ts1 := by
  have hne := qr_ends (2 * ts.length + 2) (.parts e []) ts hg (by simp only [QTag.rank]; omega)
  unfold qrE
  cases h : qr (2 * ts.length + 2) (.parts e []) ts with
  | none => exact absurd h hne
  | some res =>
    obtain ⟨h1, h2, h3⟩ := qr_keeps _ _ _ _ h hg
    cases res with
    | one _ _ => exact h3.elim
    | all l ts1 => exact .inl ⟨l, ts1, rfl, h1, h2, h3⟩
    | err ts1 => exact .inr ⟨ts1, rfl, h1, h2⟩

theorem itemP_ends {ts : List Tok} (hg : Gd ts) : (∃ x ts1, itemP ts = some (.ok x ts1) ∧ ts1 <:+ ts ∧ Gd ts1 ∧ ts1.length + 1 ≤ ts.length) ∨ ∃ ts1, itemP ts = some (.err ts1) ∧ ts1 <:+ ts ∧ Gd ts1 := by
  unfold itemP
  cases h5 : (hdT ts).kind == 5 with
  | true =>
    obtain ⟨g1, g2⟩ := gd_tl hg (hd7 hg (by rw [eq_of_beq h5]; decide))
    simp only [cond_true]
    rcases qrE_ends (e := tDo) g1 with ⟨l, ts1, h, h1, h2, h3⟩ | ⟨ts1, h, h1, h2⟩
    · rw [h]; exact .inl ⟨_, _, rfl, h1.trans (suf_tl _), h2, by omega⟩
    · rw [h]; exact .inr ⟨_, rfl, h1.trans (suf_tl _), h2⟩
  | false =>
    simp only [cond_false]
    cases h1 : ((hdT ts).kind == 1 && !strEq (hdT ts).text tTy) with
    | false => exact .inr ⟨_, rfl, List.suffix_refl _, hg⟩
    | true =>
      simp only [cond_true]
      have hk : (hdT ts).kind ≠ 7 := by
        simp only [Bool.and_eq_true, beq_iff_eq] at h1
        rw [h1.1]; decide
      obtain ⟨g1, g2⟩ := gd_tl hg (hd7 hg hk)
      cases hs : sees ts.tail [tCo] with
      | false => exact .inr ⟨_, rfl, suf_tl _, g1⟩
      | true =>
        simp only [cond_true]
        obtain ⟨g3, g4⟩ := gd_tl g1 (sees7 hs)
        obtain ⟨res, hr⟩ := prE_some g3
        obtain ⟨a1, a2⟩ := prE_keeps hr g3
        rw [hr]
        cases res with
        | err ts1 => exact .inr ⟨_, rfl, (a1.trans (suf_tl _)).trans (suf_tl _), a2⟩
        | ok x c ts1 =>
          simp only [PRes.rest] at a1 a2
          have := a1.length_le
          dsimp only
          cases hd : sees ts1 [tDo] with
          | false => simp only [cond_false]; exact .inr ⟨_, rfl, (a1.trans (suf_tl _)).trans (suf_tl _), a2⟩
          | true =>
            simp only [cond_true]
            obtain ⟨g5, g6⟩ := gd_tl a2 (sees7 hd)
            exact .inl ⟨_, _, rfl, (((suf_tl _).trans a1).trans (suf_tl _)).trans (suf_tl _), g5, by omega⟩

/-- The reader of items: all of them, or those before the one that is none, and the tokens where it stops. -/
def itemsP : Nat → List Tok → List It → Option (List It ⊕ (List It × List Tok))
  | 0, _, _ => none
  | f + 1, ts, r =>
    bif (hdT ts).kind == 7 then some (.inl r)
    else match itemP ts with
      | some (.ok x ts1) => itemsP f ts1 (r ++ [x])
      | some (.err ts1) => some (.inr (r, ts1))
      | none => none

theorem itemsP_ends : ∀ (f : Nat) (ts : List Tok) (r : List It), Gd ts → ts.length < f → ∃ out, itemsP f ts r = some out ∧ ∀ q, out = .inr q → q.2 <:+ ts ∧ Gd q.2
  | 0, ts, r, _, h => by omega
  | f + 1, ts, r, hg, h => by
    simp only [itemsP]
    cases h7 : (hdT ts).kind == 7 with
    | true => exact ⟨_, rfl, fun q e => by cases e⟩
    | false =>
      simp only [cond_false]
      rcases itemP_ends hg with ⟨x, ts1, hx, h1, h2, h3⟩ | ⟨ts1, hx, h1, h2⟩
      · rw [hx]
        obtain ⟨out, ho, hq⟩ := itemsP_ends f ts1 (r ++ [x]) h2 (by omega)
        exact ⟨out, ho, fun q e => ⟨(hq q e).1.trans h1, (hq q e).2⟩⟩
      · rw [hx]
        exact ⟨_, rfl, fun q e => by cases e; exact ⟨h1, h2⟩⟩

end Go.Proofs.YtanfoijdfcnpoaaGreatDoor.Ev

set_option linter.unusedVariables false
set_option linter.unusedSimpArgs false
namespace Go.Proofs.YtanfoijdfcnpoaaGreatDoor.Ev

/-! ### What a token's text is -/

structure TokN (t : Tok) : Prop where
  num : t.kind = 6 → numOk t.text.data.toList = true
  word : t.kind = 5 → ∃ w, t.text = mk (37 :: w) ∧ nameL smallB w = true
  small : t.kind = 1 → nameL smallB t.text.data.toList = true
  cap : t.kind = 2 → nameL capB t.text.data.toList = true

theorem next_tok {c : UInt8} {r : List UInt8} {x : Int × List UInt8} (h : next c r = some x) (p : Int) : TokN ⟨x.1, mk x.2, p⟩ := by
  have one : ∀ {b : Bool} {y : Int × List UInt8}, (bif b then some y else none) = some x → b = true ∧ y = x := by
    intro b y hb; cases b
    · cases hb
    · exact ⟨rfl, by simpa using hb⟩
  have no : ∀ {k : Int} {w : List UInt8}, k ≠ 1 → k ≠ 2 → k ≠ 5 → k ≠ 6 → x = (k, w) → TokN ⟨x.1, mk x.2, p⟩ := by
    intro k w h1 h2 h5 h6 hx; subst hx; exact ⟨fun h => absurd h h6, fun h => absurd h h5, fun h => absurd h h1, fun h => absurd h h2⟩
  unfold next at h
  simp only at h
  cases h1 : smallB (c.toNat : Int) with
  | true =>
    rw [h1, cond_true] at h
    obtain ⟨h2, rfl⟩ := one h
    exact ⟨fun h => absurd h (show ¬ ((1 : Int) = 6) by decide), fun h => absurd h (show ¬ ((1 : Int) = 5) by decide), fun _ => h2, fun h => absurd h (show ¬ ((1 : Int) = 2) by decide)⟩
  | false =>
  rw [h1, cond_false] at h
  cases h1 : capB (c.toNat : Int) with
  | true =>
    rw [h1, cond_true] at h
    obtain ⟨h2, rfl⟩ := one h
    exact ⟨fun h => absurd h (show ¬ ((2 : Int) = 6) by decide), fun h => absurd h (show ¬ ((2 : Int) = 5) by decide), fun h => absurd h (show ¬ ((2 : Int) = 1) by decide), fun _ => h2⟩
  | false =>
  rw [h1, cond_false] at h
  cases h1 : digB (c.toNat : Int) with
  | true =>
    rw [h1, cond_true] at h
    obtain ⟨h2, rfl⟩ := one h
    exact ⟨fun _ => h2, fun h => absurd h (show ¬ ((6 : Int) = 5) by decide), fun h => absurd h (show ¬ ((6 : Int) = 1) by decide), fun h => absurd h (show ¬ ((6 : Int) = 2) by decide)⟩
  | false =>
  rw [h1, cond_false] at h
  cases h1 : ((c.toNat : Int) == 95) with
  | true => rw [h1, cond_true] at h; exact no (by decide) (by decide) (by decide) (by decide) (one h).2.symm
  | false =>
  rw [h1, cond_false] at h
  cases h1 : ((c.toNat : Int) == 37) with
  | true =>
    rw [h1, cond_true] at h
    obtain ⟨h2, rfl⟩ := one h
    exact ⟨fun h => absurd h (show ¬ ((5 : Int) = 6) by decide), fun _ => ⟨_, rfl, h2⟩, fun h => absurd h (show ¬ ((5 : Int) = 1) by decide), fun h => absurd h (show ¬ ((5 : Int) = 2) by decide)⟩
  | false =>
  rw [h1, cond_false] at h
  cases h1 : ((c.toNat : Int) == 45) with
  | true =>
    rw [h1, cond_true] at h
    cases h2 : byteAt r == 62 <;> rw [h2] at h <;> exact no (by decide) (by decide) (by decide) (by decide) (Option.some.inj h).symm
  | false =>
  rw [h1, cond_false] at h
  cases h1 : ((c.toNat : Int) == 60) with
  | true => rw [h1, cond_true] at h; exact no (by decide) (by decide) (by decide) (by decide) (one h).2.symm
  | false =>
  rw [h1, cond_false] at h
  exact no (by decide) (by decide) (by decide) (by decide) (one h).2.symm

theorem tk_tok (N : Nat) : ∀ (n : Nat) (r : List UInt8) (ts : List Tok), tk N n r = .inl ts → ∀ t ∈ ts, TokN t
  | 0, r, ts, h => by simp only [tk, Sum.inl.injEq] at h; subst h; intro t ht; cases ht
  | n + 1, [], ts, h => by simp only [tk, Sum.inl.injEq] at h; subst h; intro t ht; cases ht
  | n + 1, c :: r, ts, h => by
    simp only [tk] at h
    cases hx : next c r with
    | none => rw [hx] at h; cases h
    | some x =>
      rw [hx] at h
      simp only at h
      cases ht : tk N n (skip ((c :: r).drop x.2.length) false) with
      | inr p => rw [ht] at h; cases h
      | inl us =>
        rw [ht] at h
        simp only [Sum.inl.injEq] at h
        subst h
        intro t hm
        rcases List.mem_cons.1 hm with rfl | hm
        · exact next_tok hx _
        · exact tk_tok N n _ us ht t hm

theorem toks_tok (l : List UInt8) (h : (toks l).2.2 = 0) : ∀ t ∈ (toks l).1, TokN t := by
  unfold toks at h ⊢
  by_cases h6 : l.length ≤ 6000
  · simp only [h6, decide_true, cond_true] at h ⊢
    cases hk : tk l.length l.length (skip l false) with
    | inr p => rw [hk] at h; exact absurd h (show ¬ ((4 : Int) = 0) by decide)
    | inl ts =>
      intro t ht
      rcases List.mem_append.1 ht with ht | ht
      · exact tk_tok _ _ _ _ hk t ht
      · simp only [List.mem_singleton] at ht
        subst ht
        exact ⟨fun h => absurd h (show ¬ ((7 : Int) = 6) by decide), fun h => absurd h (show ¬ ((7 : Int) = 5) by decide), fun h => absurd h (show ¬ ((7 : Int) = 1) by decide), fun h => absurd h (show ¬ ((7 : Int) = 2) by decide)⟩
  · simp only [h6, decide_false, cond_false] at h
    exact absurd h (show ¬ ((5 : Int) = 0) by decide)

/-! ### Numbers -/

theorem num_val {w : List UInt8} (h : numOk w = true) : ∃ v : Int, Lib.atoiAll w = .ok v ∧ dig10 0 w = some v ∧ 0 ≤ v ∧ v ≤ 10000 := by
  rw [← num_eq] at h
  unfold numP at h
  split at h
  · rename_i v hv
    simp only [Bool.and_eq_true, decide_eq_true_eq, beq_iff_eq] at h
    obtain ⟨h0, h1, h2⟩ := h
    obtain ⟨u, rfl⟩ := Int.eq_ofNat_of_zero_le h0
    refine ⟨u, hv, ?_, h0, h1⟩
    rw [← h2]
    unfold Lib.itoa
    rw [if_neg (by omega)]
    exact dec_val u
  · cases h

theorem num_told {t : ByteArray} (h : numOk t.data.toList = true) (hs : t.size ≤ 6000) {ρ : Type} (k0 k1 : Int → Option ρ) : toldAtoi t k0 k1 = k0 (numT t) := by
  obtain ⟨v, h1, h2, h3, h4⟩ := num_val h
  have e : decide (t.size ≤ 140737488355328) = true := by simp; omega
  have b1 : decide (-9223372036854775808 ≤ v) = true := by simp; omega
  have b2 : decide (v ≤ 9223372036854775807) = true := by simp; omega
  simp only [toldAtoi, e, cond_true, h1, b1, b2, Bool.and_self, numT, h2]

/-! ### The program's reader -/

theorem rdE_parts (a : Pt) : (⟨a.op, a.sign, a.name, a.num, ⟨a.raw.op, a.raw.name, a.raw.args⟩, a.parts⟩ : Pt) = a := by
  obtain ⟨o, s, n, m, ⟨ro, rn, ra⟩, l⟩ := a; rfl
theorem It.eta (a : It) : (⟨a.word, a.name, ⟨a.raw.op, a.raw.name, a.raw.args⟩, a.parts⟩ : It) = a := by
  obtain ⟨w, n, ⟨ro, rn, ra⟩, l⟩ := a; rfl

/-- The token behind the next one, or the last one. -/
def laterT : List Tok → Tok
  | _ :: c :: _ => c
  | [c] => c
  | [] => ⟨7, tNo, 0⟩

theorem min2_le {a b : Int} (h : a ≤ b) : min2 a b = a := by unfold min2; split <;> omega
theorem min2_ge {a b : Int} (h : b ≤ a) : min2 a b = b := by unfold min2; split <;> omega

theorem later_at {l ts : List Tok} (h : ts <:+ l) (hne : ts ≠ []) (hl : l.length ≤ 100000) :
    ∃ i, min2 (IntKind.wrap .i64 (posT l ts + 1)) (IntKind.wrap .i64 (((List.length l : Nat) : Int) - 1)) = i ∧ (decide ((0 : Int) ≤ i) && decide (i < ((List.length l : Nat) : Int))) = true ∧ rdEl lay Key.tok l i = laterT ts := by
  have hlen := h.length_le
  cases ts with
  | nil => exact absurd rfl hne
  | cons t r =>
    simp only [List.length_cons] at hlen
    have e1 : IntKind.wrap .i64 (posT l (t :: r) + 1) = posT l r := posT_next h hl
    have e2 : IntKind.wrap .i64 (((List.length l : Nat) : Int) - 1) = ((List.length l : Nat) : Int) - 1 := W_id (by omega) (by omega)
    rw [e1, e2]
    cases r with
    | nil =>
      have hp : posT l [] = (List.length l : Nat) := by unfold posT; simp
      have hp1 : posT l [t] = ((List.length l : Nat) : Int) - 1 := by unfold posT; simp
      refine ⟨posT l [t], by rw [hp, hp1]; exact min2_ge (by omega), posT_in h, ?_⟩
      exact posT_rd h
    | cons c r =>
      have s1 : c :: r <:+ l := (List.suffix_cons t _).trans h
      refine ⟨posT l (c :: r), min2_le ?_, posT_in s1, ?_⟩
      · unfold posT; simp only [List.length_cons]; omega
      · exact posT_rd s1

theorem s_later : Evt fun k => ∀ l ts, ts <:+ l → ts ≠ [] → l.length ≤ 100000 → ∀ (ρ : Type) K, (Tabs k).c150_0 ρ 1 l (posT l ts) K = K (laterT ts) l (posT l ts) := Evt.step0 fun k l ts h hne hl ρ K => by
  rw [show (Tabs (k + 1)).c150_0 = Gc150_0 (Tabs k) from rfl]
  obtain ⟨i, e1, e2, e3⟩ := later_at h hne hl
  simp only [Gc150_0, e1, e2, e3, cond_true, Tok.eta]

/-- What the reader's small functions do. -/
structure Hq (k : Nat) : Prop where
  now : ∀ l t r, t :: r <:+ l → ∀ (ρ : Type) K, (Tabs k).c31_0 ρ l (posT l (t :: r)) K = K t l (posT l (t :: r))
  fail : ∀ l t r, t :: r <:+ l → ∀ (ρ : Type) K, (Tabs k).c32_0 ρ l (posT l (t :: r)) K = K t.at_ 4 l (posT l (t :: r))
  sees : ∀ ws ∈ [[tPl, tMi, tSt], [tCo, tBa, tEq], [tLP], [tLS], [tLB], [tRS], [tRB], [tDo], [tCo]], ∀ l ts, ts <:+ l → ts ≠ [] → ∀ (ρ : Type) K, (Tabs k).c67_0 ρ ws l (posT l ts) K = K (Ev.sees ts ws) l (posT l ts)
  isN : ∀ (t : Tok) (ρ : Type) K, (Tabs k).c140_0 ρ t K = K (isNameB t)
  name : ∀ l t r, t :: r <:+ l → l.length ≤ 100000 → ∀ (ρ : Type) k0 k1, (Tabs k).c117_0 ρ l (posT l (t :: r)) k0 k1 = bif isNameB t then k0 t.text l (posT l r) else k1 t.at_ 4 l (posT l (t :: r))
  need : ∀ w ∈ [tRP, tRB, tCo, tDo], ∀ l t r, t :: r <:+ l → l.length ≤ 100000 → ∀ (ρ : Type) k0 k1, (Tabs k).c118_0 ρ w l (posT l (t :: r)) k0 k1 = bif Ev.sees (t :: r) [w] then k0 l (posT l r) else k1 t.at_ 4 l (posT l (t :: r))
  later : ∀ l ts, ts <:+ l → ts ≠ [] → l.length ≤ 100000 → ∀ (ρ : Type) K, (Tabs k).c150_0 ρ 1 l (posT l ts) K = K (laterT ts) l (posT l ts)
  atoi : ∀ (ρ : Type) s k0 k1, (Tabs k).c139_0 ρ s k0 k1 = toldAtoi s k0 k1

theorem hq : Evt Hq := by
  have hsees : Evt fun k => ∀ ws ∈ [[tPl, tMi, tSt], [tCo, tBa, tEq], [tLP], [tLS], [tLB], [tRS], [tRB], [tDo], [tCo]], ∀ l ts, ts <:+ l → ts ≠ [] → ∀ (ρ : Type) K, (Tabs k).c67_0 ρ ws l (posT l ts) K = K (sees ts ws) l (posT l ts) :=
    Evt.all fun ws hw => s_sees ws (by
      simp only [List.mem_cons, List.not_mem_nil, or_false] at hw
      rcases hw with rfl | rfl | rfl | rfl | rfl | rfl | rfl | rfl | rfl <;> simp)
  have hneed : Evt fun k => ∀ w ∈ [tRP, tRB, tCo, tDo], ∀ l t r, t :: r <:+ l → l.length ≤ 100000 → ∀ (ρ : Type) k0 k1, (Tabs k).c118_0 ρ w l (posT l (t :: r)) k0 k1 = bif sees (t :: r) [w] then k0 l (posT l r) else k1 t.at_ 4 l (posT l (t :: r)) :=
    Evt.all fun w _ => s_need w
  have hatoi : Evt fun k => ∀ (ρ : Type) s k0 k1, (Tabs k).c139_0 ρ s k0 k1 = toldAtoi s k0 k1 := Evt.step0 fun k ρ s k0 k1 => rfl
  exact (s_now.and (s_fail.and (hsees.and (s_isN.and (s_name.and (hneed.and (s_later.and hatoi))))))).mono fun k ⟨h1, h2, h3, h4, h5, h6, h7, h8⟩ => ⟨h1, h2, h3, h4, h5, h6, h7, h8⟩

/-- A reader's result, gone on with. -/
def finQ {ρ : Type} (l : List Tok) (res : QRes) (k0 : Pt → List Tok → Int → Option ρ) (k1 : Int → Int → List Tok → Int → Option ρ) : Option ρ :=
  match res with
  | .one x ts => k0 x l (posT l ts)
  | .err ts => k1 (atT ts) 4 l (posT l ts)
  | .all _ _ => none

def finA {ρ : Type} (l : List Tok) (res : QRes) (k0 : List Pt → List Tok → Int → Option ρ) (k1 : List Tok → Int → Int → Int → Option ρ) : Option ρ :=
  match res with
  | .all x ts => k0 x l (posT l ts - 1)
  | .err ts => k1 l (posT l ts) (atT ts) 4
  | .one _ _ => none

/-- The parts, behind the closing sign. -/
def finL {ρ : Type} (l : List Tok) (res : QRes) (k0 : List Pt → List Tok → Int → Option ρ) (k1 : Int → Int → List Tok → Int → Option ρ) : Option ρ :=
  match res with
  | .all x ts => k0 x l (posT l ts)
  | .err ts => k1 (atT ts) 4 l (posT l ts)
  | .one _ _ => none

def RunsQ (l ts : List Tok) (res : QRes) : QTag → Nat → Prop
  | .part, k => ∀ (ρ : Type) k0 k1, (Tabs k).c142_0 ρ l (posT l ts) k0 k1 = finQ l res k0 k1
  | .parts e acc, k => ∀ (ρ : Type) k0 k1, (Tabs k).l129_2_0 ρ e acc l (posT l ts) k0 k1 = finA l res k0 k1

theorem pre_next {l : List Tok} {t : Tok} {r : List Tok} : posT l r - 1 = posT l (t :: r) := by unfold posT; simp; omega

def QTag.fits (ts : List Tok) : QTag → Prop
  | .part => True
  | .parts e acc => (e = tRS ∨ e = tRB ∨ e = tDo) ∧ acc.length + ts.length ≤ 200000

theorem sees_hd {ts : List Tok} {ws : List ByteArray} (h : sees ts ws = true) : (hdT ts).kind = 4 := by
  obtain ⟨t, r, rfl, hk⟩ := sees_kind h; exact hk

theorem parts_run {l ts : List Tok} {res : QRes} {e : ByteArray} (hsf : ts <:+ l) (hl : l.length ≤ 100000) (hk : KeepQ (.parts e []) ts res) (h : Evt (RunsQ l ts res (.parts e []))) :
    Evt fun k => ∀ (ρ : Type) (k0 : List Pt → List Tok → Int → Option ρ) (k1 : Int → Int → List Tok → Int → Option ρ), (Tabs k).c129_0 ρ e l (posT l ts) k0 k1 = finL l res k0 k1 := by
  refine h.step fun k h ρ k0 k1 => ?_
  rw [show (Tabs (k + 1)).c129_0 = Gc129_0 (Tabs k) from rfl]
  have h := h ρ
  simp only [Gc129_0, h]
  obtain ⟨a1, a2, a3⟩ := hk
  cases res with
  | one _ _ => exact a3.elim
  | err ts' => rfl
  | all x ts' =>
    have := a1.length_le
    have := hsf.length_le
    simp only [finA, finL, QRes.rest] at *
    have a3 : ts'.length + 1 ≤ ts.length := a3
    rw [W_id (by unfold posT; omega) (by unfold posT; omega)]
    congr 1; omega

theorem qr_runs : ∀ (f : Nat) (tag : QTag) (ts : List Tok) (res : QRes), qr f tag ts = some res → ∀ l, l.length ≤ 100000 → ts <:+ l → Gd ts → (∀ t ∈ ts, TokN t) → (∀ t ∈ ts, TokOk t) → tag.fits ts → Evt (RunsQ l ts res tag) := by
  intro f
  induction f with
  | zero => intro tag ts res h; cases h
  | succ f ih =>
    intro tag ts res h l hl hsf hg hN hO hfit
    have hne : ts ≠ [] := hg.ne
    have m1 : [tPl, tMi, tSt] ∈ [[tPl, tMi, tSt], [tCo, tBa, tEq], [tLP], [tLS], [tLB], [tRS], [tRB], [tDo], [tCo]] := by simp
    have m2 : [tCo, tBa, tEq] ∈ [[tPl, tMi, tSt], [tCo, tBa, tEq], [tLP], [tLS], [tLB], [tRS], [tRB], [tDo], [tCo]] := by simp
    have m3 : [tLP] ∈ [[tPl, tMi, tSt], [tCo, tBa, tEq], [tLP], [tLS], [tLB], [tRS], [tRB], [tDo], [tCo]] := by simp
    have m4 : [tLS] ∈ [[tPl, tMi, tSt], [tCo, tBa, tEq], [tLP], [tLS], [tLB], [tRS], [tRB], [tDo], [tCo]] := by simp
    have m5 : [tLB] ∈ [[tPl, tMi, tSt], [tCo, tBa, tEq], [tLP], [tLS], [tLB], [tRS], [tRB], [tDo], [tCo]] := by simp
    have n1 : tRP ∈ [tRP, tRB, tCo, tDo] := by simp
    have n2 : tRB ∈ [tRP, tRB, tCo, tDo] := by simp
    have hlen := hsf.length_le
    have T : ∀ {ts : List Tok} {ws}, sees ts ws = true → Gd ts → ts <:+ l → Gd ts.tail ∧ ts.tail <:+ l ∧ IntKind.wrap .i64 (posT l ts + 1) = posT l ts.tail := by
      intro ts ws h hg hs
      obtain ⟨g1, g2⟩ := gd_tl hg (sees7 h)
      obtain ⟨t, r, rfl, _⟩ := sees7 h
      exact ⟨g1, (suf_tl _).trans hs, posT_next hs hl⟩
    -- an expression and a sign behind it
    have EX : ∀ {ts0 : List Tok} {w : ByteArray} {C : Rw → Pt} {res : QRes}, w ∈ [tRP, tRB, tCo, tDo] → Gd ts0 → ts0 <:+ l → (andE (prE ts0) fun x ts1 => bif sees ts1 [w] then some (.one (C x) ts1.tail) else some (.err ts1)) = some res →
        Evt fun k => ∀ (ρ : Type) (k0 : Pt → List Tok → Int → Option ρ) (k1 : Int → Int → List Tok → Int → Option ρ),
          (Tabs k).c30_0 ρ l (posT l ts0) (fun r25 r26 r27 => (Tabs k).c118_0 ρ w r26 r27 (fun r28 r29 => k0 (C r25) r28 r29) k1) k1 = finQ l res k0 k1 := by
      intro ts0 w C res hw hg0 hs0 h
      rcases andE_some h with ⟨x, c, ts1, h1, h⟩ | ⟨ts1, h1, rfl⟩
      · obtain ⟨a1, a2⟩ := prE_keeps h1 hg0
        simp only [PRes.rest] at a1 a2
        obtain ⟨t1, q1, rfl⟩ : ∃ t1 q1, ts1 = t1 :: q1 := by cases ts1 with | nil => exact absurd rfl a2.ne | cons a b => exact ⟨a, b, rfl⟩
        refine ((pr_runs _ _ _ _ h1 l hl hs0 hg0).and hq).mono fun k ⟨r1, hq⟩ ρ k0 k1 => ?_
        have r1' := r1 ρ
        simp only [fin] at r1'
        rw [r1', hq.need _ hw l t1 q1 (a1.trans hs0) hl]
        rcases bif_some h with ⟨hs1, h⟩ | ⟨hs1, h⟩
        · cases h; simp only [hs1, cond_true, finQ, List.tail_cons]
        · cases h; simp only [hs1, cond_false, finQ, atT]
      · obtain ⟨a1, a2⟩ := prE_keeps h1 hg0
        refine (pr_runs _ _ _ _ h1 l hl hs0 hg0).mono fun k r1 ρ k0 k1 => ?_
        have r1' := r1 ρ
        simp only [fin] at r1'
        rw [r1']; rfl
    -- parts up to a sign
    have PA : ∀ {ts0 : List Tok} {w : ByteArray} {C : List Pt → Pt} {res : QRes}, (w = tRS ∨ w = tRB ∨ w = tDo) → Gd ts0 → ts0 <:+ l → ts0 <:+ ts → (andA (qr f (.parts w []) ts0) fun L ts1 => some (.one (C L) ts1)) = some res →
        Evt fun k => ∀ (ρ : Type) (k0 : Pt → List Tok → Int → Option ρ) (k1 : Int → Int → List Tok → Int → Option ρ),
          (Tabs k).c129_0 ρ w l (posT l ts0) (fun L l' n' => k0 (C L) l' n') k1 = finQ l res k0 k1 := by
      intro ts0 w C res hw hg0 hs0 hs1 h
      have hlen0 := hs0.length_le
      have run : ∀ {res'}, qr f (.parts w []) ts0 = some res' → Evt fun k => ∀ (ρ : Type) (k0 : List Pt → List Tok → Int → Option ρ) (k1 : Int → Int → List Tok → Int → Option ρ), (Tabs k).c129_0 ρ w l (posT l ts0) k0 k1 = finL l res' k0 k1 := fun {res'} h' => parts_run hs0 hl (qr_keeps _ _ _ _ h' hg0) (ih (.parts w []) ts0 res' h' l hl hs0 hg0 (fun t ht => hN t (hs1.mem ht)) (fun t ht => hO t (hs1.mem ht)) ⟨hw, by simp; omega⟩)
      rcases andA_some h with ⟨L, ts1, h1, h⟩ | ⟨ts1, h1, rfl⟩
      · cases h
        exact (run h1).mono fun k r1 ρ k0 k1 => by rw [r1]; rfl
      · exact (run h1).mono fun k r1 ρ k0 k1 => by rw [r1]; rfl
    cases tag with
    | part =>
      cases ts with
      | nil => exact absurd rfl hne
      | cons t r =>
      have w1 := posT_next hsf hl
      have sr : r <:+ l := (List.suffix_cons t r).trans hsf
      have hNt := hN t (List.mem_cons_self ..)
      have hOt := hO t (List.mem_cons_self ..)
      simp only [qr, hdT, List.tail_cons] at h
      rcases bif_some h with ⟨h1, h⟩ | ⟨h1, h⟩
      · cases h
        refine hq.step fun k hq ρ k0 k1 => ?_
        rw [show (Tabs (k + 1)).c142_0 = Gc142_0 (Tabs k) from rfl]
        simp only [Gc142_0, hq.now l t r hsf, Tok.eta, hq.isN, h1, cond_true, w1, finQ]
      rcases bif_some h with ⟨h2, h⟩ | ⟨h2, h⟩
      · cases h
        refine hq.step fun k hq ρ k0 k1 => ?_
        rw [show (Tabs (k + 1)).c142_0 = Gc142_0 (Tabs k) from rfl]
        simp only [Gc142_0, hq.now l t r hsf, Tok.eta, hq.isN, h1, h2, cond_true, cond_false, w1, finQ, hq.atoi, num_told (hNt.num (eq_of_beq h2)) hOt.size]
      rcases bif_some h with ⟨h3, h⟩ | ⟨h3, h⟩
      · obtain ⟨g1, s1, _⟩ := T h3 hg hsf
        simp only [List.tail_cons] at g1 s1
        cases r with
        | nil => exact absurd rfl g1.ne
        | cons u r2 =>
        refine hq.step fun k hq ρ k0 k1 => ?_
        rw [show (Tabs (k + 1)).c142_0 = Gc142_0 (Tabs k) from rfl]
        simp only [Gc142_0, hq.now l t _ hsf, Tok.eta, hq.isN, h1, h2, cond_true, cond_false, w1, hq.sees _ m1 l _ hsf hne, h3, hq.name l u r2 s1 hl]
        rcases bif_some h with ⟨h4, h⟩ | ⟨h4, h⟩
        · cases h; simp only [hdT] at h4; simp only [h4, cond_true, finQ, hdT, List.tail_cons]
        · cases h; simp only [hdT] at h4; simp only [h4, cond_false, finQ, atT]
      rcases bif_some h with ⟨h4, h⟩ | ⟨h4, h⟩
      · cases h
        refine hq.step fun k hq ρ k0 k1 => ?_
        rw [show (Tabs (k + 1)).c142_0 = Gc142_0 (Tabs k) from rfl]
        simp only [Gc142_0, hq.now l t _ hsf, Tok.eta, hq.isN, h1, h2, cond_true, cond_false, w1, hq.sees _ m1 l _ hsf hne, h3, hq.sees _ m2 l _ hsf hne, h4, finQ]
      rcases bif_some h with ⟨h5, h⟩ | ⟨h5, h⟩
      · obtain ⟨g1, s1, _⟩ := T h5 hg hsf
        simp only [List.tail_cons] at g1 s1
        refine ((EX (C := fun x => ⟨4, tNo, tNo, 0, x, []⟩) n1 g1 s1 h).and hq).step fun k ⟨rE, hq⟩ ρ k0 k1 => ?_
        rw [show (Tabs (k + 1)).c142_0 = Gc142_0 (Tabs k) from rfl]
        rw [← rE ρ k0 k1]
        simp only [Gc142_0, hq.now l t _ hsf, Tok.eta, Rw.eta, hq.isN, h1, h2, cond_true, cond_false, w1, hq.sees _ m1 l _ hsf hne, h3, hq.sees _ m2 l _ hsf hne, h4, hq.sees _ m3 l _ hsf hne, h5]
      rcases bif_some h with ⟨h6, h⟩ | ⟨h6, h⟩
      · obtain ⟨g1, s1, _⟩ := T h6 hg hsf
        simp only [List.tail_cons] at g1 s1
        refine ((PA (C := fun L => ⟨6, tNo, tNo, 0, zR, L⟩) (.inl rfl) g1 s1 (List.suffix_cons ..) h).and hq).step fun k ⟨rE, hq⟩ ρ k0 k1 => ?_
        rw [show (Tabs (k + 1)).c142_0 = Gc142_0 (Tabs k) from rfl]
        rw [← rE ρ k0 k1]
        simp only [Gc142_0, hq.now l t _ hsf, Tok.eta, hq.isN, h1, h2, cond_true, cond_false, w1, hq.sees _ m1 l _ hsf hne, h3, hq.sees _ m2 l _ hsf hne, h4, hq.sees _ m3 l _ hsf hne, h5, hq.sees _ m4 l _ hsf hne, h6]
      rcases bif_some h with ⟨h7, h⟩ | ⟨h7, h⟩
      · obtain ⟨g1, s1, _⟩ := T h7 hg hsf
        simp only [List.tail_cons] at g1 s1
        rcases bif_some h with ⟨h8, h⟩ | ⟨h8, h⟩
        · obtain ⟨u, c, r2, hr, hn, hc, hc2⟩ := bind_two h8
          subst hr
          have g3 := g1.tail (isName_kind hn)
          have g4 := g3.tail (by rw [hc]; decide)
          have s3 : c :: r2 <:+ l := (List.suffix_cons u _).trans s1
          have s4 : r2 <:+ l := (List.suffix_cons c _).trans s3
          have w3 := posT_next s3 hl
          simp only [List.tail_cons, hdT] at h
          refine ((EX (C := fun x => ⟨7, tNo, u.text, 0, x, []⟩) n2 g4 s4 h).and hq).step fun k ⟨rE, hq⟩ ρ k0 k1 => ?_
          rw [show (Tabs (k + 1)).c142_0 = Gc142_0 (Tabs k) from rfl]
          rw [← rE ρ k0 k1]
          have hck : (c.kind == (4 : Int)) = true := by rw [hc]; rfl
          simp only [Gc142_0, hq.now l t _ hsf, Tok.eta, Rw.eta, hq.isN, h1, h2, cond_true, cond_false, w1, hq.sees _ m1 l _ hsf hne, h3, hq.sees _ m2 l _ hsf hne, h4, hq.sees _ m3 l _ hsf hne, h5, hq.sees _ m4 l _ hsf hne, h6, hq.sees _ m5 l _ hsf hne, h7, Bool.not_true,
            hq.later l _ s1 g1.ne hl, laterT, hq.now l u _ s1, hn, hck, hc2, hq.name l u _ s1 hl, w3]
        · refine ((PA (C := fun L => ⟨5, tNo, tNo, 0, zR, L⟩) (.inr (.inl rfl)) g1 s1 (List.suffix_cons ..) h).and hq).step fun k ⟨rE, hq⟩ ρ k0 k1 => ?_
          rw [show (Tabs (k + 1)).c142_0 = Gc142_0 (Tabs k) from rfl]
          rw [← rE ρ k0 k1]
          cases r with
          | nil => exact absurd rfl g1.ne
          | cons u r2 =>
          simp only [Gc142_0, hq.now l t _ hsf, Tok.eta, hq.isN, h1, h2, cond_true, cond_false, w1, hq.sees _ m1 l _ hsf hne, h3, hq.sees _ m2 l _ hsf hne, h4, hq.sees _ m3 l _ hsf hne, h5, hq.sees _ m4 l _ hsf hne, h6, hq.sees _ m5 l _ hsf hne, h7, Bool.not_true,
            hq.later l _ s1 g1.ne hl, hq.now l u _ s1]
          cases hn : isNameB u with
          | false => simp only [cond_false]
          | true =>
            cases r2 with
            | nil => exact absurd rfl (g1.tail (isName_kind hn)).ne
            | cons c r3 =>
              simp only [laterT, cond_true]
              simp only [bindB, hn, Bool.true_and] at h8
              cases hk : c.kind == 4 with
              | false => simp only [cond_false]
              | true =>
                rw [hk, Bool.true_and] at h8
                simp only [h8, cond_true, cond_false]
      cases h
      refine hq.step fun k hq ρ k0 k1 => ?_
      rw [show (Tabs (k + 1)).c142_0 = Gc142_0 (Tabs k) from rfl]
      simp only [Gc142_0, hq.now l t _ hsf, Tok.eta, hq.isN, h1, h2, cond_true, cond_false, w1, hq.sees _ m1 l _ hsf hne, h3, hq.sees _ m2 l _ hsf hne, h4, hq.sees _ m3 l _ hsf hne, h5, hq.sees _ m4 l _ hsf hne, h6, hq.sees _ m5 l _ hsf hne, h7, Bool.not_false,
        hq.fail l t r hsf, finQ, atT]
    | parts e acc =>
      obtain ⟨he, hacc⟩ := hfit
      have me : [e] ∈ [[tPl, tMi, tSt], [tCo, tBa, tEq], [tLP], [tLS], [tLB], [tRS], [tRB], [tDo], [tCo]] := by rcases he with rfl | rfl | rfl <;> simp
      simp only [qr] at h
      rcases bif_some h with ⟨h1, h⟩ | ⟨h1, h⟩
      · cases h
        obtain ⟨t, r, rfl, _⟩ := sees7 h1
        refine hq.step fun k hq ρ k0 k1 => ?_
        rw [show (Tabs (k + 1)).l129_2_0 = Gl129_2_0 (Tabs k) from rfl]
        simp only [Gl129_2_0, hq.sees _ me l _ hsf hne, h1, Bool.not_true, cond_false, finA, List.tail_cons, pre_next (t := t)]
      rcases andO_some h with ⟨x, ts1, h2, h⟩ | ⟨ts1, h2, rfl⟩
      · obtain ⟨a1, a2, a3⟩ := qr_keeps _ _ _ _ h2 hg
        simp only [QRes.rest] at a1 a2
        have a3 : ts1.length + 1 ≤ ts.length := a3
        refine ((ih .part ts _ h2 l hl hsf hg hN hO trivial).and ((ih (.parts e (acc ++ [x])) ts1 _ h l hl (a1.trans hsf) a2 (fun t ht => hN t (a1.mem ht)) (fun t ht => hO t (a1.mem ht)) ⟨he, by simp; omega⟩).and hq)).step fun k ⟨r1, r2, hq⟩ ρ k0 k1 => ?_
        rw [show (Tabs (k + 1)).l129_2_0 = Gl129_2_0 (Tabs k) from rfl]
        have r1' := r1 ρ
        simp only [finQ] at r1'
        have hd : decide ((List.length acc + List.length [x]) * 120 ≤ 140737488355328) = true := by simp; omega
        simp only [Gl129_2_0, hq.sees _ me l _ hsf hne, h1, Bool.not_false, cond_true, r1', rdE_parts, hd]
        exact r2 ρ k0 k1
      · refine ((ih .part ts _ h2 l hl hsf hg hN hO trivial).and hq).step fun k ⟨r1, hq⟩ ρ k0 k1 => ?_
        rw [show (Tabs (k + 1)).l129_2_0 = Gl129_2_0 (Tabs k) from rfl]
        have r1' := r1 ρ
        simp only [finQ] at r1'
        simp only [Gl129_2_0, hq.sees _ me l _ hsf hne, h1, Bool.not_false, cond_true, r1', finA]

end Go.Proofs.YtanfoijdfcnpoaaGreatDoor.Ev

set_option linter.unusedVariables false
set_option linter.unusedSimpArgs false
namespace Go.Proofs.YtanfoijdfcnpoaaGreatDoor.Ev

theorem Pt.ind {p : Pt → Prop} (h : ∀ o s nm n r l, (∀ x ∈ l, p x) → p ⟨o, s, nm, n, r, l⟩) (t : Pt) : p t := by
  refine Pt.rec (motive_1 := p) (motive_2 := fun l => ∀ x ∈ l, p x) (fun o s nm n r l ih => h o s nm n r l ih) (fun x hx => by cases hx) (fun a l ha hl x hx => ?_) t
  rcases List.mem_cons.1 hx with rfl | hx
  · exact ha
  · exact hl x hx

/-- What is read of an argument fits the machine. -/
inductive Pt.Ok : Pt → Prop
  | mk (o : Int) (s nm : ByteArray) (n : Int) (r : Rw) (l : List Pt) (hs : s.size ≤ 140737488355328) (hn : nm.size ≤ 140737488355328) (hr : r.Ok) (hl : l.length * 120 ≤ 140737488351232) (h : ∀ x ∈ l, Pt.Ok x) : Pt.Ok ⟨o, s, nm, n, r, l⟩

theorem Pt.Ok.len {t : Pt} (h : t.Ok) : t.parts.length * 120 ≤ 140737488351232 := by cases h; assumption
theorem Pt.Ok.nm {t : Pt} (h : t.Ok) : t.name.size ≤ 140737488355328 := by cases h; assumption
theorem Pt.Ok.sg {t : Pt} (h : t.Ok) : t.sign.size ≤ 140737488355328 := by cases h; assumption
theorem Pt.Ok.rw' {t : Pt} (h : t.Ok) : t.raw.Ok := by cases h; assumption
theorem Pt.Ok.mem {t : Pt} (h : t.Ok) : ∀ x ∈ t.parts, x.Ok := by cases h; assumption

structure It.Ok (t : It) : Prop where
  word : t.word.size ≤ 140737488355328
  name : t.name.size ≤ 140737488355328
  raw : t.raw.Ok
  len : t.parts.length * 120 ≤ 140737488351232
  mem : ∀ x ∈ t.parts, x.Ok

def noRawB (r : Rw) : Bool := r.op == 0 && (strEq r.name tNo && r.args.length == 0)

mutual
def Pt.size : Pt → Nat
  | ⟨_, _, _, _, _, l⟩ => 1 + sizePL l
def sizePL : List Pt → Nat
  | [] => 0
  | x :: r => x.size + sizePL r
end

def lexBad : List Pt → Bool
  | a :: b :: _ => a.op == 1 && (b.op == 8 && strEq b.sign tCo)
  | _ => false

def sgn1 (s : ByteArray) : Bool := [tPl, tMi, tSt].any (strEq s)
def sgn2 (s : ByteArray) : Bool := [tCo, tBa, tEq].any (strEq s)

/-- A part, its parts aside. -/
def nodeP (o : Int) (s nm : ByteArray) (n : Int) (r : Rw) (l : List Pt) : Bool :=
  bif o == 1 then nmOk nm.data.toList && (strEq s tNo && (n == 0 && (noRawB r && l.length == 0)))
  else bif o == 2 then sgn1 s && (nmOk nm.data.toList && (n == 0 && (noRawB r && l.length == 0)))
  else bif o == 3 then decide (0 ≤ n) && (decide (n ≤ 10000) && (strEq nm tNo && (strEq s tNo && (noRawB r && l.length == 0))))
  else bif o == 4 then wellB r && (strEq nm tNo && (strEq s tNo && (n == 0 && l.length == 0)))
  else bif o == 5 then !lexBad l && (strEq nm tNo && (strEq s tNo && (n == 0 && noRawB r)))
  else bif o == 6 then strEq nm tNo && (strEq s tNo && (n == 0 && noRawB r))
  else bif o == 7 then wellB r && (nmOk nm.data.toList && (strEq s tNo && (n == 0 && l.length == 0)))
  else bif o == 8 then sgn2 s && (strEq nm tNo && (n == 0 && (noRawB r && l.length == 0)))
  else false

mutual
/-- A part so deep. -/
def partB : Pt → Int → Bool
  | ⟨o, s, nm, n, r, l⟩, d => decide (d ≤ 40) && (nodeP o s nm n r l && partBL l (d + 1))
def partBL : List Pt → Int → Bool
  | [], _ => true
  | x :: r, d => partB x d && partBL r d
end

def smB (w : ByteArray) : Bool := nameL smallB w.data.toList

/-- An item. -/
def wellI (x : It) : Bool :=
  bif strEq x.word tNo then smB x.name && (!strEq x.name tTy && (wellB x.raw && x.parts.length == 0))
  else smB x.word && (strEq x.name tNo && (noRawB x.raw && (decide (sizePL x.parts ≤ 400) && partBL x.parts 1)))

theorem sizePL_pos {x : Pt} : 1 ≤ x.size := by obtain ⟨o, s, nm, n, r, l⟩ := x; simp only [Pt.size]; omega

theorem oplen {l : List Pt} : (((List.length l : Nat) : Int) == (0 : Int)) = (l.length == 0) := by
  rw [Bool.eq_iff_iff]; simp
theorem oplenR {l : List Rw} : (((List.length l : Nat) : Int) == (0 : Int)) = (l.length == 0) := by
  rw [Bool.eq_iff_iff]; simp

theorem op_cases8 (o : Int) : o = 1 ∨ o = 2 ∨ o = 3 ∨ o = 4 ∨ o = 5 ∨ o = 6 ∨ o = 7 ∨ o = 8 ∨ ((o == 1) = false ∧ (o == 2) = false ∧ (o == 3) = false ∧ (o == 4) = false ∧ (o == 5) = false ∧ (o == 6) = false ∧ (o == 7) = false ∧ (o == 8) = false) := by
  simp only [beq_eq_false_iff_ne]
  omega

theorem rdPt (pre : List Pt) (x : Pt) (post : List Pt) : rdEl lay Key.part (pre ++ x :: post) (pre.length : Int) = x := rdEl_mid (S := sig) (L := lay) (k := Key.part) pre x post rfl
theorem rdPt0 (x : Pt) (post : List Pt) : rdEl lay Key.part (x :: post : List Pt) (0 : Int) = x := rdPt [] x post
theorem rdPt1 (x y : Pt) (post : List Pt) : rdEl lay Key.part (x :: y :: post : List Pt) (1 : Int) = y := rdPt [x] y post

/-! ### Small functions -/

theorem s_empty : Evt fun k => ∀ (r : Rw) (ρ : Type) K, (Tabs k).c55_0 ρ r K = K (noRawB r) := Evt.step0 fun k r ρ K => by
  rw [show (Tabs (k + 1)).c55_0 = Gc55_0 (Tabs k) from rfl]
  simp only [Gc55_0, noRawB, oplenR]
  cases r.op == 0 <;> cases strEq r.name (ByteArray.mk #[]) <;> rfl

theorem lex_two {a b : Pt} {l : List Pt} : decide (((List.length (a :: b :: l) : Nat) : Int) > (1 : Int)) = true ∧ (decide ((0 : Int) ≤ (0 : Int)) && decide ((0 : Int) < ((List.length (a :: b :: l) : Nat) : Int))) = true ∧ (decide ((0 : Int) ≤ (1 : Int)) && decide ((1 : Int) < ((List.length (a :: b :: l) : Nat) : Int))) = true := by
  refine ⟨?_, ?_, ?_⟩ <;> simp <;> omega

theorem nodeP_nil {o : Int} {s nm : ByteArray} {n : Int} {r : Rw} {l : List Pt} (h : nodeP o s nm n r l = true) (h5 : o ≠ 5) (h6 : o ≠ 6) : l = [] := by
  unfold nodeP at h
  have q5 : (o == 5) = false := by simpa using h5
  have q6 : (o == 6) = false := by simpa using h6
  simp only [q5, q6, cond_false] at h
  cases l with
  | nil => rfl
  | cons a l =>
    have : ((a :: l).length == 0) = false := rfl
    simp only [this, Bool.and_false] at h
    revert h
    cases o == 1 <;> cases o == 2 <;> cases o == 3 <;> cases o == 4 <;> cases o == 7 <;> cases o == 8 <;> intro h <;> cases h

theorem partB_eq {o : Int} {s nm : ByteArray} {n : Int} {r : Rw} {l : List Pt} (d : Int) (h5 : o ≠ 5) (h6 : o ≠ 6) : (nodeP o s nm n r l && partBL l (d + 1)) = nodeP o s nm n r l := by
  cases h : nodeP o s nm n r l with
  | false => rfl
  | true => rw [nodeP_nil h h5 h6]; rfl

end Go.Proofs.YtanfoijdfcnpoaaGreatDoor.Ev

set_option linter.unusedVariables false
set_option linter.unusedSimpArgs false
namespace Go.Proofs.YtanfoijdfcnpoaaGreatDoor.Ev

theorem s_small (s : ByteArray) : Evt fun k => ∀ (ρ : Type) K, (Tabs k).c54_0 ρ s K = K (smB s) := by
  rw [mk_of s]
  generalize s.data.toList = w
  refine (s54 w).mono fun k h ρ K => ?_
  rw [h]; simp only [smB, mk_list]
/-! ### The program -/

mutual
def cntP : Pt → Int → Nat → Bool × Nat
  | ⟨o, s, nm, n, r, l⟩, d, c =>
    bif decide (c + 1 ≤ 400) && decide (d ≤ 40) then
      bif o == 5 && lexBad l then (false, c + 1)
      else bif o == 5 || o == 6 then
        match cntPL l (d + 1) (c + 1) with
        | (false, m) => (false, m)
        | (true, m) => (nodeP o s nm n r l, m)
      else (nodeP o s nm n r l, c + 1)
    else (false, c + 1)
def cntPL : List Pt → Int → Nat → Bool × Nat
  | [], _, c => (true, c)
  | x :: r, d, c => match cntP x d c with | (false, m) => (false, m) | (true, m) => cntPL r d m
end

theorem cntPL_le {l : List Pt} (h : ∀ x ∈ l, ∀ d c, c ≤ 400 → (cntP x d c).2 ≤ 401 ∧ ((cntP x d c).1 = true → (cntP x d c).2 ≤ 400)) : ∀ d c, c ≤ 400 → (cntPL l d c).2 ≤ 401 ∧ ((cntPL l d c).1 = true → (cntPL l d c).2 ≤ 400) := by
  induction l with
  | nil => intro d c hc; simp [cntPL]; omega
  | cons x r ihr =>
    intro d c hc
    have hx := h x (List.mem_cons_self ..) d c hc
    simp only [cntPL]
    rcases he : cntP x d c with ⟨b, m⟩
    rw [he] at hx
    cases b with
    | false => exact ⟨hx.1, fun h => by cases h⟩
    | true => exact ihr (fun z hz => h z (List.mem_cons_of_mem _ hz)) d m (hx.2 rfl)

theorem cntP_le (t : Pt) : ∀ d c, c ≤ 400 → (cntP t d c).2 ≤ 401 ∧ ((cntP t d c).1 = true → (cntP t d c).2 ≤ 400) := by
  induction t using Pt.ind with
  | h o s nm n r l ih =>
    intro d c hc
    simp only [cntP]
    cases h1 : (decide (c + 1 ≤ 400) && decide (d ≤ 40)) with
    | false => exact ⟨by simp only [cond_false]; omega, fun h => by cases h⟩
    | true =>
      simp only [Bool.and_eq_true, decide_eq_true_eq] at h1
      simp only [cond_true]
      cases o == 5 && lexBad l with
      | true => exact ⟨by simp only [cond_true]; omega, fun h => by cases h⟩
      | false =>
        simp only [cond_false]
        cases o == 5 || o == 6 with
        | false => exact ⟨by simp only [cond_false]; omega, fun _ => by simp only [cond_false]; omega⟩
        | true =>
          have hx := cntPL_le ih (d + 1) (c + 1) h1.1
          simp only [cond_true]
          rcases he : cntPL l (d + 1) (c + 1) with ⟨b, m⟩
          rw [he] at hx
          cases b with
          | false => exact ⟨hx.1, fun h => by cases h⟩
          | true => exact ⟨hx.1, fun _ => hx.2 rfl⟩

theorem cntPL_spec {l : List Pt} (h : ∀ x ∈ l, ∀ d c, c ≤ 400 → ((cntP x d c).1 = (partB x d && decide (c + x.size ≤ 400))) ∧ ((cntP x d c).1 = true → (cntP x d c).2 = c + x.size)) :
    ∀ d c, c ≤ 400 → ((cntPL l d c).1 = (partBL l d && decide (c + sizePL l ≤ 400))) ∧ ((cntPL l d c).1 = true → (cntPL l d c).2 = c + sizePL l) := by
  induction l with
  | nil => intro d c hc; simp [cntPL, partBL, sizePL, hc]
  | cons x r ihr =>
    intro d c hc
    obtain ⟨hx1, hx2⟩ := h x (List.mem_cons_self ..) d c hc
    have hle := cntP_le x d c hc
    simp only [cntPL, partBL, sizePL]
    rcases he : cntP x d c with ⟨b, m⟩
    rw [he] at hx1 hx2 hle
    cases b with
    | false =>
      refine ⟨?_, fun h => by cases h⟩
      simp only at hx1
      cases hf : partB x d with
      | false => simp
      | true =>
        rw [hf, Bool.true_and] at hx1
        have : ¬ (c + x.size ≤ 400) := of_decide_eq_false hx1.symm
        have hno : ¬ (c + (x.size + sizePL r) ≤ 400) := by omega
        simp [hno]
    | true =>
      have hm := hx2 rfl
      simp only at hm
      obtain ⟨h1, h2⟩ := ihr (fun z hz => h z (List.mem_cons_of_mem _ hz)) d m (hle.2 rfl)
      simp only [Bool.true_eq, Bool.and_eq_true] at hx1
      refine ⟨?_, fun h => ?_⟩
      · subst hm
        rw [hx1.1, Bool.true_and]
        show (cntPL r d (c + x.size)).1 = _
        rw [h1, Nat.add_assoc]; rfl
      · rw [h2 h, hm, Nat.add_assoc]

theorem nodeP_lex {s nm : ByteArray} {n : Int} {r : Rw} {l : List Pt} (h : lexBad l = true) : nodeP 5 s nm n r l = false := by
  simp only [nodeP, Int.reduceBEq, cond_false, cond_true, h, Bool.not_true, Bool.false_and]

theorem cntP_spec (t : Pt) : ∀ d c, c ≤ 400 → ((cntP t d c).1 = (partB t d && decide (c + t.size ≤ 400))) ∧ ((cntP t d c).1 = true → (cntP t d c).2 = c + t.size) := by
  induction t using Pt.ind with
  | h o s nm n r l ih =>
    intro d c hc
    simp only [cntP, partB, Pt.size]
    by_cases hc1 : c + 1 ≤ 400
    · by_cases hd : d ≤ 40
      · simp only [hc1, hd, decide_true, Bool.and_self, cond_true, Bool.true_and]
        cases hx : (o == 5 && lexBad l) with
        | true =>
          simp only [Bool.and_eq_true, beq_iff_eq] at hx
          obtain ⟨rfl, hx⟩ := hx
          simp only [cond_true, nodeP_lex hx, Bool.false_and]
          exact ⟨trivial, fun h => by cases h⟩
        | false =>
          simp only [cond_false]
          cases h56 : (o == 5 || o == 6) with
          | true =>
            obtain ⟨h1, h2⟩ := cntPL_spec ih (d + 1) (c + 1) hc1
            have hsz : decide (c + (1 + sizePL l) ≤ 400) = decide (c + 1 + sizePL l ≤ 400) := decide_eq_decide.2 (by omega)
            simp only [cond_true]
            rcases he : cntPL l (d + 1) (c + 1) with ⟨b, m⟩
            rw [he] at h1 h2
            simp only at h1 h2
            cases b with
            | false =>
              refine ⟨?_, fun h => by cases h⟩
              show false = (nodeP o s nm n r l && partBL l (d + 1) && decide (c + (1 + sizePL l) ≤ 400))
              rw [hsz, Bool.and_assoc, ← h1, Bool.and_false]
            | true =>
              show nodeP o s nm n r l = (nodeP o s nm n r l && partBL l (d + 1) && decide (c + (1 + sizePL l) ≤ 400)) ∧ (nodeP o s nm n r l = true → m = c + (1 + sizePL l))
              rw [hsz, Bool.and_assoc, ← h1, Bool.and_true]
              exact ⟨rfl, fun _ => by rw [h2 rfl]; omega⟩
          | false =>
            simp only [Bool.or_eq_false_iff, beq_eq_false_iff_ne] at h56
            simp only [cond_false, partB_eq d h56.1 h56.2]
            cases hn : nodeP o s nm n r l with
            | false => exact ⟨rfl, fun h => by cases h⟩
            | true =>
              rw [nodeP_nil hn h56.1 h56.2]
              simp only [sizePL, Bool.true_and, Nat.add_zero, hc1, decide_true]
              exact ⟨trivial, fun _ => trivial⟩
      · simp only [hd, decide_false, Bool.and_false, cond_false, Bool.false_and]
        exact ⟨trivial, fun h => by cases h⟩
    · have : ¬ (c + (1 + sizePL l) ≤ 400) := by omega
      simp only [hc1, this, decide_false, Bool.false_and, cond_false, Bool.and_false]
      exact ⟨trivial, fun h => by cases h⟩

theorem whole_loop (l : List Pt) (d : Int) (hd : 1 ≤ d ∧ d ≤ 40) (hl : l.length ≤ 140737488351232) (p w : Pt) : ∀ (r pre : List Pt) (c : Nat), l = pre ++ r → c ≤ 400 →
    (∀ x ∈ r, ∀ c : Nat, c ≤ 400 → Evt fun k => ∀ (ρ : Type) K, (Tabs k).c56_0 ρ x (d + 1) (c : Nat) K = K (cntP x (d + 1) c).1 ((cntP x (d + 1) c).2 : Nat)) →
    Evt fun k => ∀ (ρ : Type) k0 k1, (Tabs k).l56_32_0 ρ d l (l.length : Int) (pre.length : Int) (c : Nat) p w k0 k1 = cond (cntPL r (d + 1) c).1 (k1 ((cntPL r (d + 1) c).2 : Nat) p w) (k0 false ((cntPL r (d + 1) c).2 : Nat))
  | [], pre, c, ha, hc, _ => by
    refine Evt.step0 fun k ρ k0 k1 => ?_
    rw [show (Tabs (k + 1)).l56_32_0 = Gl56_32_0 (Tabs k) from rfl]
    have e : decide ((pre.length : Int) < ((l).length : Int)) = false := by simp [ha]
    simp only [Gl56_32_0, e, cond_false, cntPL, cond_true, rdE_parts]
  | x :: r, pre, c, ha, hc, ih => by
    have hlen : pre.length < l.length := by simp [ha]
    have e1 : decide ((pre.length : Int) < ((l).length : Int)) = true := by simp; omega
    have e2 : decide ((0 : Int) ≤ (pre.length : Int)) = true := by simp
    have e4 : IntKind.wrap .i64 ((pre.length : Int) + 1) = ((pre ++ [x]).length : Int) := by
      rw [W_id (by omega) (by omega)]; simp
    have e5 : IntKind.wrap .i64 (d + 1) = d + 1 := W_id (by omega) (by omega)
    have e6 : rdEl lay Key.part l (pre.length : Int) = x := by rw [ha]; exact rdPt ..
    have hle := cntP_le x (d + 1) c hc
    cases hcx : cntP x (d + 1) c with
    | mk b m =>
      rw [hcx] at hle
      cases b with
      | false =>
        refine (ih x (List.mem_cons_self ..) c hc).step fun k hk1 ρ k0 k1 => ?_
        rw [show (Tabs (k + 1)).l56_32_0 = Gl56_32_0 (Tabs k) from rfl]
        simp only [Gl56_32_0, e1, e2, Bool.and_self, cond_true, e6, rdE_parts, e5, hk1, hcx, Bool.not_false, cntPL, cond_false]
      | true =>
        refine ((ih x (List.mem_cons_self ..) c hc).and (whole_loop l d hd hl p w r (pre ++ [x]) m (by simp [ha]) (hle.2 rfl) (fun z hz => ih z (List.mem_cons_of_mem _ hz)))).step fun k ⟨hk1, hk2⟩ ρ k0 k1 => ?_
        rw [show (Tabs (k + 1)).l56_32_0 = Gl56_32_0 (Tabs k) from rfl]
        simp only [Gl56_32_0, e1, e2, Bool.and_self, cond_true, e6, rdE_parts, e5, hk1, hcx, Bool.not_true, cntPL, cond_false, e4, hk2]

end Go.Proofs.YtanfoijdfcnpoaaGreatDoor.Ev

set_option linter.unusedVariables false
set_option linter.unusedSimpArgs false
namespace Go.Proofs.YtanfoijdfcnpoaaGreatDoor.Ev

structure Hw (k : Nat) : Prop where
  empty : ∀ (r : Rw) (ρ : Type) K, (Tabs k).c55_0 ρ r K = K (noRawB r)
  sign1 : ∀ (x : ByteArray) (ρ : Type) K, (Tabs k).c78_0 ρ [tPl, tMi, tSt] x K = K (sgn1 x)
  sign2 : ∀ (x : ByteArray) (ρ : Type) K, (Tabs k).c78_0 ρ [tCo, tBa, tEq] x K = K (sgn2 x)

theorem hwE : Evt Hw := (s_empty.and ((s_contains [tPl, tMi, tSt] (by simp)).and (s_contains [tCo, tBa, tEq] (by simp)))).mono fun k ⟨h1, h2, h3⟩ => ⟨h1, h2, h3⟩

theorem strEq_refl (s : ByteArray) : strEq s s = true := strEq_iff.2 rfl

theorem bif_well {b : Bool} : ((bif b then (0 : Int) else 2) != 0) = !b := by cases b <;> rfl

theorem s_whole (t : Pt) : t.Ok → ∀ (d : Int) (c : Nat), 1 ≤ d → d ≤ 41 → c ≤ 400 → Evt fun k => ∀ (ρ : Type) K, (Tabs k).c56_0 ρ t d (c : Nat) K = K (cntP t d c).1 ((cntP t d c).2 : Nat) := by
  induction t using Pt.ind with
  | h o s nm n r l ih =>
    intro hok d c h1 h2 hc
    have hlen : l.length * 120 ≤ 140737488351232 := hok.len
    have en : IntKind.wrap .i64 ((c : Int) + 1) = ((c + 1 : Nat) : Int) := by rw [W_id (by omega) (by omega)]; omega
    by_cases hd : d ≤ 40 ∧ c + 1 ≤ 400
    · refine ((whole_loop l d ⟨h1, hd.1⟩ (by omega) ⟨o, s, nm, n, r, l⟩ ⟨o, tNo, tNo, 0, zR, []⟩ l [] (c + 1) rfl hd.2 (fun x hx m hm => ih x hx (hok.mem x hx) (d + 1) m (by omega) (by omega) hm)).and
        ((s_named nm).and ((s_check r hok.rw').and hwE))).step fun k ⟨hk, hn, hch, hw⟩ ρ K => ?_
      rw [show (Tabs (k + 1)).c56_0 = Gc56_0 (Tabs k) from rfl]
      have hk' := hk ρ
      simp only [List.length_nil, Int.natCast_zero] at hk'
      have hd1 : decide (d > (40 : Int)) = false := by simp; omega
      have hd2 : decide (d ≤ (40 : Int)) = true := by simp; omega
      have hd3 : decide (((c + 1 : Nat) : Int) > (400 : Int)) = false := by simp only [decide_eq_false_iff_not]; omega
      have hd4 : decide (c + 1 ≤ 400) = true := by simp; omega
      have hn3 : decide (n < (0 : Int)) = !decide ((0 : Int) ≤ n) := by by_cases h : (0 : Int) ≤ n <;> simp [h]; omega
      have hn4 : decide (n > (10000 : Int)) = !decide (n ≤ (10000 : Int)) := by by_cases h : n ≤ (10000 : Int) <;> simp [h]; omega
      rcases op_cases8 o with rfl | rfl | rfl | rfl | rfl | rfl | rfl | rfl | ⟨p1, p2, p3, p4, p5, p6, p7, p8⟩
      · simp only [Gc56_0, en, hd1, hd3, Int.reduceBEq, cond_true, cond_false, hn, hw.empty, hw.sign1, hw.sign2, hch, Rw.eta, strEq_refl, oplen, beq_self_eq_true]
        simp only [cntP, hd2, hd4, Bool.and_self, Int.reduceBEq, cond_true, cond_false, Bool.or_self, Bool.false_and, nodeP]
        cases nmOk nm.data.toList <;> cases strEq s tNo <;> cases n == 0 <;> cases noRawB r <;> cases l.length == 0 <;> rfl
      · simp only [Gc56_0, en, hd1, hd3, Int.reduceBEq, cond_true, cond_false, hn, hw.empty, hw.sign1, hw.sign2, hch, Rw.eta, strEq_refl, oplen, beq_self_eq_true]
        simp only [cntP, hd2, hd4, Bool.and_self, Int.reduceBEq, cond_true, cond_false, Bool.or_self, Bool.false_and, nodeP]
        cases sgn1 s <;> cases nmOk nm.data.toList <;> cases n == 0 <;> cases noRawB r <;> cases l.length == 0 <;> rfl
      · simp only [Gc56_0, en, hd1, hd3, Int.reduceBEq, cond_true, cond_false, hn, hw.empty, hw.sign1, hw.sign2, hch, Rw.eta, strEq_refl, oplen, beq_self_eq_true, hn3, hn4]
        simp only [cntP, hd2, hd4, Bool.and_self, Int.reduceBEq, cond_true, cond_false, Bool.or_self, Bool.false_and, nodeP]
        cases decide ((0 : Int) ≤ n) <;> cases decide (n ≤ (10000 : Int)) <;> cases strEq s tNo <;> cases strEq nm tNo <;> cases noRawB r <;> cases l.length == 0 <;> rfl
      · simp only [Gc56_0, en, hd1, hd3, Int.reduceBEq, cond_true, cond_false, hn, hw.empty, hw.sign1, hw.sign2, hch, Rw.eta, strEq_refl, oplen, beq_self_eq_true, bif_well]
        simp only [cntP, hd2, hd4, Bool.and_self, Int.reduceBEq, cond_true, cond_false, Bool.or_self, Bool.false_and, nodeP]
        cases wellB r <;> cases strEq s tNo <;> cases strEq nm tNo <;> cases n == 0 <;> cases l.length == 0 <;> rfl
      · cases hx : lexBad l with
        | true =>
          obtain ⟨a, b, l3, rfl⟩ : ∃ a b l3, l = a :: b :: l3 := by
            match l, hx with
            | a :: b :: l3, _ => exact ⟨a, b, l3, rfl⟩
          simp only [lexBad, Bool.and_eq_true] at hx
          obtain ⟨x1, x2, x3⟩ := hx
          obtain ⟨c1, c2, c3⟩ := lex_two (a := a) (b := b) (l := l3)
          simp only [Gc56_0, en, hd1, hd3, Int.reduceBEq, cond_true, cond_false, c1, c2, c3, rdPt0, rdPt1, x1, x2, x3]
          simp only [cntP, hd2, hd4, lexBad, x1, x2, x3, Bool.and_self, Int.reduceBEq, cond_true]
          rfl
        | false =>
          have fin : ∀ p : Option ρ, cond (decide (((List.length l : Nat) : Int) > (1 : Int))) (cond (decide ((0 : Int) ≤ (0 : Int)) && decide ((0 : Int) < ((List.length l : Nat) : Int))) (cond ((rdEl lay Key.part l (0 : Int)).op == (1 : Int)) (cond (decide ((0 : Int) ≤ (1 : Int)) && decide ((1 : Int) < ((List.length l : Nat) : Int))) (cond ((rdEl lay Key.part l (1 : Int)).op == (8 : Int)) (cond (decide ((0 : Int) ≤ (1 : Int)) && decide ((1 : Int) < ((List.length l : Nat) : Int))) (cond (strEq ((rdEl lay Key.part l (1 : Int)).sign) (ByteArray.mk #[58])) (K false ((c + 1 : Nat) : Int)) p) (none)) p) (none)) p) (none)) p = p := by
            intro p
            match l, hx with
            | [], _ => rfl
            | [a], _ => rfl
            | a :: b :: l3, hx =>
              obtain ⟨c1, c2, c3⟩ := lex_two (a := a) (b := b) (l := l3)
              simp only [c1, c2, c3, rdPt0, rdPt1, cond_true]
              simp only [lexBad] at hx
              cases x1 : a.op == 1 <;> cases x2 : b.op == 8 <;> cases x3 : strEq b.sign tCo <;> first | rfl | (rw [x1, x2, x3] at hx; cases hx)
          simp only [Gc56_0, en, hd1, hd3, Int.reduceBEq, cond_true, cond_false, hn, hw.empty, hw.sign1, hw.sign2, hch, Rw.eta, strEq_refl, oplen, beq_self_eq_true]
          rw [fin]
          simp only [hk', cntP, hd2, hd4, hx, Bool.and_self, Bool.and_false, Int.reduceBEq, cond_true, cond_false, Bool.or_false, Bool.true_or, nodeP, Bool.not_false, Bool.true_and]
          rcases cntPL l (d + 1) (c + 1) with ⟨b, m⟩
          cases b with
          | false => rfl
          | true => simp only [cond_true]; cases strEq s tNo <;> cases strEq nm tNo <;> cases n == 0 <;> cases noRawB r <;> rfl
      · simp only [Gc56_0, en, hd1, hd3, Int.reduceBEq, cond_true, cond_false, hn, hw.empty, hw.sign1, hw.sign2, hch, Rw.eta, strEq_refl, oplen, beq_self_eq_true, hk']
        simp only [cntP, hd2, hd4, Bool.and_self, Bool.and_false, Int.reduceBEq, cond_true, cond_false, Bool.false_and, Bool.false_or, nodeP]
        rcases cntPL l (d + 1) (c + 1) with ⟨b, m⟩
        cases b with
        | false => rfl
        | true => simp only [cond_true]; cases strEq s tNo <;> cases strEq nm tNo <;> cases n == 0 <;> cases noRawB r <;> rfl
      · simp only [Gc56_0, en, hd1, hd3, Int.reduceBEq, cond_true, cond_false, hn, hw.empty, hw.sign1, hw.sign2, hch, Rw.eta, strEq_refl, oplen, beq_self_eq_true, bif_well]
        simp only [cntP, hd2, hd4, Bool.and_self, Int.reduceBEq, cond_true, cond_false, Bool.or_self, Bool.false_and, nodeP]
        cases wellB r <;> cases nmOk nm.data.toList <;> cases strEq s tNo <;> cases n == 0 <;> cases l.length == 0 <;> rfl
      · simp only [Gc56_0, en, hd1, hd3, Int.reduceBEq, cond_true, cond_false, hn, hw.empty, hw.sign1, hw.sign2, hch, Rw.eta, strEq_refl, oplen, beq_self_eq_true]
        simp only [cntP, hd2, hd4, Bool.and_self, Int.reduceBEq, cond_true, cond_false, Bool.or_self, Bool.false_and, nodeP]
        cases sgn2 s <;> cases strEq nm tNo <;> cases n == 0 <;> cases noRawB r <;> cases l.length == 0 <;> rfl
      · simp only [Gc56_0, en, hd1, hd3, p1, p2, p3, p4, p5, p6, p7, p8, cond_false]
        simp only [cntP, hd2, hd4, Bool.and_self, cond_true, p1, p2, p3, p4, p5, p6, p7, p8, cond_false, Bool.or_self, Bool.false_and, nodeP]
    · refine Evt.step0 fun k ρ K => ?_
      rw [show (Tabs (k + 1)).c56_0 = Gc56_0 (Tabs k) from rfl]
      have hcz : (decide (c + 1 ≤ 400) && decide (d ≤ 40)) = false := by
        by_cases h3 : c + 1 ≤ 400
        · have : decide (d ≤ 40) = false := by simp only [decide_eq_false_iff_not]; omega
          rw [this]; simp
        · simp [h3]
      simp only [cntP, hcz, cond_false]
      by_cases h3 : c + 1 ≤ 400
      · have hd3 : decide (((c + 1 : Nat) : Int) > (400 : Int)) = false := by simp only [decide_eq_false_iff_not]; omega
        have hd1 : decide (d > (40 : Int)) = true := by simp; omega
        rw [Gc56_0]
        simp only [en, hd3, hd1, cond_true, cond_false]
      · have hd3 : decide (((c + 1 : Nat) : Int) > (400 : Int)) = true := by simp only [decide_eq_true_eq]; omega
        rw [Gc56_0]
        simp only [en, hd3, cond_true]

theorem check_loop (x : It) : ∀ (r pre : List Pt) (c : Nat), x.parts = pre ++ r → x.parts.length ≤ 140737488351232 → c ≤ 400 → (∀ y ∈ r, ∀ c : Nat, c ≤ 400 → Evt fun k => ∀ (ρ : Type) K, (Tabs k).c56_0 ρ y 1 (c : Nat) K = K (cntP y 1 c).1 ((cntP y 1 c).2 : Nat)) →
    Evt fun k => ∀ (ρ : Type) k0 k1, (Tabs k).l24_9_0 ρ x.parts (x.parts.length : Int) (pre.length : Int) x (c : Nat) k0 k1 = cond (cntPL r 1 c).1 k0 (k1 2)
  | [], pre, c, ha, hl, _, _ => by
    refine Evt.step0 fun k ρ k0 k1 => ?_
    rw [show (Tabs (k + 1)).l24_9_0 = Gl24_9_0 (Tabs k) from rfl]
    have e : decide ((pre.length : Int) < ((x.parts).length : Int)) = false := by simp [ha]
    simp only [Gl24_9_0, e, cond_false, cntPL, cond_true]
  | y :: r, pre, c, ha, hl, hc, ih => by
    have hlen : pre.length < x.parts.length := by simp [ha]
    have e1 : decide ((pre.length : Int) < ((x.parts).length : Int)) = true := by simp; omega
    have e2 : decide ((0 : Int) ≤ (pre.length : Int)) = true := by simp
    have e4 : IntKind.wrap .i64 ((pre.length : Int) + 1) = ((pre ++ [y]).length : Int) := by
      rw [W_id (by omega) (by omega)]; simp
    have e6 : rdEl lay Key.part x.parts (pre.length : Int) = y := by rw [ha]; exact rdPt ..
    have hle := cntP_le y 1 c hc
    cases hcx : cntP y 1 c with
    | mk b m =>
      rw [hcx] at hle
      cases b with
      | false =>
        refine (ih y (List.mem_cons_self ..) c hc).step fun k hk1 ρ k0 k1 => ?_
        rw [show (Tabs (k + 1)).l24_9_0 = Gl24_9_0 (Tabs k) from rfl]
        simp only [Gl24_9_0, e1, e2, Bool.and_self, cond_true, e6, rdE_parts, hk1, hcx, Bool.not_false, cntPL, cond_false]
      | true =>
        refine ((ih y (List.mem_cons_self ..) c hc).and (check_loop x r (pre ++ [y]) m (by simp [ha]) hl (hle.2 rfl) (fun z hz => ih z (List.mem_cons_of_mem _ hz)))).step fun k ⟨hk1, hk2⟩ ρ k0 k1 => ?_
        rw [show (Tabs (k + 1)).l24_9_0 = Gl24_9_0 (Tabs k) from rfl]
        simp only [Gl24_9_0, e1, e2, Bool.and_self, cond_true, e6, rdE_parts, It.eta, hk1, hcx, Bool.not_true, cntPL, cond_false, e4, hk2]

theorem lenpos {l : List Pt} : decide (((List.length l : Nat) : Int) > (0 : Int)) = !(l.length == 0) := by
  cases l with
  | nil => rfl
  | cons a l => simp

theorem s_checkI (x : It) (h : x.Ok) : Evt fun k => ∀ (ρ : Type) K, (Tabs k).c24_0 ρ x K = K (bif wellI x then 0 else 2) := by
  have hl := h.len
  refine ((check_loop x x.parts [] 0 rfl (by omega) (by omega) (fun y hy c hc => s_whole y (h.mem y hy) 1 c (by omega) (by omega) hc)).and ((s_small x.name).and ((s_small x.word).and ((s_check x.raw h.raw).and s_empty)))).step fun k ⟨h1, h3, h4, h5, h6⟩ ρ K => ?_
  rw [show (Tabs (k + 1)).c24_0 = Gc24_0 (Tabs k) from rfl]
  have h1 := h1 ρ
  simp only [List.length_nil, Int.natCast_zero] at h1
  have hs := (cntPL_spec (l := x.parts) (fun y _ => cntP_spec y) 1 0 (by omega)).1
  simp only [Nat.zero_add] at hs
  simp only [Gc24_0, h3, h4, h5, h6, Rw.eta, It.eta, lenpos, h1, hs, wellI]
  cases strEq x.word tNo with
  | true => cases smB x.name <;> cases strEq x.name tTy <;> cases wellB x.raw <;> cases x.parts.length == 0 <;> rfl
  | false => cases smB x.word <;> cases strEq x.name tNo <;> cases noRawB x.raw <;> cases decide (sizePL x.parts ≤ 400) <;> cases partBL x.parts 1 <;> rfl

end Go.Proofs.YtanfoijdfcnpoaaGreatDoor.Ev

set_option linter.unusedVariables false
set_option linter.unusedSimpArgs false
namespace Go.Proofs.YtanfoijdfcnpoaaGreatDoor.Ev

/-! ### What is read fits the machine -/

theorem prE_ok {ts : List Tok} {x : Rw} {c : Bool} {ts' : List Tok} (h : prE ts = some (.ok x c ts')) (hg : Gd ts) (hO : ∀ t ∈ ts, TokOk t) : x.Ok := pr_ok _ _ _ _ _ _ h hg trivial hO

theorem zR_ok : zR.Ok := ok0 tNo_size

def QRes.Fine (n : Nat) : QRes → Prop
  | .one x _ => x.Ok
  | .all l _ => (∀ x ∈ l, x.Ok) ∧ l.length ≤ n
  | .err _ => True

def QTag.Fine (n : Nat) (ts : List Tok) : QTag → Prop
  | .part => ts.length ≤ n
  | .parts _ acc => (∀ x ∈ acc, x.Ok) ∧ acc.length + ts.length ≤ n

theorem hd_mem {ts : List Tok} (hg : Gd ts) : hdT ts ∈ ts := by
  cases ts with
  | nil => exact absurd rfl hg.ne
  | cons t r => exact List.mem_cons_self ..

theorem qr_fine (n : Nat) (hn : n ≤ 200000) : ∀ (f : Nat) (tag : QTag) (ts : List Tok) (res : QRes), qr f tag ts = some res → Gd ts → (∀ t ∈ ts, TokOk t) → tag.Fine n ts → res.Fine n := by
  intro f
  induction f with
  | zero => intro tag ts res h; cases h
  | succ f ih =>
    intro tag ts res h hg hO hf
    have TL : ∀ {ts0 : List Tok}, (∀ t ∈ ts0, TokOk t) → ∀ t ∈ ts0.tail, TokOk t := fun h t ht => h t ((suf_tl _).mem ht)
    have big : ∀ {s : ByteArray}, s.size ≤ 6000 → s.size ≤ 140737488355328 := fun h => by omega
    cases tag with
    | part =>
      have hd := big (hO _ (hd_mem hg)).size
      have hlen : ts.length ≤ n := hf
      have EX : ∀ {ts0 : List Tok} {w : ByteArray} {C : Rw → Pt} {res : QRes}, Gd ts0 → (∀ t ∈ ts0, TokOk t) → (∀ x : Rw, x.Ok → (C x).Ok) → (andE (prE ts0) fun x ts1 => bif sees ts1 [w] then some (.one (C x) ts1.tail) else some (.err ts1)) = some res → res.Fine n := by
        intro ts0 w C res hg0 h0 hC h
        rcases andE_some h with ⟨x, c, ts1, h1, h⟩ | ⟨ts1, h1, rfl⟩
        · rcases bif_some h with ⟨_, h⟩ | ⟨_, h⟩
          · cases h; exact hC x (prE_ok h1 hg0 h0)
          · cases h; trivial
        · trivial
      have PA : ∀ {ts0 : List Tok} {w : ByteArray} {o : Int} {res : QRes}, Gd ts0 → (∀ t ∈ ts0, TokOk t) → ts0.length ≤ n → (andA (qr f (.parts w []) ts0) fun L ts1 => some (.one ⟨o, tNo, tNo, 0, zR, L⟩ ts1)) = some res → res.Fine n := by
        intro ts0 w o res hg0 h0 hl h
        rcases andA_some h with ⟨L, ts1, h1, h⟩ | ⟨ts1, h1, rfl⟩
        · cases h
          obtain ⟨a1, a2⟩ := ih _ _ _ h1 hg0 h0 ⟨fun x hx => (by cases hx), by simpa using hl⟩
          exact .mk _ _ _ _ _ _ tNo_size tNo_size zR_ok (by omega) a1
        · trivial
      simp only [qr] at h
      rcases bif_some h with ⟨h1, h⟩ | ⟨h1, h⟩
      · cases h; exact .mk _ _ _ _ _ _ tNo_size hd zR_ok (by simp) (fun x hx => by cases hx)
      rcases bif_some h with ⟨h2, h⟩ | ⟨h2, h⟩
      · cases h; exact .mk _ _ _ _ _ _ tNo_size tNo_size zR_ok (by simp) (fun x hx => by cases hx)
      rcases bif_some h with ⟨h3, h⟩ | ⟨h3, h⟩
      · obtain ⟨g1, g2⟩ := gd_tl hg (sees7 h3)
        rcases bif_some h with ⟨h4, h⟩ | ⟨h4, h⟩
        · cases h; exact .mk _ _ _ _ _ _ hd (big (TL hO _ (hd_mem g1)).size) zR_ok (by simp) (fun x hx => by cases hx)
        · cases h; trivial
      rcases bif_some h with ⟨h4, h⟩ | ⟨h4, h⟩
      · cases h; exact .mk _ _ _ _ _ _ hd tNo_size zR_ok (by simp) (fun x hx => by cases hx)
      rcases bif_some h with ⟨h5, h⟩ | ⟨h5, h⟩
      · obtain ⟨g1, g2⟩ := gd_tl hg (sees7 h5)
        exact EX (C := fun x => ⟨4, tNo, tNo, 0, x, []⟩) g1 (TL hO) (fun x hx => .mk _ _ _ _ _ _ tNo_size tNo_size hx (by simp) (fun x hx => by cases hx)) h
      rcases bif_some h with ⟨h6, h⟩ | ⟨h6, h⟩
      · obtain ⟨g1, g2⟩ := gd_tl hg (sees7 h6)
        exact PA g1 (TL hO) (by omega) h
      rcases bif_some h with ⟨h7, h⟩ | ⟨h7, h⟩
      · obtain ⟨g1, g2⟩ := gd_tl hg (sees7 h7)
        rcases bif_some h with ⟨h8, h⟩ | ⟨h8, h⟩
        · obtain ⟨u, c, r2, hr, hu, hc, _⟩ := bind_two h8
          have hO1 := TL hO
          rw [hr] at g1 h hO1
          have g3 := g1.tail (isName_kind hu)
          have g4 := g3.tail (by rw [hc]; decide)
          simp only [List.tail_cons, hdT] at h
          have hus := big (hO1 u (List.mem_cons_self ..)).size
          exact EX (C := fun x => ⟨7, tNo, u.text, 0, x, []⟩) g4 (fun t ht => hO1 t (List.mem_cons_of_mem _ (List.mem_cons_of_mem _ ht))) (fun x hx => .mk _ _ _ _ _ _ tNo_size hus hx (by simp) (fun x hx => by cases hx)) h
        · exact PA g1 (TL hO) (by omega) h
      cases h; trivial
    | parts e acc =>
      obtain ⟨hacc, hlen⟩ := hf
      simp only [qr] at h
      rcases bif_some h with ⟨h1, h⟩ | ⟨h1, h⟩
      · cases h; exact ⟨hacc, by omega⟩
      rcases andO_some h with ⟨x, ts1, h2, h⟩ | ⟨ts1, h2, rfl⟩
      · obtain ⟨a1, a2, a3⟩ := qr_keeps _ _ _ _ h2 hg
        simp only [QRes.rest] at a1 a2
        have a3 : ts1.length + 1 ≤ ts.length := a3
        have hx : x.Ok := ih .part ts _ h2 hg hO (by show ts.length ≤ n; omega)
        refine ih (.parts e (acc ++ [x])) ts1 _ h a2 (fun t ht => hO t (a1.mem ht)) ⟨fun y hy => ?_, by simp; omega⟩
        rcases List.mem_append.1 hy with hy | hy
        · exact hacc y hy
        · simp only [List.mem_singleton] at hy; subst hy; exact hx
      · trivial

theorem ext_size (s : ByteArray) (h : s.size ≤ 6000) : (ByteArray.extract s 1 s.size).size ≤ 140737488355328 := by
  rw [ByteArray.size_extract]; omega

theorem itemP_ok {ts : List Tok} {x : It} {ts1 : List Tok} (h : itemP ts = some (.ok x ts1)) (hg : Gd ts) (hO : ∀ t ∈ ts, TokOk t) (hlen : ts.length ≤ 200000) : x.Ok := by
  have hd := (hO _ (hd_mem hg)).size
  unfold itemP at h
  cases h5 : (hdT ts).kind == 5 with
  | true =>
    obtain ⟨g1, g2⟩ := gd_tl hg (hd7 hg (by rw [eq_of_beq h5]; decide))
    rw [h5, cond_true] at h
    cases hq : qrE tDo ts.tail with
    | none => rw [hq] at h; cases h
    | some res =>
      have hf := qr_fine 200000 (by omega) _ _ _ _ hq g1 (fun t ht => hO t ((suf_tl _).mem ht)) ⟨fun x hx => (by cases hx), by simp; omega⟩
      rw [hq] at h
      cases res with
      | one _ _ => cases h
      | err _ => cases h
      | all l ts2 =>
        cases h
        exact ⟨ext_size _ hd, tNo_size, zR_ok, by have := hf.2; show l.length * 120 ≤ _; omega, hf.1⟩
  | false =>
    rw [h5, cond_false] at h
    cases h1 : ((hdT ts).kind == 1 && !strEq (hdT ts).text tTy) with
    | false => rw [h1, cond_false] at h; cases h
    | true =>
      rw [h1, cond_true] at h
      have hk : (hdT ts).kind ≠ 7 := by
        simp only [Bool.and_eq_true, beq_iff_eq] at h1
        rw [h1.1]; decide
      obtain ⟨g1, g2⟩ := gd_tl hg (hd7 hg hk)
      cases hs : sees ts.tail [tCo] with
      | false => rw [hs, cond_false] at h; cases h
      | true =>
        rw [hs, cond_true] at h
        obtain ⟨g3, g4⟩ := gd_tl g1 (sees7 hs)
        obtain ⟨res, hr⟩ := prE_some g3
        rw [hr] at h
        cases res with
        | err _ => cases h
        | ok y c ts2 =>
          dsimp only at h
          rcases bif_some h with ⟨_, h⟩ | ⟨_, h⟩
          · cases h
            exact ⟨tNo_size, by show (hdT ts).text.size ≤ _; omega, prE_ok hr g3 (fun t ht => hO t ((suf_tl _).mem ((suf_tl _).mem ht))), by simp, fun x hx => by cases hx⟩
          · cases h

/-! ### One item -/

def finI {ρ : Type} (l : List Tok) (res : IRes) (k0 : It → List Tok → Int → Option ρ) (k1 : Int → Int → List Tok → Int → Option ρ) : Option ρ :=
  match res with
  | .ok x ts => k0 x l (posT l ts)
  | .err ts => k1 (atT ts) 4 l (posT l ts)

theorem word_cut {s : ByteArray} {w : List UInt8} (h : s = mk (37 :: w)) : (decide ((0 : Int) ≤ (1 : Int)) && (decide ((1 : Int) ≤ (s.size : Int)) && decide ((s.size : Int) ≤ (s.size : Int)))) = true := by
  subst h; rw [mk_size]; simp; omega

theorem item_runs {ts : List Tok} {res : IRes} (h : itemP ts = some res) {l : List Tok} (hl : l.length ≤ 100000) (hsf : ts <:+ l) (hg : Gd ts) (hN : ∀ t ∈ ts, TokN t) (hO : ∀ t ∈ ts, TokOk t) :
    Evt fun k => ∀ (ρ : Type) k0 k1, (Tabs k).c88_0 ρ l (posT l ts) k0 k1 = finI l res k0 k1 := by
  have hlen := hsf.length_le
  cases ts with
  | nil => exact absurd rfl hg.ne
  | cons t r =>
  have w1 := posT_next hsf hl
  have s1 : r <:+ l := (List.suffix_cons t r).trans hsf
  have hNt := hN t (List.mem_cons_self ..)
  have nC : tCo ∈ [tRP, tRB, tCo, tDo] := by simp
  have nD : tDo ∈ [tRP, tRB, tCo, tDo] := by simp
  unfold itemP at h
  simp only [hdT, List.tail_cons] at h
  cases h5 : t.kind == 5 with
  | true =>
    have g1 : Gd r := hg.tail (by rw [eq_of_beq h5]; decide)
    obtain ⟨w, hw, _⟩ := hNt.word (eq_of_beq h5)
    have hcut := word_cut hw
    rw [h5, cond_true] at h
    cases hq0 : qrE tDo r with
    | none => rw [hq0] at h; cases h
    | some res' =>
      have hk := qr_keeps _ _ _ _ hq0 g1
      have run := parts_run s1 hl hk (qr_runs _ _ _ _ hq0 l hl s1 g1 (fun t ht => hN t (List.mem_cons_of_mem _ ht)) (fun t ht => hO t (List.mem_cons_of_mem _ ht)) ⟨.inr (.inr rfl), by simp only [List.length_nil, List.length_cons] at hlen ⊢; omega⟩)
      rw [hq0] at h
      refine (run.and hq).step fun k ⟨r1, hq⟩ ρ k0 k1 => ?_
      rw [show (Tabs (k + 1)).c88_0 = Gc88_0 (Tabs k) from rfl]
      simp only [Gc88_0, hq.now l t r hsf, h5, cond_true, hcut, w1, r1]
      cases res' with
      | one _ _ => exact hk.2.2.elim
      | err ts1 => cases h; rfl
      | all L ts1 => cases h; rfl
  | false =>
    rw [h5, cond_false] at h
    cases h1 : t.kind == 1 with
    | false =>
      rw [h1, Bool.false_and, cond_false] at h
      cases h
      refine hq.step fun k hq ρ k0 k1 => ?_
      rw [show (Tabs (k + 1)).c88_0 = Gc88_0 (Tabs k) from rfl]
      have e : (t.kind != (1 : Int)) = true := by rw [bne, h1]; rfl
      simp only [Gc88_0, hq.now l t r hsf, h5, cond_false, e, cond_true, hq.fail l t r hsf, finI, atT]
    | true =>
      have e : (t.kind != (1 : Int)) = false := by rw [bne, h1]; rfl
      rw [h1, Bool.true_and] at h
      cases hty : strEq t.text tTy with
      | true =>
        rw [hty, Bool.not_true, cond_false] at h
        cases h
        refine hq.step fun k hq ρ k0 k1 => ?_
        rw [show (Tabs (k + 1)).c88_0 = Gc88_0 (Tabs k) from rfl]
        simp only [Gc88_0, hq.now l t r hsf, h5, cond_false, e, hty, cond_true, hq.fail l t r hsf, finI, atT]
      | false =>
        rw [hty, Bool.not_false, cond_true] at h
        have g1 : Gd r := hg.tail (by rw [eq_of_beq h1]; decide)
        cases r with
        | nil => exact absurd rfl g1.ne
        | cons u r2 =>
        cases hs : sees (u :: r2) [tCo] with
        | false =>
          rw [hs, cond_false] at h
          cases h
          refine hq.step fun k hq ρ k0 k1 => ?_
          rw [show (Tabs (k + 1)).c88_0 = Gc88_0 (Tabs k) from rfl]
          simp only [Gc88_0, hq.now l t _ hsf, h5, cond_false, e, hty, w1, hq.need _ nC l u r2 s1 hl, hs, finI, atT]
        | true =>
          rw [hs, cond_true] at h
          obtain ⟨g3, _⟩ := gd_tl g1 (sees7 hs)
          simp only [List.tail_cons] at g3 h
          have s3 : r2 <:+ l := (List.suffix_cons u r2).trans s1
          obtain ⟨res', hr⟩ := prE_some g3
          obtain ⟨a1, a2⟩ := prE_keeps hr g3
          rw [hr] at h
          refine ((pr_runs _ _ _ _ hr l hl s3 g3).and hq).step fun k ⟨r1, hq⟩ ρ k0 k1 => ?_
          rw [show (Tabs (k + 1)).c88_0 = Gc88_0 (Tabs k) from rfl]
          have r1' := r1 ρ
          cases res' with
          | err ts1 =>
            cases h
            simp only [fin] at r1'
            simp only [Gc88_0, hq.now l t _ hsf, h5, cond_false, e, hty, w1, hq.need _ nC l u r2 s1 hl, hs, cond_true, r1', finI]
          | ok x c ts1 =>
            simp only [fin] at r1'
            simp only [PRes.rest] at a1 a2
            obtain ⟨t1, q1, rfl⟩ : ∃ t1 q1, ts1 = t1 :: q1 := by cases ts1 with | nil => exact absurd rfl a2.ne | cons a b => exact ⟨a, b, rfl⟩
            dsimp only at h
            simp only [Gc88_0, hq.now l t _ hsf, h5, cond_false, e, hty, w1, hq.need _ nC l u r2 s1 hl, hs, cond_true, r1', hq.need _ nD l t1 q1 (a1.trans s3) hl, Rw.eta]
            rcases bif_some h with ⟨hd, h⟩ | ⟨hd, h⟩
            · cases h; simp only [hd, cond_true, finI, List.tail_cons]
            · cases h; simp only [hd, cond_false, finI, atT]

/-! ### All items -/

def finR {ρ : Type} (out : List It ⊕ (List It × List Tok)) (kd : List It → Option ρ) (kp : List It → Int → Int → Option ρ) : Option ρ :=
  match out with
  | .inl r => kd r
  | .inr q => kp q.1 (atT q.2) 4

theorem rng_runs {l : List Tok} (hl : l.length ≤ 100000) (hN : ∀ t ∈ l, TokN t) (hO : ∀ t ∈ l, TokOk t) : ∀ (f : Nat) (ts : List Tok) (r : List It) (out : List It ⊕ (List It × List Tok)), itemsP f ts r = some out → ts <:+ l → Gd ts → r.length + ts.length ≤ 200000 →
    Evt fun k => ∀ (ρ : Type) kd kp, rngI (Tabs k) ρ f l (posT l ts) r kd kp = finR out kd kp
  | 0, ts, r, out, h, _, _, _ => by cases h
  | f + 1, [], r, out, h, _, hg, _ => absurd rfl hg.ne
  | f + 1, t :: q, r, out, h, hsf, hg, hlen => by
    simp only [itemsP, hdT] at h
    cases h7 : t.kind == 7 with
    | true =>
      rw [h7, cond_true] at h
      cases h
      refine hq.mono fun k hq ρ kd kp => ?_
      simp only [rngI, hq.now l t q hsf, h7, cond_true, finR]
    | false =>
      rw [h7, cond_false] at h
      rcases itemP_ends hg with ⟨x, ts1, hx, h1, h2, h3⟩ | ⟨ts1, hx, h1, h2⟩
      · rw [hx] at h
        simp only [List.length_cons] at hlen h3
        refine ((item_runs hx hl hsf hg (fun t ht => hN t (hsf.mem ht)) (fun t ht => hO t (hsf.mem ht))).and ((rng_runs hl hN hO f ts1 (r ++ [x]) out h (h1.trans hsf) h2 (by simp; omega)).and hq)).mono fun k ⟨r1, r2, hq⟩ ρ kd kp => ?_
        have hd : decide ((r.length + 1) * 104 ≤ 140737488355328) = true := by simp; omega
        simp only [rngI, hq.now l t q hsf, h7, cond_false, r1, finI, hd, cond_true, r2]
      · rw [hx] at h
        cases h
        refine ((item_runs hx hl hsf hg (fun t ht => hN t (hsf.mem ht)) (fun t ht => hO t (hsf.mem ht))).and hq).mono fun k ⟨r1, hq⟩ ρ kd kp => ?_
        simp only [rngI, hq.now l t q hsf, h7, cond_false, r1, finI, finR]

theorem itemsP_ok {l : List Tok} (hO : ∀ t ∈ l, TokOk t) (hl : l.length ≤ 100000) : ∀ (f : Nat) (ts : List Tok) (r : List It) (out : List It ⊕ (List It × List Tok)), itemsP f ts r = some out → ts <:+ l → Gd ts → (∀ x ∈ r, x.Ok) → ∀ r', out = .inl r' → (∀ x ∈ r', x.Ok) ∧ r'.length ≤ r.length + ts.length
  | 0, ts, r, out, h, _, _, _ => by cases h
  | f + 1, ts, r, out, h, hsf, hg, hr => by
    have hlen := hsf.length_le
    simp only [itemsP] at h
    rcases bif_some h with ⟨h7, h⟩ | ⟨h7, h⟩
    · cases h; intro r' e; cases e; exact ⟨hr, by omega⟩
    · rcases itemP_ends hg with ⟨x, ts1, hx, h1, h2, h3⟩ | ⟨ts1, hx, h1, h2⟩
      · rw [hx] at h
        intro r' e
        have := itemsP_ok hO hl f ts1 (r ++ [x]) out h (h1.trans hsf) h2 (fun y hy => by
          rcases List.mem_append.1 hy with hy | hy
          · exact hr y hy
          · simp only [List.mem_singleton] at hy; subst hy; exact itemP_ok hx hg (fun t ht => hO t (hsf.mem ht)) (by omega)) r' e
        exact ⟨this.1, by have := this.2; simp at this; omega⟩
      · rw [hx] at h
        cases h; intro r' e; cases e

theorem rdIt (pre : List It) (x : It) (post : List It) : rdEl lay Key.item (pre ++ x :: post) (pre.length : Int) = x := rdEl_mid (S := sig) (L := lay) (k := Key.item) pre x post rfl

theorem check_items (l : List It) (hl : l.length ≤ 1000000) : ∀ (r pre : List It), l = pre ++ r → (∀ x ∈ r, x.Ok) →
    Evt fun k => ∀ (ρ : Type) q a e D k0 k1, (Tabs k).l21_11_0 ρ l (l.length : Int) (pre.length : Int) q a e D k0 k1 = cond (r.all wellI) (k0 q a e) (k1 [] 0 5)
  | [], pre, ha, _ => by
    refine Evt.step0 fun k ρ q a e D k0 k1 => ?_
    rw [show (Tabs (k + 1)).l21_11_0 = Gl21_11_0 (Tabs k) from rfl]
    have e : decide ((pre.length : Int) < ((l).length : Int)) = false := by simp [ha]
    simp only [Gl21_11_0, e, cond_false, List.all_nil, cond_true]
  | x :: r, pre, ha, hok => by
    have hlen : pre.length < l.length := by simp [ha]
    have e1 : decide ((pre.length : Int) < ((l).length : Int)) = true := by simp; omega
    have e2 : decide ((0 : Int) ≤ (pre.length : Int)) = true := by simp
    have e4 : IntKind.wrap .i64 ((pre.length : Int) + 1) = ((pre ++ [x]).length : Int) := by
      rw [W_id (by omega) (by omega)]; simp
    have e6 : rdEl lay Key.item l (pre.length : Int) = x := by rw [ha]; exact rdIt ..
    refine ((s_checkI x (hok x (List.mem_cons_self ..))).and (check_items l hl r (pre ++ [x]) (by simp [ha]) fun y hy => hok y (List.mem_cons_of_mem _ hy))).step fun k ⟨h1, h2⟩ ρ q a e D k0 k1 => ?_
    rw [show (Tabs (k + 1)).l21_11_0 = Gl21_11_0 (Tabs k) from rfl]
    simp only [Gl21_11_0, e1, e2, Bool.and_self, cond_true, e6, It.eta, h1, bif_well, e4, h2, List.all_cons]
    cases wellI x <;> rfl

/-- What Items returns. -/
def itemsR (l : List UInt8) : List It × Int × Int :=
  bif (toks l).2.2 == 0 then
    match itemsP ((toks l).1.length + 2) (toks l).1 [] with
    | some (.inl r) => bif r.all wellI && decide (r.length ≤ 120) then (r, 0, 0) else ([], 0, 5)
    | some (.inr q) => ([], atT q.2, 4)
    | none => ([], 0, 0)
  else ([], (toks l).2.1, (toks l).2.2)

theorem s_all : Evt fun k => ∀ (l : List Tok) (n : Int) (ρ : Type) K, (Tabs k).c51_0 ρ l n K = K l n := Evt.step0 fun k l n ρ K => by
  rw [show (Tabs (k + 1)).c51_0 = Gc51_0 (Tabs k) from rfl]
  simp only [Gc51_0]

theorem items_len {l : List It} : decide (((List.length l : Nat) : Int) > (120 : Int)) = !decide (l.length ≤ 120) := by
  by_cases h : l.length ≤ 120
  · have : ¬ (((List.length l : Nat) : Int) > (120 : Int)) := by omega
    simp only [h, this, decide_true, decide_false, Bool.not_true]
  · have : (((List.length l : Nat) : Int) > (120 : Int)) := by omega
    simp only [h, this, decide_true, decide_false, Bool.not_false]

theorem s_items (l : List UInt8) : Evt fun k => ∀ (ρ : Type) K, (Tabs k).c21_0 ρ (mk l) K = K (itemsR l).1 (itemsR l).2.1 (itemsR l).2.2 := by
  have hT := s28 l
  cases h0 : ((toks l).2.2 == 0) with
  | false =>
    refine hT.step fun k hT ρ K => ?_
    rw [show (Tabs (k + 1)).c21_0 = Gc21_0 (Tabs k) from rfl]
    have e : ((toks l).2.2 != 0) = true := by rw [bne, h0]; rfl
    simp only [Gc21_0, hT, e, cond_true, itemsR, h0, cond_false]
  | true =>
    have e : ((toks l).2.2 != 0) = false := by rw [bne, h0]; rfl
    obtain ⟨g0, hlen, hO⟩ := toks_good l (eq_of_beq h0)
    have hN := toks_tok l (eq_of_beq h0)
    obtain ⟨out, ho, hq⟩ := itemsP_ends ((toks l).1.length + 2) (toks l).1 [] g0 (by omega)
    have hrun := rng_runs (by omega) hN hO _ _ _ _ ho (List.suffix_refl _) g0 (by simp; omega)
    rw [posT_all] at hrun
    simp only [itemsR, h0, cond_true, ho]
    rcases out with r | q
    · obtain ⟨hok, hrl⟩ := itemsP_ok hO (by omega) _ _ _ _ ho (List.suffix_refl _) g0 (fun x hx => by cases hx) r rfl
      simp only [List.length_nil, Nat.zero_add] at hrl
      have hc := check_items r (by omega) r [] rfl hok
      simp only [List.length_nil, Int.natCast_zero] at hc
      refine (hT.and (s_all.and (hrun.and hc))).step fun k ⟨hT, ha, hrun, hc⟩ ρ K => ?_
      rw [show (Tabs (k + 1)).c21_0 = Gc21_0 (Tabs k) from rfl]
      simp only [Gc21_0, hT, e, cond_false, ha, hrun, finR, hc, items_len]
      cases r.all wellI <;> cases decide (r.length ≤ 120) <;> rfl
    · refine (hT.and (s_all.and hrun)).step fun k ⟨hT, ha, hrun⟩ ρ K => ?_
      rw [show (Tabs (k + 1)).c21_0 = Gc21_0 (Tabs k) from rfl]
      simp only [Gc21_0, hT, e, cond_false, ha, hrun, finR]
      rfl

end Go.Proofs.YtanfoijdfcnpoaaGreatDoor.Ev
