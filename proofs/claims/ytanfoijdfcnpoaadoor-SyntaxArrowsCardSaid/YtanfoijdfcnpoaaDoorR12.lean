/- This file proves that the text of an expression is cut into its tokens, and that Expr reads it back; without any condition. -/
import Derived.Test.YtanfoijdfcnpoaaDoorR11
import Derived.Test.YtanfoijdfcnpoaaDoorR5
set_option linter.unusedVariables false
set_option linter.unusedSimpArgs false
namespace Go.Proofs.YtanfoijdfcnpoaaDoor.Ev

/-- A text is cut into these tokens. -/
inductive Lx : List UInt8 → List Wd → Prop
  | nil : Lx [] []
  | cons {c : UInt8} {r : List UInt8} {k : Int} {w : List UInt8} {ws : List Wd} (h : next c r = some (k, w)) (hr : Lx (skip ((c :: r).drop w.length) false) ws) : Lx (c :: r) ((k, w) :: ws)

theorem Lx.tk {r : List UInt8} {ws : List Wd} (h : Lx r ws) : ∀ N n, r.length ≤ n → ∃ ts, Ev.tk N n r = .inl ts ∧ Tw ts ws := by
  induction h with
  | nil => intro N n _; exact ⟨[], by cases n <;> rfl, rfl⟩
  | @cons c r k w ws h hr ih =>
    intro N n hn
    cases n with
    | zero => simp at hn
    | succ n =>
      obtain ⟨h1, q, h2⟩ := next_text h
      have h1' : 1 ≤ w.length := by
        cases w with
        | nil => exact absurd rfl h1
        | cons _ _ => simp
      have hlen : (skip ((c :: r).drop w.length) false).length ≤ n := by
        have := (skip_suffix ((c :: r).drop w.length) false).length_le
        simp only [List.length_drop, List.length_cons] at this hn
        omega
      obtain ⟨ts, h3, h4⟩ := ih N n hlen
      refine ⟨⟨k, mk w, (N : Int) - ((c :: r).length : Int)⟩ :: ts, ?_, ?_⟩
      · simp only [Ev.tk, h, h3]
      · simp only [Tw, List.map_cons, shape, mk_list]
        rw [show ts.map shape = ws from h4]

/-- A name may end here. -/
def SepN : List UInt8 → Prop
  | [] => True
  | c :: _ => nmC c = false

theorem word_app {q : List UInt8} (hq : SepN q) : ∀ {w : List UInt8}, w.all nmC = true → word (w ++ q) = w
  | [], _ => by
    cases q with
    | nil => rfl
    | cons c r => simp only [List.nil_append, word, List.takeWhile_cons]; rw [show nmC c = false from hq]; rfl
  | c :: w, h => by
    simp only [List.all_cons, Bool.and_eq_true] at h
    have := word_app hq h.2
    simp only [word] at this
    simp only [List.cons_append, word, List.takeWhile_cons, h.1, if_true, this]

/-- A name's token. -/
theorem nm_next {w q : List UInt8} (h : nameL letB w = true) (hq : SepN q) : ∃ c r, w = c :: r ∧ next c (r ++ q) = some (nmW w) ∧ letB (c.toNat : Int) = true := by
  cases w with
  | nil => cases h
  | cons c r =>
    have h' := h
    simp only [nameL, Bool.and_eq_true, decide_eq_true_eq] at h'
    have hw : word (c :: (r ++ q)) = c :: r := word_app (w := c :: r) hq h'.2.2
    refine ⟨c, r, rfl, ?_, h'.2.1⟩
    have hl : letB (c.toNat : Int) = (smallB (c.toNat : Int) || capB (c.toNat : Int)) := rfl
    simp only [next, hw, nmW]
    cases hs : smallB (c.toNat : Int) with
    | true =>
      have : nameL smallB (c :: r) = true := by simp only [nameL, Bool.and_eq_true, decide_eq_true_eq]; exact ⟨h'.1, hs, h'.2.2⟩
      simp only [cond_true, this]
    | false =>
      have hc : capB (c.toNat : Int) = true := by have := h'.2.1; rw [hl, hs] at this; exact this
      have : nameL capB (c :: r) = true := by simp only [nameL, Bool.and_eq_true, decide_eq_true_eq]; exact ⟨h'.1, hc, h'.2.2⟩
      simp only [cond_true, cond_false, hc, this]

theorem nm_let {w : List UInt8} (h : nmOk w = true) : nameL letB w = true := by
  simp only [nmOk, Bool.and_eq_true] at h; exact h.1

/-- What is shown of an expression's text. -/
def LexE (t : List UInt8) (ks : List Wd) : Prop := ∀ q ws, SepN q → Lx (skip q false) ws → Lx (t ++ q) (ks ++ ws) ∧ skip (t ++ q) false = t ++ q
/-- The same of a text in parentheses or with its own end. -/
def LexP (t : List UInt8) (ks : List Wd) : Prop := ∀ q ws, SepN q → Lx (skip q false) ws → Lx (t ++ q) (ks ++ ws) ∧ skip (t ++ q) false = t ++ q

theorem lx_name {w : List UInt8} (h : nameL letB w = true) : LexE w [nmW w] := by
  intro q ws hq hl
  obtain ⟨c, r, rfl, h1, h2⟩ := nm_next h hq
  refine ⟨?_, let_skip h2⟩
  have hw : (nmW (c :: r)).2 = c :: r := rfl
  refine Lx.cons (k := (nmW (c :: r)).1) (w := c :: r) h1 ?_
  have : (c :: (r ++ q)).drop (c :: r).length = q := by
    rw [← List.cons_append, List.drop_left]
  show Lx (skip ((c :: (r ++ q)).drop (c :: r).length) false) ws
  rw [this]; exact hl

theorem lx_hole : LexE [95] [(3, [95])] := by
  intro q ws hq hl
  have hw : word (95 :: q) = [95] := word_app (w := [95]) hq (by decide)
  have h1 : next 95 q = some (3, [95]) := by
    have : next 95 q = bif word (95 :: q) == [95] then some (3, [95]) else none := rfl
    rw [this, hw]; rfl
  exact ⟨Lx.cons h1 hl, rfl⟩

theorem lx_par {t : List UInt8} {ks : List Wd} (h : LexE t ks) (b : Bool) : LexE (par b t) (parW b ks) := by
  cases b with
  | false => exact h
  | true =>
    intro q ws hq hl
    have h2 : Lx (skip (41 :: q) false) ((4, [41]) :: ws) := by
      rw [show skip (41 :: q) false = 41 :: q from rfl]
      exact Lx.cons (k := 4) (w := [41]) rfl hl
    obtain ⟨h3, h4⟩ := h (41 :: q) _ (show nmC 41 = false by decide) h2
    have e : par true t ++ q = 40 :: (t ++ 41 :: q) := by simp [par]
    have e2 : parW true ks ++ ws = (4, [40]) :: (ks ++ (4, [41]) :: ws) := by simp [parW]
    rw [e, e2]
    refine ⟨Lx.cons (k := 4) (w := [40]) rfl ?_, rfl⟩
    show Lx (skip (t ++ 41 :: q) false) _
    rw [h4]; exact h3

/-- Two texts with a blank between them. -/
theorem lx_blank {t u : List UInt8} {ks ls : List Wd} (h : LexE t ks) (h' : LexE u ls) : LexE (t ++ [32] ++ u) (ks ++ ls) := by
  intro q ws hq hl
  obtain ⟨h3, h4⟩ := h' q ws hq hl
  have h5 : Lx (skip (32 :: (u ++ q)) false) (ls ++ ws) := by
    rw [show skip (32 :: (u ++ q)) false = skip (u ++ q) false from rfl, h4]; exact h3
  obtain ⟨h6, h7⟩ := h (32 :: (u ++ q)) _ (show nmC 32 = false by decide) h5
  have e : t ++ [32] ++ u ++ q = t ++ 32 :: (u ++ q) := by simp
  rw [e, List.append_assoc]
  exact ⟨h6, h7⟩

/-- Two texts with an arrow between them. -/
theorem lx_arrow {t u : List UInt8} {ks ls : List Wd} (h : LexE t ks) (h' : LexE u ls) (a b : UInt8) (hs : skip (a :: b :: 32 :: []) false = a :: b :: 32 :: []) (hw : wsB (a.toNat : Int) = false) (ha : ((a.toNat : Int) == 37) = false)
    (hn : ∀ r, next a (b :: r) = some (4, [a, b])) : LexE (t ++ [32, a, b, 32] ++ u) (ks ++ [(4, [a, b])] ++ ls) := by
  intro q ws hq hl
  obtain ⟨h3, h4⟩ := h' q ws hq hl
  have h5 : Lx (skip (32 :: a :: b :: 32 :: (u ++ q)) false) ((4, [a, b]) :: (ls ++ ws)) := by
    have : skip (32 :: a :: b :: 32 :: (u ++ q)) false = a :: b :: 32 :: (u ++ q) := by
      rw [show skip (32 :: a :: b :: 32 :: (u ++ q)) false = skip (a :: b :: 32 :: (u ++ q)) false from rfl]
      simp only [skip, hw, ha, Bool.false_and, Bool.false_eq_true, if_false]
    rw [this]
    refine Lx.cons (hn _) ?_
    show Lx (skip (32 :: (u ++ q)) false) _
    rw [show skip (32 :: (u ++ q)) false = skip (u ++ q) false from rfl, h4]; exact h3
  obtain ⟨h6, h7⟩ := h (32 :: a :: b :: 32 :: (u ++ q)) _ (show nmC 32 = false by decide) h5
  have e : t ++ [32, a, b, 32] ++ u ++ q = t ++ 32 :: a :: b :: 32 :: (u ++ q) := by simp
  have e2 : ks ++ [(4, [a, b])] ++ ls ++ ws = ks ++ (4, [a, b]) :: (ls ++ ws) := by simp
  rw [e, e2]
  exact ⟨h6, h7⟩

theorem lx_sign {s : UInt8} {u q : List UInt8} {ls ws : List Wd} (hn : next s (u ++ q) = some (4, [s])) (h : Lx (u ++ q) (ls ++ ws) ∧ skip (u ++ q) false = u ++ q) : Lx (s :: (u ++ q)) ((4, [s]) :: (ls ++ ws)) :=
  Lx.cons hn (by show Lx (skip (u ++ q) false) _; rw [h.2]; exact h.1)

theorem lexX (e : Xp) : e.Nm → LexE e.text e.tks := by
  induction e with
  | ty => intro _; exact lx_name (w := tyB) (by decide)
  | hole => intro _; exact lx_hole
  | nm w => intro h; exact lx_name (nm_let h)
  | app a b iha ihb => intro h; exact lx_blank (lx_par (iha h.1) _) (lx_par (ihb h.2) _)
  | arr a b iha ihb => intro h; exact lx_arrow (lx_par (iha h.1) _) (ihb h.2) 45 62 rfl rfl rfl fun r => rfl
  | bnd l w a b iha ihb =>
    intro h q ws hq hl
    obtain ⟨hb1, hb2⟩ := ihb h.2.2 q ws hq hl
    -- the end of the binder, a blank, the body
    have hE : ∀ x : UInt8, x = 93 ∨ x = 125 → Lx (skip (x :: 32 :: (b.text ++ q)) false) ((4, [x]) :: (b.tks ++ ws)) ∧ SepN (x :: 32 :: (b.text ++ q)) ∧ skip (x :: 32 :: (b.text ++ q)) false = x :: 32 :: (b.text ++ q) := by
      intro x hx
      have hs : skip (32 :: (b.text ++ q)) false = b.text ++ q := (show skip (32 :: (b.text ++ q)) false = skip (b.text ++ q) false from rfl).trans hb2
      rcases hx with rfl | rfl
      · refine ⟨?_, show nmC 93 = false by decide, rfl⟩
        rw [show skip (93 :: 32 :: (b.text ++ q)) false = 93 :: 32 :: (b.text ++ q) from rfl]
        refine Lx.cons (k := 4) (w := [93]) rfl ?_
        show Lx (skip (32 :: (b.text ++ q)) false) _
        rw [hs]; exact hb1
      · refine ⟨?_, show nmC 125 = false by decide, rfl⟩
        rw [show skip (125 :: 32 :: (b.text ++ q)) false = 125 :: 32 :: (b.text ++ q) from rfl]
        refine Lx.cons (k := 4) (w := [125]) rfl ?_
        show Lx (skip (32 :: (b.text ++ q)) false) _
        rw [hs]; exact hb1
    -- the domain and what is behind it
    have hD : ∀ x : UInt8, x = 93 ∨ x = 125 → Lx (skip ((bif a.isHole then [] else 58 :: a.text) ++ x :: 32 :: (b.text ++ q)) false) ((bif a.isHole then [] else (4, [58]) :: a.tks) ++ (4, [x]) :: (b.tks ++ ws)) ∧ SepN ((bif a.isHole then [] else 58 :: a.text) ++ x :: 32 :: (b.text ++ q)) := by
      intro x hx
      obtain ⟨e1, e2, e3⟩ := hE x hx
      cases ha : a.isHole with
      | true => exact ⟨e1, e2⟩
      | false =>
        obtain ⟨a1, a2⟩ := iha h.2.1 (x :: 32 :: (b.text ++ q)) _ e2 e1
        refine ⟨?_, show nmC 58 = false by decide⟩
        simp only [cond_false, List.cons_append]
        rw [show skip (58 :: (a.text ++ x :: 32 :: (b.text ++ q))) false = 58 :: (a.text ++ x :: 32 :: (b.text ++ q)) from rfl]
        refine Lx.cons (k := 4) (w := [58]) rfl ?_
        show Lx (skip (a.text ++ x :: 32 :: (b.text ++ q)) false) _
        rw [a2]; exact a1
    cases l with
    | true =>
      obtain ⟨d1, d2⟩ := hD 93 (.inl rfl)
      obtain ⟨n1, n2⟩ := lx_name (nm_let h.1) _ _ d2 d1
      have e1 : (Xp.bnd true w a b).text ++ q = 91 :: (w ++ ((bif a.isHole then [] else 58 :: a.text) ++ 93 :: 32 :: (b.text ++ q))) := by
        simp only [Xp.text, cond_true]; cases a.isHole <;> simp
      have e2 : (Xp.bnd true w a b).tks ++ ws = (4, [91]) :: ([nmW w] ++ ((bif a.isHole then [] else (4, [58]) :: a.tks) ++ (4, [93]) :: (b.tks ++ ws))) := by
        simp only [Xp.tks, cond_true]; cases a.isHole <;> simp
      rw [e1, e2]
      refine ⟨Lx.cons (k := 4) (w := [91]) rfl ?_, rfl⟩
      show Lx (skip (w ++ _) false) _
      rw [n2]; exact n1
    | false =>
      obtain ⟨d1, d2⟩ := hD 125 (.inr rfl)
      obtain ⟨n1, n2⟩ := lx_name (nm_let h.1) _ _ d2 d1
      have e1 : (Xp.bnd false w a b).text ++ q = 123 :: (w ++ ((bif a.isHole then [] else 58 :: a.text) ++ 125 :: 32 :: (b.text ++ q))) := by
        simp only [Xp.text, cond_false]; cases a.isHole <;> simp
      have e2 : (Xp.bnd false w a b).tks ++ ws = (4, [123]) :: ([nmW w] ++ ((bif a.isHole then [] else (4, [58]) :: a.tks) ++ (4, [125]) :: (b.tks ++ ws))) := by
        simp only [Xp.tks, cond_false]; cases a.isHole <;> simp
      rw [e1, e2]
      refine ⟨Lx.cons (k := 4) (w := [123]) rfl ?_, rfl⟩
      show Lx (skip (w ++ _) false) _
      rw [n2]; exact n1

/-- A source that is cut into the tokens of an expression is read as it. -/
theorem exprP_of {l : List UInt8} {W : List Wd} {x : Rw} (hl : l.length ≤ 6000) (hL : Lx (skip l false) W)
    (hp : ∀ ts, Tw ts (W ++ [(7, [])]) → ∃ c tsr, Tw tsr [(7, [])] ∧ P .expr ts (.ok x c tsr)) (hw : wellB x = true) : exprP l = (x, 0, 0) := by
  obtain ⟨ts, h1, h2⟩ := hL.tk l.length l.length (skip_suffix l false).length_le
  have ht : toks l = (ts ++ [⟨7, mk [], (l.length : Int)⟩], 0, 0) := by
    unfold toks
    have : decide (l.length ≤ 6000) = true := by simpa using hl
    rw [this, cond_true, h1]
  have hT : Tw (toks l).1 (W ++ [(7, [])]) := by
    rw [ht]
    simp only [Tw, List.map_append, List.map_cons, List.map_nil]
    rw [show ts.map shape = W from h2]
    rfl
  obtain ⟨c, tsr, h3, h4⟩ := hp _ hT
  have h0 : (toks l).2.2 = 0 := by rw [ht]
  obtain ⟨g0, _, _⟩ := toks_good l h0
  have hne := pr_ends (4 * (toks l).1.length + 3) .expr (toks l).1 g0 (by simp only [Tag.rank]; omega)
  cases hr : pr (4 * (toks l).1.length + 3) .expr (toks l).1 with
  | none => exact absurd hr hne
  | some res =>
    have := h4.eq hr
    subst this
    obtain ⟨t, r, rfl, hk, _, _⟩ := Tw_cons h3
    have hk' : (kindT (t :: r) == 7) = true := by simp only [kindT, hk]; rfl
    simp only [exprP, h0, beq_self_eq_true, cond_true, hr, hk', hw]

theorem fol_end : Fol [(7, [])] := ⟨_, _, rfl, .inr (.inr (.inr rfl))⟩

/-- A text is read back. -/
theorem read_back {e : Xp} (hn : e.Nm) (hl : e.text.length ≤ 6000) (hw : wellB e.rw = true) : exprP e.text = (e.rw, 0, 0) := by
  obtain ⟨h1, h2⟩ := lexX e hn [] [] trivial Lx.nil
  rw [List.append_nil] at h1 h2
  rw [List.append_nil] at h1
  exact exprP_of hl (by rw [h2]; exact h1) (fun ts ht => (reads1X e hn).expr ts _ ht fol_end) hw

end Go.Proofs.YtanfoijdfcnpoaaDoor.Ev
