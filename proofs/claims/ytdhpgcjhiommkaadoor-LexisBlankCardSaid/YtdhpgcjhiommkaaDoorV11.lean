/- This file proves plain lemmas on tokens that stand side by side with blanks between them; without any condition. -/
import Derived.Test.YtdhpgcjhiommkaaDoorV9
set_option linter.unusedVariables false
set_option linter.unusedSimpArgs false
namespace Go.Proofs.YtdhpgcjhiommkaaDoor.Ev

/-- Whether a kind and a text are those of a token by itself. -/
def isTok (k : Int) (w : List UInt8) : Bool :=
  bif k == 7 then w == []
  else match w with
    | [] => false
    | c :: r => bif skip (c :: r) false == (c :: r) then (match next c r with | some x => x.1 == k && x.2 == (c :: r) | none => false) else false

theorem isTok_spec {k : Int} {w : List UInt8} (h : isTok k w = true) (hk : k ≠ 7) : ∃ c r, w = c :: r ∧ skip (c :: r) false = c :: r ∧ next c r = some (k, c :: r) := by
  unfold isTok at h
  have h7 : (k == 7) = false := by simpa using hk
  rw [h7, cond_false] at h
  cases w with
  | nil => cases h
  | cons c r =>
    simp only at h
    cases h1 : (skip (c :: r) false == (c :: r)) with
    | false => rw [h1] at h; cases h
    | true =>
      rw [h1, cond_true] at h
      cases hx : next c r with
      | none => rw [hx] at h; cases h
      | some x =>
        rw [hx] at h
        simp only [Bool.and_eq_true, beq_iff_eq] at h
        refine ⟨c, r, rfl, by simpa using h1, ?_⟩
        obtain ⟨a, b⟩ := x
        obtain ⟨rfl, rfl⟩ := h
        exact hx

/-- What may stand behind a token: nothing, or a blank. -/
def SepL (q : List UInt8) : Prop := q = [] ∨ ∃ t, q = 32 :: t

theorem word_sep {q : List UInt8} (hq : SepL q) : word q = [] := by
  rcases hq with rfl | ⟨t, rfl⟩ <;> rfl

theorem word_ext {q : List UInt8} (hq : SepL q) : ∀ {w : List UInt8}, w.all nmC = true → word (w ++ q) = w
  | [], _ => word_sep hq
  | c :: r, h => by
    simp only [List.all_cons, Bool.and_eq_true] at h
    rw [List.cons_append, word_ne h.1, word_ext hq h.2]

theorem byte_sep {q : List UInt8} (hq : SepL q) : byteAt q = 0 ∨ byteAt q = 32 := by
  rcases hq with rfl | ⟨t, rfl⟩
  · exact .inl rfl
  · exact .inr rfl

theorem next_ext {c : UInt8} {r q : List UInt8} {k : Int} (h : next c r = some (k, c :: r)) (hq : SepL q) : next c (r ++ q) = some (k, c :: r) := by
  have one : ∀ {b : Bool} {n : Int} {w : List UInt8}, (bif b then some (n, w) else none) = some (k, c :: r) → b = true ∧ n = k ∧ w = c :: r := by
    intro b n w hb; cases b
    · cases hb
    · simp only [cond_true, Option.some.injEq, Prod.mk.injEq] at hb; exact ⟨rfl, hb.1, hb.2⟩
  have wall : ∀ {w : List UInt8}, word w = w → w.all nmC = true := fun {w} hw => by rw [← hw]; exact word_all w
  unfold next at h ⊢
  simp only at h ⊢
  cases h1 : smallB (c.toNat : Int) with
  | true =>
    rw [h1, cond_true] at h
    obtain ⟨h2, rfl, h3⟩ := one h
    rw [cond_true, ← List.cons_append, word_ext hq (wall h3), ← h3, h2]; rfl
  | false =>
  rw [h1, cond_false] at h
  rw [cond_false]
  cases h1 : capB (c.toNat : Int) with
  | true =>
    rw [h1, cond_true] at h
    obtain ⟨h2, rfl, h3⟩ := one h
    rw [cond_true, ← List.cons_append, word_ext hq (wall h3), ← h3, h2]; rfl
  | false =>
  rw [h1, cond_false] at h
  rw [cond_false]
  cases h1 : digB (c.toNat : Int) with
  | true =>
    rw [h1, cond_true] at h
    obtain ⟨h2, rfl, h3⟩ := one h
    rw [cond_true, ← List.cons_append, word_ext hq (wall h3), ← h3, h2]; rfl
  | false =>
  rw [h1, cond_false] at h
  rw [cond_false]
  cases h1 : ((c.toNat : Int) == 95) with
  | true =>
    rw [h1, cond_true] at h
    obtain ⟨h2, rfl, h3⟩ := one h
    simp only [List.cons.injEq] at h3
    obtain ⟨rfl, rfl⟩ := h3
    rw [cond_true, ← List.cons_append, word_ext hq (w := [95]) (by decide)]; rfl
  | false =>
  rw [h1, cond_false] at h
  rw [cond_false]
  cases h1 : ((c.toNat : Int) == 37) with
  | true =>
    rw [h1, cond_true] at h
    obtain ⟨h2, rfl, h3⟩ := one h
    simp only [List.cons.injEq] at h3
    obtain ⟨rfl, h3⟩ := h3
    rw [cond_true, word_ext hq (wall h3)]
    rw [h3] at h2
    rw [h2]; rfl
  | false =>
  rw [h1, cond_false] at h
  rw [cond_false]
  cases h1 : ((c.toNat : Int) == 45) with
  | true =>
    rw [h1, cond_true] at h
    rw [cond_true]
    cases h2 : (byteAt r == 62) with
    | true =>
      rw [h2] at h
      simp only [cond_true, Option.some.injEq, Prod.mk.injEq, List.cons.injEq] at h
      obtain ⟨rfl, rfl, rfl⟩ := h
      rfl
    | false =>
      rw [h2] at h
      simp only [cond_false, Option.some.injEq, Prod.mk.injEq, List.cons.injEq] at h
      obtain ⟨rfl, rfl, rfl⟩ := h
      have : (byteAt ([] ++ q) == 62) = false := by
        rw [List.nil_append]
        rcases byte_sep hq with h | h <;> rw [h] <;> rfl
      rw [this]; rfl
  | false =>
  rw [h1, cond_false] at h
  rw [cond_false]
  cases h1 : ((c.toNat : Int) == 60) with
  | true =>
    rw [h1, cond_true] at h
    rw [cond_true]
    obtain ⟨h2, rfl, h3⟩ := one h
    simp only [List.cons.injEq] at h3
    obtain ⟨rfl, rfl⟩ := h3
    rfl
  | false =>
    rw [h1, cond_false] at h
    rw [cond_false]
    obtain ⟨h2, rfl, h3⟩ := one h
    simp only [List.cons.injEq] at h3
    obtain ⟨_, rfl⟩ := h3
    rw [h2]; rfl

theorem skip_head {c : UInt8} {r : List UInt8} (h : skip (c :: r) false = c :: r) : wsB (c.toNat : Int) = false ∧ ((c.toNat : Int) == 37 && comm r) = false := by
  have no : ∀ b, skip r b ≠ c :: r := fun b e => by
    have := (skip_suffix r b).length_le
    rw [e] at this
    simp only [List.length_cons] at this
    omega
  simp only [skip] at h
  cases hw : wsB (c.toNat : Int) with
  | true => rw [hw, if_pos rfl] at h; exact absurd h (no _)
  | false =>
    rw [hw] at h
    cases hc : ((c.toNat : Int) == 37 && comm r) with
    | true => rw [hc] at h; simp only [Bool.false_eq_true, if_false, if_true] at h; exact absurd h (no _)
    | false => exact ⟨rfl, rfl⟩

theorem skip_ext {c : UInt8} {r : List UInt8} (q : List UInt8) (h : skip (c :: r) false = c :: r) : skip (c :: (r ++ q)) false = c :: (r ++ q) := by
  obtain ⟨h1, h2⟩ := skip_head h
  have h3 : ((c.toNat : Int) == 37 && comm (r ++ q)) = false := by
    cases r with
    | nil =>
      have : comm [] = true := rfl
      rw [this, Bool.and_true] at h2
      rw [h2, Bool.false_and]
    | cons d t => exact h2
  simp only [skip, h1, h3, Bool.false_eq_true, if_false]

/-- Texts with blanks between them. -/
def joinT : List (List UInt8) → List UInt8
  | [] => []
  | [w] => w
  | w :: v :: r => w ++ 32 :: joinT (v :: r)

theorem joinT_cons (w : List UInt8) (r : List (List UInt8)) : ∃ q, joinT (w :: r) = w ++ q ∧ SepL q ∧ ((r = [] ∧ q = []) ∨ (r ≠ [] ∧ q = 32 :: joinT r)) := by
  cases r with
  | nil => exact ⟨[], by simp [joinT], .inl rfl, .inl ⟨rfl, rfl⟩⟩
  | cons v t => exact ⟨32 :: joinT (v :: t), rfl, .inr ⟨_, rfl⟩, .inr ⟨by simp, rfl⟩⟩

theorem skip_join {ts : List (Int × List UInt8)} (h : ∀ x ∈ ts, isTok x.1 x.2 = true ∧ x.1 ≠ 7) : skip (joinT (ts.map (·.2))) false = joinT (ts.map (·.2)) := by
  cases ts with
  | nil => rfl
  | cons x r =>
    obtain ⟨c, t, hw, h1, h2⟩ := isTok_spec (h x (List.mem_cons_self ..)).1 (h x (List.mem_cons_self ..)).2
    obtain ⟨q, hq, _⟩ := joinT_cons x.2 (r.map (·.2))
    rw [List.map_cons, hq, hw, List.cons_append]
    exact skip_ext q h1

/-- The tokens of texts with blanks between them. -/
theorem tk_join (N : Nat) : ∀ (ts : List (Int × List UInt8)) (n : Nat), (∀ x ∈ ts, isTok x.1 x.2 = true ∧ x.1 ≠ 7) → (joinT (ts.map (·.2))).length ≤ n →
    ∃ us : List Tok, tk N n (joinT (ts.map (·.2))) = .inl us ∧ us.map (fun t => (t.kind, t.text)) = ts.map fun x => (x.1, mk x.2)
  | [], n, _, _ => ⟨[], tk_nil N n, rfl⟩
  | x :: r, n, h, hn => by
    obtain ⟨c, t, hw, h1, h2⟩ := isTok_spec (h x (List.mem_cons_self ..)).1 (h x (List.mem_cons_self ..)).2
    obtain ⟨q, hq, hs, hr⟩ := joinT_cons x.2 (r.map (·.2))
    rw [List.map_cons, hq, hw] at hn ⊢
    cases n with
    | zero => simp at hn
    | succ n =>
      have hrest : ∀ y ∈ r, isTok y.1 y.2 = true ∧ y.1 ≠ 7 := fun y hy => h y (List.mem_cons_of_mem _ hy)
      have hd : (c :: (t ++ q)).drop (c :: t).length = q := by
        rw [← List.cons_append, List.drop_left]
      have hsk : skip q false = joinT (r.map (·.2)) := by
        rcases hr with ⟨hr, rfl⟩ | ⟨_, rfl⟩
        · have : r = [] := by simpa using hr
          subst this; rfl
        · rw [← skip_join hrest]
          have : wsB ((32 : UInt8).toNat : Int) = true := by decide
          simp only [skip, this, if_true]
          rw [skip_join hrest]; exact skip_join hrest
      have hlen : (joinT (r.map (·.2))).length ≤ n := by
        rw [← hsk]
        have := (skip_suffix q false).length_le
        simp only [List.cons_append, List.length_cons, List.length_append] at hn
        omega
      obtain ⟨us, e1, e2⟩ := tk_join N r n hrest hlen
      refine ⟨⟨x.1, mk (c :: t), (N : Int) - ((c :: (t ++ q)).length : Int)⟩ :: us, ?_, ?_⟩
      · rw [List.cons_append]
        simp only [tk, next_ext h2 hs, hd, hsk, e1]
      · rw [List.map_cons, List.map_cons, e2, hw]

end Go.Proofs.YtdhpgcjhiommkaaDoor.Ev
