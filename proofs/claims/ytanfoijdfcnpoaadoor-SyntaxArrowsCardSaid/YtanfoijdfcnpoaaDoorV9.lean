
/- This file proves what LexisNames answers; without any condition. -/
import Derived.Test.YtanfoijdfcnpoaaDoorVA
import Derived.Test.YtanfoijdfcnpoaaDoorR0
set_option linter.unusedVariables false
set_option linter.unusedSimpArgs false
namespace Go.Proofs.YtanfoijdfcnpoaaDoor.Ev

theorem next_kind {c : UInt8} {r : List UInt8} {x : Int × List UInt8} (h : next c r = some x) : (x.1 = 1 → nameL smallB x.2 = true) ∧ (x.1 = 2 → nameL capB x.2 = true) := by
  have one : ∀ {b : Bool} {y : Int × List UInt8}, (bif b then some y else none) = some x → b = true ∧ y = x := by
    intro b y hb; cases b
    · cases hb
    · exact ⟨rfl, by simpa using hb⟩
  have no : ∀ {k : Int} {w : List UInt8}, k ≠ 1 → k ≠ 2 → x = (k, w) → (x.1 = 1 → nameL smallB x.2 = true) ∧ (x.1 = 2 → nameL capB x.2 = true) := by
    intro k w h1 h2 hx; subst hx; exact ⟨fun h => absurd h h1, fun h => absurd h h2⟩
  unfold next at h
  simp only at h
  cases h1 : smallB (c.toNat : Int) with
  | true =>
    rw [h1, cond_true] at h
    obtain ⟨h2, rfl⟩ := one h
    exact ⟨fun _ => h2, fun h => absurd h (show ¬ ((1 : Int) = 2) by decide)⟩
  | false =>
  rw [h1, cond_false] at h
  cases h1 : capB (c.toNat : Int) with
  | true =>
    rw [h1, cond_true] at h
    obtain ⟨h2, rfl⟩ := one h
    exact ⟨fun h => absurd h (show ¬ ((2 : Int) = 1) by decide), fun _ => h2⟩
  | false =>
  rw [h1, cond_false] at h
  cases h1 : digB (c.toNat : Int) with
  | true => rw [h1, cond_true] at h; exact no (by decide) (by decide) (one h).2.symm
  | false =>
  rw [h1, cond_false] at h
  cases h1 : ((c.toNat : Int) == 95) with
  | true => rw [h1, cond_true] at h; exact no (by decide) (by decide) (one h).2.symm
  | false =>
  rw [h1, cond_false] at h
  cases h1 : ((c.toNat : Int) == 37) with
  | true => rw [h1, cond_true] at h; exact no (by decide) (by decide) (one h).2.symm
  | false =>
  rw [h1, cond_false] at h
  cases h1 : ((c.toNat : Int) == 45) with
  | true =>
    rw [h1, cond_true] at h
    cases h2 : (byteAt r == 62) with
    | true => rw [h2] at h; simp only [cond_true, Option.some.injEq] at h; exact no (by decide) (by decide) h.symm
    | false => rw [h2] at h; simp only [cond_false, Option.some.injEq] at h; exact no (by decide) (by decide) h.symm
  | false =>
  rw [h1, cond_false] at h
  cases h1 : ((c.toNat : Int) == 60) with
  | true => rw [h1, cond_true] at h; exact no (by decide) (by decide) (one h).2.symm
  | false => rw [h1, cond_false] at h; exact no (by decide) (by decide) (one h).2.symm

theorem tk_nil (N n : Nat) : tk N n [] = .inl [] := by cases n <;> rfl

theorem let_skip {c : UInt8} {r : List UInt8} (h : letB (c.toNat : Int) = true) : skip (c :: r) false = c :: r := by
  have hb : 65 ≤ (c.toNat : Int) := by
    simp only [letB, smallB, capB, Bool.or_eq_true, Bool.and_eq_true, decide_eq_true_eq] at h
    omega
  have hw : wsB (c.toNat : Int) = false := by
    simp only [wsB, Bool.or_eq_false_iff, beq_eq_false_iff_ne]; omega
  have h37 : ((c.toNat : Int) == 37) = false := by simp only [beq_eq_false_iff_ne]; omega
  simp only [skip, hw, h37, Bool.false_and, Bool.false_eq_true, if_false]

theorem word_whole {w : List UInt8} (h : w.all nmC = true) : word w = w := by
  have h1 := word_after w
  have h2 : after w = [] := by have := all_after w; rw [h] at this; simpa using this
  rw [h2, List.append_nil] at h1
  exact h1

/-- The tokens of a name. -/
theorem toks_name {c : UInt8} {r : List UInt8} (hlen : (c :: r).length ≤ 16) (hlet : letB (c.toNat : Int) = true) {k : Int} (hn : next c r = some (k, c :: r)) :
    toks (c :: r) = ([⟨k, mk (c :: r), 0⟩, ⟨7, mk [], ((c :: r).length : Int)⟩], 0, 0) := by
  unfold toks
  have h6 : decide ((c :: r).length ≤ 6000) = true := by simp only [decide_eq_true_eq]; omega
  rw [h6, cond_true, let_skip hlet]
  have ht : tk (c :: r).length (c :: r).length (c :: r) = .inl [⟨k, mk (c :: r), 0⟩] := by
    show tk (r.length + 1) (r.length + 1) (c :: r) = _
    simp only [tk, hn]
    have hd : (c :: r).drop (c :: r).length = [] := List.drop_length
    rw [hd]
    simp only [skip, tk_nil, List.length_cons]
    simp
  rw [ht]
  rfl

theorem name_next {c : UInt8} {r : List UInt8} (f : Int → Bool) (h : nameL f (c :: r) = true) : (c :: r).length ≤ 16 ∧ f (c.toNat : Int) = true ∧ word (c :: r) = c :: r := by
  simp only [nameL, Bool.and_eq_true, decide_eq_true_eq] at h
  exact ⟨h.1, h.2.1, word_whole h.2.2⟩

theorem small_toks {l : List UInt8} (h : nameL smallB l = true) : toks l = ([⟨1, mk l, 0⟩, ⟨7, mk [], (l.length : Int)⟩], 0, 0) ∧ nameL capB l = false := by
  cases l with
  | nil => cases h
  | cons c r =>
    obtain ⟨h1, h2, h3⟩ := name_next _ h
    refine ⟨toks_name h1 (by unfold letB; rw [h2]; rfl) ?_, ?_⟩
    · unfold next
      simp only [h2, cond_true, h3, h]
    · simp only [nameL, not_small h2, Bool.false_and, Bool.and_false]

theorem cap_toks {l : List UInt8} (h : nameL capB l = true) : toks l = ([⟨2, mk l, 0⟩, ⟨7, mk [], (l.length : Int)⟩], 0, 0) ∧ nameL smallB l = false := by
  cases l with
  | nil => cases h
  | cons c r =>
    obtain ⟨h1, h2, h3⟩ := name_next _ h
    have hs : smallB (c.toNat : Int) = false := by
      cases hs : smallB (c.toNat : Int) with
      | false => rfl
      | true => rw [not_small hs] at h2; cases h2
    refine ⟨toks_name h1 (by unfold letB; rw [h2, Bool.or_true]) ?_, ?_⟩
    · unfold next
      simp only [hs, h2, cond_true, cond_false, h3, h]
    · simp only [nameL, hs, Bool.false_and, Bool.and_false]

/-- What is one token is a name of its kind. -/
theorem one_tok {l : List UInt8} (h0 : (toks l).2.2 = 0) (h2 : (toks l).1.length = 2) (ht : strEq (rdEl lay Key.tok (toks l).1 (0 : Int)).text (mk l) = true) :
    ((rdEl lay Key.tok (toks l).1 (0 : Int)).kind = 1 → nameL smallB l = true) ∧ ((rdEl lay Key.tok (toks l).1 (0 : Int)).kind = 2 → nameL capB l = true) := by
  unfold toks at h0 h2 ht ⊢
  by_cases h6 : l.length ≤ 6000
  · simp only [h6, decide_true, cond_true] at h0 h2 ht ⊢
    cases hk : tk l.length l.length (skip l false) with
    | inr p => rw [hk] at h0; exact absurd h0 (show ¬ ((4 : Int) = 0) by decide)
    | inl ts =>
      rw [hk] at h2 ht
      simp only [List.length_append, List.length_cons, List.length_nil] at h2
      match ts, hk, h2, ht with
      | [t], hk, _, ht =>
        have e : rdEl lay Key.tok ([t] ++ [⟨7, mk [], (l.length : Int)⟩] : List Tok) (0 : Int) = t := rfl
        simp only [e] at ht ⊢
        cases hl : l.length with
        | zero => rw [hl] at hk; cases hk
        | succ n =>
          rw [hl] at hk
          cases hsk : skip l false with
          | nil => rw [hsk] at hk; cases hk
          | cons c r =>
            rw [hsk] at hk
            simp only [tk] at hk
            cases hx : next c r with
            | none => rw [hx] at hk; cases hk
            | some x =>
              rw [hx] at hk
              simp only at hk
              split at hk
              · simp only [Sum.inl.injEq, List.cons.injEq] at hk
                obtain ⟨rfl, _⟩ := hk
                rw [strEq_mk] at ht
                have : x.2 = l := by simpa using ht
                have hkd := next_kind hx
                rw [this] at hkd
                exact hkd
              · cases hk
  · simp only [h6, decide_false, cond_false] at h0
    exact absurd h0 (show ¬ ((5 : Int) = 0) by decide)

end Go.Proofs.YtanfoijdfcnpoaaDoor.Ev
