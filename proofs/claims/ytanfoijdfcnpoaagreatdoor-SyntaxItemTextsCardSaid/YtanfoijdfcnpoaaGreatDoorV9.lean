/- This file proves which names tokens are; without any condition. -/
import Derived.Test.YtanfoijdfcnpoaaGreatDoorVA
import Derived.Test.YtanfoijdfcnpoaaGreatDoorR0
set_option linter.unusedVariables false
set_option linter.unusedSimpArgs false
namespace Go.Proofs.YtanfoijdfcnpoaaGreatDoor.Ev

theorem next_kind {c : UInt8} {r : List UInt8} {x : Int × List UInt8} (h : next c r = some x) : (x.1 = 1 → nameL smallB x.2 = true) ∧ (x.1 = 2 → nameL capB x.2 = true) := by
  have one : ∀ {b : Bool} {y : Int × List UInt8}, (bif b then some y else none) = some x → b = true ∧ y = x := by
    intro b y hb; cases b
    · cases hb
    · exact ⟨rfl, by simpa using hb⟩
  have no : ∀ {k : Int} {w : List UInt8}, k ≠ 1 → k ≠ 2 → x = (k, w) → (x.1 = 1 → nameL smallB x.2 = true) ∧ (x.1 = 2 → nameL capB x.2 = true) := by
    intro k w h1 h2 hx; subst hx; exact ⟨fun h => absurd h h1, fun h => absurd h h2⟩
  unfold next at h
  simp only at h
  cases h1 : smallB (c.toNat : Int) with
  | true =>
    rw [h1, cond_true] at h
    obtain ⟨h2, rfl⟩ := one h
    exact ⟨fun _ => h2, fun h => absurd h (show ¬ ((1 : Int) = 2) by decide)⟩
  | false =>
  rw [h1, cond_false] at h
  cases h1 : capB (c.toNat : Int) with
  | true =>
    rw [h1, cond_true] at h
    obtain ⟨h2, rfl⟩ := one h
    exact ⟨fun h => absurd h (show ¬ ((2 : Int) = 1) by decide), fun _ => h2⟩
  | false =>
  rw [h1, cond_false] at h
  cases h1 : digB (c.toNat : Int) with
  | true => rw [h1, cond_true] at h; exact no (by decide) (by decide) (one h).2.symm
  | false =>
  rw [h1, cond_false] at h
  cases h1 : ((c.toNat : Int) == 95) with
  | true => rw [h1, cond_true] at h; exact no (by decide) (by decide) (one h).2.symm
  | false =>
  rw [h1, cond_false] at h
  cases h1 : ((c.toNat : Int) == 37) with
  | true => rw [h1, cond_true] at h; exact no (by decide) (by decide) (one h).2.symm
  | false =>
  rw [h1, cond_false] at h
  cases h1 : ((c.toNat : Int) == 45) with
  | true =>
    rw [h1, cond_true] at h
    cases h2 : (byteAt r == 62) with
    | true => rw [h2] at h; simp only [cond_true, Option.some.injEq] at h; exact no (by decide) (by decide) h.symm
    | false => rw [h2] at h; simp only [cond_false, Option.some.injEq] at h; exact no (by decide) (by decide) h.symm
  | false =>
  rw [h1, cond_false] at h
  cases h1 : ((c.toNat : Int) == 60) with
  | true => rw [h1, cond_true] at h; exact no (by decide) (by decide) (one h).2.symm
  | false => rw [h1, cond_false] at h; exact no (by decide) (by decide) (one h).2.symm

theorem let_skip {c : UInt8} {r : List UInt8} (h : letB (c.toNat : Int) = true) : skip (c :: r) false = c :: r := by
  have hb : 65 ≤ (c.toNat : Int) := by
    simp only [letB, smallB, capB, Bool.or_eq_true, Bool.and_eq_true, decide_eq_true_eq] at h
    omega
  have hw : wsB (c.toNat : Int) = false := by
    simp only [wsB, Bool.or_eq_false_iff, beq_eq_false_iff_ne]; omega
  have h37 : ((c.toNat : Int) == 37) = false := by simp only [beq_eq_false_iff_ne]; omega
  simp only [skip, hw, h37, Bool.false_and, Bool.false_eq_true, if_false]

end Go.Proofs.YtanfoijdfcnpoaaGreatDoor.Ev
