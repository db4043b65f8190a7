/- This file proves plain lemmas on several substitutions and on the simple types of classes; without any condition. -/
import Derived.Test.YtcgbfghdcjmaeaaQ2
set_option linter.unusedVariables false
set_option linter.unusedSimpArgs false
namespace Go.Proofs.Ytcgbfghdcjmaeaa.Ev

/-- Several objects put, one after the other. -/
noncomputable def manyL : Tm → List Tm → List Sm → Int → Rs Tm
  | t, [], _, c => (.ok t, c)
  | t, _ :: _, [], c => (.ok t, c)
  | t, x :: r, a :: tys, c =>
    match whole (mv r.length 0 x) with
    | .error e => (.error e, c)
    | .ok s =>
      match put 20000 t 0 s a c with
      | (.error e, c) => (.error e, c)
      | (.ok t, c) => manyL t r tys c

/-- The simple type of a class. -/
def tySm : Tm → Option Sm
  | ⟨op, head, n, [a, b]⟩ =>
    if op = 4 then (if head = 2 then some ⟨[], n⟩ else none)
    else if op = 2 then
      match tySm a, tySm b with
      | some x, some y => some ⟨x :: y.args, y.con⟩
      | _, _ => none
    else none
  | ⟨op, head, n, _⟩ => if op = 4 then (if head = 2 then some ⟨[], n⟩ else none) else none

/-- The domains of a class, and what is within them. -/
def doms : Tm → List Tm × Tm
  | ⟨op, head, n, [a, b]⟩ => if op = 2 then (a :: (doms b).1, (doms b).2) else ([], ⟨op, head, n, [a, b]⟩)
  | t => ([], t)

def tySmL : List Tm → Option (List Sm)
  | [] => some []
  | x :: r =>
    match tySm x, tySmL r with
    | some a, some l => some (a :: l)
    | _, _ => none

theorem tySm_other {op head n : Int} {l : List Tm} (ho : op ≠ 2) : tySm ⟨op, head, n, l⟩ = if op = 4 then (if head = 2 then some ⟨[], n⟩ else none) else none := by
  match l with
  | [] => rfl
  | [a] => rfl
  | [a, b] => rw [tySm, if_neg ho]
  | a :: b :: c :: r => rfl

theorem tySm_doms : ∀ (t : Tm) (d : Int), Form t d → tySm t = if (doms t).2.op = 4 ∧ (doms t).2.head = 2 then (tySmL (doms t).1).map fun l => ⟨l, (doms t).2.n⟩ else none
  | ⟨op, head, n, [a, b]⟩, d, h => by
    by_cases ho : op = 2
    · subst ho
      simp only [Form, FormL] at h
      have ih := tySm_doms b (d + 1) h.2.2.2.1
      rw [tySm, if_neg (by omega), if_pos rfl]
      simp only [doms, if_true]
      by_cases hc : (doms b).2.op = 4 ∧ (doms b).2.head = 2
      · rw [if_pos hc] at ih ⊢
        rw [ih, tySmL]
        cases tySm a with
        | none => cases (tySmL (doms b).1) <;> rfl
        | some x => cases (tySmL (doms b).1) <;> rfl
      · rw [if_neg hc] at ih ⊢
        rw [ih]; cases tySm a <;> rfl
    · rw [tySm_other ho]
      simp only [doms, ho, if_false, tySmL, Option.map_some]
      by_cases h4 : op = 4
      · by_cases h2 : head = 2
        · simp [h4, h2]
        · simp [h4, h2]
      · simp [h4]
  | ⟨op, head, n, []⟩, d, h => by
    have ho : op ≠ 2 := by rintro rfl; simp [Form, nodeOk] at h
    rw [tySm_other ho]
    simp only [doms, tySmL, Option.map_some]
    by_cases h4 : op = 4
    · by_cases h2 : head = 2
      · simp [h4, h2]
      · simp [h4, h2]
    · simp [h4]
  | ⟨op, head, n, [a]⟩, d, h => by
    have ho : op ≠ 2 := by rintro rfl; simp [Form, nodeOk] at h
    rw [tySm_other ho]
    simp only [doms, tySmL, Option.map_some]
    by_cases h4 : op = 4
    · by_cases h2 : head = 2
      · simp [h4, h2]
      · simp [h4, h2]
    · simp [h4]
  | ⟨op, head, n, a :: b :: c :: r⟩, d, h => by
    have ho : op ≠ 2 := by rintro rfl; simp [Form, nodeOk] at h
    rw [tySm_other ho]
    simp only [doms, tySmL, Option.map_some]
    by_cases h4 : op = 4
    · by_cases h2 : head = 2
      · simp [h4, h2]
      · simp [h4, h2]
    · simp [h4]

theorem doms_size : ∀ (t : Tm), (doms t).1.length + sizeL (doms t).1 + (doms t).2.size = t.size
  | ⟨op, head, n, [a, b]⟩ => by
    by_cases ho : op = 2
    · have := doms_size b
      simp only [doms, ho, if_true, List.length_cons, sizeL, Tm.size]; omega
    · simp [doms, ho, sizeL]
  | ⟨op, head, n, []⟩ => by simp [doms, sizeL]
  | ⟨op, head, n, [a]⟩ => by simp [doms, sizeL]
  | ⟨op, head, n, a :: b :: c :: r⟩ => by simp [doms, sizeL]

theorem doms_form : ∀ (t : Tm) (d : Int), Form t d → ∀ x ∈ (doms t).1, ∃ d, Form x d
  | ⟨op, head, n, [a, b]⟩, d, h, x, hx => by
    by_cases ho : op = 2
    · simp only [doms, ho, if_true] at hx
      simp only [Form, FormL] at h
      rcases List.mem_cons.1 hx with rfl | hx
      · exact ⟨_, h.2.2.1⟩
      · exact doms_form b (d + 1) h.2.2.2.1 x hx
    · simp [doms, ho] at hx
  | ⟨op, head, n, []⟩, d, h, x, hx => by simp [doms] at hx
  | ⟨op, head, n, [a]⟩, d, h, x, hx => by simp [doms] at hx
  | ⟨op, head, n, a :: b :: c :: r⟩, d, h, x, hx => by simp [doms] at hx

theorem tySm_len : ∀ (t : Tm) (s : Sm), tySm t = some s → s.args.length ≤ t.size
  | ⟨op, head, n, [a, b]⟩, s, h => by
    rw [tySm] at h
    split at h
    · split at h
      · cases h; simp
      · cases h
    · split at h
      · cases ha : tySm a with
        | none => rw [ha] at h; cases h
        | some x =>
          cases hb : tySm b with
          | none => rw [ha, hb] at h; cases h
          | some y =>
            rw [ha, hb] at h; cases h
            have := tySm_len b y hb
            have := a.size_pos
            simp only [Tm.size, sizeL, List.length_cons]; omega
      · cases h
  | ⟨op, head, n, []⟩, s, h => by
    rw [tySm] at h
    · split at h
      · split at h
        · cases h; simp
        · cases h
      · cases h
    · simp
  | ⟨op, head, n, [a]⟩, s, h => by
    rw [tySm] at h
    · split at h
      · split at h
        · cases h; simp
        · cases h
      · cases h
    · simp
  | ⟨op, head, n, a :: b :: c :: r⟩, s, h => by
    rw [tySm] at h
    · split at h
      · split at h
        · cases h; simp
        · cases h
      · cases h
    · simp

/-- A class whose outermost binders are given objects. -/
noncomputable def instL : Tm → List Tm → Int → Rs Tm
  | t, [], c => (.ok t, c)
  | ⟨op, _, _, args⟩, x :: r, c =>
    if op = 2 then
      match args with
      | [A, B] =>
        match tySm A with
        | none => (.error 22, c)
        | some s =>
          cond (smB s) (match put 20000 B 0 x s c with
            | (.error e, c) => (.error e, c)
            | (.ok t, c) => instL t r c) (.error 2, c)
      | _ => (.error 23, c)
    else (.error 23, c)

/-! ### Counting on from elsewhere -/

/-- The same outcome with the count moved, or too many nodes. -/
def Later {α : Type} (δ : Int) (r r' : Rs α) : Prop := ∀ x d, r = (.ok x, d) → r' = (.ok x, d + δ) ∨ ∃ d', r' = (.error 5, d')

theorem later_putL {p : Tm → Int → Int → Rs Tm} {δ : Int} (op n : Int) (hp : ∀ x m c, Later δ (p x m c) (p x m (c + δ))) : ∀ (l : List Tm) (i c : Int), Later δ (putL p op n i l c) (putL p op n i l (c + δ))
  | [], i, c => by
    intro x d h
    simp only [putL, Prod.mk.injEq, Except.ok.injEq] at h ⊢
    obtain ⟨rfl, rfl⟩ := h
    exact .inl ⟨rfl, rfl⟩
  | x :: r, i, c => by
    intro y d h
    have h1 := hp x (n + under op i) c
    simp only [putL] at h ⊢
    cases hq : p x (n + under op i) c with
    | mk q c1 =>
      rw [hq] at h h1
      cases q with
      | error e => simp at h
      | ok z =>
        simp only at h
        cases hq2 : putL p op n (i + 1) r c1 with
        | mk q2 c2 =>
          rw [hq2] at h
          cases q2 with
          | error e => simp at h
          | ok m =>
            simp only [Prod.mk.injEq, Except.ok.injEq] at h
            obtain ⟨rfl, rfl⟩ := h
            rcases h1 z c1 rfl with h1 | ⟨d', h1⟩
            · rw [h1]
              have h2 := later_putL op n hp r (i + 1) c1
              rw [hq2] at h2
              rcases h2 m c2 rfl with h2 | ⟨d', h2⟩
              · simp only [h2]; exact .inl trivial
              · simp only [h2]; exact .inr ⟨d', rfl⟩
            · rw [h1]; exact .inr ⟨d', rfl⟩

theorem later_appL {p : Tm → Tm → Sm → Int → Rs Tm} {δ : Int} (hp : ∀ b x a c, Later δ (p b x a c) (p b x a (c + δ))) : ∀ (l : List Tm) (f : Tm) (tys : List Sm) (c : Int), Later δ (appL p f l tys c) (appL p f l tys (c + δ))
  | [], f, tys, c => by
    intro x d h
    simp only [appL, Prod.mk.injEq, Except.ok.injEq] at h ⊢
    obtain ⟨rfl, rfl⟩ := h
    exact .inl ⟨rfl, rfl⟩
  | x :: r, f, tys, c => by
    intro y d h
    unfold appL at h ⊢
    by_cases ho : f.op = 3
    · rw [if_pos ho] at h ⊢
      cases hf : f.args with
      | nil => rw [hf] at h; simp at h
      | cons b bs =>
        cases tys with
        | nil => simp at h
        | cons a tys =>
          rw [hf] at h
          simp only at h ⊢
          have h1 := hp b x a c
          cases hq : p b x a c with
          | mk q c1 =>
            rw [hq] at h h1
            cases q with
            | error e => simp at h
            | ok z =>
              simp only at h
              rcases h1 z c1 rfl with h1 | ⟨d', h1⟩
              · rw [h1]; exact later_appL hp r z tys c1 y d h
              · rw [h1]; exact .inr ⟨d', rfl⟩
    · rw [if_neg ho] at h; simp at h

theorem later_put {δ : Int} (hδ : 0 ≤ δ) : ∀ (g : Nat) (t : Tm) (n : Int) (s : Tm) (a : Sm) (c : Int), Later δ (put g t n s a c) (put g t n s a (c + δ))
  | 0, t, n, s, a, c => by intro x d h; simp [put] at h
  | g + 1, t, n, s, a, c => by
    intro x d h
    rw [put] at h ⊢
    by_cases h1 : c + 1 > 20000
    · rw [if_pos h1] at h; simp at h
    rw [if_neg h1] at h
    by_cases h2 : c + δ + 1 > 20000
    · rw [if_pos h2]; exact .inr ⟨_, rfl⟩
    rw [if_neg h2, show c + δ + 1 = c + 1 + δ by omega]
    have hl := later_putL (p := fun x m c => put g x m s a c) (δ := δ) t.op n (fun x m c => later_put hδ g x m s a c) t.args 0 (c + 1)
    cases hq : putL (fun x m c => put g x m s a c) t.op n 0 t.args (c + 1) with
    | mk q c1 =>
      rw [hq] at h hl
      cases q with
      | error e => simp at h
      | ok l =>
        simp only at h
        rcases hl l c1 rfl with hl | ⟨d', hl⟩
        · rw [hl]
          simp only
          by_cases hit : t.op = 4 ∧ t.head = 1 ∧ t.n = n
          · rw [if_pos hit] at h ⊢
            cases hw : whole (mv n 0 s) with
            | error e => rw [hw] at h; simp at h
            | ok s' =>
              rw [hw] at h
              exact later_appL (fun b x a c => later_put hδ g b 0 x a c) l s' a.args c1 x d h
          · rw [if_neg hit] at h ⊢
            simp only [Prod.mk.injEq] at h ⊢
            obtain ⟨h, rfl⟩ := h
            exact .inl ⟨h, rfl⟩
        · rw [hl]; exact .inr ⟨d', rfl⟩

theorem later_instL {δ : Int} (hδ : 0 ≤ δ) : ∀ (l : List Tm) (t : Tm) (c : Int), Later δ (instL t l c) (instL t l (c + δ))
  | [], t, c => by
    intro x d h
    simp only [instL, Prod.mk.injEq, Except.ok.injEq] at h ⊢
    obtain ⟨rfl, rfl⟩ := h
    exact .inl ⟨rfl, rfl⟩
  | x :: r, ⟨op, head, n, [A, B]⟩, c => by
    intro y d h
    rw [instL] at h ⊢
    by_cases ho : op = 2
    · rw [if_pos ho] at h ⊢
      cases hA : tySm A with
      | none => rw [hA] at h; simp at h
      | some s =>
        rw [hA] at h
        simp only at h ⊢
        cases hs : smB s with
        | false => rw [hs] at h; simp at h
        | true =>
          rw [hs] at h
          simp only [cond_true] at h ⊢
          have h1 := later_put hδ 20000 B 0 x s c
          cases hq : put 20000 B 0 x s c with
          | mk q c1 =>
            rw [hq] at h h1
            cases q with
            | error e => simp at h
            | ok z =>
              simp only at h
              rcases h1 z c1 rfl with h1 | ⟨d', h1⟩
              · rw [h1]; exact later_instL hδ r z c1 y d h
              · rw [h1]; exact .inr ⟨d', rfl⟩
    · rw [if_neg ho] at h; simp at h
  | x :: r, ⟨op, head, n, []⟩, c => by
    intro y d h
    simp [instL] at h
  | x :: r, ⟨op, head, n, [_]⟩, c => by
    intro y d h
    simp [instL] at h
  | x :: r, ⟨op, head, n, _ :: _ :: _ :: _⟩, c => by
    intro y d h
    simp [instL] at h

end Go.Proofs.Ytcgbfghdcjmaeaa.Ev
