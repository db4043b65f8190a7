/- This file proves that substitutions commute; without any condition. -/
import Derived.Test.YtcgbfghdcjmaeaaQ1
set_option linter.unusedVariables false
set_option linter.unusedSimpArgs false
namespace Go.Proofs.Ytcgbfghdcjmaeaa.Ev

/-! ### Shifts -/

mutual
theorem mv_mv1 (d n : Int) : ∀ (t : Tm) (frm k : Int), frm ≤ k → k ≤ frm + n → mv d k (mv n frm t) = mv (n + d) frm t
  | ⟨op, head, nn, l⟩, frm, k, h1, h2 => by
    simp only [mv, mvL_mvL1 d n l op 0 frm k h1 h2, Tm.mk.injEq, true_and, and_true]
    by_cases hc : op = 4 ∧ head = 1
    · simp only [hc.1, hc.2, true_and]
      split <;> split <;> (try split) <;> omega
    · have : ∀ q : Prop, ¬ (op = 4 ∧ head = 1 ∧ q) := fun q h => hc ⟨h.1, h.2.1⟩
      simp only [this, if_false]
theorem mvL_mvL1 (d n : Int) : ∀ (l : List Tm) (op i frm k : Int), frm ≤ k → k ≤ frm + n → mvL d k op i (mvL n frm op i l) = mvL (n + d) frm op i l
  | [], op, i, frm, k, h1, h2 => rfl
  | x :: r, op, i, frm, k, h1, h2 => by
    simp only [mvL, mv_mv1 d n x (frm + under op i) (k + under op i) (by omega) (by omega), mvL_mvL1 d n r op (i + 1) frm k h1 h2]
end

mutual
theorem mv_mv2 (d n : Int) (hn : 0 ≤ n) (hd : 0 ≤ d) : ∀ (t : Tm) (frm k : Int), frm + n ≤ k → mv d k (mv n frm t) = mv n frm (mv d (k - n) t)
  | ⟨op, head, nn, l⟩, frm, k, h => by
    simp only [mv, mvL_mvL2 d n hn hd l op 0 frm k h, Tm.mk.injEq, true_and, and_true]
    by_cases hc : op = 4 ∧ head = 1
    · simp only [hc.1, hc.2, true_and]
      split <;> split <;> (try split) <;> omega
    · have : ∀ q : Prop, ¬ (op = 4 ∧ head = 1 ∧ q) := fun q h => hc ⟨h.1, h.2.1⟩
      simp only [this, if_false]
theorem mvL_mvL2 (d n : Int) (hn : 0 ≤ n) (hd : 0 ≤ d) : ∀ (l : List Tm) (op i frm k : Int), frm + n ≤ k → mvL d k op i (mvL n frm op i l) = mvL n frm op i (mvL d (k - n) op i l)
  | [], op, i, frm, k, h => rfl
  | x :: r, op, i, frm, k, h => by
    simp only [mvL, mv_mv2 d n hn hd x (frm + under op i) (k + under op i) (by omega), mvL_mvL2 d n hn hd r op (i + 1) frm k h]
    rw [show k + under op i - n = k - n + under op i by omega]
end

mutual
theorem mv_zero : ∀ (t : Tm) (k : Int), mv 0 k t = t
  | ⟨op, head, n, l⟩, k => by simp only [mv, mvL_zero l op 0 k, Int.add_zero, ite_self]
theorem mvL_zero : ∀ (l : List Tm) (op i k : Int), mvL 0 k op i l = l
  | [], op, i, k => rfl
  | x :: r, op, i, k => by simp only [mvL, mv_zero x, mvL_zero r]
end

/-! ### Substitution without limits -/

def hsL (p : Tm → Int → Option Tm) (op n : Int) : Int → List Tm → Option (List Tm)
  | _, [] => some []
  | i, x :: r =>
    match p x (n + under op i), hsL p op n (i + 1) r with
    | some y, some l => some (y :: l)
    | _, _ => none

def hsA (p : Tm → Tm → Sm → Option Tm) : Tm → List Tm → List Sm → Option Tm
  | f, [], _ => some f
  | f, x :: r, tys =>
    if f.op = 3 then
      match f.args, tys with
      | b :: _, a :: tys =>
        match p b x a with
        | some f => hsA p f r tys
        | none => none
      | _, _ => none
    else none

def hs : Nat → Tm → Int → Tm → Sm → Option Tm
  | 0, _, _, _, _ => none
  | g + 1, t, n, s, a =>
    match hsL (fun x m => hs g x m s a) t.op n 0 t.args with
    | none => none
    | some l => if t.op = 4 ∧ t.head = 1 ∧ t.n = n then hsA (fun b x a => hs g b 0 x a) (mv n 0 s) l a.args else some ⟨t.op, t.head, less t.op t.head t.n n, l⟩

theorem hsL_mono {p q : Tm → Int → Option Tm} {op n : Int} : ∀ {l : List Tm} {i : Int} {l' : List Tm}, (∀ x ∈ l, ∀ m y, p x m = some y → q x m = some y) → hsL p op n i l = some l' → hsL q op n i l = some l'
  | [], i, l', _, h => h
  | x :: r, i, l', hp, h => by
    simp only [hsL] at h ⊢
    cases h1 : p x (n + under op i) with
    | none => rw [h1] at h; cases h
    | some y =>
      cases h2 : hsL p op n (i + 1) r with
      | none => rw [h1, h2] at h; cases h
      | some m =>
        rw [h1, h2] at h
        rw [hp x (List.mem_cons_self ..) _ _ h1, hsL_mono (fun y hy => hp y (List.mem_cons_of_mem _ hy)) h2]
        exact h

theorem hsA_mono {p q : Tm → Tm → Sm → Option Tm} (hp : ∀ b x a y, p b x a = some y → q b x a = some y) : ∀ {l : List Tm} {f : Tm} {tys : List Sm} {u : Tm}, hsA p f l tys = some u → hsA q f l tys = some u
  | [], f, tys, u, h => h
  | x :: r, f, tys, u, h => by
    unfold hsA at h ⊢
    by_cases ho : f.op = 3
    · rw [if_pos ho] at h ⊢
      cases hf : f.args with
      | nil => rw [hf] at h; simp at h
      | cons b bs =>
        cases tys with
        | nil => simp at h
        | cons a tys =>
          rw [hf] at h
          simp only at h ⊢
          cases h1 : p b x a with
          | none => rw [h1] at h; cases h
          | some f' =>
            rw [h1] at h
            rw [hp _ _ _ _ h1]
            exact hsA_mono hp h
    · rw [if_neg ho] at h; cases h

theorem hs_mono : ∀ {g g' : Nat} {t : Tm} {n : Int} {s : Tm} {a : Sm} {u : Tm}, g ≤ g' → hs g t n s a = some u → hs g' t n s a = some u
  | 0, _, _, _, _, _, _, _, h => by cases h
  | g + 1, 0, _, _, _, _, _, hg, h => by omega
  | g + 1, g' + 1, t, n, s, a, u, hg, h => by
    rw [hs] at h ⊢
    cases h1 : hsL (fun x m => hs g x m s a) t.op n 0 t.args with
    | none => rw [h1] at h; cases h
    | some l =>
      rw [h1] at h
      rw [hsL_mono (q := fun x m => hs g' x m s a) (fun x _ m y h => hs_mono (by omega) h) h1]
      simp only at h ⊢
      by_cases hit : t.op = 4 ∧ t.head = 1 ∧ t.n = n
      · rw [if_pos hit] at h ⊢
        exact hsA_mono (fun b x a y h => hs_mono (by omega) h) h
      · rw [if_neg hit] at h ⊢
        exact h

/-- t, with s put for n, is u. -/
def H (t : Tm) (n : Int) (s : Tm) (a : Sm) (u : Tm) : Prop := ∃ g, hs g t n s a = some u
def HL (op n : Int) (s : Tm) (a : Sm) (i : Int) (l l' : List Tm) : Prop := ∃ g, hsL (fun x m => hs g x m s a) op n i l = some l'
def HA (f : Tm) (l : List Tm) (tys : List Sm) (u : Tm) : Prop := ∃ g, hsA (fun b x a => hs g b 0 x a) f l tys = some u

theorem H.det {t : Tm} {n : Int} {s : Tm} {a : Sm} {u v : Tm} (h : H t n s a u) (h' : H t n s a v) : u = v := by
  obtain ⟨g, h⟩ := h
  obtain ⟨g', h'⟩ := h'
  have h1 := hs_mono (Nat.le_max_left g g') h
  have h2 := hs_mono (Nat.le_max_right g g') h'
  rw [h1] at h2
  exact Option.some.inj h2

theorem HL.nil {op n : Int} {s : Tm} {a : Sm} {i : Int} : HL op n s a i [] [] := ⟨0, rfl⟩

theorem HL.cons {op n : Int} {s : Tm} {a : Sm} {i : Int} {x y : Tm} {r r' : List Tm} (h : H x (n + under op i) s a y) (h' : HL op n s a (i + 1) r r') : HL op n s a i (x :: r) (y :: r') := by
  obtain ⟨g, h⟩ := h
  obtain ⟨g', h'⟩ := h'
  refine ⟨max g g', ?_⟩
  simp only [hsL, hs_mono (Nat.le_max_left g g') h, hsL_mono (q := fun x m => hs (max g g') x m s a) (fun x _ m y h => hs_mono (Nat.le_max_right g g') h) h']

theorem HL.cons_inv {op n : Int} {s : Tm} {a : Sm} {i : Int} {x : Tm} {r l' : List Tm} (h : HL op n s a i (x :: r) l') : ∃ y r', l' = y :: r' ∧ H x (n + under op i) s a y ∧ HL op n s a (i + 1) r r' := by
  obtain ⟨g, h⟩ := h
  simp only [hsL] at h
  cases h1 : hs g x (n + under op i) s a with
  | none => rw [h1] at h; cases h
  | some y =>
    cases h2 : hsL (fun x m => hs g x m s a) op n (i + 1) r with
    | none => rw [h1, h2] at h; cases h
    | some m => rw [h1, h2] at h; cases h; exact ⟨y, m, rfl, ⟨g, h1⟩, ⟨g, h2⟩⟩

theorem HL.nil_inv {op n : Int} {s : Tm} {a : Sm} {i : Int} {l' : List Tm} (h : HL op n s a i [] l') : l' = [] := by
  obtain ⟨g, h⟩ := h
  simp only [hsL, Option.some.injEq] at h
  exact h.symm

theorem HA.nil {f : Tm} {tys : List Sm} : HA f [] tys f := ⟨0, rfl⟩
theorem HA.nil_inv {f : Tm} {tys : List Sm} {u : Tm} (h : HA f [] tys u) : u = f := by
  obtain ⟨g, h⟩ := h
  simp only [hsA, Option.some.injEq] at h
  exact h.symm

theorem HA.cons {head nn : Int} {b x f' u : Tm} {bs r : List Tm} {a : Sm} {tys : List Sm} (h : H b 0 x a f') (h' : HA f' r tys u) : HA ⟨3, head, nn, b :: bs⟩ (x :: r) (a :: tys) u := by
  obtain ⟨g, h⟩ := h
  obtain ⟨g', h'⟩ := h'
  refine ⟨max g g', ?_⟩
  simp only [hsA, if_true, hs_mono (Nat.le_max_left g g') h]
  exact hsA_mono (fun b x a y h => hs_mono (Nat.le_max_right g g') h) h'

theorem HA.cons_inv {f x u : Tm} {r : List Tm} {tys : List Sm} (h : HA f (x :: r) tys u) : ∃ head nn b bs a tys' f', f = ⟨3, head, nn, b :: bs⟩ ∧ tys = a :: tys' ∧ H b 0 x a f' ∧ HA f' r tys' u := by
  obtain ⟨g, h⟩ := h
  obtain ⟨op, head, nn, args⟩ := f
  unfold hsA at h
  by_cases ho : op = 3
  · subst ho
    rw [if_pos rfl] at h
    cases args with
    | nil => simp at h
    | cons b bs =>
      cases tys with
      | nil => simp at h
      | cons a tys =>
        simp only at h
        cases h1 : hs g b 0 x a with
        | none => rw [h1] at h; cases h
        | some f' => rw [h1] at h; exact ⟨head, nn, b, bs, a, tys, f', rfl, rfl, ⟨g, h1⟩, ⟨g, h⟩⟩
  · rw [if_neg ho] at h; cases h

theorem H.node {op head nn n : Int} {s : Tm} {a : Sm} {l l' : List Tm} (h : HL op n s a 0 l l') (hit : ¬ (op = 4 ∧ head = 1 ∧ nn = n)) : H ⟨op, head, nn, l⟩ n s a ⟨op, head, less op head nn n, l'⟩ := by
  obtain ⟨g, h⟩ := h
  exact ⟨g + 1, by simp only [hs, h, hit, if_false]⟩

theorem H.hit {n : Int} {s : Tm} {a : Sm} {l l' : List Tm} {u : Tm} (h : HL 4 n s a 0 l l') (h' : HA (mv n 0 s) l' a.args u) : H ⟨4, 1, n, l⟩ n s a u := by
  obtain ⟨g, h⟩ := h
  obtain ⟨g', h'⟩ := h'
  refine ⟨max g g' + 1, ?_⟩
  simp only [hs, hsL_mono (q := fun x m => hs (max g g') x m s a) (fun x _ m y h => hs_mono (Nat.le_max_left g g') h) h, and_self, if_true]
  exact hsA_mono (fun b x a y h => hs_mono (Nat.le_max_right g g') h) h'

theorem H.inv {op head nn n : Int} {s : Tm} {a : Sm} {l : List Tm} {u : Tm} (h : H ⟨op, head, nn, l⟩ n s a u) : ∃ l', HL op n s a 0 l l' ∧
    ((op = 4 ∧ head = 1 ∧ nn = n ∧ HA (mv n 0 s) l' a.args u) ∨ (¬ (op = 4 ∧ head = 1 ∧ nn = n) ∧ u = ⟨op, head, less op head nn n, l'⟩)) := by
  obtain ⟨g, h⟩ := h
  cases g with
  | zero => cases h
  | succ g =>
    rw [hs] at h
    cases h1 : hsL (fun x m => hs g x m s a) op n 0 l with
    | none => simp only [h1] at h; cases h
    | some l' =>
      simp only [h1] at h
      refine ⟨l', ⟨g, h1⟩, ?_⟩
      by_cases hit : op = 4 ∧ head = 1 ∧ nn = n
      · rw [if_pos hit] at h
        exact .inl ⟨hit.1, hit.2.1, hit.2.2, g, h⟩
      · rw [if_neg hit] at h
        exact .inr ⟨hit, (Option.some.inj h).symm⟩

/-! ### Shifts of substitutions -/

def Sh1 (g : Nat) : Prop := ∀ (t : Tm) (n : Int) (s : Tm) (a : Sm) (u : Tm) (d k : Int), hs g t n s a = some u → 0 ≤ d → 0 ≤ k → k ≤ n → H (mv d k t) (n + d) s a (mv d k u)
def Sh2 (g : Nat) : Prop := ∀ (t : Tm) (n : Int) (s : Tm) (a : Sm) (u : Tm) (d k : Int), hs g t n s a = some u → 0 ≤ d → 0 ≤ n → n ≤ k → H (mv d (k + 1) t) n (mv d (k - n) s) a (mv d k u)

theorem sh_A {g : Nat} (h2 : Sh2 g) {d k : Int} (hd : 0 ≤ d) (hk : 0 ≤ k) : ∀ (l : List Tm) (f : Tm) (tys : List Sm) (u : Tm), hsA (fun b x a => hs g b 0 x a) f l tys = some u → HA (mv d k f) (l.map (mv d k)) tys (mv d k u)
  | [], f, tys, u, h => by
    simp only [hsA, Option.some.injEq] at h
    subst h; exact .nil
  | x :: r, f, tys, u, h => by
    obtain ⟨op, head, nn, args⟩ := f
    unfold hsA at h
    by_cases ho : op = 3
    · subst ho
      rw [if_pos rfl] at h
      cases args with
      | nil => simp at h
      | cons b bs =>
        cases tys with
        | nil => simp at h
        | cons a tys =>
          simp only at h
          cases h1 : hs g b 0 x a with
          | none => rw [h1] at h; cases h
          | some f' =>
            rw [h1] at h
            have g1 := h2 b 0 x a f' d k h1 hd (by omega) hk
            rw [Int.sub_zero] at g1
            have g2 := sh_A h2 hd hk r f' tys u h
            simp only [mv, mvL, List.map_cons, show under 3 0 = 1 by simp [under]]
            exact .cons g1 g2
    · rw [if_neg ho] at h; cases h

theorem sh_L1 {g : Nat} (h1 : Sh1 g) {s : Tm} {a : Sm} {d n k op : Int} (hd : 0 ≤ d) (hk : 0 ≤ k) (hkn : k ≤ n) : ∀ (l : List Tm) (i : Int) (l' : List Tm), hsL (fun x m => hs g x m s a) op n i l = some l' → HL op (n + d) s a i (mvL d k op i l) (mvL d k op i l')
  | [], i, l', h => by
    simp only [hsL, Option.some.injEq] at h
    subst h; exact .nil
  | x :: r, i, l', h => by
    simp only [hsL] at h
    cases e1 : hs g x (n + under op i) s a with
    | none => rw [e1] at h; cases h
    | some y =>
      cases e2 : hsL (fun x m => hs g x m s a) op n (i + 1) r with
      | none => rw [e1, e2] at h; cases h
      | some m =>
        rw [e1, e2] at h; cases h
        have hu := under_nonneg op i
        have g1 := h1 x _ s a y d (k + under op i) e1 hd (by omega) (by omega)
        rw [show n + under op i + d = n + d + under op i by omega] at g1
        exact .cons g1 (sh_L1 h1 hd hk hkn r (i + 1) m e2)

theorem sh_L2 {g : Nat} (h2 : Sh2 g) {s : Tm} {a : Sm} {d n k op : Int} (hd : 0 ≤ d) (hn : 0 ≤ n) (hkn : n ≤ k) : ∀ (l : List Tm) (i : Int) (l' : List Tm), hsL (fun x m => hs g x m s a) op n i l = some l' → HL op n (mv d (k - n) s) a i (mvL d (k + 1) op i l) (mvL d k op i l')
  | [], i, l', h => by
    simp only [hsL, Option.some.injEq] at h
    subst h; exact .nil
  | x :: r, i, l', h => by
    simp only [hsL] at h
    cases e1 : hs g x (n + under op i) s a with
    | none => rw [e1] at h; cases h
    | some y =>
      cases e2 : hsL (fun x m => hs g x m s a) op n (i + 1) r with
      | none => rw [e1, e2] at h; cases h
      | some m =>
        rw [e1, e2] at h; cases h
        have hu := under_nonneg op i
        have g1 := h2 x _ s a y d (k + under op i) e1 hd (by omega) (by omega)
        rw [show k + under op i - (n + under op i) = k - n by omega, show k + under op i + 1 = k + 1 + under op i by omega] at g1
        exact .cons g1 (sh_L2 h2 hd hn hkn r (i + 1) m e2)

theorem sh12 : ∀ g, Sh1 g ∧ Sh2 g
  | 0 => by
    constructor
    · intro t n s a u d k h; cases h
    · intro t n s a u d k h; cases h
  | g + 1 => by
    obtain ⟨h1, h2⟩ := sh12 g
    constructor
    · intro t n s a u d k h hd hk hkn
      obtain ⟨op, head, nn, l⟩ := t
      rw [hs] at h
      cases e : hsL (fun x m => hs g x m s a) op n 0 l with
      | none => simp only [e] at h; cases h
      | some l' =>
        simp only [e] at h
        have gl := sh_L1 h1 hd hk hkn l 0 l' e
        by_cases hit : op = 4 ∧ head = 1 ∧ nn = n
        · rw [if_pos hit] at h
          obtain ⟨rfl, rfl, rfl⟩ := hit
          have ga := sh_A h2 hd hk l' (mv nn 0 s) a.args u h
          rw [mv_mv1 d nn s 0 k hk (by omega)] at ga
          rw [mv_app, if_pos ⟨rfl, hkn⟩]
          rw [mvL_map d k 0 rfl, mvL_map d k 0 rfl] at gl
          exact .hit gl ga
        · rw [if_neg hit] at h
          cases Option.some.inj h
          have := H.node (head := head) (nn := if op = 4 ∧ head = 1 ∧ k ≤ nn then nn + d else nn) gl (by
            rintro ⟨a, b, c⟩
            simp only [a, b, true_and] at c hit
            split at c <;> omega)
          simp only [mv]
          refine cast ?_ this
          congr 2
          unfold less
          by_cases hc : op = 4 ∧ head = 1
          · simp only [hc.1, hc.2, true_and] at hit ⊢
            split <;> split <;> (try split) <;> omega
          · have : ∀ q : Prop, ¬ (op = 4 ∧ head = 1 ∧ q) := fun q h => hc ⟨h.1, h.2.1⟩
            simp only [this, if_false]
    · intro t n s a u d k h hd hn hkn
      obtain ⟨op, head, nn, l⟩ := t
      rw [hs] at h
      cases e : hsL (fun x m => hs g x m s a) op n 0 l with
      | none => simp only [e] at h; cases h
      | some l' =>
        simp only [e] at h
        have gl := sh_L2 h2 hd hn hkn l 0 l' e
        by_cases hit : op = 4 ∧ head = 1 ∧ nn = n
        · rw [if_pos hit] at h
          obtain ⟨rfl, rfl, rfl⟩ := hit
          have ga := sh_A h2 hd (by omega : 0 ≤ k) l' (mv nn 0 s) a.args u h
          rw [mv_mv2 d nn hn hd s 0 k (by omega)] at ga
          rw [mv_app, if_neg (by omega)]
          rw [mvL_map d (k + 1) 0 rfl, mvL_map d k 0 rfl] at gl
          exact .hit gl ga
        · rw [if_neg hit] at h
          cases Option.some.inj h
          have := H.node (head := head) (nn := if op = 4 ∧ head = 1 ∧ k + 1 ≤ nn then nn + d else nn) gl (by
            rintro ⟨a, b, c⟩
            simp only [a, b, true_and] at c hit
            split at c <;> omega)
          simp only [mv]
          refine cast ?_ this
          congr 2
          unfold less
          by_cases hc : op = 4 ∧ head = 1
          · simp only [hc.1, hc.2, true_and] at hit ⊢
            split <;> split <;> (try split) <;> omega
          · have : ∀ q : Prop, ¬ (op = 4 ∧ head = 1 ∧ q) := fun q h => hc ⟨h.1, h.2.1⟩
            simp only [this, if_false]

theorem H.shift {t : Tm} {n : Int} {s : Tm} {a : Sm} {u : Tm} {d k : Int} (h : H t n s a u) (hd : 0 ≤ d) (hk : 0 ≤ k) (hkn : k ≤ n) : H (mv d k t) (n + d) s a (mv d k u) := by
  obtain ⟨g, h⟩ := h
  exact (sh12 g).1 t n s a u d k h hd hk hkn

/-- What a shift has made room for. -/
theorem H.room (u : Tm) (a : Sm) (t : Tm) : ∀ (d k n : Int), k ≤ n → n < k + d → H (mv d k t) n u a (mv (d - 1) k t) := by
  refine Tm.ind (p := fun t => ∀ (d k n : Int), k ≤ n → n < k + d → H (mv d k t) n u a (mv (d - 1) k t)) ?_ t
  intro op head nn l ih d k n h1 h2
  have hl : ∀ (l : List Tm) (i : Int), (∀ x ∈ l, ∀ (d k n : Int), k ≤ n → n < k + d → H (mv d k x) n u a (mv (d - 1) k x)) → HL op n u a i (mvL d k op i l) (mvL (d - 1) k op i l) := by
    intro l
    induction l with
    | nil => intro i _; exact .nil
    | cons x r ihl =>
      intro i hx
      exact .cons (hx x (List.mem_cons_self ..) d (k + under op i) (n + under op i) (by omega) (by omega)) (ihl (i + 1) fun y hy => hx y (List.mem_cons_of_mem _ hy))
  have := H.node (head := head) (nn := if op = 4 ∧ head = 1 ∧ k ≤ nn then nn + d else nn) (hl l 0 ih) (by
    rintro ⟨a, b, c⟩
    simp only [a, b, true_and] at c
    split at c <;> omega)
  simp only [mv]
  refine cast ?_ this
  congr 2
  unfold less
  by_cases hc : op = 4 ∧ head = 1
  · simp only [hc.1, hc.2, true_and]
    split <;> split <;> (try split) <;> omega
  · have : ∀ q : Prop, ¬ (op = 4 ∧ head = 1 ∧ q) := fun q h => hc ⟨h.1, h.2.1⟩
    simp only [this, if_false]

/-! ### Substitutions commute -/

def Comm (N : Nat) : Prop := ∀ (T : Tm) (n m : Int) (s r : Tm) (a b : Sm) (t u v : Tm), a.size + b.size ≤ N → 0 ≤ n → n < m → H T m r b t → H s (m - n - 1) r b u → H T n s a v →
  ∃ w, H t n u a w ∧ H v (m - 1) r b w

theorem comm_A {N : Nat} (hN : Comm N) {n : Int} (hn : 0 ≤ n) {u : Tm} {a : Sm} : ∀ (l1 l3 : List Tm) (tys : List Sm) (f f' t : Tm), (∀ x ∈ tys, x.size + a.size ≤ N) → HA f l1 tys t → H f n u a f' → HL 4 n u a 0 l1 l3 → (∀ i, HL 4 n u a i l1 l3) →
    ∃ w, H t n u a w ∧ HA f' l3 tys w
  | [], l3, tys, f, f', t, hs, h, hf, hl, _ => by
    cases hl.nil_inv
    cases h.nil_inv
    exact ⟨f', hf, .nil⟩
  | x :: r, l3, tys, f, f', t, hs, h, hf, hl, hli => by
    obtain ⟨y, r', rfl, hx, hr⟩ := hl.cons_inv
    obtain ⟨head, nn, b, bs, a0, tys', f1, rfl, rfl, h1, h2⟩ := h.cons_inv
    obtain ⟨l', hl', hcase⟩ := hf.inv
    rcases hcase with ⟨h3, _⟩ | ⟨_, rfl⟩
    · omega
    obtain ⟨b', bs', rfl, hb, _⟩ := hl'.cons_inv
    rw [show under 3 0 = 1 by simp [under]] at hb
    rw [show under 4 0 = 0 by simp [under], Int.add_zero] at hx
    obtain ⟨w1, g1, g2⟩ := hN b 0 (n + 1) x u a0 a b' y f1 (hs a0 (List.mem_cons_self ..)) (by omega) (by omega) hb (by rw [show n + 1 - 0 - 1 = n by omega]; exact hx) h1
    rw [show n + 1 - 1 = n by omega] at g2
    have hrr : ∀ i, HL 4 n u a i r r' := fun i => by
      obtain ⟨y', r'', e, hx', hr'⟩ := (hli (i - 1)).cons_inv
      cases e
      rwa [show i - 1 + 1 = i by omega] at hr'
    obtain ⟨w, k1, k2⟩ := comm_A hN hn r r' tys' f1 w1 t (fun x hx => hs x (List.mem_cons_of_mem _ hx)) h2 g2 (hrr 0) hrr
    exact ⟨w, k1, .cons g1 k2⟩

/-- In an application the place makes no difference. -/
theorem HL.any4 {n : Int} {s : Tm} {a : Sm} : ∀ {l l' : List Tm} {i : Int}, HL 4 n s a i l l' → ∀ j, HL 4 n s a j l l'
  | [], l', i, h, j => by cases h.nil_inv; exact .nil
  | x :: r, l', i, h, j => by
    obtain ⟨y, r', rfl, h1, h2⟩ := h.cons_inv
    rw [show under 4 i = 0 by simp [under]] at h1
    refine .cons (by rw [show under 4 j = 0 by simp [under]]; exact h1) (HL.any4 h2 (j + 1))

theorem Sm.arg_size {a x : Sm} (h : x ∈ a.args) : x.size < a.size := by
  cases a with
  | mk args con =>
    have := ssizeL_mem h
    simp only at this
    simp only [Sm.size]; omega

theorem comm : ∀ N, Comm N
  | 0 => by
    intro T n m s r a b t u v h
    have := a.size_pos
    omega
  | N + 1 => by
    have hN := comm N
    intro T
    refine Tm.ind (p := fun T => ∀ (n m : Int) (s r : Tm) (a b : Sm) (t u v : Tm), a.size + b.size ≤ N + 1 → 0 ≤ n → n < m → H T m r b t → H s (m - n - 1) r b u → H T n s a v → ∃ w, H t n u a w ∧ H v (m - 1) r b w) ?_ T
    intro op head nn l ih n m s r a b t u v hsz hn hnm ht hu hv
    obtain ⟨l1, hl1, ht⟩ := ht.inv
    obtain ⟨l2, hl2, hv⟩ := hv.inv
    have lists : ∀ (l l1 l2 : List Tm) (i : Int), (∀ x ∈ l, ∀ (n m : Int) (s r : Tm) (a b : Sm) (t u v : Tm), a.size + b.size ≤ N + 1 → 0 ≤ n → n < m → H x m r b t → H s (m - n - 1) r b u → H x n s a v → ∃ w, H t n u a w ∧ H v (m - 1) r b w) →
        HL op m r b i l l1 → HL op n s a i l l2 → ∃ l3, HL op n u a i l1 l3 ∧ HL op (m - 1) r b i l2 l3 := by
      intro l
      induction l with
      | nil => intro l1 l2 i _ h1 h2; cases h1.nil_inv; cases h2.nil_inv; exact ⟨[], .nil, .nil⟩
      | cons x r0 ihl =>
        intro l1 l2 i hx h1 h2
        obtain ⟨y1, r1, rfl, a1, a2⟩ := h1.cons_inv
        obtain ⟨y2, r2, rfl, b1, b2⟩ := h2.cons_inv
        have hun := under_nonneg op i
        obtain ⟨w, c1, c2⟩ := hx x (List.mem_cons_self ..) (n + under op i) (m + under op i) s r a b y1 u y2 hsz (by omega) (by omega) a1 (by rw [show m + under op i - (n + under op i) - 1 = m - n - 1 by omega]; exact hu) b1
        obtain ⟨r3, d1, d2⟩ := ihl r1 r2 (i + 1) (fun y hy => hx y (List.mem_cons_of_mem _ hy)) a2 b2
        rw [show m + under op i - 1 = m - 1 + under op i by omega] at c2
        exact ⟨w :: r3, .cons c1 d1, .cons c2 d2⟩
    obtain ⟨l3, k1, k2⟩ := lists l l1 l2 0 ih hl1 hl2
    rcases ht with ⟨rfl, rfl, rfl, ht⟩ | ⟨hm, rfl⟩
    · -- the variable m
      rcases hv with ⟨_, _, h, _⟩ | ⟨_, rfl⟩
      · omega
      have hf := H.room u a r nn 0 n hn (by omega)
      obtain ⟨w, g1, g2⟩ := comm_A hN hn l1 l3 b.args (mv nn 0 r) (mv (nn - 1) 0 r) t (fun x hx => by have := Sm.arg_size hx; omega) ht hf k1 (k1.any4)
      refine ⟨w, g1, ?_⟩
      rw [show less 4 1 nn n = nn - 1 by simp [less, hnm]]
      exact .hit k2 g2
    · rcases hv with ⟨rfl, rfl, rfl, hv⟩ | ⟨hnn, rfl⟩
      · -- the variable n
        have hf := hu.shift (d := nn) (k := 0) hn (by omega) (by omega)
        rw [show m - nn - 1 + nn = m - 1 by omega] at hf
        obtain ⟨w, g1, g2⟩ := comm_A hN (by omega : 0 ≤ m - 1) l2 l3 a.args (mv nn 0 s) (mv nn 0 u) v (fun x hx => by have := Sm.arg_size hx; omega) hv hf k2 (k2.any4)
        refine ⟨w, ?_, g1⟩
        rw [show less 4 1 nn m = nn by simp [less]; omega]
        exact .hit k1 g2
      · refine ⟨⟨op, head, less op head (less op head nn m) n, l3⟩, .node k1 ?_, ?_⟩
        · rintro ⟨rfl, rfl, h⟩
          simp only [true_and, less] at *
          split at h <;> omega
        · have := H.node (head := head) (nn := less op head nn n) k2 (by
            rintro ⟨rfl, rfl, h⟩
            simp only [true_and, less] at *
            split at h <;> omega)
          refine cast ?_ this
          congr 2
          unfold less
          by_cases hc : op = 4 ∧ head = 1
          · simp only [hc.1, hc.2, true_and] at hm hnn ⊢
            split <;> split <;> (try split) <;> (try split) <;> omega
          · have : ∀ q : Prop, ¬ (op = 4 ∧ head = 1 ∧ q) := fun q h => hc ⟨h.1, h.2.1⟩
            simp only [this, if_false]

/-! ### What the program computes -/

theorem putL_hs {p : Tm → Int → Int → Rs Tm} {q : Tm → Int → Option Tm} {op n : Int} (h : ∀ x m c y c', p x m c = (.ok y, c') → q x m = some y) : ∀ (l : List Tm) (i c : Int) (l' : List Tm) (c' : Int), putL p op n i l c = (.ok l', c') → hsL q op n i l = some l'
  | [], i, c, l', c', hp => by simp only [putL, Prod.mk.injEq, Except.ok.injEq] at hp; simp [hsL, hp.1]
  | x :: r, i, c, l', c', hp => by
    simp only [putL] at hp
    cases h1 : p x (n + under op i) c with
    | mk q1 c1 =>
      rw [h1] at hp
      cases q1 with
      | error e => simp at hp
      | ok y =>
        simp only at hp
        cases h2 : putL p op n (i + 1) r c1 with
        | mk q2 c2 =>
          rw [h2] at hp
          cases q2 with
          | error e => simp at hp
          | ok m =>
            simp only [Prod.mk.injEq, Except.ok.injEq] at hp
            simp only [hsL, h _ _ _ _ _ h1, putL_hs h r (i + 1) c1 m c2 h2, hp.1]

theorem appL_hs {p : Tm → Tm → Sm → Int → Rs Tm} {q : Tm → Tm → Sm → Option Tm} (h : ∀ b x a c y c', p b x a c = (.ok y, c') → q b x a = some y) : ∀ (l : List Tm) (f : Tm) (tys : List Sm) (c : Int) (u : Tm) (c' : Int), appL p f l tys c = (.ok u, c') → hsA q f l tys = some u
  | [], f, tys, c, u, c', hp => by simp only [appL, Prod.mk.injEq, Except.ok.injEq] at hp; simp [hsA, hp.1]
  | x :: r, f, tys, c, u, c', hp => by
    unfold appL at hp
    unfold hsA
    by_cases ho : f.op = 3
    · rw [if_pos ho] at hp ⊢
      cases hf : f.args with
      | nil => rw [hf] at hp; simp at hp
      | cons b bs =>
        cases tys with
        | nil => simp at hp
        | cons a tys =>
          rw [hf] at hp
          simp only at hp ⊢
          cases h1 : p b x a c with
          | mk q1 c1 =>
            rw [h1] at hp
            cases q1 with
            | error e => simp at hp
            | ok y =>
              simp only at hp
              rw [h _ _ _ _ _ _ h1]
              exact appL_hs h r y tys c1 u c' hp
    · rw [if_neg ho] at hp; simp at hp

theorem whole_eq {t u : Tm} (h : whole t = .ok u) : u = t := by
  by_cases hp : Proper t
  · rw [whole_ok hp] at h; exact (Except.ok.inj h).symm
  · rw [whole_no hp] at h; cases h

theorem put_hs : ∀ (g : Nat) (t : Tm) (n : Int) (s : Tm) (a : Sm) (c : Int) (u : Tm) (c' : Int), put g t n s a c = (.ok u, c') → hs g t n s a = some u
  | 0, t, n, s, a, c, u, c', h => by simp [put] at h
  | g + 1, t, n, s, a, c, u, c', h => by
    rw [put] at h
    by_cases hc : c + 1 > 20000
    · rw [if_pos hc] at h; simp at h
    · rw [if_neg hc] at h
      rw [hs]
      cases h1 : putL (fun x m c => put g x m s a c) t.op n 0 t.args (c + 1) with
      | mk q1 c1 =>
        rw [h1] at h
        cases q1 with
        | error e => simp at h
        | ok l =>
          simp only at h
          rw [putL_hs (q := fun x m => hs g x m s a) (fun x m c y c' h => put_hs g x m s a c y c' h) t.args 0 (c + 1) l c1 h1]
          simp only
          by_cases hit : t.op = 4 ∧ t.head = 1 ∧ t.n = n
          · rw [if_pos hit] at h ⊢
            cases hw : whole (mv n 0 s) with
            | error e => rw [hw] at h; simp at h
            | ok s' =>
              rw [hw] at h
              cases whole_eq hw
              exact appL_hs (fun b x a c y c' h => put_hs g b 0 x a c y c' h) l (mv n 0 s) a.args c1 u c' h
          · rw [if_neg hit] at h ⊢
            simp only [Prod.mk.injEq] at h
            rw [whole_eq h.1]

/-- The program's substitutions commute. -/
theorem put_comm {T s r : Tm} {n m : Int} {a b : Sm} {t u v p q : Tm} {g1 g2 g3 g4 g5 : Nat} {c1 c2 c3 c4 c5 d1 d2 d3 d4 d5 : Int} (hn : 0 ≤ n) (hnm : n < m)
    (h1 : put g1 T m r b c1 = (.ok t, d1)) (h2 : put g2 s (m - n - 1) r b c2 = (.ok u, d2)) (h3 : put g3 T n s a c3 = (.ok v, d3)) (h4 : put g4 t n u a c4 = (.ok p, d4)) (h5 : put g5 v (m - 1) r b c5 = (.ok q, d5)) : p = q := by
  obtain ⟨w, k1, k2⟩ := comm (a.size + b.size) T n m s r a b t u v (Nat.le_refl _) hn hnm ⟨g1, put_hs _ _ _ _ _ _ _ _ h1⟩ ⟨g2, put_hs _ _ _ _ _ _ _ _ h2⟩ ⟨g3, put_hs _ _ _ _ _ _ _ _ h3⟩
  exact (H.det ⟨g4, put_hs _ _ _ _ _ _ _ _ h4⟩ k1).trans (H.det k2 ⟨g5, put_hs _ _ _ _ _ _ _ _ h5⟩)

end Go.Proofs.Ytcgbfghdcjmaeaa.Ev
