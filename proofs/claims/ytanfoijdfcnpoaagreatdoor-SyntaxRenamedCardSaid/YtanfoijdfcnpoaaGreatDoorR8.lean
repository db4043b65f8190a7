/- This file proves plain laws of well-formed expressions and of their texts; without any condition. -/
import Derived.Test.YtanfoijdfcnpoaaGreatDoorR2
import Derived.Test.YtanfoijdfcnpoaaGreatDoorR3
set_option linter.unusedVariables false
set_option linter.unusedSimpArgs false
namespace Go.Proofs.YtanfoijdfcnpoaaGreatDoor.Ev

/-- Well-formed expressions but for names, depth and size. -/
inductive Xp
  | ty | hole
  | nm (w : List UInt8)
  | app (a b : Xp)
  | arr (a b : Xp)
  | bnd (lam : Bool) (w : List UInt8) (a b : Xp)

def Xp.rw : Xp → Rw
  | .ty => ⟨1, tNo, []⟩
  | .hole => ⟨3, tNo, []⟩
  | .nm w => ⟨2, mk w, []⟩
  | .app a b => ⟨4, tNo, [a.rw, b.rw]⟩
  | .arr a b => ⟨6, tNo, [a.rw, b.rw]⟩
  | .bnd l w a b => ⟨bif l then 7 else 5, mk w, [a.rw, b.rw]⟩

/-- The names are names. -/
def Xp.Nm : Xp → Prop
  | .ty | .hole => True
  | .nm w => nmOk w = true
  | .app a b | .arr a b => a.Nm ∧ b.Nm
  | .bnd _ w a b => nmOk w = true ∧ a.Nm ∧ b.Nm

def Xp.sz : Xp → Nat
  | .ty | .hole | .nm _ => 1
  | .app a b | .arr a b | .bnd _ _ a b => 1 + a.sz + b.sz

theorem nm_of (n : ByteArray) : n = mk n.data.toList := mk_of n

theorem form_ex (t : Rw) : ∀ d, formB t d = true → ∃ e : Xp, e.rw = t ∧ e.Nm := by
  induction t using Rw.ind with
  | h o nm l ih =>
    intro d h
    simp only [formB, Bool.and_eq_true] at h
    obtain ⟨_, hn, hl⟩ := h
    have two : ∀ {n : Nat}, (l.length == n) = true → n = 2 → ∃ a b, l = [a, b] ∧ (∃ e : Xp, e.rw = a ∧ e.Nm) ∧ ∃ e : Xp, e.rw = b ∧ e.Nm := by
      intro n h hn
      subst hn
      match l, eq_of_beq h, hl, ih with
      | [a, b], _, hl, ih =>
        simp only [formBL, Bool.and_eq_true] at hl
        exact ⟨a, b, rfl, ih a (by simp) _ hl.1, ih b (by simp) _ hl.2.1⟩
    have none : (l.length == 0) = true → l = [] := fun h => List.length_eq_zero_iff.1 (eq_of_beq h)
    have emp : (nm.data.toList == []) = true → nm = tNo := fun h => by rw [mk_of nm, eq_of_beq h]
    rcases op_cases o with rfl | rfl | rfl | rfl | rfl | rfl | rfl | ⟨q1, q2, q3, q4, q5, q6, q7⟩
    · simp only [nodeB, Int.reduceBEq, Bool.true_or, cond_true, Bool.and_eq_true] at hn
      exact ⟨.ty, by rw [none hn.1, emp hn.2]; rfl, trivial⟩
    · simp only [nodeB, Int.reduceBEq, Bool.or_self, cond_true, cond_false, Bool.and_eq_true] at hn
      exact ⟨.nm nm.data.toList, by rw [none hn.1]; simp only [Xp.rw], hn.2⟩
    · simp only [nodeB, Int.reduceBEq, Bool.or_true, cond_true, Bool.and_eq_true] at hn
      exact ⟨.hole, by rw [none hn.1, emp hn.2]; rfl, trivial⟩
    · simp only [nodeB, Int.reduceBEq, Bool.or_self, Bool.true_or, cond_true, cond_false, Bool.and_eq_true] at hn
      obtain ⟨a, b, rfl, ⟨ea, h1, h2⟩, eb, h3, h4⟩ := two hn.1 rfl
      exact ⟨.app ea eb, by rw [emp hn.2]; simp only [Xp.rw, h1, h3], h2, h4⟩
    · simp only [nodeB, Int.reduceBEq, Bool.or_self, Bool.true_or, cond_true, cond_false, Bool.and_eq_true] at hn
      obtain ⟨a, b, rfl, ⟨ea, h1, h2⟩, eb, h3, h4⟩ := two hn.1 rfl
      exact ⟨.bnd false nm.data.toList ea eb, by simp only [Xp.rw, h1, h3, cond_false], hn.2, h2, h4⟩
    · simp only [nodeB, Int.reduceBEq, Bool.or_self, Bool.or_true, cond_true, cond_false, Bool.and_eq_true] at hn
      obtain ⟨a, b, rfl, ⟨ea, h1, h2⟩, eb, h3, h4⟩ := two hn.1 rfl
      exact ⟨.arr ea eb, by rw [emp hn.2]; simp only [Xp.rw, h1, h3], h2, h4⟩
    · simp only [nodeB, Int.reduceBEq, Bool.or_self, Bool.or_true, cond_true, cond_false, Bool.and_eq_true] at hn
      obtain ⟨a, b, rfl, ⟨ea, h1, h2⟩, eb, h3, h4⟩ := two hn.1 rfl
      exact ⟨.bnd true nm.data.toList ea eb, by simp only [Xp.rw, h1, h3, cond_true], hn.2, h2, h4⟩
    · simp only [nodeB, q1, q2, q3, q4, q5, q6, q7, Bool.or_self, cond_false] at hn
      cases hn

theorem sz_rw : ∀ e : Xp, e.rw.size = e.sz
  | .ty => rfl
  | .hole => rfl
  | .nm _ => rfl
  | .app a b => by simp only [Xp.rw, Rw.size, sizeRL, sz_rw a, sz_rw b, Xp.sz]; omega
  | .arr a b => by simp only [Xp.rw, Rw.size, sizeRL, sz_rw a, sz_rw b, Xp.sz]; omega
  | .bnd _ _ a b => by simp only [Xp.rw, Rw.size, sizeRL, sz_rw a, sz_rw b, Xp.sz]; omega

def Xp.wide : Xp → Bool
  | .arr .. | .bnd .. => true
  | _ => false
def Xp.isApp : Xp → Bool
  | .app .. => true
  | _ => false
def Xp.isHole : Xp → Bool
  | .hole => true
  | _ => false

def par (b : Bool) (w : List UInt8) : List UInt8 := bif b then [40] ++ w ++ [41] else w

/-- The text of an expression. -/
def Xp.text : Xp → List UInt8
  | .ty => tyB
  | .hole => [95]
  | .nm w => w
  | .app a b => par a.wide a.text ++ [32] ++ par (b.wide || b.isApp) b.text
  | .arr a b => par a.wide a.text ++ [32, 45, 62, 32] ++ b.text
  | .bnd l w a b => (bif l then [91] else [123]) ++ w ++ (bif a.isHole then [] else [58] ++ a.text) ++ (bif l then [93, 32] else [125, 32]) ++ b.text

theorem name_le {f : Int → Bool} {c : UInt8} {r : List UInt8} (h : nameL f (c :: r) = true) : (c :: r).length ≤ 16 := by
  simp only [nameL, Bool.and_eq_true, decide_eq_true_eq] at h
  exact h.1

theorem nm_len {w : List UInt8} (h : nmOk w = true) : w.length ≤ 16 := by
  simp only [nmOk, Bool.and_eq_true] at h
  cases w with
  | nil => simp
  | cons c r => exact name_le h.1

theorem par_len (b : Bool) (w : List UInt8) : (par b w).length ≤ w.length + 2 := by cases b <;> simp [par]

theorem text_len : ∀ e : Xp, e.Nm → e.text.length + 2 ≤ 25 * e.sz
  | .ty, _ => by decide
  | .hole, _ => by decide
  | .nm w, h => by have := nm_len (w := w) h; simp only [Xp.text, Xp.sz]; omega
  | .app a b, h => by
    have h1 := text_len a h.1
    have h2 := text_len b h.2
    have := par_len a.wide a.text
    have := par_len (b.wide || b.isApp) b.text
    simp only [Xp.text, Xp.sz, List.length_append, List.length_cons, List.length_nil]; omega
  | .arr a b, h => by
    have h1 := text_len a h.1
    have h2 := text_len b h.2
    have := par_len a.wide a.text
    simp only [Xp.text, Xp.sz, List.length_append, List.length_cons, List.length_nil]; omega
  | .bnd l w a b, h => by
    have h1 := text_len a h.2.1
    have h2 := text_len b h.2.2
    have h3 := nm_len h.1
    have e1 : (bif l then [91] else [123] : List UInt8).length = 1 := by cases l <;> rfl
    have e2 : (bif l then [93, 32] else [125, 32] : List UInt8).length = 2 := by cases l <;> rfl
    have e3 : (bif a.isHole then [] else [58] ++ a.text : List UInt8).length ≤ a.text.length + 1 := by cases a.isHole <;> simp
    simp only [Xp.text, Xp.sz, List.length_append, e1, e2]; omega

theorem wide_op (e : Xp) : e.wide = (e.rw.op == 6 || (e.rw.op == 5 || e.rw.op == 7)) := by
  cases e <;> try rfl
  rename_i l w a b; cases l <;> rfl
theorem isApp_op (e : Xp) : e.isApp = (e.rw.op == 4) := by
  cases e <;> try rfl
  rename_i l w a b; cases l <;> rfl
theorem isHole_op (e : Xp) : e.isHole = (e.rw.op == 3) := by
  cases e <;> try rfl
  rename_i l w a b; cases l <;> rfl

end Go.Proofs.YtanfoijdfcnpoaaGreatDoor.Ev
