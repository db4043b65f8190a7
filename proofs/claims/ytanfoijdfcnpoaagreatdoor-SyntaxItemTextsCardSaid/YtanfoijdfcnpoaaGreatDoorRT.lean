/- This file proves plain laws of well-formed expressions and of their texts, and what both functions Text answer; without any condition. -/
import Derived.Test.YtanfoijdfcnpoaaGreatDoorR2
import Derived.Test.YtanfoijdfcnpoaaGreatDoorR3
set_option linter.unusedVariables false
set_option linter.unusedSimpArgs false
namespace Go.Proofs.YtanfoijdfcnpoaaGreatDoor.Ev

/-- Well-formed expressions but for names, depth and size. -/
inductive Xp
  | ty | hole
  | nm (w : List UInt8)
  | app (a b : Xp)
  | arr (a b : Xp)
  | bnd (lam : Bool) (w : List UInt8) (a b : Xp)

def Xp.rw : Xp → Rw
  | .ty => ⟨1, tNo, []⟩
  | .hole => ⟨3, tNo, []⟩
  | .nm w => ⟨2, mk w, []⟩
  | .app a b => ⟨4, tNo, [a.rw, b.rw]⟩
  | .arr a b => ⟨6, tNo, [a.rw, b.rw]⟩
  | .bnd l w a b => ⟨bif l then 7 else 5, mk w, [a.rw, b.rw]⟩

/-- The names are names. -/
def Xp.Nm : Xp → Prop
  | .ty | .hole => True
  | .nm w => nmOk w = true
  | .app a b | .arr a b => a.Nm ∧ b.Nm
  | .bnd _ w a b => nmOk w = true ∧ a.Nm ∧ b.Nm

def Xp.sz : Xp → Nat
  | .ty | .hole | .nm _ => 1
  | .app a b | .arr a b | .bnd _ _ a b => 1 + a.sz + b.sz

theorem nm_of (n : ByteArray) : n = mk n.data.toList := mk_of n

theorem form_ex (t : Rw) : ∀ d, formB t d = true → ∃ e : Xp, e.rw = t ∧ e.Nm := by
  induction t using Rw.ind with
  | h o nm l ih =>
    intro d h
    simp only [formB, Bool.and_eq_true] at h
    obtain ⟨_, hn, hl⟩ := h
    have two : ∀ {n : Nat}, (l.length == n) = true → n = 2 → ∃ a b, l = [a, b] ∧ (∃ e : Xp, e.rw = a ∧ e.Nm) ∧ ∃ e : Xp, e.rw = b ∧ e.Nm := by
      intro n h hn
      subst hn
      match l, eq_of_beq h, hl, ih with
      | [a, b], _, hl, ih =>
        simp only [formBL, Bool.and_eq_true] at hl
        exact ⟨a, b, rfl, ih a (by simp) _ hl.1, ih b (by simp) _ hl.2.1⟩
    have none : (l.length == 0) = true → l = [] := fun h => List.length_eq_zero_iff.1 (eq_of_beq h)
    have emp : (nm.data.toList == []) = true → nm = tNo := fun h => by rw [mk_of nm, eq_of_beq h]
    rcases op_cases o with rfl | rfl | rfl | rfl | rfl | rfl | rfl | ⟨q1, q2, q3, q4, q5, q6, q7⟩
    · simp only [nodeB, Int.reduceBEq, Bool.true_or, cond_true, Bool.and_eq_true] at hn
      exact ⟨.ty, by rw [none hn.1, emp hn.2]; rfl, trivial⟩
    · simp only [nodeB, Int.reduceBEq, Bool.or_self, cond_true, cond_false, Bool.and_eq_true] at hn
      exact ⟨.nm nm.data.toList, by rw [none hn.1]; simp only [Xp.rw], hn.2⟩
    · simp only [nodeB, Int.reduceBEq, Bool.or_true, cond_true, Bool.and_eq_true] at hn
      exact ⟨.hole, by rw [none hn.1, emp hn.2]; rfl, trivial⟩
    · simp only [nodeB, Int.reduceBEq, Bool.or_self, Bool.true_or, cond_true, cond_false, Bool.and_eq_true] at hn
      obtain ⟨a, b, rfl, ⟨ea, h1, h2⟩, eb, h3, h4⟩ := two hn.1 rfl
      exact ⟨.app ea eb, by rw [emp hn.2]; simp only [Xp.rw, h1, h3], h2, h4⟩
    · simp only [nodeB, Int.reduceBEq, Bool.or_self, Bool.true_or, cond_true, cond_false, Bool.and_eq_true] at hn
      obtain ⟨a, b, rfl, ⟨ea, h1, h2⟩, eb, h3, h4⟩ := two hn.1 rfl
      exact ⟨.bnd false nm.data.toList ea eb, by simp only [Xp.rw, h1, h3, cond_false], hn.2, h2, h4⟩
    · simp only [nodeB, Int.reduceBEq, Bool.or_self, Bool.or_true, cond_true, cond_false, Bool.and_eq_true] at hn
      obtain ⟨a, b, rfl, ⟨ea, h1, h2⟩, eb, h3, h4⟩ := two hn.1 rfl
      exact ⟨.arr ea eb, by rw [emp hn.2]; simp only [Xp.rw, h1, h3], h2, h4⟩
    · simp only [nodeB, Int.reduceBEq, Bool.or_self, Bool.or_true, cond_true, cond_false, Bool.and_eq_true] at hn
      obtain ⟨a, b, rfl, ⟨ea, h1, h2⟩, eb, h3, h4⟩ := two hn.1 rfl
      exact ⟨.bnd true nm.data.toList ea eb, by simp only [Xp.rw, h1, h3, cond_true], hn.2, h2, h4⟩
    · simp only [nodeB, q1, q2, q3, q4, q5, q6, q7, Bool.or_self, cond_false] at hn
      cases hn

theorem sz_rw : ∀ e : Xp, e.rw.size = e.sz
  | .ty => rfl
  | .hole => rfl
  | .nm _ => rfl
  | .app a b => by simp only [Xp.rw, Rw.size, sizeRL, sz_rw a, sz_rw b, Xp.sz]; omega
  | .arr a b => by simp only [Xp.rw, Rw.size, sizeRL, sz_rw a, sz_rw b, Xp.sz]; omega
  | .bnd _ _ a b => by simp only [Xp.rw, Rw.size, sizeRL, sz_rw a, sz_rw b, Xp.sz]; omega

def Xp.wide : Xp → Bool
  | .arr .. | .bnd .. => true
  | _ => false
def Xp.isApp : Xp → Bool
  | .app .. => true
  | _ => false
def Xp.isHole : Xp → Bool
  | .hole => true
  | _ => false

def par (b : Bool) (w : List UInt8) : List UInt8 := bif b then [40] ++ w ++ [41] else w

/-- The text of an expression. -/
def Xp.text : Xp → List UInt8
  | .ty => tyB
  | .hole => [95]
  | .nm w => w
  | .app a b => par a.wide a.text ++ [32] ++ par (b.wide || b.isApp) b.text
  | .arr a b => par a.wide a.text ++ [32, 45, 62, 32] ++ b.text
  | .bnd l w a b => (bif l then [91] else [123]) ++ w ++ (bif a.isHole then [] else [58] ++ a.text) ++ (bif l then [93, 32] else [125, 32]) ++ b.text

theorem name_le {f : Int → Bool} {c : UInt8} {r : List UInt8} (h : nameL f (c :: r) = true) : (c :: r).length ≤ 16 := by
  simp only [nameL, Bool.and_eq_true, decide_eq_true_eq] at h
  exact h.1

theorem nm_len {w : List UInt8} (h : nmOk w = true) : w.length ≤ 16 := by
  simp only [nmOk, Bool.and_eq_true] at h
  cases w with
  | nil => simp
  | cons c r => exact name_le h.1

theorem par_len (b : Bool) (w : List UInt8) : (par b w).length ≤ w.length + 2 := by cases b <;> simp [par]

theorem text_len : ∀ e : Xp, e.Nm → e.text.length + 2 ≤ 25 * e.sz
  | .ty, _ => by decide
  | .hole, _ => by decide
  | .nm w, h => by have := nm_len (w := w) h; simp only [Xp.text, Xp.sz]; omega
  | .app a b, h => by
    have h1 := text_len a h.1
    have h2 := text_len b h.2
    have := par_len a.wide a.text
    have := par_len (b.wide || b.isApp) b.text
    simp only [Xp.text, Xp.sz, List.length_append, List.length_cons, List.length_nil]; omega
  | .arr a b, h => by
    have h1 := text_len a h.1
    have h2 := text_len b h.2
    have := par_len a.wide a.text
    simp only [Xp.text, Xp.sz, List.length_append, List.length_cons, List.length_nil]; omega
  | .bnd l w a b, h => by
    have h1 := text_len a h.2.1
    have h2 := text_len b h.2.2
    have h3 := nm_len h.1
    have e1 : (bif l then [91] else [123] : List UInt8).length = 1 := by cases l <;> rfl
    have e2 : (bif l then [93, 32] else [125, 32] : List UInt8).length = 2 := by cases l <;> rfl
    have e3 : (bif a.isHole then [] else [58] ++ a.text : List UInt8).length ≤ a.text.length + 1 := by cases a.isHole <;> simp
    simp only [Xp.text, Xp.sz, List.length_append, e1, e2]; omega

theorem wide_op (e : Xp) : e.wide = (e.rw.op == 6 || (e.rw.op == 5 || e.rw.op == 7)) := by
  cases e <;> try rfl
  rename_i l w a b; cases l <;> rfl
theorem isApp_op (e : Xp) : e.isApp = (e.rw.op == 4) := by
  cases e <;> try rfl
  rename_i l w a b; cases l <;> rfl
theorem isHole_op (e : Xp) : e.isHole = (e.rw.op == 3) := by
  cases e <;> try rfl
  rename_i l w a b; cases l <;> rfl

end Go.Proofs.YtanfoijdfcnpoaaGreatDoor.Ev

set_option linter.unusedVariables false
set_option linter.unusedSimpArgs false
namespace Go.Proofs.YtanfoijdfcnpoaaGreatDoor.Ev

theorem cat_ok {x y : List UInt8} (h : x.length + y.length ≤ 1000000000) : decide ((mk x).size + (mk y).size ≤ 9223372036854775807) = true := by
  rw [mk_size, mk_size]; simp only [decide_eq_true_eq]; omega

theorem s_within (b : Bool) : Evt fun k => ∀ (w : List UInt8), w.length ≤ 100000 → ∀ (ρ : Type) K, (Tabs k).c99_0 ρ (mk w) b K = K (mk (par b w)) := Evt.step0 fun k w hw ρ K => by
  rw [show (Tabs (k + 1)).c99_0 = Gc99_0 (Tabs k) from rfl]
  unfold Gc99_0
  cases b with
  | false => rfl
  | true =>
    simp only [cond_true, par]
    rw [show (ByteArray.mk #[40]) = mk [40] from rfl, show (ByteArray.mk #[41]) = mk [41] from rfl, cat_ok (by simp; omega), cond_true, mk_append, cat_ok (by simp; omega), cond_true, mk_append]

theorem s_wide : Evt fun k => ∀ (e : Xp) (ρ : Type) K, (Tabs k).c100_0 ρ e.rw K = K e.wide := Evt.step0 fun k e ρ K => by
  rw [show (Tabs (k + 1)).c100_0 = Gc100_0 (Tabs k) from rfl]
  simp only [Gc100_0, wide_op]
  cases e.rw.op == 6 <;> cases e.rw.op == 5 <;> rfl

theorem two_in0 (x y : Rw) : (decide ((0 : Int) ≤ (0 : Int)) && decide ((0 : Int) < ((List.length [x, y] : Nat) : Int))) = true := by simp
theorem two_in1 (x y : Rw) : (decide ((0 : Int) ≤ (1 : Int)) && decide ((1 : Int) < ((List.length [x, y] : Nat) : Int))) = true := by simp

theorem bne3 (x : Int) : (x != (3 : Int)) = !(x == 3) := rfl

theorem s_rtext (e : Xp) : e.Nm → e.sz ≤ 400 → Evt fun k => ∀ (ρ : Type) K, (Tabs k).c63_0 ρ e.rw K = K (mk e.text) := by
  induction e with
  | ty =>
    intro _ _
    exact Evt.step0 fun k ρ K => by
      rw [show (Tabs (k + 1)).c63_0 = Gc63_0 (Tabs k) from rfl]
      rfl
  | hole =>
    intro _ _
    exact Evt.step0 fun k ρ K => by
      rw [show (Tabs (k + 1)).c63_0 = Gc63_0 (Tabs k) from rfl]
      rfl
  | nm w =>
    intro _ _
    exact Evt.step0 fun k ρ K => by
      rw [show (Tabs (k + 1)).c63_0 = Gc63_0 (Tabs k) from rfl]
      rfl
  | app a b iha ihb =>
    intro hn hs
    simp only [Xp.sz] at hs
    have la := text_len a hn.1
    have lb := text_len b hn.2
    have pa := par_len a.wide a.text
    have pb := par_len (b.wide || b.isApp) b.text
    refine ((iha hn.1 (by omega)).and ((ihb hn.2 (by omega)).and (s_wide.and ((s_within a.wide).and ((s_within true).and (s_within (b.isApp))))))).step fun k ⟨h1, h2, h3, h4, h5, h6⟩ ρ K => ?_
    rw [show (Tabs (k + 1)).c63_0 = Gc63_0 (Tabs k) from rfl]
    show Gc63_0 (Tabs k) ρ (⟨4, tNo, [a.rw, b.rw]⟩ : Rw) K = _
    unfold Gc63_0
    dsimp only
    simp only [ Int.reduceBEq, cond_true, cond_false, two_in0, two_in1, rdRw0, rdRw1, Rw.eta, h1, h2, h3, h4 a.text (by omega)]
    rw [show (ByteArray.mk #[32]) = mk [32] from rfl, cat_ok (by simp; omega), cond_true, mk_append]
    cases hb : b.wide with
    | true =>
      rw [hb, Bool.true_or] at pb
      simp only [cond_true, h5 b.text (by omega), Xp.text, hb, Bool.true_or]
      rw [cat_ok (by simp; omega), cond_true, mk_append]
    | false =>
      rw [hb, Bool.false_or] at pb
      simp only [cond_false, ← isApp_op, h6 b.text (by omega), Xp.text, hb, Bool.false_or]
      rw [cat_ok (by simp; omega), cond_true, mk_append]
  | arr a b iha ihb =>
    intro hn hs
    simp only [Xp.sz] at hs
    have la := text_len a hn.1
    have lb := text_len b hn.2
    have pa := par_len a.wide a.text
    refine ((iha hn.1 (by omega)).and ((ihb hn.2 (by omega)).and (s_wide.and (s_within a.wide)))).step fun k ⟨h1, h2, h3, h4⟩ ρ K => ?_
    rw [show (Tabs (k + 1)).c63_0 = Gc63_0 (Tabs k) from rfl]
    show Gc63_0 (Tabs k) ρ (⟨6, tNo, [a.rw, b.rw]⟩ : Rw) K = _
    unfold Gc63_0
    dsimp only
    simp only [ Int.reduceBEq, cond_true, cond_false, two_in0, two_in1, rdRw0, rdRw1, Rw.eta, h1, h2, h3, h4 a.text (by omega)]
    rw [show (ByteArray.mk #[32, 45, 62, 32]) = mk [32, 45, 62, 32] from rfl, cat_ok (by simp; omega), cond_true, mk_append, cat_ok (by simp; omega), cond_true, mk_append]
    rfl
  | bnd l w a b iha ihb =>
    intro hn hs
    simp only [Xp.sz] at hs
    have la := text_len a hn.2.1
    have lb := text_len b hn.2.2
    have lw := nm_len hn.1
    refine ((iha hn.2.1 (by omega)).and (ihb hn.2.2 (by omega))).step fun k ⟨h1, h2⟩ ρ K => ?_
    rw [show (Tabs (k + 1)).c63_0 = Gc63_0 (Tabs k) from rfl]
    show Gc63_0 (Tabs k) ρ (⟨bif l then 7 else 5, mk w, [a.rw, b.rw]⟩ : Rw) K = _
    unfold Gc63_0
    dsimp only
    simp only [ two_in0, two_in1, rdRw0, rdRw1, Rw.eta, h1, h2, bne3, ← isHole_op, Xp.text]
    rw [show (ByteArray.mk #[58]) = mk [58] from rfl, show (ByteArray.mk #[123]) = mk [123] from rfl, show (ByteArray.mk #[91]) = mk [91] from rfl, show (ByteArray.mk #[125, 32]) = mk [125, 32] from rfl, show (ByteArray.mk #[93, 32]) = mk [93, 32] from rfl, show (ByteArray.mk #[]) = mk [] from rfl]
    cases l <;> cases a.isHole <;> simp only [cond_true, cond_false, Int.reduceBEq, Bool.not_true, Bool.not_false]
    · rw [cat_ok (by simp; omega), cond_true, mk_append, cat_ok (by simp; omega), cond_true, mk_append, cat_ok (by simp; omega), cond_true, mk_append, cat_ok (by simp; omega), cond_true, mk_append, cat_ok (by simp; omega), cond_true, mk_append]
    · rw [cat_ok (by simp; omega), cond_true, mk_append, cat_ok (by simp; omega), cond_true, mk_append, cat_ok (by simp; omega), cond_true, mk_append, cat_ok (by simp; omega), cond_true, mk_append]
    · rw [cat_ok (by simp; omega), cond_true, mk_append, cat_ok (by simp; omega), cond_true, mk_append, cat_ok (by simp; omega), cond_true, mk_append, cat_ok (by simp; omega), cond_true, mk_append, cat_ok (by simp; omega), cond_true, mk_append]
    · rw [cat_ok (by simp; omega), cond_true, mk_append, cat_ok (by simp; omega), cond_true, mk_append, cat_ok (by simp; omega), cond_true, mk_append, cat_ok (by simp; omega), cond_true, mk_append]

end Go.Proofs.YtanfoijdfcnpoaaGreatDoor.Ev

set_option linter.unusedVariables false
set_option linter.unusedSimpArgs false
namespace Go.Proofs.YtanfoijdfcnpoaaGreatDoor.Ev

def fidxI (x : Int) : List Int → Nat → Option Nat
  | [], _ => none
  | y :: r, n => bif x == y then some n else fidxI x r (n + 1)

theorem fidxI_any (x : Int) : ∀ (r : List Int) (n : Nat), (fidxI x r n).isSome = r.any (x == ·)
  | [], _ => rfl
  | y :: r, n => by
    simp only [fidxI, List.any_cons]
    cases x == y with
    | true => rfl
    | false => simp only [cond_false, Bool.false_or]; exact fidxI_any x r (n + 1)

theorem indexI_loop (ws : List Int) (hw : ws.length ≤ 1000) : ∀ (r pre : List Int), ws = pre ++ r →
    Evt fun k => ∀ (x : Int) (ρ : Type) k0 k1, (Tabs k).l133_2_0 ρ ws x (ws.length : Int) (pre.length : Int) k0 k1 = match fidxI x r pre.length with | some i => k0 (i : Int) | none => k1
  | [], pre, ha => by
    refine Evt.step0 fun k x ρ k0 k1 => ?_
    show Gl133_2_0 (Tabs k) ρ _ _ _ _ _ _ = _
    have e : decide ((pre.length : Int) < ((ws).length : Int)) = false := by simp [ha]
    simp only [Gl133_2_0, e, cond_false, fidxI]
  | y :: r, pre, ha => by
    refine (indexI_loop ws hw r (pre ++ [y]) (by simp [ha])).step fun k ih x ρ k0 k1 => ?_
    show Gl133_2_0 (Tabs k) ρ _ _ _ _ _ _ = _
    have hlen : pre.length < ws.length := by simp [ha]
    have e1 : decide ((pre.length : Int) < ((ws).length : Int)) = true := by simp; omega
    have e2 : decide ((0 : Int) ≤ (pre.length : Int)) = true := by simp
    have e4 : IntKind.wrap .i64 ((pre.length : Int) + 1) = ((pre ++ [y]).length : Int) := by
      rw [W_id (by omega) (by omega)]; simp
    have e6 : rdEl lay Key.int ws (pre.length : Int) = y := by rw [ha]; exact rdInt ..
    simp only [Gl133_2_0, e1, e2, Bool.and_self, cond_true, e6, e4, ih, fidxI]
    cases x == y with
    | true => rfl
    | false => simp only [cond_false, List.length_append, List.length_cons, List.length_nil, Nat.zero_add]

theorem s_containsI (ws : List Int) (hw : ws.length ≤ 1000) : Evt fun k => ∀ (x : Int) (ρ : Type) K, (Tabs k).c94_0 ρ ws x K = K (ws.any (x == ·)) := by
  have h1 : Evt fun k => ∀ (x : Int) (ρ : Type) K, (Tabs k).c133_0 ρ ws x K = match fidxI x ws 0 with | some i => K (i : Int) | none => K (-1) := by
    refine (indexI_loop ws hw ws [] rfl).step fun k ih x ρ K => ?_
    show Gc133_0 (Tabs k) ρ _ _ _ = _
    have ih' := ih x ρ
    simp only [List.length_nil, Int.natCast_zero] at ih'
    simp only [Gc133_0, ih']
  refine h1.step fun k ih x ρ K => ?_
  show Gc94_0 (Tabs k) ρ _ _ _ = _
  simp only [Gc94_0, ih, ← fidxI_any x ws 0]
  cases fidxI x ws 0 with
  | none => rfl
  | some i => simp only [Option.isSome_some]; congr 1

/-- Whether an expression is written in parentheses. -/
def inB (ins : List Int) (e : Xp) : Bool := ins.any (e.rw.op == ·)

theorem inB_none (e : Xp) : inB [] e = false := rfl
theorem inB_wide (e : Xp) : inB [6, 5, 7] e = e.wide := by
  rw [wide_op]; simp only [inB, List.any_cons, List.any_nil, Bool.or_false]
theorem inB_app (e : Xp) : inB [4, 6, 5, 7] e = (e.wide || e.isApp) := by
  rw [wide_op, isApp_op]; simp only [inB, List.any_cons, List.any_nil, Bool.or_false]
  rw [Bool.or_comm]

theorem fin_par {C : Tab} {ins : List Int} {o : Int} {b : Bool} (h : ∀ (ρ : Type) K, C.c94_0 ρ ins o K = K b) (w : List UInt8) (hw : w.length ≤ 100000) (ρ : Type) (K : ByteArray → Option ρ) :
    C.c94_0 ρ ins o (fun r => cond r (cond (decide ((mk [40]).size + (mk w).size ≤ 9223372036854775807)) (cond (decide ((mk [40] ++ mk w).size + (mk [41]).size ≤ 9223372036854775807)) (K ((mk [40] ++ mk w) ++ mk [41])) none) none) (K (mk w))) = K (mk (par b w)) := by
  rw [h, cat_ok (by simp; omega), cond_true, mk_append, cat_ok (by simp; omega), cond_true, mk_append]
  cases b <;> rfl

def insL : List (List Int) := [[], [6, 5, 7], [4, 6, 5, 7]]

theorem s_text (e : Xp) : e.Nm → e.sz ≤ 400 → Evt fun k => ∀ ins ∈ insL, ∀ (ρ : Type) K, (Tabs k).c57_0 ρ e.rw ins K = K (mk (par (inB ins e) e.text)) := by
  have hC : Evt fun k => ∀ ins ∈ insL, ∀ (x : Int) (ρ : Type) K, (Tabs k).c94_0 ρ ins x K = K (ins.any (x == ·)) :=
    Evt.all fun ins hi => s_containsI ins (by
      simp only [insL, List.mem_cons, List.not_mem_nil, or_false] at hi
      rcases hi with rfl | rfl | rfl <;> simp)
  have m0 : [] ∈ insL := by simp [insL]
  have m1 : [6, 5, 7] ∈ insL := by simp [insL]
  have m2 : [4, 6, 5, 7] ∈ insL := by simp [insL]
  have p0 : ∀ w, par false w = w := fun _ => rfl
  induction e with
  | ty =>
    intro _ _
    exact hC.step fun k h ins hi ρ K => by
      rw [show (Tabs (k + 1)).c57_0 = Gc57_0 (Tabs k) from rfl]
      exact fin_par (fun ρ K => h ins hi _ ρ K) tyB (by decide) ρ K
  | hole =>
    intro _ _
    exact hC.step fun k h ins hi ρ K => by
      rw [show (Tabs (k + 1)).c57_0 = Gc57_0 (Tabs k) from rfl]
      exact fin_par (fun ρ K => h ins hi _ ρ K) [95] (by decide) ρ K
  | nm w =>
    intro hn _
    have := nm_len (w := w) hn
    exact hC.step fun k h ins hi ρ K => by
      rw [show (Tabs (k + 1)).c57_0 = Gc57_0 (Tabs k) from rfl]
      exact fin_par (fun ρ K => h ins hi _ ρ K) w (by omega) ρ K
  | app a b iha ihb =>
    intro hn hs
    simp only [Xp.sz] at hs
    have la := text_len a hn.1
    have lb := text_len b hn.2
    have pa := par_len a.wide a.text
    have pb := par_len (b.wide || b.isApp) b.text
    refine ((iha hn.1 (by omega)).and ((ihb hn.2 (by omega)).and hC)).step fun k ⟨h1, h2, h3⟩ ins hi ρ K => ?_
    rw [show (Tabs (k + 1)).c57_0 = Gc57_0 (Tabs k) from rfl]
    show Gc57_0 (Tabs k) ρ (⟨4, tNo, [a.rw, b.rw]⟩ : Rw) ins K = _
    unfold Gc57_0
    dsimp only
    simp only [Int.reduceBEq, cond_true, cond_false, two_in0, two_in1, rdRw0, rdRw1, Rw.eta, h1 _ m1, h2 _ m2, inB_wide, inB_app]
    rw [show (ByteArray.mk #[32]) = mk [32] from rfl, cat_ok (by simp; omega), cond_true, mk_append, cat_ok (by simp; omega), cond_true, mk_append]
    exact fin_par (fun ρ K => h3 ins hi _ ρ K) _ (by simp; omega) ρ K
  | arr a b iha ihb =>
    intro hn hs
    simp only [Xp.sz] at hs
    have la := text_len a hn.1
    have lb := text_len b hn.2
    have pa := par_len a.wide a.text
    refine ((iha hn.1 (by omega)).and ((ihb hn.2 (by omega)).and hC)).step fun k ⟨h1, h2, h3⟩ ins hi ρ K => ?_
    rw [show (Tabs (k + 1)).c57_0 = Gc57_0 (Tabs k) from rfl]
    show Gc57_0 (Tabs k) ρ (⟨6, tNo, [a.rw, b.rw]⟩ : Rw) ins K = _
    unfold Gc57_0
    dsimp only
    simp only [Int.reduceBEq, cond_true, cond_false, two_in0, two_in1, rdRw0, rdRw1, Rw.eta, h1 _ m1, h2 _ m0, inB_wide, inB_none, p0]
    rw [show (ByteArray.mk #[32, 45, 62, 32]) = mk [32, 45, 62, 32] from rfl, cat_ok (by simp; omega), cond_true, mk_append, cat_ok (by simp; omega), cond_true, mk_append]
    exact fin_par (fun ρ K => h3 ins hi _ ρ K) _ (by simp; omega) ρ K
  | bnd l w a b iha ihb =>
    intro hn hs
    simp only [Xp.sz] at hs
    have la := text_len a hn.2.1
    have lb := text_len b hn.2.2
    have lw := nm_len hn.1
    refine ((iha hn.2.1 (by omega)).and ((ihb hn.2.2 (by omega)).and hC)).step fun k ⟨h1, h2, h3⟩ ins hi ρ K => ?_
    rw [show (Tabs (k + 1)).c57_0 = Gc57_0 (Tabs k) from rfl]
    show Gc57_0 (Tabs k) ρ (⟨bif l then 7 else 5, mk w, [a.rw, b.rw]⟩ : Rw) ins K = _
    unfold Gc57_0
    dsimp only
    have hin : ∀ o, (ins.any (o == ·)) = (ins.any (o == ·)) := fun _ => rfl
    simp only [two_in0, two_in1, rdRw0, rdRw1, Rw.eta, h1 _ m0, h2 _ m0, inB_none, p0, bne3, ← isHole_op]
    rw [show (ByteArray.mk #[58]) = mk [58] from rfl, show (ByteArray.mk #[123]) = mk [123] from rfl, show (ByteArray.mk #[91]) = mk [91] from rfl, show (ByteArray.mk #[125]) = mk [125] from rfl, show (ByteArray.mk #[93]) = mk [93] from rfl, show (ByteArray.mk #[32]) = mk [32] from rfl]
    cases l <;> cases ha : a.isHole <;> simp only [cond_true, cond_false, Int.reduceBEq, Bool.not_true, Bool.not_false]
    · rw [cat_ok (by simp; omega), cond_true, cat_ok (by simp; omega), cond_true, mk_append, mk_append, cat_ok (by simp; omega), cond_true, cat_ok (by simp), cond_true, mk_append, mk_append, cat_ok (by simp; omega), cond_true, mk_append, cat_ok (by simp; omega), cond_true, mk_append]
      have e : (Xp.bnd false w a b).text = [123] ++ w ++ ([58] ++ a.text) ++ ([125] ++ [32] ++ b.text) := by simp only [Xp.text, ha, cond_false, List.append_assoc, List.cons_append, List.nil_append]
      rw [e]
      exact fin_par (fun ρ K => h3 ins hi _ ρ K) _ (by simp; omega) ρ K
    · rw [cat_ok (by simp; omega), cond_true, cat_ok (by simp), cond_true, mk_append, mk_append, cat_ok (by simp; omega), cond_true, mk_append, cat_ok (by simp; omega), cond_true, mk_append]
      have e : (Xp.bnd false w a b).text = [123] ++ w ++ ([125] ++ [32] ++ b.text) := by simp only [Xp.text, ha, cond_true, cond_false, List.append_assoc, List.cons_append, List.nil_append]
      rw [e]
      exact fin_par (fun ρ K => h3 ins hi _ ρ K) _ (by simp; omega) ρ K
    · rw [cat_ok (by simp; omega), cond_true, cat_ok (by simp; omega), cond_true, mk_append, mk_append, cat_ok (by simp; omega), cond_true, cat_ok (by simp), cond_true, mk_append, mk_append, cat_ok (by simp; omega), cond_true, mk_append, cat_ok (by simp; omega), cond_true, mk_append]
      have e : (Xp.bnd true w a b).text = [91] ++ w ++ ([58] ++ a.text) ++ ([93] ++ [32] ++ b.text) := by simp only [Xp.text, ha, cond_true, cond_false, List.append_assoc, List.cons_append, List.nil_append]
      rw [e]
      exact fin_par (fun ρ K => h3 ins hi _ ρ K) _ (by simp; omega) ρ K
    · rw [cat_ok (by simp; omega), cond_true, cat_ok (by simp), cond_true, mk_append, mk_append, cat_ok (by simp; omega), cond_true, mk_append, cat_ok (by simp; omega), cond_true, mk_append]
      have e : (Xp.bnd true w a b).text = [91] ++ w ++ ([93] ++ [32] ++ b.text) := by simp only [Xp.text, ha, cond_true, cond_false, List.append_assoc, List.cons_append, List.nil_append]
      rw [e]
      exact fin_par (fun ρ K => h3 ins hi _ ρ K) _ (by simp; omega) ρ K

end Go.Proofs.YtanfoijdfcnpoaaGreatDoor.Ev
