/- This file proves what both functions Free answer; without any condition. -/
import Derived.Test.YtanfoijdfcnpoaaGreatDoorR4
import Derived.Test.YtanfoijdfcnpoaaGreatDoorR8
import Derived.Test.YtanfoijdfcnpoaaGreatDoorR1
set_option linter.unusedVariables false
set_option linter.unusedSimpArgs false
namespace Go.Proofs.YtanfoijdfcnpoaaGreatDoor.Ev

def hasB (l : List ByteArray) (x : ByteArray) : Bool := l.any (strEq x)

theorem strEq_comm (a b : ByteArray) : strEq a b = strEq b a := by
  rw [Bool.eq_iff_iff, strEq_iff, strEq_iff]; exact ⟨Eq.symm, Eq.symm⟩

/-- The names that no binder binds, behind those that are there. -/
def Xp.free : Xp → List ByteArray → List ByteArray → List ByteArray
  | .ty, _, out => out
  | .hole, _, out => out
  | .nm w, bd, out => bif hasB bd (mk w) then out else bif hasB out (mk w) then out else out ++ [mk w]
  | .app a b, bd, out => b.free bd (a.free bd out)
  | .arr a b, bd, out => b.free bd (a.free bd out)
  | .bnd _ w a b, bd, out => b.free (bd ++ [mk w]) (a.free bd out)

theorem free_len : ∀ (e : Xp) (bd out : List ByteArray), (e.free bd out).length ≤ out.length + e.sz
  | .ty, bd, out => by simp [Xp.free]
  | .hole, bd, out => by simp [Xp.free]
  | .nm w, bd, out => by
    simp only [Xp.free, Xp.sz]
    cases hasB bd (mk w) <;> cases hasB out (mk w) <;> simp
  | .app a b, bd, out => by
    have h1 := free_len a bd out
    have h2 := free_len b bd (a.free bd out)
    simp only [Xp.free, Xp.sz]; omega
  | .arr a b, bd, out => by
    have h1 := free_len a bd out
    have h2 := free_len b bd (a.free bd out)
    simp only [Xp.free, Xp.sz]; omega
  | .bnd l w a b, bd, out => by
    have h1 := free_len a bd out
    have h2 := free_len b (bd ++ [mk w]) (a.free bd out)
    simp only [Xp.free, Xp.sz]; omega

theorem sz_pos (e : Xp) : 1 ≤ e.sz := by cases e <;> simp only [Xp.sz] <;> omega

theorem s_binds : Evt fun k => ∀ (t : Rw) (ρ : Type) K, (Tabs k).c79_0 ρ t K = K (t.op == 5 || t.op == 7) := Evt.step0 fun k t ρ K => by
  rw [show (Tabs (k + 1)).c79_0 = Gc79_0 (Tabs k) from rfl]
  simp only [Gc79_0]
  cases t.op == 5 <;> rfl

theorem s_clone : Evt fun k => ∀ (l : List ByteArray), l.length ≤ 1000000 → ∀ (ρ : Type) K, (Tabs k).c80_0 ρ l K = K l := Evt.step0 fun k l hl ρ K => by
  rw [show (Tabs (k + 1)).c80_0 = Gc80_0 (Tabs k) from rfl]
  have : decide (l.length * 16 ≤ 140737488355328) = true := by simp only [decide_eq_true_eq]; omega
  show toldClone l K = K l
  simp only [toldClone, this, cond_true]

/-! ### The program -/

section
variable {bd : List ByteArray} {x y : Rw}

theorem loop_none : Evt fun k => ∀ (out : List ByteArray) (ρ : Type) K, (Tabs k).l48_8_0 ρ bd out [] 0 0 K = K out := Evt.step0 fun k out ρ K => by
  rw [show (Tabs (k + 1)).l48_8_0 = Gl48_8_0 (Tabs k) from rfl]
  have e : decide ((0 : Int) < 0) = false := rfl
  simp only [Gl48_8_0, e, cond_false]

theorem loop_two {o1 o2 out : List ByteArray} (ha : Evt fun k => ∀ (ρ : Type) K, (Tabs k).c48_1 ρ x bd out K = K o1) (hb : Evt fun k => ∀ (ρ : Type) K, (Tabs k).c48_1 ρ y bd o1 K = K o2) :
    Evt fun k => ∀ (ρ : Type) K, (Tabs k).l48_8_0 ρ bd out [x, y] 2 0 K = K o2 := by
  have h2 : Evt fun k => ∀ (ρ : Type) K, (Tabs k).l48_8_0 ρ bd o2 [x, y] 2 2 K = K o2 := Evt.step0 fun k ρ K => by
    rw [show (Tabs (k + 1)).l48_8_0 = Gl48_8_0 (Tabs k) from rfl]
    have e : decide ((2 : Int) < 2) = false := rfl
    simp only [Gl48_8_0, e, cond_false]
  have h1 : Evt fun k => ∀ (ρ : Type) K, (Tabs k).l48_8_0 ρ bd o1 [x, y] 2 1 K = K o2 := (hb.and h2).step fun k ⟨hb, h2⟩ ρ K => by
    rw [show (Tabs (k + 1)).l48_8_0 = Gl48_8_0 (Tabs k) from rfl]
    unfold Gl48_8_0
    have e : decide ((1 : Int) < 2) = true := rfl
    have e2 : (decide ((0 : Int) ≤ 1) && decide ((1 : Int) < ((List.length [x, y] : Nat) : Int))) = true := rfl
    have e3 : IntKind.wrap .i64 ((1 : Int) + 1) = 2 := rfl
    simp only [e, e2, cond_true, rdRw1, Rw.eta, hb, e3, h2]
  exact (ha.and h1).step fun k ⟨ha, h1⟩ ρ K => by
    rw [show (Tabs (k + 1)).l48_8_0 = Gl48_8_0 (Tabs k) from rfl]
    unfold Gl48_8_0
    have e : decide ((0 : Int) < 2) = true := rfl
    have e2 : (decide ((0 : Int) ≤ 0) && decide ((0 : Int) < ((List.length [x, y] : Nat) : Int))) = true := rfl
    have e3 : IntKind.wrap .i64 ((0 : Int) + 1) = 1 := rfl
    simp only [e, e2, cond_true, rdRw0, Rw.eta, ha, e3, h1]
end

theorem app16 {l m : List ByteArray} (h : l.length + m.length ≤ 1000000) : decide ((l.length + m.length) * 16 ≤ 140737488355328) = true := by
  simp only [decide_eq_true_eq]; omega

/-- What the program's free answers, whatever the kinds of its slices. -/
def FreeOk (e : Xp) (bd out : List ByteArray) (k : Nat) : Prop :=
  (∀ (ρ : Type) K, (Tabs k).c48_0 ρ e.rw bd out K = K (e.free bd out)) ∧ (∀ (ρ : Type) K, (Tabs k).c48_1 ρ e.rw bd out K = K (e.free bd out)) ∧ (∀ (ρ : Type) K, (Tabs k).c48_2 ρ e.rw bd out K = K (e.free bd out)) ∧ (∀ (ρ : Type) K, (Tabs k).c48_3 ρ e.rw bd out K = K (e.free bd out))

theorem s_free (e : Xp) : ∀ (bd out : List ByteArray), bd.length + e.sz ≤ 900 → out.length + e.sz ≤ 900 → Evt (FreeOk e bd out) := by
  induction e with
  | ty =>
    intro bd out _ _
    refine ((loop_none (bd := bd)).and s_binds).step fun k ⟨h1, h2⟩ => ?_
    refine ⟨fun ρ K => ?_, fun ρ K => ?_, fun ρ K => ?_, fun ρ K => ?_⟩
    · rw [show (Tabs (k + 1)).c48_0 = Gc48_0 (Tabs k) from rfl]
      show Gc48_0 (Tabs k) ρ (⟨1, tNo, []⟩ : Rw) bd out K = K out
      simp only [Gc48_0, Int.reduceBEq, cond_false, h2, Bool.or_self, List.length_nil, Int.natCast_zero, Int.ofNat_eq_natCast, h1]
    · rw [show (Tabs (k + 1)).c48_1 = Gc48_1 (Tabs k) from rfl]
      show Gc48_1 (Tabs k) ρ (⟨1, tNo, []⟩ : Rw) bd out K = K out
      simp only [Gc48_1, Int.reduceBEq, cond_false, h2, Bool.or_self, List.length_nil, Int.natCast_zero, Int.ofNat_eq_natCast, h1]
    · rw [show (Tabs (k + 1)).c48_2 = Gc48_2 (Tabs k) from rfl]
      show Gc48_2 (Tabs k) ρ (⟨1, tNo, []⟩ : Rw) bd out K = K out
      simp only [Gc48_2, Int.reduceBEq, cond_false, h2, Bool.or_self, List.length_nil, Int.natCast_zero, Int.ofNat_eq_natCast, h1]
    · rw [show (Tabs (k + 1)).c48_3 = Gc48_3 (Tabs k) from rfl]
      show Gc48_3 (Tabs k) ρ (⟨1, tNo, []⟩ : Rw) bd out K = K out
      simp only [Gc48_3, Int.reduceBEq, cond_false, h2, Bool.or_self, List.length_nil, Int.natCast_zero, Int.ofNat_eq_natCast, h1]
  | hole =>
    intro bd out _ _
    refine ((loop_none (bd := bd)).and s_binds).step fun k ⟨h1, h2⟩ => ?_
    refine ⟨fun ρ K => ?_, fun ρ K => ?_, fun ρ K => ?_, fun ρ K => ?_⟩
    · rw [show (Tabs (k + 1)).c48_0 = Gc48_0 (Tabs k) from rfl]
      show Gc48_0 (Tabs k) ρ (⟨3, tNo, []⟩ : Rw) bd out K = K out
      simp only [Gc48_0, Int.reduceBEq, cond_false, h2, Bool.or_self, List.length_nil, Int.natCast_zero, Int.ofNat_eq_natCast, h1]
    · rw [show (Tabs (k + 1)).c48_1 = Gc48_1 (Tabs k) from rfl]
      show Gc48_1 (Tabs k) ρ (⟨3, tNo, []⟩ : Rw) bd out K = K out
      simp only [Gc48_1, Int.reduceBEq, cond_false, h2, Bool.or_self, List.length_nil, Int.natCast_zero, Int.ofNat_eq_natCast, h1]
    · rw [show (Tabs (k + 1)).c48_2 = Gc48_2 (Tabs k) from rfl]
      show Gc48_2 (Tabs k) ρ (⟨3, tNo, []⟩ : Rw) bd out K = K out
      simp only [Gc48_2, Int.reduceBEq, cond_false, h2, Bool.or_self, List.length_nil, Int.natCast_zero, Int.ofNat_eq_natCast, h1]
    · rw [show (Tabs (k + 1)).c48_3 = Gc48_3 (Tabs k) from rfl]
      show Gc48_3 (Tabs k) ρ (⟨3, tNo, []⟩ : Rw) bd out K = K out
      simp only [Gc48_3, Int.reduceBEq, cond_false, h2, Bool.or_self, List.length_nil, Int.natCast_zero, Int.ofNat_eq_natCast, h1]
  | nm w =>
    intro bd out hb ho
    simp only [Xp.sz] at hb ho
    refine ((loop_none (bd := bd)).and ((s_contains bd (by omega)).and (s_contains out (by omega)))).step fun k ⟨h1, h2, h3⟩ => ?_
    have e0 := app16 (l := out) (m := [mk w]) (by simp; omega)
    refine ⟨fun ρ K => ?_, fun ρ K => ?_, fun ρ K => ?_, fun ρ K => ?_⟩
    · rw [show (Tabs (k + 1)).c48_0 = Gc48_0 (Tabs k) from rfl]
      show Gc48_0 (Tabs k) ρ (⟨2, mk w, []⟩ : Rw) bd out K = _
      simp only [Gc48_0, Int.reduceBEq, cond_true, h2, h3, List.length_nil, Int.natCast_zero, Int.ofNat_eq_natCast, e0, h1, Xp.free, hasB]
      cases bd.any (strEq (mk w)) <;> cases out.any (strEq (mk w)) <;> rfl
    · rw [show (Tabs (k + 1)).c48_1 = Gc48_1 (Tabs k) from rfl]
      show Gc48_1 (Tabs k) ρ (⟨2, mk w, []⟩ : Rw) bd out K = _
      simp only [Gc48_1, Int.reduceBEq, cond_true, h2, h3, List.length_nil, Int.natCast_zero, Int.ofNat_eq_natCast, e0, h1, Xp.free, hasB]
      cases bd.any (strEq (mk w)) <;> cases out.any (strEq (mk w)) <;> rfl
    · rw [show (Tabs (k + 1)).c48_2 = Gc48_2 (Tabs k) from rfl]
      show Gc48_2 (Tabs k) ρ (⟨2, mk w, []⟩ : Rw) bd out K = _
      simp only [Gc48_2, Int.reduceBEq, cond_true, h2, h3, List.length_nil, Int.natCast_zero, Int.ofNat_eq_natCast, e0, h1, Xp.free, hasB]
      cases bd.any (strEq (mk w)) <;> cases out.any (strEq (mk w)) <;> rfl
    · rw [show (Tabs (k + 1)).c48_3 = Gc48_3 (Tabs k) from rfl]
      show Gc48_3 (Tabs k) ρ (⟨2, mk w, []⟩ : Rw) bd out K = _
      simp only [Gc48_3, Int.reduceBEq, cond_true, h2, h3, List.length_nil, Int.natCast_zero, Int.ofNat_eq_natCast, e0, h1, Xp.free, hasB]
      cases bd.any (strEq (mk w)) <;> cases out.any (strEq (mk w)) <;> rfl
  | app a b iha ihb =>
    intro bd out hb ho
    simp only [Xp.sz] at hb ho
    have hl := free_len a bd out
    have h0 := loop_two (x := a.rw) (y := b.rw) ((iha bd out (by omega) (by omega)).mono fun k h => h.2.1) ((ihb bd (a.free bd out) (by omega) (by omega)).mono fun k h => h.2.1)
    refine (h0.and s_binds).step fun k ⟨h1, h2⟩ => ?_
    have el : (((List.length [a.rw, b.rw] : Nat)) : Int) = 2 := rfl
    refine ⟨fun ρ K => ?_, fun ρ K => ?_, fun ρ K => ?_, fun ρ K => ?_⟩
    · rw [show (Tabs (k + 1)).c48_0 = Gc48_0 (Tabs k) from rfl]
      show Gc48_0 (Tabs k) ρ (⟨4, tNo, [a.rw, b.rw]⟩ : Rw) bd out K = _
      simp only [Gc48_0, Int.reduceBEq, cond_false, h2, Bool.or_self, el, h1, Xp.free]
    · rw [show (Tabs (k + 1)).c48_1 = Gc48_1 (Tabs k) from rfl]
      show Gc48_1 (Tabs k) ρ (⟨4, tNo, [a.rw, b.rw]⟩ : Rw) bd out K = _
      simp only [Gc48_1, Int.reduceBEq, cond_false, h2, Bool.or_self, el, h1, Xp.free]
    · rw [show (Tabs (k + 1)).c48_2 = Gc48_2 (Tabs k) from rfl]
      show Gc48_2 (Tabs k) ρ (⟨4, tNo, [a.rw, b.rw]⟩ : Rw) bd out K = _
      simp only [Gc48_2, Int.reduceBEq, cond_false, h2, Bool.or_self, el, h1, Xp.free]
    · rw [show (Tabs (k + 1)).c48_3 = Gc48_3 (Tabs k) from rfl]
      show Gc48_3 (Tabs k) ρ (⟨4, tNo, [a.rw, b.rw]⟩ : Rw) bd out K = _
      simp only [Gc48_3, Int.reduceBEq, cond_false, h2, Bool.or_self, el, h1, Xp.free]
  | arr a b iha ihb =>
    intro bd out hb ho
    simp only [Xp.sz] at hb ho
    have hl := free_len a bd out
    have h0 := loop_two (x := a.rw) (y := b.rw) ((iha bd out (by omega) (by omega)).mono fun k h => h.2.1) ((ihb bd (a.free bd out) (by omega) (by omega)).mono fun k h => h.2.1)
    refine (h0.and s_binds).step fun k ⟨h1, h2⟩ => ?_
    have el : (((List.length [a.rw, b.rw] : Nat)) : Int) = 2 := rfl
    refine ⟨fun ρ K => ?_, fun ρ K => ?_, fun ρ K => ?_, fun ρ K => ?_⟩
    · rw [show (Tabs (k + 1)).c48_0 = Gc48_0 (Tabs k) from rfl]
      show Gc48_0 (Tabs k) ρ (⟨6, tNo, [a.rw, b.rw]⟩ : Rw) bd out K = _
      simp only [Gc48_0, Int.reduceBEq, cond_false, h2, Bool.or_self, el, h1, Xp.free]
    · rw [show (Tabs (k + 1)).c48_1 = Gc48_1 (Tabs k) from rfl]
      show Gc48_1 (Tabs k) ρ (⟨6, tNo, [a.rw, b.rw]⟩ : Rw) bd out K = _
      simp only [Gc48_1, Int.reduceBEq, cond_false, h2, Bool.or_self, el, h1, Xp.free]
    · rw [show (Tabs (k + 1)).c48_2 = Gc48_2 (Tabs k) from rfl]
      show Gc48_2 (Tabs k) ρ (⟨6, tNo, [a.rw, b.rw]⟩ : Rw) bd out K = _
      simp only [Gc48_2, Int.reduceBEq, cond_false, h2, Bool.or_self, el, h1, Xp.free]
    · rw [show (Tabs (k + 1)).c48_3 = Gc48_3 (Tabs k) from rfl]
      show Gc48_3 (Tabs k) ρ (⟨6, tNo, [a.rw, b.rw]⟩ : Rw) bd out K = _
      simp only [Gc48_3, Int.reduceBEq, cond_false, h2, Bool.or_self, el, h1, Xp.free]
  | bnd l w a b iha ihb =>
    intro bd out hb ho
    simp only [Xp.sz] at hb ho
    have hl := free_len a bd out
    refine ((iha bd out (by omega) (by omega)).and ((ihb (bd ++ [mk w]) (a.free bd out) (by simp only [List.length_append, List.length_cons, List.length_nil]; omega) (by omega)).and (s_clone.and s_binds))).step fun k ⟨⟨a0, a1, a2, a3⟩, ⟨b0, b1, b2, b3⟩, hc, h2⟩ => ?_
    have e0 := app16 (l := bd) (m := [mk w]) (by simp; omega)
    have hc' := hc bd (by omega)
    have q1 : ((bif l then (7 : Int) else 5) == 2) = false := by cases l <;> rfl
    have q2 : ((bif l then (7 : Int) else 5) == 5 || (bif l then (7 : Int) else 5) == 7) = true := by cases l <;> rfl
    have i0 : (decide ((0 : Int) ≤ 0) && decide ((0 : Int) < ((List.length [a.rw, b.rw] : Nat) : Int))) = true := rfl
    have i1 : (decide ((0 : Int) ≤ 1) && decide ((1 : Int) < ((List.length [a.rw, b.rw] : Nat) : Int))) = true := rfl
    refine ⟨fun ρ K => ?_, fun ρ K => ?_, fun ρ K => ?_, fun ρ K => ?_⟩
    · rw [show (Tabs (k + 1)).c48_0 = Gc48_0 (Tabs k) from rfl]
      show Gc48_0 (Tabs k) ρ (⟨bif l then 7 else 5, mk w, [a.rw, b.rw]⟩ : Rw) bd out K = _
      unfold Gc48_0
      dsimp only
      simp only [q1, cond_false, h2, q2, cond_true, i0, i1, rdRw0, rdRw1, Rw.eta, a0, hc', e0, b2, Xp.free]
    · rw [show (Tabs (k + 1)).c48_1 = Gc48_1 (Tabs k) from rfl]
      show Gc48_1 (Tabs k) ρ (⟨bif l then 7 else 5, mk w, [a.rw, b.rw]⟩ : Rw) bd out K = _
      unfold Gc48_1
      dsimp only
      simp only [q1, cond_false, h2, q2, cond_true, i0, i1, rdRw0, rdRw1, Rw.eta, a1, hc', e0, b2, Xp.free]
    · rw [show (Tabs (k + 1)).c48_2 = Gc48_2 (Tabs k) from rfl]
      show Gc48_2 (Tabs k) ρ (⟨bif l then 7 else 5, mk w, [a.rw, b.rw]⟩ : Rw) bd out K = _
      unfold Gc48_2
      dsimp only
      simp only [q1, cond_false, h2, q2, cond_true, i0, i1, rdRw0, rdRw1, Rw.eta, a1, hc', e0, b2, Xp.free]
    · rw [show (Tabs (k + 1)).c48_3 = Gc48_3 (Tabs k) from rfl]
      show Gc48_3 (Tabs k) ρ (⟨bif l then 7 else 5, mk w, [a.rw, b.rw]⟩ : Rw) bd out K = _
      unfold Gc48_3
      dsimp only
      simp only [q1, cond_false, h2, q2, cond_true, i0, i1, rdRw0, rdRw1, Rw.eta, a3, hc', e0, b2, Xp.free]

/-! ### The reference -/

theorem has_loop (x : ByteArray) (l : List ByteArray) (hl : l.length ≤ 100000) : ∀ (r pre : List ByteArray), l = pre ++ r →
    Evt fun k => ∀ (ρ : Type) k0 k1, (Tabs k).l84_2_0 ρ x l (l.length : Int) (pre.length : Int) k0 k1 = bif r.any (strEq x) then k0 true else k1
  | [], pre, ha => Evt.step0 fun k ρ k0 k1 => by
    rw [show (Tabs (k + 1)).l84_2_0 = Gl84_2_0 (Tabs k) from rfl]
    have e : decide ((pre.length : Int) < ((l).length : Int)) = false := by simp [ha]
    simp only [Gl84_2_0, e, cond_false, List.any_nil]
  | y :: r, pre, ha => (has_loop x l hl r (pre ++ [y]) (by simp [ha])).step fun k ih ρ k0 k1 => by
    rw [show (Tabs (k + 1)).l84_2_0 = Gl84_2_0 (Tabs k) from rfl]
    have hlen : pre.length < l.length := by simp [ha]
    have e1 : decide ((pre.length : Int) < ((l).length : Int)) = true := by simp; omega
    have e2 : decide ((0 : Int) ≤ (pre.length : Int)) = true := by simp
    have e4 : IntKind.wrap .i64 ((pre.length : Int) + 1) = ((pre ++ [y]).length : Int) := by
      rw [W_id (by omega) (by omega)]; simp
    have e6 : rdEl lay Key.str l (pre.length : Int) = y := by rw [ha]; exact rdStr ..
    simp only [Gl84_2_0, e1, e2, Bool.and_self, cond_true, e6, e4, ih, strEq_comm y x, List.any_cons]
    cases strEq x y <;> simp

theorem s_has (x : ByteArray) (l : List ByteArray) (hl : l.length ≤ 100000) : Evt fun k => ∀ (ρ : Type) K, (Tabs k).c84_0 ρ l x K = K (hasB l x) := (has_loop x l hl l [] rfl).step fun k ih ρ K => by
  rw [show (Tabs (k + 1)).c84_0 = Gc84_0 (Tabs k) from rfl]
  have ih' := ih ρ
  simp only [List.length_nil, Int.natCast_zero] at ih'
  simp only [Gc84_0, ih', hasB]
  cases l.any (strEq x) <;> rfl

section
variable {bd : List ByteArray} {t x y : Rw}

theorem rloop_none (ht : t.args = []) : Evt fun k => ∀ (out : List ByteArray) (ρ : Type) K, (Tabs k).l128_14_0 ρ bd out 0 t K = K out := Evt.step0 fun k out ρ K => by
  rw [show (Tabs (k + 1)).l128_14_0 = Gl128_14_0 (Tabs k) from rfl]
  have e : decide ((0 : Int) < ((t.args.length : Nat) : Int)) = false := by rw [ht]; rfl
  simp only [Gl128_14_0, e, cond_false]

theorem rloop_two {o1 o2 out : List ByteArray} (ht : t.args = [x, y]) (ha : Evt fun k => ∀ (ρ : Type) K, (Tabs k).c128_1 ρ x bd out K = K o1) (hb : Evt fun k => ∀ (ρ : Type) K, (Tabs k).c128_1 ρ y bd o1 K = K o2) :
    Evt fun k => ∀ (ρ : Type) K, (Tabs k).l128_14_0 ρ bd out 0 t K = K o2 := by
  have h2 : Evt fun k => ∀ (ρ : Type) K, (Tabs k).l128_14_0 ρ bd o2 2 t K = K o2 := Evt.step0 fun k ρ K => by
    rw [show (Tabs (k + 1)).l128_14_0 = Gl128_14_0 (Tabs k) from rfl]
    have e : decide ((2 : Int) < ((t.args.length : Nat) : Int)) = false := by rw [ht]; rfl
    simp only [Gl128_14_0, e, cond_false]
  have h1 : Evt fun k => ∀ (ρ : Type) K, (Tabs k).l128_14_0 ρ bd o1 1 t K = K o2 := (hb.and h2).step fun k ⟨hb, h2⟩ ρ K => by
    rw [show (Tabs (k + 1)).l128_14_0 = Gl128_14_0 (Tabs k) from rfl]
    have e : decide ((1 : Int) < ((t.args.length : Nat) : Int)) = true := by rw [ht]; rfl
    have e2 : decide ((0 : Int) ≤ 1) = true := rfl
    have e3 : IntKind.wrap .i64 ((1 : Int) + 1) = 2 := rfl
    have e4 : rdEl lay Key.raw t.args 1 = y := by rw [ht]; exact rdRw1 x y []
    simp only [Gl128_14_0, e, e2, Bool.and_self, cond_true, e4, Rw.eta, hb, e3, h2]
  exact (ha.and h1).step fun k ⟨ha, h1⟩ ρ K => by
    rw [show (Tabs (k + 1)).l128_14_0 = Gl128_14_0 (Tabs k) from rfl]
    have e : decide ((0 : Int) < ((t.args.length : Nat) : Int)) = true := by rw [ht]; rfl
    have e2 : decide ((0 : Int) ≤ 0) = true := rfl
    have e3 : IntKind.wrap .i64 ((0 : Int) + 1) = 1 := rfl
    have e4 : rdEl lay Key.raw t.args 0 = x := by rw [ht]; exact rdRw0 x [y]
    simp only [Gl128_14_0, e, e2, Bool.and_self, cond_true, e4, Rw.eta, ha, e3, h1]
end

def RFreeOk (e : Xp) (bd out : List ByteArray) (k : Nat) : Prop :=
  (∀ (ρ : Type) (k0 k1 : List ByteArray → Option ρ) (v : Option ρ), k0 (e.free bd out) = v → k1 (e.free bd out) = v → (Tabs k).c128_0 ρ e.rw bd out k0 k1 = v) ∧ (∀ (ρ : Type) K, (Tabs k).c128_1 ρ e.rw bd out K = K (e.free bd out)) ∧
  (∀ (ρ : Type) (k0 k1 : List ByteArray → Option ρ) (v : Option ρ), k0 (e.free bd out) = v → k1 (e.free bd out) = v → (Tabs k).c128_2 ρ e.rw bd out k0 k1 = v)

theorem s_rfree (e : Xp) : ∀ (bd out : List ByteArray), bd.length + e.sz ≤ 900 → out.length + e.sz ≤ 900 → Evt (RFreeOk e bd out) := by
  -- what stands in the loop
  have plain : ∀ (e : Xp) (bd out : List ByteArray), (e.rw.op == 2) = false → (e.rw.op == 5) = false → (e.rw.op == 7) = false → (Evt fun k => ∀ (ρ : Type) K, (Tabs k).l128_14_0 ρ bd out 0 e.rw K = K (e.free bd out)) → Evt (RFreeOk e bd out) := by
    intro e bd out q2 q5 q7 h
    refine h.step fun k h1 => ⟨fun ρ k0 k1 v e0 e1 => ?_, fun ρ K => ?_, fun ρ k0 k1 v e0 e1 => ?_⟩
    · rw [show (Tabs (k + 1)).c128_0 = Gc128_0 (Tabs k) from rfl]
      simp only [Gc128_0, q2, q5, q7, cond_false, Rw.eta, h1]
      exact e0
    · rw [show (Tabs (k + 1)).c128_1 = Gc128_1 (Tabs k) from rfl]
      simp only [Gc128_1, q2, q5, q7, cond_false, Rw.eta, h1]
    · rw [show (Tabs (k + 1)).c128_2 = Gc128_2 (Tabs k) from rfl]
      simp only [Gc128_2, q2, q5, q7, cond_false, Rw.eta, h1]
      exact e0
  induction e with
  | ty => intro bd out _ _; exact plain .ty bd out rfl rfl rfl ((rloop_none rfl).mono fun k h => h out)
  | hole => intro bd out _ _; exact plain .hole bd out rfl rfl rfl ((rloop_none rfl).mono fun k h => h out)
  | nm w =>
    intro bd out hb ho
    simp only [Xp.sz] at hb ho
    refine ((s_has (mk w) bd (by omega)).and (s_has (mk w) out (by omega))).step fun k ⟨h2, h3⟩ => ?_
    have e0 := app16 (l := out) (m := [mk w]) (by simp; omega)
    refine ⟨fun ρ k0 k1 v q0 q1 => ?_, fun ρ K => ?_, fun ρ k0 k1 v q0 q1 => ?_⟩
    · rw [show (Tabs (k + 1)).c128_0 = Gc128_0 (Tabs k) from rfl]
      show Gc128_0 (Tabs k) ρ (⟨2, mk w, []⟩ : Rw) bd out k0 k1 = _
      simp only [Gc128_0, Int.reduceBEq, cond_true, h2, h3, e0]
      cases hb1 : hasB bd (mk w) <;> cases hb2 : hasB out (mk w) <;> simp only [Xp.free, hb1, hb2, cond_true, cond_false, Bool.not_true, Bool.not_false] at q0 q1 ⊢ <;> first | exact q1 | exact q0
    · rw [show (Tabs (k + 1)).c128_1 = Gc128_1 (Tabs k) from rfl]
      show Gc128_1 (Tabs k) ρ (⟨2, mk w, []⟩ : Rw) bd out K = _
      simp only [Gc128_1, Int.reduceBEq, cond_true, h2, h3, e0, Xp.free]
      cases hasB bd (mk w) <;> cases hasB out (mk w) <;> rfl
    · rw [show (Tabs (k + 1)).c128_2 = Gc128_2 (Tabs k) from rfl]
      show Gc128_2 (Tabs k) ρ (⟨2, mk w, []⟩ : Rw) bd out k0 k1 = _
      simp only [Gc128_2, Int.reduceBEq, cond_true, h2, h3, e0]
      cases hb1 : hasB bd (mk w) <;> cases hb2 : hasB out (mk w) <;> simp only [Xp.free, hb1, hb2, cond_true, cond_false, Bool.not_true, Bool.not_false] at q0 q1 ⊢ <;> first | exact q1 | exact q0
  | app a b iha ihb =>
    intro bd out hb ho
    simp only [Xp.sz] at hb ho
    have hl := free_len a bd out
    exact plain (.app a b) bd out rfl rfl rfl (rloop_two (x := a.rw) (y := b.rw) rfl ((iha bd out (by omega) (by omega)).mono fun k h => h.2.1) ((ihb bd (a.free bd out) (by omega) (by omega)).mono fun k h => h.2.1))
  | arr a b iha ihb =>
    intro bd out hb ho
    simp only [Xp.sz] at hb ho
    have hl := free_len a bd out
    exact plain (.arr a b) bd out rfl rfl rfl (rloop_two (x := a.rw) (y := b.rw) rfl ((iha bd out (by omega) (by omega)).mono fun k h => h.2.1) ((ihb bd (a.free bd out) (by omega) (by omega)).mono fun k h => h.2.1))
  | bnd l w a b iha ihb =>
    intro bd out hb ho
    simp only [Xp.sz] at hb ho
    have hl := free_len a bd out
    refine ((iha bd out (by omega) (by omega)).and (ihb (bd ++ [mk w]) (a.free bd out) (by simp only [List.length_append, List.length_cons, List.length_nil]; omega) (by omega))).step fun k ⟨⟨a0, a1, a2⟩, b0, b1, b2⟩ => ?_
    have e0 : decide ((List.length (([] : List ByteArray) ++ bd) + List.length [mk w]) * 16 ≤ 140737488355328) = true := app16 (by simp; omega)
    have e1 : decide ((List.length ([] : List ByteArray) + bd.length) * 16 ≤ 140737488355328) = true := app16 (by simp; omega)
    have i0 : (decide ((0 : Int) ≤ 0) && decide ((0 : Int) < ((List.length [a.rw, b.rw] : Nat) : Int))) = true := rfl
    have i1 : (decide ((0 : Int) ≤ 1) && decide ((1 : Int) < ((List.length [a.rw, b.rw] : Nat) : Int))) = true := rfl
    refine ⟨fun ρ k0 k1 v q0 q1 => ?_, fun ρ K => ?_, fun ρ k0 k1 v q0 q1 => ?_⟩
    · rw [show (Tabs (k + 1)).c128_0 = Gc128_0 (Tabs k) from rfl]
      cases l
      · show Gc128_0 (Tabs k) ρ (⟨5, mk w, [a.rw, b.rw]⟩ : Rw) bd out k0 k1 = _
        unfold Gc128_0
        dsimp only
        simp only [Int.reduceBEq, cond_false, cond_true, i0, i1, rdRw0, rdRw1, Rw.eta, e0, e1]
        exact a0 ρ _ _ v ((b1 ρ k0).trans q0) (b2 ρ k0 k1 v q0 q1)
      · show Gc128_0 (Tabs k) ρ (⟨7, mk w, [a.rw, b.rw]⟩ : Rw) bd out k0 k1 = _
        unfold Gc128_0
        dsimp only
        simp only [Int.reduceBEq, cond_false, cond_true, i0, i1, rdRw0, rdRw1, Rw.eta, e0, e1]
        exact a0 ρ _ _ v ((b1 ρ k0).trans q0) (b2 ρ k0 k1 v q0 q1)
    · rw [show (Tabs (k + 1)).c128_1 = Gc128_1 (Tabs k) from rfl]
      cases l
      · show Gc128_1 (Tabs k) ρ (⟨5, mk w, [a.rw, b.rw]⟩ : Rw) bd out K = _
        unfold Gc128_1
        dsimp only
        simp only [Int.reduceBEq, cond_false, cond_true, i0, i1, rdRw0, rdRw1, Rw.eta, e0, e1]
        exact (a1 ρ _).trans (b1 ρ K)
      · show Gc128_1 (Tabs k) ρ (⟨7, mk w, [a.rw, b.rw]⟩ : Rw) bd out K = _
        unfold Gc128_1
        dsimp only
        simp only [Int.reduceBEq, cond_false, cond_true, i0, i1, rdRw0, rdRw1, Rw.eta, e0, e1]
        exact (a1 ρ _).trans (b1 ρ K)
    · rw [show (Tabs (k + 1)).c128_2 = Gc128_2 (Tabs k) from rfl]
      cases l
      · show Gc128_2 (Tabs k) ρ (⟨5, mk w, [a.rw, b.rw]⟩ : Rw) bd out k0 k1 = _
        unfold Gc128_2
        dsimp only
        simp only [Int.reduceBEq, cond_false, cond_true, i0, i1, rdRw0, rdRw1, Rw.eta, e0, e1]
        exact a2 ρ _ _ v ((b1 ρ k0).trans q0) (b2 ρ k0 k1 v q0 q1)
      · show Gc128_2 (Tabs k) ρ (⟨7, mk w, [a.rw, b.rw]⟩ : Rw) bd out k0 k1 = _
        unfold Gc128_2
        dsimp only
        simp only [Int.reduceBEq, cond_false, cond_true, i0, i1, rdRw0, rdRw1, Rw.eta, e0, e1]
        exact a2 ρ _ _ v ((b1 ρ k0).trans q0) (b2 ρ k0 k1 v q0 q1)

/-! ### The law -/

theorem well_xp {t : Rw} (h : wellB t = true) : ∃ e : Xp, e.rw = t ∧ e.Nm ∧ e.sz ≤ 400 := by
  simp only [wellB, Bool.and_eq_true, decide_eq_true_eq] at h
  obtain ⟨e, h1, h2⟩ := form_ex t 1 h.2
  exact ⟨e, h1, h2, by rw [← sz_rw e, h1]; exact h.1⟩

end Go.Proofs.YtanfoijdfcnpoaaGreatDoor.Ev
