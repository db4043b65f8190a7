/- This file proves that SubstSteps returns true for every input; without any condition. -/
import Derived.Test.YtcgbfghdcjmaeaaP10
import Derived.Test.YtcgbfghdcjmaeaaA4
import Derived.Test.YtcgbfghdcjmaeaaRows
set_option linter.unusedVariables false
set_option linter.unusedSimpArgs false
namespace Go.Proofs.Ytcgbfghdcjmaeaa.Ev
open Go.Proofs Go.ChangeShapes Go.WideShapes Go.ChangeAt Go.RowKit

theorem s13l (s : Sm) (t : Tm) : ∀ (post pre l : List Tm) (i : Int), l = pre ++ post → i = (pre.length : Int) → l.length ≤ 600 →
    Evt fun k => ∀ ρ K0 K1, (Tabs k).l13_4_0 ρ l (l.length : Int) i t s K0 K1 = cond (post.all prB) (K0 l t s) (K1 true) := by
  intro post
  induction post with
  | nil =>
    intro pre l i hl hi _
    refine Evt.step0 fun k ρ K0 K1 => ?_
    rw [show (Tabs (k + 1)).l13_4_0 = Gl13_4_0 (Tabs k) from rfl]
    simp only [Gl13_4_0, endL hl hi, cond_false, Tm.eta, Sm.eta, List.all_nil, cond_true]
  | cons x r ih =>
    intro pre l i hl hi hlen
    obtain ⟨m1, m2, m3⟩ := midTm hl hi
    have hlen2 := lenL hl hi
    refine ((s18 x).and (awake_ok.and (ih (pre ++ [x]) l (i + 1) (nextL hl) (nextI hi) hlen))).step fun k hk ρ K0 K1 => ?_
    rw [show (Tabs (k + 1)).l13_4_0 = Gl13_4_0 (Tabs k) from rfl]
    simp only [Gl13_4_0, m1, m2, m3, cond_true, Bool.and_true, Tm.eta, Sm.eta, hk.1, hk.2.1, W_id (show -9223372036854775808 ≤ i + 1 by omega) (by omega), hk.2.2, List.all_cons]
    cases prB x <;> rfl

/-- The steps of Instance, one by one. -/
theorem ins_steps {t x : Tm} {r : List Tm} (ht : Proper t) (hx : Proper x) (hr : ∀ y ∈ r, Proper y) (hl : r.length + 1 ≤ 600) :
    ((insR t [x]).2 ≠ 0 → (insR t (x :: r)).2 = (insR t [x]).2) ∧
    ((insR t [x]).2 = 0 → (insR (insR t [x]).1 r).2 = 0 → ((insR t (x :: r)).2 = 0 ∧ (insR t (x :: r)).1 = (insR (insR t [x]).1 r).1) ∨ (insR t (x :: r)).2 = 5) := by
  have h1 : listB [x] = true := listB_iff.2 ⟨by simp, by simpa using hx⟩
  have h2 : listB (x :: r) = true := listB_iff.2 ⟨by simp; omega, fun y hy => by
    rcases List.mem_cons.1 hy with rfl | hy
    · exact hx
    · exact hr y hy⟩
  have h3 : listB r = true := listB_iff.2 ⟨by omega, hr⟩
  have e1 : insR t [x] = ret (instL t [x] 0) := by unfold insR; rw [prB_ok ht, h1]; rfl
  have e2 : insR t (x :: r) = ret (instL t (x :: r) 0) := by unfold insR; rw [prB_ok ht, h2]; rfl
  have hf := fine_instL [x] t 0 ht (by simpa using hx) (by omega)
  have key : ∀ c, (∃ e c', instL t [x] c = (.error e, c') ∧ instL t (x :: r) c = (.error e, c')) ∨ ∃ y c1, instL t [x] c = (.ok y, c1) ∧ instL t (x :: r) c = instL y r c1 := by
    intro c
    obtain ⟨op, head, n, args⟩ := t
    by_cases ho : op = 2
    · obtain ⟨A, B, rfl⟩ := pi_args ht ho
      simp only [instL, ho, if_true]
      cases tySm A with
      | none => exact .inl ⟨_, _, rfl, rfl⟩
      | some s =>
        simp only
        cases smB s with
        | false => exact .inl ⟨_, _, rfl, rfl⟩
        | true =>
          simp only [cond_true]
          generalize put 20000 B 0 x s c = q
          rcases q with ⟨e | y, c1⟩
          · exact .inl ⟨_, _, rfl, rfl⟩
          · exact .inr ⟨_, _, rfl, rfl⟩
    · refine .inl ⟨23, c, ?_, ?_⟩
      · match args with
        | [] => simp [instL]
        | [_] => simp [instL]
        | [A, B] => rw [instL, if_neg ho]
        | _ :: _ :: _ :: _ => simp [instL]
      · match args with
        | [] => simp [instL]
        | [_] => simp [instL]
        | [A, B] => rw [instL, if_neg ho]
        | _ :: _ :: _ :: _ => simp [instL]
  rcases key 0 with ⟨e, c', k1, k2⟩ | ⟨y, c1, k1, k2⟩
  · rw [k1] at hf
    have he : e ≠ 0 := by rcases hf with h | h | h | h <;> omega
    rw [e1, e2, k1, k2]
    exact ⟨fun _ => rfl, fun h => absurd h he⟩
  · rw [k1] at hf
    rw [e1, e2, k1, k2]
    refine ⟨fun h => absurd rfl h, fun _ hg => ?_⟩
    have e3 : insR y r = ret (instL y r 0) := by unfold insR; rw [prB_ok hf.1, h3]; rfl
    simp only [ret] at hg ⊢
    rw [e3] at hg ⊢
    have hlater := later_instL (δ := c1) (by have := hf.2.1; omega) r y 0
    rw [Int.zero_add] at hlater
    have hfr := fine_instL r y 0 hf.1 hr (by omega)
    revert hg hlater hfr
    generalize instL y r 0 = q
    rcases q with ⟨e | z, d⟩
    · intro hg _ hfr
      simp only [ret] at hg
      rcases hfr with h | h | h | h <;> omega
    · intro hg hlater _
      rcases hlater z d rfl with h | ⟨d', h⟩
      · rw [h]; exact .inl ⟨rfl, rfl⟩
      · rw [h]; exact .inr rfl

/-- Many of one object is Subst. -/
theorem man_one {t x : Tm} {s : Sm} (ht : Proper t) (hx : Proper x) : manR t [x] [s] = sub t 0 x s := by
  have h1 : listB [x] = true := listB_iff.2 ⟨by simp, by simpa using hx⟩
  unfold manR sub
  rw [prB_ok ht, h1]
  cases hs : smB s with
  | false =>
    have hg : goodB [t, x] [s] [0] = false := by
      cases hb : goodB [t, x] [s] [0] with
      | false => rfl
      | true => have := smB_ok ((goodB_iff.1 hb).2.2.1 s (by simp)); rw [hs] at this; cases this
    rw [hg]; simp [hs]
  | true =>
    have hg : goodB [t, x] [s] [0] = true := goodB_iff.2 ⟨by simp, by simp [ht, hx], by simp [smB_iff.1 hs], by simp⟩
    rw [hg]
    have hm : mv (([] : List Tm).length : Int) 0 x = x := by
      exact mv_zero x 0
    simp only [List.all_cons, List.all_nil, hs, List.length_cons, List.length_nil, decide_true, Bool.and_true, cond_true, manyL]
    simp only [List.length_nil] at hm
    rw [hm, whole_ok hx]
    simp only
    generalize put 20000 t 0 x s 0 = q
    rcases q with ⟨e | y, c⟩ <;> simp [ret, manyL]

theorem steps_law (t : Tm) (l : List Tm) (s : Sm) (hl : l.length * 48 ≤ 140737488351232) : Evt fun k => ∀ ρ K, (Tabs k).c13_0 ρ t l s K = K true := by
  by_cases h0 : l.length = 0
  · refine awake_ok.step fun k hk ρ K => ?_
    rw [show (Tabs (k + 1)).c13_0 = Gc13_0 (Tabs k) from rfl]
    have e : ((l.length : Int) == 0) = true := by simp [h0]
    simp only [Gc13_0, e, cond_true, hk]
  have e0 : ((l.length : Int) == 0) = false := by rw [beq_eq_false_iff_ne]; omega
  by_cases h6 : l.length ≤ 600
  rotate_left
  · refine awake_ok.step fun k hk ρ K => ?_
    rw [show (Tabs (k + 1)).c13_0 = Gc13_0 (Tabs k) from rfl]
    have e : (l.length : Int) > 600 := by omega
    simp only [Gc13_0, e0, cond_false, e, decide_true, cond_true, hk]
  have e6 : ¬ (l.length : Int) > 600 := by omega
  by_cases ht : Proper t
  rotate_left
  · refine (awake_ok.and (s18 t)).step fun k hk ρ K => ?_
    rw [show (Tabs (k + 1)).c13_0 = Gc13_0 (Tabs k) from rfl]
    simp only [Gc13_0, e0, cond_false, e6, decide_false, Tm.eta, hk.2, prB_no ht, Bool.not_false, cond_true, hk.1]
  have g1 := s13l s t l [] l 0 rfl rfl h6
  cases hp : l.all prB with
  | false =>
    rw [hp] at g1
    refine (awake_ok.and ((s18 t).and g1)).step fun k hk ρ K => ?_
    rw [show (Tabs (k + 1)).c13_0 = Gc13_0 (Tabs k) from rfl]
    simp only [Gc13_0, e0, cond_false, e6, decide_false, Tm.eta, Sm.eta, hk.2.1, prB_ok ht, Bool.not_true, hk.2.2]
  | true =>
    rw [hp] at g1
    have hall := allP.1 hp
    cases l with
    | nil => simp at h0
    | cons x r =>
    have hx : Proper x := hall x (List.mem_cons_self ..)
    have hr : ∀ y ∈ r, Proper y := fun y hy => hall y (List.mem_cons_of_mem _ hy)
    simp only [List.length_cons] at h6 hl
    obtain ⟨st1, st2⟩ := ins_steps ht hx hr h6
    have hrd : rdEl lay Key.tm (x :: r : List Tm) (0 : Int) = x := rdTm0 x r
    have d0 : decide ((0 : Int) < ((x :: r).length : Int)) = true := decide_eq_true (by simp only [List.length_cons]; omega)
    have d1 : decide ((1 : Int) ≤ ((x :: r).length : Int)) = true := decide_eq_true (by simp only [List.length_cons]; omega)
    have d2 : decide ((List.length ([] : List Tm) + List.length (x :: r)) * 48 ≤ 140737488355328) = true := by simp only [decide_eq_true_eq, List.length_nil, List.length_cons]; omega
    have dd : List.drop (Int.toNat 1) (List.take (Int.toNat ((x :: r).length : Int)) (x :: r)) = r := by simp
    have d3 : decide ((List.length ([] : List Tm) + List.length r) * 48 ≤ 140737488355328) = true := by simp only [decide_eq_true_eq, List.length_nil]; omega
    have g2 := s37 t [x]
    have g3 := s37 t (x :: r)
    have g4 := s37 (insR t [x]).1 r
    have g5 := s26 (insR t (x :: r)).1 (insR (insR t [x]).1 r).1 (by have := insR_size t (x :: r); omega)
    have g6 := s32 t [x] [s]
    have g7 := s14' t 0 x s
    have g8 := s26 (manR t [x] [s]).1 (sub t 0 x s).1 (by rw [man_one ht hx]; have := sub_size t 0 x s; omega)
    refine ((awake_ok.and ((s18 t).and g1)).and ((g2.and (g3.and (g4.and g5))).and (g6.and (g7.and g8)))).step fun k hk ρ K => ?_
    obtain ⟨⟨k1, k2, k3⟩, ⟨k4, k5, k6, k7⟩, k8, k9, k10⟩ := hk
    have tail : ((Tabs k).c32_0 ρ t [x] [s] fun r19 r20 => (Tabs k).c14_0 ρ t 0 x s fun r21 r22 => bif r20 == r22 then (Tabs k).c26_0 ρ r19 r21 fun r23 => bif r23 then K true else K false else K false) = K true := by
      rw [k8, k9, k10, man_one ht hx, eqT_iff.2 rfl]; simp
    rw [show (Tabs (k + 1)).c13_0 = Gc13_0 (Tabs k) from rfl]
    simp only [Gc13_0, e0, cond_false, e6, decide_false, Tm.eta, Sm.eta, k2, prB_ok ht, Bool.not_true, k3, cond_true, show decide ((0 : Int) ≤ 0) = true by rfl, show decide ((0 : Int) ≤ 1) = true by rfl, d0, d1, d2, dd, d3, Bool.and_true, hrd, List.nil_append, k4, k5, k6, Int.le_refl, decide_true, k7, k1, tail]
    by_cases z1 : (insR t [x]).2 = 0
    rotate_left
    · have := st1 z1
      simp only [show ((insR t [x]).2 != 0) = true by simp [z1], cond_true, this, beq_self_eq_true]
    simp only [z1, bne_self_eq_false, cond_false]
    by_cases z2 : (insR (insR t [x]).1 r).2 = 0
    rotate_left
    · simp only [show ((insR (insR t [x]).1 r).2 == 0) = false by simp [z2], cond_false]
    simp only [z2, beq_self_eq_true, cond_true]
    rcases st2 z1 z2 with ⟨z3, z4⟩ | z3
    · simp only [z3, z4, bne_self_eq_false, beq_self_eq_true, cond_false, cond_true, eqT_iff.2 rfl, Bool.not_true]
    · simp only [z3, show ((5 : Int) != 0) = true by rfl, show ((5 : Int) != 5) = false by rfl, show ((5 : Int) == 0) = false by rfl, cond_true, cond_false]

theorem steps_main (pvs : List (PV sig)) (h : Alls (Arg Try.prog lay) Try.f13.params.toList pvs) : ∃ m, CallOk Try.prog lay 13 pvs [] (.ret (.d (.bool true)), m) := by
  rw [Try.params13] at h
  obtain ⟨p0, r0, rfl, h0, h⟩ := alls_cons h
  obtain ⟨p1, r1, rfl, h1, h⟩ := alls_cons h
  obtain ⟨p2, r2, rfl, h2, h⟩ := alls_cons h
  cases alls_nil h
  obtain ⟨⟨t0, t1, t2, t3⟩, rfl⟩ := arg_tm h0
  obtain ⟨l, rfl, h_l⟩ := arg_tms h1
  obtain ⟨⟨s0, s1⟩, rfl⟩ := arg_sm h2
  obtain ⟨k, hk⟩ := (steps_law (⟨t0, t1, t2, t3⟩ : Tm) l (⟨s0, s1⟩ : Sm) h_l).get
  exact ⟨[], of_levels levels fit dok (k := k) (Eq.trans (by kernel_rfl) (hk (Res sig × Mem sig) fun b => some (Res.ret (.d (.bool b)), [])))⟩

theorem steps_lifted (os : Os) (started : os.Started) (H : Type) (enc : TypeId × Value → H) :
    ReturnsInHanded {} Try.checked os 13 .any (Rows.substStepsSpec.pre6 enc Try.prog Try.f13 Rows.substStepsRow.domain false) (Rows.substStepsSpec.post enc Try.prog Try.f13 false true false false) :=
  law_lifted (C := Try.checked) (tb := 4) rfl os started ownT laidT fit reads4 (by kernel_rfl) Try.func13 (c := textOf Try.prog 13) (by kernel_rfl) rfl H enc (by kernel_rfl) (by kernel_rfl) (by kernel_rfl)
    (fun ds h => by
      rw [Try.params13] at h
      match ds, h with
      | [d0, d1, d2], _ => rfl)
    (ChangeSpec.witness6 (enc := enc) (C := Try.checked) false ⟨#[], #[.agg #[.int .i64 0, .int .i64 0, .int .i64 0, .slice none 0 0], .slice none 0 0, .agg #[.slice none 0 0, .int .i64 0]], []⟩ 8 (by kernel_rfl) (by kernel_rfl) (by kernel_rfl) (by kernel_rfl))
    steps_main

theorem steps_over : Rows.substStepsRow.holds Try.pinned (OpenSpec.ofChange Rows.substStepsSpec) :=
  OpenClaim.holds_of_wide 13 Try.f13 rfl rfl rfl rfl rfl rfl rfl ⟨rfl, rfl, rfl, rfl, rfl⟩ rfl rfl rfl rfl rfl (by kernel_rfl) Try.func13 (by kernel_rfl)
    (of_decide_eq_true (by kernel_rfl)) (by unfold Func.isWrapper; first | (rw [if_pos (by decide +kernel)]; kernel_rfl) | (rw [if_neg (by decide +kernel)]; exact ⟨rfl, rfl⟩))
    (fun os started H enc _ => steps_lifted os started H enc)

end Go.Proofs.Ytcgbfghdcjmaeaa.Ev

namespace Go.Proofs.Ytcgbfghdcjmaeaa

/-- The statement. -/
theorem substSteps_holds : Rows.SubstStepsSaid := Ev.steps_over
#print axioms substSteps_holds

end Go.Proofs.Ytcgbfghdcjmaeaa
