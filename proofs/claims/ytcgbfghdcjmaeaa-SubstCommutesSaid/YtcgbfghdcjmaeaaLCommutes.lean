/- This file proves that SubstCommutes returns true for every input; without any condition. -/
import Derived.Test.YtcgbfghdcjmaeaaP8
import Derived.Test.YtcgbfghdcjmaeaaA4
import Derived.Test.YtcgbfghdcjmaeaaRows
set_option linter.unusedVariables false
set_option linter.unusedSimpArgs false
namespace Go.Proofs.Ytcgbfghdcjmaeaa.Ev
open Go.Proofs Go.ChangeShapes Go.WideShapes Go.ChangeAt Go.RowKit

theorem commutes_law (cs ctx : List Sm) (t : Tm) (s : Sm) (n0 m0 : Int) (u v : Tm) : Evt fun k => ∀ ρ K, (Tabs k).c6_0 ρ cs ctx t.op t.head t.n t.args s.args s.con n0 m0 u.op u.head u.n u.args v.op v.head v.n v.args K = K true := by
  have base := (s22 cs ctx t s).and (awake_ok.and ((s18 u).and (s18 v)))
  cases hr : rightB cs ctx t s with
  | false =>
    refine base.step fun k hk ρ K => ?_
    rw [show (Tabs (k + 1)).c6_0 = Gc6_0 (Tabs k) from rfl]
    simp only [Gc6_0, hk.1, hr, Bool.not_false, cond_true, hk.2.1]
  | true =>
    have R := rightB_iff.1 hr
    by_cases h2 : (ctx.length : Int) < 2
    · refine base.step fun k hk ρ K => ?_
      rw [show (Tabs (k + 1)).c6_0 = Gc6_0 (Tabs k) from rfl]
      simp only [Gc6_0, hk.1, hr, Bool.not_true, cond_false, h2, decide_true, cond_true, hk.2.1]
    by_cases hu : Proper u
    rotate_left
    · refine base.step fun k hk ρ K => ?_
      rw [show (Tabs (k + 1)).c6_0 = Gc6_0 (Tabs k) from rfl]
      simp only [Gc6_0, hk.1, hr, Bool.not_true, cond_false, h2, decide_false, Tm.eta, hk.2.2.1, prB_no hu, Bool.not_false, cond_true, hk.2.1]
    by_cases hv : Proper v
    rotate_left
    · refine base.step fun k hk ρ K => ?_
      rw [show (Tabs (k + 1)).c6_0 = Gc6_0 (Tabs k) from rfl]
      simp only [Gc6_0, hk.1, hr, Bool.not_true, cond_false, h2, decide_false, Tm.eta, hk.2.2.1, hk.2.2.2, prB_ok hu, prB_no hv, Bool.not_false, cond_true, hk.2.1]
    have hc20 := R.ctx20
    have hwl := W_id (show -9223372036854775808 ≤ (ctx.length : Int) - 1 by omega) (by omega)
    have hul : IntKind.wrap .u64 ((ctx.length : Int) - 1) = (ctx.length : Int) - 1 := u64_id (by omega) (by omega)
    have hm0 := mod_range m0 (m := (ctx.length : Int) - 1) (by omega)
    obtain ⟨m', hm'⟩ : ∃ m', m' = Int.tmod (IntKind.wrap .u64 m0) ((ctx.length : Int) - 1) := ⟨_, rfl⟩
    rw [← hm'] at hm0
    have hwm' := W_id (show -9223372036854775808 ≤ m' by omega) (by omega)
    obtain ⟨m, hm⟩ : ∃ m, m = 1 + m' := ⟨_, rfl⟩
    have hwm : IntKind.wrap .i64 (1 + m') = m := by rw [W_id (by omega) (by omega)]; exact hm.symm
    have hum : IntKind.wrap .u64 m = m := u64_id (by omega) (by omega)
    have hn0 := mod_range n0 (m := m) (by omega)
    obtain ⟨n, hn⟩ : ∃ n, n = Int.tmod (IntKind.wrap .u64 n0) m := ⟨_, rfl⟩
    rw [← hn] at hn0
    have hwn := W_id (show -9223372036854775808 ≤ n by omega) (by omega)
    have hin : IntKind.wrap .i64 ((ctx.length : Int) - 1 - n) = (ctx.length : Int) - 1 - n := W_id (by omega) (by omega)
    have him : IntKind.wrap .i64 ((ctx.length : Int) - 1 - m) = (ctx.length : Int) - 1 - m := W_id (by omega) (by omega)
    have hmn : IntKind.wrap .i64 (m - n) = m - n := W_id (by omega) (by omega)
    have hmn1 : IntKind.wrap .i64 (m - n - 1) = m - n - 1 := W_id (by omega) (by omega)
    have hm1 : IntKind.wrap .i64 (m - 1) = m - 1 := W_id (by omega) (by omega)
    obtain ⟨a, ha⟩ : ∃ a, ctx[ctx.length - 1 - n.toNat]? = some a := ⟨_, List.getElem?_eq_getElem (by omega)⟩
    obtain ⟨b, hb⟩ : ∃ b, ctx[ctx.length - 1 - m.toNat]? = some b := ⟨_, List.getElem?_eq_getElem (by omega)⟩
    have hra : rdEl lay Key.sm ctx ((ctx.length : Int) - 1 - n) = a := rdSm_get (by rw [show ((ctx.length : Int) - 1 - n).toNat = ctx.length - 1 - n.toNat by omega]; exact ha)
    have hrb : rdEl lay Key.sm ctx ((ctx.length : Int) - 1 - m) = b := rdSm_get (by rw [show ((ctx.length : Int) - 1 - m).toNat = ctx.length - 1 - m.toNat by omega]; exact hb)
    have e1 : decide ((0 : Int) ≤ (ctx.length : Int) - 1 - n) = true := decide_eq_true (by omega)
    have e2 : decide ((ctx.length : Int) - 1 - n < (ctx.length : Int)) = true := decide_eq_true (by omega)
    have e3 : decide ((0 : Int) ≤ (ctx.length : Int) - 1 - m) = true := decide_eq_true (by omega)
    have e4 : decide ((ctx.length : Int) - 1 - m < (ctx.length : Int)) = true := decide_eq_true (by omega)
    have e5 : ((ctx.length : Int) - 1 == 0) = false := by rw [beq_eq_false_iff_ne]; omega
    have e6 : (m == 0) = false := by rw [beq_eq_false_iff_ne]; omega
    have husz := hu.1
    have hvsz := hv.1
    have g1 := s24 ctx n hn0.1 (by omega) (by omega)
    have g2 := s24 ctx m (by omega) (by omega) (by omega)
    have g3 := s23 cs u.size u (ctx.take (ctx.length - 1 - n.toNat)) a 1 (Nat.le_refl _) husz (by simp only [List.length_take]; omega) hu.2
    have g4 := s23 cs v.size v (ctx.take (ctx.length - 1 - m.toNat)) b 1 (Nat.le_refl _) hvsz (by simp only [List.length_take]; omega) hv.2
    have g5 := s14' t m v b
    have g6 := s14' u (m - n - 1) v b
    have g7 := s14' t n u a
    have g8 := s14' (sub t m v b).1 n (sub u (m - n - 1) v b).1 a
    have g9 := s14' (sub t n u a).1 (m - 1) v b
    have g10 := s26 (sub (sub t m v b).1 n (sub u (m - n - 1) v b).1 a).1 (sub (sub t n u a).1 (m - 1) v b).1 (by have := sub_size (sub t m v b).1 n (sub u (m - n - 1) v b).1 a; omega)
    refine (base.and ((g1.and (g2.and (g3.and g4))).and ((g5.and (g6.and g7)).and (g8.and (g9.and g10))))).step fun k hk ρ K => ?_
    obtain ⟨⟨k1, k2, k3, k4⟩, ⟨k5, k6, k7, k8⟩, ⟨k9, k10, k11⟩, k12, k13, k14⟩ := hk
    rw [show (Tabs (k + 1)).c6_0 = Gc6_0 (Tabs k) from rfl]
    simp only [Gc6_0, k1, hr, Bool.not_true, cond_false, h2, decide_false, Tm.eta, Sm.eta, k3, k4, prB_ok hu, prB_ok hv, hwl, hul, ← hm', hwm', hwm, hum, ← hn, hwn, hin, him, hmn, hmn1, hm1, e1, e2, e3, e4, e5, e6, Bool.and_true, cond_true, k5, k6, hra, hrb, k7, k8, k2, k9, k10, k11, k12, k13, k14]
    cases fitB cs (ctx.take (ctx.length - 1 - n.toNat)) u a with
    | false => rfl
    | true =>
    cases fitB cs (ctx.take (ctx.length - 1 - m.toNat)) v b with
    | false => rfl
    | true =>
    simp only [Bool.not_true, cond_false]
    by_cases z1 : (sub t m v b).2 = 0
    rotate_left
    · rw [show ((sub t m v b).2 != 0) = true by simp [z1]]; rfl
    by_cases z2 : (sub u (m - n - 1) v b).2 = 0
    rotate_left
    · rw [show ((sub u (m - n - 1) v b).2 != 0) = true by simp [z2]]; cases (sub t m v b).2 != 0 <;> rfl
    by_cases z3 : (sub t n u a).2 = 0
    rotate_left
    · rw [show ((sub t n u a).2 != 0) = true by simp [z3]]; cases (sub t m v b).2 != 0 <;> cases (sub u (m - n - 1) v b).2 != 0 <;> rfl
    simp only [z1, z2, z3, bne_self_eq_false, cond_false]
    by_cases z4 : (sub (sub t m v b).1 n (sub u (m - n - 1) v b).1 a).2 = 0
    rotate_left
    · rw [show ((sub (sub t m v b).1 n (sub u (m - n - 1) v b).1 a).2 != 0) = true by simp [z4]]; rfl
    by_cases z5 : (sub (sub t n u a).1 (m - 1) v b).2 = 0
    rotate_left
    · rw [show ((sub (sub t n u a).1 (m - 1) v b).2 != 0) = true by simp [z5]]; cases (sub (sub t m v b).1 n (sub u (m - n - 1) v b).1 a).2 != 0 <;> rfl
    obtain ⟨_, d1, q1⟩ := sub_ok z1
    obtain ⟨_, d2, q2⟩ := sub_ok z2
    obtain ⟨_, d3, q3⟩ := sub_ok z3
    obtain ⟨_, d4, q4⟩ := sub_ok z4
    obtain ⟨_, d5, q5⟩ := sub_ok z5
    have := put_comm hn0.1 hn0.2 q1 q2 q3 q4 q5
    simp only [z4, z5, bne_self_eq_false, cond_false, eqT_iff.2 this, cond_true]

theorem commutes_main (pvs : List (PV sig)) (h : Alls (Arg Try.prog lay) Try.f6.params.toList pvs) : ∃ m, CallOk Try.prog lay 6 pvs [] (.ret (.d (.bool true)), m) := by
  rw [Try.params6] at h
  obtain ⟨p0, r0, rfl, h0, h⟩ := alls_cons h
  obtain ⟨p1, r1, rfl, h1, h⟩ := alls_cons h
  cases alls_nil h
  obtain ⟨cs, ctx, t, s, rfl⟩ := arg_typed h0
  obtain ⟨n, m, u, v, rfl⟩ := arg_two h1
  obtain ⟨k, hk⟩ := (commutes_law cs ctx t s n m u v).get
  exact ⟨[], of_levels levels fit dok (k := k) (Eq.trans (by kernel_rfl) (hk (Res sig × Mem sig) fun b => some (Res.ret (.d (.bool b)), [])))⟩

theorem commutes_lifted (os : Os) (started : os.Started) (H : Type) (enc : TypeId × Value → H) :
    ReturnsInHanded {} Try.checked os 6 .any (Rows.substCommutesSpec.pre6 enc Try.prog Try.f6 Rows.substCommutesRow.domain false) (Rows.substCommutesSpec.post enc Try.prog Try.f6 false true false false) :=
  law_lifted (C := Try.checked) (tb := 4) rfl os started ownT laidT fit reads4 (by kernel_rfl) Try.func6 (c := textOf Try.prog 6) (by kernel_rfl) rfl H enc (by kernel_rfl) (by kernel_rfl) (by kernel_rfl)
    (fun ds h => by
      rw [Try.params6] at h
      match ds, h with
      | [d0, d1], _ => rfl)
    (ChangeSpec.witness6 (enc := enc) (C := Try.checked) false ⟨#[], #[.agg #[.slice none 0 0, .slice none 0 0, .int .i64 0, .int .i64 0, .int .i64 0, .slice none 0 0, .slice none 0 0, .int .i64 0], .agg #[.int .i64 0, .int .i64 0, .int .i64 0, .int .i64 0, .int .i64 0, .slice none 0 0, .int .i64 0, .int .i64 0, .int .i64 0, .slice none 0 0]], []⟩ 8 (by kernel_rfl) (by kernel_rfl) (by kernel_rfl) (by kernel_rfl))
    commutes_main

theorem commutes_over : Rows.substCommutesRow.holds Try.pinned (OpenSpec.ofChange Rows.substCommutesSpec) :=
  OpenClaim.holds_of_wide 6 Try.f6 rfl rfl rfl rfl rfl rfl rfl ⟨rfl, rfl, rfl, rfl, rfl⟩ rfl rfl rfl rfl rfl (by kernel_rfl) Try.func6 (by kernel_rfl)
    (of_decide_eq_true (by kernel_rfl)) (by unfold Func.isWrapper; first | (rw [if_pos (by decide +kernel)]; kernel_rfl) | (rw [if_neg (by decide +kernel)]; exact ⟨rfl, rfl⟩))
    (fun os started H enc _ => commutes_lifted os started H enc)

end Go.Proofs.Ytcgbfghdcjmaeaa.Ev

namespace Go.Proofs.Ytcgbfghdcjmaeaa

/-- The statement. -/
theorem substCommutes_holds : Rows.SubstCommutesSaid := Ev.commutes_over
#print axioms substCommutes_holds

end Go.Proofs.Ytcgbfghdcjmaeaa
