/- This file proves when the tables of typed functions answer; without any condition. -/
import Derived.Test.YtcgbfghdcjmaeaaG1
set_option linter.unusedVariables false
set_option linter.unusedSimpArgs false
namespace Go.Proofs.Ytcgbfghdcjmaeaa.Ev

theorem rc3_0 (args : List (PV sig)) (m : Mem sig) : (∀ (C : Tab) (ρ : Type) (K : Res sig × Mem sig → Option ρ), Rc3_0 C ρ args m K = none) ∨ ∃ (a1 : Int) (a2 : Int) (a3 : Int) (a4 : List Tm) (a5 : Int) (a6 : Int) (a7 : Int) (a8 : Int) (a9 : List Tm) (a10 : List Sm) (a11 : Int), args = [.agg [.d (.int .i64 a1), .d (.int .i64 a2), .d (.int .i64 a3), .d (.sl Key.tm a4), .d (.int .i64 a5), .d (.int .i64 a6), .d (.int .i64 a7), .d (.int .i64 a8), .d (.sl Key.tm a9), .d (.sl Key.sm a10), .d (.int .i64 a11)]] ∧ m = [] := by
  unfold Rc3_0
  refine uC_k fun x0 x1 e => ?_; subst e
  refine uAgg_k fun x2 e => ?_; subst e
  refine uC_k fun x3 x4 e => ?_; subst e
  refine uI_k fun a1 e => ?_; subst e
  refine uC_k fun x5 x6 e => ?_; subst e
  refine uI_k fun a2 e => ?_; subst e
  refine uC_k fun x7 x8 e => ?_; subst e
  refine uI_k fun a3 e => ?_; subst e
  refine uC_k fun x9 x10 e => ?_; subst e
  refine uS_k fun a4 e => ?_; subst e
  refine uC_k fun x11 x12 e => ?_; subst e
  refine uI_k fun a5 e => ?_; subst e
  refine uC_k fun x13 x14 e => ?_; subst e
  refine uI_k fun a6 e => ?_; subst e
  refine uC_k fun x15 x16 e => ?_; subst e
  refine uI_k fun a7 e => ?_; subst e
  refine uC_k fun x17 x18 e => ?_; subst e
  refine uI_k fun a8 e => ?_; subst e
  refine uC_k fun x19 x20 e => ?_; subst e
  refine uS_k fun a9 e => ?_; subst e
  refine uC_k fun x21 x22 e => ?_; subst e
  refine uS_k fun a10 e => ?_; subst e
  refine uC_k fun x23 x24 e => ?_; subst e
  refine uI_k fun a11 e => ?_; subst e
  refine u0_k fun e => ?_; subst e
  refine u0_k fun e => ?_; subst e
  refine uE_k fun e => ?_; subst e
  exact .inr ⟨a1, a2, a3, a4, a5, a6, a7, a8, a9, a10, a11, rfl, rfl⟩

theorem rc4_0 (args : List (PV sig)) (m : Mem sig) : (∀ (C : Tab) (ρ : Type) (K : Res sig × Mem sig → Option ρ), Rc4_0 C ρ args m K = none) ∨ ∃ (a1 : Int) (a2 : Int) (a3 : Int) (a4 : List Tm) (a5 : Int) (a6 : Int) (a7 : Int) (a8 : Int) (a9 : List Tm) (a10 : List Sm) (a11 : Int), args = [.agg [.d (.int .i64 a1), .d (.int .i64 a2), .d (.int .i64 a3), .d (.sl Key.tm a4), .d (.int .i64 a5), .d (.int .i64 a6), .d (.int .i64 a7), .d (.int .i64 a8), .d (.sl Key.tm a9), .d (.sl Key.sm a10), .d (.int .i64 a11)]] ∧ m = [] := by
  unfold Rc4_0
  refine uC_k fun x0 x1 e => ?_; subst e
  refine uAgg_k fun x2 e => ?_; subst e
  refine uC_k fun x3 x4 e => ?_; subst e
  refine uI_k fun a1 e => ?_; subst e
  refine uC_k fun x5 x6 e => ?_; subst e
  refine uI_k fun a2 e => ?_; subst e
  refine uC_k fun x7 x8 e => ?_; subst e
  refine uI_k fun a3 e => ?_; subst e
  refine uC_k fun x9 x10 e => ?_; subst e
  refine uS_k fun a4 e => ?_; subst e
  refine uC_k fun x11 x12 e => ?_; subst e
  refine uI_k fun a5 e => ?_; subst e
  refine uC_k fun x13 x14 e => ?_; subst e
  refine uI_k fun a6 e => ?_; subst e
  refine uC_k fun x15 x16 e => ?_; subst e
  refine uI_k fun a7 e => ?_; subst e
  refine uC_k fun x17 x18 e => ?_; subst e
  refine uI_k fun a8 e => ?_; subst e
  refine uC_k fun x19 x20 e => ?_; subst e
  refine uS_k fun a9 e => ?_; subst e
  refine uC_k fun x21 x22 e => ?_; subst e
  refine uS_k fun a10 e => ?_; subst e
  refine uC_k fun x23 x24 e => ?_; subst e
  refine uI_k fun a11 e => ?_; subst e
  refine u0_k fun e => ?_; subst e
  refine u0_k fun e => ?_; subst e
  refine uE_k fun e => ?_; subst e
  exact .inr ⟨a1, a2, a3, a4, a5, a6, a7, a8, a9, a10, a11, rfl, rfl⟩

theorem rc5_0 (args : List (PV sig)) (m : Mem sig) : (∀ (C : Tab) (ρ : Type) (K : Res sig × Mem sig → Option ρ), Rc5_0 C ρ args m K = none) ∨ ∃ (a1 : List Sm) (a2 : List Sm) (a3 : Int) (a4 : Int) (a5 : Int) (a6 : List Tm) (a7 : List Sm) (a8 : Int) (a9 : Int) (a10 : Tm), args = [.agg [.d (.sl Key.sm a1), .d (.sl Key.sm a2), .d (.int .i64 a3), .d (.int .i64 a4), .d (.int .i64 a5), .d (.sl Key.tm a6), .d (.sl Key.sm a7), .d (.int .i64 a8)], .d (.int .i64 a9), .agg [.d (.int .i64 a10.op), .d (.int .i64 a10.head), .d (.int .i64 a10.n), .d (.sl Key.tm a10.args)]] ∧ m = [] := by
  unfold Rc5_0
  refine uC_k fun x0 x1 e => ?_; subst e
  refine uAgg_k fun x2 e => ?_; subst e
  refine uC_k fun x3 x4 e => ?_; subst e
  refine uS_k fun a1 e => ?_; subst e
  refine uC_k fun x5 x6 e => ?_; subst e
  refine uS_k fun a2 e => ?_; subst e
  refine uC_k fun x7 x8 e => ?_; subst e
  refine uI_k fun a3 e => ?_; subst e
  refine uC_k fun x9 x10 e => ?_; subst e
  refine uI_k fun a4 e => ?_; subst e
  refine uC_k fun x11 x12 e => ?_; subst e
  refine uI_k fun a5 e => ?_; subst e
  refine uC_k fun x13 x14 e => ?_; subst e
  refine uS_k fun a6 e => ?_; subst e
  refine uC_k fun x15 x16 e => ?_; subst e
  refine uS_k fun a7 e => ?_; subst e
  refine uC_k fun x17 x18 e => ?_; subst e
  refine uI_k fun a8 e => ?_; subst e
  refine u0_k fun e => ?_; subst e
  refine uC_k fun x19 x20 e => ?_; subst e
  refine uI_k fun a9 e => ?_; subst e
  refine uC_k fun x21 x22 e => ?_; subst e
  refine uTm_k fun a10 e => ?_; subst e
  refine u0_k fun e => ?_; subst e
  refine uE_k fun e => ?_; subst e
  exact .inr ⟨a1, a2, a3, a4, a5, a6, a7, a8, a9, a10, rfl, rfl⟩

theorem rc6_0 (args : List (PV sig)) (m : Mem sig) : (∀ (C : Tab) (ρ : Type) (K : Res sig × Mem sig → Option ρ), Rc6_0 C ρ args m K = none) ∨ ∃ (a1 : List Sm) (a2 : List Sm) (a3 : Int) (a4 : Int) (a5 : Int) (a6 : List Tm) (a7 : List Sm) (a8 : Int) (a9 : Int) (a10 : Int) (a11 : Int) (a12 : Int) (a13 : Int) (a14 : List Tm) (a15 : Int) (a16 : Int) (a17 : Int) (a18 : List Tm), args = [.agg [.d (.sl Key.sm a1), .d (.sl Key.sm a2), .d (.int .i64 a3), .d (.int .i64 a4), .d (.int .i64 a5), .d (.sl Key.tm a6), .d (.sl Key.sm a7), .d (.int .i64 a8)], .agg [.d (.int .i64 a9), .d (.int .i64 a10), .d (.int .i64 a11), .d (.int .i64 a12), .d (.int .i64 a13), .d (.sl Key.tm a14), .d (.int .i64 a15), .d (.int .i64 a16), .d (.int .i64 a17), .d (.sl Key.tm a18)]] ∧ m = [] := by
  unfold Rc6_0
  refine uC_k fun x0 x1 e => ?_; subst e
  refine uAgg_k fun x2 e => ?_; subst e
  refine uC_k fun x3 x4 e => ?_; subst e
  refine uS_k fun a1 e => ?_; subst e
  refine uC_k fun x5 x6 e => ?_; subst e
  refine uS_k fun a2 e => ?_; subst e
  refine uC_k fun x7 x8 e => ?_; subst e
  refine uI_k fun a3 e => ?_; subst e
  refine uC_k fun x9 x10 e => ?_; subst e
  refine uI_k fun a4 e => ?_; subst e
  refine uC_k fun x11 x12 e => ?_; subst e
  refine uI_k fun a5 e => ?_; subst e
  refine uC_k fun x13 x14 e => ?_; subst e
  refine uS_k fun a6 e => ?_; subst e
  refine uC_k fun x15 x16 e => ?_; subst e
  refine uS_k fun a7 e => ?_; subst e
  refine uC_k fun x17 x18 e => ?_; subst e
  refine uI_k fun a8 e => ?_; subst e
  refine u0_k fun e => ?_; subst e
  refine uC_k fun x19 x20 e => ?_; subst e
  refine uAgg_k fun x21 e => ?_; subst e
  refine uC_k fun x22 x23 e => ?_; subst e
  refine uI_k fun a9 e => ?_; subst e
  refine uC_k fun x24 x25 e => ?_; subst e
  refine uI_k fun a10 e => ?_; subst e
  refine uC_k fun x26 x27 e => ?_; subst e
  refine uI_k fun a11 e => ?_; subst e
  refine uC_k fun x28 x29 e => ?_; subst e
  refine uI_k fun a12 e => ?_; subst e
  refine uC_k fun x30 x31 e => ?_; subst e
  refine uI_k fun a13 e => ?_; subst e
  refine uC_k fun x32 x33 e => ?_; subst e
  refine uS_k fun a14 e => ?_; subst e
  refine uC_k fun x34 x35 e => ?_; subst e
  refine uI_k fun a15 e => ?_; subst e
  refine uC_k fun x36 x37 e => ?_; subst e
  refine uI_k fun a16 e => ?_; subst e
  refine uC_k fun x38 x39 e => ?_; subst e
  refine uI_k fun a17 e => ?_; subst e
  refine uC_k fun x40 x41 e => ?_; subst e
  refine uS_k fun a18 e => ?_; subst e
  refine u0_k fun e => ?_; subst e
  refine u0_k fun e => ?_; subst e
  refine uE_k fun e => ?_; subst e
  exact .inr ⟨a1, a2, a3, a4, a5, a6, a7, a8, a9, a10, a11, a12, a13, a14, a15, a16, a17, a18, rfl, rfl⟩

theorem rc7_0 (args : List (PV sig)) (m : Mem sig) : (∀ (C : Tab) (ρ : Type) (K : Res sig × Mem sig → Option ρ), Rc7_0 C ρ args m K = none) ∨ ∃ (a1 : List Sm) (a2 : List Sm) (a3 : Int) (a4 : Int) (a5 : Int) (a6 : List Tm) (a7 : List Sm) (a8 : Int) (a9 : Int) (a10 : Int), args = [.agg [.d (.sl Key.sm a1), .d (.sl Key.sm a2), .d (.int .i64 a3), .d (.int .i64 a4), .d (.int .i64 a5), .d (.sl Key.tm a6), .d (.sl Key.sm a7), .d (.int .i64 a8)], .d (.int .i64 a9), .d (.int .i64 a10)] ∧ m = [] := by
  unfold Rc7_0
  refine uC_k fun x0 x1 e => ?_; subst e
  refine uAgg_k fun x2 e => ?_; subst e
  refine uC_k fun x3 x4 e => ?_; subst e
  refine uS_k fun a1 e => ?_; subst e
  refine uC_k fun x5 x6 e => ?_; subst e
  refine uS_k fun a2 e => ?_; subst e
  refine uC_k fun x7 x8 e => ?_; subst e
  refine uI_k fun a3 e => ?_; subst e
  refine uC_k fun x9 x10 e => ?_; subst e
  refine uI_k fun a4 e => ?_; subst e
  refine uC_k fun x11 x12 e => ?_; subst e
  refine uI_k fun a5 e => ?_; subst e
  refine uC_k fun x13 x14 e => ?_; subst e
  refine uS_k fun a6 e => ?_; subst e
  refine uC_k fun x15 x16 e => ?_; subst e
  refine uS_k fun a7 e => ?_; subst e
  refine uC_k fun x17 x18 e => ?_; subst e
  refine uI_k fun a8 e => ?_; subst e
  refine u0_k fun e => ?_; subst e
  refine uC_k fun x19 x20 e => ?_; subst e
  refine uI_k fun a9 e => ?_; subst e
  refine uC_k fun x21 x22 e => ?_; subst e
  refine uI_k fun a10 e => ?_; subst e
  refine u0_k fun e => ?_; subst e
  refine uE_k fun e => ?_; subst e
  exact .inr ⟨a1, a2, a3, a4, a5, a6, a7, a8, a9, a10, rfl, rfl⟩

theorem rc8_0 (args : List (PV sig)) (m : Mem sig) : (∀ (C : Tab) (ρ : Type) (K : Res sig × Mem sig → Option ρ), Rc8_0 C ρ args m K = none) ∨ ∃ (a1 : Tm) (a2 : List Tm) (a3 : Sm), args = [.agg [.d (.int .i64 a1.op), .d (.int .i64 a1.head), .d (.int .i64 a1.n), .d (.sl Key.tm a1.args)], .d (.sl Key.tm a2), .agg [.d (.sl Key.sm a3.args), .d (.int .i64 a3.con)]] ∧ m = [] := by
  unfold Rc8_0
  refine uC_k fun x0 x1 e => ?_; subst e
  refine uTm_k fun a1 e => ?_; subst e
  refine uC_k fun x2 x3 e => ?_; subst e
  refine uS_k fun a2 e => ?_; subst e
  refine uC_k fun x4 x5 e => ?_; subst e
  refine uSm_k fun a3 e => ?_; subst e
  refine u0_k fun e => ?_; subst e
  refine uE_k fun e => ?_; subst e
  exact .inr ⟨a1, a2, a3, rfl, rfl⟩

theorem rc9_0 (args : List (PV sig)) (m : Mem sig) : (∀ (C : Tab) (ρ : Type) (K : Res sig × Mem sig → Option ρ), Rc9_0 C ρ args m K = none) ∨ ∃ (a1 : Tm) (a2 : List Tm) (a3 : List Sm), args = [.agg [.d (.int .i64 a1.op), .d (.int .i64 a1.head), .d (.int .i64 a1.n), .d (.sl Key.tm a1.args)], .d (.sl Key.tm a2), .d (.sl Key.sm a3)] ∧ m = [] := by
  unfold Rc9_0
  refine uC_k fun x0 x1 e => ?_; subst e
  refine uTm_k fun a1 e => ?_; subst e
  refine uC_k fun x2 x3 e => ?_; subst e
  refine uS_k fun a2 e => ?_; subst e
  refine uC_k fun x4 x5 e => ?_; subst e
  refine uS_k fun a3 e => ?_; subst e
  refine u0_k fun e => ?_; subst e
  refine uE_k fun e => ?_; subst e
  exact .inr ⟨a1, a2, a3, rfl, rfl⟩

theorem rc10_0 (args : List (PV sig)) (m : Mem sig) : (∀ (C : Tab) (ρ : Type) (K : Res sig × Mem sig → Option ρ), Rc10_0 C ρ args m K = none) ∨ ∃ (a1 : Int) (a2 : Int) (a3 : Sm), args = [.d (.int .i64 a1), .d (.int .i64 a2), .agg [.d (.sl Key.sm a3.args), .d (.int .i64 a3.con)]] ∧ m = [] := by
  unfold Rc10_0
  refine uC_k fun x0 x1 e => ?_; subst e
  refine uI_k fun a1 e => ?_; subst e
  refine uC_k fun x2 x3 e => ?_; subst e
  refine uI_k fun a2 e => ?_; subst e
  refine uC_k fun x4 x5 e => ?_; subst e
  refine uSm_k fun a3 e => ?_; subst e
  refine u0_k fun e => ?_; subst e
  refine uE_k fun e => ?_; subst e
  exact .inr ⟨a1, a2, a3, rfl, rfl⟩

theorem rc11_0 (args : List (PV sig)) (m : Mem sig) : (∀ (C : Tab) (ρ : Type) (K : Res sig × Mem sig → Option ρ), Rc11_0 C ρ args m K = none) ∨ ∃ (a1 : Tm), args = [.agg [.d (.int .i64 a1.op), .d (.int .i64 a1.head), .d (.int .i64 a1.n), .d (.sl Key.tm a1.args)]] ∧ m = [] := by
  unfold Rc11_0
  refine uC_k fun x0 x1 e => ?_; subst e
  refine uTm_k fun a1 e => ?_; subst e
  refine u0_k fun e => ?_; subst e
  refine uE_k fun e => ?_; subst e
  exact .inr ⟨a1, rfl, rfl⟩

theorem rc12_0 (args : List (PV sig)) (m : Mem sig) : (∀ (C : Tab) (ρ : Type) (K : Res sig × Mem sig → Option ρ), Rc12_0 C ρ args m K = none) ∨ ∃ (a1 : Tm) (a2 : List Tm), args = [.agg [.d (.int .i64 a1.op), .d (.int .i64 a1.head), .d (.int .i64 a1.n), .d (.sl Key.tm a1.args)], .d (.sl Key.tm a2)] ∧ m = [] := by
  unfold Rc12_0
  refine uC_k fun x0 x1 e => ?_; subst e
  refine uTm_k fun a1 e => ?_; subst e
  refine uC_k fun x2 x3 e => ?_; subst e
  refine uS_k fun a2 e => ?_; subst e
  refine u0_k fun e => ?_; subst e
  refine uE_k fun e => ?_; subst e
  exact .inr ⟨a1, a2, rfl, rfl⟩

theorem rc13_0 (args : List (PV sig)) (m : Mem sig) : (∀ (C : Tab) (ρ : Type) (K : Res sig × Mem sig → Option ρ), Rc13_0 C ρ args m K = none) ∨ ∃ (a1 : Tm) (a2 : List Tm) (a3 : Sm), args = [.agg [.d (.int .i64 a1.op), .d (.int .i64 a1.head), .d (.int .i64 a1.n), .d (.sl Key.tm a1.args)], .d (.sl Key.tm a2), .agg [.d (.sl Key.sm a3.args), .d (.int .i64 a3.con)]] ∧ m = [] := by
  unfold Rc13_0
  refine uC_k fun x0 x1 e => ?_; subst e
  refine uTm_k fun a1 e => ?_; subst e
  refine uC_k fun x2 x3 e => ?_; subst e
  refine uS_k fun a2 e => ?_; subst e
  refine uC_k fun x4 x5 e => ?_; subst e
  refine uSm_k fun a3 e => ?_; subst e
  refine u0_k fun e => ?_; subst e
  refine uE_k fun e => ?_; subst e
  exact .inr ⟨a1, a2, a3, rfl, rfl⟩

theorem rc14_0 (args : List (PV sig)) (m : Mem sig) : (∀ (C : Tab) (ρ : Type) (K : Res sig × Mem sig → Option ρ), Rc14_0 C ρ args m K = none) ∨ ∃ (a1 : Tm) (a2 : Int) (a3 : Tm) (a4 : Sm), args = [.agg [.d (.int .i64 a1.op), .d (.int .i64 a1.head), .d (.int .i64 a1.n), .d (.sl Key.tm a1.args)], .d (.int .i64 a2), .agg [.d (.int .i64 a3.op), .d (.int .i64 a3.head), .d (.int .i64 a3.n), .d (.sl Key.tm a3.args)], .agg [.d (.sl Key.sm a4.args), .d (.int .i64 a4.con)]] ∧ m = [] := by
  unfold Rc14_0
  refine uC_k fun x0 x1 e => ?_; subst e
  refine uTm_k fun a1 e => ?_; subst e
  refine uC_k fun x2 x3 e => ?_; subst e
  refine uI_k fun a2 e => ?_; subst e
  refine uC_k fun x4 x5 e => ?_; subst e
  refine uTm_k fun a3 e => ?_; subst e
  refine uC_k fun x6 x7 e => ?_; subst e
  refine uSm_k fun a4 e => ?_; subst e
  refine u0_k fun e => ?_; subst e
  refine uE_k fun e => ?_; subst e
  exact .inr ⟨a1, a2, a3, a4, rfl, rfl⟩

theorem rc15_0 (args : List (PV sig)) (m : Mem sig) : (∀ (C : Tab) (ρ : Type) (K : Res sig × Mem sig → Option ρ), Rc15_0 C ρ args m K = none) ∨ ∃ (a1 : Tm) (a2 : Int) (a3 : Tm) (a4 : Sm), args = [.agg [.d (.int .i64 a1.op), .d (.int .i64 a1.head), .d (.int .i64 a1.n), .d (.sl Key.tm a1.args)], .d (.int .i64 a2), .agg [.d (.int .i64 a3.op), .d (.int .i64 a3.head), .d (.int .i64 a3.n), .d (.sl Key.tm a3.args)], .agg [.d (.sl Key.sm a4.args), .d (.int .i64 a4.con)]] ∧ m = [] := by
  unfold Rc15_0
  refine uC_k fun x0 x1 e => ?_; subst e
  refine uTm_k fun a1 e => ?_; subst e
  refine uC_k fun x2 x3 e => ?_; subst e
  refine uI_k fun a2 e => ?_; subst e
  refine uC_k fun x4 x5 e => ?_; subst e
  refine uTm_k fun a3 e => ?_; subst e
  refine uC_k fun x6 x7 e => ?_; subst e
  refine uSm_k fun a4 e => ?_; subst e
  refine u0_k fun e => ?_; subst e
  refine uE_k fun e => ?_; subst e
  exact .inr ⟨a1, a2, a3, a4, rfl, rfl⟩

theorem rc16_0 (args : List (PV sig)) (m : Mem sig) : (∀ (C : Tab) (ρ : Type) (K : Res sig × Mem sig → Option ρ), Rc16_0 C ρ args m K = none) ∨ ∃ (a1 : Tm) (a2 : Int) (a3 : Tm) (a4 : Int), args = [.agg [.d (.int .i64 a1.op), .d (.int .i64 a1.head), .d (.int .i64 a1.n), .d (.sl Key.tm a1.args)], .d (.int .i64 a2), .agg [.d (.int .i64 a3.op), .d (.int .i64 a3.head), .d (.int .i64 a3.n), .d (.sl Key.tm a3.args)], .d (.int .i64 a4)] ∧ m = [] := by
  unfold Rc16_0
  refine uC_k fun x0 x1 e => ?_; subst e
  refine uTm_k fun a1 e => ?_; subst e
  refine uC_k fun x2 x3 e => ?_; subst e
  refine uI_k fun a2 e => ?_; subst e
  refine uC_k fun x4 x5 e => ?_; subst e
  refine uTm_k fun a3 e => ?_; subst e
  refine uC_k fun x6 x7 e => ?_; subst e
  refine uI_k fun a4 e => ?_; subst e
  refine u0_k fun e => ?_; subst e
  refine uE_k fun e => ?_; subst e
  exact .inr ⟨a1, a2, a3, a4, rfl, rfl⟩

theorem rc17_0 (args : List (PV sig)) (m : Mem sig) : (∀ (C : Tab) (ρ : Type) (K : Res sig × Mem sig → Option ρ), Rc17_0 C ρ args m K = none) ∨ args = [] ∧ m = [] := by
  unfold Rc17_0
  refine u0_k fun e => ?_; subst e
  refine uE_k fun e => ?_; subst e
  exact .inr ⟨rfl, rfl⟩

theorem rc18_0 (args : List (PV sig)) (m : Mem sig) : (∀ (C : Tab) (ρ : Type) (K : Res sig × Mem sig → Option ρ), Rc18_0 C ρ args m K = none) ∨ ∃ (a1 : Tm), args = [.agg [.d (.int .i64 a1.op), .d (.int .i64 a1.head), .d (.int .i64 a1.n), .d (.sl Key.tm a1.args)]] ∧ m = [] := by
  unfold Rc18_0
  refine uC_k fun x0 x1 e => ?_; subst e
  refine uTm_k fun a1 e => ?_; subst e
  refine u0_k fun e => ?_; subst e
  refine uE_k fun e => ?_; subst e
  exact .inr ⟨a1, rfl, rfl⟩

theorem rc19_0 (args : List (PV sig)) (m : Mem sig) : (∀ (C : Tab) (ρ : Type) (K : Res sig × Mem sig → Option ρ), Rc19_0 C ρ args m K = none) ∨ ∃ (a1 : Sm), args = [.agg [.d (.sl Key.sm a1.args), .d (.int .i64 a1.con)]] ∧ m = [] := by
  unfold Rc19_0
  refine uC_k fun x0 x1 e => ?_; subst e
  refine uSm_k fun a1 e => ?_; subst e
  refine u0_k fun e => ?_; subst e
  refine uE_k fun e => ?_; subst e
  exact .inr ⟨a1, rfl, rfl⟩

theorem rc20_0 (args : List (PV sig)) (m : Mem sig) : (∀ (C : Tab) (ρ : Type) (K : Res sig × Mem sig → Option ρ), Rc20_0 C ρ args m K = none) ∨ ∃ (a1 : Tm) (a2 : Int), args = [.agg [.d (.int .i64 a1.op), .d (.int .i64 a1.head), .d (.int .i64 a1.n), .d (.sl Key.tm a1.args)], .d (.int .i64 a2)] ∧ m = [] := by
  unfold Rc20_0
  refine uC_k fun x0 x1 e => ?_; subst e
  refine uTm_k fun a1 e => ?_; subst e
  refine uC_k fun x2 x3 e => ?_; subst e
  refine uI_k fun a2 e => ?_; subst e
  refine u0_k fun e => ?_; subst e
  refine uE_k fun e => ?_; subst e
  exact .inr ⟨a1, a2, rfl, rfl⟩

theorem rc21_0 (args : List (PV sig)) (m : Mem sig) : (∀ (C : Tab) (ρ : Type) (K : Res sig × Mem sig → Option ρ), Rc21_0 C ρ args m K = none) ∨ ∃ (a1 : Tm) (a2 : Int) (a3 : Int), args = [.agg [.d (.int .i64 a1.op), .d (.int .i64 a1.head), .d (.int .i64 a1.n), .d (.sl Key.tm a1.args)], .d (.int .i64 a2), .d (.int .i64 a3)] ∧ m = [] := by
  unfold Rc21_0
  refine uC_k fun x0 x1 e => ?_; subst e
  refine uTm_k fun a1 e => ?_; subst e
  refine uC_k fun x2 x3 e => ?_; subst e
  refine uI_k fun a2 e => ?_; subst e
  refine uC_k fun x4 x5 e => ?_; subst e
  refine uI_k fun a3 e => ?_; subst e
  refine u0_k fun e => ?_; subst e
  refine uE_k fun e => ?_; subst e
  exact .inr ⟨a1, a2, a3, rfl, rfl⟩

theorem rc22_0 (args : List (PV sig)) (m : Mem sig) : (∀ (C : Tab) (ρ : Type) (K : Res sig × Mem sig → Option ρ), Rc22_0 C ρ args m K = none) ∨ ∃ (a1 : List Sm) (a2 : List Sm) (a3 : Int) (a4 : Int) (a5 : Int) (a6 : List Tm) (a7 : List Sm) (a8 : Int), args = [.agg [.d (.sl Key.sm a1), .d (.sl Key.sm a2), .d (.int .i64 a3), .d (.int .i64 a4), .d (.int .i64 a5), .d (.sl Key.tm a6), .d (.sl Key.sm a7), .d (.int .i64 a8)]] ∧ m = [] := by
  unfold Rc22_0
  refine uC_k fun x0 x1 e => ?_; subst e
  refine uAgg_k fun x2 e => ?_; subst e
  refine uC_k fun x3 x4 e => ?_; subst e
  refine uS_k fun a1 e => ?_; subst e
  refine uC_k fun x5 x6 e => ?_; subst e
  refine uS_k fun a2 e => ?_; subst e
  refine uC_k fun x7 x8 e => ?_; subst e
  refine uI_k fun a3 e => ?_; subst e
  refine uC_k fun x9 x10 e => ?_; subst e
  refine uI_k fun a4 e => ?_; subst e
  refine uC_k fun x11 x12 e => ?_; subst e
  refine uI_k fun a5 e => ?_; subst e
  refine uC_k fun x13 x14 e => ?_; subst e
  refine uS_k fun a6 e => ?_; subst e
  refine uC_k fun x15 x16 e => ?_; subst e
  refine uS_k fun a7 e => ?_; subst e
  refine uC_k fun x17 x18 e => ?_; subst e
  refine uI_k fun a8 e => ?_; subst e
  refine u0_k fun e => ?_; subst e
  refine u0_k fun e => ?_; subst e
  refine uE_k fun e => ?_; subst e
  exact .inr ⟨a1, a2, a3, a4, a5, a6, a7, a8, rfl, rfl⟩

theorem rc23_0 (args : List (PV sig)) (m : Mem sig) : (∀ (C : Tab) (ρ : Type) (K : Res sig × Mem sig → Option ρ), Rc23_0 C ρ args m K = none) ∨ ∃ (a1 : List Sm) (a2 : List Sm) (a3 : Tm) (a4 : Sm), args = [.d (.sl Key.sm a1), .d (.sl Key.sm a2), .agg [.d (.int .i64 a3.op), .d (.int .i64 a3.head), .d (.int .i64 a3.n), .d (.sl Key.tm a3.args)], .agg [.d (.sl Key.sm a4.args), .d (.int .i64 a4.con)]] ∧ m = [] := by
  unfold Rc23_0
  refine uC_k fun x0 x1 e => ?_; subst e
  refine uS_k fun a1 e => ?_; subst e
  refine uC_k fun x2 x3 e => ?_; subst e
  refine uS_k fun a2 e => ?_; subst e
  refine uC_k fun x4 x5 e => ?_; subst e
  refine uTm_k fun a3 e => ?_; subst e
  refine uC_k fun x6 x7 e => ?_; subst e
  refine uSm_k fun a4 e => ?_; subst e
  refine u0_k fun e => ?_; subst e
  refine uE_k fun e => ?_; subst e
  exact .inr ⟨a1, a2, a3, a4, rfl, rfl⟩

theorem rc24_0 (args : List (PV sig)) (m : Mem sig) : (∀ (C : Tab) (ρ : Type) (K : Res sig × Mem sig → Option ρ), Rc24_0 C ρ args m K = none) ∨ ∃ (a1 : List Sm) (a2 : Int), args = [.d (.sl Key.sm a1), .d (.int .i64 a2)] ∧ m = [] := by
  unfold Rc24_0
  refine uC_k fun x0 x1 e => ?_; subst e
  refine uS_k fun a1 e => ?_; subst e
  refine uC_k fun x2 x3 e => ?_; subst e
  refine uI_k fun a2 e => ?_; subst e
  refine u0_k fun e => ?_; subst e
  refine uE_k fun e => ?_; subst e
  exact .inr ⟨a1, a2, rfl, rfl⟩

theorem rc25_0 (args : List (PV sig)) (m : Mem sig) : (∀ (C : Tab) (ρ : Type) (K : Res sig × Mem sig → Option ρ), Rc25_0 C ρ args m K = none) ∨ ∃ (a1 : List Sm) (a2 : Int), args = [.d (.sl Key.sm a1), .d (.int .i64 a2)] ∧ m = [] := by
  unfold Rc25_0
  refine uC_k fun x0 x1 e => ?_; subst e
  refine uS_k fun a1 e => ?_; subst e
  refine uC_k fun x2 x3 e => ?_; subst e
  refine uI_k fun a2 e => ?_; subst e
  refine u0_k fun e => ?_; subst e
  refine uE_k fun e => ?_; subst e
  exact .inr ⟨a1, a2, rfl, rfl⟩

theorem rc26_0 (args : List (PV sig)) (m : Mem sig) : (∀ (C : Tab) (ρ : Type) (K : Res sig × Mem sig → Option ρ), Rc26_0 C ρ args m K = none) ∨ ∃ (a1 : Tm) (a2 : Tm), args = [.agg [.d (.int .i64 a1.op), .d (.int .i64 a1.head), .d (.int .i64 a1.n), .d (.sl Key.tm a1.args)], .agg [.d (.int .i64 a2.op), .d (.int .i64 a2.head), .d (.int .i64 a2.n), .d (.sl Key.tm a2.args)]] ∧ m = [] := by
  unfold Rc26_0
  refine uC_k fun x0 x1 e => ?_; subst e
  refine uTm_k fun a1 e => ?_; subst e
  refine uC_k fun x2 x3 e => ?_; subst e
  refine uTm_k fun a2 e => ?_; subst e
  refine u0_k fun e => ?_; subst e
  refine uE_k fun e => ?_; subst e
  exact .inr ⟨a1, a2, rfl, rfl⟩

theorem rc27_0 (args : List (PV sig)) (m : Mem sig) : (∀ (C : Tab) (ρ : Type) (K : Res sig × Mem sig → Option ρ), Rc27_0 C ρ args m K = none) ∨ ∃ (a1 : Sm) (a2 : Sm), args = [.agg [.d (.sl Key.sm a1.args), .d (.int .i64 a1.con)], .agg [.d (.sl Key.sm a2.args), .d (.int .i64 a2.con)]] ∧ m = [] := by
  unfold Rc27_0
  refine uC_k fun x0 x1 e => ?_; subst e
  refine uSm_k fun a1 e => ?_; subst e
  refine uC_k fun x2 x3 e => ?_; subst e
  refine uSm_k fun a2 e => ?_; subst e
  refine u0_k fun e => ?_; subst e
  refine uE_k fun e => ?_; subst e
  exact .inr ⟨a1, a2, rfl, rfl⟩

theorem rc28_0 (args : List (PV sig)) (m : Mem sig) : (∀ (C : Tab) (ρ : Type) (K : Res sig × Mem sig → Option ρ), Rc28_0 C ρ args m K = none) ∨ ∃ (a1 : Int) (a2 : Int) (a3 : Sm), args = [.d (.int .i64 a1), .d (.int .i64 a2), .agg [.d (.sl Key.sm a3.args), .d (.int .i64 a3.con)]] ∧ m = [] := by
  unfold Rc28_0
  refine uC_k fun x0 x1 e => ?_; subst e
  refine uI_k fun a1 e => ?_; subst e
  refine uC_k fun x2 x3 e => ?_; subst e
  refine uI_k fun a2 e => ?_; subst e
  refine uC_k fun x4 x5 e => ?_; subst e
  refine uSm_k fun a3 e => ?_; subst e
  refine u0_k fun e => ?_; subst e
  refine uE_k fun e => ?_; subst e
  exact .inr ⟨a1, a2, a3, rfl, rfl⟩

theorem rc29_0 (args : List (PV sig)) (m : Mem sig) : (∀ (C : Tab) (ρ : Type) (K : Res sig × Mem sig → Option ρ), Rc29_0 C ρ args m K = none) ∨ ∃ (a1 : Tm) (a2 : Int) (a3 : Int) (a4 : Int), args = [.agg [.d (.int .i64 a1.op), .d (.int .i64 a1.head), .d (.int .i64 a1.n), .d (.sl Key.tm a1.args)], .d (.int .i64 a2), .d (.int .i64 a3), .d (.int .i64 a4)] ∧ m = [] := by
  unfold Rc29_0
  refine uC_k fun x0 x1 e => ?_; subst e
  refine uTm_k fun a1 e => ?_; subst e
  refine uC_k fun x2 x3 e => ?_; subst e
  refine uI_k fun a2 e => ?_; subst e
  refine uC_k fun x4 x5 e => ?_; subst e
  refine uI_k fun a3 e => ?_; subst e
  refine uC_k fun x6 x7 e => ?_; subst e
  refine uI_k fun a4 e => ?_; subst e
  refine u0_k fun e => ?_; subst e
  refine uE_k fun e => ?_; subst e
  exact .inr ⟨a1, a2, a3, a4, rfl, rfl⟩

theorem rc30_0 (args : List (PV sig)) (m : Mem sig) : (∀ (C : Tab) (ρ : Type) (K : Res sig × Mem sig → Option ρ), Rc30_0 C ρ args m K = none) ∨ ∃ (a1 : Tm) (a2 : List Tm) (a3 : Sm), args = [.agg [.d (.int .i64 a1.op), .d (.int .i64 a1.head), .d (.int .i64 a1.n), .d (.sl Key.tm a1.args)], .d (.sl Key.tm a2), .agg [.d (.sl Key.sm a3.args), .d (.int .i64 a3.con)]] ∧ m = [] := by
  unfold Rc30_0
  refine uC_k fun x0 x1 e => ?_; subst e
  refine uTm_k fun a1 e => ?_; subst e
  refine uC_k fun x2 x3 e => ?_; subst e
  refine uS_k fun a2 e => ?_; subst e
  refine uC_k fun x4 x5 e => ?_; subst e
  refine uSm_k fun a3 e => ?_; subst e
  refine u0_k fun e => ?_; subst e
  refine uE_k fun e => ?_; subst e
  exact .inr ⟨a1, a2, a3, rfl, rfl⟩

theorem rc31_0 (args : List (PV sig)) (m : Mem sig) : (∀ (C : Tab) (ρ : Type) (K : Res sig × Mem sig → Option ρ), Rc31_0 C ρ args m K = none) ∨ ∃ (a1 : Tm) (a2 : List Tm) (a3 : Sm), args = [.agg [.d (.int .i64 a1.op), .d (.int .i64 a1.head), .d (.int .i64 a1.n), .d (.sl Key.tm a1.args)], .d (.sl Key.tm a2), .agg [.d (.sl Key.sm a3.args), .d (.int .i64 a3.con)]] ∧ m = [] := by
  unfold Rc31_0
  refine uC_k fun x0 x1 e => ?_; subst e
  refine uTm_k fun a1 e => ?_; subst e
  refine uC_k fun x2 x3 e => ?_; subst e
  refine uS_k fun a2 e => ?_; subst e
  refine uC_k fun x4 x5 e => ?_; subst e
  refine uSm_k fun a3 e => ?_; subst e
  refine u0_k fun e => ?_; subst e
  refine uE_k fun e => ?_; subst e
  exact .inr ⟨a1, a2, a3, rfl, rfl⟩

theorem rc32_0 (args : List (PV sig)) (m : Mem sig) : (∀ (C : Tab) (ρ : Type) (K : Res sig × Mem sig → Option ρ), Rc32_0 C ρ args m K = none) ∨ ∃ (a1 : Tm) (a2 : List Tm) (a3 : List Sm), args = [.agg [.d (.int .i64 a1.op), .d (.int .i64 a1.head), .d (.int .i64 a1.n), .d (.sl Key.tm a1.args)], .d (.sl Key.tm a2), .d (.sl Key.sm a3)] ∧ m = [] := by
  unfold Rc32_0
  refine uC_k fun x0 x1 e => ?_; subst e
  refine uTm_k fun a1 e => ?_; subst e
  refine uC_k fun x2 x3 e => ?_; subst e
  refine uS_k fun a2 e => ?_; subst e
  refine uC_k fun x4 x5 e => ?_; subst e
  refine uS_k fun a3 e => ?_; subst e
  refine u0_k fun e => ?_; subst e
  refine uE_k fun e => ?_; subst e
  exact .inr ⟨a1, a2, a3, rfl, rfl⟩

theorem rc33_0 (args : List (PV sig)) (m : Mem sig) : (∀ (C : Tab) (ρ : Type) (K : Res sig × Mem sig → Option ρ), Rc33_0 C ρ args m K = none) ∨ ∃ (a1 : Tm) (a2 : List Tm) (a3 : List Sm), args = [.agg [.d (.int .i64 a1.op), .d (.int .i64 a1.head), .d (.int .i64 a1.n), .d (.sl Key.tm a1.args)], .d (.sl Key.tm a2), .d (.sl Key.sm a3)] ∧ m = [] := by
  unfold Rc33_0
  refine uC_k fun x0 x1 e => ?_; subst e
  refine uTm_k fun a1 e => ?_; subst e
  refine uC_k fun x2 x3 e => ?_; subst e
  refine uS_k fun a2 e => ?_; subst e
  refine uC_k fun x4 x5 e => ?_; subst e
  refine uS_k fun a3 e => ?_; subst e
  refine u0_k fun e => ?_; subst e
  refine uE_k fun e => ?_; subst e
  exact .inr ⟨a1, a2, a3, rfl, rfl⟩

theorem rc34_0 (args : List (PV sig)) (m : Mem sig) : (∀ (C : Tab) (ρ : Type) (K : Res sig × Mem sig → Option ρ), Rc34_0 C ρ args m K = none) ∨ ∃ (a1 : Int) (a2 : Int) (a3 : Sm), args = [.d (.int .i64 a1), .d (.int .i64 a2), .agg [.d (.sl Key.sm a3.args), .d (.int .i64 a3.con)]] ∧ m = [] := by
  unfold Rc34_0
  refine uC_k fun x0 x1 e => ?_; subst e
  refine uI_k fun a1 e => ?_; subst e
  refine uC_k fun x2 x3 e => ?_; subst e
  refine uI_k fun a2 e => ?_; subst e
  refine uC_k fun x4 x5 e => ?_; subst e
  refine uSm_k fun a3 e => ?_; subst e
  refine u0_k fun e => ?_; subst e
  refine uE_k fun e => ?_; subst e
  exact .inr ⟨a1, a2, a3, rfl, rfl⟩

theorem rc35_0 (args : List (PV sig)) (m : Mem sig) : (∀ (C : Tab) (ρ : Type) (K : Res sig × Mem sig → Option ρ), Rc35_0 C ρ args m K = none) ∨ ∃ (a1 : Tm), args = [.agg [.d (.int .i64 a1.op), .d (.int .i64 a1.head), .d (.int .i64 a1.n), .d (.sl Key.tm a1.args)]] ∧ m = [] := by
  unfold Rc35_0
  refine uC_k fun x0 x1 e => ?_; subst e
  refine uTm_k fun a1 e => ?_; subst e
  refine u0_k fun e => ?_; subst e
  refine uE_k fun e => ?_; subst e
  exact .inr ⟨a1, rfl, rfl⟩

theorem rc36_0 (args : List (PV sig)) (m : Mem sig) : (∀ (C : Tab) (ρ : Type) (K : Res sig × Mem sig → Option ρ), Rc36_0 C ρ args m K = none) ∨ ∃ (a1 : Tm), args = [.agg [.d (.int .i64 a1.op), .d (.int .i64 a1.head), .d (.int .i64 a1.n), .d (.sl Key.tm a1.args)]] ∧ m = [] := by
  unfold Rc36_0
  refine uC_k fun x0 x1 e => ?_; subst e
  refine uTm_k fun a1 e => ?_; subst e
  refine u0_k fun e => ?_; subst e
  refine uE_k fun e => ?_; subst e
  exact .inr ⟨a1, rfl, rfl⟩

theorem rc37_0 (args : List (PV sig)) (m : Mem sig) : (∀ (C : Tab) (ρ : Type) (K : Res sig × Mem sig → Option ρ), Rc37_0 C ρ args m K = none) ∨ ∃ (a1 : Tm) (a2 : List Tm), args = [.agg [.d (.int .i64 a1.op), .d (.int .i64 a1.head), .d (.int .i64 a1.n), .d (.sl Key.tm a1.args)], .d (.sl Key.tm a2)] ∧ m = [] := by
  unfold Rc37_0
  refine uC_k fun x0 x1 e => ?_; subst e
  refine uTm_k fun a1 e => ?_; subst e
  refine uC_k fun x2 x3 e => ?_; subst e
  refine uS_k fun a2 e => ?_; subst e
  refine u0_k fun e => ?_; subst e
  refine uE_k fun e => ?_; subst e
  exact .inr ⟨a1, a2, rfl, rfl⟩

theorem rc38_0 (args : List (PV sig)) (m : Mem sig) : (∀ (C : Tab) (ρ : Type) (K : Res sig × Mem sig → Option ρ), Rc38_0 C ρ args m K = none) ∨ ∃ (a1 : Tm) (a2 : List Tm), args = [.agg [.d (.int .i64 a1.op), .d (.int .i64 a1.head), .d (.int .i64 a1.n), .d (.sl Key.tm a1.args)], .d (.sl Key.tm a2)] ∧ m = [] := by
  unfold Rc38_0
  refine uC_k fun x0 x1 e => ?_; subst e
  refine uTm_k fun a1 e => ?_; subst e
  refine uC_k fun x2 x3 e => ?_; subst e
  refine uS_k fun a2 e => ?_; subst e
  refine u0_k fun e => ?_; subst e
  refine uE_k fun e => ?_; subst e
  exact .inr ⟨a1, a2, rfl, rfl⟩

theorem rc39_0 (args : List (PV sig)) (m : Mem sig) : (∀ (C : Tab) (ρ : Type) (K : Res sig × Mem sig → Option ρ), Rc39_0 C ρ args m K = none) ∨ ∃ (a1 : List Tm) (a2 : List Sm) (a3 : List Int), args = [.d (.sl Key.tm a1), .d (.sl Key.sm a2), .d (.sl Key.int a3)] ∧ m = [] := by
  unfold Rc39_0
  refine uC_k fun x0 x1 e => ?_; subst e
  refine uS_k fun a1 e => ?_; subst e
  refine uC_k fun x2 x3 e => ?_; subst e
  refine uS_k fun a2 e => ?_; subst e
  refine uC_k fun x4 x5 e => ?_; subst e
  refine uS_k fun a3 e => ?_; subst e
  refine u0_k fun e => ?_; subst e
  refine uE_k fun e => ?_; subst e
  exact .inr ⟨a1, a2, a3, rfl, rfl⟩

theorem rc41_0 (args : List (PV sig)) (m : Mem sig) : (∀ (C : Tab) (ρ : Type) (K : Res sig × Mem sig → Option ρ), Rc41_0 C ρ args m K = none) ∨ ∃ (a1 : Tm) (a2 : Int) (a3 : Tm) (a4 : Sm) (a5 : Int), args = [.ptr 0 0, .agg [.d (.int .i64 a1.op), .d (.int .i64 a1.head), .d (.int .i64 a1.n), .d (.sl Key.tm a1.args)], .d (.int .i64 a2), .agg [.d (.int .i64 a3.op), .d (.int .i64 a3.head), .d (.int .i64 a3.n), .d (.sl Key.tm a3.args)], .agg [.d (.sl Key.sm a4.args), .d (.int .i64 a4.con)]] ∧ m = [some [.d (.int .i64 a5)]] := by
  unfold Rc41_0
  refine uC_k fun x0 x1 e => ?_; subst e
  refine uP_k fun e => ?_; subst e
  refine uC_k fun x2 x3 e => ?_; subst e
  refine uTm_k fun a1 e => ?_; subst e
  refine uC_k fun x4 x5 e => ?_; subst e
  refine uI_k fun a2 e => ?_; subst e
  refine uC_k fun x6 x7 e => ?_; subst e
  refine uTm_k fun a3 e => ?_; subst e
  refine uC_k fun x8 x9 e => ?_; subst e
  refine uSm_k fun a4 e => ?_; subst e
  refine u0_k fun e => ?_; subst e
  refine uM_k fun x11 x10 e => ?_; subst e
  refine uC_k fun x12 x13 e => ?_; subst e
  refine uI_k fun a5 e => ?_; subst e
  refine u0_k fun e => ?_; subst e
  refine uE_k fun e => ?_; subst e
  exact .inr ⟨a1, a2, a3, a4, a5, rfl, rfl⟩

theorem rc42_0 (args : List (PV sig)) (m : Mem sig) : (∀ (C : Tab) (ρ : Type) (K : Res sig × Mem sig → Option ρ), Rc42_0 C ρ args m K = none) ∨ ∃ (a1 : Int), args = [.d (.int .i64 a1)] ∧ m = [] := by
  unfold Rc42_0
  refine uC_k fun x0 x1 e => ?_; subst e
  refine uI_k fun a1 e => ?_; subst e
  refine u0_k fun e => ?_; subst e
  refine uE_k fun e => ?_; subst e
  exact .inr ⟨a1, rfl, rfl⟩

theorem rc43_0 (args : List (PV sig)) (m : Mem sig) : (∀ (C : Tab) (ρ : Type) (K : Res sig × Mem sig → Option ρ), Rc43_0 C ρ args m K = none) ∨ ∃ (a1 : Tm) (a2 : Int) (a3 : Tm) (a4 : Sm) (a5 : Int), args = [.ptr 0 0, .agg [.d (.int .i64 a1.op), .d (.int .i64 a1.head), .d (.int .i64 a1.n), .d (.sl Key.tm a1.args)], .d (.int .i64 a2), .agg [.d (.int .i64 a3.op), .d (.int .i64 a3.head), .d (.int .i64 a3.n), .d (.sl Key.tm a3.args)], .agg [.d (.sl Key.sm a4.args), .d (.int .i64 a4.con)]] ∧ m = [some [.d (.int .i64 a5)]] := by
  unfold Rc43_0
  refine uC_k fun x0 x1 e => ?_; subst e
  refine uP_k fun e => ?_; subst e
  refine uC_k fun x2 x3 e => ?_; subst e
  refine uTm_k fun a1 e => ?_; subst e
  refine uC_k fun x4 x5 e => ?_; subst e
  refine uI_k fun a2 e => ?_; subst e
  refine uC_k fun x6 x7 e => ?_; subst e
  refine uTm_k fun a3 e => ?_; subst e
  refine uC_k fun x8 x9 e => ?_; subst e
  refine uSm_k fun a4 e => ?_; subst e
  refine u0_k fun e => ?_; subst e
  refine uM_k fun x11 x10 e => ?_; subst e
  refine uC_k fun x12 x13 e => ?_; subst e
  refine uI_k fun a5 e => ?_; subst e
  refine u0_k fun e => ?_; subst e
  refine uE_k fun e => ?_; subst e
  exact .inr ⟨a1, a2, a3, a4, a5, rfl, rfl⟩

theorem rc44_0 (args : List (PV sig)) (m : Mem sig) : (∀ (C : Tab) (ρ : Type) (K : Res sig × Mem sig → Option ρ), Rc44_0 C ρ args m K = none) ∨ ∃ (a1 : Int) (a2 : List Tm), args = [.d (.int .i64 a1), .d (.sl Key.tm a2)] ∧ m = [] := by
  unfold Rc44_0
  refine uC_k fun x0 x1 e => ?_; subst e
  refine uI_k fun a1 e => ?_; subst e
  refine uC_k fun x2 x3 e => ?_; subst e
  refine uS_k fun a2 e => ?_; subst e
  refine u0_k fun e => ?_; subst e
  refine uE_k fun e => ?_; subst e
  exact .inr ⟨a1, a2, rfl, rfl⟩

theorem rc45_0 (args : List (PV sig)) (m : Mem sig) : (∀ (C : Tab) (ρ : Type) (K : Res sig × Mem sig → Option ρ), Rc45_0 C ρ args m K = none) ∨ ∃ (a1 : Int) (a2 : List Tm), args = [.d (.int .i64 a1), .d (.sl Key.tm a2)] ∧ m = [] := by
  unfold Rc45_0
  refine uC_k fun x0 x1 e => ?_; subst e
  refine uI_k fun a1 e => ?_; subst e
  refine uC_k fun x2 x3 e => ?_; subst e
  refine uS_k fun a2 e => ?_; subst e
  refine u0_k fun e => ?_; subst e
  refine uE_k fun e => ?_; subst e
  exact .inr ⟨a1, a2, rfl, rfl⟩

theorem rc46_0 (args : List (PV sig)) (m : Mem sig) : (∀ (C : Tab) (ρ : Type) (K : Res sig × Mem sig → Option ρ), Rc46_0 C ρ args m K = none) ∨ ∃ (a1 : Tm), args = [.agg [.d (.int .i64 a1.op), .d (.int .i64 a1.head), .d (.int .i64 a1.n), .d (.sl Key.tm a1.args)]] ∧ m = [] := by
  unfold Rc46_0
  refine uC_k fun x0 x1 e => ?_; subst e
  refine uTm_k fun a1 e => ?_; subst e
  refine u0_k fun e => ?_; subst e
  refine uE_k fun e => ?_; subst e
  exact .inr ⟨a1, rfl, rfl⟩

theorem rc47_0 (args : List (PV sig)) (m : Mem sig) : (∀ (C : Tab) (ρ : Type) (K : Res sig × Mem sig → Option ρ), Rc47_0 C ρ args m K = none) ∨ ∃ (a1 : Tm) (a2 : Int), args = [.agg [.d (.int .i64 a1.op), .d (.int .i64 a1.head), .d (.int .i64 a1.n), .d (.sl Key.tm a1.args)], .d (.int .i64 a2)] ∧ m = [] := by
  unfold Rc47_0
  refine uC_k fun x0 x1 e => ?_; subst e
  refine uTm_k fun a1 e => ?_; subst e
  refine uC_k fun x2 x3 e => ?_; subst e
  refine uI_k fun a2 e => ?_; subst e
  refine u0_k fun e => ?_; subst e
  refine uE_k fun e => ?_; subst e
  exact .inr ⟨a1, a2, rfl, rfl⟩

theorem rc48_0 (args : List (PV sig)) (m : Mem sig) : (∀ (C : Tab) (ρ : Type) (K : Res sig × Mem sig → Option ρ), Rc48_0 C ρ args m K = none) ∨ ∃ (a1 : Tm) (a2 : Int), args = [.agg [.d (.int .i64 a1.op), .d (.int .i64 a1.head), .d (.int .i64 a1.n), .d (.sl Key.tm a1.args)], .d (.int .i64 a2)] ∧ m = [] := by
  unfold Rc48_0
  refine uC_k fun x0 x1 e => ?_; subst e
  refine uTm_k fun a1 e => ?_; subst e
  refine uC_k fun x2 x3 e => ?_; subst e
  refine uI_k fun a2 e => ?_; subst e
  refine u0_k fun e => ?_; subst e
  refine uE_k fun e => ?_; subst e
  exact .inr ⟨a1, a2, rfl, rfl⟩

theorem rc49_0 (args : List (PV sig)) (m : Mem sig) : (∀ (C : Tab) (ρ : Type) (K : Res sig × Mem sig → Option ρ), Rc49_0 C ρ args m K = none) ∨ ∃ (a1 : Sm) (a2 : Int), args = [.agg [.d (.sl Key.sm a1.args), .d (.int .i64 a1.con)], .d (.int .i64 a2)] ∧ m = [] := by
  unfold Rc49_0
  refine uC_k fun x0 x1 e => ?_; subst e
  refine uSm_k fun a1 e => ?_; subst e
  refine uC_k fun x2 x3 e => ?_; subst e
  refine uI_k fun a2 e => ?_; subst e
  refine u0_k fun e => ?_; subst e
  refine uE_k fun e => ?_; subst e
  exact .inr ⟨a1, a2, rfl, rfl⟩

theorem rc50_0 (args : List (PV sig)) (m : Mem sig) : (∀ (C : Tab) (ρ : Type) (K : Res sig × Mem sig → Option ρ), Rc50_0 C ρ args m K = none) ∨ ∃ (a1 : Tm) (a2 : Int) (a3 : Int), args = [.agg [.d (.int .i64 a1.op), .d (.int .i64 a1.head), .d (.int .i64 a1.n), .d (.sl Key.tm a1.args)], .d (.int .i64 a2), .d (.int .i64 a3)] ∧ m = [] := by
  unfold Rc50_0
  refine uC_k fun x0 x1 e => ?_; subst e
  refine uTm_k fun a1 e => ?_; subst e
  refine uC_k fun x2 x3 e => ?_; subst e
  refine uI_k fun a2 e => ?_; subst e
  refine uC_k fun x4 x5 e => ?_; subst e
  refine uI_k fun a3 e => ?_; subst e
  refine u0_k fun e => ?_; subst e
  refine uE_k fun e => ?_; subst e
  exact .inr ⟨a1, a2, a3, rfl, rfl⟩

theorem rc51_0 (args : List (PV sig)) (m : Mem sig) : (∀ (C : Tab) (ρ : Type) (K : Res sig × Mem sig → Option ρ), Rc51_0 C ρ args m K = none) ∨ ∃ (a1 : Tm) (a2 : Int) (a3 : Int), args = [.agg [.d (.int .i64 a1.op), .d (.int .i64 a1.head), .d (.int .i64 a1.n), .d (.sl Key.tm a1.args)], .d (.int .i64 a2), .d (.int .i64 a3)] ∧ m = [] := by
  unfold Rc51_0
  refine uC_k fun x0 x1 e => ?_; subst e
  refine uTm_k fun a1 e => ?_; subst e
  refine uC_k fun x2 x3 e => ?_; subst e
  refine uI_k fun a2 e => ?_; subst e
  refine uC_k fun x4 x5 e => ?_; subst e
  refine uI_k fun a3 e => ?_; subst e
  refine u0_k fun e => ?_; subst e
  refine uE_k fun e => ?_; subst e
  exact .inr ⟨a1, a2, a3, rfl, rfl⟩

theorem rc52_0 (args : List (PV sig)) (m : Mem sig) : (∀ (C : Tab) (ρ : Type) (K : Res sig × Mem sig → Option ρ), Rc52_0 C ρ args m K = none) ∨ ∃ (a1 : Int) (a2 : Int) (a3 : Sm), args = [.d (.int .i64 a1), .d (.int .i64 a2), .agg [.d (.sl Key.sm a3.args), .d (.int .i64 a3.con)]] ∧ m = [] := by
  unfold Rc52_0
  refine uC_k fun x0 x1 e => ?_; subst e
  refine uI_k fun a1 e => ?_; subst e
  refine uC_k fun x2 x3 e => ?_; subst e
  refine uI_k fun a2 e => ?_; subst e
  refine uC_k fun x4 x5 e => ?_; subst e
  refine uSm_k fun a3 e => ?_; subst e
  refine u0_k fun e => ?_; subst e
  refine uE_k fun e => ?_; subst e
  exact .inr ⟨a1, a2, a3, rfl, rfl⟩

theorem rc53_0 (args : List (PV sig)) (m : Mem sig) : (∀ (C : Tab) (ρ : Type) (K : Res sig × Mem sig → Option ρ), Rc53_0 C ρ args m K = none) ∨ ∃ (a1 : Tm), args = [.agg [.d (.int .i64 a1.op), .d (.int .i64 a1.head), .d (.int .i64 a1.n), .d (.sl Key.tm a1.args)]] ∧ m = [] := by
  unfold Rc53_0
  refine uC_k fun x0 x1 e => ?_; subst e
  refine uTm_k fun a1 e => ?_; subst e
  refine u0_k fun e => ?_; subst e
  refine uE_k fun e => ?_; subst e
  exact .inr ⟨a1, rfl, rfl⟩

theorem rc54_0 (args : List (PV sig)) (m : Mem sig) : (∀ (C : Tab) (ρ : Type) (K : Res sig × Mem sig → Option ρ), Rc54_0 C ρ args m K = none) ∨ ∃ (a1 : Tm), args = [.agg [.d (.int .i64 a1.op), .d (.int .i64 a1.head), .d (.int .i64 a1.n), .d (.sl Key.tm a1.args)]] ∧ m = [] := by
  unfold Rc54_0
  refine uC_k fun x0 x1 e => ?_; subst e
  refine uTm_k fun a1 e => ?_; subst e
  refine u0_k fun e => ?_; subst e
  refine uE_k fun e => ?_; subst e
  exact .inr ⟨a1, rfl, rfl⟩

theorem rc55_0 (args : List (PV sig)) (m : Mem sig) : (∀ (C : Tab) (ρ : Type) (K : Res sig × Mem sig → Option ρ), Rc55_0 C ρ args m K = none) ∨ ∃ (a1 : Tm) (a2 : List Tm) (a3 : Sm) (a4 : Int), args = [.ptr 0 0, .agg [.d (.int .i64 a1.op), .d (.int .i64 a1.head), .d (.int .i64 a1.n), .d (.sl Key.tm a1.args)], .d (.sl Key.tm a2), .agg [.d (.sl Key.sm a3.args), .d (.int .i64 a3.con)]] ∧ m = [some [.d (.int .i64 a4)]] := by
  unfold Rc55_0
  refine uC_k fun x0 x1 e => ?_; subst e
  refine uP_k fun e => ?_; subst e
  refine uC_k fun x2 x3 e => ?_; subst e
  refine uTm_k fun a1 e => ?_; subst e
  refine uC_k fun x4 x5 e => ?_; subst e
  refine uS_k fun a2 e => ?_; subst e
  refine uC_k fun x6 x7 e => ?_; subst e
  refine uSm_k fun a3 e => ?_; subst e
  refine u0_k fun e => ?_; subst e
  refine uM_k fun x9 x8 e => ?_; subst e
  refine uC_k fun x10 x11 e => ?_; subst e
  refine uI_k fun a4 e => ?_; subst e
  refine u0_k fun e => ?_; subst e
  refine uE_k fun e => ?_; subst e
  exact .inr ⟨a1, a2, a3, a4, rfl, rfl⟩

theorem rc56_0 (args : List (PV sig)) (m : Mem sig) : (∀ (C : Tab) (ρ : Type) (K : Res sig × Mem sig → Option ρ), Rc56_0 C ρ args m K = none) ∨ ∃ (a1 : List Tm), args = [.d (.sl Key.tm a1)] ∧ m = [] := by
  unfold Rc56_0
  refine uC_k fun x0 x1 e => ?_; subst e
  refine uS_k fun a1 e => ?_; subst e
  refine u0_k fun e => ?_; subst e
  refine uE_k fun e => ?_; subst e
  exact .inr ⟨a1, rfl, rfl⟩

theorem rc57_0 (args : List (PV sig)) (m : Mem sig) : (∀ (C : Tab) (ρ : Type) (K : Res sig × Mem sig → Option ρ), Rc57_0 C ρ args m K = none) ∨ ∃ (a1 : Tm) (a2 : List Tm) (a3 : Sm) (a4 : Int), args = [.ptr 0 0, .agg [.d (.int .i64 a1.op), .d (.int .i64 a1.head), .d (.int .i64 a1.n), .d (.sl Key.tm a1.args)], .d (.sl Key.tm a2), .agg [.d (.sl Key.sm a3.args), .d (.int .i64 a3.con)]] ∧ m = [some [.d (.int .i64 a4)]] := by
  unfold Rc57_0
  refine uC_k fun x0 x1 e => ?_; subst e
  refine uP_k fun e => ?_; subst e
  refine uC_k fun x2 x3 e => ?_; subst e
  refine uTm_k fun a1 e => ?_; subst e
  refine uC_k fun x4 x5 e => ?_; subst e
  refine uS_k fun a2 e => ?_; subst e
  refine uC_k fun x6 x7 e => ?_; subst e
  refine uSm_k fun a3 e => ?_; subst e
  refine u0_k fun e => ?_; subst e
  refine uM_k fun x9 x8 e => ?_; subst e
  refine uC_k fun x10 x11 e => ?_; subst e
  refine uI_k fun a4 e => ?_; subst e
  refine u0_k fun e => ?_; subst e
  refine uE_k fun e => ?_; subst e
  exact .inr ⟨a1, a2, a3, a4, rfl, rfl⟩

theorem rc58_0 (args : List (PV sig)) (m : Mem sig) : (∀ (C : Tab) (ρ : Type) (K : Res sig × Mem sig → Option ρ), Rc58_0 C ρ args m K = none) ∨ ∃ (a1 : Tm) (a2 : Int), args = [.agg [.d (.int .i64 a1.op), .d (.int .i64 a1.head), .d (.int .i64 a1.n), .d (.sl Key.tm a1.args)], .d (.int .i64 a2)] ∧ m = [] := by
  unfold Rc58_0
  refine uC_k fun x0 x1 e => ?_; subst e
  refine uTm_k fun a1 e => ?_; subst e
  refine uC_k fun x2 x3 e => ?_; subst e
  refine uI_k fun a2 e => ?_; subst e
  refine u0_k fun e => ?_; subst e
  refine uE_k fun e => ?_; subst e
  exact .inr ⟨a1, a2, rfl, rfl⟩

theorem rc59_0 (args : List (PV sig)) (m : Mem sig) : (∀ (C : Tab) (ρ : Type) (K : Res sig × Mem sig → Option ρ), Rc59_0 C ρ args m K = none) ∨ ∃ (a1 : Tm), args = [.agg [.d (.int .i64 a1.op), .d (.int .i64 a1.head), .d (.int .i64 a1.n), .d (.sl Key.tm a1.args)]] ∧ m = [] := by
  unfold Rc59_0
  refine uC_k fun x0 x1 e => ?_; subst e
  refine uTm_k fun a1 e => ?_; subst e
  refine u0_k fun e => ?_; subst e
  refine uE_k fun e => ?_; subst e
  exact .inr ⟨a1, rfl, rfl⟩

theorem rc60_0 (args : List (PV sig)) (m : Mem sig) : (∀ (C : Tab) (ρ : Type) (K : Res sig × Mem sig → Option ρ), Rc60_0 C ρ args m K = none) ∨ ∃ (a1 : Tm) (a2 : Int), args = [.agg [.d (.int .i64 a1.op), .d (.int .i64 a1.head), .d (.int .i64 a1.n), .d (.sl Key.tm a1.args)], .d (.int .i64 a2)] ∧ m = [] := by
  unfold Rc60_0
  refine uC_k fun x0 x1 e => ?_; subst e
  refine uTm_k fun a1 e => ?_; subst e
  refine uC_k fun x2 x3 e => ?_; subst e
  refine uI_k fun a2 e => ?_; subst e
  refine u0_k fun e => ?_; subst e
  refine uE_k fun e => ?_; subst e
  exact .inr ⟨a1, a2, rfl, rfl⟩

theorem rc61_0 (args : List (PV sig)) (m : Mem sig) : (∀ (C : Tab) (ρ : Type) (K : Res sig × Mem sig → Option ρ), Rc61_0 C ρ args m K = none) ∨ ∃ (a1 : Int) (a2 : Int) (a3 : Sm), args = [.d (.int .i64 a1), .d (.int .i64 a2), .agg [.d (.sl Key.sm a3.args), .d (.int .i64 a3.con)]] ∧ m = [] := by
  unfold Rc61_0
  refine uC_k fun x0 x1 e => ?_; subst e
  refine uI_k fun a1 e => ?_; subst e
  refine uC_k fun x2 x3 e => ?_; subst e
  refine uI_k fun a2 e => ?_; subst e
  refine uC_k fun x4 x5 e => ?_; subst e
  refine uSm_k fun a3 e => ?_; subst e
  refine u0_k fun e => ?_; subst e
  refine uE_k fun e => ?_; subst e
  exact .inr ⟨a1, a2, a3, rfl, rfl⟩

theorem rc62_0 (args : List (PV sig)) (m : Mem sig) : (∀ (C : Tab) (ρ : Type) (K : Res sig × Mem sig → Option ρ), Rc62_0 C ρ args m K = none) ∨ ∃ (a1 : Int), args = [.d (.int .i64 a1)] ∧ m = [] := by
  unfold Rc62_0
  refine uC_k fun x0 x1 e => ?_; subst e
  refine uI_k fun a1 e => ?_; subst e
  refine u0_k fun e => ?_; subst e
  refine uE_k fun e => ?_; subst e
  exact .inr ⟨a1, rfl, rfl⟩

theorem rc63_0 (args : List (PV sig)) (m : Mem sig) : (∀ (C : Tab) (ρ : Type) (K : Res sig × Mem sig → Option ρ), Rc63_0 C ρ args m K = none) ∨ ∃ (a1 : Tm), args = [.agg [.d (.int .i64 a1.op), .d (.int .i64 a1.head), .d (.int .i64 a1.n), .d (.sl Key.tm a1.args)]] ∧ m = [] := by
  unfold Rc63_0
  refine uC_k fun x0 x1 e => ?_; subst e
  refine uTm_k fun a1 e => ?_; subst e
  refine u0_k fun e => ?_; subst e
  refine uE_k fun e => ?_; subst e
  exact .inr ⟨a1, rfl, rfl⟩

theorem rc64_0 (args : List (PV sig)) (m : Mem sig) : (∀ (C : Tab) (ρ : Type) (K : Res sig × Mem sig → Option ρ), Rc64_0 C ρ args m K = none) ∨ ∃ (a1 : Sm), args = [.agg [.d (.sl Key.sm a1.args), .d (.int .i64 a1.con)]] ∧ m = [] := by
  unfold Rc64_0
  refine uC_k fun x0 x1 e => ?_; subst e
  refine uSm_k fun a1 e => ?_; subst e
  refine u0_k fun e => ?_; subst e
  refine uE_k fun e => ?_; subst e
  exact .inr ⟨a1, rfl, rfl⟩

theorem rc65_0 (args : List (PV sig)) (m : Mem sig) : (∀ (C : Tab) (ρ : Type) (K : Res sig × Mem sig → Option ρ), Rc65_0 C ρ args m K = none) ∨ ∃ (a1 : Tm) (a2 : Tm) (a3 : Int), args = [.ptr 0 0, .agg [.d (.int .i64 a1.op), .d (.int .i64 a1.head), .d (.int .i64 a1.n), .d (.sl Key.tm a1.args)], .agg [.d (.int .i64 a2.op), .d (.int .i64 a2.head), .d (.int .i64 a2.n), .d (.sl Key.tm a2.args)]] ∧ m = [some [.d (.int .i64 a3)]] := by
  unfold Rc65_0
  refine uC_k fun x0 x1 e => ?_; subst e
  refine uP_k fun e => ?_; subst e
  refine uC_k fun x2 x3 e => ?_; subst e
  refine uTm_k fun a1 e => ?_; subst e
  refine uC_k fun x4 x5 e => ?_; subst e
  refine uTm_k fun a2 e => ?_; subst e
  refine u0_k fun e => ?_; subst e
  refine uM_k fun x7 x6 e => ?_; subst e
  refine uC_k fun x8 x9 e => ?_; subst e
  refine uI_k fun a3 e => ?_; subst e
  refine u0_k fun e => ?_; subst e
  refine uE_k fun e => ?_; subst e
  exact .inr ⟨a1, a2, a3, rfl, rfl⟩

theorem rc66_0 (args : List (PV sig)) (m : Mem sig) : (∀ (C : Tab) (ρ : Type) (K : Res sig × Mem sig → Option ρ), Rc66_0 C ρ args m K = none) ∨ ∃ (a1 : List Sm), args = [.d (.sl Key.sm a1), .fn (.func 67) [] []] ∧ m = [] := by
  unfold Rc66_0
  refine uC_k fun x0 x1 e => ?_; subst e
  refine uS_k fun a1 e => ?_; subst e
  refine uC_k fun x2 x3 e => ?_; subst e
  refine uFn_k fun x4 x5 e => ?_; subst e
  refine u0_k fun e => ?_; subst e
  refine u0_k fun e => ?_; subst e
  refine u0_k fun e => ?_; subst e
  refine uE_k fun e => ?_; subst e
  exact .inr ⟨a1, rfl, rfl⟩

theorem rc66_1 (args : List (PV sig)) (m : Mem sig) : (∀ (C : Tab) (ρ : Type) (K : Res sig × Mem sig → Option ρ), Rc66_1 C ρ args m K = none) ∨ ∃ (a1 : List Sm) (a2 : Int), args = [.d (.sl Key.sm a1), .fn (.func 88) [] [.ptr 0 0]] ∧ m = [some [.ptr 1 0], some [.d (.int .i64 a2)]] := by
  unfold Rc66_1
  refine uC_k fun x0 x1 e => ?_; subst e
  refine uS_k fun a1 e => ?_; subst e
  refine uC_k fun x2 x3 e => ?_; subst e
  refine uFn_k fun x4 x5 e => ?_; subst e
  refine u0_k fun e => ?_; subst e
  refine uC_k fun x6 x7 e => ?_; subst e
  refine uP_k fun e => ?_; subst e
  refine u0_k fun e => ?_; subst e
  refine u0_k fun e => ?_; subst e
  refine uM_k fun x9 x8 e => ?_; subst e
  refine uC_k fun x10 x11 e => ?_; subst e
  refine uP_k fun e => ?_; subst e
  refine u0_k fun e => ?_; subst e
  refine uM_k fun x13 x12 e => ?_; subst e
  refine uC_k fun x14 x15 e => ?_; subst e
  refine uI_k fun a2 e => ?_; subst e
  refine u0_k fun e => ?_; subst e
  refine uE_k fun e => ?_; subst e
  exact .inr ⟨a1, a2, rfl, rfl⟩

theorem rc67_0 (args : List (PV sig)) (m : Mem sig) : (∀ (C : Tab) (ρ : Type) (K : Res sig × Mem sig → Option ρ), Rc67_0 C ρ args m K = none) ∨ ∃ (a1 : Sm), args = [.agg [.d (.sl Key.sm a1.args), .d (.int .i64 a1.con)]] ∧ m = [] := by
  unfold Rc67_0
  refine uC_k fun x0 x1 e => ?_; subst e
  refine uSm_k fun a1 e => ?_; subst e
  refine u0_k fun e => ?_; subst e
  refine uE_k fun e => ?_; subst e
  exact .inr ⟨a1, rfl, rfl⟩

theorem rc68_0 (args : List (PV sig)) (m : Mem sig) : (∀ (C : Tab) (ρ : Type) (K : Res sig × Mem sig → Option ρ), Rc68_0 C ρ args m K = none) ∨ ∃ (a1 : List Int), args = [.d (.sl Key.int a1), .fn (.func 69) [] []] ∧ m = [] := by
  unfold Rc68_0
  refine uC_k fun x0 x1 e => ?_; subst e
  refine uS_k fun a1 e => ?_; subst e
  refine uC_k fun x2 x3 e => ?_; subst e
  refine uFn_k fun x4 x5 e => ?_; subst e
  refine u0_k fun e => ?_; subst e
  refine u0_k fun e => ?_; subst e
  refine u0_k fun e => ?_; subst e
  refine uE_k fun e => ?_; subst e
  exact .inr ⟨a1, rfl, rfl⟩

theorem rc69_0 (args : List (PV sig)) (m : Mem sig) : (∀ (C : Tab) (ρ : Type) (K : Res sig × Mem sig → Option ρ), Rc69_0 C ρ args m K = none) ∨ ∃ (a1 : Int), args = [.d (.int .i64 a1)] ∧ m = [] := by
  unfold Rc69_0
  refine uC_k fun x0 x1 e => ?_; subst e
  refine uI_k fun a1 e => ?_; subst e
  refine u0_k fun e => ?_; subst e
  refine uE_k fun e => ?_; subst e
  exact .inr ⟨a1, rfl, rfl⟩

theorem rc70_0 (args : List (PV sig)) (m : Mem sig) : (∀ (C : Tab) (ρ : Type) (K : Res sig × Mem sig → Option ρ), Rc70_0 C ρ args m K = none) ∨ ∃ (a1 : Tm) (a2 : Int), args = [.agg [.d (.int .i64 a1.op), .d (.int .i64 a1.head), .d (.int .i64 a1.n), .d (.sl Key.tm a1.args)], .d (.int .i64 a2)] ∧ m = [] := by
  unfold Rc70_0
  refine uC_k fun x0 x1 e => ?_; subst e
  refine uTm_k fun a1 e => ?_; subst e
  refine uC_k fun x2 x3 e => ?_; subst e
  refine uI_k fun a2 e => ?_; subst e
  refine u0_k fun e => ?_; subst e
  refine uE_k fun e => ?_; subst e
  exact .inr ⟨a1, a2, rfl, rfl⟩

theorem rc71_0 (args : List (PV sig)) (m : Mem sig) : (∀ (C : Tab) (ρ : Type) (K : Res sig × Mem sig → Option ρ), Rc71_0 C ρ args m K = none) ∨ ∃ (a1 : Tm), args = [.agg [.d (.int .i64 a1.op), .d (.int .i64 a1.head), .d (.int .i64 a1.n), .d (.sl Key.tm a1.args)]] ∧ m = [] := by
  unfold Rc71_0
  refine uC_k fun x0 x1 e => ?_; subst e
  refine uTm_k fun a1 e => ?_; subst e
  refine u0_k fun e => ?_; subst e
  refine uE_k fun e => ?_; subst e
  exact .inr ⟨a1, rfl, rfl⟩

theorem rc72_0 (args : List (PV sig)) (m : Mem sig) : (∀ (C : Tab) (ρ : Type) (K : Res sig × Mem sig → Option ρ), Rc72_0 C ρ args m K = none) ∨ ∃ (a1 : Tm) (a2 : Int), args = [.agg [.d (.int .i64 a1.op), .d (.int .i64 a1.head), .d (.int .i64 a1.n), .d (.sl Key.tm a1.args)], .d (.int .i64 a2)] ∧ m = [] := by
  unfold Rc72_0
  refine uC_k fun x0 x1 e => ?_; subst e
  refine uTm_k fun a1 e => ?_; subst e
  refine uC_k fun x2 x3 e => ?_; subst e
  refine uI_k fun a2 e => ?_; subst e
  refine u0_k fun e => ?_; subst e
  refine uE_k fun e => ?_; subst e
  exact .inr ⟨a1, a2, rfl, rfl⟩

theorem rc73_0 (args : List (PV sig)) (m : Mem sig) : (∀ (C : Tab) (ρ : Type) (K : Res sig × Mem sig → Option ρ), Rc73_0 C ρ args m K = none) ∨ ∃ (a1 : Tm), args = [.agg [.d (.int .i64 a1.op), .d (.int .i64 a1.head), .d (.int .i64 a1.n), .d (.sl Key.tm a1.args)]] ∧ m = [] := by
  unfold Rc73_0
  refine uC_k fun x0 x1 e => ?_; subst e
  refine uTm_k fun a1 e => ?_; subst e
  refine u0_k fun e => ?_; subst e
  refine uE_k fun e => ?_; subst e
  exact .inr ⟨a1, rfl, rfl⟩

theorem rc74_0 (args : List (PV sig)) (m : Mem sig) : (∀ (C : Tab) (ρ : Type) (K : Res sig × Mem sig → Option ρ), Rc74_0 C ρ args m K = none) ∨ ∃ (a1 : Tm) (a2 : Int) (a3 : Int), args = [.agg [.d (.int .i64 a1.op), .d (.int .i64 a1.head), .d (.int .i64 a1.n), .d (.sl Key.tm a1.args)], .d (.int .i64 a2), .ptr 0 0] ∧ m = [some [.d (.int .i64 a3)]] := by
  unfold Rc74_0
  refine uC_k fun x0 x1 e => ?_; subst e
  refine uTm_k fun a1 e => ?_; subst e
  refine uC_k fun x2 x3 e => ?_; subst e
  refine uI_k fun a2 e => ?_; subst e
  refine uC_k fun x4 x5 e => ?_; subst e
  refine uP_k fun e => ?_; subst e
  refine u0_k fun e => ?_; subst e
  refine uM_k fun x7 x6 e => ?_; subst e
  refine uC_k fun x8 x9 e => ?_; subst e
  refine uI_k fun a3 e => ?_; subst e
  refine u0_k fun e => ?_; subst e
  refine uE_k fun e => ?_; subst e
  exact .inr ⟨a1, a2, a3, rfl, rfl⟩

theorem rc75_0 (args : List (PV sig)) (m : Mem sig) : (∀ (C : Tab) (ρ : Type) (K : Res sig × Mem sig → Option ρ), Rc75_0 C ρ args m K = none) ∨ ∃ (a1 : Tm) (a2 : Int), args = [.agg [.d (.int .i64 a1.op), .d (.int .i64 a1.head), .d (.int .i64 a1.n), .d (.sl Key.tm a1.args)], .d (.int .i64 a2), .fn (.func 76) [] []] ∧ m = [] := by
  unfold Rc75_0
  refine uC_k fun x0 x1 e => ?_; subst e
  refine uTm_k fun a1 e => ?_; subst e
  refine uC_k fun x2 x3 e => ?_; subst e
  refine uI_k fun a2 e => ?_; subst e
  refine uC_k fun x4 x5 e => ?_; subst e
  refine uFn_k fun x6 x7 e => ?_; subst e
  refine u0_k fun e => ?_; subst e
  refine u0_k fun e => ?_; subst e
  refine u0_k fun e => ?_; subst e
  refine uE_k fun e => ?_; subst e
  exact .inr ⟨a1, a2, rfl, rfl⟩

theorem rc75_1 (args : List (PV sig)) (m : Mem sig) : (∀ (C : Tab) (ρ : Type) (K : Res sig × Mem sig → Option ρ), Rc75_1 C ρ args m K = none) ∨ ∃ (a1 : Tm) (a2 : Int) (a3 : Int) (a4 : Int), args = [.agg [.d (.int .i64 a1.op), .d (.int .i64 a1.head), .d (.int .i64 a1.n), .d (.sl Key.tm a1.args)], .d (.int .i64 a2), .fn (.func 89) [] [.ptr 0 0, .ptr 1 0]] ∧ m = [some [.d (.int .i64 a3)], some [.d (.int .i64 a4)]] := by
  unfold Rc75_1
  refine uC_k fun x0 x1 e => ?_; subst e
  refine uTm_k fun a1 e => ?_; subst e
  refine uC_k fun x2 x3 e => ?_; subst e
  refine uI_k fun a2 e => ?_; subst e
  refine uC_k fun x4 x5 e => ?_; subst e
  refine uFn_k fun x6 x7 e => ?_; subst e
  refine u0_k fun e => ?_; subst e
  refine uC_k fun x8 x9 e => ?_; subst e
  refine uP_k fun e => ?_; subst e
  refine uC_k fun x10 x11 e => ?_; subst e
  refine uP_k fun e => ?_; subst e
  refine u0_k fun e => ?_; subst e
  refine u0_k fun e => ?_; subst e
  refine uM_k fun x13 x12 e => ?_; subst e
  refine uC_k fun x14 x15 e => ?_; subst e
  refine uI_k fun a3 e => ?_; subst e
  refine u0_k fun e => ?_; subst e
  refine uM_k fun x17 x16 e => ?_; subst e
  refine uC_k fun x18 x19 e => ?_; subst e
  refine uI_k fun a4 e => ?_; subst e
  refine u0_k fun e => ?_; subst e
  refine uE_k fun e => ?_; subst e
  exact .inr ⟨a1, a2, a3, a4, rfl, rfl⟩

theorem rc76_0 (args : List (PV sig)) (m : Mem sig) : (∀ (C : Tab) (ρ : Type) (K : Res sig × Mem sig → Option ρ), Rc76_0 C ρ args m K = none) ∨ ∃ (a1 : Tm) (a2 : Int), args = [.agg [.d (.int .i64 a1.op), .d (.int .i64 a1.head), .d (.int .i64 a1.n), .full Key.tm a1.args], .d (.int .i64 a2)] ∧ m = [] := by
  unfold Rc76_0
  refine uC_k fun x0 x1 e => ?_; subst e
  refine uTm_k fun a1 e => ?_; subst e
  refine uC_k fun x2 x3 e => ?_; subst e
  refine uI_k fun a2 e => ?_; subst e
  refine u0_k fun e => ?_; subst e
  refine uE_k fun e => ?_; subst e
  exact .inr ⟨a1, a2, rfl, rfl⟩

theorem rc77_0 (args : List (PV sig)) (m : Mem sig) : (∀ (C : Tab) (ρ : Type) (K : Res sig × Mem sig → Option ρ), Rc77_0 C ρ args m K = none) ∨ ∃ (a1 : Tm) (a2 : Int) (a3 : Int), args = [.agg [.d (.int .i64 a1.op), .d (.int .i64 a1.head), .d (.int .i64 a1.n), .d (.sl Key.tm a1.args)], .d (.int .i64 a2), .d (.int .i64 a3)] ∧ m = [] := by
  unfold Rc77_0
  refine uC_k fun x0 x1 e => ?_; subst e
  refine uTm_k fun a1 e => ?_; subst e
  refine uC_k fun x2 x3 e => ?_; subst e
  refine uI_k fun a2 e => ?_; subst e
  refine uC_k fun x4 x5 e => ?_; subst e
  refine uI_k fun a3 e => ?_; subst e
  refine u0_k fun e => ?_; subst e
  refine uE_k fun e => ?_; subst e
  exact .inr ⟨a1, a2, a3, rfl, rfl⟩

theorem rc78_0 (args : List (PV sig)) (m : Mem sig) : (∀ (C : Tab) (ρ : Type) (K : Res sig × Mem sig → Option ρ), Rc78_0 C ρ args m K = none) ∨ ∃ (a1 : Tm) (a2 : Int) (a3 : Int), args = [.agg [.d (.int .i64 a1.op), .d (.int .i64 a1.head), .d (.int .i64 a1.n), .d (.sl Key.tm a1.args)], .d (.int .i64 a2), .d (.int .i64 a3)] ∧ m = [] := by
  unfold Rc78_0
  refine uC_k fun x0 x1 e => ?_; subst e
  refine uTm_k fun a1 e => ?_; subst e
  refine uC_k fun x2 x3 e => ?_; subst e
  refine uI_k fun a2 e => ?_; subst e
  refine uC_k fun x4 x5 e => ?_; subst e
  refine uI_k fun a3 e => ?_; subst e
  refine u0_k fun e => ?_; subst e
  refine uE_k fun e => ?_; subst e
  exact .inr ⟨a1, a2, a3, rfl, rfl⟩

theorem rc79_0 (args : List (PV sig)) (m : Mem sig) : (∀ (C : Tab) (ρ : Type) (K : Res sig × Mem sig → Option ρ), Rc79_0 C ρ args m K = none) ∨ ∃ (a1 : Tm), args = [.agg [.d (.int .i64 a1.op), .d (.int .i64 a1.head), .d (.int .i64 a1.n), .d (.sl Key.tm a1.args)]] ∧ m = [] := by
  unfold Rc79_0
  refine uC_k fun x0 x1 e => ?_; subst e
  refine uTm_k fun a1 e => ?_; subst e
  refine u0_k fun e => ?_; subst e
  refine uE_k fun e => ?_; subst e
  exact .inr ⟨a1, rfl, rfl⟩

theorem rc80_0 (args : List (PV sig)) (m : Mem sig) : (∀ (C : Tab) (ρ : Type) (K : Res sig × Mem sig → Option ρ), Rc80_0 C ρ args m K = none) ∨ ∃ (a1 : Sm) (a2 : Int), args = [.agg [.d (.sl Key.sm a1.args), .d (.int .i64 a1.con)], .ptr 0 0] ∧ m = [some [.d (.int .i64 a2)]] := by
  unfold Rc80_0
  refine uC_k fun x0 x1 e => ?_; subst e
  refine uSm_k fun a1 e => ?_; subst e
  refine uC_k fun x2 x3 e => ?_; subst e
  refine uP_k fun e => ?_; subst e
  refine u0_k fun e => ?_; subst e
  refine uM_k fun x5 x4 e => ?_; subst e
  refine uC_k fun x6 x7 e => ?_; subst e
  refine uI_k fun a2 e => ?_; subst e
  refine u0_k fun e => ?_; subst e
  refine uE_k fun e => ?_; subst e
  exact .inr ⟨a1, a2, rfl, rfl⟩

theorem rc81_0 (args : List (PV sig)) (m : Mem sig) : (∀ (C : Tab) (ρ : Type) (K : Res sig × Mem sig → Option ρ), Rc81_0 C ρ args m K = none) ∨ ∃ (a1 : Tm), args = [.agg [.d (.int .i64 a1.op), .d (.int .i64 a1.head), .d (.int .i64 a1.n), .d (.sl Key.tm a1.args)]] ∧ m = [] := by
  unfold Rc81_0
  refine uC_k fun x0 x1 e => ?_; subst e
  refine uTm_k fun a1 e => ?_; subst e
  refine u0_k fun e => ?_; subst e
  refine uE_k fun e => ?_; subst e
  exact .inr ⟨a1, rfl, rfl⟩

theorem rc82_0 (args : List (PV sig)) (m : Mem sig) : (∀ (C : Tab) (ρ : Type) (K : Res sig × Mem sig → Option ρ), Rc82_0 C ρ args m K = none) ∨ ∃ (a1 : List Sm), args = [.d (.sl Key.sm a1), .fn (.func 67) [] []] ∧ m = [] := by
  unfold Rc82_0
  refine uC_k fun x0 x1 e => ?_; subst e
  refine uS_k fun a1 e => ?_; subst e
  refine uC_k fun x2 x3 e => ?_; subst e
  refine uFn_k fun x4 x5 e => ?_; subst e
  refine u0_k fun e => ?_; subst e
  refine u0_k fun e => ?_; subst e
  refine u0_k fun e => ?_; subst e
  refine uE_k fun e => ?_; subst e
  exact .inr ⟨a1, rfl, rfl⟩

theorem rc82_1 (args : List (PV sig)) (m : Mem sig) : (∀ (C : Tab) (ρ : Type) (K : Res sig × Mem sig → Option ρ), Rc82_1 C ρ args m K = none) ∨ ∃ (a1 : List Sm) (a2 : Int), args = [.d (.sl Key.sm a1), .fn (.func 88) [] [.ptr 0 0]] ∧ m = [some [.ptr 1 0], some [.d (.int .i64 a2)]] := by
  unfold Rc82_1
  refine uC_k fun x0 x1 e => ?_; subst e
  refine uS_k fun a1 e => ?_; subst e
  refine uC_k fun x2 x3 e => ?_; subst e
  refine uFn_k fun x4 x5 e => ?_; subst e
  refine u0_k fun e => ?_; subst e
  refine uC_k fun x6 x7 e => ?_; subst e
  refine uP_k fun e => ?_; subst e
  refine u0_k fun e => ?_; subst e
  refine u0_k fun e => ?_; subst e
  refine uM_k fun x9 x8 e => ?_; subst e
  refine uC_k fun x10 x11 e => ?_; subst e
  refine uP_k fun e => ?_; subst e
  refine u0_k fun e => ?_; subst e
  refine uM_k fun x13 x12 e => ?_; subst e
  refine uC_k fun x14 x15 e => ?_; subst e
  refine uI_k fun a2 e => ?_; subst e
  refine u0_k fun e => ?_; subst e
  refine uE_k fun e => ?_; subst e
  exact .inr ⟨a1, a2, rfl, rfl⟩

theorem rc83_0 (args : List (PV sig)) (m : Mem sig) : (∀ (C : Tab) (ρ : Type) (K : Res sig × Mem sig → Option ρ), Rc83_0 C ρ args m K = none) ∨ ∃ (a1 : List Int), args = [.d (.sl Key.int a1), .fn (.func 69) [] []] ∧ m = [] := by
  unfold Rc83_0
  refine uC_k fun x0 x1 e => ?_; subst e
  refine uS_k fun a1 e => ?_; subst e
  refine uC_k fun x2 x3 e => ?_; subst e
  refine uFn_k fun x4 x5 e => ?_; subst e
  refine u0_k fun e => ?_; subst e
  refine u0_k fun e => ?_; subst e
  refine u0_k fun e => ?_; subst e
  refine uE_k fun e => ?_; subst e
  exact .inr ⟨a1, rfl, rfl⟩

theorem rc84_0 (args : List (PV sig)) (m : Mem sig) : (∀ (C : Tab) (ρ : Type) (K : Res sig × Mem sig → Option ρ), Rc84_0 C ρ args m K = none) ∨ ∃ (a1 : Tm) (a2 : Int) (a3 : Int) (a4 : Bool) (a5 : Int) (a6 : Bool), args = [.agg [.d (.int .i64 a1.op), .d (.int .i64 a1.head), .d (.int .i64 a1.n), .d (.sl Key.tm a1.args)], .d (.int .i64 a2), .fn (.func 85) [] [.ptr 0 0, .ptr 1 0, .ptr 2 0, .ptr 3 0]] ∧ m = [some [.d (.int .i64 a3)], some [.d (.bool a4)], some [.d (.int .i64 a5)], some [.d (.bool a6)]] := by
  unfold Rc84_0
  refine uC_k fun x0 x1 e => ?_; subst e
  refine uTm_k fun a1 e => ?_; subst e
  refine uC_k fun x2 x3 e => ?_; subst e
  refine uI_k fun a2 e => ?_; subst e
  refine uC_k fun x4 x5 e => ?_; subst e
  refine uFn_k fun x6 x7 e => ?_; subst e
  refine u0_k fun e => ?_; subst e
  refine uC_k fun x8 x9 e => ?_; subst e
  refine uP_k fun e => ?_; subst e
  refine uC_k fun x10 x11 e => ?_; subst e
  refine uP_k fun e => ?_; subst e
  refine uC_k fun x12 x13 e => ?_; subst e
  refine uP_k fun e => ?_; subst e
  refine uC_k fun x14 x15 e => ?_; subst e
  refine uP_k fun e => ?_; subst e
  refine u0_k fun e => ?_; subst e
  refine u0_k fun e => ?_; subst e
  refine uM_k fun x17 x16 e => ?_; subst e
  refine uC_k fun x18 x19 e => ?_; subst e
  refine uI_k fun a3 e => ?_; subst e
  refine u0_k fun e => ?_; subst e
  refine uM_k fun x21 x20 e => ?_; subst e
  refine uC_k fun x22 x23 e => ?_; subst e
  refine uB_k fun a4 e => ?_; subst e
  refine u0_k fun e => ?_; subst e
  refine uM_k fun x25 x24 e => ?_; subst e
  refine uC_k fun x26 x27 e => ?_; subst e
  refine uI_k fun a5 e => ?_; subst e
  refine u0_k fun e => ?_; subst e
  refine uM_k fun x29 x28 e => ?_; subst e
  refine uC_k fun x30 x31 e => ?_; subst e
  refine uB_k fun a6 e => ?_; subst e
  refine u0_k fun e => ?_; subst e
  refine uE_k fun e => ?_; subst e
  exact .inr ⟨a1, a2, a3, a4, a5, a6, rfl, rfl⟩

theorem rc85_0 (args : List (PV sig)) (m : Mem sig) : (∀ (C : Tab) (ρ : Type) (K : Res sig × Mem sig → Option ρ), Rc85_0 C ρ args m K = none) ∨ ∃ (a1 : Tm) (a2 : Int) (a3 : Int) (a4 : Bool) (a5 : Int) (a6 : Bool), args = [.agg [.d (.int .i64 a1.op), .d (.int .i64 a1.head), .d (.int .i64 a1.n), .d (.sl Key.tm a1.args)], .d (.int .i64 a2), .ptr 0 0, .ptr 1 0, .ptr 2 0, .ptr 3 0] ∧ m = [some [.d (.int .i64 a3)], some [.d (.bool a4)], some [.d (.int .i64 a5)], some [.d (.bool a6)]] := by
  unfold Rc85_0
  refine uC_k fun x0 x1 e => ?_; subst e
  refine uTm_k fun a1 e => ?_; subst e
  refine uC_k fun x2 x3 e => ?_; subst e
  refine uI_k fun a2 e => ?_; subst e
  refine uC_k fun x4 x5 e => ?_; subst e
  refine uP_k fun e => ?_; subst e
  refine uC_k fun x6 x7 e => ?_; subst e
  refine uP_k fun e => ?_; subst e
  refine uC_k fun x8 x9 e => ?_; subst e
  refine uP_k fun e => ?_; subst e
  refine uC_k fun x10 x11 e => ?_; subst e
  refine uP_k fun e => ?_; subst e
  refine u0_k fun e => ?_; subst e
  refine uM_k fun x13 x12 e => ?_; subst e
  refine uC_k fun x14 x15 e => ?_; subst e
  refine uI_k fun a3 e => ?_; subst e
  refine u0_k fun e => ?_; subst e
  refine uM_k fun x17 x16 e => ?_; subst e
  refine uC_k fun x18 x19 e => ?_; subst e
  refine uB_k fun a4 e => ?_; subst e
  refine u0_k fun e => ?_; subst e
  refine uM_k fun x21 x20 e => ?_; subst e
  refine uC_k fun x22 x23 e => ?_; subst e
  refine uI_k fun a5 e => ?_; subst e
  refine u0_k fun e => ?_; subst e
  refine uM_k fun x25 x24 e => ?_; subst e
  refine uC_k fun x26 x27 e => ?_; subst e
  refine uB_k fun a6 e => ?_; subst e
  refine u0_k fun e => ?_; subst e
  refine uE_k fun e => ?_; subst e
  exact .inr ⟨a1, a2, a3, a4, a5, a6, rfl, rfl⟩

theorem rc86_0 (args : List (PV sig)) (m : Mem sig) : (∀ (C : Tab) (ρ : Type) (K : Res sig × Mem sig → Option ρ), Rc86_0 C ρ args m K = none) ∨ ∃ (a1 : Tm) (a2 : Int) (a3 : Int), args = [.agg [.d (.int .i64 a1.op), .d (.int .i64 a1.head), .d (.int .i64 a1.n), .d (.sl Key.tm a1.args)], .d (.int .i64 a2), .d (.int .i64 a3)] ∧ m = [] := by
  unfold Rc86_0
  refine uC_k fun x0 x1 e => ?_; subst e
  refine uTm_k fun a1 e => ?_; subst e
  refine uC_k fun x2 x3 e => ?_; subst e
  refine uI_k fun a2 e => ?_; subst e
  refine uC_k fun x4 x5 e => ?_; subst e
  refine uI_k fun a3 e => ?_; subst e
  refine u0_k fun e => ?_; subst e
  refine uE_k fun e => ?_; subst e
  exact .inr ⟨a1, a2, a3, rfl, rfl⟩

theorem rc87_0 (args : List (PV sig)) (m : Mem sig) : (∀ (C : Tab) (ρ : Type) (K : Res sig × Mem sig → Option ρ), Rc87_0 C ρ args m K = none) ∨ ∃ (a1 : Tm), args = [.agg [.d (.int .i64 a1.op), .d (.int .i64 a1.head), .d (.int .i64 a1.n), .d (.sl Key.tm a1.args)]] ∧ m = [] := by
  unfold Rc87_0
  refine uC_k fun x0 x1 e => ?_; subst e
  refine uTm_k fun a1 e => ?_; subst e
  refine u0_k fun e => ?_; subst e
  refine uE_k fun e => ?_; subst e
  exact .inr ⟨a1, rfl, rfl⟩

theorem rc88_0 (args : List (PV sig)) (m : Mem sig) : (∀ (C : Tab) (ρ : Type) (K : Res sig × Mem sig → Option ρ), Rc88_0 C ρ args m K = none) ∨ ∃ (a1 : Sm) (a2 : Int), args = [.agg [.d (.sl Key.sm a1.args), .d (.int .i64 a1.con)], .ptr 0 0] ∧ m = [some [.ptr 1 0], some [.d (.int .i64 a2)]] := by
  unfold Rc88_0
  refine uC_k fun x0 x1 e => ?_; subst e
  refine uSm_k fun a1 e => ?_; subst e
  refine uC_k fun x2 x3 e => ?_; subst e
  refine uP_k fun e => ?_; subst e
  refine u0_k fun e => ?_; subst e
  refine uM_k fun x5 x4 e => ?_; subst e
  refine uC_k fun x6 x7 e => ?_; subst e
  refine uP_k fun e => ?_; subst e
  refine u0_k fun e => ?_; subst e
  refine uM_k fun x9 x8 e => ?_; subst e
  refine uC_k fun x10 x11 e => ?_; subst e
  refine uI_k fun a2 e => ?_; subst e
  refine u0_k fun e => ?_; subst e
  refine uE_k fun e => ?_; subst e
  exact .inr ⟨a1, a2, rfl, rfl⟩

theorem rc89_0 (args : List (PV sig)) (m : Mem sig) : (∀ (C : Tab) (ρ : Type) (K : Res sig × Mem sig → Option ρ), Rc89_0 C ρ args m K = none) ∨ ∃ (a1 : Tm) (a2 : Int) (a3 : Int) (a4 : Int), args = [.agg [.d (.int .i64 a1.op), .d (.int .i64 a1.head), .d (.int .i64 a1.n), .full Key.tm a1.args], .d (.int .i64 a2), .ptr 0 0, .ptr 1 0] ∧ m = [some [.d (.int .i64 a3)], some [.d (.int .i64 a4)]] := by
  unfold Rc89_0
  refine uC_k fun x0 x1 e => ?_; subst e
  refine uTm_k fun a1 e => ?_; subst e
  refine uC_k fun x2 x3 e => ?_; subst e
  refine uI_k fun a2 e => ?_; subst e
  refine uC_k fun x4 x5 e => ?_; subst e
  refine uP_k fun e => ?_; subst e
  refine uC_k fun x6 x7 e => ?_; subst e
  refine uP_k fun e => ?_; subst e
  refine u0_k fun e => ?_; subst e
  refine uM_k fun x9 x8 e => ?_; subst e
  refine uC_k fun x10 x11 e => ?_; subst e
  refine uI_k fun a3 e => ?_; subst e
  refine u0_k fun e => ?_; subst e
  refine uM_k fun x13 x12 e => ?_; subst e
  refine uC_k fun x14 x15 e => ?_; subst e
  refine uI_k fun a4 e => ?_; subst e
  refine u0_k fun e => ?_; subst e
  refine uE_k fun e => ?_; subst e
  exact .inr ⟨a1, a2, a3, a4, rfl, rfl⟩

theorem rl13_4_0 (vs : List (PV sig)) (m : Mem sig) (ds : List (FuncId × List (PV sig))) (nt : Nat) : (∀ (C : Tab) (ρ : Type) (K : Ex sig → St sig → Option ρ), Rl13_4_0 C ρ vs m ds nt K = none) ∨ ∃ (a1 : List Tm) (a2 : Int) (a3 : Int) (a4 : Tm) (a5 : Sm), vs = [.d (.sl Key.tm a1), .ptr 0 0, .ptr 1 0, .d (.int .i64 a2), .d (.int .i64 a3)] ∧ m = [some [.d (.int .i64 a4.op), .d (.int .i64 a4.head), .d (.int .i64 a4.n), .d (.sl Key.tm a4.args)], some [.d (.sl Key.sm a5.args), .d (.int .i64 a5.con)]] ∧ ds = [] ∧ nt = 130 := by
  unfold Rl13_4_0
  refine uN_k fun e => ?_; subst e
  refine uC_k fun x0 x1 e => ?_; subst e
  refine uS_k fun a1 e => ?_; subst e
  refine uC_k fun x2 x3 e => ?_; subst e
  refine uP_k fun e => ?_; subst e
  refine uC_k fun x4 x5 e => ?_; subst e
  refine uP_k fun e => ?_; subst e
  refine uC_k fun x6 x7 e => ?_; subst e
  refine uI_k fun a2 e => ?_; subst e
  refine uC_k fun x8 x9 e => ?_; subst e
  refine uI_k fun a3 e => ?_; subst e
  refine u0_k fun e => ?_; subst e
  refine uM_k fun x11 x10 e => ?_; subst e
  refine uTmL_k fun a4 e => ?_; subst e
  refine uM_k fun x13 x12 e => ?_; subst e
  refine uSmL_k fun a5 e => ?_; subst e
  refine uE_k fun e => ?_; subst e
  refine uDe_k fun e => ?_; subst e
  exact .inr ⟨a1, a2, a3, a4, a5, rfl, rfl, rfl, rfl⟩

theorem rl22_4_0 (vs : List (PV sig)) (m : Mem sig) (ds : List (FuncId × List (PV sig))) (nt : Nat) : (∀ (C : Tab) (ρ : Type) (K : Ex sig → St sig → Option ρ), Rl22_4_0 C ρ vs m ds nt K = none) ∨ ∃ (a1 : List Sm) (a2 : Int) (a3 : Int) (a4 : List Sm) (a5 : List Sm) (a6 : Int) (a7 : Int) (a8 : Int) (a9 : List Tm) (a10 : List Sm) (a11 : Int), vs = [.ptr 0 0, .d (.sl Key.sm a1), .d (.int .i64 a2), .d (.int .i64 a3)] ∧ m = [some [.d (.sl Key.sm a4), .d (.sl Key.sm a5), .d (.int .i64 a6), .d (.int .i64 a7), .d (.int .i64 a8), .d (.sl Key.tm a9), .d (.sl Key.sm a10), .d (.int .i64 a11)]] ∧ ds = [] ∧ nt = 60 := by
  unfold Rl22_4_0
  refine uN_k fun e => ?_; subst e
  refine uC_k fun x0 x1 e => ?_; subst e
  refine uP_k fun e => ?_; subst e
  refine uC_k fun x2 x3 e => ?_; subst e
  refine uS_k fun a1 e => ?_; subst e
  refine uC_k fun x4 x5 e => ?_; subst e
  refine uI_k fun a2 e => ?_; subst e
  refine uC_k fun x6 x7 e => ?_; subst e
  refine uI_k fun a3 e => ?_; subst e
  refine u0_k fun e => ?_; subst e
  refine uM_k fun x9 x8 e => ?_; subst e
  refine uC_k fun x10 x11 e => ?_; subst e
  refine uS_k fun a4 e => ?_; subst e
  refine uC_k fun x12 x13 e => ?_; subst e
  refine uS_k fun a5 e => ?_; subst e
  refine uC_k fun x14 x15 e => ?_; subst e
  refine uI_k fun a6 e => ?_; subst e
  refine uC_k fun x16 x17 e => ?_; subst e
  refine uI_k fun a7 e => ?_; subst e
  refine uC_k fun x18 x19 e => ?_; subst e
  refine uI_k fun a8 e => ?_; subst e
  refine uC_k fun x20 x21 e => ?_; subst e
  refine uS_k fun a9 e => ?_; subst e
  refine uC_k fun x22 x23 e => ?_; subst e
  refine uS_k fun a10 e => ?_; subst e
  refine uC_k fun x24 x25 e => ?_; subst e
  refine uI_k fun a11 e => ?_; subst e
  refine u0_k fun e => ?_; subst e
  refine uE_k fun e => ?_; subst e
  refine uDe_k fun e => ?_; subst e
  exact .inr ⟨a1, a2, a3, a4, a5, a6, a7, a8, a9, a10, a11, rfl, rfl, rfl, rfl⟩

theorem rl22_10_0 (vs : List (PV sig)) (m : Mem sig) (ds : List (FuncId × List (PV sig))) (nt : Nat) : (∀ (C : Tab) (ρ : Type) (K : Ex sig → St sig → Option ρ), Rl22_10_0 C ρ vs m ds nt K = none) ∨ ∃ (a1 : List Sm) (a2 : Int) (a3 : Int) (a4 : List Sm) (a5 : List Sm) (a6 : Int) (a7 : Int) (a8 : Int) (a9 : List Tm) (a10 : List Sm) (a11 : Int), vs = [.ptr 0 0, .d (.sl Key.sm a1), .d (.int .i64 a2), .d (.int .i64 a3)] ∧ m = [some [.d (.sl Key.sm a4), .d (.sl Key.sm a5), .d (.int .i64 a6), .d (.int .i64 a7), .d (.int .i64 a8), .d (.sl Key.tm a9), .d (.sl Key.sm a10), .d (.int .i64 a11)]] ∧ ds = [] ∧ nt = 60 := by
  unfold Rl22_10_0
  refine uN_k fun e => ?_; subst e
  refine uC_k fun x0 x1 e => ?_; subst e
  refine uP_k fun e => ?_; subst e
  refine uC_k fun x2 x3 e => ?_; subst e
  refine uS_k fun a1 e => ?_; subst e
  refine uC_k fun x4 x5 e => ?_; subst e
  refine uI_k fun a2 e => ?_; subst e
  refine uC_k fun x6 x7 e => ?_; subst e
  refine uI_k fun a3 e => ?_; subst e
  refine u0_k fun e => ?_; subst e
  refine uM_k fun x9 x8 e => ?_; subst e
  refine uC_k fun x10 x11 e => ?_; subst e
  refine uS_k fun a4 e => ?_; subst e
  refine uC_k fun x12 x13 e => ?_; subst e
  refine uS_k fun a5 e => ?_; subst e
  refine uC_k fun x14 x15 e => ?_; subst e
  refine uI_k fun a6 e => ?_; subst e
  refine uC_k fun x16 x17 e => ?_; subst e
  refine uI_k fun a7 e => ?_; subst e
  refine uC_k fun x18 x19 e => ?_; subst e
  refine uI_k fun a8 e => ?_; subst e
  refine uC_k fun x20 x21 e => ?_; subst e
  refine uS_k fun a9 e => ?_; subst e
  refine uC_k fun x22 x23 e => ?_; subst e
  refine uS_k fun a10 e => ?_; subst e
  refine uC_k fun x24 x25 e => ?_; subst e
  refine uI_k fun a11 e => ?_; subst e
  refine u0_k fun e => ?_; subst e
  refine uE_k fun e => ?_; subst e
  refine uDe_k fun e => ?_; subst e
  exact .inr ⟨a1, a2, a3, a4, a5, a6, a7, a8, a9, a10, a11, rfl, rfl, rfl, rfl⟩

theorem rl23_2_0 (vs : List (PV sig)) (m : Mem sig) (ds : List (FuncId × List (PV sig))) (nt : Nat) : (∀ (C : Tab) (ρ : Type) (K : Ex sig → St sig → Option ρ), Rl23_2_0 C ρ vs m ds nt K = none) ∨ ∃ (a1 : List Sm) (a2 : List Sm) (a3 : List Sm) (a4 : Int) (a5 : Int) (a6 : Tm) (a7 : Sm), vs = [.d (.sl Key.sm a1), .d (.sl Key.sm a2), .ptr 0 0, .ptr 1 0, .d (.sl Key.sm a3), .d (.int .i64 a4), .d (.int .i64 a5)] ∧ m = [some [.d (.int .i64 a6.op), .d (.int .i64 a6.head), .d (.int .i64 a6.n), .d (.sl Key.tm a6.args)], some [.d (.sl Key.sm a7.args), .d (.int .i64 a7.con)]] ∧ ds = [] ∧ nt = 122 := by
  unfold Rl23_2_0
  refine uN_k fun e => ?_; subst e
  refine uC_k fun x0 x1 e => ?_; subst e
  refine uS_k fun a1 e => ?_; subst e
  refine uC_k fun x2 x3 e => ?_; subst e
  refine uS_k fun a2 e => ?_; subst e
  refine uC_k fun x4 x5 e => ?_; subst e
  refine uP_k fun e => ?_; subst e
  refine uC_k fun x6 x7 e => ?_; subst e
  refine uP_k fun e => ?_; subst e
  refine uC_k fun x8 x9 e => ?_; subst e
  refine uS_k fun a3 e => ?_; subst e
  refine uC_k fun x10 x11 e => ?_; subst e
  refine uI_k fun a4 e => ?_; subst e
  refine uC_k fun x12 x13 e => ?_; subst e
  refine uI_k fun a5 e => ?_; subst e
  refine u0_k fun e => ?_; subst e
  refine uM_k fun x15 x14 e => ?_; subst e
  refine uTmL_k fun a6 e => ?_; subst e
  refine uM_k fun x17 x16 e => ?_; subst e
  refine uSmL_k fun a7 e => ?_; subst e
  refine uE_k fun e => ?_; subst e
  refine uDe_k fun e => ?_; subst e
  exact .inr ⟨a1, a2, a3, a4, a5, a6, a7, rfl, rfl, rfl, rfl⟩

theorem rl23_23_0 (vs : List (PV sig)) (m : Mem sig) (ds : List (FuncId × List (PV sig))) (nt : Nat) : (∀ (C : Tab) (ρ : Type) (K : Ex sig → St sig → Option ρ), Rl23_23_0 C ρ vs m ds nt K = none) ∨ ∃ (a1 : List Sm) (a2 : List Sm) (a3 : Int) (a4 : Int) (a5 : Tm) (a6 : Sm) (a7 : Sm), vs = [.d (.sl Key.sm a1), .d (.sl Key.sm a2), .ptr 0 0, .ptr 2 0, .d (.int .i64 a3), .d (.int .i64 a4)] ∧ m = [some [.d (.int .i64 a5.op), .d (.int .i64 a5.head), .d (.int .i64 a5.n), .d (.sl Key.tm a5.args)], some [.d (.sl Key.sm a6.args), .d (.int .i64 a6.con)], some [.d (.sl Key.sm a7.args), .d (.int .i64 a7.con)]] ∧ ds = [] ∧ nt = 122 := by
  unfold Rl23_23_0
  refine uN_k fun e => ?_; subst e
  refine uC_k fun x0 x1 e => ?_; subst e
  refine uS_k fun a1 e => ?_; subst e
  refine uC_k fun x2 x3 e => ?_; subst e
  refine uS_k fun a2 e => ?_; subst e
  refine uC_k fun x4 x5 e => ?_; subst e
  refine uP_k fun e => ?_; subst e
  refine uC_k fun x6 x7 e => ?_; subst e
  refine uP_k fun e => ?_; subst e
  refine uC_k fun x8 x9 e => ?_; subst e
  refine uI_k fun a3 e => ?_; subst e
  refine uC_k fun x10 x11 e => ?_; subst e
  refine uI_k fun a4 e => ?_; subst e
  refine u0_k fun e => ?_; subst e
  refine uM_k fun x13 x12 e => ?_; subst e
  refine uTmL_k fun a5 e => ?_; subst e
  refine uM_k fun x15 x14 e => ?_; subst e
  refine uSmL_k fun a6 e => ?_; subst e
  refine uM_k fun x17 x16 e => ?_; subst e
  refine uSmL_k fun a7 e => ?_; subst e
  refine uE_k fun e => ?_; subst e
  refine uDe_k fun e => ?_; subst e
  exact .inr ⟨a1, a2, a3, a4, a5, a6, a7, rfl, rfl, rfl, rfl⟩

theorem rl26_4_0 (vs : List (PV sig)) (m : Mem sig) (ds : List (FuncId × List (PV sig))) (nt : Nat) : (∀ (C : Tab) (ρ : Type) (K : Ex sig → St sig → Option ρ), Rl26_4_0 C ρ vs m ds nt K = none) ∨ ∃ (a1 : Int) (a2 : Tm) (a3 : Tm), vs = [.ptr 0 0, .ptr 1 0, .d (.int .i64 a1)] ∧ m = [some [.d (.int .i64 a2.op), .d (.int .i64 a2.head), .d (.int .i64 a2.n), .d (.sl Key.tm a2.args)], some [.d (.int .i64 a3.op), .d (.int .i64 a3.head), .d (.int .i64 a3.n), .d (.sl Key.tm a3.args)]] ∧ ds = [] ∧ nt = 53 := by
  unfold Rl26_4_0
  refine uN_k fun e => ?_; subst e
  refine uC_k fun x0 x1 e => ?_; subst e
  refine uP_k fun e => ?_; subst e
  refine uC_k fun x2 x3 e => ?_; subst e
  refine uP_k fun e => ?_; subst e
  refine uC_k fun x4 x5 e => ?_; subst e
  refine uI_k fun a1 e => ?_; subst e
  refine u0_k fun e => ?_; subst e
  refine uM_k fun x7 x6 e => ?_; subst e
  refine uTmL_k fun a2 e => ?_; subst e
  refine uM_k fun x9 x8 e => ?_; subst e
  refine uTmL_k fun a3 e => ?_; subst e
  refine uE_k fun e => ?_; subst e
  refine uDe_k fun e => ?_; subst e
  exact .inr ⟨a1, a2, a3, rfl, rfl, rfl, rfl⟩

theorem rl27_4_0 (vs : List (PV sig)) (m : Mem sig) (ds : List (FuncId × List (PV sig))) (nt : Nat) : (∀ (C : Tab) (ρ : Type) (K : Ex sig → St sig → Option ρ), Rl27_4_0 C ρ vs m ds nt K = none) ∨ ∃ (a1 : Int) (a2 : Sm) (a3 : Sm), vs = [.ptr 0 0, .ptr 1 0, .d (.int .i64 a1)] ∧ m = [some [.d (.sl Key.sm a2.args), .d (.int .i64 a2.con)], some [.d (.sl Key.sm a3.args), .d (.int .i64 a3.con)]] ∧ ds = [] ∧ nt = 39 := by
  unfold Rl27_4_0
  refine uN_k fun e => ?_; subst e
  refine uC_k fun x0 x1 e => ?_; subst e
  refine uP_k fun e => ?_; subst e
  refine uC_k fun x2 x3 e => ?_; subst e
  refine uP_k fun e => ?_; subst e
  refine uC_k fun x4 x5 e => ?_; subst e
  refine uI_k fun a1 e => ?_; subst e
  refine u0_k fun e => ?_; subst e
  refine uM_k fun x7 x6 e => ?_; subst e
  refine uSmL_k fun a2 e => ?_; subst e
  refine uM_k fun x9 x8 e => ?_; subst e
  refine uSmL_k fun a3 e => ?_; subst e
  refine uE_k fun e => ?_; subst e
  refine uDe_k fun e => ?_; subst e
  exact .inr ⟨a1, a2, a3, rfl, rfl, rfl, rfl⟩

theorem rl29_9_0 (vs : List (PV sig)) (m : Mem sig) (ds : List (FuncId × List (PV sig))) (nt : Nat) : (∀ (C : Tab) (ρ : Type) (K : Ex sig → St sig → Option ρ), Rl29_9_0 C ρ vs m ds nt K = none) ∨ ∃ (a1 : Int) (a2 : Int) (a3 : Int) (a4 : Int) (a5 : Int) (a6 : Tm) (a7 : Tm) (a8 : Tm), vs = [.d (.int .i64 a1), .d (.int .i64 a2), .d (.int .i64 a3), .ptr 0 0, .ptr 1 0, .ptr 2 0, .d (.int .i64 a4), .d (.int .i64 a5)] ∧ m = [some [.d (.int .i64 a6.op), .d (.int .i64 a6.head), .d (.int .i64 a6.n), .d (.sl Key.tm a6.args)], some [.d (.int .i64 a7.op), .d (.int .i64 a7.head), .d (.int .i64 a7.n), .full Key.tm a7.args], some [.d (.int .i64 a8.op), .d (.int .i64 a8.head), .d (.int .i64 a8.n), .own Key.tm a8.args]] ∧ ds = [] ∧ nt = 71 := by
  unfold Rl29_9_0
  refine uN_k fun e => ?_; subst e
  refine uC_k fun x0 x1 e => ?_; subst e
  refine uI_k fun a1 e => ?_; subst e
  refine uC_k fun x2 x3 e => ?_; subst e
  refine uI_k fun a2 e => ?_; subst e
  refine uC_k fun x4 x5 e => ?_; subst e
  refine uI_k fun a3 e => ?_; subst e
  refine uC_k fun x6 x7 e => ?_; subst e
  refine uP_k fun e => ?_; subst e
  refine uC_k fun x8 x9 e => ?_; subst e
  refine uP_k fun e => ?_; subst e
  refine uC_k fun x10 x11 e => ?_; subst e
  refine uP_k fun e => ?_; subst e
  refine uC_k fun x12 x13 e => ?_; subst e
  refine uI_k fun a4 e => ?_; subst e
  refine uC_k fun x14 x15 e => ?_; subst e
  refine uI_k fun a5 e => ?_; subst e
  refine u0_k fun e => ?_; subst e
  refine uM_k fun x17 x16 e => ?_; subst e
  refine uTmL_k fun a6 e => ?_; subst e
  refine uM_k fun x19 x18 e => ?_; subst e
  refine uTmL_k fun a7 e => ?_; subst e
  refine uM_k fun x21 x20 e => ?_; subst e
  refine uTmL_k fun a8 e => ?_; subst e
  refine uE_k fun e => ?_; subst e
  refine uDe_k fun e => ?_; subst e
  exact .inr ⟨a1, a2, a3, a4, a5, a6, a7, a8, rfl, rfl, rfl, rfl⟩

theorem rl32_6_0 (vs : List (PV sig)) (m : Mem sig) (ds : List (FuncId × List (PV sig))) (nt : Nat) : (∀ (C : Tab) (ρ : Type) (K : Ex sig → St sig → Option ρ), Rl32_6_0 C ρ vs m ds nt K = none) ∨ ∃ (a1 : List Tm) (a2 : List Sm) (a3 : List Tm) (a4 : Int) (a5 : Int) (a6 : Tm) (a7 : Tm) (a8 : Int) (a9 : Int), vs = [.d (.sl Key.tm a1), .d (.sl Key.sm a2), .ptr 0 0, .ptr 1 0, .ptr 2 0, .ptr 3 0, .d (.sl Key.tm a3), .d (.int .i64 a4), .d (.int .i64 a5)] ∧ m = [some [.d (.int .i64 a6.op), .d (.int .i64 a6.head), .d (.int .i64 a6.n), .d (.sl Key.tm a6.args)], some [.d (.int .i64 a7.op), .d (.int .i64 a7.head), .d (.int .i64 a7.n), .full Key.tm a7.args], some [.d (.int .i64 a8)], some [.d (.int .i64 a9)]] ∧ ds = [(40, [.ptr 1 0, .ptr 2 0])] ∧ nt = 57 := by
  unfold Rl32_6_0
  refine uN_k fun e => ?_; subst e
  refine uC_k fun x0 x1 e => ?_; subst e
  refine uS_k fun a1 e => ?_; subst e
  refine uC_k fun x2 x3 e => ?_; subst e
  refine uS_k fun a2 e => ?_; subst e
  refine uC_k fun x4 x5 e => ?_; subst e
  refine uP_k fun e => ?_; subst e
  refine uC_k fun x6 x7 e => ?_; subst e
  refine uP_k fun e => ?_; subst e
  refine uC_k fun x8 x9 e => ?_; subst e
  refine uP_k fun e => ?_; subst e
  refine uC_k fun x10 x11 e => ?_; subst e
  refine uP_k fun e => ?_; subst e
  refine uC_k fun x12 x13 e => ?_; subst e
  refine uS_k fun a3 e => ?_; subst e
  refine uC_k fun x14 x15 e => ?_; subst e
  refine uI_k fun a4 e => ?_; subst e
  refine uC_k fun x16 x17 e => ?_; subst e
  refine uI_k fun a5 e => ?_; subst e
  refine u0_k fun e => ?_; subst e
  refine uM_k fun x19 x18 e => ?_; subst e
  refine uTmL_k fun a6 e => ?_; subst e
  refine uM_k fun x21 x20 e => ?_; subst e
  refine uTmL_k fun a7 e => ?_; subst e
  refine uM_k fun x23 x22 e => ?_; subst e
  refine uC_k fun x24 x25 e => ?_; subst e
  refine uI_k fun a8 e => ?_; subst e
  refine u0_k fun e => ?_; subst e
  refine uM_k fun x27 x26 e => ?_; subst e
  refine uC_k fun x28 x29 e => ?_; subst e
  refine uI_k fun a9 e => ?_; subst e
  refine u0_k fun e => ?_; subst e
  refine uE_k fun e => ?_; subst e
  refine uD_k fun x30 x31 e => ?_; subst e
  refine uC_k fun x32 x33 e => ?_; subst e
  refine uP_k fun e => ?_; subst e
  refine uC_k fun x34 x35 e => ?_; subst e
  refine uP_k fun e => ?_; subst e
  refine u0_k fun e => ?_; subst e
  refine uDe_k fun e => ?_; subst e
  exact .inr ⟨a1, a2, a3, a4, a5, a6, a7, a8, a9, rfl, rfl, rfl, rfl⟩

theorem rl33_4_0 (vs : List (PV sig)) (m : Mem sig) (ds : List (FuncId × List (PV sig))) (nt : Nat) : (∀ (C : Tab) (ρ : Type) (K : Ex sig → St sig → Option ρ), Rl33_4_0 C ρ vs m ds nt K = none) ∨ ∃ (a1 : List Tm) (a2 : List Sm) (a3 : Int) (a4 : Tm) (a5 : Tm), vs = [.d (.sl Key.tm a1), .d (.sl Key.sm a2), .ptr 0 0, .ptr 1 0, .d (.int .i64 a3)] ∧ m = [some [.d (.int .i64 a4.op), .d (.int .i64 a4.head), .d (.int .i64 a4.n), .d (.sl Key.tm a4.args)], some [.d (.int .i64 a5.op), .d (.int .i64 a5.head), .d (.int .i64 a5.n), .full Key.tm a5.args]] ∧ ds = [] ∧ nt = 87 := by
  unfold Rl33_4_0
  refine uN_k fun e => ?_; subst e
  refine uC_k fun x0 x1 e => ?_; subst e
  refine uS_k fun a1 e => ?_; subst e
  refine uC_k fun x2 x3 e => ?_; subst e
  refine uS_k fun a2 e => ?_; subst e
  refine uC_k fun x4 x5 e => ?_; subst e
  refine uP_k fun e => ?_; subst e
  refine uC_k fun x6 x7 e => ?_; subst e
  refine uP_k fun e => ?_; subst e
  refine uC_k fun x8 x9 e => ?_; subst e
  refine uI_k fun a3 e => ?_; subst e
  refine u0_k fun e => ?_; subst e
  refine uM_k fun x11 x10 e => ?_; subst e
  refine uTmL_k fun a4 e => ?_; subst e
  refine uM_k fun x13 x12 e => ?_; subst e
  refine uTmL_k fun a5 e => ?_; subst e
  refine uE_k fun e => ?_; subst e
  refine uDe_k fun e => ?_; subst e
  exact .inr ⟨a1, a2, a3, a4, a5, rfl, rfl, rfl, rfl⟩

theorem rl33_10_0 (vs : List (PV sig)) (m : Mem sig) (ds : List (FuncId × List (PV sig))) (nt : Nat) : (∀ (C : Tab) (ρ : Type) (K : Ex sig → St sig → Option ρ), Rl33_10_0 C ρ vs m ds nt K = none) ∨ ∃ (a1 : List Tm) (a2 : List Sm) (a3 : Int) (a4 : Tm) (a5 : Tm) (a6 : Int), vs = [.d (.sl Key.tm a1), .d (.sl Key.sm a2), .ptr 0 0, .ptr 1 0, .ptr 2 0, .d (.int .i64 a3)] ∧ m = [some [.d (.int .i64 a4.op), .d (.int .i64 a4.head), .d (.int .i64 a4.n), .d (.sl Key.tm a4.args)], some [.d (.int .i64 a5.op), .d (.int .i64 a5.head), .d (.int .i64 a5.n), .full Key.tm a5.args], some [.d (.int .i64 a6)]] ∧ ds = [] ∧ nt = 87 := by
  unfold Rl33_10_0
  refine uN_k fun e => ?_; subst e
  refine uC_k fun x0 x1 e => ?_; subst e
  refine uS_k fun a1 e => ?_; subst e
  refine uC_k fun x2 x3 e => ?_; subst e
  refine uS_k fun a2 e => ?_; subst e
  refine uC_k fun x4 x5 e => ?_; subst e
  refine uP_k fun e => ?_; subst e
  refine uC_k fun x6 x7 e => ?_; subst e
  refine uP_k fun e => ?_; subst e
  refine uC_k fun x8 x9 e => ?_; subst e
  refine uP_k fun e => ?_; subst e
  refine uC_k fun x10 x11 e => ?_; subst e
  refine uI_k fun a3 e => ?_; subst e
  refine u0_k fun e => ?_; subst e
  refine uM_k fun x13 x12 e => ?_; subst e
  refine uTmL_k fun a4 e => ?_; subst e
  refine uM_k fun x15 x14 e => ?_; subst e
  refine uTmL_k fun a5 e => ?_; subst e
  refine uM_k fun x17 x16 e => ?_; subst e
  refine uC_k fun x18 x19 e => ?_; subst e
  refine uI_k fun a6 e => ?_; subst e
  refine u0_k fun e => ?_; subst e
  refine uE_k fun e => ?_; subst e
  refine uDe_k fun e => ?_; subst e
  exact .inr ⟨a1, a2, a3, a4, a5, a6, rfl, rfl, rfl, rfl⟩

theorem rl35_4_0 (vs : List (PV sig)) (m : Mem sig) (ds : List (FuncId × List (PV sig))) (nt : Nat) : (∀ (C : Tab) (ρ : Type) (K : Ex sig → St sig → Option ρ), Rl35_4_0 C ρ vs m ds nt K = none) ∨ ∃ (a1 : Int) (a2 : Tm), vs = [.ptr 0 0, .d (.int .i64 a1)] ∧ m = [some [.d (.int .i64 a2.op), .d (.int .i64 a2.head), .d (.int .i64 a2.n), .d (.sl Key.tm a2.args)]] ∧ ds = [] ∧ nt = 86 := by
  unfold Rl35_4_0
  refine uN_k fun e => ?_; subst e
  refine uC_k fun x0 x1 e => ?_; subst e
  refine uP_k fun e => ?_; subst e
  refine uC_k fun x2 x3 e => ?_; subst e
  refine uI_k fun a1 e => ?_; subst e
  refine u0_k fun e => ?_; subst e
  refine uM_k fun x5 x4 e => ?_; subst e
  refine uTmL_k fun a2 e => ?_; subst e
  refine uE_k fun e => ?_; subst e
  refine uDe_k fun e => ?_; subst e
  exact .inr ⟨a1, a2, rfl, rfl, rfl, rfl⟩

theorem rl35_10_0 (vs : List (PV sig)) (m : Mem sig) (ds : List (FuncId × List (PV sig))) (nt : Nat) : (∀ (C : Tab) (ρ : Type) (K : Ex sig → St sig → Option ρ), Rl35_10_0 C ρ vs m ds nt K = none) ∨ ∃ (a1 : Int) (a2 : List Tm) (a3 : Int) (a4 : Int) (a5 : Tm), vs = [.ptr 0 0, .d (.int .i64 a1), .d (.sl Key.tm a2), .d (.int .i64 a3), .d (.int .i64 a4)] ∧ m = [some [.d (.int .i64 a5.op), .d (.int .i64 a5.head), .d (.int .i64 a5.n), .d (.sl Key.tm a5.args)]] ∧ ds = [] ∧ nt = 86 := by
  unfold Rl35_10_0
  refine uN_k fun e => ?_; subst e
  refine uC_k fun x0 x1 e => ?_; subst e
  refine uP_k fun e => ?_; subst e
  refine uC_k fun x2 x3 e => ?_; subst e
  refine uI_k fun a1 e => ?_; subst e
  refine uC_k fun x4 x5 e => ?_; subst e
  refine uS_k fun a2 e => ?_; subst e
  refine uC_k fun x6 x7 e => ?_; subst e
  refine uI_k fun a3 e => ?_; subst e
  refine uC_k fun x8 x9 e => ?_; subst e
  refine uI_k fun a4 e => ?_; subst e
  refine u0_k fun e => ?_; subst e
  refine uM_k fun x11 x10 e => ?_; subst e
  refine uTmL_k fun a5 e => ?_; subst e
  refine uE_k fun e => ?_; subst e
  refine uDe_k fun e => ?_; subst e
  exact .inr ⟨a1, a2, a3, a4, a5, rfl, rfl, rfl, rfl⟩

theorem rl36_2_0 (vs : List (PV sig)) (m : Mem sig) (ds : List (FuncId × List (PV sig))) (nt : Nat) : (∀ (C : Tab) (ρ : Type) (K : Ex sig → St sig → Option ρ), Rl36_2_0 C ρ vs m ds nt K = none) ∨ ∃ (a1 : Int) (a2 : Tm), vs = [.ptr 0 0, .d (.int .i64 a1)] ∧ m = [some [.d (.int .i64 a2.op), .d (.int .i64 a2.head), .d (.int .i64 a2.n), .d (.sl Key.tm a2.args)]] ∧ ds = [] ∧ nt = 75 := by
  unfold Rl36_2_0
  refine uN_k fun e => ?_; subst e
  refine uC_k fun x0 x1 e => ?_; subst e
  refine uP_k fun e => ?_; subst e
  refine uC_k fun x2 x3 e => ?_; subst e
  refine uI_k fun a1 e => ?_; subst e
  refine u0_k fun e => ?_; subst e
  refine uM_k fun x5 x4 e => ?_; subst e
  refine uTmL_k fun a2 e => ?_; subst e
  refine uE_k fun e => ?_; subst e
  refine uDe_k fun e => ?_; subst e
  exact .inr ⟨a1, a2, rfl, rfl, rfl, rfl⟩

theorem rl36_8_0 (vs : List (PV sig)) (m : Mem sig) (ds : List (FuncId × List (PV sig))) (nt : Nat) : (∀ (C : Tab) (ρ : Type) (K : Ex sig → St sig → Option ρ), Rl36_8_0 C ρ vs m ds nt K = none) ∨ ∃ (a1 : Int) (a2 : Int) (a3 : Tm), vs = [.ptr 0 0, .d (.int .i64 a1), .d (.int .i64 a2)] ∧ m = [some [.d (.int .i64 a3.op), .d (.int .i64 a3.head), .d (.int .i64 a3.n), .d (.sl Key.tm a3.args)]] ∧ ds = [] ∧ nt = 75 := by
  unfold Rl36_8_0
  refine uN_k fun e => ?_; subst e
  refine uC_k fun x0 x1 e => ?_; subst e
  refine uP_k fun e => ?_; subst e
  refine uC_k fun x2 x3 e => ?_; subst e
  refine uI_k fun a1 e => ?_; subst e
  refine uC_k fun x4 x5 e => ?_; subst e
  refine uI_k fun a2 e => ?_; subst e
  refine u0_k fun e => ?_; subst e
  refine uM_k fun x7 x6 e => ?_; subst e
  refine uTmL_k fun a3 e => ?_; subst e
  refine uE_k fun e => ?_; subst e
  refine uDe_k fun e => ?_; subst e
  exact .inr ⟨a1, a2, a3, rfl, rfl, rfl, rfl⟩

theorem rl37_6_0 (vs : List (PV sig)) (m : Mem sig) (ds : List (FuncId × List (PV sig))) (nt : Nat) : (∀ (C : Tab) (ρ : Type) (K : Ex sig → St sig → Option ρ), Rl37_6_0 C ρ vs m ds nt K = none) ∨ ∃ (a1 : List Tm) (a2 : Int) (a3 : Int) (a4 : Tm) (a5 : Tm) (a6 : Int) (a7 : Int), vs = [.ptr 0 0, .ptr 1 0, .ptr 2 0, .ptr 3 0, .d (.sl Key.tm a1), .d (.int .i64 a2), .d (.int .i64 a3)] ∧ m = [some [.d (.int .i64 a4.op), .d (.int .i64 a4.head), .d (.int .i64 a4.n), .d (.sl Key.tm a4.args)], some [.d (.int .i64 a5.op), .d (.int .i64 a5.head), .d (.int .i64 a5.n), .full Key.tm a5.args], some [.d (.int .i64 a6)], some [.d (.int .i64 a7)]] ∧ ds = [(40, [.ptr 1 0, .ptr 2 0])] ∧ nt = 62 := by
  unfold Rl37_6_0
  refine uN_k fun e => ?_; subst e
  refine uC_k fun x0 x1 e => ?_; subst e
  refine uP_k fun e => ?_; subst e
  refine uC_k fun x2 x3 e => ?_; subst e
  refine uP_k fun e => ?_; subst e
  refine uC_k fun x4 x5 e => ?_; subst e
  refine uP_k fun e => ?_; subst e
  refine uC_k fun x6 x7 e => ?_; subst e
  refine uP_k fun e => ?_; subst e
  refine uC_k fun x8 x9 e => ?_; subst e
  refine uS_k fun a1 e => ?_; subst e
  refine uC_k fun x10 x11 e => ?_; subst e
  refine uI_k fun a2 e => ?_; subst e
  refine uC_k fun x12 x13 e => ?_; subst e
  refine uI_k fun a3 e => ?_; subst e
  refine u0_k fun e => ?_; subst e
  refine uM_k fun x15 x14 e => ?_; subst e
  refine uTmL_k fun a4 e => ?_; subst e
  refine uM_k fun x17 x16 e => ?_; subst e
  refine uTmL_k fun a5 e => ?_; subst e
  refine uM_k fun x19 x18 e => ?_; subst e
  refine uC_k fun x20 x21 e => ?_; subst e
  refine uI_k fun a6 e => ?_; subst e
  refine u0_k fun e => ?_; subst e
  refine uM_k fun x23 x22 e => ?_; subst e
  refine uC_k fun x24 x25 e => ?_; subst e
  refine uI_k fun a7 e => ?_; subst e
  refine u0_k fun e => ?_; subst e
  refine uE_k fun e => ?_; subst e
  refine uD_k fun x26 x27 e => ?_; subst e
  refine uC_k fun x28 x29 e => ?_; subst e
  refine uP_k fun e => ?_; subst e
  refine uC_k fun x30 x31 e => ?_; subst e
  refine uP_k fun e => ?_; subst e
  refine u0_k fun e => ?_; subst e
  refine uDe_k fun e => ?_; subst e
  exact .inr ⟨a1, a2, a3, a4, a5, a6, a7, rfl, rfl, rfl, rfl⟩

theorem rl38_5_0 (vs : List (PV sig)) (m : Mem sig) (ds : List (FuncId × List (PV sig))) (nt : Nat) : (∀ (C : Tab) (ρ : Type) (K : Ex sig → St sig → Option ρ), Rl38_5_0 C ρ vs m ds nt K = none) ∨ ∃ (a1 : List Tm) (a2 : Int) (a3 : Tm) (a4 : Tm) (a5 : Int), vs = [.d (.sl Key.tm a1), .ptr 0 0, .ptr 1 0, .ptr 2 0, .d (.int .i64 a2)] ∧ m = [some [.d (.int .i64 a3.op), .d (.int .i64 a3.head), .d (.int .i64 a3.n), .d (.sl Key.tm a3.args)], some [.d (.int .i64 a4.op), .d (.int .i64 a4.head), .d (.int .i64 a4.n), .full Key.tm a4.args], some [.d (.int .i64 a5)]] ∧ ds = [] ∧ nt = 43 := by
  unfold Rl38_5_0
  refine uN_k fun e => ?_; subst e
  refine uC_k fun x0 x1 e => ?_; subst e
  refine uS_k fun a1 e => ?_; subst e
  refine uC_k fun x2 x3 e => ?_; subst e
  refine uP_k fun e => ?_; subst e
  refine uC_k fun x4 x5 e => ?_; subst e
  refine uP_k fun e => ?_; subst e
  refine uC_k fun x6 x7 e => ?_; subst e
  refine uP_k fun e => ?_; subst e
  refine uC_k fun x8 x9 e => ?_; subst e
  refine uI_k fun a2 e => ?_; subst e
  refine u0_k fun e => ?_; subst e
  refine uM_k fun x11 x10 e => ?_; subst e
  refine uTmL_k fun a3 e => ?_; subst e
  refine uM_k fun x13 x12 e => ?_; subst e
  refine uTmL_k fun a4 e => ?_; subst e
  refine uM_k fun x15 x14 e => ?_; subst e
  refine uC_k fun x16 x17 e => ?_; subst e
  refine uI_k fun a5 e => ?_; subst e
  refine u0_k fun e => ?_; subst e
  refine uE_k fun e => ?_; subst e
  refine uDe_k fun e => ?_; subst e
  exact .inr ⟨a1, a2, a3, a4, a5, rfl, rfl, rfl, rfl⟩

theorem rl39_4_0 (vs : List (PV sig)) (m : Mem sig) (ds : List (FuncId × List (PV sig))) (nt : Nat) : (∀ (C : Tab) (ρ : Type) (K : Ex sig → St sig → Option ρ), Rl39_4_0 C ρ vs m ds nt K = none) ∨ ∃ (a1 : List Sm) (a2 : List Int) (a3 : List Tm) (a4 : Int) (a5 : Int), vs = [.d (.sl Key.sm a1), .d (.sl Key.int a2), .d (.sl Key.tm a3), .d (.int .i64 a4), .d (.int .i64 a5)] ∧ m = [] ∧ ds = [] ∧ nt = 27 := by
  unfold Rl39_4_0
  refine uN_k fun e => ?_; subst e
  refine uC_k fun x0 x1 e => ?_; subst e
  refine uS_k fun a1 e => ?_; subst e
  refine uC_k fun x2 x3 e => ?_; subst e
  refine uS_k fun a2 e => ?_; subst e
  refine uC_k fun x4 x5 e => ?_; subst e
  refine uS_k fun a3 e => ?_; subst e
  refine uC_k fun x6 x7 e => ?_; subst e
  refine uI_k fun a4 e => ?_; subst e
  refine uC_k fun x8 x9 e => ?_; subst e
  refine uI_k fun a5 e => ?_; subst e
  refine u0_k fun e => ?_; subst e
  refine uE_k fun e => ?_; subst e
  refine uDe_k fun e => ?_; subst e
  exact .inr ⟨a1, a2, a3, a4, a5, rfl, rfl, rfl, rfl⟩

theorem rl41_6_0 (vs : List (PV sig)) (m : Mem sig) (ds : List (FuncId × List (PV sig))) (nt : Nat) : (∀ (C : Tab) (ρ : Type) (K : Ex sig → St sig → Option ρ), Rl41_6_0 C ρ vs m ds nt K = none) ∨ ∃ (a1 : Int) (a2 : List Tm) (a3 : Int) (a4 : Int) (a5 : Int) (a6 : Tm) (a7 : Tm) (a8 : Sm) (a9 : Tm) (a10 : Tm), vs = [.ptr 0 0, .d (.int .i64 a1), .ptr 1 0, .ptr 2 0, .ptr 3 0, .ptr 4 0, .ptr 5 0, .d (.sl Key.tm a2), .d (.int .i64 a3), .d (.int .i64 a4)] ∧ m = [some [.d (.int .i64 a5)], some [.d (.int .i64 a6.op), .d (.int .i64 a6.head), .d (.int .i64 a6.n), .d (.sl Key.tm a6.args)], some [.d (.int .i64 a7.op), .d (.int .i64 a7.head), .d (.int .i64 a7.n), .d (.sl Key.tm a7.args)], some [.d (.sl Key.sm a8.args), .d (.int .i64 a8.con)], some [.d (.int .i64 a9.op), .d (.int .i64 a9.head), .d (.int .i64 a9.n), .full Key.tm a9.args], some [.d (.int .i64 a10.op), .d (.int .i64 a10.head), .d (.int .i64 a10.n), .own Key.tm a10.args]] ∧ ds = [] ∧ nt = 89 := by
  unfold Rl41_6_0
  refine uN_k fun e => ?_; subst e
  refine uC_k fun x0 x1 e => ?_; subst e
  refine uP_k fun e => ?_; subst e
  refine uC_k fun x2 x3 e => ?_; subst e
  refine uI_k fun a1 e => ?_; subst e
  refine uC_k fun x4 x5 e => ?_; subst e
  refine uP_k fun e => ?_; subst e
  refine uC_k fun x6 x7 e => ?_; subst e
  refine uP_k fun e => ?_; subst e
  refine uC_k fun x8 x9 e => ?_; subst e
  refine uP_k fun e => ?_; subst e
  refine uC_k fun x10 x11 e => ?_; subst e
  refine uP_k fun e => ?_; subst e
  refine uC_k fun x12 x13 e => ?_; subst e
  refine uP_k fun e => ?_; subst e
  refine uC_k fun x14 x15 e => ?_; subst e
  refine uS_k fun a2 e => ?_; subst e
  refine uC_k fun x16 x17 e => ?_; subst e
  refine uI_k fun a3 e => ?_; subst e
  refine uC_k fun x18 x19 e => ?_; subst e
  refine uI_k fun a4 e => ?_; subst e
  refine u0_k fun e => ?_; subst e
  refine uM_k fun x21 x20 e => ?_; subst e
  refine uC_k fun x22 x23 e => ?_; subst e
  refine uI_k fun a5 e => ?_; subst e
  refine u0_k fun e => ?_; subst e
  refine uM_k fun x25 x24 e => ?_; subst e
  refine uTmL_k fun a6 e => ?_; subst e
  refine uM_k fun x27 x26 e => ?_; subst e
  refine uTmL_k fun a7 e => ?_; subst e
  refine uM_k fun x29 x28 e => ?_; subst e
  refine uSmL_k fun a8 e => ?_; subst e
  refine uM_k fun x31 x30 e => ?_; subst e
  refine uTmL_k fun a9 e => ?_; subst e
  refine uM_k fun x33 x32 e => ?_; subst e
  refine uTmL_k fun a10 e => ?_; subst e
  refine uE_k fun e => ?_; subst e
  refine uDe_k fun e => ?_; subst e
  exact .inr ⟨a1, a2, a3, a4, a5, a6, a7, a8, a9, a10, rfl, rfl, rfl, rfl⟩

theorem rl43_7_0 (vs : List (PV sig)) (m : Mem sig) (ds : List (FuncId × List (PV sig))) (nt : Nat) : (∀ (C : Tab) (ρ : Type) (K : Ex sig → St sig → Option ρ), Rl43_7_0 C ρ vs m ds nt K = none) ∨ ∃ (a1 : Int) (a2 : Int) (a3 : Int) (a4 : Tm) (a5 : Tm) (a6 : Sm) (a7 : Tm) (a8 : Tm), vs = [.ptr 0 0, .d (.int .i64 a1), .ptr 1 0, .ptr 2 0, .ptr 3 0, .ptr 4 0, .ptr 5 0, .d (.int .i64 a2)] ∧ m = [some [.d (.int .i64 a3)], some [.d (.int .i64 a4.op), .d (.int .i64 a4.head), .d (.int .i64 a4.n), .d (.sl Key.tm a4.args)], some [.d (.int .i64 a5.op), .d (.int .i64 a5.head), .d (.int .i64 a5.n), .d (.sl Key.tm a5.args)], some [.d (.sl Key.sm a6.args), .d (.int .i64 a6.con)], some [.d (.int .i64 a7.op), .d (.int .i64 a7.head), .d (.int .i64 a7.n), .full Key.tm a7.args], some [.d (.int .i64 a8.op), .d (.int .i64 a8.head), .d (.int .i64 a8.n), .own Key.tm a8.args]] ∧ ds = [] ∧ nt = 127 := by
  unfold Rl43_7_0
  refine uN_k fun e => ?_; subst e
  refine uC_k fun x0 x1 e => ?_; subst e
  refine uP_k fun e => ?_; subst e
  refine uC_k fun x2 x3 e => ?_; subst e
  refine uI_k fun a1 e => ?_; subst e
  refine uC_k fun x4 x5 e => ?_; subst e
  refine uP_k fun e => ?_; subst e
  refine uC_k fun x6 x7 e => ?_; subst e
  refine uP_k fun e => ?_; subst e
  refine uC_k fun x8 x9 e => ?_; subst e
  refine uP_k fun e => ?_; subst e
  refine uC_k fun x10 x11 e => ?_; subst e
  refine uP_k fun e => ?_; subst e
  refine uC_k fun x12 x13 e => ?_; subst e
  refine uP_k fun e => ?_; subst e
  refine uC_k fun x14 x15 e => ?_; subst e
  refine uI_k fun a2 e => ?_; subst e
  refine u0_k fun e => ?_; subst e
  refine uM_k fun x17 x16 e => ?_; subst e
  refine uC_k fun x18 x19 e => ?_; subst e
  refine uI_k fun a3 e => ?_; subst e
  refine u0_k fun e => ?_; subst e
  refine uM_k fun x21 x20 e => ?_; subst e
  refine uTmL_k fun a4 e => ?_; subst e
  refine uM_k fun x23 x22 e => ?_; subst e
  refine uTmL_k fun a5 e => ?_; subst e
  refine uM_k fun x25 x24 e => ?_; subst e
  refine uSmL_k fun a6 e => ?_; subst e
  refine uM_k fun x27 x26 e => ?_; subst e
  refine uTmL_k fun a7 e => ?_; subst e
  refine uM_k fun x29 x28 e => ?_; subst e
  refine uTmL_k fun a8 e => ?_; subst e
  refine uE_k fun e => ?_; subst e
  refine uDe_k fun e => ?_; subst e
  exact .inr ⟨a1, a2, a3, a4, a5, a6, a7, a8, rfl, rfl, rfl, rfl⟩

theorem rl47_3_0 (vs : List (PV sig)) (m : Mem sig) (ds : List (FuncId × List (PV sig))) (nt : Nat) : (∀ (C : Tab) (ρ : Type) (K : Ex sig → St sig → Option ρ), Rl47_3_0 C ρ vs m ds nt K = none) ∨ ∃ (a1 : Int) (a2 : Int) (a3 : Int) (a4 : Tm), vs = [.d (.int .i64 a1), .ptr 0 0, .d (.int .i64 a2), .d (.int .i64 a3)] ∧ m = [some [.d (.int .i64 a4.op), .d (.int .i64 a4.head), .d (.int .i64 a4.n), .d (.sl Key.tm a4.args)]] ∧ ds = [] ∧ nt = 34 := by
  unfold Rl47_3_0
  refine uN_k fun e => ?_; subst e
  refine uC_k fun x0 x1 e => ?_; subst e
  refine uI_k fun a1 e => ?_; subst e
  refine uC_k fun x2 x3 e => ?_; subst e
  refine uP_k fun e => ?_; subst e
  refine uC_k fun x4 x5 e => ?_; subst e
  refine uI_k fun a2 e => ?_; subst e
  refine uC_k fun x6 x7 e => ?_; subst e
  refine uI_k fun a3 e => ?_; subst e
  refine u0_k fun e => ?_; subst e
  refine uM_k fun x9 x8 e => ?_; subst e
  refine uTmL_k fun a4 e => ?_; subst e
  refine uE_k fun e => ?_; subst e
  refine uDe_k fun e => ?_; subst e
  exact .inr ⟨a1, a2, a3, a4, rfl, rfl, rfl, rfl⟩

theorem rl48_18_0 (vs : List (PV sig)) (m : Mem sig) (ds : List (FuncId × List (PV sig))) (nt : Nat) : (∀ (C : Tab) (ρ : Type) (K : Ex sig → St sig → Option ρ), Rl48_18_0 C ρ vs m ds nt K = none) ∨ ∃ (a1 : Int) (a2 : Int) (a3 : Tm), vs = [.d (.int .i64 a1), .ptr 0 0, .d (.int .i64 a2)] ∧ m = [some [.d (.int .i64 a3.op), .d (.int .i64 a3.head), .d (.int .i64 a3.n), .d (.sl Key.tm a3.args)]] ∧ ds = [] ∧ nt = 94 := by
  unfold Rl48_18_0
  refine uN_k fun e => ?_; subst e
  refine uC_k fun x0 x1 e => ?_; subst e
  refine uI_k fun a1 e => ?_; subst e
  refine uC_k fun x2 x3 e => ?_; subst e
  refine uP_k fun e => ?_; subst e
  refine uC_k fun x4 x5 e => ?_; subst e
  refine uI_k fun a2 e => ?_; subst e
  refine u0_k fun e => ?_; subst e
  refine uM_k fun x7 x6 e => ?_; subst e
  refine uTmL_k fun a3 e => ?_; subst e
  refine uE_k fun e => ?_; subst e
  refine uDe_k fun e => ?_; subst e
  exact .inr ⟨a1, a2, a3, rfl, rfl, rfl, rfl⟩

theorem rl49_5_0 (vs : List (PV sig)) (m : Mem sig) (ds : List (FuncId × List (PV sig))) (nt : Nat) : (∀ (C : Tab) (ρ : Type) (K : Ex sig → St sig → Option ρ), Rl49_5_0 C ρ vs m ds nt K = none) ∨ ∃ (a1 : Int) (a2 : Int) (a3 : Int) (a4 : Sm), vs = [.d (.int .i64 a1), .ptr 0 0, .d (.int .i64 a2), .d (.int .i64 a3)] ∧ m = [some [.d (.sl Key.sm a4.args), .d (.int .i64 a4.con)]] ∧ ds = [] ∧ nt = 46 := by
  unfold Rl49_5_0
  refine uN_k fun e => ?_; subst e
  refine uC_k fun x0 x1 e => ?_; subst e
  refine uI_k fun a1 e => ?_; subst e
  refine uC_k fun x2 x3 e => ?_; subst e
  refine uP_k fun e => ?_; subst e
  refine uC_k fun x4 x5 e => ?_; subst e
  refine uI_k fun a2 e => ?_; subst e
  refine uC_k fun x6 x7 e => ?_; subst e
  refine uI_k fun a3 e => ?_; subst e
  refine u0_k fun e => ?_; subst e
  refine uM_k fun x9 x8 e => ?_; subst e
  refine uSmL_k fun a4 e => ?_; subst e
  refine uE_k fun e => ?_; subst e
  refine uDe_k fun e => ?_; subst e
  exact .inr ⟨a1, a2, a3, a4, rfl, rfl, rfl, rfl⟩

theorem rl50_4_0 (vs : List (PV sig)) (m : Mem sig) (ds : List (FuncId × List (PV sig))) (nt : Nat) : (∀ (C : Tab) (ρ : Type) (K : Ex sig → St sig → Option ρ), Rl50_4_0 C ρ vs m ds nt K = none) ∨ ∃ (a1 : Int) (a2 : Int) (a3 : Int) (a4 : Tm), vs = [.d (.int .i64 a1), .d (.int .i64 a2), .ptr 0 0, .d (.int .i64 a3)] ∧ m = [some [.d (.int .i64 a4.op), .d (.int .i64 a4.head), .d (.int .i64 a4.n), .d (.sl Key.tm a4.args)]] ∧ ds = [] ∧ nt = 51 := by
  unfold Rl50_4_0
  refine uN_k fun e => ?_; subst e
  refine uC_k fun x0 x1 e => ?_; subst e
  refine uI_k fun a1 e => ?_; subst e
  refine uC_k fun x2 x3 e => ?_; subst e
  refine uI_k fun a2 e => ?_; subst e
  refine uC_k fun x4 x5 e => ?_; subst e
  refine uP_k fun e => ?_; subst e
  refine uC_k fun x6 x7 e => ?_; subst e
  refine uI_k fun a3 e => ?_; subst e
  refine u0_k fun e => ?_; subst e
  refine uM_k fun x9 x8 e => ?_; subst e
  refine uTmL_k fun a4 e => ?_; subst e
  refine uE_k fun e => ?_; subst e
  refine uDe_k fun e => ?_; subst e
  exact .inr ⟨a1, a2, a3, a4, rfl, rfl, rfl, rfl⟩

theorem rl51_6_0 (vs : List (PV sig)) (m : Mem sig) (ds : List (FuncId × List (PV sig))) (nt : Nat) : (∀ (C : Tab) (ρ : Type) (K : Ex sig → St sig → Option ρ), Rl51_6_0 C ρ vs m ds nt K = none) ∨ ∃ (a1 : Int) (a2 : Int) (a3 : Int) (a4 : Tm) (a5 : Tm) (a6 : Tm), vs = [.d (.int .i64 a1), .d (.int .i64 a2), .ptr 0 0, .ptr 1 0, .ptr 2 0, .d (.int .i64 a3)] ∧ m = [some [.d (.int .i64 a4.op), .d (.int .i64 a4.head), .d (.int .i64 a4.n), .d (.sl Key.tm a4.args)], some [.d (.int .i64 a5.op), .d (.int .i64 a5.head), .d (.int .i64 a5.n), .full Key.tm a5.args], some [.d (.int .i64 a6.op), .d (.int .i64 a6.head), .d (.int .i64 a6.n), .own Key.tm a6.args]] ∧ ds = [] ∧ nt = 55 := by
  unfold Rl51_6_0
  refine uN_k fun e => ?_; subst e
  refine uC_k fun x0 x1 e => ?_; subst e
  refine uI_k fun a1 e => ?_; subst e
  refine uC_k fun x2 x3 e => ?_; subst e
  refine uI_k fun a2 e => ?_; subst e
  refine uC_k fun x4 x5 e => ?_; subst e
  refine uP_k fun e => ?_; subst e
  refine uC_k fun x6 x7 e => ?_; subst e
  refine uP_k fun e => ?_; subst e
  refine uC_k fun x8 x9 e => ?_; subst e
  refine uP_k fun e => ?_; subst e
  refine uC_k fun x10 x11 e => ?_; subst e
  refine uI_k fun a3 e => ?_; subst e
  refine u0_k fun e => ?_; subst e
  refine uM_k fun x13 x12 e => ?_; subst e
  refine uTmL_k fun a4 e => ?_; subst e
  refine uM_k fun x15 x14 e => ?_; subst e
  refine uTmL_k fun a5 e => ?_; subst e
  refine uM_k fun x17 x16 e => ?_; subst e
  refine uTmL_k fun a6 e => ?_; subst e
  refine uE_k fun e => ?_; subst e
  refine uDe_k fun e => ?_; subst e
  exact .inr ⟨a1, a2, a3, a4, a5, a6, rfl, rfl, rfl, rfl⟩

theorem rl52_6_0 (vs : List (PV sig)) (m : Mem sig) (ds : List (FuncId × List (PV sig))) (nt : Nat) : (∀ (C : Tab) (ρ : Type) (K : Ex sig → St sig → Option ρ), Rl52_6_0 C ρ vs m ds nt K = none) ∨ ∃ (a1 : Int) (a2 : List Sm) (a3 : Int) (a4 : Int) (a5 : Sm) (a6 : Tm) (a7 : Tm), vs = [.ptr 1 0, .d (.int .i64 a1), .ptr 2 0, .d (.sl Key.sm a2), .d (.int .i64 a3), .d (.int .i64 a4)] ∧ m = [some [.d (.sl Key.sm a5.args), .d (.int .i64 a5.con)], some [.d (.int .i64 a6.op), .d (.int .i64 a6.head), .d (.int .i64 a6.n), .full Key.tm a6.args], some [.d (.int .i64 a7.op), .d (.int .i64 a7.head), .d (.int .i64 a7.n), .own Key.tm a7.args]] ∧ ds = [] ∧ nt = 51 := by
  unfold Rl52_6_0
  refine uN_k fun e => ?_; subst e
  refine uC_k fun x0 x1 e => ?_; subst e
  refine uP_k fun e => ?_; subst e
  refine uC_k fun x2 x3 e => ?_; subst e
  refine uI_k fun a1 e => ?_; subst e
  refine uC_k fun x4 x5 e => ?_; subst e
  refine uP_k fun e => ?_; subst e
  refine uC_k fun x6 x7 e => ?_; subst e
  refine uS_k fun a2 e => ?_; subst e
  refine uC_k fun x8 x9 e => ?_; subst e
  refine uI_k fun a3 e => ?_; subst e
  refine uC_k fun x10 x11 e => ?_; subst e
  refine uI_k fun a4 e => ?_; subst e
  refine u0_k fun e => ?_; subst e
  refine uM_k fun x13 x12 e => ?_; subst e
  refine uSmL_k fun a5 e => ?_; subst e
  refine uM_k fun x15 x14 e => ?_; subst e
  refine uTmL_k fun a6 e => ?_; subst e
  refine uM_k fun x17 x16 e => ?_; subst e
  refine uTmL_k fun a7 e => ?_; subst e
  refine uE_k fun e => ?_; subst e
  refine uDe_k fun e => ?_; subst e
  exact .inr ⟨a1, a2, a3, a4, a5, a6, a7, rfl, rfl, rfl, rfl⟩

theorem rl52_11_0 (vs : List (PV sig)) (m : Mem sig) (ds : List (FuncId × List (PV sig))) (nt : Nat) : (∀ (C : Tab) (ρ : Type) (K : Ex sig → St sig → Option ρ), Rl52_11_0 C ρ vs m ds nt K = none) ∨ ∃ (a1 : Int) (a2 : Int) (a3 : Sm) (a4 : Tm) (a5 : Tm), vs = [.ptr 1 0, .ptr 2 0, .d (.int .i64 a1), .d (.int .i64 a2)] ∧ m = [some [.d (.sl Key.sm a3.args), .d (.int .i64 a3.con)], some [.d (.int .i64 a4.op), .d (.int .i64 a4.head), .d (.int .i64 a4.n), .full Key.tm a4.args], some [.d (.int .i64 a5.op), .d (.int .i64 a5.head), .d (.int .i64 a5.n), .d (.sl Key.tm a5.args)]] ∧ ds = [] ∧ nt = 51 := by
  unfold Rl52_11_0
  refine uN_k fun e => ?_; subst e
  refine uC_k fun x0 x1 e => ?_; subst e
  refine uP_k fun e => ?_; subst e
  refine uC_k fun x2 x3 e => ?_; subst e
  refine uP_k fun e => ?_; subst e
  refine uC_k fun x4 x5 e => ?_; subst e
  refine uI_k fun a1 e => ?_; subst e
  refine uC_k fun x6 x7 e => ?_; subst e
  refine uI_k fun a2 e => ?_; subst e
  refine u0_k fun e => ?_; subst e
  refine uM_k fun x9 x8 e => ?_; subst e
  refine uSmL_k fun a3 e => ?_; subst e
  refine uM_k fun x11 x10 e => ?_; subst e
  refine uTmL_k fun a4 e => ?_; subst e
  refine uM_k fun x13 x12 e => ?_; subst e
  refine uTmL_k fun a5 e => ?_; subst e
  refine uE_k fun e => ?_; subst e
  refine uDe_k fun e => ?_; subst e
  exact .inr ⟨a1, a2, a3, a4, a5, rfl, rfl, rfl, rfl⟩

theorem rl55_3_0 (vs : List (PV sig)) (m : Mem sig) (ds : List (FuncId × List (PV sig))) (nt : Nat) : (∀ (C : Tab) (ρ : Type) (K : Ex sig → St sig → Option ρ), Rl55_3_0 C ρ vs m ds nt K = none) ∨ ∃ (a1 : List Tm) (a2 : Int) (a3 : Int) (a4 : Int) (a5 : Tm) (a6 : Sm) (a7 : Tm), vs = [.ptr 1 0, .ptr 2 0, .ptr 3 0, .fn (.func 41) [.ptr 0 0] [], .d (.sl Key.tm a1), .d (.int .i64 a2), .d (.int .i64 a3)] ∧ m = [some [.d (.int .i64 a4)], some [.d (.int .i64 a5.op), .d (.int .i64 a5.head), .d (.int .i64 a5.n), .d (.sl Key.tm a5.args)], some [.d (.sl Key.sm a6.args), .d (.int .i64 a6.con)], some [.d (.int .i64 a7.op), .d (.int .i64 a7.head), .d (.int .i64 a7.n), .full Key.tm a7.args]] ∧ ds = [] ∧ nt = 47 := by
  unfold Rl55_3_0
  refine uN_k fun e => ?_; subst e
  refine uC_k fun x0 x1 e => ?_; subst e
  refine uP_k fun e => ?_; subst e
  refine uC_k fun x2 x3 e => ?_; subst e
  refine uP_k fun e => ?_; subst e
  refine uC_k fun x4 x5 e => ?_; subst e
  refine uP_k fun e => ?_; subst e
  refine uC_k fun x6 x7 e => ?_; subst e
  refine uFn_k fun x8 x9 e => ?_; subst e
  refine uC_k fun x10 x11 e => ?_; subst e
  refine uP_k fun e => ?_; subst e
  refine u0_k fun e => ?_; subst e
  refine u0_k fun e => ?_; subst e
  refine uC_k fun x12 x13 e => ?_; subst e
  refine uS_k fun a1 e => ?_; subst e
  refine uC_k fun x14 x15 e => ?_; subst e
  refine uI_k fun a2 e => ?_; subst e
  refine uC_k fun x16 x17 e => ?_; subst e
  refine uI_k fun a3 e => ?_; subst e
  refine u0_k fun e => ?_; subst e
  refine uM_k fun x19 x18 e => ?_; subst e
  refine uC_k fun x20 x21 e => ?_; subst e
  refine uI_k fun a4 e => ?_; subst e
  refine u0_k fun e => ?_; subst e
  refine uM_k fun x23 x22 e => ?_; subst e
  refine uTmL_k fun a5 e => ?_; subst e
  refine uM_k fun x25 x24 e => ?_; subst e
  refine uSmL_k fun a6 e => ?_; subst e
  refine uM_k fun x27 x26 e => ?_; subst e
  refine uTmL_k fun a7 e => ?_; subst e
  refine uE_k fun e => ?_; subst e
  refine uDe_k fun e => ?_; subst e
  exact .inr ⟨a1, a2, a3, a4, a5, a6, a7, rfl, rfl, rfl, rfl⟩

theorem rl56_2_0 (vs : List (PV sig)) (m : Mem sig) (ds : List (FuncId × List (PV sig))) (nt : Nat) : (∀ (C : Tab) (ρ : Type) (K : Ex sig → St sig → Option ρ), Rl56_2_0 C ρ vs m ds nt K = none) ∨ ∃ (a1 : List Tm) (a2 : Int), vs = [.d (.sl Key.tm a1), .d (.int .i64 a2)] ∧ m = [] ∧ ds = [] ∧ nt = 24 := by
  unfold Rl56_2_0
  refine uN_k fun e => ?_; subst e
  refine uC_k fun x0 x1 e => ?_; subst e
  refine uS_k fun a1 e => ?_; subst e
  refine uC_k fun x2 x3 e => ?_; subst e
  refine uI_k fun a2 e => ?_; subst e
  refine u0_k fun e => ?_; subst e
  refine uE_k fun e => ?_; subst e
  refine uDe_k fun e => ?_; subst e
  exact .inr ⟨a1, a2, rfl, rfl, rfl, rfl⟩

theorem rl61_6_0 (vs : List (PV sig)) (m : Mem sig) (ds : List (FuncId × List (PV sig))) (nt : Nat) : (∀ (C : Tab) (ρ : Type) (K : Ex sig → St sig → Option ρ), Rl61_6_0 C ρ vs m ds nt K = none) ∨ ∃ (a1 : Int) (a2 : Int) (a3 : Sm) (a4 : Tm) (a5 : Tm), vs = [.ptr 0 0, .ptr 1 0, .d (.int .i64 a1), .ptr 2 0, .d (.int .i64 a2)] ∧ m = [some [.d (.sl Key.sm a3.args), .d (.int .i64 a3.con)], some [.d (.int .i64 a4.op), .d (.int .i64 a4.head), .d (.int .i64 a4.n), .full Key.tm a4.args], some [.d (.int .i64 a5.op), .d (.int .i64 a5.head), .d (.int .i64 a5.n), .own Key.tm a5.args]] ∧ ds = [] ∧ nt = 54 := by
  unfold Rl61_6_0
  refine uN_k fun e => ?_; subst e
  refine uC_k fun x0 x1 e => ?_; subst e
  refine uP_k fun e => ?_; subst e
  refine uC_k fun x2 x3 e => ?_; subst e
  refine uP_k fun e => ?_; subst e
  refine uC_k fun x4 x5 e => ?_; subst e
  refine uI_k fun a1 e => ?_; subst e
  refine uC_k fun x6 x7 e => ?_; subst e
  refine uP_k fun e => ?_; subst e
  refine uC_k fun x8 x9 e => ?_; subst e
  refine uI_k fun a2 e => ?_; subst e
  refine u0_k fun e => ?_; subst e
  refine uM_k fun x11 x10 e => ?_; subst e
  refine uSmL_k fun a3 e => ?_; subst e
  refine uM_k fun x13 x12 e => ?_; subst e
  refine uTmL_k fun a4 e => ?_; subst e
  refine uM_k fun x15 x14 e => ?_; subst e
  refine uTmL_k fun a5 e => ?_; subst e
  refine uE_k fun e => ?_; subst e
  refine uDe_k fun e => ?_; subst e
  exact .inr ⟨a1, a2, a3, a4, a5, rfl, rfl, rfl, rfl⟩

theorem rl61_11_0 (vs : List (PV sig)) (m : Mem sig) (ds : List (FuncId × List (PV sig))) (nt : Nat) : (∀ (C : Tab) (ρ : Type) (K : Ex sig → St sig → Option ρ), Rl61_11_0 C ρ vs m ds nt K = none) ∨ ∃ (a1 : Int) (a2 : Int) (a3 : Sm) (a4 : Tm) (a5 : Tm), vs = [.ptr 1 0, .d (.int .i64 a1), .ptr 2 0, .d (.int .i64 a2)] ∧ m = [some [.d (.sl Key.sm a3.args), .d (.int .i64 a3.con)], some [.d (.int .i64 a4.op), .d (.int .i64 a4.head), .d (.int .i64 a4.n), .full Key.tm a4.args], some [.d (.int .i64 a5.op), .d (.int .i64 a5.head), .d (.int .i64 a5.n), .own Key.tm a5.args]] ∧ ds = [] ∧ nt = 54 := by
  unfold Rl61_11_0
  refine uN_k fun e => ?_; subst e
  refine uC_k fun x0 x1 e => ?_; subst e
  refine uP_k fun e => ?_; subst e
  refine uC_k fun x2 x3 e => ?_; subst e
  refine uI_k fun a1 e => ?_; subst e
  refine uC_k fun x4 x5 e => ?_; subst e
  refine uP_k fun e => ?_; subst e
  refine uC_k fun x6 x7 e => ?_; subst e
  refine uI_k fun a2 e => ?_; subst e
  refine u0_k fun e => ?_; subst e
  refine uM_k fun x9 x8 e => ?_; subst e
  refine uSmL_k fun a3 e => ?_; subst e
  refine uM_k fun x11 x10 e => ?_; subst e
  refine uTmL_k fun a4 e => ?_; subst e
  refine uM_k fun x13 x12 e => ?_; subst e
  refine uTmL_k fun a5 e => ?_; subst e
  refine uE_k fun e => ?_; subst e
  refine uDe_k fun e => ?_; subst e
  exact .inr ⟨a1, a2, a3, a4, a5, rfl, rfl, rfl, rfl⟩

theorem rl74_17_0 (vs : List (PV sig)) (m : Mem sig) (ds : List (FuncId × List (PV sig))) (nt : Nat) : (∀ (C : Tab) (ρ : Type) (K : Ex sig → St sig → Option ρ), Rl74_17_0 C ρ vs m ds nt K = none) ∨ ∃ (a1 : Int) (a2 : Int) (a3 : Bool) (a4 : Int) (a5 : Int) (a6 : Tm), vs = [.d (.int .i64 a1), .ptr 0 0, .ptr 1 0, .d (.int .i64 a2), .d (.bool a3), .d (.int .i64 a4)] ∧ m = [some [.d (.int .i64 a5)], some [.d (.int .i64 a6.op), .d (.int .i64 a6.head), .d (.int .i64 a6.n), .d (.sl Key.tm a6.args)]] ∧ ds = [] ∧ nt = 95 := by
  unfold Rl74_17_0
  refine uN_k fun e => ?_; subst e
  refine uC_k fun x0 x1 e => ?_; subst e
  refine uI_k fun a1 e => ?_; subst e
  refine uC_k fun x2 x3 e => ?_; subst e
  refine uP_k fun e => ?_; subst e
  refine uC_k fun x4 x5 e => ?_; subst e
  refine uP_k fun e => ?_; subst e
  refine uC_k fun x6 x7 e => ?_; subst e
  refine uI_k fun a2 e => ?_; subst e
  refine uC_k fun x8 x9 e => ?_; subst e
  refine uB_k fun a3 e => ?_; subst e
  refine uC_k fun x10 x11 e => ?_; subst e
  refine uI_k fun a4 e => ?_; subst e
  refine u0_k fun e => ?_; subst e
  refine uM_k fun x13 x12 e => ?_; subst e
  refine uC_k fun x14 x15 e => ?_; subst e
  refine uI_k fun a5 e => ?_; subst e
  refine u0_k fun e => ?_; subst e
  refine uM_k fun x17 x16 e => ?_; subst e
  refine uTmL_k fun a6 e => ?_; subst e
  refine uE_k fun e => ?_; subst e
  refine uDe_k fun e => ?_; subst e
  exact .inr ⟨a1, a2, a3, a4, a5, a6, rfl, rfl, rfl, rfl⟩

theorem rl75_3_0 (vs : List (PV sig)) (m : Mem sig) (ds : List (FuncId × List (PV sig))) (nt : Nat) : (∀ (C : Tab) (ρ : Type) (K : Ex sig → St sig → Option ρ), Rl75_3_0 C ρ vs m ds nt K = none) ∨ ∃ (a1 : Int) (a2 : List Tm) (a3 : Int) (a4 : Int) (a5 : Tm) (a6 : Tm) (a7 : Tm), vs = [.d (.int .i64 a1), .fn (.func 76) [] [], .ptr 0 0, .ptr 1 0, .ptr 2 0, .d (.sl Key.tm a2), .d (.int .i64 a3), .d (.int .i64 a4)] ∧ m = [some [.d (.int .i64 a5.op), .d (.int .i64 a5.head), .d (.int .i64 a5.n), .d (.sl Key.tm a5.args)], some [.d (.int .i64 a6.op), .d (.int .i64 a6.head), .d (.int .i64 a6.n), .full Key.tm a6.args], some [.d (.int .i64 a7.op), .d (.int .i64 a7.head), .d (.int .i64 a7.n), .own Key.tm a7.args]] ∧ ds = [] ∧ nt = 43 := by
  unfold Rl75_3_0
  refine uN_k fun e => ?_; subst e
  refine uC_k fun x0 x1 e => ?_; subst e
  refine uI_k fun a1 e => ?_; subst e
  refine uC_k fun x2 x3 e => ?_; subst e
  refine uFn_k fun x4 x5 e => ?_; subst e
  refine u0_k fun e => ?_; subst e
  refine u0_k fun e => ?_; subst e
  refine uC_k fun x6 x7 e => ?_; subst e
  refine uP_k fun e => ?_; subst e
  refine uC_k fun x8 x9 e => ?_; subst e
  refine uP_k fun e => ?_; subst e
  refine uC_k fun x10 x11 e => ?_; subst e
  refine uP_k fun e => ?_; subst e
  refine uC_k fun x12 x13 e => ?_; subst e
  refine uS_k fun a2 e => ?_; subst e
  refine uC_k fun x14 x15 e => ?_; subst e
  refine uI_k fun a3 e => ?_; subst e
  refine uC_k fun x16 x17 e => ?_; subst e
  refine uI_k fun a4 e => ?_; subst e
  refine u0_k fun e => ?_; subst e
  refine uM_k fun x19 x18 e => ?_; subst e
  refine uTmL_k fun a5 e => ?_; subst e
  refine uM_k fun x21 x20 e => ?_; subst e
  refine uTmL_k fun a6 e => ?_; subst e
  refine uM_k fun x23 x22 e => ?_; subst e
  refine uTmL_k fun a7 e => ?_; subst e
  refine uE_k fun e => ?_; subst e
  refine uDe_k fun e => ?_; subst e
  exact .inr ⟨a1, a2, a3, a4, a5, a6, a7, rfl, rfl, rfl, rfl⟩

theorem rl75_3_1 (vs : List (PV sig)) (m : Mem sig) (ds : List (FuncId × List (PV sig))) (nt : Nat) : (∀ (C : Tab) (ρ : Type) (K : Ex sig → St sig → Option ρ), Rl75_3_1 C ρ vs m ds nt K = none) ∨ ∃ (a1 : Int) (a2 : List Tm) (a3 : Int) (a4 : Int) (a5 : Int) (a6 : Int) (a7 : Tm) (a8 : Tm) (a9 : Tm), vs = [.d (.int .i64 a1), .fn (.func 89) [] [.ptr 0 0, .ptr 1 0], .ptr 2 0, .ptr 3 0, .ptr 4 0, .d (.sl Key.tm a2), .d (.int .i64 a3), .d (.int .i64 a4)] ∧ m = [some [.d (.int .i64 a5)], some [.d (.int .i64 a6)], some [.d (.int .i64 a7.op), .d (.int .i64 a7.head), .d (.int .i64 a7.n), .d (.sl Key.tm a7.args)], some [.d (.int .i64 a8.op), .d (.int .i64 a8.head), .d (.int .i64 a8.n), .full Key.tm a8.args], some [.d (.int .i64 a9.op), .d (.int .i64 a9.head), .d (.int .i64 a9.n), .own Key.tm a9.args]] ∧ ds = [] ∧ nt = 43 := by
  unfold Rl75_3_1
  refine uN_k fun e => ?_; subst e
  refine uC_k fun x0 x1 e => ?_; subst e
  refine uI_k fun a1 e => ?_; subst e
  refine uC_k fun x2 x3 e => ?_; subst e
  refine uFn_k fun x4 x5 e => ?_; subst e
  refine u0_k fun e => ?_; subst e
  refine uC_k fun x6 x7 e => ?_; subst e
  refine uP_k fun e => ?_; subst e
  refine uC_k fun x8 x9 e => ?_; subst e
  refine uP_k fun e => ?_; subst e
  refine u0_k fun e => ?_; subst e
  refine uC_k fun x10 x11 e => ?_; subst e
  refine uP_k fun e => ?_; subst e
  refine uC_k fun x12 x13 e => ?_; subst e
  refine uP_k fun e => ?_; subst e
  refine uC_k fun x14 x15 e => ?_; subst e
  refine uP_k fun e => ?_; subst e
  refine uC_k fun x16 x17 e => ?_; subst e
  refine uS_k fun a2 e => ?_; subst e
  refine uC_k fun x18 x19 e => ?_; subst e
  refine uI_k fun a3 e => ?_; subst e
  refine uC_k fun x20 x21 e => ?_; subst e
  refine uI_k fun a4 e => ?_; subst e
  refine u0_k fun e => ?_; subst e
  refine uM_k fun x23 x22 e => ?_; subst e
  refine uC_k fun x24 x25 e => ?_; subst e
  refine uI_k fun a5 e => ?_; subst e
  refine u0_k fun e => ?_; subst e
  refine uM_k fun x27 x26 e => ?_; subst e
  refine uC_k fun x28 x29 e => ?_; subst e
  refine uI_k fun a6 e => ?_; subst e
  refine u0_k fun e => ?_; subst e
  refine uM_k fun x31 x30 e => ?_; subst e
  refine uTmL_k fun a7 e => ?_; subst e
  refine uM_k fun x33 x32 e => ?_; subst e
  refine uTmL_k fun a8 e => ?_; subst e
  refine uM_k fun x35 x34 e => ?_; subst e
  refine uTmL_k fun a9 e => ?_; subst e
  refine uE_k fun e => ?_; subst e
  refine uDe_k fun e => ?_; subst e
  exact .inr ⟨a1, a2, a3, a4, a5, a6, a7, a8, a9, rfl, rfl, rfl, rfl⟩

theorem rl78_6_0 (vs : List (PV sig)) (m : Mem sig) (ds : List (FuncId × List (PV sig))) (nt : Nat) : (∀ (C : Tab) (ρ : Type) (K : Ex sig → St sig → Option ρ), Rl78_6_0 C ρ vs m ds nt K = none) ∨ ∃ (a1 : Int) (a2 : Int) (a3 : Int) (a4 : Tm) (a5 : Tm) (a6 : Tm), vs = [.d (.int .i64 a1), .d (.int .i64 a2), .ptr 0 0, .ptr 1 0, .ptr 2 0, .d (.int .i64 a3)] ∧ m = [some [.d (.int .i64 a4.op), .d (.int .i64 a4.head), .d (.int .i64 a4.n), .d (.sl Key.tm a4.args)], some [.d (.int .i64 a5.op), .d (.int .i64 a5.head), .d (.int .i64 a5.n), .full Key.tm a5.args], some [.d (.int .i64 a6.op), .d (.int .i64 a6.head), .d (.int .i64 a6.n), .own Key.tm a6.args]] ∧ ds = [] ∧ nt = 66 := by
  unfold Rl78_6_0
  refine uN_k fun e => ?_; subst e
  refine uC_k fun x0 x1 e => ?_; subst e
  refine uI_k fun a1 e => ?_; subst e
  refine uC_k fun x2 x3 e => ?_; subst e
  refine uI_k fun a2 e => ?_; subst e
  refine uC_k fun x4 x5 e => ?_; subst e
  refine uP_k fun e => ?_; subst e
  refine uC_k fun x6 x7 e => ?_; subst e
  refine uP_k fun e => ?_; subst e
  refine uC_k fun x8 x9 e => ?_; subst e
  refine uP_k fun e => ?_; subst e
  refine uC_k fun x10 x11 e => ?_; subst e
  refine uI_k fun a3 e => ?_; subst e
  refine u0_k fun e => ?_; subst e
  refine uM_k fun x13 x12 e => ?_; subst e
  refine uTmL_k fun a4 e => ?_; subst e
  refine uM_k fun x15 x14 e => ?_; subst e
  refine uTmL_k fun a5 e => ?_; subst e
  refine uM_k fun x17 x16 e => ?_; subst e
  refine uTmL_k fun a6 e => ?_; subst e
  refine uE_k fun e => ?_; subst e
  refine uDe_k fun e => ?_; subst e
  exact .inr ⟨a1, a2, a3, a4, a5, a6, rfl, rfl, rfl, rfl⟩

theorem rl79_6_0 (vs : List (PV sig)) (m : Mem sig) (ds : List (FuncId × List (PV sig))) (nt : Nat) : (∀ (C : Tab) (ρ : Type) (K : Ex sig → St sig → Option ρ), Rl79_6_0 C ρ vs m ds nt K = none) ∨ ∃ (a1 : List Tm) (a2 : Int) (a3 : Int) (a4 : Tm) (a5 : Sm) (a6 : Tm) (a7 : Sm), vs = [.ptr 1 0, .ptr 3 0, .d (.sl Key.tm a1), .d (.int .i64 a2), .d (.int .i64 a3)] ∧ m = [some [.d (.int .i64 a4.op), .d (.int .i64 a4.head), .d (.int .i64 a4.n), .d (.sl Key.tm a4.args)], some [.full Key.sm a5.args, .d (.int .i64 a5.con)], some [.d (.int .i64 a6.op), .d (.int .i64 a6.head), .d (.int .i64 a6.n), .d (.sl Key.tm a6.args)], some [.own Key.sm a7.args, .d (.int .i64 a7.con)]] ∧ ds = [] ∧ nt = 51 := by
  unfold Rl79_6_0
  refine uN_k fun e => ?_; subst e
  refine uC_k fun x0 x1 e => ?_; subst e
  refine uP_k fun e => ?_; subst e
  refine uC_k fun x2 x3 e => ?_; subst e
  refine uP_k fun e => ?_; subst e
  refine uC_k fun x4 x5 e => ?_; subst e
  refine uS_k fun a1 e => ?_; subst e
  refine uC_k fun x6 x7 e => ?_; subst e
  refine uI_k fun a2 e => ?_; subst e
  refine uC_k fun x8 x9 e => ?_; subst e
  refine uI_k fun a3 e => ?_; subst e
  refine u0_k fun e => ?_; subst e
  refine uM_k fun x11 x10 e => ?_; subst e
  refine uTmL_k fun a4 e => ?_; subst e
  refine uM_k fun x13 x12 e => ?_; subst e
  refine uSmL_k fun a5 e => ?_; subst e
  refine uM_k fun x15 x14 e => ?_; subst e
  refine uTmL_k fun a6 e => ?_; subst e
  refine uM_k fun x17 x16 e => ?_; subst e
  refine uSmL_k fun a7 e => ?_; subst e
  refine uE_k fun e => ?_; subst e
  refine uDe_k fun e => ?_; subst e
  exact .inr ⟨a1, a2, a3, a4, a5, a6, a7, rfl, rfl, rfl, rfl⟩

theorem rl82_2_0 (vs : List (PV sig)) (m : Mem sig) (ds : List (FuncId × List (PV sig))) (nt : Nat) : (∀ (C : Tab) (ρ : Type) (K : Ex sig → St sig → Option ρ), Rl82_2_0 C ρ vs m ds nt K = none) ∨ ∃ (a1 : List Sm) (a2 : Int) (a3 : Int), vs = [.d (.sl Key.sm a1), .fn (.func 67) [] [], .d (.int .i64 a2), .d (.int .i64 a3)] ∧ m = [] ∧ ds = [] ∧ nt = 19 := by
  unfold Rl82_2_0
  refine uN_k fun e => ?_; subst e
  refine uC_k fun x0 x1 e => ?_; subst e
  refine uS_k fun a1 e => ?_; subst e
  refine uC_k fun x2 x3 e => ?_; subst e
  refine uFn_k fun x4 x5 e => ?_; subst e
  refine u0_k fun e => ?_; subst e
  refine u0_k fun e => ?_; subst e
  refine uC_k fun x6 x7 e => ?_; subst e
  refine uI_k fun a2 e => ?_; subst e
  refine uC_k fun x8 x9 e => ?_; subst e
  refine uI_k fun a3 e => ?_; subst e
  refine u0_k fun e => ?_; subst e
  refine uE_k fun e => ?_; subst e
  refine uDe_k fun e => ?_; subst e
  exact .inr ⟨a1, a2, a3, rfl, rfl, rfl, rfl⟩

theorem rl82_2_1 (vs : List (PV sig)) (m : Mem sig) (ds : List (FuncId × List (PV sig))) (nt : Nat) : (∀ (C : Tab) (ρ : Type) (K : Ex sig → St sig → Option ρ), Rl82_2_1 C ρ vs m ds nt K = none) ∨ ∃ (a1 : List Sm) (a2 : Int) (a3 : Int) (a4 : Int), vs = [.d (.sl Key.sm a1), .fn (.func 88) [] [.ptr 0 0], .d (.int .i64 a2), .d (.int .i64 a3)] ∧ m = [some [.ptr 1 0], some [.d (.int .i64 a4)]] ∧ ds = [] ∧ nt = 19 := by
  unfold Rl82_2_1
  refine uN_k fun e => ?_; subst e
  refine uC_k fun x0 x1 e => ?_; subst e
  refine uS_k fun a1 e => ?_; subst e
  refine uC_k fun x2 x3 e => ?_; subst e
  refine uFn_k fun x4 x5 e => ?_; subst e
  refine u0_k fun e => ?_; subst e
  refine uC_k fun x6 x7 e => ?_; subst e
  refine uP_k fun e => ?_; subst e
  refine u0_k fun e => ?_; subst e
  refine uC_k fun x8 x9 e => ?_; subst e
  refine uI_k fun a2 e => ?_; subst e
  refine uC_k fun x10 x11 e => ?_; subst e
  refine uI_k fun a3 e => ?_; subst e
  refine u0_k fun e => ?_; subst e
  refine uM_k fun x13 x12 e => ?_; subst e
  refine uC_k fun x14 x15 e => ?_; subst e
  refine uP_k fun e => ?_; subst e
  refine u0_k fun e => ?_; subst e
  refine uM_k fun x17 x16 e => ?_; subst e
  refine uC_k fun x18 x19 e => ?_; subst e
  refine uI_k fun a4 e => ?_; subst e
  refine u0_k fun e => ?_; subst e
  refine uE_k fun e => ?_; subst e
  refine uDe_k fun e => ?_; subst e
  exact .inr ⟨a1, a2, a3, a4, rfl, rfl, rfl, rfl⟩

theorem rl83_2_0 (vs : List (PV sig)) (m : Mem sig) (ds : List (FuncId × List (PV sig))) (nt : Nat) : (∀ (C : Tab) (ρ : Type) (K : Ex sig → St sig → Option ρ), Rl83_2_0 C ρ vs m ds nt K = none) ∨ ∃ (a1 : List Int) (a2 : Int) (a3 : Int), vs = [.d (.sl Key.int a1), .fn (.func 69) [] [], .d (.int .i64 a2), .d (.int .i64 a3)] ∧ m = [] ∧ ds = [] ∧ nt = 19 := by
  unfold Rl83_2_0
  refine uN_k fun e => ?_; subst e
  refine uC_k fun x0 x1 e => ?_; subst e
  refine uS_k fun a1 e => ?_; subst e
  refine uC_k fun x2 x3 e => ?_; subst e
  refine uFn_k fun x4 x5 e => ?_; subst e
  refine u0_k fun e => ?_; subst e
  refine u0_k fun e => ?_; subst e
  refine uC_k fun x6 x7 e => ?_; subst e
  refine uI_k fun a2 e => ?_; subst e
  refine uC_k fun x8 x9 e => ?_; subst e
  refine uI_k fun a3 e => ?_; subst e
  refine u0_k fun e => ?_; subst e
  refine uE_k fun e => ?_; subst e
  refine uDe_k fun e => ?_; subst e
  exact .inr ⟨a1, a2, a3, rfl, rfl, rfl, rfl⟩

theorem rl84_3_0 (vs : List (PV sig)) (m : Mem sig) (ds : List (FuncId × List (PV sig))) (nt : Nat) : (∀ (C : Tab) (ρ : Type) (K : Ex sig → St sig → Option ρ), Rl84_3_0 C ρ vs m ds nt K = none) ∨ ∃ (a1 : Int) (a2 : List Tm) (a3 : Int) (a4 : Int) (a5 : Int) (a6 : Bool) (a7 : Int) (a8 : Bool) (a9 : Tm), vs = [.d (.int .i64 a1), .fn (.func 85) [] [.ptr 0 0, .ptr 1 0, .ptr 2 0, .ptr 3 0], .ptr 4 0, .d (.sl Key.tm a2), .d (.int .i64 a3), .d (.int .i64 a4)] ∧ m = [some [.d (.int .i64 a5)], some [.d (.bool a6)], some [.d (.int .i64 a7)], some [.d (.bool a8)], some [.d (.int .i64 a9.op), .d (.int .i64 a9.head), .d (.int .i64 a9.n), .d (.sl Key.tm a9.args)]] ∧ ds = [] ∧ nt = 29 := by
  unfold Rl84_3_0
  refine uN_k fun e => ?_; subst e
  refine uC_k fun x0 x1 e => ?_; subst e
  refine uI_k fun a1 e => ?_; subst e
  refine uC_k fun x2 x3 e => ?_; subst e
  refine uFn_k fun x4 x5 e => ?_; subst e
  refine u0_k fun e => ?_; subst e
  refine uC_k fun x6 x7 e => ?_; subst e
  refine uP_k fun e => ?_; subst e
  refine uC_k fun x8 x9 e => ?_; subst e
  refine uP_k fun e => ?_; subst e
  refine uC_k fun x10 x11 e => ?_; subst e
  refine uP_k fun e => ?_; subst e
  refine uC_k fun x12 x13 e => ?_; subst e
  refine uP_k fun e => ?_; subst e
  refine u0_k fun e => ?_; subst e
  refine uC_k fun x14 x15 e => ?_; subst e
  refine uP_k fun e => ?_; subst e
  refine uC_k fun x16 x17 e => ?_; subst e
  refine uS_k fun a2 e => ?_; subst e
  refine uC_k fun x18 x19 e => ?_; subst e
  refine uI_k fun a3 e => ?_; subst e
  refine uC_k fun x20 x21 e => ?_; subst e
  refine uI_k fun a4 e => ?_; subst e
  refine u0_k fun e => ?_; subst e
  refine uM_k fun x23 x22 e => ?_; subst e
  refine uC_k fun x24 x25 e => ?_; subst e
  refine uI_k fun a5 e => ?_; subst e
  refine u0_k fun e => ?_; subst e
  refine uM_k fun x27 x26 e => ?_; subst e
  refine uC_k fun x28 x29 e => ?_; subst e
  refine uB_k fun a6 e => ?_; subst e
  refine u0_k fun e => ?_; subst e
  refine uM_k fun x31 x30 e => ?_; subst e
  refine uC_k fun x32 x33 e => ?_; subst e
  refine uI_k fun a7 e => ?_; subst e
  refine u0_k fun e => ?_; subst e
  refine uM_k fun x35 x34 e => ?_; subst e
  refine uC_k fun x36 x37 e => ?_; subst e
  refine uB_k fun a8 e => ?_; subst e
  refine u0_k fun e => ?_; subst e
  refine uM_k fun x39 x38 e => ?_; subst e
  refine uTmL_k fun a9 e => ?_; subst e
  refine uE_k fun e => ?_; subst e
  refine uDe_k fun e => ?_; subst e
  exact .inr ⟨a1, a2, a3, a4, a5, a6, a7, a8, a9, rfl, rfl, rfl, rfl⟩

theorem rl87_2_0 (vs : List (PV sig)) (m : Mem sig) (ds : List (FuncId × List (PV sig))) (nt : Nat) : (∀ (C : Tab) (ρ : Type) (K : Ex sig → St sig → Option ρ), Rl87_2_0 C ρ vs m ds nt K = none) ∨ ∃ (a1 : List Tm) (a2 : Tm) (a3 : Tm), vs = [.ptr 0 0, .ptr 1 0, .own Key.tm a1] ∧ m = [some [.d (.int .i64 a2.op), .d (.int .i64 a2.head), .d (.int .i64 a2.n), .d (.sl Key.tm a2.args)], some [.d (.int .i64 a3.op), .d (.int .i64 a3.head), .d (.int .i64 a3.n), .full Key.tm a3.args]] ∧ ds = [] ∧ nt = 21 := by
  unfold Rl87_2_0
  refine uN_k fun e => ?_; subst e
  refine uC_k fun x0 x1 e => ?_; subst e
  refine uP_k fun e => ?_; subst e
  refine uC_k fun x2 x3 e => ?_; subst e
  refine uP_k fun e => ?_; subst e
  refine uC_k fun x4 x5 e => ?_; subst e
  refine uS_k fun a1 e => ?_; subst e
  refine u0_k fun e => ?_; subst e
  refine uM_k fun x7 x6 e => ?_; subst e
  refine uTmL_k fun a2 e => ?_; subst e
  refine uM_k fun x9 x8 e => ?_; subst e
  refine uTmL_k fun a3 e => ?_; subst e
  refine uE_k fun e => ?_; subst e
  refine uDe_k fun e => ?_; subst e
  exact .inr ⟨a1, a2, a3, rfl, rfl, rfl, rfl⟩

end Go.Proofs.Ytcgbfghdcjmaeaa.Ev
