/- This file proves when the tables of typed functions answer; without any condition. -/
import Derived.Test.YtanfoijdfcnpoaaDoorG1
set_option linter.unusedVariables false
set_option linter.unusedSimpArgs false
namespace Go.Proofs.YtanfoijdfcnpoaaDoor.Ev

theorem rc3_0 (args : List (PV sig)) (m : Mem sig) : (∀ (C : Tab) (ρ : Type) (K : Res sig × Mem sig → Option ρ), Rc3_0 C ρ args m K = none) ∨ ∃ (a1 : Rw), args = [.agg [.d (.int .i64 a1.op), .d (.str a1.name), .d (.sl Key.raw a1.args)]] ∧ m = [] := by
  unfold Rc3_0
  refine uC_k fun x0 x1 e => ?_; subst e
  refine uRw_k fun a1 e => ?_; subst e
  refine u0_k fun e => ?_; subst e
  refine uE_k fun e => ?_; subst e
  exact .inr ⟨a1, rfl, rfl⟩

theorem rc4_0 (args : List (PV sig)) (m : Mem sig) : (∀ (C : Tab) (ρ : Type) (K : Res sig × Mem sig → Option ρ), Rc4_0 C ρ args m K = none) ∨ ∃ (a1 : Rw) (a2 : Rw), args = [.agg [.d (.int .i64 a1.op), .d (.str a1.name), .d (.sl Key.raw a1.args)], .agg [.d (.int .i64 a2.op), .d (.str a2.name), .d (.sl Key.raw a2.args)]] ∧ m = [] := by
  unfold Rc4_0
  refine uC_k fun x0 x1 e => ?_; subst e
  refine uRw_k fun a1 e => ?_; subst e
  refine uC_k fun x2 x3 e => ?_; subst e
  refine uRw_k fun a2 e => ?_; subst e
  refine u0_k fun e => ?_; subst e
  refine uE_k fun e => ?_; subst e
  exact .inr ⟨a1, a2, rfl, rfl⟩

theorem rc5_0 (args : List (PV sig)) (m : Mem sig) : (∀ (C : Tab) (ρ : Type) (K : Res sig × Mem sig → Option ρ), Rc5_0 C ρ args m K = none) ∨ ∃ (a1 : Rw) (a2 : Rw) (a3 : Rw), args = [.agg [.d (.int .i64 a1.op), .d (.str a1.name), .d (.sl Key.raw a1.args)], .agg [.d (.int .i64 a2.op), .d (.str a2.name), .d (.sl Key.raw a2.args)], .agg [.d (.int .i64 a3.op), .d (.str a3.name), .d (.sl Key.raw a3.args)]] ∧ m = [] := by
  unfold Rc5_0
  refine uC_k fun x0 x1 e => ?_; subst e
  refine uRw_k fun a1 e => ?_; subst e
  refine uC_k fun x2 x3 e => ?_; subst e
  refine uRw_k fun a2 e => ?_; subst e
  refine uC_k fun x4 x5 e => ?_; subst e
  refine uRw_k fun a3 e => ?_; subst e
  refine u0_k fun e => ?_; subst e
  refine uE_k fun e => ?_; subst e
  exact .inr ⟨a1, a2, a3, rfl, rfl⟩

theorem rc6_0 (args : List (PV sig)) (m : Mem sig) : (∀ (C : Tab) (ρ : Type) (K : Res sig × Mem sig → Option ρ), Rc6_0 C ρ args m K = none) ∨ ∃ (a1 : Rw), args = [.agg [.d (.int .i64 a1.op), .d (.str a1.name), .d (.sl Key.raw a1.args)]] ∧ m = [] := by
  unfold Rc6_0
  refine uC_k fun x0 x1 e => ?_; subst e
  refine uRw_k fun a1 e => ?_; subst e
  refine u0_k fun e => ?_; subst e
  refine uE_k fun e => ?_; subst e
  exact .inr ⟨a1, rfl, rfl⟩

theorem rc9_0 (args : List (PV sig)) (m : Mem sig) : (∀ (C : Tab) (ρ : Type) (K : Res sig × Mem sig → Option ρ), Rc9_0 C ρ args m K = none) ∨ ∃ (a1 : Rw), args = [.agg [.d (.int .i64 a1.op), .d (.str a1.name), .d (.sl Key.raw a1.args)]] ∧ m = [] := by
  unfold Rc9_0
  refine uC_k fun x0 x1 e => ?_; subst e
  refine uRw_k fun a1 e => ?_; subst e
  refine u0_k fun e => ?_; subst e
  refine uE_k fun e => ?_; subst e
  exact .inr ⟨a1, rfl, rfl⟩

theorem rc10_0 (args : List (PV sig)) (m : Mem sig) : (∀ (C : Tab) (ρ : Type) (K : Res sig × Mem sig → Option ρ), Rc10_0 C ρ args m K = none) ∨ ∃ (a1 : Rw), args = [.agg [.d (.int .i64 a1.op), .d (.str a1.name), .d (.sl Key.raw a1.args)]] ∧ m = [] := by
  unfold Rc10_0
  refine uC_k fun x0 x1 e => ?_; subst e
  refine uRw_k fun a1 e => ?_; subst e
  refine u0_k fun e => ?_; subst e
  refine uE_k fun e => ?_; subst e
  exact .inr ⟨a1, rfl, rfl⟩

theorem rc11_0 (args : List (PV sig)) (m : Mem sig) : (∀ (C : Tab) (ρ : Type) (K : Res sig × Mem sig → Option ρ), Rc11_0 C ρ args m K = none) ∨ ∃ (a1 : Rw), args = [.agg [.d (.int .i64 a1.op), .d (.str a1.name), .d (.sl Key.raw a1.args)]] ∧ m = [] := by
  unfold Rc11_0
  refine uC_k fun x0 x1 e => ?_; subst e
  refine uRw_k fun a1 e => ?_; subst e
  refine u0_k fun e => ?_; subst e
  refine uE_k fun e => ?_; subst e
  exact .inr ⟨a1, rfl, rfl⟩

theorem rc12_0 (args : List (PV sig)) (m : Mem sig) : (∀ (C : Tab) (ρ : Type) (K : Res sig × Mem sig → Option ρ), Rc12_0 C ρ args m K = none) ∨ args = [] ∧ m = [] := by
  unfold Rc12_0
  refine u0_k fun e => ?_; subst e
  refine uE_k fun e => ?_; subst e
  exact .inr ⟨rfl, rfl⟩

theorem rc13_0 (args : List (PV sig)) (m : Mem sig) : (∀ (C : Tab) (ρ : Type) (K : Res sig × Mem sig → Option ρ), Rc13_0 C ρ args m K = none) ∨ ∃ (a1 : Rw), args = [.agg [.d (.int .i64 a1.op), .d (.str a1.name), .d (.sl Key.raw a1.args)]] ∧ m = [] := by
  unfold Rc13_0
  refine uC_k fun x0 x1 e => ?_; subst e
  refine uRw_k fun a1 e => ?_; subst e
  refine u0_k fun e => ?_; subst e
  refine uE_k fun e => ?_; subst e
  exact .inr ⟨a1, rfl, rfl⟩

theorem rc14_0 (args : List (PV sig)) (m : Mem sig) : (∀ (C : Tab) (ρ : Type) (K : Res sig × Mem sig → Option ρ), Rc14_0 C ρ args m K = none) ∨ ∃ (a1 : ByteArray), args = [.d (.str a1)] ∧ m = [] := by
  unfold Rc14_0
  refine uC_k fun x0 x1 e => ?_; subst e
  refine uStr_k fun a1 e => ?_; subst e
  refine u0_k fun e => ?_; subst e
  refine uE_k fun e => ?_; subst e
  exact .inr ⟨a1, rfl, rfl⟩

theorem rc15_0 (args : List (PV sig)) (m : Mem sig) : (∀ (C : Tab) (ρ : Type) (K : Res sig × Mem sig → Option ρ), Rc15_0 C ρ args m K = none) ∨ ∃ (a1 : Rw) (a2 : Rw), args = [.agg [.d (.int .i64 a1.op), .d (.str a1.name), .d (.sl Key.raw a1.args)], .agg [.d (.int .i64 a2.op), .d (.str a2.name), .d (.sl Key.raw a2.args)]] ∧ m = [] := by
  unfold Rc15_0
  refine uC_k fun x0 x1 e => ?_; subst e
  refine uRw_k fun a1 e => ?_; subst e
  refine uC_k fun x2 x3 e => ?_; subst e
  refine uRw_k fun a2 e => ?_; subst e
  refine u0_k fun e => ?_; subst e
  refine uE_k fun e => ?_; subst e
  exact .inr ⟨a1, a2, rfl, rfl⟩

theorem rc16_0 (args : List (PV sig)) (m : Mem sig) : (∀ (C : Tab) (ρ : Type) (K : Res sig × Mem sig → Option ρ), Rc16_0 C ρ args m K = none) ∨ ∃ (a1 : Rw) (a2 : Rw), args = [.agg [.d (.int .i64 a1.op), .d (.str a1.name), .d (.sl Key.raw a1.args)], .agg [.d (.int .i64 a2.op), .d (.str a2.name), .d (.sl Key.raw a2.args)]] ∧ m = [] := by
  unfold Rc16_0
  refine uC_k fun x0 x1 e => ?_; subst e
  refine uRw_k fun a1 e => ?_; subst e
  refine uC_k fun x2 x3 e => ?_; subst e
  refine uRw_k fun a2 e => ?_; subst e
  refine u0_k fun e => ?_; subst e
  refine uE_k fun e => ?_; subst e
  exact .inr ⟨a1, a2, rfl, rfl⟩

theorem rc17_0 (args : List (PV sig)) (m : Mem sig) : (∀ (C : Tab) (ρ : Type) (K : Res sig × Mem sig → Option ρ), Rc17_0 C ρ args m K = none) ∨ ∃ (a1 : Rw), args = [.agg [.d (.int .i64 a1.op), .d (.str a1.name), .d (.sl Key.raw a1.args)]] ∧ m = [] := by
  unfold Rc17_0
  refine uC_k fun x0 x1 e => ?_; subst e
  refine uRw_k fun a1 e => ?_; subst e
  refine u0_k fun e => ?_; subst e
  refine uE_k fun e => ?_; subst e
  exact .inr ⟨a1, rfl, rfl⟩

theorem rc18_0 (args : List (PV sig)) (m : Mem sig) : (∀ (C : Tab) (ρ : Type) (K : Res sig × Mem sig → Option ρ), Rc18_0 C ρ args m K = none) ∨ ∃ (a1 : List ByteArray) (a2 : List ByteArray), args = [.d (.sl Key.str a1), .d (.sl Key.str a2)] ∧ m = [] := by
  unfold Rc18_0
  refine uC_k fun x0 x1 e => ?_; subst e
  refine uS_k fun a1 e => ?_; subst e
  refine uC_k fun x2 x3 e => ?_; subst e
  refine uS_k fun a2 e => ?_; subst e
  refine u0_k fun e => ?_; subst e
  refine uE_k fun e => ?_; subst e
  exact .inr ⟨a1, a2, rfl, rfl⟩

theorem rc19_0 (args : List (PV sig)) (m : Mem sig) : (∀ (C : Tab) (ρ : Type) (K : Res sig × Mem sig → Option ρ), Rc19_0 C ρ args m K = none) ∨ ∃ (a1 : Rw), args = [.agg [.d (.int .i64 a1.op), .d (.str a1.name), .d (.sl Key.raw a1.args)]] ∧ m = [] := by
  unfold Rc19_0
  refine uC_k fun x0 x1 e => ?_; subst e
  refine uRw_k fun a1 e => ?_; subst e
  refine u0_k fun e => ?_; subst e
  refine uE_k fun e => ?_; subst e
  exact .inr ⟨a1, rfl, rfl⟩

theorem rc22_0 (args : List (PV sig)) (m : Mem sig) : (∀ (C : Tab) (ρ : Type) (K : Res sig × Mem sig → Option ρ), Rc22_0 C ρ args m K = none) ∨ ∃ (a1 : Rw) (a2 : Int) (a3 : Int), args = [.agg [.d (.int .i64 a1.op), .d (.str a1.name), .d (.sl Key.raw a1.args)], .d (.int .i64 a2), .ptr 0 0] ∧ m = [some [.d (.int .i64 a3)]] := by
  unfold Rc22_0
  refine uC_k fun x0 x1 e => ?_; subst e
  refine uRw_k fun a1 e => ?_; subst e
  refine uC_k fun x2 x3 e => ?_; subst e
  refine uI_k fun a2 e => ?_; subst e
  refine uC_k fun x4 x5 e => ?_; subst e
  refine uP_k fun e => ?_; subst e
  refine u0_k fun e => ?_; subst e
  refine uM_k fun x7 x6 e => ?_; subst e
  refine uC_k fun x8 x9 e => ?_; subst e
  refine uI_k fun a3 e => ?_; subst e
  refine u0_k fun e => ?_; subst e
  refine uE_k fun e => ?_; subst e
  exact .inr ⟨a1, a2, a3, rfl, rfl⟩

theorem rc23_0 (args : List (PV sig)) (m : Mem sig) : (∀ (C : Tab) (ρ : Type) (K : Res sig × Mem sig → Option ρ), Rc23_0 C ρ args m K = none) ∨ ∃ (a1 : Rw) (a2 : List Int), args = [.agg [.d (.int .i64 a1.op), .d (.str a1.name), .d (.sl Key.raw a1.args)], .d (.sl Key.int a2)] ∧ m = [] := by
  unfold Rc23_0
  refine uC_k fun x0 x1 e => ?_; subst e
  refine uRw_k fun a1 e => ?_; subst e
  refine uC_k fun x2 x3 e => ?_; subst e
  refine uS_k fun a2 e => ?_; subst e
  refine u0_k fun e => ?_; subst e
  refine uE_k fun e => ?_; subst e
  exact .inr ⟨a1, a2, rfl, rfl⟩

theorem rc24_0 (args : List (PV sig)) (m : Mem sig) : (∀ (C : Tab) (ρ : Type) (K : Res sig × Mem sig → Option ρ), Rc24_0 C ρ args m K = none) ∨ ∃ (a1 : Rw) (a2 : Int), args = [.agg [.d (.int .i64 a1.op), .d (.str a1.name), .d (.sl Key.raw a1.args)], .d (.int .i64 a2)] ∧ m = [] := by
  unfold Rc24_0
  refine uC_k fun x0 x1 e => ?_; subst e
  refine uRw_k fun a1 e => ?_; subst e
  refine uC_k fun x2 x3 e => ?_; subst e
  refine uI_k fun a2 e => ?_; subst e
  refine u0_k fun e => ?_; subst e
  refine uE_k fun e => ?_; subst e
  exact .inr ⟨a1, a2, rfl, rfl⟩

theorem rc25_0 (args : List (PV sig)) (m : Mem sig) : (∀ (C : Tab) (ρ : Type) (K : Res sig × Mem sig → Option ρ), Rc25_0 C ρ args m K = none) ∨ ∃ (a1 : Rw) (a2 : Int), args = [.agg [.d (.int .i64 a1.op), .d (.str a1.name), .d (.sl Key.raw a1.args)], .d (.int .i64 a2)] ∧ m = [] := by
  unfold Rc25_0
  refine uC_k fun x0 x1 e => ?_; subst e
  refine uRw_k fun a1 e => ?_; subst e
  refine uC_k fun x2 x3 e => ?_; subst e
  refine uI_k fun a2 e => ?_; subst e
  refine u0_k fun e => ?_; subst e
  refine uE_k fun e => ?_; subst e
  exact .inr ⟨a1, a2, rfl, rfl⟩

theorem rc26_0 (args : List (PV sig)) (m : Mem sig) : (∀ (C : Tab) (ρ : Type) (K : Res sig × Mem sig → Option ρ), Rc26_0 C ρ args m K = none) ∨ ∃ (a1 : ByteArray) (a2 : Bool), args = [.d (.str a1), .d (.bool a2)] ∧ m = [] := by
  unfold Rc26_0
  refine uC_k fun x0 x1 e => ?_; subst e
  refine uStr_k fun a1 e => ?_; subst e
  refine uC_k fun x2 x3 e => ?_; subst e
  refine uB_k fun a2 e => ?_; subst e
  refine u0_k fun e => ?_; subst e
  refine uE_k fun e => ?_; subst e
  exact .inr ⟨a1, a2, rfl, rfl⟩

theorem rc27_0 (args : List (PV sig)) (m : Mem sig) : (∀ (C : Tab) (ρ : Type) (K : Res sig × Mem sig → Option ρ), Rc27_0 C ρ args m K = none) ∨ ∃ (a1 : Rw), args = [.agg [.d (.int .i64 a1.op), .d (.str a1.name), .d (.sl Key.raw a1.args)]] ∧ m = [] := by
  unfold Rc27_0
  refine uC_k fun x0 x1 e => ?_; subst e
  refine uRw_k fun a1 e => ?_; subst e
  refine u0_k fun e => ?_; subst e
  refine uE_k fun e => ?_; subst e
  exact .inr ⟨a1, rfl, rfl⟩

theorem rc28_0 (args : List (PV sig)) (m : Mem sig) : (∀ (C : Tab) (ρ : Type) (K : Res sig × Mem sig → Option ρ), Rc28_0 C ρ args m K = none) ∨ ∃ (a1 : ByteArray), args = [.d (.str a1)] ∧ m = [] := by
  unfold Rc28_0
  refine uC_k fun x0 x1 e => ?_; subst e
  refine uStr_k fun a1 e => ?_; subst e
  refine u0_k fun e => ?_; subst e
  refine uE_k fun e => ?_; subst e
  exact .inr ⟨a1, rfl, rfl⟩

theorem rc30_0 (args : List (PV sig)) (m : Mem sig) : (∀ (C : Tab) (ρ : Type) (K : Res sig × Mem sig → Option ρ), Rc30_0 C ρ args m K = none) ∨ ∃ (a1 : List Tok) (a2 : Int), args = [.ptr 0 0] ∧ m = [some [.d (.sl Key.tok a1), .d (.int .i64 a2)]] := by
  unfold Rc30_0
  refine uC_k fun x0 x1 e => ?_; subst e
  refine uP_k fun e => ?_; subst e
  refine u0_k fun e => ?_; subst e
  refine uM_k fun x3 x2 e => ?_; subst e
  refine uC_k fun x4 x5 e => ?_; subst e
  refine uS_k fun a1 e => ?_; subst e
  refine uC_k fun x6 x7 e => ?_; subst e
  refine uI_k fun a2 e => ?_; subst e
  refine u0_k fun e => ?_; subst e
  refine uE_k fun e => ?_; subst e
  exact .inr ⟨a1, a2, rfl, rfl⟩

theorem rc31_0 (args : List (PV sig)) (m : Mem sig) : (∀ (C : Tab) (ρ : Type) (K : Res sig × Mem sig → Option ρ), Rc31_0 C ρ args m K = none) ∨ ∃ (a1 : List Tok) (a2 : Int), args = [.ptr 0 0] ∧ m = [some [.d (.sl Key.tok a1), .d (.int .i64 a2)]] := by
  unfold Rc31_0
  refine uC_k fun x0 x1 e => ?_; subst e
  refine uP_k fun e => ?_; subst e
  refine u0_k fun e => ?_; subst e
  refine uM_k fun x3 x2 e => ?_; subst e
  refine uC_k fun x4 x5 e => ?_; subst e
  refine uS_k fun a1 e => ?_; subst e
  refine uC_k fun x6 x7 e => ?_; subst e
  refine uI_k fun a2 e => ?_; subst e
  refine u0_k fun e => ?_; subst e
  refine uE_k fun e => ?_; subst e
  exact .inr ⟨a1, a2, rfl, rfl⟩

theorem rc32_0 (args : List (PV sig)) (m : Mem sig) : (∀ (C : Tab) (ρ : Type) (K : Res sig × Mem sig → Option ρ), Rc32_0 C ρ args m K = none) ∨ ∃ (a1 : List Tok) (a2 : Int), args = [.ptr 0 0] ∧ m = [some [.d (.sl Key.tok a1), .d (.int .i64 a2)]] := by
  unfold Rc32_0
  refine uC_k fun x0 x1 e => ?_; subst e
  refine uP_k fun e => ?_; subst e
  refine u0_k fun e => ?_; subst e
  refine uM_k fun x3 x2 e => ?_; subst e
  refine uC_k fun x4 x5 e => ?_; subst e
  refine uS_k fun a1 e => ?_; subst e
  refine uC_k fun x6 x7 e => ?_; subst e
  refine uI_k fun a2 e => ?_; subst e
  refine u0_k fun e => ?_; subst e
  refine uE_k fun e => ?_; subst e
  exact .inr ⟨a1, a2, rfl, rfl⟩

theorem rc33_0 (args : List (PV sig)) (m : Mem sig) : (∀ (C : Tab) (ρ : Type) (K : Res sig × Mem sig → Option ρ), Rc33_0 C ρ args m K = none) ∨ ∃ (a1 : List Rw) (a2 : List Rw), args = [.d (.sl Key.raw a1), .d (.sl Key.raw a2), .fn (.func 16) [] []] ∧ m = [] := by
  unfold Rc33_0
  refine uC_k fun x0 x1 e => ?_; subst e
  refine uS_k fun a1 e => ?_; subst e
  refine uC_k fun x2 x3 e => ?_; subst e
  refine uS_k fun a2 e => ?_; subst e
  refine uC_k fun x4 x5 e => ?_; subst e
  refine uFn_k fun x6 x7 e => ?_; subst e
  refine u0_k fun e => ?_; subst e
  refine u0_k fun e => ?_; subst e
  refine u0_k fun e => ?_; subst e
  refine uE_k fun e => ?_; subst e
  exact .inr ⟨a1, a2, rfl, rfl⟩

theorem rc34_0 (args : List (PV sig)) (m : Mem sig) : (∀ (C : Tab) (ρ : Type) (K : Res sig × Mem sig → Option ρ), Rc34_0 C ρ args m K = none) ∨ ∃ (a1 : Rw) (a2 : List ByteArray) (a3 : List ByteArray), args = [.agg [.d (.int .i64 a1.op), .d (.str a1.name), .d (.sl Key.raw a1.args)], .full Key.str a2, .full Key.str a3] ∧ m = [] := by
  unfold Rc34_0
  refine uC_k fun x0 x1 e => ?_; subst e
  refine uRw_k fun a1 e => ?_; subst e
  refine uC_k fun x2 x3 e => ?_; subst e
  refine uS_k fun a2 e => ?_; subst e
  refine uC_k fun x4 x5 e => ?_; subst e
  refine uS_k fun a3 e => ?_; subst e
  refine u0_k fun e => ?_; subst e
  refine uE_k fun e => ?_; subst e
  exact .inr ⟨a1, a2, a3, rfl, rfl⟩

theorem rc34_1 (args : List (PV sig)) (m : Mem sig) : (∀ (C : Tab) (ρ : Type) (K : Res sig × Mem sig → Option ρ), Rc34_1 C ρ args m K = none) ∨ ∃ (a1 : Rw) (a2 : List ByteArray) (a3 : List ByteArray), args = [.agg [.d (.int .i64 a1.op), .d (.str a1.name), .d (.sl Key.raw a1.args)], .d (.sl Key.str a2), .own Key.str a3] ∧ m = [] := by
  unfold Rc34_1
  refine uC_k fun x0 x1 e => ?_; subst e
  refine uRw_k fun a1 e => ?_; subst e
  refine uC_k fun x2 x3 e => ?_; subst e
  refine uS_k fun a2 e => ?_; subst e
  refine uC_k fun x4 x5 e => ?_; subst e
  refine uS_k fun a3 e => ?_; subst e
  refine u0_k fun e => ?_; subst e
  refine uE_k fun e => ?_; subst e
  exact .inr ⟨a1, a2, a3, rfl, rfl⟩

theorem rc34_2 (args : List (PV sig)) (m : Mem sig) : (∀ (C : Tab) (ρ : Type) (K : Res sig × Mem sig → Option ρ), Rc34_2 C ρ args m K = none) ∨ ∃ (a1 : Rw) (a2 : List ByteArray) (a3 : List ByteArray), args = [.agg [.d (.int .i64 a1.op), .d (.str a1.name), .d (.sl Key.raw a1.args)], .own Key.str a2, .own Key.str a3] ∧ m = [] := by
  unfold Rc34_2
  refine uC_k fun x0 x1 e => ?_; subst e
  refine uRw_k fun a1 e => ?_; subst e
  refine uC_k fun x2 x3 e => ?_; subst e
  refine uS_k fun a2 e => ?_; subst e
  refine uC_k fun x4 x5 e => ?_; subst e
  refine uS_k fun a3 e => ?_; subst e
  refine u0_k fun e => ?_; subst e
  refine uE_k fun e => ?_; subst e
  exact .inr ⟨a1, a2, a3, rfl, rfl⟩

theorem rc35_0 (args : List (PV sig)) (m : Mem sig) : (∀ (C : Tab) (ρ : Type) (K : Res sig × Mem sig → Option ρ), Rc35_0 C ρ args m K = none) ∨ ∃ (a1 : Rw) (a2 : List ByteArray) (a3 : List ByteArray), args = [.agg [.d (.int .i64 a1.op), .d (.str a1.name), .d (.sl Key.raw a1.args)], .full Key.str a2, .full Key.str a3] ∧ m = [] := by
  unfold Rc35_0
  refine uC_k fun x0 x1 e => ?_; subst e
  refine uRw_k fun a1 e => ?_; subst e
  refine uC_k fun x2 x3 e => ?_; subst e
  refine uS_k fun a2 e => ?_; subst e
  refine uC_k fun x4 x5 e => ?_; subst e
  refine uS_k fun a3 e => ?_; subst e
  refine u0_k fun e => ?_; subst e
  refine uE_k fun e => ?_; subst e
  exact .inr ⟨a1, a2, a3, rfl, rfl⟩

theorem rc35_1 (args : List (PV sig)) (m : Mem sig) : (∀ (C : Tab) (ρ : Type) (K : Res sig × Mem sig → Option ρ), Rc35_1 C ρ args m K = none) ∨ ∃ (a1 : Rw) (a2 : List ByteArray) (a3 : List ByteArray), args = [.agg [.d (.int .i64 a1.op), .d (.str a1.name), .d (.sl Key.raw a1.args)], .d (.sl Key.str a2), .own Key.str a3] ∧ m = [] := by
  unfold Rc35_1
  refine uC_k fun x0 x1 e => ?_; subst e
  refine uRw_k fun a1 e => ?_; subst e
  refine uC_k fun x2 x3 e => ?_; subst e
  refine uS_k fun a2 e => ?_; subst e
  refine uC_k fun x4 x5 e => ?_; subst e
  refine uS_k fun a3 e => ?_; subst e
  refine u0_k fun e => ?_; subst e
  refine uE_k fun e => ?_; subst e
  exact .inr ⟨a1, a2, a3, rfl, rfl⟩

theorem rc35_2 (args : List (PV sig)) (m : Mem sig) : (∀ (C : Tab) (ρ : Type) (K : Res sig × Mem sig → Option ρ), Rc35_2 C ρ args m K = none) ∨ ∃ (a1 : Rw) (a2 : List ByteArray) (a3 : List ByteArray), args = [.agg [.d (.int .i64 a1.op), .d (.str a1.name), .d (.sl Key.raw a1.args)], .d (.sl Key.str a2), .full Key.str a3] ∧ m = [] := by
  unfold Rc35_2
  refine uC_k fun x0 x1 e => ?_; subst e
  refine uRw_k fun a1 e => ?_; subst e
  refine uC_k fun x2 x3 e => ?_; subst e
  refine uS_k fun a2 e => ?_; subst e
  refine uC_k fun x4 x5 e => ?_; subst e
  refine uS_k fun a3 e => ?_; subst e
  refine u0_k fun e => ?_; subst e
  refine uE_k fun e => ?_; subst e
  exact .inr ⟨a1, a2, a3, rfl, rfl⟩

theorem rc40_0 (args : List (PV sig)) (m : Mem sig) : (∀ (C : Tab) (ρ : Type) (K : Res sig × Mem sig → Option ρ), Rc40_0 C ρ args m K = none) ∨ ∃ (a1 : ByteArray), args = [.d (.str a1)] ∧ m = [] := by
  unfold Rc40_0
  refine uC_k fun x0 x1 e => ?_; subst e
  refine uStr_k fun a1 e => ?_; subst e
  refine u0_k fun e => ?_; subst e
  refine uE_k fun e => ?_; subst e
  exact .inr ⟨a1, rfl, rfl⟩

theorem rc41_0 (args : List (PV sig)) (m : Mem sig) : (∀ (C : Tab) (ρ : Type) (K : Res sig × Mem sig → Option ρ), Rc41_0 C ρ args m K = none) ∨ ∃ (a1 : List Int) (a2 : Int), args = [.d (.sl Key.int a1), .d (.int .i64 a2)] ∧ m = [] := by
  unfold Rc41_0
  refine uC_k fun x0 x1 e => ?_; subst e
  refine uS_k fun a1 e => ?_; subst e
  refine uC_k fun x2 x3 e => ?_; subst e
  refine uI_k fun a2 e => ?_; subst e
  refine u0_k fun e => ?_; subst e
  refine uE_k fun e => ?_; subst e
  exact .inr ⟨a1, a2, rfl, rfl⟩

theorem rc42_0 (args : List (PV sig)) (m : Mem sig) : (∀ (C : Tab) (ρ : Type) (K : Res sig × Mem sig → Option ρ), Rc42_0 C ρ args m K = none) ∨ ∃ (a1 : ByteArray), args = [.d (.str a1)] ∧ m = [] := by
  unfold Rc42_0
  refine uC_k fun x0 x1 e => ?_; subst e
  refine uStr_k fun a1 e => ?_; subst e
  refine u0_k fun e => ?_; subst e
  refine uE_k fun e => ?_; subst e
  exact .inr ⟨a1, rfl, rfl⟩

theorem rc43_0 (args : List (PV sig)) (m : Mem sig) : (∀ (C : Tab) (ρ : Type) (K : Res sig × Mem sig → Option ρ), Rc43_0 C ρ args m K = none) ∨ ∃ (a1 : ByteArray) (a2 : Int), args = [.ptr 0 0] ∧ m = [some [.d (.str a1), .d (.int .i64 a2)]] := by
  unfold Rc43_0
  refine uC_k fun x0 x1 e => ?_; subst e
  refine uP_k fun e => ?_; subst e
  refine u0_k fun e => ?_; subst e
  refine uM_k fun x3 x2 e => ?_; subst e
  refine uC_k fun x4 x5 e => ?_; subst e
  refine uStr_k fun a1 e => ?_; subst e
  refine uC_k fun x6 x7 e => ?_; subst e
  refine uI_k fun a2 e => ?_; subst e
  refine u0_k fun e => ?_; subst e
  refine uE_k fun e => ?_; subst e
  exact .inr ⟨a1, a2, rfl, rfl⟩

theorem rc44_0 (args : List (PV sig)) (m : Mem sig) : (∀ (C : Tab) (ρ : Type) (K : Res sig × Mem sig → Option ρ), Rc44_0 C ρ args m K = none) ∨ ∃ (a1 : Int), args = [.d (.int .u8 a1)] ∧ m = [] := by
  unfold Rc44_0
  refine uC_k fun x0 x1 e => ?_; subst e
  refine uI_k fun a1 e => ?_; subst e
  refine u0_k fun e => ?_; subst e
  refine uE_k fun e => ?_; subst e
  exact .inr ⟨a1, rfl, rfl⟩

theorem rc45_0 (args : List (PV sig)) (m : Mem sig) : (∀ (C : Tab) (ρ : Type) (K : Res sig × Mem sig → Option ρ), Rc45_0 C ρ args m K = none) ∨ ∃ (a1 : List ByteArray) (a2 : List Tok) (a3 : Int), args = [.ptr 0 0, .d (.sl Key.str a1)] ∧ m = [some [.d (.sl Key.tok a2), .d (.int .i64 a3)]] := by
  unfold Rc45_0
  refine uC_k fun x0 x1 e => ?_; subst e
  refine uP_k fun e => ?_; subst e
  refine uC_k fun x2 x3 e => ?_; subst e
  refine uS_k fun a1 e => ?_; subst e
  refine u0_k fun e => ?_; subst e
  refine uM_k fun x5 x4 e => ?_; subst e
  refine uC_k fun x6 x7 e => ?_; subst e
  refine uS_k fun a2 e => ?_; subst e
  refine uC_k fun x8 x9 e => ?_; subst e
  refine uI_k fun a3 e => ?_; subst e
  refine u0_k fun e => ?_; subst e
  refine uE_k fun e => ?_; subst e
  exact .inr ⟨a1, a2, a3, rfl, rfl⟩

theorem rc46_0 (args : List (PV sig)) (m : Mem sig) : (∀ (C : Tab) (ρ : Type) (K : Res sig × Mem sig → Option ρ), Rc46_0 C ρ args m K = none) ∨ ∃ (a1 : List Tok) (a2 : Int), args = [.ptr 0 0] ∧ m = [some [.d (.sl Key.tok a1), .d (.int .i64 a2)]] := by
  unfold Rc46_0
  refine uC_k fun x0 x1 e => ?_; subst e
  refine uP_k fun e => ?_; subst e
  refine u0_k fun e => ?_; subst e
  refine uM_k fun x3 x2 e => ?_; subst e
  refine uC_k fun x4 x5 e => ?_; subst e
  refine uS_k fun a1 e => ?_; subst e
  refine uC_k fun x6 x7 e => ?_; subst e
  refine uI_k fun a2 e => ?_; subst e
  refine u0_k fun e => ?_; subst e
  refine uE_k fun e => ?_; subst e
  exact .inr ⟨a1, a2, rfl, rfl⟩

theorem rc47_0 (args : List (PV sig)) (m : Mem sig) : (∀ (C : Tab) (ρ : Type) (K : Res sig × Mem sig → Option ρ), Rc47_0 C ρ args m K = none) ∨ ∃ (a1 : List Tok) (a2 : Int), args = [.ptr 0 0] ∧ m = [some [.d (.sl Key.tok a1), .d (.int .i64 a2)]] := by
  unfold Rc47_0
  refine uC_k fun x0 x1 e => ?_; subst e
  refine uP_k fun e => ?_; subst e
  refine u0_k fun e => ?_; subst e
  refine uM_k fun x3 x2 e => ?_; subst e
  refine uC_k fun x4 x5 e => ?_; subst e
  refine uS_k fun a1 e => ?_; subst e
  refine uC_k fun x6 x7 e => ?_; subst e
  refine uI_k fun a2 e => ?_; subst e
  refine u0_k fun e => ?_; subst e
  refine uE_k fun e => ?_; subst e
  exact .inr ⟨a1, a2, rfl, rfl⟩

theorem rc48_0 (args : List (PV sig)) (m : Mem sig) : (∀ (C : Tab) (ρ : Type) (K : Res sig × Mem sig → Option ρ), Rc48_0 C ρ args m K = none) ∨ ∃ (a1 : List ByteArray) (a2 : ByteArray), args = [.d (.sl Key.str a1), .d (.str a2)] ∧ m = [] := by
  unfold Rc48_0
  refine uC_k fun x0 x1 e => ?_; subst e
  refine uS_k fun a1 e => ?_; subst e
  refine uC_k fun x2 x3 e => ?_; subst e
  refine uStr_k fun a2 e => ?_; subst e
  refine u0_k fun e => ?_; subst e
  refine uE_k fun e => ?_; subst e
  exact .inr ⟨a1, a2, rfl, rfl⟩

theorem rc49_0 (args : List (PV sig)) (m : Mem sig) : (∀ (C : Tab) (ρ : Type) (K : Res sig × Mem sig → Option ρ), Rc49_0 C ρ args m K = none) ∨ ∃ (a1 : Rw), args = [.agg [.d (.int .i64 a1.op), .d (.str a1.name), .d (.sl Key.raw a1.args)]] ∧ m = [] := by
  unfold Rc49_0
  refine uC_k fun x0 x1 e => ?_; subst e
  refine uRw_k fun a1 e => ?_; subst e
  refine u0_k fun e => ?_; subst e
  refine uE_k fun e => ?_; subst e
  exact .inr ⟨a1, rfl, rfl⟩

theorem rc50_0 (args : List (PV sig)) (m : Mem sig) : (∀ (C : Tab) (ρ : Type) (K : Res sig × Mem sig → Option ρ), Rc50_0 C ρ args m K = none) ∨ ∃ (a1 : List ByteArray), args = [.d (.sl Key.str a1)] ∧ m = [] := by
  unfold Rc50_0
  refine uC_k fun x0 x1 e => ?_; subst e
  refine uS_k fun a1 e => ?_; subst e
  refine u0_k fun e => ?_; subst e
  refine uE_k fun e => ?_; subst e
  exact .inr ⟨a1, rfl, rfl⟩

theorem rc51_0 (args : List (PV sig)) (m : Mem sig) : (∀ (C : Tab) (ρ : Type) (K : Res sig × Mem sig → Option ρ), Rc51_0 C ρ args m K = none) ∨ ∃ (a1 : List ByteArray) (a2 : ByteArray), args = [.d (.sl Key.str a1), .d (.str a2)] ∧ m = [] := by
  unfold Rc51_0
  refine uC_k fun x0 x1 e => ?_; subst e
  refine uS_k fun a1 e => ?_; subst e
  refine uC_k fun x2 x3 e => ?_; subst e
  refine uStr_k fun a2 e => ?_; subst e
  refine u0_k fun e => ?_; subst e
  refine uE_k fun e => ?_; subst e
  exact .inr ⟨a1, a2, rfl, rfl⟩

theorem rc54_0 (args : List (PV sig)) (m : Mem sig) : (∀ (C : Tab) (ρ : Type) (K : Res sig × Mem sig → Option ρ), Rc54_0 C ρ args m K = none) ∨ ∃ (a1 : ByteArray), args = [.d (.str a1)] ∧ m = [] := by
  unfold Rc54_0
  refine uC_k fun x0 x1 e => ?_; subst e
  refine uStr_k fun a1 e => ?_; subst e
  refine u0_k fun e => ?_; subst e
  refine uE_k fun e => ?_; subst e
  exact .inr ⟨a1, rfl, rfl⟩

theorem rc57_0 (args : List (PV sig)) (m : Mem sig) : (∀ (C : Tab) (ρ : Type) (K : Res sig × Mem sig → Option ρ), Rc57_0 C ρ args m K = none) ∨ ∃ (a1 : ByteArray), args = [.d (.str a1)] ∧ m = [] := by
  unfold Rc57_0
  refine uC_k fun x0 x1 e => ?_; subst e
  refine uStr_k fun a1 e => ?_; subst e
  refine u0_k fun e => ?_; subst e
  refine uE_k fun e => ?_; subst e
  exact .inr ⟨a1, rfl, rfl⟩

theorem rc58_0 (args : List (PV sig)) (m : Mem sig) : (∀ (C : Tab) (ρ : Type) (K : Res sig × Mem sig → Option ρ), Rc58_0 C ρ args m K = none) ∨ ∃ (a1 : List Int) (a2 : Int), args = [.d (.sl Key.int a1), .d (.int .i64 a2)] ∧ m = [] := by
  unfold Rc58_0
  refine uC_k fun x0 x1 e => ?_; subst e
  refine uS_k fun a1 e => ?_; subst e
  refine uC_k fun x2 x3 e => ?_; subst e
  refine uI_k fun a2 e => ?_; subst e
  refine u0_k fun e => ?_; subst e
  refine uE_k fun e => ?_; subst e
  exact .inr ⟨a1, a2, rfl, rfl⟩

theorem rc59_0 (args : List (PV sig)) (m : Mem sig) : (∀ (C : Tab) (ρ : Type) (K : Res sig × Mem sig → Option ρ), Rc59_0 C ρ args m K = none) ∨ ∃ (a1 : ByteArray), args = [.d (.str a1)] ∧ m = [] := by
  unfold Rc59_0
  refine uC_k fun x0 x1 e => ?_; subst e
  refine uStr_k fun a1 e => ?_; subst e
  refine u0_k fun e => ?_; subst e
  refine uE_k fun e => ?_; subst e
  exact .inr ⟨a1, rfl, rfl⟩

theorem rc60_0 (args : List (PV sig)) (m : Mem sig) : (∀ (C : Tab) (ρ : Type) (K : Res sig × Mem sig → Option ρ), Rc60_0 C ρ args m K = none) ∨ ∃ (a1 : Int) (a2 : ByteArray) (a3 : Int), args = [.ptr 0 0, .d (.int .i64 a1)] ∧ m = [some [.d (.str a2), .d (.int .i64 a3)]] := by
  unfold Rc60_0
  refine uC_k fun x0 x1 e => ?_; subst e
  refine uP_k fun e => ?_; subst e
  refine uC_k fun x2 x3 e => ?_; subst e
  refine uI_k fun a1 e => ?_; subst e
  refine u0_k fun e => ?_; subst e
  refine uM_k fun x5 x4 e => ?_; subst e
  refine uC_k fun x6 x7 e => ?_; subst e
  refine uStr_k fun a2 e => ?_; subst e
  refine uC_k fun x8 x9 e => ?_; subst e
  refine uI_k fun a3 e => ?_; subst e
  refine u0_k fun e => ?_; subst e
  refine uE_k fun e => ?_; subst e
  exact .inr ⟨a1, a2, a3, rfl, rfl⟩

theorem rc61_0 (args : List (PV sig)) (m : Mem sig) : (∀ (C : Tab) (ρ : Type) (K : Res sig × Mem sig → Option ρ), Rc61_0 C ρ args m K = none) ∨ ∃ (a1 : ByteArray) (a2 : Int), args = [.d (.str a1), .d (.int .u8 a2)] ∧ m = [] := by
  unfold Rc61_0
  refine uC_k fun x0 x1 e => ?_; subst e
  refine uStr_k fun a1 e => ?_; subst e
  refine uC_k fun x2 x3 e => ?_; subst e
  refine uI_k fun a2 e => ?_; subst e
  refine u0_k fun e => ?_; subst e
  refine uE_k fun e => ?_; subst e
  exact .inr ⟨a1, a2, rfl, rfl⟩

theorem rc62_0 (args : List (PV sig)) (m : Mem sig) : (∀ (C : Tab) (ρ : Type) (K : Res sig × Mem sig → Option ρ), Rc62_0 C ρ args m K = none) ∨ ∃ (a1 : Int) (a2 : ByteArray) (a3 : Bool), args = [.d (.int .i64 a1), .d (.str a2), .d (.bool a3)] ∧ m = [] := by
  unfold Rc62_0
  refine uC_k fun x0 x1 e => ?_; subst e
  refine uI_k fun a1 e => ?_; subst e
  refine uC_k fun x2 x3 e => ?_; subst e
  refine uStr_k fun a2 e => ?_; subst e
  refine uC_k fun x4 x5 e => ?_; subst e
  refine uB_k fun a3 e => ?_; subst e
  refine u0_k fun e => ?_; subst e
  refine uE_k fun e => ?_; subst e
  exact .inr ⟨a1, a2, a3, rfl, rfl⟩

theorem rc63_0 (args : List (PV sig)) (m : Mem sig) : (∀ (C : Tab) (ρ : Type) (K : Res sig × Mem sig → Option ρ), Rc63_0 C ρ args m K = none) ∨ ∃ (a1 : Int), args = [.d (.int .u8 a1)] ∧ m = [] := by
  unfold Rc63_0
  refine uC_k fun x0 x1 e => ?_; subst e
  refine uI_k fun a1 e => ?_; subst e
  refine u0_k fun e => ?_; subst e
  refine uE_k fun e => ?_; subst e
  exact .inr ⟨a1, rfl, rfl⟩

theorem rc64_0 (args : List (PV sig)) (m : Mem sig) : (∀ (C : Tab) (ρ : Type) (K : Res sig × Mem sig → Option ρ), Rc64_0 C ρ args m K = none) ∨ ∃ (a1 : ByteArray) (a2 : Int), args = [.ptr 0 0, .ptr 1 0] ∧ m = [some [.d (.str a1), .d (.int .i64 a2)], some [.fn (.func 62) [] []]] := by
  unfold Rc64_0
  refine uC_k fun x0 x1 e => ?_; subst e
  refine uP_k fun e => ?_; subst e
  refine uC_k fun x2 x3 e => ?_; subst e
  refine uP_k fun e => ?_; subst e
  refine u0_k fun e => ?_; subst e
  refine uM_k fun x5 x4 e => ?_; subst e
  refine uC_k fun x6 x7 e => ?_; subst e
  refine uStr_k fun a1 e => ?_; subst e
  refine uC_k fun x8 x9 e => ?_; subst e
  refine uI_k fun a2 e => ?_; subst e
  refine u0_k fun e => ?_; subst e
  refine uM_k fun x11 x10 e => ?_; subst e
  refine uC_k fun x12 x13 e => ?_; subst e
  refine uFn_k fun x14 x15 e => ?_; subst e
  refine u0_k fun e => ?_; subst e
  refine u0_k fun e => ?_; subst e
  refine u0_k fun e => ?_; subst e
  refine uE_k fun e => ?_; subst e
  exact .inr ⟨a1, a2, rfl, rfl⟩

theorem rc65_0 (args : List (PV sig)) (m : Mem sig) : (∀ (C : Tab) (ρ : Type) (K : Res sig × Mem sig → Option ρ), Rc65_0 C ρ args m K = none) ∨ ∃ (a1 : Int) (a2 : ByteArray) (a3 : Int), args = [.ptr 0 0, .d (.int .i64 a1)] ∧ m = [some [.d (.str a2), .d (.int .i64 a3)]] := by
  unfold Rc65_0
  refine uC_k fun x0 x1 e => ?_; subst e
  refine uP_k fun e => ?_; subst e
  refine uC_k fun x2 x3 e => ?_; subst e
  refine uI_k fun a1 e => ?_; subst e
  refine u0_k fun e => ?_; subst e
  refine uM_k fun x5 x4 e => ?_; subst e
  refine uC_k fun x6 x7 e => ?_; subst e
  refine uStr_k fun a2 e => ?_; subst e
  refine uC_k fun x8 x9 e => ?_; subst e
  refine uI_k fun a3 e => ?_; subst e
  refine u0_k fun e => ?_; subst e
  refine uE_k fun e => ?_; subst e
  exact .inr ⟨a1, a2, a3, rfl, rfl⟩

theorem rc66_0 (args : List (PV sig)) (m : Mem sig) : (∀ (C : Tab) (ρ : Type) (K : Res sig × Mem sig → Option ρ), Rc66_0 C ρ args m K = none) ∨ ∃ (a1 : Int), args = [.d (.int .u8 a1)] ∧ m = [] := by
  unfold Rc66_0
  refine uC_k fun x0 x1 e => ?_; subst e
  refine uI_k fun a1 e => ?_; subst e
  refine u0_k fun e => ?_; subst e
  refine uE_k fun e => ?_; subst e
  exact .inr ⟨a1, rfl, rfl⟩

theorem rc67_0 (args : List (PV sig)) (m : Mem sig) : (∀ (C : Tab) (ρ : Type) (K : Res sig × Mem sig → Option ρ), Rc67_0 C ρ args m K = none) ∨ ∃ (a1 : ByteArray) (a2 : Int), args = [.ptr 0 0, .ptr 1 0] ∧ m = [some [.d (.str a1), .d (.int .i64 a2)], some [.fn (.func 62) [] []]] := by
  unfold Rc67_0
  refine uC_k fun x0 x1 e => ?_; subst e
  refine uP_k fun e => ?_; subst e
  refine uC_k fun x2 x3 e => ?_; subst e
  refine uP_k fun e => ?_; subst e
  refine u0_k fun e => ?_; subst e
  refine uM_k fun x5 x4 e => ?_; subst e
  refine uC_k fun x6 x7 e => ?_; subst e
  refine uStr_k fun a1 e => ?_; subst e
  refine uC_k fun x8 x9 e => ?_; subst e
  refine uI_k fun a2 e => ?_; subst e
  refine u0_k fun e => ?_; subst e
  refine uM_k fun x11 x10 e => ?_; subst e
  refine uC_k fun x12 x13 e => ?_; subst e
  refine uFn_k fun x14 x15 e => ?_; subst e
  refine u0_k fun e => ?_; subst e
  refine u0_k fun e => ?_; subst e
  refine u0_k fun e => ?_; subst e
  refine uE_k fun e => ?_; subst e
  exact .inr ⟨a1, a2, rfl, rfl⟩

theorem rc68_0 (args : List (PV sig)) (m : Mem sig) : (∀ (C : Tab) (ρ : Type) (K : Res sig × Mem sig → Option ρ), Rc68_0 C ρ args m K = none) ∨ ∃ (a1 : Int), args = [.d (.int .u8 a1)] ∧ m = [] := by
  unfold Rc68_0
  refine uC_k fun x0 x1 e => ?_; subst e
  refine uI_k fun a1 e => ?_; subst e
  refine u0_k fun e => ?_; subst e
  refine uE_k fun e => ?_; subst e
  exact .inr ⟨a1, rfl, rfl⟩

theorem rc69_0 (args : List (PV sig)) (m : Mem sig) : (∀ (C : Tab) (ρ : Type) (K : Res sig × Mem sig → Option ρ), Rc69_0 C ρ args m K = none) ∨ ∃ (a1 : ByteArray) (a2 : Int), args = [.ptr 0 0, .ptr 1 0] ∧ m = [some [.d (.str a1), .d (.int .i64 a2)], some [.fn (.func 62) [] []]] := by
  unfold Rc69_0
  refine uC_k fun x0 x1 e => ?_; subst e
  refine uP_k fun e => ?_; subst e
  refine uC_k fun x2 x3 e => ?_; subst e
  refine uP_k fun e => ?_; subst e
  refine u0_k fun e => ?_; subst e
  refine uM_k fun x5 x4 e => ?_; subst e
  refine uC_k fun x6 x7 e => ?_; subst e
  refine uStr_k fun a1 e => ?_; subst e
  refine uC_k fun x8 x9 e => ?_; subst e
  refine uI_k fun a2 e => ?_; subst e
  refine u0_k fun e => ?_; subst e
  refine uM_k fun x11 x10 e => ?_; subst e
  refine uC_k fun x12 x13 e => ?_; subst e
  refine uFn_k fun x14 x15 e => ?_; subst e
  refine u0_k fun e => ?_; subst e
  refine u0_k fun e => ?_; subst e
  refine u0_k fun e => ?_; subst e
  refine uE_k fun e => ?_; subst e
  exact .inr ⟨a1, a2, rfl, rfl⟩

theorem rc70_0 (args : List (PV sig)) (m : Mem sig) : (∀ (C : Tab) (ρ : Type) (K : Res sig × Mem sig → Option ρ), Rc70_0 C ρ args m K = none) ∨ ∃ (a1 : ByteArray), args = [.d (.str a1)] ∧ m = [] := by
  unfold Rc70_0
  refine uC_k fun x0 x1 e => ?_; subst e
  refine uStr_k fun a1 e => ?_; subst e
  refine u0_k fun e => ?_; subst e
  refine uE_k fun e => ?_; subst e
  exact .inr ⟨a1, rfl, rfl⟩

theorem rc71_0 (args : List (PV sig)) (m : Mem sig) : (∀ (C : Tab) (ρ : Type) (K : Res sig × Mem sig → Option ρ), Rc71_0 C ρ args m K = none) ∨ ∃ (a1 : ByteArray) (a2 : Int), args = [.ptr 0 0, .ptr 1 0] ∧ m = [some [.d (.str a1), .d (.int .i64 a2)], some [.fn (.func 62) [] []]] := by
  unfold Rc71_0
  refine uC_k fun x0 x1 e => ?_; subst e
  refine uP_k fun e => ?_; subst e
  refine uC_k fun x2 x3 e => ?_; subst e
  refine uP_k fun e => ?_; subst e
  refine u0_k fun e => ?_; subst e
  refine uM_k fun x5 x4 e => ?_; subst e
  refine uC_k fun x6 x7 e => ?_; subst e
  refine uStr_k fun a1 e => ?_; subst e
  refine uC_k fun x8 x9 e => ?_; subst e
  refine uI_k fun a2 e => ?_; subst e
  refine u0_k fun e => ?_; subst e
  refine uM_k fun x11 x10 e => ?_; subst e
  refine uC_k fun x12 x13 e => ?_; subst e
  refine uFn_k fun x14 x15 e => ?_; subst e
  refine u0_k fun e => ?_; subst e
  refine u0_k fun e => ?_; subst e
  refine u0_k fun e => ?_; subst e
  refine uE_k fun e => ?_; subst e
  exact .inr ⟨a1, a2, rfl, rfl⟩

theorem rc72_0 (args : List (PV sig)) (m : Mem sig) : (∀ (C : Tab) (ρ : Type) (K : Res sig × Mem sig → Option ρ), Rc72_0 C ρ args m K = none) ∨ ∃ (a1 : ByteArray) (a2 : Int), args = [.ptr 0 0, .ptr 1 0] ∧ m = [some [.d (.str a1), .d (.int .i64 a2)], some [.fn (.func 62) [] []]] := by
  unfold Rc72_0
  refine uC_k fun x0 x1 e => ?_; subst e
  refine uP_k fun e => ?_; subst e
  refine uC_k fun x2 x3 e => ?_; subst e
  refine uP_k fun e => ?_; subst e
  refine u0_k fun e => ?_; subst e
  refine uM_k fun x5 x4 e => ?_; subst e
  refine uC_k fun x6 x7 e => ?_; subst e
  refine uStr_k fun a1 e => ?_; subst e
  refine uC_k fun x8 x9 e => ?_; subst e
  refine uI_k fun a2 e => ?_; subst e
  refine u0_k fun e => ?_; subst e
  refine uM_k fun x11 x10 e => ?_; subst e
  refine uC_k fun x12 x13 e => ?_; subst e
  refine uFn_k fun x14 x15 e => ?_; subst e
  refine u0_k fun e => ?_; subst e
  refine u0_k fun e => ?_; subst e
  refine u0_k fun e => ?_; subst e
  refine uE_k fun e => ?_; subst e
  exact .inr ⟨a1, a2, rfl, rfl⟩

theorem rc73_0 (args : List (PV sig)) (m : Mem sig) : (∀ (C : Tab) (ρ : Type) (K : Res sig × Mem sig → Option ρ), Rc73_0 C ρ args m K = none) ∨ ∃ (a1 : ByteArray) (a2 : Int), args = [.ptr 0 0] ∧ m = [some [.d (.str a1), .d (.int .i64 a2)]] := by
  unfold Rc73_0
  refine uC_k fun x0 x1 e => ?_; subst e
  refine uP_k fun e => ?_; subst e
  refine u0_k fun e => ?_; subst e
  refine uM_k fun x3 x2 e => ?_; subst e
  refine uC_k fun x4 x5 e => ?_; subst e
  refine uStr_k fun a1 e => ?_; subst e
  refine uC_k fun x6 x7 e => ?_; subst e
  refine uI_k fun a2 e => ?_; subst e
  refine u0_k fun e => ?_; subst e
  refine uE_k fun e => ?_; subst e
  exact .inr ⟨a1, a2, rfl, rfl⟩

theorem rc74_0 (args : List (PV sig)) (m : Mem sig) : (∀ (C : Tab) (ρ : Type) (K : Res sig × Mem sig → Option ρ), Rc74_0 C ρ args m K = none) ∨ ∃ (a1 : ByteArray) (a2 : Int), args = [.ptr 0 0, .ptr 1 0] ∧ m = [some [.d (.str a1), .d (.int .i64 a2)], some [.fn (.func 62) [] []]] := by
  unfold Rc74_0
  refine uC_k fun x0 x1 e => ?_; subst e
  refine uP_k fun e => ?_; subst e
  refine uC_k fun x2 x3 e => ?_; subst e
  refine uP_k fun e => ?_; subst e
  refine u0_k fun e => ?_; subst e
  refine uM_k fun x5 x4 e => ?_; subst e
  refine uC_k fun x6 x7 e => ?_; subst e
  refine uStr_k fun a1 e => ?_; subst e
  refine uC_k fun x8 x9 e => ?_; subst e
  refine uI_k fun a2 e => ?_; subst e
  refine u0_k fun e => ?_; subst e
  refine uM_k fun x11 x10 e => ?_; subst e
  refine uC_k fun x12 x13 e => ?_; subst e
  refine uFn_k fun x14 x15 e => ?_; subst e
  refine u0_k fun e => ?_; subst e
  refine u0_k fun e => ?_; subst e
  refine u0_k fun e => ?_; subst e
  refine uE_k fun e => ?_; subst e
  exact .inr ⟨a1, a2, rfl, rfl⟩

theorem rc75_0 (args : List (PV sig)) (m : Mem sig) : (∀ (C : Tab) (ρ : Type) (K : Res sig × Mem sig → Option ρ), Rc75_0 C ρ args m K = none) ∨ ∃ (a1 : ByteArray) (a2 : Int) (a3 : Int), args = [.ptr 0 0, .ptr 1 0, .ptr 2 0] ∧ m = [some [.d (.str a1), .d (.int .i64 a2)], some [.fn (.func 62) [] []], some [.d (.int .u8 a3)]] := by
  unfold Rc75_0
  refine uC_k fun x0 x1 e => ?_; subst e
  refine uP_k fun e => ?_; subst e
  refine uC_k fun x2 x3 e => ?_; subst e
  refine uP_k fun e => ?_; subst e
  refine uC_k fun x4 x5 e => ?_; subst e
  refine uP_k fun e => ?_; subst e
  refine u0_k fun e => ?_; subst e
  refine uM_k fun x7 x6 e => ?_; subst e
  refine uC_k fun x8 x9 e => ?_; subst e
  refine uStr_k fun a1 e => ?_; subst e
  refine uC_k fun x10 x11 e => ?_; subst e
  refine uI_k fun a2 e => ?_; subst e
  refine u0_k fun e => ?_; subst e
  refine uM_k fun x13 x12 e => ?_; subst e
  refine uC_k fun x14 x15 e => ?_; subst e
  refine uFn_k fun x16 x17 e => ?_; subst e
  refine u0_k fun e => ?_; subst e
  refine u0_k fun e => ?_; subst e
  refine u0_k fun e => ?_; subst e
  refine uM_k fun x19 x18 e => ?_; subst e
  refine uC_k fun x20 x21 e => ?_; subst e
  refine uI_k fun a3 e => ?_; subst e
  refine u0_k fun e => ?_; subst e
  refine uE_k fun e => ?_; subst e
  exact .inr ⟨a1, a2, a3, rfl, rfl⟩

theorem rc76_0 (args : List (PV sig)) (m : Mem sig) : (∀ (C : Tab) (ρ : Type) (K : Res sig × Mem sig → Option ρ), Rc76_0 C ρ args m K = none) ∨ ∃ (a1 : List Tok) (a2 : Int), args = [.ptr 0 0] ∧ m = [some [.d (.sl Key.tok a1), .d (.int .i64 a2)]] := by
  unfold Rc76_0
  refine uC_k fun x0 x1 e => ?_; subst e
  refine uP_k fun e => ?_; subst e
  refine u0_k fun e => ?_; subst e
  refine uM_k fun x3 x2 e => ?_; subst e
  refine uC_k fun x4 x5 e => ?_; subst e
  refine uS_k fun a1 e => ?_; subst e
  refine uC_k fun x6 x7 e => ?_; subst e
  refine uI_k fun a2 e => ?_; subst e
  refine u0_k fun e => ?_; subst e
  refine uE_k fun e => ?_; subst e
  exact .inr ⟨a1, a2, rfl, rfl⟩

theorem rc77_0 (args : List (PV sig)) (m : Mem sig) : (∀ (C : Tab) (ρ : Type) (K : Res sig × Mem sig → Option ρ), Rc77_0 C ρ args m K = none) ∨ ∃ (a1 : ByteArray) (a2 : List Tok) (a3 : Int), args = [.ptr 0 0, .d (.str a1)] ∧ m = [some [.d (.sl Key.tok a2), .d (.int .i64 a3)]] := by
  unfold Rc77_0
  refine uC_k fun x0 x1 e => ?_; subst e
  refine uP_k fun e => ?_; subst e
  refine uC_k fun x2 x3 e => ?_; subst e
  refine uStr_k fun a1 e => ?_; subst e
  refine u0_k fun e => ?_; subst e
  refine uM_k fun x5 x4 e => ?_; subst e
  refine uC_k fun x6 x7 e => ?_; subst e
  refine uS_k fun a2 e => ?_; subst e
  refine uC_k fun x8 x9 e => ?_; subst e
  refine uI_k fun a3 e => ?_; subst e
  refine u0_k fun e => ?_; subst e
  refine uE_k fun e => ?_; subst e
  exact .inr ⟨a1, a2, a3, rfl, rfl⟩

theorem rc78_0 (args : List (PV sig)) (m : Mem sig) : (∀ (C : Tab) (ρ : Type) (K : Res sig × Mem sig → Option ρ), Rc78_0 C ρ args m K = none) ∨ ∃ (a1 : List Tok) (a2 : Int), args = [.ptr 0 0] ∧ m = [some [.d (.sl Key.tok a1), .d (.int .i64 a2)]] := by
  unfold Rc78_0
  refine uC_k fun x0 x1 e => ?_; subst e
  refine uP_k fun e => ?_; subst e
  refine u0_k fun e => ?_; subst e
  refine uM_k fun x3 x2 e => ?_; subst e
  refine uC_k fun x4 x5 e => ?_; subst e
  refine uS_k fun a1 e => ?_; subst e
  refine uC_k fun x6 x7 e => ?_; subst e
  refine uI_k fun a2 e => ?_; subst e
  refine u0_k fun e => ?_; subst e
  refine uE_k fun e => ?_; subst e
  exact .inr ⟨a1, a2, rfl, rfl⟩

theorem rc79_0 (args : List (PV sig)) (m : Mem sig) : (∀ (C : Tab) (ρ : Type) (K : Res sig × Mem sig → Option ρ), Rc79_0 C ρ args m K = none) ∨ ∃ (a1 : List Tok) (a2 : Int), args = [.ptr 0 0] ∧ m = [some [.d (.sl Key.tok a1), .d (.int .i64 a2)]] := by
  unfold Rc79_0
  refine uC_k fun x0 x1 e => ?_; subst e
  refine uP_k fun e => ?_; subst e
  refine u0_k fun e => ?_; subst e
  refine uM_k fun x3 x2 e => ?_; subst e
  refine uC_k fun x4 x5 e => ?_; subst e
  refine uS_k fun a1 e => ?_; subst e
  refine uC_k fun x6 x7 e => ?_; subst e
  refine uI_k fun a2 e => ?_; subst e
  refine u0_k fun e => ?_; subst e
  refine uE_k fun e => ?_; subst e
  exact .inr ⟨a1, a2, rfl, rfl⟩

theorem rc80_0 (args : List (PV sig)) (m : Mem sig) : (∀ (C : Tab) (ρ : Type) (K : Res sig × Mem sig → Option ρ), Rc80_0 C ρ args m K = none) ∨ ∃ (a1 : List ByteArray) (a2 : ByteArray), args = [.d (.sl Key.str a1), .d (.str a2)] ∧ m = [] := by
  unfold Rc80_0
  refine uC_k fun x0 x1 e => ?_; subst e
  refine uS_k fun a1 e => ?_; subst e
  refine uC_k fun x2 x3 e => ?_; subst e
  refine uStr_k fun a2 e => ?_; subst e
  refine u0_k fun e => ?_; subst e
  refine uE_k fun e => ?_; subst e
  exact .inr ⟨a1, a2, rfl, rfl⟩

theorem rc82_0 (args : List (PV sig)) (m : Mem sig) : (∀ (C : Tab) (ρ : Type) (K : Res sig × Mem sig → Option ρ), Rc82_0 C ρ args m K = none) ∨ ∃ (a1 : ByteArray), args = [.d (.str a1), .fn (.func 63) [] []] ∧ m = [] := by
  unfold Rc82_0
  refine uC_k fun x0 x1 e => ?_; subst e
  refine uStr_k fun a1 e => ?_; subst e
  refine uC_k fun x2 x3 e => ?_; subst e
  refine uFn_k fun x4 x5 e => ?_; subst e
  refine u0_k fun e => ?_; subst e
  refine u0_k fun e => ?_; subst e
  refine u0_k fun e => ?_; subst e
  refine uE_k fun e => ?_; subst e
  exact .inr ⟨a1, rfl, rfl⟩

theorem rc82_1 (args : List (PV sig)) (m : Mem sig) : (∀ (C : Tab) (ρ : Type) (K : Res sig × Mem sig → Option ρ), Rc82_1 C ρ args m K = none) ∨ ∃ (a1 : ByteArray), args = [.d (.str a1), .fn (.func 66) [] []] ∧ m = [] := by
  unfold Rc82_1
  refine uC_k fun x0 x1 e => ?_; subst e
  refine uStr_k fun a1 e => ?_; subst e
  refine uC_k fun x2 x3 e => ?_; subst e
  refine uFn_k fun x4 x5 e => ?_; subst e
  refine u0_k fun e => ?_; subst e
  refine u0_k fun e => ?_; subst e
  refine u0_k fun e => ?_; subst e
  refine uE_k fun e => ?_; subst e
  exact .inr ⟨a1, rfl, rfl⟩

theorem rc83_0 (args : List (PV sig)) (m : Mem sig) : (∀ (C : Tab) (ρ : Type) (K : Res sig × Mem sig → Option ρ), Rc83_0 C ρ args m K = none) ∨ ∃ (a1 : Int), args = [.d (.int .u8 a1)] ∧ m = [] := by
  unfold Rc83_0
  refine uC_k fun x0 x1 e => ?_; subst e
  refine uI_k fun a1 e => ?_; subst e
  refine u0_k fun e => ?_; subst e
  refine uE_k fun e => ?_; subst e
  exact .inr ⟨a1, rfl, rfl⟩

theorem rc84_0 (args : List (PV sig)) (m : Mem sig) : (∀ (C : Tab) (ρ : Type) (K : Res sig × Mem sig → Option ρ), Rc84_0 C ρ args m K = none) ∨ ∃ (a1 : ByteArray) (a2 : Int), args = [.d (.str a1), .d (.int .i64 a2)] ∧ m = [] := by
  unfold Rc84_0
  refine uC_k fun x0 x1 e => ?_; subst e
  refine uStr_k fun a1 e => ?_; subst e
  refine uC_k fun x2 x3 e => ?_; subst e
  refine uI_k fun a2 e => ?_; subst e
  refine u0_k fun e => ?_; subst e
  refine uE_k fun e => ?_; subst e
  exact .inr ⟨a1, a2, rfl, rfl⟩

theorem rc86_0 (args : List (PV sig)) (m : Mem sig) : (∀ (C : Tab) (ρ : Type) (K : Res sig × Mem sig → Option ρ), Rc86_0 C ρ args m K = none) ∨ ∃ (a1 : Int), args = [.d (.int .u8 a1)] ∧ m = [] := by
  unfold Rc86_0
  refine uC_k fun x0 x1 e => ?_; subst e
  refine uI_k fun a1 e => ?_; subst e
  refine u0_k fun e => ?_; subst e
  refine uE_k fun e => ?_; subst e
  exact .inr ⟨a1, rfl, rfl⟩

theorem rc87_0 (args : List (PV sig)) (m : Mem sig) : (∀ (C : Tab) (ρ : Type) (K : Res sig × Mem sig → Option ρ), Rc87_0 C ρ args m K = none) ∨ ∃ (a1 : ByteArray), args = [.d (.str a1)] ∧ m = [] := by
  unfold Rc87_0
  refine uC_k fun x0 x1 e => ?_; subst e
  refine uStr_k fun a1 e => ?_; subst e
  refine u0_k fun e => ?_; subst e
  refine uE_k fun e => ?_; subst e
  exact .inr ⟨a1, rfl, rfl⟩

theorem rc88_0 (args : List (PV sig)) (m : Mem sig) : (∀ (C : Tab) (ρ : Type) (K : Res sig × Mem sig → Option ρ), Rc88_0 C ρ args m K = none) ∨ ∃ (a1 : Int), args = [.d (.int .i64 a1)] ∧ m = [] := by
  unfold Rc88_0
  refine uC_k fun x0 x1 e => ?_; subst e
  refine uI_k fun a1 e => ?_; subst e
  refine u0_k fun e => ?_; subst e
  refine uE_k fun e => ?_; subst e
  exact .inr ⟨a1, rfl, rfl⟩

theorem rc89_0 (args : List (PV sig)) (m : Mem sig) : (∀ (C : Tab) (ρ : Type) (K : Res sig × Mem sig → Option ρ), Rc89_0 C ρ args m K = none) ∨ ∃ (a1 : Tok), args = [.agg [.d (.int .i64 a1.kind), .d (.str a1.text), .d (.int .i64 (a1.at_))]] ∧ m = [] := by
  unfold Rc89_0
  refine uC_k fun x0 x1 e => ?_; subst e
  refine uTok_k fun a1 e => ?_; subst e
  refine u0_k fun e => ?_; subst e
  refine uE_k fun e => ?_; subst e
  exact .inr ⟨a1, rfl, rfl⟩

theorem rc90_0 (args : List (PV sig)) (m : Mem sig) : (∀ (C : Tab) (ρ : Type) (K : Res sig × Mem sig → Option ρ), Rc90_0 C ρ args m K = none) ∨ ∃ (a1 : List Tok) (a2 : Int), args = [.ptr 0 0] ∧ m = [some [.d (.sl Key.tok a1), .d (.int .i64 a2)]] := by
  unfold Rc90_0
  refine uC_k fun x0 x1 e => ?_; subst e
  refine uP_k fun e => ?_; subst e
  refine u0_k fun e => ?_; subst e
  refine uM_k fun x3 x2 e => ?_; subst e
  refine uC_k fun x4 x5 e => ?_; subst e
  refine uS_k fun a1 e => ?_; subst e
  refine uC_k fun x6 x7 e => ?_; subst e
  refine uI_k fun a2 e => ?_; subst e
  refine u0_k fun e => ?_; subst e
  refine uE_k fun e => ?_; subst e
  exact .inr ⟨a1, a2, rfl, rfl⟩

theorem rc92_0 (args : List (PV sig)) (m : Mem sig) : (∀ (C : Tab) (ρ : Type) (K : Res sig × Mem sig → Option ρ), Rc92_0 C ρ args m K = none) ∨ ∃ (a1 : Int), args = [.d (.int .u8 a1)] ∧ m = [] := by
  unfold Rc92_0
  refine uC_k fun x0 x1 e => ?_; subst e
  refine uI_k fun a1 e => ?_; subst e
  refine u0_k fun e => ?_; subst e
  refine uE_k fun e => ?_; subst e
  exact .inr ⟨a1, rfl, rfl⟩

theorem rc93_0 (args : List (PV sig)) (m : Mem sig) : (∀ (C : Tab) (ρ : Type) (K : Res sig × Mem sig → Option ρ), Rc93_0 C ρ args m K = none) ∨ ∃ (a1 : Int), args = [.d (.int .u8 a1)] ∧ m = [] := by
  unfold Rc93_0
  refine uC_k fun x0 x1 e => ?_; subst e
  refine uI_k fun a1 e => ?_; subst e
  refine u0_k fun e => ?_; subst e
  refine uE_k fun e => ?_; subst e
  exact .inr ⟨a1, rfl, rfl⟩

theorem rl15_4_0 (vs : List (PV sig)) (m : Mem sig) (ds : List (FuncId × List (PV sig))) (nt : Nat) : (∀ (C : Tab) (ρ : Type) (K : Ex sig → St sig → Option ρ), Rl15_4_0 C ρ vs m ds nt K = none) ∨ ∃ (a1 : Int) (a2 : Rw) (a3 : Rw), vs = [.ptr 0 0, .ptr 1 0, .d (.int .i64 a1)] ∧ m = [some [.d (.int .i64 a2.op), .d (.str a2.name), .d (.sl Key.raw a2.args)], some [.d (.int .i64 a3.op), .d (.str a3.name), .d (.sl Key.raw a3.args)]] ∧ ds = [] ∧ nt = 46 := by
  unfold Rl15_4_0
  refine uN_k fun e => ?_; subst e
  refine uC_k fun x0 x1 e => ?_; subst e
  refine uP_k fun e => ?_; subst e
  refine uC_k fun x2 x3 e => ?_; subst e
  refine uP_k fun e => ?_; subst e
  refine uC_k fun x4 x5 e => ?_; subst e
  refine uI_k fun a1 e => ?_; subst e
  refine u0_k fun e => ?_; subst e
  refine uM_k fun x7 x6 e => ?_; subst e
  refine uRwL_k fun a2 e => ?_; subst e
  refine uM_k fun x9 x8 e => ?_; subst e
  refine uRwL_k fun a3 e => ?_; subst e
  refine uE_k fun e => ?_; subst e
  refine uDe_k fun e => ?_; subst e
  exact .inr ⟨a1, a2, a3, rfl, rfl, rfl, rfl⟩

theorem rl18_4_0 (vs : List (PV sig)) (m : Mem sig) (ds : List (FuncId × List (PV sig))) (nt : Nat) : (∀ (C : Tab) (ρ : Type) (K : Ex sig → St sig → Option ρ), Rl18_4_0 C ρ vs m ds nt K = none) ∨ ∃ (a1 : List ByteArray) (a2 : List ByteArray) (a3 : Int) (a4 : Int), vs = [.d (.sl Key.str a1), .d (.sl Key.str a2), .d (.int .i64 a3), .d (.int .i64 a4)] ∧ m = [] ∧ ds = [] ∧ nt = 26 := by
  unfold Rl18_4_0
  refine uN_k fun e => ?_; subst e
  refine uC_k fun x0 x1 e => ?_; subst e
  refine uS_k fun a1 e => ?_; subst e
  refine uC_k fun x2 x3 e => ?_; subst e
  refine uS_k fun a2 e => ?_; subst e
  refine uC_k fun x4 x5 e => ?_; subst e
  refine uI_k fun a3 e => ?_; subst e
  refine uC_k fun x6 x7 e => ?_; subst e
  refine uI_k fun a4 e => ?_; subst e
  refine u0_k fun e => ?_; subst e
  refine uE_k fun e => ?_; subst e
  refine uDe_k fun e => ?_; subst e
  exact .inr ⟨a1, a2, a3, a4, rfl, rfl, rfl, rfl⟩

theorem rl22_20_0 (vs : List (PV sig)) (m : Mem sig) (ds : List (FuncId × List (PV sig))) (nt : Nat) : (∀ (C : Tab) (ρ : Type) (K : Ex sig → St sig → Option ρ), Rl22_20_0 C ρ vs m ds nt K = none) ∨ ∃ (a1 : Int) (a2 : List Rw) (a3 : Int) (a4 : Int) (a5 : Int), vs = [.d (.int .i64 a1), .ptr 0 0, .d (.sl Key.raw a2), .d (.int .i64 a3), .d (.int .i64 a4)] ∧ m = [some [.d (.int .i64 a5)]] ∧ ds = [] ∧ nt = 72 := by
  unfold Rl22_20_0
  refine uN_k fun e => ?_; subst e
  refine uC_k fun x0 x1 e => ?_; subst e
  refine uI_k fun a1 e => ?_; subst e
  refine uC_k fun x2 x3 e => ?_; subst e
  refine uP_k fun e => ?_; subst e
  refine uC_k fun x4 x5 e => ?_; subst e
  refine uS_k fun a2 e => ?_; subst e
  refine uC_k fun x6 x7 e => ?_; subst e
  refine uI_k fun a3 e => ?_; subst e
  refine uC_k fun x8 x9 e => ?_; subst e
  refine uI_k fun a4 e => ?_; subst e
  refine u0_k fun e => ?_; subst e
  refine uM_k fun x11 x10 e => ?_; subst e
  refine uC_k fun x12 x13 e => ?_; subst e
  refine uI_k fun a5 e => ?_; subst e
  refine u0_k fun e => ?_; subst e
  refine uE_k fun e => ?_; subst e
  refine uDe_k fun e => ?_; subst e
  exact .inr ⟨a1, a2, a3, a4, a5, rfl, rfl, rfl, rfl⟩

theorem rl24_3_0 (vs : List (PV sig)) (m : Mem sig) (ds : List (FuncId × List (PV sig))) (nt : Nat) : (∀ (C : Tab) (ρ : Type) (K : Ex sig → St sig → Option ρ), Rl24_3_0 C ρ vs m ds nt K = none) ∨ ∃ (a1 : Int) (a2 : Int) (a3 : Int) (a4 : Rw), vs = [.d (.int .i64 a1), .ptr 0 0, .d (.int .i64 a2), .d (.int .i64 a3)] ∧ m = [some [.d (.int .i64 a4.op), .d (.str a4.name), .d (.sl Key.raw a4.args)]] ∧ ds = [] ∧ nt = 34 := by
  unfold Rl24_3_0
  refine uN_k fun e => ?_; subst e
  refine uC_k fun x0 x1 e => ?_; subst e
  refine uI_k fun a1 e => ?_; subst e
  refine uC_k fun x2 x3 e => ?_; subst e
  refine uP_k fun e => ?_; subst e
  refine uC_k fun x4 x5 e => ?_; subst e
  refine uI_k fun a2 e => ?_; subst e
  refine uC_k fun x6 x7 e => ?_; subst e
  refine uI_k fun a3 e => ?_; subst e
  refine u0_k fun e => ?_; subst e
  refine uM_k fun x9 x8 e => ?_; subst e
  refine uRwL_k fun a4 e => ?_; subst e
  refine uE_k fun e => ?_; subst e
  refine uDe_k fun e => ?_; subst e
  exact .inr ⟨a1, a2, a3, a4, rfl, rfl, rfl, rfl⟩

theorem rl25_18_0 (vs : List (PV sig)) (m : Mem sig) (ds : List (FuncId × List (PV sig))) (nt : Nat) : (∀ (C : Tab) (ρ : Type) (K : Ex sig → St sig → Option ρ), Rl25_18_0 C ρ vs m ds nt K = none) ∨ ∃ (a1 : Int) (a2 : Int) (a3 : Rw), vs = [.d (.int .i64 a1), .ptr 0 0, .d (.int .i64 a2)] ∧ m = [some [.d (.int .i64 a3.op), .d (.str a3.name), .d (.sl Key.raw a3.args)]] ∧ ds = [] ∧ nt = 62 := by
  unfold Rl25_18_0
  refine uN_k fun e => ?_; subst e
  refine uC_k fun x0 x1 e => ?_; subst e
  refine uI_k fun a1 e => ?_; subst e
  refine uC_k fun x2 x3 e => ?_; subst e
  refine uP_k fun e => ?_; subst e
  refine uC_k fun x4 x5 e => ?_; subst e
  refine uI_k fun a2 e => ?_; subst e
  refine u0_k fun e => ?_; subst e
  refine uM_k fun x7 x6 e => ?_; subst e
  refine uRwL_k fun a3 e => ?_; subst e
  refine uE_k fun e => ?_; subst e
  refine uDe_k fun e => ?_; subst e
  exact .inr ⟨a1, a2, a3, rfl, rfl, rfl, rfl⟩

theorem rl28_6_0 (vs : List (PV sig)) (m : Mem sig) (ds : List (FuncId × List (PV sig))) (nt : Nat) : (∀ (C : Tab) (ρ : Type) (K : Ex sig → St sig → Option ρ), Rl28_6_0 C ρ vs m ds nt K = none) ∨ ∃ (a1 : ByteArray) (a2 : List Tok) (a3 : ByteArray) (a4 : Int), vs = [.d (.str a1), .ptr 0 0, .own Key.tok a2] ∧ m = [some [.d (.str a3), .d (.int .i64 a4)]] ∧ ds = [] ∧ nt = 69 := by
  unfold Rl28_6_0
  refine uN_k fun e => ?_; subst e
  refine uC_k fun x0 x1 e => ?_; subst e
  refine uStr_k fun a1 e => ?_; subst e
  refine uC_k fun x2 x3 e => ?_; subst e
  refine uP_k fun e => ?_; subst e
  refine uC_k fun x4 x5 e => ?_; subst e
  refine uS_k fun a2 e => ?_; subst e
  refine u0_k fun e => ?_; subst e
  refine uM_k fun x7 x6 e => ?_; subst e
  refine uC_k fun x8 x9 e => ?_; subst e
  refine uStr_k fun a3 e => ?_; subst e
  refine uC_k fun x10 x11 e => ?_; subst e
  refine uI_k fun a4 e => ?_; subst e
  refine u0_k fun e => ?_; subst e
  refine uE_k fun e => ?_; subst e
  refine uDe_k fun e => ?_; subst e
  exact .inr ⟨a1, a2, a3, a4, rfl, rfl, rfl, rfl⟩

theorem rl30_4_0 (vs : List (PV sig)) (m : Mem sig) (ds : List (FuncId × List (PV sig))) (nt : Nat) : (∀ (C : Tab) (ρ : Type) (K : Ex sig → St sig → Option ρ), Rl30_4_0 C ρ vs m ds nt K = none) ∨ ∃ (a1 : Bool) (a2 : List Tok) (a3 : Int) (a4 : Rw) (a5 : Rw), vs = [.ptr 0 0, .ptr 1 0, .ptr 2 0, .d (.bool a1)] ∧ m = [some [.d (.sl Key.tok a2), .d (.int .i64 a3)], some [.d (.int .i64 a4.op), .d (.str a4.name), .full Key.raw a4.args], some [.d (.int .i64 a5.op), .d (.str a5.name), .d (.sl Key.raw a5.args)]] ∧ ds = [] ∧ nt = 63 := by
  unfold Rl30_4_0
  refine uN_k fun e => ?_; subst e
  refine uC_k fun x0 x1 e => ?_; subst e
  refine uP_k fun e => ?_; subst e
  refine uC_k fun x2 x3 e => ?_; subst e
  refine uP_k fun e => ?_; subst e
  refine uC_k fun x4 x5 e => ?_; subst e
  refine uP_k fun e => ?_; subst e
  refine uC_k fun x6 x7 e => ?_; subst e
  refine uB_k fun a1 e => ?_; subst e
  refine u0_k fun e => ?_; subst e
  refine uM_k fun x9 x8 e => ?_; subst e
  refine uC_k fun x10 x11 e => ?_; subst e
  refine uS_k fun a2 e => ?_; subst e
  refine uC_k fun x12 x13 e => ?_; subst e
  refine uI_k fun a3 e => ?_; subst e
  refine u0_k fun e => ?_; subst e
  refine uM_k fun x15 x14 e => ?_; subst e
  refine uRwL_k fun a4 e => ?_; subst e
  refine uM_k fun x17 x16 e => ?_; subst e
  refine uRwL_k fun a5 e => ?_; subst e
  refine uE_k fun e => ?_; subst e
  refine uDe_k fun e => ?_; subst e
  exact .inr ⟨a1, a2, a3, a4, a5, rfl, rfl, rfl, rfl⟩

theorem rl33_4_0 (vs : List (PV sig)) (m : Mem sig) (ds : List (FuncId × List (PV sig))) (nt : Nat) : (∀ (C : Tab) (ρ : Type) (K : Ex sig → St sig → Option ρ), Rl33_4_0 C ρ vs m ds nt K = none) ∨ ∃ (a1 : List Rw) (a2 : List Rw) (a3 : Int) (a4 : Int), vs = [.d (.sl Key.raw a1), .fn (.func 16) [] [], .d (.sl Key.raw a2), .d (.int .i64 a3), .d (.int .i64 a4)] ∧ m = [] ∧ ds = [] ∧ nt = 32 := by
  unfold Rl33_4_0
  refine uN_k fun e => ?_; subst e
  refine uC_k fun x0 x1 e => ?_; subst e
  refine uS_k fun a1 e => ?_; subst e
  refine uC_k fun x2 x3 e => ?_; subst e
  refine uFn_k fun x4 x5 e => ?_; subst e
  refine u0_k fun e => ?_; subst e
  refine u0_k fun e => ?_; subst e
  refine uC_k fun x6 x7 e => ?_; subst e
  refine uS_k fun a2 e => ?_; subst e
  refine uC_k fun x8 x9 e => ?_; subst e
  refine uI_k fun a3 e => ?_; subst e
  refine uC_k fun x10 x11 e => ?_; subst e
  refine uI_k fun a4 e => ?_; subst e
  refine u0_k fun e => ?_; subst e
  refine uE_k fun e => ?_; subst e
  refine uDe_k fun e => ?_; subst e
  exact .inr ⟨a1, a2, a3, a4, rfl, rfl, rfl, rfl⟩

theorem rl34_8_0 (vs : List (PV sig)) (m : Mem sig) (ds : List (FuncId × List (PV sig))) (nt : Nat) : (∀ (C : Tab) (ρ : Type) (K : Ex sig → St sig → Option ρ), Rl34_8_0 C ρ vs m ds nt K = none) ∨ ∃ (a1 : List ByteArray) (a2 : List ByteArray) (a3 : List Rw) (a4 : Int) (a5 : Int), vs = [.d (.sl Key.str a1), .own Key.str a2, .d (.sl Key.raw a3), .d (.int .i64 a4), .d (.int .i64 a5)] ∧ m = [] ∧ ds = [] ∧ nt = 65 := by
  unfold Rl34_8_0
  refine uN_k fun e => ?_; subst e
  refine uC_k fun x0 x1 e => ?_; subst e
  refine uS_k fun a1 e => ?_; subst e
  refine uC_k fun x2 x3 e => ?_; subst e
  refine uS_k fun a2 e => ?_; subst e
  refine uC_k fun x4 x5 e => ?_; subst e
  refine uS_k fun a3 e => ?_; subst e
  refine uC_k fun x6 x7 e => ?_; subst e
  refine uI_k fun a4 e => ?_; subst e
  refine uC_k fun x8 x9 e => ?_; subst e
  refine uI_k fun a5 e => ?_; subst e
  refine u0_k fun e => ?_; subst e
  refine uE_k fun e => ?_; subst e
  refine uDe_k fun e => ?_; subst e
  exact .inr ⟨a1, a2, a3, a4, a5, rfl, rfl, rfl, rfl⟩

theorem rl35_14_0 (vs : List (PV sig)) (m : Mem sig) (ds : List (FuncId × List (PV sig))) (nt : Nat) : (∀ (C : Tab) (ρ : Type) (K : Ex sig → St sig → Option ρ), Rl35_14_0 C ρ vs m ds nt K = none) ∨ ∃ (a1 : List ByteArray) (a2 : List ByteArray) (a3 : Int) (a4 : Rw), vs = [.d (.sl Key.str a1), .own Key.str a2, .ptr 0 0, .d (.int .i64 a3)] ∧ m = [some [.d (.int .i64 a4.op), .d (.str a4.name), .d (.sl Key.raw a4.args)]] ∧ ds = [] ∧ nt = 72 := by
  unfold Rl35_14_0
  refine uN_k fun e => ?_; subst e
  refine uC_k fun x0 x1 e => ?_; subst e
  refine uS_k fun a1 e => ?_; subst e
  refine uC_k fun x2 x3 e => ?_; subst e
  refine uS_k fun a2 e => ?_; subst e
  refine uC_k fun x4 x5 e => ?_; subst e
  refine uP_k fun e => ?_; subst e
  refine uC_k fun x6 x7 e => ?_; subst e
  refine uI_k fun a3 e => ?_; subst e
  refine u0_k fun e => ?_; subst e
  refine uM_k fun x9 x8 e => ?_; subst e
  refine uRwL_k fun a4 e => ?_; subst e
  refine uE_k fun e => ?_; subst e
  refine uDe_k fun e => ?_; subst e
  exact .inr ⟨a1, a2, a3, a4, rfl, rfl, rfl, rfl⟩

theorem rl43_0_0 (vs : List (PV sig)) (m : Mem sig) (ds : List (FuncId × List (PV sig))) (nt : Nat) : (∀ (C : Tab) (ρ : Type) (K : Ex sig → St sig → Option ρ), Rl43_0_0 C ρ vs m ds nt K = none) ∨ ∃ (a1 : ByteArray) (a2 : Int), vs = [.ptr 0 0] ∧ m = [some [.d (.str a1), .d (.int .i64 a2)]] ∧ ds = [] ∧ nt = 102 := by
  unfold Rl43_0_0
  refine uN_k fun e => ?_; subst e
  refine uC_k fun x0 x1 e => ?_; subst e
  refine uP_k fun e => ?_; subst e
  refine u0_k fun e => ?_; subst e
  refine uM_k fun x3 x2 e => ?_; subst e
  refine uC_k fun x4 x5 e => ?_; subst e
  refine uStr_k fun a1 e => ?_; subst e
  refine uC_k fun x6 x7 e => ?_; subst e
  refine uI_k fun a2 e => ?_; subst e
  refine u0_k fun e => ?_; subst e
  refine uE_k fun e => ?_; subst e
  refine uDe_k fun e => ?_; subst e
  exact .inr ⟨a1, a2, rfl, rfl, rfl, rfl⟩

theorem rl47_2_0 (vs : List (PV sig)) (m : Mem sig) (ds : List (FuncId × List (PV sig))) (nt : Nat) : (∀ (C : Tab) (ρ : Type) (K : Ex sig → St sig → Option ρ), Rl47_2_0 C ρ vs m ds nt K = none) ∨ ∃ (a1 : List Tok) (a2 : Int) (a3 : Rw) (a4 : Rw), vs = [.ptr 0 0, .ptr 1 0, .ptr 2 0] ∧ m = [some [.d (.sl Key.tok a1), .d (.int .i64 a2)], some [.d (.int .i64 a3.op), .d (.str a3.name), .full Key.raw a3.args], some [.d (.int .i64 a4.op), .d (.str a4.name), .d (.sl Key.raw a4.args)]] ∧ ds = [] ∧ nt = 23 := by
  unfold Rl47_2_0
  refine uN_k fun e => ?_; subst e
  refine uC_k fun x0 x1 e => ?_; subst e
  refine uP_k fun e => ?_; subst e
  refine uC_k fun x2 x3 e => ?_; subst e
  refine uP_k fun e => ?_; subst e
  refine uC_k fun x4 x5 e => ?_; subst e
  refine uP_k fun e => ?_; subst e
  refine u0_k fun e => ?_; subst e
  refine uM_k fun x7 x6 e => ?_; subst e
  refine uC_k fun x8 x9 e => ?_; subst e
  refine uS_k fun a1 e => ?_; subst e
  refine uC_k fun x10 x11 e => ?_; subst e
  refine uI_k fun a2 e => ?_; subst e
  refine u0_k fun e => ?_; subst e
  refine uM_k fun x13 x12 e => ?_; subst e
  refine uRwL_k fun a3 e => ?_; subst e
  refine uM_k fun x15 x14 e => ?_; subst e
  refine uRwL_k fun a4 e => ?_; subst e
  refine uE_k fun e => ?_; subst e
  refine uDe_k fun e => ?_; subst e
  exact .inr ⟨a1, a2, a3, a4, rfl, rfl, rfl, rfl⟩

theorem rl51_2_0 (vs : List (PV sig)) (m : Mem sig) (ds : List (FuncId × List (PV sig))) (nt : Nat) : (∀ (C : Tab) (ρ : Type) (K : Ex sig → St sig → Option ρ), Rl51_2_0 C ρ vs m ds nt K = none) ∨ ∃ (a1 : ByteArray) (a2 : List ByteArray) (a3 : Int) (a4 : Int), vs = [.d (.str a1), .d (.sl Key.str a2), .d (.int .i64 a3), .d (.int .i64 a4)] ∧ m = [] ∧ ds = [] ∧ nt = 17 := by
  unfold Rl51_2_0
  refine uN_k fun e => ?_; subst e
  refine uC_k fun x0 x1 e => ?_; subst e
  refine uStr_k fun a1 e => ?_; subst e
  refine uC_k fun x2 x3 e => ?_; subst e
  refine uS_k fun a2 e => ?_; subst e
  refine uC_k fun x4 x5 e => ?_; subst e
  refine uI_k fun a3 e => ?_; subst e
  refine uC_k fun x6 x7 e => ?_; subst e
  refine uI_k fun a4 e => ?_; subst e
  refine u0_k fun e => ?_; subst e
  refine uE_k fun e => ?_; subst e
  refine uDe_k fun e => ?_; subst e
  exact .inr ⟨a1, a2, a3, a4, rfl, rfl, rfl, rfl⟩

theorem rl58_2_0 (vs : List (PV sig)) (m : Mem sig) (ds : List (FuncId × List (PV sig))) (nt : Nat) : (∀ (C : Tab) (ρ : Type) (K : Ex sig → St sig → Option ρ), Rl58_2_0 C ρ vs m ds nt K = none) ∨ ∃ (a1 : List Int) (a2 : Int) (a3 : Int) (a4 : Int), vs = [.d (.sl Key.int a1), .d (.int .i64 a2), .d (.int .i64 a3), .d (.int .i64 a4)] ∧ m = [] ∧ ds = [] ∧ nt = 19 := by
  unfold Rl58_2_0
  refine uN_k fun e => ?_; subst e
  refine uC_k fun x0 x1 e => ?_; subst e
  refine uS_k fun a1 e => ?_; subst e
  refine uC_k fun x2 x3 e => ?_; subst e
  refine uI_k fun a2 e => ?_; subst e
  refine uC_k fun x4 x5 e => ?_; subst e
  refine uI_k fun a3 e => ?_; subst e
  refine uC_k fun x6 x7 e => ?_; subst e
  refine uI_k fun a4 e => ?_; subst e
  refine u0_k fun e => ?_; subst e
  refine uE_k fun e => ?_; subst e
  refine uDe_k fun e => ?_; subst e
  exact .inr ⟨a1, a2, a3, a4, rfl, rfl, rfl, rfl⟩

theorem rl65_2_0 (vs : List (PV sig)) (m : Mem sig) (ds : List (FuncId × List (PV sig))) (nt : Nat) : (∀ (C : Tab) (ρ : Type) (K : Ex sig → St sig → Option ρ), Rl65_2_0 C ρ vs m ds nt K = none) ∨ ∃ (a1 : Int) (a2 : Int) (a3 : ByteArray) (a4 : Int), vs = [.ptr 0 0, .d (.int .i64 a1), .d (.int .i64 a2)] ∧ m = [some [.d (.str a3), .d (.int .i64 a4)]] ∧ ds = [] ∧ nt = 42 := by
  unfold Rl65_2_0
  refine uN_k fun e => ?_; subst e
  refine uC_k fun x0 x1 e => ?_; subst e
  refine uP_k fun e => ?_; subst e
  refine uC_k fun x2 x3 e => ?_; subst e
  refine uI_k fun a1 e => ?_; subst e
  refine uC_k fun x4 x5 e => ?_; subst e
  refine uI_k fun a2 e => ?_; subst e
  refine u0_k fun e => ?_; subst e
  refine uM_k fun x7 x6 e => ?_; subst e
  refine uC_k fun x8 x9 e => ?_; subst e
  refine uStr_k fun a3 e => ?_; subst e
  refine uC_k fun x10 x11 e => ?_; subst e
  refine uI_k fun a4 e => ?_; subst e
  refine u0_k fun e => ?_; subst e
  refine uE_k fun e => ?_; subst e
  refine uDe_k fun e => ?_; subst e
  exact .inr ⟨a1, a2, a3, a4, rfl, rfl, rfl, rfl⟩

theorem rl80_2_0 (vs : List (PV sig)) (m : Mem sig) (ds : List (FuncId × List (PV sig))) (nt : Nat) : (∀ (C : Tab) (ρ : Type) (K : Ex sig → St sig → Option ρ), Rl80_2_0 C ρ vs m ds nt K = none) ∨ ∃ (a1 : List ByteArray) (a2 : ByteArray) (a3 : Int) (a4 : Int), vs = [.d (.sl Key.str a1), .d (.str a2), .d (.int .i64 a3), .d (.int .i64 a4)] ∧ m = [] ∧ ds = [] ∧ nt = 19 := by
  unfold Rl80_2_0
  refine uN_k fun e => ?_; subst e
  refine uC_k fun x0 x1 e => ?_; subst e
  refine uS_k fun a1 e => ?_; subst e
  refine uC_k fun x2 x3 e => ?_; subst e
  refine uStr_k fun a2 e => ?_; subst e
  refine uC_k fun x4 x5 e => ?_; subst e
  refine uI_k fun a3 e => ?_; subst e
  refine uC_k fun x6 x7 e => ?_; subst e
  refine uI_k fun a4 e => ?_; subst e
  refine u0_k fun e => ?_; subst e
  refine uE_k fun e => ?_; subst e
  refine uDe_k fun e => ?_; subst e
  exact .inr ⟨a1, a2, a3, a4, rfl, rfl, rfl, rfl⟩

theorem rl82_4_0 (vs : List (PV sig)) (m : Mem sig) (ds : List (FuncId × List (PV sig))) (nt : Nat) : (∀ (C : Tab) (ρ : Type) (K : Ex sig → St sig → Option ρ), Rl82_4_0 C ρ vs m ds nt K = none) ∨ ∃ (a1 : ByteArray) (a2 : Int) (a3 : Int), vs = [.d (.str a1), .d (.int .i64 a2), .d (.int .i64 a3)] ∧ m = [] ∧ ds = [] ∧ nt = 32 := by
  unfold Rl82_4_0
  refine uN_k fun e => ?_; subst e
  refine uC_k fun x0 x1 e => ?_; subst e
  refine uStr_k fun a1 e => ?_; subst e
  refine uC_k fun x2 x3 e => ?_; subst e
  refine uI_k fun a2 e => ?_; subst e
  refine uC_k fun x4 x5 e => ?_; subst e
  refine uI_k fun a3 e => ?_; subst e
  refine u0_k fun e => ?_; subst e
  refine uE_k fun e => ?_; subst e
  refine uDe_k fun e => ?_; subst e
  exact .inr ⟨a1, a2, a3, rfl, rfl, rfl, rfl⟩

theorem rl84_1_0 (vs : List (PV sig)) (m : Mem sig) (ds : List (FuncId × List (PV sig))) (nt : Nat) : (∀ (C : Tab) (ρ : Type) (K : Ex sig → St sig → Option ρ), Rl84_1_0 C ρ vs m ds nt K = none) ∨ ∃ (a1 : ByteArray) (a2 : Int), vs = [.d (.str a1), .d (.int .i64 a2)] ∧ m = [] ∧ ds = [] ∧ nt = 18 := by
  unfold Rl84_1_0
  refine uN_k fun e => ?_; subst e
  refine uC_k fun x0 x1 e => ?_; subst e
  refine uStr_k fun a1 e => ?_; subst e
  refine uC_k fun x2 x3 e => ?_; subst e
  refine uI_k fun a2 e => ?_; subst e
  refine u0_k fun e => ?_; subst e
  refine uE_k fun e => ?_; subst e
  refine uDe_k fun e => ?_; subst e
  exact .inr ⟨a1, a2, rfl, rfl, rfl, rfl⟩

end Go.Proofs.YtanfoijdfcnpoaaDoor.Ev
