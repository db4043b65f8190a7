/- This file proves when the tables of typed functions answer; without any condition. -/
import Derived.Test.YtanfoijdfcnpoaaGreatDoorG1
set_option linter.unusedVariables false
set_option linter.unusedSimpArgs false
namespace Go.Proofs.YtanfoijdfcnpoaaGreatDoor.Ev

theorem rc3_0 (args : List (PV sig)) (m : Mem sig) : (∀ (C : Tab) (ρ : Type) (K : Res sig × Mem sig → Option ρ), Rc3_0 C ρ args m K = none) ∨ ∃ (a1 : ByteArray), args = [.d (.str a1)] ∧ m = [] := by
  unfold Rc3_0
  refine uC_k fun x0 x1 e => ?_; subst e
  refine uStr_k fun a1 e => ?_; subst e
  refine u0_k fun e => ?_; subst e
  refine uE_k fun e => ?_; subst e
  exact .inr ⟨a1, rfl, rfl⟩

theorem rc8_0 (args : List (PV sig)) (m : Mem sig) : (∀ (C : Tab) (ρ : Type) (K : Res sig × Mem sig → Option ρ), Rc8_0 C ρ args m K = none) ∨ ∃ (a1 : ByteArray), args = [.d (.str a1)] ∧ m = [] := by
  unfold Rc8_0
  refine uC_k fun x0 x1 e => ?_; subst e
  refine uStr_k fun a1 e => ?_; subst e
  refine u0_k fun e => ?_; subst e
  refine uE_k fun e => ?_; subst e
  exact .inr ⟨a1, rfl, rfl⟩

theorem rc9_0 (args : List (PV sig)) (m : Mem sig) : (∀ (C : Tab) (ρ : Type) (K : Res sig × Mem sig → Option ρ), Rc9_0 C ρ args m K = none) ∨ ∃ (a1 : ByteArray), args = [.d (.str a1)] ∧ m = [] := by
  unfold Rc9_0
  refine uC_k fun x0 x1 e => ?_; subst e
  refine uStr_k fun a1 e => ?_; subst e
  refine u0_k fun e => ?_; subst e
  refine uE_k fun e => ?_; subst e
  exact .inr ⟨a1, rfl, rfl⟩

theorem rc10_0 (args : List (PV sig)) (m : Mem sig) : (∀ (C : Tab) (ρ : Type) (K : Res sig × Mem sig → Option ρ), Rc10_0 C ρ args m K = none) ∨ ∃ (a1 : Rw) (a2 : Rw), args = [.agg [.d (.int .i64 a1.op), .d (.str a1.name), .d (.sl Key.raw a1.args)], .agg [.d (.int .i64 a2.op), .d (.str a2.name), .d (.sl Key.raw a2.args)]] ∧ m = [] := by
  unfold Rc10_0
  refine uC_k fun x0 x1 e => ?_; subst e
  refine uRw_k fun a1 e => ?_; subst e
  refine uC_k fun x2 x3 e => ?_; subst e
  refine uRw_k fun a2 e => ?_; subst e
  refine u0_k fun e => ?_; subst e
  refine uE_k fun e => ?_; subst e
  exact .inr ⟨a1, a2, rfl, rfl⟩

theorem rc11_0 (args : List (PV sig)) (m : Mem sig) : (∀ (C : Tab) (ρ : Type) (K : Res sig × Mem sig → Option ρ), Rc11_0 C ρ args m K = none) ∨ args = [] ∧ m = [] := by
  unfold Rc11_0
  refine u0_k fun e => ?_; subst e
  refine uE_k fun e => ?_; subst e
  exact .inr ⟨rfl, rfl⟩

theorem rc13_0 (args : List (PV sig)) (m : Mem sig) : (∀ (C : Tab) (ρ : Type) (K : Res sig × Mem sig → Option ρ), Rc13_0 C ρ args m K = none) ∨ ∃ (a1 : Rw), args = [.agg [.d (.int .i64 a1.op), .d (.str a1.name), .d (.sl Key.raw a1.args)]] ∧ m = [] := by
  unfold Rc13_0
  refine uC_k fun x0 x1 e => ?_; subst e
  refine uRw_k fun a1 e => ?_; subst e
  refine u0_k fun e => ?_; subst e
  refine uE_k fun e => ?_; subst e
  exact .inr ⟨a1, rfl, rfl⟩

theorem rc14_0 (args : List (PV sig)) (m : Mem sig) : (∀ (C : Tab) (ρ : Type) (K : Res sig × Mem sig → Option ρ), Rc14_0 C ρ args m K = none) ∨ ∃ (a1 : ByteArray), args = [.d (.str a1)] ∧ m = [] := by
  unfold Rc14_0
  refine uC_k fun x0 x1 e => ?_; subst e
  refine uStr_k fun a1 e => ?_; subst e
  refine u0_k fun e => ?_; subst e
  refine uE_k fun e => ?_; subst e
  exact .inr ⟨a1, rfl, rfl⟩

theorem rc28_0 (args : List (PV sig)) (m : Mem sig) : (∀ (C : Tab) (ρ : Type) (K : Res sig × Mem sig → Option ρ), Rc28_0 C ρ args m K = none) ∨ ∃ (a1 : ByteArray), args = [.d (.str a1)] ∧ m = [] := by
  unfold Rc28_0
  refine uC_k fun x0 x1 e => ?_; subst e
  refine uStr_k fun a1 e => ?_; subst e
  refine u0_k fun e => ?_; subst e
  refine uE_k fun e => ?_; subst e
  exact .inr ⟨a1, rfl, rfl⟩

theorem rc30_0 (args : List (PV sig)) (m : Mem sig) : (∀ (C : Tab) (ρ : Type) (K : Res sig × Mem sig → Option ρ), Rc30_0 C ρ args m K = none) ∨ ∃ (a1 : List Tok) (a2 : Int), args = [.ptr 0 0] ∧ m = [some [.d (.sl Key.tok a1), .d (.int .i64 a2)]] := by
  unfold Rc30_0
  refine uC_k fun x0 x1 e => ?_; subst e
  refine uP_k fun e => ?_; subst e
  refine u0_k fun e => ?_; subst e
  refine uM_k fun x3 x2 e => ?_; subst e
  refine uC_k fun x4 x5 e => ?_; subst e
  refine uS_k fun a1 e => ?_; subst e
  refine uC_k fun x6 x7 e => ?_; subst e
  refine uI_k fun a2 e => ?_; subst e
  refine u0_k fun e => ?_; subst e
  refine uE_k fun e => ?_; subst e
  exact .inr ⟨a1, a2, rfl, rfl⟩

theorem rc31_0 (args : List (PV sig)) (m : Mem sig) : (∀ (C : Tab) (ρ : Type) (K : Res sig × Mem sig → Option ρ), Rc31_0 C ρ args m K = none) ∨ ∃ (a1 : List Tok) (a2 : Int), args = [.ptr 0 0] ∧ m = [some [.d (.sl Key.tok a1), .d (.int .i64 a2)]] := by
  unfold Rc31_0
  refine uC_k fun x0 x1 e => ?_; subst e
  refine uP_k fun e => ?_; subst e
  refine u0_k fun e => ?_; subst e
  refine uM_k fun x3 x2 e => ?_; subst e
  refine uC_k fun x4 x5 e => ?_; subst e
  refine uS_k fun a1 e => ?_; subst e
  refine uC_k fun x6 x7 e => ?_; subst e
  refine uI_k fun a2 e => ?_; subst e
  refine u0_k fun e => ?_; subst e
  refine uE_k fun e => ?_; subst e
  exact .inr ⟨a1, a2, rfl, rfl⟩

theorem rc32_0 (args : List (PV sig)) (m : Mem sig) : (∀ (C : Tab) (ρ : Type) (K : Res sig × Mem sig → Option ρ), Rc32_0 C ρ args m K = none) ∨ ∃ (a1 : List Tok) (a2 : Int), args = [.ptr 0 0] ∧ m = [some [.d (.sl Key.tok a1), .d (.int .i64 a2)]] := by
  unfold Rc32_0
  refine uC_k fun x0 x1 e => ?_; subst e
  refine uP_k fun e => ?_; subst e
  refine u0_k fun e => ?_; subst e
  refine uM_k fun x3 x2 e => ?_; subst e
  refine uC_k fun x4 x5 e => ?_; subst e
  refine uS_k fun a1 e => ?_; subst e
  refine uC_k fun x6 x7 e => ?_; subst e
  refine uI_k fun a2 e => ?_; subst e
  refine u0_k fun e => ?_; subst e
  refine uE_k fun e => ?_; subst e
  exact .inr ⟨a1, a2, rfl, rfl⟩

theorem rc33_0 (args : List (PV sig)) (m : Mem sig) : (∀ (C : Tab) (ρ : Type) (K : Res sig × Mem sig → Option ρ), Rc33_0 C ρ args m K = none) ∨ ∃ (a1 : Rw), args = [.agg [.d (.int .i64 a1.op), .d (.str a1.name), .d (.sl Key.raw a1.args)]] ∧ m = [] := by
  unfold Rc33_0
  refine uC_k fun x0 x1 e => ?_; subst e
  refine uRw_k fun a1 e => ?_; subst e
  refine u0_k fun e => ?_; subst e
  refine uE_k fun e => ?_; subst e
  exact .inr ⟨a1, rfl, rfl⟩

theorem rc34_0 (args : List (PV sig)) (m : Mem sig) : (∀ (C : Tab) (ρ : Type) (K : Res sig × Mem sig → Option ρ), Rc34_0 C ρ args m K = none) ∨ ∃ (a1 : ByteArray), args = [.d (.str a1)] ∧ m = [] := by
  unfold Rc34_0
  refine uC_k fun x0 x1 e => ?_; subst e
  refine uStr_k fun a1 e => ?_; subst e
  refine u0_k fun e => ?_; subst e
  refine uE_k fun e => ?_; subst e
  exact .inr ⟨a1, rfl, rfl⟩

theorem rc35_0 (args : List (PV sig)) (m : Mem sig) : (∀ (C : Tab) (ρ : Type) (K : Res sig × Mem sig → Option ρ), Rc35_0 C ρ args m K = none) ∨ ∃ (a1 : List Tok) (a2 : Int) (a3 : Bool), args = [.ptr 0 0] ∧ m = [some [.d (.sl Key.tok a1), .d (.int .i64 a2), .d (.bool a3)]] := by
  unfold Rc35_0
  refine uC_k fun x0 x1 e => ?_; subst e
  refine uP_k fun e => ?_; subst e
  refine u0_k fun e => ?_; subst e
  refine uM_k fun x3 x2 e => ?_; subst e
  refine uC_k fun x4 x5 e => ?_; subst e
  refine uS_k fun a1 e => ?_; subst e
  refine uC_k fun x6 x7 e => ?_; subst e
  refine uI_k fun a2 e => ?_; subst e
  refine uC_k fun x8 x9 e => ?_; subst e
  refine uB_k fun a3 e => ?_; subst e
  refine u0_k fun e => ?_; subst e
  refine uE_k fun e => ?_; subst e
  exact .inr ⟨a1, a2, a3, rfl, rfl⟩

theorem rc36_0 (args : List (PV sig)) (m : Mem sig) : (∀ (C : Tab) (ρ : Type) (K : Res sig × Mem sig → Option ρ), Rc36_0 C ρ args m K = none) ∨ ∃ (a1 : List Tok) (a2 : Int) (a3 : Bool), args = [.ptr 0 0] ∧ m = [some [.d (.sl Key.tok a1), .d (.int .i64 a2), .d (.bool a3)]] := by
  unfold Rc36_0
  refine uC_k fun x0 x1 e => ?_; subst e
  refine uP_k fun e => ?_; subst e
  refine u0_k fun e => ?_; subst e
  refine uM_k fun x3 x2 e => ?_; subst e
  refine uC_k fun x4 x5 e => ?_; subst e
  refine uS_k fun a1 e => ?_; subst e
  refine uC_k fun x6 x7 e => ?_; subst e
  refine uI_k fun a2 e => ?_; subst e
  refine uC_k fun x8 x9 e => ?_; subst e
  refine uB_k fun a3 e => ?_; subst e
  refine u0_k fun e => ?_; subst e
  refine uE_k fun e => ?_; subst e
  exact .inr ⟨a1, a2, a3, rfl, rfl⟩

theorem rc37_0 (args : List (PV sig)) (m : Mem sig) : (∀ (C : Tab) (ρ : Type) (K : Res sig × Mem sig → Option ρ), Rc37_0 C ρ args m K = none) ∨ ∃ (a1 : Rw), args = [.agg [.d (.int .i64 a1.op), .d (.str a1.name), .d (.sl Key.raw a1.args)]] ∧ m = [] := by
  unfold Rc37_0
  refine uC_k fun x0 x1 e => ?_; subst e
  refine uRw_k fun a1 e => ?_; subst e
  refine u0_k fun e => ?_; subst e
  refine uE_k fun e => ?_; subst e
  exact .inr ⟨a1, rfl, rfl⟩

theorem rc38_0 (args : List (PV sig)) (m : Mem sig) : (∀ (C : Tab) (ρ : Type) (K : Res sig × Mem sig → Option ρ), Rc38_0 C ρ args m K = none) ∨ ∃ (a1 : ByteArray), args = [.d (.str a1)] ∧ m = [] := by
  unfold Rc38_0
  refine uC_k fun x0 x1 e => ?_; subst e
  refine uStr_k fun a1 e => ?_; subst e
  refine u0_k fun e => ?_; subst e
  refine uE_k fun e => ?_; subst e
  exact .inr ⟨a1, rfl, rfl⟩

theorem rc42_0 (args : List (PV sig)) (m : Mem sig) : (∀ (C : Tab) (ρ : Type) (K : Res sig × Mem sig → Option ρ), Rc42_0 C ρ args m K = none) ∨ ∃ (a1 : Rw) (a2 : Int), args = [.agg [.d (.int .i64 a1.op), .d (.str a1.name), .d (.sl Key.raw a1.args)], .d (.int .i64 a2)] ∧ m = [] := by
  unfold Rc42_0
  refine uC_k fun x0 x1 e => ?_; subst e
  refine uRw_k fun a1 e => ?_; subst e
  refine uC_k fun x2 x3 e => ?_; subst e
  refine uI_k fun a2 e => ?_; subst e
  refine u0_k fun e => ?_; subst e
  refine uE_k fun e => ?_; subst e
  exact .inr ⟨a1, a2, rfl, rfl⟩

theorem rc43_0 (args : List (PV sig)) (m : Mem sig) : (∀ (C : Tab) (ρ : Type) (K : Res sig × Mem sig → Option ρ), Rc43_0 C ρ args m K = none) ∨ ∃ (a1 : Rw) (a2 : Int), args = [.agg [.d (.int .i64 a1.op), .d (.str a1.name), .d (.sl Key.raw a1.args)], .d (.int .i64 a2)] ∧ m = [] := by
  unfold Rc43_0
  refine uC_k fun x0 x1 e => ?_; subst e
  refine uRw_k fun a1 e => ?_; subst e
  refine uC_k fun x2 x3 e => ?_; subst e
  refine uI_k fun a2 e => ?_; subst e
  refine u0_k fun e => ?_; subst e
  refine uE_k fun e => ?_; subst e
  exact .inr ⟨a1, a2, rfl, rfl⟩

theorem rc44_0 (args : List (PV sig)) (m : Mem sig) : (∀ (C : Tab) (ρ : Type) (K : Res sig × Mem sig → Option ρ), Rc44_0 C ρ args m K = none) ∨ ∃ (a1 : ByteArray), args = [.d (.str a1)] ∧ m = [] := by
  unfold Rc44_0
  refine uC_k fun x0 x1 e => ?_; subst e
  refine uStr_k fun a1 e => ?_; subst e
  refine u0_k fun e => ?_; subst e
  refine uE_k fun e => ?_; subst e
  exact .inr ⟨a1, rfl, rfl⟩

theorem rc54_0 (args : List (PV sig)) (m : Mem sig) : (∀ (C : Tab) (ρ : Type) (K : Res sig × Mem sig → Option ρ), Rc54_0 C ρ args m K = none) ∨ ∃ (a1 : ByteArray), args = [.d (.str a1)] ∧ m = [] := by
  unfold Rc54_0
  refine uC_k fun x0 x1 e => ?_; subst e
  refine uStr_k fun a1 e => ?_; subst e
  refine u0_k fun e => ?_; subst e
  refine uE_k fun e => ?_; subst e
  exact .inr ⟨a1, rfl, rfl⟩

theorem rc57_0 (args : List (PV sig)) (m : Mem sig) : (∀ (C : Tab) (ρ : Type) (K : Res sig × Mem sig → Option ρ), Rc57_0 C ρ args m K = none) ∨ ∃ (a1 : Rw) (a2 : List Int), args = [.agg [.d (.int .i64 a1.op), .d (.str a1.name), .d (.sl Key.raw a1.args)], .d (.sl Key.int a2)] ∧ m = [] := by
  unfold Rc57_0
  refine uC_k fun x0 x1 e => ?_; subst e
  refine uRw_k fun a1 e => ?_; subst e
  refine uC_k fun x2 x3 e => ?_; subst e
  refine uS_k fun a2 e => ?_; subst e
  refine u0_k fun e => ?_; subst e
  refine uE_k fun e => ?_; subst e
  exact .inr ⟨a1, a2, rfl, rfl⟩

theorem rc59_0 (args : List (PV sig)) (m : Mem sig) : (∀ (C : Tab) (ρ : Type) (K : Res sig × Mem sig → Option ρ), Rc59_0 C ρ args m K = none) ∨ ∃ (a1 : ByteArray), args = [.d (.str a1)] ∧ m = [] := by
  unfold Rc59_0
  refine uC_k fun x0 x1 e => ?_; subst e
  refine uStr_k fun a1 e => ?_; subst e
  refine u0_k fun e => ?_; subst e
  refine uE_k fun e => ?_; subst e
  exact .inr ⟨a1, rfl, rfl⟩

theorem rc65_0 (args : List (PV sig)) (m : Mem sig) : (∀ (C : Tab) (ρ : Type) (K : Res sig × Mem sig → Option ρ), Rc65_0 C ρ args m K = none) ∨ ∃ (a1 : ByteArray) (a2 : Int), args = [.ptr 0 0] ∧ m = [some [.d (.str a1), .d (.int .i64 a2)]] := by
  unfold Rc65_0
  refine uC_k fun x0 x1 e => ?_; subst e
  refine uP_k fun e => ?_; subst e
  refine u0_k fun e => ?_; subst e
  refine uM_k fun x3 x2 e => ?_; subst e
  refine uC_k fun x4 x5 e => ?_; subst e
  refine uStr_k fun a1 e => ?_; subst e
  refine uC_k fun x6 x7 e => ?_; subst e
  refine uI_k fun a2 e => ?_; subst e
  refine u0_k fun e => ?_; subst e
  refine uE_k fun e => ?_; subst e
  exact .inr ⟨a1, a2, rfl, rfl⟩

theorem rc66_0 (args : List (PV sig)) (m : Mem sig) : (∀ (C : Tab) (ρ : Type) (K : Res sig × Mem sig → Option ρ), Rc66_0 C ρ args m K = none) ∨ ∃ (a1 : Int), args = [.d (.int .u8 a1)] ∧ m = [] := by
  unfold Rc66_0
  refine uC_k fun x0 x1 e => ?_; subst e
  refine uI_k fun a1 e => ?_; subst e
  refine u0_k fun e => ?_; subst e
  refine uE_k fun e => ?_; subst e
  exact .inr ⟨a1, rfl, rfl⟩

theorem rc67_0 (args : List (PV sig)) (m : Mem sig) : (∀ (C : Tab) (ρ : Type) (K : Res sig × Mem sig → Option ρ), Rc67_0 C ρ args m K = none) ∨ ∃ (a1 : List ByteArray) (a2 : List Tok) (a3 : Int), args = [.ptr 0 0, .d (.sl Key.str a1)] ∧ m = [some [.d (.sl Key.tok a2), .d (.int .i64 a3)]] := by
  unfold Rc67_0
  refine uC_k fun x0 x1 e => ?_; subst e
  refine uP_k fun e => ?_; subst e
  refine uC_k fun x2 x3 e => ?_; subst e
  refine uS_k fun a1 e => ?_; subst e
  refine u0_k fun e => ?_; subst e
  refine uM_k fun x5 x4 e => ?_; subst e
  refine uC_k fun x6 x7 e => ?_; subst e
  refine uS_k fun a2 e => ?_; subst e
  refine uC_k fun x8 x9 e => ?_; subst e
  refine uI_k fun a3 e => ?_; subst e
  refine u0_k fun e => ?_; subst e
  refine uE_k fun e => ?_; subst e
  exact .inr ⟨a1, a2, a3, rfl, rfl⟩

theorem rc68_0 (args : List (PV sig)) (m : Mem sig) : (∀ (C : Tab) (ρ : Type) (K : Res sig × Mem sig → Option ρ), Rc68_0 C ρ args m K = none) ∨ ∃ (a1 : List Tok) (a2 : Int), args = [.ptr 0 0] ∧ m = [some [.d (.sl Key.tok a1), .d (.int .i64 a2)]] := by
  unfold Rc68_0
  refine uC_k fun x0 x1 e => ?_; subst e
  refine uP_k fun e => ?_; subst e
  refine u0_k fun e => ?_; subst e
  refine uM_k fun x3 x2 e => ?_; subst e
  refine uC_k fun x4 x5 e => ?_; subst e
  refine uS_k fun a1 e => ?_; subst e
  refine uC_k fun x6 x7 e => ?_; subst e
  refine uI_k fun a2 e => ?_; subst e
  refine u0_k fun e => ?_; subst e
  refine uE_k fun e => ?_; subst e
  exact .inr ⟨a1, a2, rfl, rfl⟩

theorem rc69_0 (args : List (PV sig)) (m : Mem sig) : (∀ (C : Tab) (ρ : Type) (K : Res sig × Mem sig → Option ρ), Rc69_0 C ρ args m K = none) ∨ ∃ (a1 : List Tok) (a2 : Int), args = [.ptr 0 0] ∧ m = [some [.d (.sl Key.tok a1), .d (.int .i64 a2)]] := by
  unfold Rc69_0
  refine uC_k fun x0 x1 e => ?_; subst e
  refine uP_k fun e => ?_; subst e
  refine u0_k fun e => ?_; subst e
  refine uM_k fun x3 x2 e => ?_; subst e
  refine uC_k fun x4 x5 e => ?_; subst e
  refine uS_k fun a1 e => ?_; subst e
  refine uC_k fun x6 x7 e => ?_; subst e
  refine uI_k fun a2 e => ?_; subst e
  refine u0_k fun e => ?_; subst e
  refine uE_k fun e => ?_; subst e
  exact .inr ⟨a1, a2, rfl, rfl⟩

theorem rc70_0 (args : List (PV sig)) (m : Mem sig) : (∀ (C : Tab) (ρ : Type) (K : Res sig × Mem sig → Option ρ), Rc70_0 C ρ args m K = none) ∨ ∃ (a1 : Rw) (a2 : Int) (a3 : Int), args = [.agg [.d (.int .i64 a1.op), .d (.str a1.name), .d (.sl Key.raw a1.args)], .d (.int .i64 a2), .ptr 0 0] ∧ m = [some [.d (.int .i64 a3)]] := by
  unfold Rc70_0
  refine uC_k fun x0 x1 e => ?_; subst e
  refine uRw_k fun a1 e => ?_; subst e
  refine uC_k fun x2 x3 e => ?_; subst e
  refine uI_k fun a2 e => ?_; subst e
  refine uC_k fun x4 x5 e => ?_; subst e
  refine uP_k fun e => ?_; subst e
  refine u0_k fun e => ?_; subst e
  refine uM_k fun x7 x6 e => ?_; subst e
  refine uC_k fun x8 x9 e => ?_; subst e
  refine uI_k fun a3 e => ?_; subst e
  refine u0_k fun e => ?_; subst e
  refine uE_k fun e => ?_; subst e
  exact .inr ⟨a1, a2, a3, rfl, rfl⟩

theorem rc71_0 (args : List (PV sig)) (m : Mem sig) : (∀ (C : Tab) (ρ : Type) (K : Res sig × Mem sig → Option ρ), Rc71_0 C ρ args m K = none) ∨ ∃ (a1 : ByteArray) (a2 : Int), args = [.d (.str a1), .d (.int .i64 a2)] ∧ m = [] := by
  unfold Rc71_0
  refine uC_k fun x0 x1 e => ?_; subst e
  refine uStr_k fun a1 e => ?_; subst e
  refine uC_k fun x2 x3 e => ?_; subst e
  refine uI_k fun a2 e => ?_; subst e
  refine u0_k fun e => ?_; subst e
  refine uE_k fun e => ?_; subst e
  exact .inr ⟨a1, a2, rfl, rfl⟩

theorem rc72_0 (args : List (PV sig)) (m : Mem sig) : (∀ (C : Tab) (ρ : Type) (K : Res sig × Mem sig → Option ρ), Rc72_0 C ρ args m K = none) ∨ ∃ (a1 : ByteArray) (a2 : Int), args = [.d (.str a1), .d (.int .i64 a2)] ∧ m = [] := by
  unfold Rc72_0
  refine uC_k fun x0 x1 e => ?_; subst e
  refine uStr_k fun a1 e => ?_; subst e
  refine uC_k fun x2 x3 e => ?_; subst e
  refine uI_k fun a2 e => ?_; subst e
  refine u0_k fun e => ?_; subst e
  refine uE_k fun e => ?_; subst e
  exact .inr ⟨a1, a2, rfl, rfl⟩

theorem rc73_0 (args : List (PV sig)) (m : Mem sig) : (∀ (C : Tab) (ρ : Type) (K : Res sig × Mem sig → Option ρ), Rc73_0 C ρ args m K = none) ∨ ∃ (a1 : List Tok) (a2 : Int) (a3 : Bool), args = [.ptr 0 0] ∧ m = [some [.d (.sl Key.tok a1), .d (.int .i64 a2), .d (.bool a3)]] := by
  unfold Rc73_0
  refine uC_k fun x0 x1 e => ?_; subst e
  refine uP_k fun e => ?_; subst e
  refine u0_k fun e => ?_; subst e
  refine uM_k fun x3 x2 e => ?_; subst e
  refine uC_k fun x4 x5 e => ?_; subst e
  refine uS_k fun a1 e => ?_; subst e
  refine uC_k fun x6 x7 e => ?_; subst e
  refine uI_k fun a2 e => ?_; subst e
  refine uC_k fun x8 x9 e => ?_; subst e
  refine uB_k fun a3 e => ?_; subst e
  refine u0_k fun e => ?_; subst e
  refine uE_k fun e => ?_; subst e
  exact .inr ⟨a1, a2, a3, rfl, rfl⟩

theorem rc74_0 (args : List (PV sig)) (m : Mem sig) : (∀ (C : Tab) (ρ : Type) (K : Res sig × Mem sig → Option ρ), Rc74_0 C ρ args m K = none) ∨ ∃ (a1 : List Tok) (a2 : Int) (a3 : Bool), args = [.ptr 0 0] ∧ m = [some [.d (.sl Key.tok a1), .d (.int .i64 a2), .d (.bool a3)]] := by
  unfold Rc74_0
  refine uC_k fun x0 x1 e => ?_; subst e
  refine uP_k fun e => ?_; subst e
  refine u0_k fun e => ?_; subst e
  refine uM_k fun x3 x2 e => ?_; subst e
  refine uC_k fun x4 x5 e => ?_; subst e
  refine uS_k fun a1 e => ?_; subst e
  refine uC_k fun x6 x7 e => ?_; subst e
  refine uI_k fun a2 e => ?_; subst e
  refine uC_k fun x8 x9 e => ?_; subst e
  refine uB_k fun a3 e => ?_; subst e
  refine u0_k fun e => ?_; subst e
  refine uE_k fun e => ?_; subst e
  exact .inr ⟨a1, a2, a3, rfl, rfl⟩

theorem rc75_0 (args : List (PV sig)) (m : Mem sig) : (∀ (C : Tab) (ρ : Type) (K : Res sig × Mem sig → Option ρ), Rc75_0 C ρ args m K = none) ∨ ∃ (a1 : List Tok) (a2 : Int) (a3 : Bool), args = [.ptr 0 0] ∧ m = [some [.d (.sl Key.tok a1), .d (.int .i64 a2), .d (.bool a3)]] := by
  unfold Rc75_0
  refine uC_k fun x0 x1 e => ?_; subst e
  refine uP_k fun e => ?_; subst e
  refine u0_k fun e => ?_; subst e
  refine uM_k fun x3 x2 e => ?_; subst e
  refine uC_k fun x4 x5 e => ?_; subst e
  refine uS_k fun a1 e => ?_; subst e
  refine uC_k fun x6 x7 e => ?_; subst e
  refine uI_k fun a2 e => ?_; subst e
  refine uC_k fun x8 x9 e => ?_; subst e
  refine uB_k fun a3 e => ?_; subst e
  refine u0_k fun e => ?_; subst e
  refine uE_k fun e => ?_; subst e
  exact .inr ⟨a1, a2, a3, rfl, rfl⟩

theorem rc76_0 (args : List (PV sig)) (m : Mem sig) : (∀ (C : Tab) (ρ : Type) (K : Res sig × Mem sig → Option ρ), Rc76_0 C ρ args m K = none) ∨ ∃ (a1 : ByteArray) (a2 : List Tok) (a3 : Int) (a4 : Bool), args = [.ptr 0 0, .d (.str a1)] ∧ m = [some [.d (.sl Key.tok a2), .d (.int .i64 a3), .d (.bool a4)]] := by
  unfold Rc76_0
  refine uC_k fun x0 x1 e => ?_; subst e
  refine uP_k fun e => ?_; subst e
  refine uC_k fun x2 x3 e => ?_; subst e
  refine uStr_k fun a1 e => ?_; subst e
  refine u0_k fun e => ?_; subst e
  refine uM_k fun x5 x4 e => ?_; subst e
  refine uC_k fun x6 x7 e => ?_; subst e
  refine uS_k fun a2 e => ?_; subst e
  refine uC_k fun x8 x9 e => ?_; subst e
  refine uI_k fun a3 e => ?_; subst e
  refine uC_k fun x10 x11 e => ?_; subst e
  refine uB_k fun a4 e => ?_; subst e
  refine u0_k fun e => ?_; subst e
  refine uE_k fun e => ?_; subst e
  exact .inr ⟨a1, a2, a3, a4, rfl, rfl⟩

theorem rc77_0 (args : List (PV sig)) (m : Mem sig) : (∀ (C : Tab) (ρ : Type) (K : Res sig × Mem sig → Option ρ), Rc77_0 C ρ args m K = none) ∨ ∃ (a1 : ByteArray), args = [.d (.str a1)] ∧ m = [] := by
  unfold Rc77_0
  refine uC_k fun x0 x1 e => ?_; subst e
  refine uStr_k fun a1 e => ?_; subst e
  refine u0_k fun e => ?_; subst e
  refine uE_k fun e => ?_; subst e
  exact .inr ⟨a1, rfl, rfl⟩

theorem rc78_0 (args : List (PV sig)) (m : Mem sig) : (∀ (C : Tab) (ρ : Type) (K : Res sig × Mem sig → Option ρ), Rc78_0 C ρ args m K = none) ∨ ∃ (a1 : List ByteArray) (a2 : ByteArray), args = [.d (.sl Key.str a1), .d (.str a2)] ∧ m = [] := by
  unfold Rc78_0
  refine uC_k fun x0 x1 e => ?_; subst e
  refine uS_k fun a1 e => ?_; subst e
  refine uC_k fun x2 x3 e => ?_; subst e
  refine uStr_k fun a2 e => ?_; subst e
  refine u0_k fun e => ?_; subst e
  refine uE_k fun e => ?_; subst e
  exact .inr ⟨a1, a2, rfl, rfl⟩

theorem rc82_0 (args : List (PV sig)) (m : Mem sig) : (∀ (C : Tab) (ρ : Type) (K : Res sig × Mem sig → Option ρ), Rc82_0 C ρ args m K = none) ∨ ∃ (a1 : Int), args = [.d (.int .u8 a1)] ∧ m = [] := by
  unfold Rc82_0
  refine uC_k fun x0 x1 e => ?_; subst e
  refine uI_k fun a1 e => ?_; subst e
  refine u0_k fun e => ?_; subst e
  refine uE_k fun e => ?_; subst e
  exact .inr ⟨a1, rfl, rfl⟩

theorem rc83_0 (args : List (PV sig)) (m : Mem sig) : (∀ (C : Tab) (ρ : Type) (K : Res sig × Mem sig → Option ρ), Rc83_0 C ρ args m K = none) ∨ ∃ (a1 : ByteArray) (a2 : Int), args = [.d (.str a1), .d (.int .i64 a2)] ∧ m = [] := by
  unfold Rc83_0
  refine uC_k fun x0 x1 e => ?_; subst e
  refine uStr_k fun a1 e => ?_; subst e
  refine uC_k fun x2 x3 e => ?_; subst e
  refine uI_k fun a2 e => ?_; subst e
  refine u0_k fun e => ?_; subst e
  refine uE_k fun e => ?_; subst e
  exact .inr ⟨a1, a2, rfl, rfl⟩

theorem rc89_0 (args : List (PV sig)) (m : Mem sig) : (∀ (C : Tab) (ρ : Type) (K : Res sig × Mem sig → Option ρ), Rc89_0 C ρ args m K = none) ∨ ∃ (a1 : List Tok) (a2 : Int) (a3 : Bool), args = [.ptr 0 0] ∧ m = [some [.d (.sl Key.tok a1), .d (.int .i64 a2), .d (.bool a3)]] := by
  unfold Rc89_0
  refine uC_k fun x0 x1 e => ?_; subst e
  refine uP_k fun e => ?_; subst e
  refine u0_k fun e => ?_; subst e
  refine uM_k fun x3 x2 e => ?_; subst e
  refine uC_k fun x4 x5 e => ?_; subst e
  refine uS_k fun a1 e => ?_; subst e
  refine uC_k fun x6 x7 e => ?_; subst e
  refine uI_k fun a2 e => ?_; subst e
  refine uC_k fun x8 x9 e => ?_; subst e
  refine uB_k fun a3 e => ?_; subst e
  refine u0_k fun e => ?_; subst e
  refine uE_k fun e => ?_; subst e
  exact .inr ⟨a1, a2, a3, rfl, rfl⟩

theorem rc90_0 (args : List (PV sig)) (m : Mem sig) : (∀ (C : Tab) (ρ : Type) (K : Res sig × Mem sig → Option ρ), Rc90_0 C ρ args m K = none) ∨ ∃ (a1 : ByteArray) (a2 : List Tok) (a3 : Int) (a4 : Bool), args = [.ptr 0 0, .d (.str a1)] ∧ m = [some [.d (.sl Key.tok a2), .d (.int .i64 a3), .d (.bool a4)]] := by
  unfold Rc90_0
  refine uC_k fun x0 x1 e => ?_; subst e
  refine uP_k fun e => ?_; subst e
  refine uC_k fun x2 x3 e => ?_; subst e
  refine uStr_k fun a1 e => ?_; subst e
  refine u0_k fun e => ?_; subst e
  refine uM_k fun x5 x4 e => ?_; subst e
  refine uC_k fun x6 x7 e => ?_; subst e
  refine uS_k fun a2 e => ?_; subst e
  refine uC_k fun x8 x9 e => ?_; subst e
  refine uI_k fun a3 e => ?_; subst e
  refine uC_k fun x10 x11 e => ?_; subst e
  refine uB_k fun a4 e => ?_; subst e
  refine u0_k fun e => ?_; subst e
  refine uE_k fun e => ?_; subst e
  exact .inr ⟨a1, a2, a3, a4, rfl, rfl⟩

theorem rc92_0 (args : List (PV sig)) (m : Mem sig) : (∀ (C : Tab) (ρ : Type) (K : Res sig × Mem sig → Option ρ), Rc92_0 C ρ args m K = none) ∨ ∃ (a1 : ByteArray), args = [.d (.str a1), .fn (.func 93) [] []] ∧ m = [] := by
  unfold Rc92_0
  refine uC_k fun x0 x1 e => ?_; subst e
  refine uStr_k fun a1 e => ?_; subst e
  refine uC_k fun x2 x3 e => ?_; subst e
  refine uFn_k fun x4 x5 e => ?_; subst e
  refine u0_k fun e => ?_; subst e
  refine u0_k fun e => ?_; subst e
  refine u0_k fun e => ?_; subst e
  refine uE_k fun e => ?_; subst e
  exact .inr ⟨a1, rfl, rfl⟩

theorem rc92_1 (args : List (PV sig)) (m : Mem sig) : (∀ (C : Tab) (ρ : Type) (K : Res sig × Mem sig → Option ρ), Rc92_1 C ρ args m K = none) ∨ ∃ (a1 : ByteArray), args = [.d (.str a1), .fn (.func 107) [] []] ∧ m = [] := by
  unfold Rc92_1
  refine uC_k fun x0 x1 e => ?_; subst e
  refine uStr_k fun a1 e => ?_; subst e
  refine uC_k fun x2 x3 e => ?_; subst e
  refine uFn_k fun x4 x5 e => ?_; subst e
  refine u0_k fun e => ?_; subst e
  refine u0_k fun e => ?_; subst e
  refine u0_k fun e => ?_; subst e
  refine uE_k fun e => ?_; subst e
  exact .inr ⟨a1, rfl, rfl⟩

theorem rc93_0 (args : List (PV sig)) (m : Mem sig) : (∀ (C : Tab) (ρ : Type) (K : Res sig × Mem sig → Option ρ), Rc93_0 C ρ args m K = none) ∨ ∃ (a1 : Int), args = [.d (.int .u8 a1)] ∧ m = [] := by
  unfold Rc93_0
  refine uC_k fun x0 x1 e => ?_; subst e
  refine uI_k fun a1 e => ?_; subst e
  refine u0_k fun e => ?_; subst e
  refine uE_k fun e => ?_; subst e
  exact .inr ⟨a1, rfl, rfl⟩

theorem rc94_0 (args : List (PV sig)) (m : Mem sig) : (∀ (C : Tab) (ρ : Type) (K : Res sig × Mem sig → Option ρ), Rc94_0 C ρ args m K = none) ∨ ∃ (a1 : List Int) (a2 : Int), args = [.d (.sl Key.int a1), .d (.int .i64 a2)] ∧ m = [] := by
  unfold Rc94_0
  refine uC_k fun x0 x1 e => ?_; subst e
  refine uS_k fun a1 e => ?_; subst e
  refine uC_k fun x2 x3 e => ?_; subst e
  refine uI_k fun a2 e => ?_; subst e
  refine u0_k fun e => ?_; subst e
  refine uE_k fun e => ?_; subst e
  exact .inr ⟨a1, a2, rfl, rfl⟩

theorem rc95_0 (args : List (PV sig)) (m : Mem sig) : (∀ (C : Tab) (ρ : Type) (K : Res sig × Mem sig → Option ρ), Rc95_0 C ρ args m K = none) ∨ ∃ (a1 : Int), args = [.d (.int .i64 a1)] ∧ m = [] := by
  unfold Rc95_0
  refine uC_k fun x0 x1 e => ?_; subst e
  refine uI_k fun a1 e => ?_; subst e
  refine u0_k fun e => ?_; subst e
  refine uE_k fun e => ?_; subst e
  exact .inr ⟨a1, rfl, rfl⟩

theorem rc97_0 (args : List (PV sig)) (m : Mem sig) : (∀ (C : Tab) (ρ : Type) (K : Res sig × Mem sig → Option ρ), Rc97_0 C ρ args m K = none) ∨ ∃ (a1 : Int), args = [.d (.int .u8 a1)] ∧ m = [] := by
  unfold Rc97_0
  refine uC_k fun x0 x1 e => ?_; subst e
  refine uI_k fun a1 e => ?_; subst e
  refine u0_k fun e => ?_; subst e
  refine uE_k fun e => ?_; subst e
  exact .inr ⟨a1, rfl, rfl⟩

theorem rc102_0 (args : List (PV sig)) (m : Mem sig) : (∀ (C : Tab) (ρ : Type) (K : Res sig × Mem sig → Option ρ), Rc102_0 C ρ args m K = none) ∨ ∃ (a1 : Int) (a2 : ByteArray) (a3 : Int), args = [.ptr 0 0, .d (.int .i64 a1)] ∧ m = [some [.d (.str a2), .d (.int .i64 a3)]] := by
  unfold Rc102_0
  refine uC_k fun x0 x1 e => ?_; subst e
  refine uP_k fun e => ?_; subst e
  refine uC_k fun x2 x3 e => ?_; subst e
  refine uI_k fun a1 e => ?_; subst e
  refine u0_k fun e => ?_; subst e
  refine uM_k fun x5 x4 e => ?_; subst e
  refine uC_k fun x6 x7 e => ?_; subst e
  refine uStr_k fun a2 e => ?_; subst e
  refine uC_k fun x8 x9 e => ?_; subst e
  refine uI_k fun a3 e => ?_; subst e
  refine u0_k fun e => ?_; subst e
  refine uE_k fun e => ?_; subst e
  exact .inr ⟨a1, a2, a3, rfl, rfl⟩

theorem rc103_0 (args : List (PV sig)) (m : Mem sig) : (∀ (C : Tab) (ρ : Type) (K : Res sig × Mem sig → Option ρ), Rc103_0 C ρ args m K = none) ∨ ∃ (a1 : ByteArray) (a2 : Int), args = [.d (.str a1), .d (.int .u8 a2)] ∧ m = [] := by
  unfold Rc103_0
  refine uC_k fun x0 x1 e => ?_; subst e
  refine uStr_k fun a1 e => ?_; subst e
  refine uC_k fun x2 x3 e => ?_; subst e
  refine uI_k fun a2 e => ?_; subst e
  refine u0_k fun e => ?_; subst e
  refine uE_k fun e => ?_; subst e
  exact .inr ⟨a1, a2, rfl, rfl⟩

theorem rc104_0 (args : List (PV sig)) (m : Mem sig) : (∀ (C : Tab) (ρ : Type) (K : Res sig × Mem sig → Option ρ), Rc104_0 C ρ args m K = none) ∨ ∃ (a1 : Int) (a2 : ByteArray) (a3 : Bool), args = [.d (.int .i64 a1), .d (.str a2), .d (.bool a3)] ∧ m = [] := by
  unfold Rc104_0
  refine uC_k fun x0 x1 e => ?_; subst e
  refine uI_k fun a1 e => ?_; subst e
  refine uC_k fun x2 x3 e => ?_; subst e
  refine uStr_k fun a2 e => ?_; subst e
  refine uC_k fun x4 x5 e => ?_; subst e
  refine uB_k fun a3 e => ?_; subst e
  refine u0_k fun e => ?_; subst e
  refine uE_k fun e => ?_; subst e
  exact .inr ⟨a1, a2, a3, rfl, rfl⟩

theorem rc105_0 (args : List (PV sig)) (m : Mem sig) : (∀ (C : Tab) (ρ : Type) (K : Res sig × Mem sig → Option ρ), Rc105_0 C ρ args m K = none) ∨ ∃ (a1 : ByteArray) (a2 : Int), args = [.ptr 0 0, .ptr 1 0] ∧ m = [some [.d (.str a1), .d (.int .i64 a2)], some [.fn (.func 104) [] []]] := by
  unfold Rc105_0
  refine uC_k fun x0 x1 e => ?_; subst e
  refine uP_k fun e => ?_; subst e
  refine uC_k fun x2 x3 e => ?_; subst e
  refine uP_k fun e => ?_; subst e
  refine u0_k fun e => ?_; subst e
  refine uM_k fun x5 x4 e => ?_; subst e
  refine uC_k fun x6 x7 e => ?_; subst e
  refine uStr_k fun a1 e => ?_; subst e
  refine uC_k fun x8 x9 e => ?_; subst e
  refine uI_k fun a2 e => ?_; subst e
  refine u0_k fun e => ?_; subst e
  refine uM_k fun x11 x10 e => ?_; subst e
  refine uC_k fun x12 x13 e => ?_; subst e
  refine uFn_k fun x14 x15 e => ?_; subst e
  refine u0_k fun e => ?_; subst e
  refine u0_k fun e => ?_; subst e
  refine u0_k fun e => ?_; subst e
  refine uE_k fun e => ?_; subst e
  exact .inr ⟨a1, a2, rfl, rfl⟩

theorem rc106_0 (args : List (PV sig)) (m : Mem sig) : (∀ (C : Tab) (ρ : Type) (K : Res sig × Mem sig → Option ρ), Rc106_0 C ρ args m K = none) ∨ ∃ (a1 : Int) (a2 : ByteArray) (a3 : Int), args = [.ptr 0 0, .d (.int .i64 a1)] ∧ m = [some [.d (.str a2), .d (.int .i64 a3)]] := by
  unfold Rc106_0
  refine uC_k fun x0 x1 e => ?_; subst e
  refine uP_k fun e => ?_; subst e
  refine uC_k fun x2 x3 e => ?_; subst e
  refine uI_k fun a1 e => ?_; subst e
  refine u0_k fun e => ?_; subst e
  refine uM_k fun x5 x4 e => ?_; subst e
  refine uC_k fun x6 x7 e => ?_; subst e
  refine uStr_k fun a2 e => ?_; subst e
  refine uC_k fun x8 x9 e => ?_; subst e
  refine uI_k fun a3 e => ?_; subst e
  refine u0_k fun e => ?_; subst e
  refine uE_k fun e => ?_; subst e
  exact .inr ⟨a1, a2, a3, rfl, rfl⟩

theorem rc107_0 (args : List (PV sig)) (m : Mem sig) : (∀ (C : Tab) (ρ : Type) (K : Res sig × Mem sig → Option ρ), Rc107_0 C ρ args m K = none) ∨ ∃ (a1 : Int), args = [.d (.int .u8 a1)] ∧ m = [] := by
  unfold Rc107_0
  refine uC_k fun x0 x1 e => ?_; subst e
  refine uI_k fun a1 e => ?_; subst e
  refine u0_k fun e => ?_; subst e
  refine uE_k fun e => ?_; subst e
  exact .inr ⟨a1, rfl, rfl⟩

theorem rc108_0 (args : List (PV sig)) (m : Mem sig) : (∀ (C : Tab) (ρ : Type) (K : Res sig × Mem sig → Option ρ), Rc108_0 C ρ args m K = none) ∨ ∃ (a1 : ByteArray) (a2 : Int), args = [.ptr 0 0, .ptr 1 0] ∧ m = [some [.d (.str a1), .d (.int .i64 a2)], some [.fn (.func 104) [] []]] := by
  unfold Rc108_0
  refine uC_k fun x0 x1 e => ?_; subst e
  refine uP_k fun e => ?_; subst e
  refine uC_k fun x2 x3 e => ?_; subst e
  refine uP_k fun e => ?_; subst e
  refine u0_k fun e => ?_; subst e
  refine uM_k fun x5 x4 e => ?_; subst e
  refine uC_k fun x6 x7 e => ?_; subst e
  refine uStr_k fun a1 e => ?_; subst e
  refine uC_k fun x8 x9 e => ?_; subst e
  refine uI_k fun a2 e => ?_; subst e
  refine u0_k fun e => ?_; subst e
  refine uM_k fun x11 x10 e => ?_; subst e
  refine uC_k fun x12 x13 e => ?_; subst e
  refine uFn_k fun x14 x15 e => ?_; subst e
  refine u0_k fun e => ?_; subst e
  refine u0_k fun e => ?_; subst e
  refine u0_k fun e => ?_; subst e
  refine uE_k fun e => ?_; subst e
  exact .inr ⟨a1, a2, rfl, rfl⟩

theorem rc109_0 (args : List (PV sig)) (m : Mem sig) : (∀ (C : Tab) (ρ : Type) (K : Res sig × Mem sig → Option ρ), Rc109_0 C ρ args m K = none) ∨ ∃ (a1 : Int), args = [.d (.int .u8 a1)] ∧ m = [] := by
  unfold Rc109_0
  refine uC_k fun x0 x1 e => ?_; subst e
  refine uI_k fun a1 e => ?_; subst e
  refine u0_k fun e => ?_; subst e
  refine uE_k fun e => ?_; subst e
  exact .inr ⟨a1, rfl, rfl⟩

theorem rc110_0 (args : List (PV sig)) (m : Mem sig) : (∀ (C : Tab) (ρ : Type) (K : Res sig × Mem sig → Option ρ), Rc110_0 C ρ args m K = none) ∨ ∃ (a1 : ByteArray) (a2 : Int), args = [.ptr 0 0, .ptr 1 0] ∧ m = [some [.d (.str a1), .d (.int .i64 a2)], some [.fn (.func 104) [] []]] := by
  unfold Rc110_0
  refine uC_k fun x0 x1 e => ?_; subst e
  refine uP_k fun e => ?_; subst e
  refine uC_k fun x2 x3 e => ?_; subst e
  refine uP_k fun e => ?_; subst e
  refine u0_k fun e => ?_; subst e
  refine uM_k fun x5 x4 e => ?_; subst e
  refine uC_k fun x6 x7 e => ?_; subst e
  refine uStr_k fun a1 e => ?_; subst e
  refine uC_k fun x8 x9 e => ?_; subst e
  refine uI_k fun a2 e => ?_; subst e
  refine u0_k fun e => ?_; subst e
  refine uM_k fun x11 x10 e => ?_; subst e
  refine uC_k fun x12 x13 e => ?_; subst e
  refine uFn_k fun x14 x15 e => ?_; subst e
  refine u0_k fun e => ?_; subst e
  refine u0_k fun e => ?_; subst e
  refine u0_k fun e => ?_; subst e
  refine uE_k fun e => ?_; subst e
  exact .inr ⟨a1, a2, rfl, rfl⟩

theorem rc111_0 (args : List (PV sig)) (m : Mem sig) : (∀ (C : Tab) (ρ : Type) (K : Res sig × Mem sig → Option ρ), Rc111_0 C ρ args m K = none) ∨ ∃ (a1 : ByteArray), args = [.d (.str a1)] ∧ m = [] := by
  unfold Rc111_0
  refine uC_k fun x0 x1 e => ?_; subst e
  refine uStr_k fun a1 e => ?_; subst e
  refine u0_k fun e => ?_; subst e
  refine uE_k fun e => ?_; subst e
  exact .inr ⟨a1, rfl, rfl⟩

theorem rc112_0 (args : List (PV sig)) (m : Mem sig) : (∀ (C : Tab) (ρ : Type) (K : Res sig × Mem sig → Option ρ), Rc112_0 C ρ args m K = none) ∨ ∃ (a1 : ByteArray) (a2 : Int), args = [.ptr 0 0, .ptr 1 0] ∧ m = [some [.d (.str a1), .d (.int .i64 a2)], some [.fn (.func 104) [] []]] := by
  unfold Rc112_0
  refine uC_k fun x0 x1 e => ?_; subst e
  refine uP_k fun e => ?_; subst e
  refine uC_k fun x2 x3 e => ?_; subst e
  refine uP_k fun e => ?_; subst e
  refine u0_k fun e => ?_; subst e
  refine uM_k fun x5 x4 e => ?_; subst e
  refine uC_k fun x6 x7 e => ?_; subst e
  refine uStr_k fun a1 e => ?_; subst e
  refine uC_k fun x8 x9 e => ?_; subst e
  refine uI_k fun a2 e => ?_; subst e
  refine u0_k fun e => ?_; subst e
  refine uM_k fun x11 x10 e => ?_; subst e
  refine uC_k fun x12 x13 e => ?_; subst e
  refine uFn_k fun x14 x15 e => ?_; subst e
  refine u0_k fun e => ?_; subst e
  refine u0_k fun e => ?_; subst e
  refine u0_k fun e => ?_; subst e
  refine uE_k fun e => ?_; subst e
  exact .inr ⟨a1, a2, rfl, rfl⟩

theorem rc113_0 (args : List (PV sig)) (m : Mem sig) : (∀ (C : Tab) (ρ : Type) (K : Res sig × Mem sig → Option ρ), Rc113_0 C ρ args m K = none) ∨ ∃ (a1 : ByteArray) (a2 : Int), args = [.ptr 0 0, .ptr 1 0] ∧ m = [some [.d (.str a1), .d (.int .i64 a2)], some [.fn (.func 104) [] []]] := by
  unfold Rc113_0
  refine uC_k fun x0 x1 e => ?_; subst e
  refine uP_k fun e => ?_; subst e
  refine uC_k fun x2 x3 e => ?_; subst e
  refine uP_k fun e => ?_; subst e
  refine u0_k fun e => ?_; subst e
  refine uM_k fun x5 x4 e => ?_; subst e
  refine uC_k fun x6 x7 e => ?_; subst e
  refine uStr_k fun a1 e => ?_; subst e
  refine uC_k fun x8 x9 e => ?_; subst e
  refine uI_k fun a2 e => ?_; subst e
  refine u0_k fun e => ?_; subst e
  refine uM_k fun x11 x10 e => ?_; subst e
  refine uC_k fun x12 x13 e => ?_; subst e
  refine uFn_k fun x14 x15 e => ?_; subst e
  refine u0_k fun e => ?_; subst e
  refine u0_k fun e => ?_; subst e
  refine u0_k fun e => ?_; subst e
  refine uE_k fun e => ?_; subst e
  exact .inr ⟨a1, a2, rfl, rfl⟩

theorem rc114_0 (args : List (PV sig)) (m : Mem sig) : (∀ (C : Tab) (ρ : Type) (K : Res sig × Mem sig → Option ρ), Rc114_0 C ρ args m K = none) ∨ ∃ (a1 : ByteArray) (a2 : Int), args = [.ptr 0 0] ∧ m = [some [.d (.str a1), .d (.int .i64 a2)]] := by
  unfold Rc114_0
  refine uC_k fun x0 x1 e => ?_; subst e
  refine uP_k fun e => ?_; subst e
  refine u0_k fun e => ?_; subst e
  refine uM_k fun x3 x2 e => ?_; subst e
  refine uC_k fun x4 x5 e => ?_; subst e
  refine uStr_k fun a1 e => ?_; subst e
  refine uC_k fun x6 x7 e => ?_; subst e
  refine uI_k fun a2 e => ?_; subst e
  refine u0_k fun e => ?_; subst e
  refine uE_k fun e => ?_; subst e
  exact .inr ⟨a1, a2, rfl, rfl⟩

theorem rc115_0 (args : List (PV sig)) (m : Mem sig) : (∀ (C : Tab) (ρ : Type) (K : Res sig × Mem sig → Option ρ), Rc115_0 C ρ args m K = none) ∨ ∃ (a1 : ByteArray) (a2 : Int), args = [.ptr 0 0, .ptr 1 0] ∧ m = [some [.d (.str a1), .d (.int .i64 a2)], some [.fn (.func 104) [] []]] := by
  unfold Rc115_0
  refine uC_k fun x0 x1 e => ?_; subst e
  refine uP_k fun e => ?_; subst e
  refine uC_k fun x2 x3 e => ?_; subst e
  refine uP_k fun e => ?_; subst e
  refine u0_k fun e => ?_; subst e
  refine uM_k fun x5 x4 e => ?_; subst e
  refine uC_k fun x6 x7 e => ?_; subst e
  refine uStr_k fun a1 e => ?_; subst e
  refine uC_k fun x8 x9 e => ?_; subst e
  refine uI_k fun a2 e => ?_; subst e
  refine u0_k fun e => ?_; subst e
  refine uM_k fun x11 x10 e => ?_; subst e
  refine uC_k fun x12 x13 e => ?_; subst e
  refine uFn_k fun x14 x15 e => ?_; subst e
  refine u0_k fun e => ?_; subst e
  refine u0_k fun e => ?_; subst e
  refine u0_k fun e => ?_; subst e
  refine uE_k fun e => ?_; subst e
  exact .inr ⟨a1, a2, rfl, rfl⟩

theorem rc116_0 (args : List (PV sig)) (m : Mem sig) : (∀ (C : Tab) (ρ : Type) (K : Res sig × Mem sig → Option ρ), Rc116_0 C ρ args m K = none) ∨ ∃ (a1 : ByteArray) (a2 : Int) (a3 : Int), args = [.ptr 0 0, .ptr 1 0, .ptr 2 0] ∧ m = [some [.d (.str a1), .d (.int .i64 a2)], some [.fn (.func 104) [] []], some [.d (.int .u8 a3)]] := by
  unfold Rc116_0
  refine uC_k fun x0 x1 e => ?_; subst e
  refine uP_k fun e => ?_; subst e
  refine uC_k fun x2 x3 e => ?_; subst e
  refine uP_k fun e => ?_; subst e
  refine uC_k fun x4 x5 e => ?_; subst e
  refine uP_k fun e => ?_; subst e
  refine u0_k fun e => ?_; subst e
  refine uM_k fun x7 x6 e => ?_; subst e
  refine uC_k fun x8 x9 e => ?_; subst e
  refine uStr_k fun a1 e => ?_; subst e
  refine uC_k fun x10 x11 e => ?_; subst e
  refine uI_k fun a2 e => ?_; subst e
  refine u0_k fun e => ?_; subst e
  refine uM_k fun x13 x12 e => ?_; subst e
  refine uC_k fun x14 x15 e => ?_; subst e
  refine uFn_k fun x16 x17 e => ?_; subst e
  refine u0_k fun e => ?_; subst e
  refine u0_k fun e => ?_; subst e
  refine u0_k fun e => ?_; subst e
  refine uM_k fun x19 x18 e => ?_; subst e
  refine uC_k fun x20 x21 e => ?_; subst e
  refine uI_k fun a3 e => ?_; subst e
  refine u0_k fun e => ?_; subst e
  refine uE_k fun e => ?_; subst e
  exact .inr ⟨a1, a2, a3, rfl, rfl⟩

theorem rc117_0 (args : List (PV sig)) (m : Mem sig) : (∀ (C : Tab) (ρ : Type) (K : Res sig × Mem sig → Option ρ), Rc117_0 C ρ args m K = none) ∨ ∃ (a1 : List Tok) (a2 : Int), args = [.ptr 0 0] ∧ m = [some [.d (.sl Key.tok a1), .d (.int .i64 a2)]] := by
  unfold Rc117_0
  refine uC_k fun x0 x1 e => ?_; subst e
  refine uP_k fun e => ?_; subst e
  refine u0_k fun e => ?_; subst e
  refine uM_k fun x3 x2 e => ?_; subst e
  refine uC_k fun x4 x5 e => ?_; subst e
  refine uS_k fun a1 e => ?_; subst e
  refine uC_k fun x6 x7 e => ?_; subst e
  refine uI_k fun a2 e => ?_; subst e
  refine u0_k fun e => ?_; subst e
  refine uE_k fun e => ?_; subst e
  exact .inr ⟨a1, a2, rfl, rfl⟩

theorem rc118_0 (args : List (PV sig)) (m : Mem sig) : (∀ (C : Tab) (ρ : Type) (K : Res sig × Mem sig → Option ρ), Rc118_0 C ρ args m K = none) ∨ ∃ (a1 : ByteArray) (a2 : List Tok) (a3 : Int), args = [.ptr 0 0, .d (.str a1)] ∧ m = [some [.d (.sl Key.tok a2), .d (.int .i64 a3)]] := by
  unfold Rc118_0
  refine uC_k fun x0 x1 e => ?_; subst e
  refine uP_k fun e => ?_; subst e
  refine uC_k fun x2 x3 e => ?_; subst e
  refine uStr_k fun a1 e => ?_; subst e
  refine u0_k fun e => ?_; subst e
  refine uM_k fun x5 x4 e => ?_; subst e
  refine uC_k fun x6 x7 e => ?_; subst e
  refine uS_k fun a2 e => ?_; subst e
  refine uC_k fun x8 x9 e => ?_; subst e
  refine uI_k fun a3 e => ?_; subst e
  refine u0_k fun e => ?_; subst e
  refine uE_k fun e => ?_; subst e
  exact .inr ⟨a1, a2, a3, rfl, rfl⟩

theorem rc119_0 (args : List (PV sig)) (m : Mem sig) : (∀ (C : Tab) (ρ : Type) (K : Res sig × Mem sig → Option ρ), Rc119_0 C ρ args m K = none) ∨ ∃ (a1 : List Tok) (a2 : Int), args = [.ptr 0 0] ∧ m = [some [.d (.sl Key.tok a1), .d (.int .i64 a2)]] := by
  unfold Rc119_0
  refine uC_k fun x0 x1 e => ?_; subst e
  refine uP_k fun e => ?_; subst e
  refine u0_k fun e => ?_; subst e
  refine uM_k fun x3 x2 e => ?_; subst e
  refine uC_k fun x4 x5 e => ?_; subst e
  refine uS_k fun a1 e => ?_; subst e
  refine uC_k fun x6 x7 e => ?_; subst e
  refine uI_k fun a2 e => ?_; subst e
  refine u0_k fun e => ?_; subst e
  refine uE_k fun e => ?_; subst e
  exact .inr ⟨a1, a2, rfl, rfl⟩

theorem rc120_0 (args : List (PV sig)) (m : Mem sig) : (∀ (C : Tab) (ρ : Type) (K : Res sig × Mem sig → Option ρ), Rc120_0 C ρ args m K = none) ∨ ∃ (a1 : List Tok) (a2 : Int), args = [.ptr 0 0] ∧ m = [some [.d (.sl Key.tok a1), .d (.int .i64 a2)]] := by
  unfold Rc120_0
  refine uC_k fun x0 x1 e => ?_; subst e
  refine uP_k fun e => ?_; subst e
  refine u0_k fun e => ?_; subst e
  refine uM_k fun x3 x2 e => ?_; subst e
  refine uC_k fun x4 x5 e => ?_; subst e
  refine uS_k fun a1 e => ?_; subst e
  refine uC_k fun x6 x7 e => ?_; subst e
  refine uI_k fun a2 e => ?_; subst e
  refine u0_k fun e => ?_; subst e
  refine uE_k fun e => ?_; subst e
  exact .inr ⟨a1, a2, rfl, rfl⟩

theorem rc121_0 (args : List (PV sig)) (m : Mem sig) : (∀ (C : Tab) (ρ : Type) (K : Res sig × Mem sig → Option ρ), Rc121_0 C ρ args m K = none) ∨ ∃ (a1 : ByteArray) (a2 : Int), args = [.d (.str a1), .d (.int .i64 a2)] ∧ m = [] := by
  unfold Rc121_0
  refine uC_k fun x0 x1 e => ?_; subst e
  refine uStr_k fun a1 e => ?_; subst e
  refine uC_k fun x2 x3 e => ?_; subst e
  refine uI_k fun a2 e => ?_; subst e
  refine u0_k fun e => ?_; subst e
  refine uE_k fun e => ?_; subst e
  exact .inr ⟨a1, a2, rfl, rfl⟩

theorem rc122_0 (args : List (PV sig)) (m : Mem sig) : (∀ (C : Tab) (ρ : Type) (K : Res sig × Mem sig → Option ρ), Rc122_0 C ρ args m K = none) ∨ ∃ (a1 : ByteArray), args = [.d (.str a1)] ∧ m = [] := by
  unfold Rc122_0
  refine uC_k fun x0 x1 e => ?_; subst e
  refine uStr_k fun a1 e => ?_; subst e
  refine u0_k fun e => ?_; subst e
  refine uE_k fun e => ?_; subst e
  exact .inr ⟨a1, rfl, rfl⟩

theorem rc123_0 (args : List (PV sig)) (m : Mem sig) : (∀ (C : Tab) (ρ : Type) (K : Res sig × Mem sig → Option ρ), Rc123_0 C ρ args m K = none) ∨ ∃ (a1 : ByteArray) (a2 : Int), args = [.d (.str a1), .d (.int .i64 a2)] ∧ m = [] := by
  unfold Rc123_0
  refine uC_k fun x0 x1 e => ?_; subst e
  refine uStr_k fun a1 e => ?_; subst e
  refine uC_k fun x2 x3 e => ?_; subst e
  refine uI_k fun a2 e => ?_; subst e
  refine u0_k fun e => ?_; subst e
  refine uE_k fun e => ?_; subst e
  exact .inr ⟨a1, a2, rfl, rfl⟩

theorem rc124_0 (args : List (PV sig)) (m : Mem sig) : (∀ (C : Tab) (ρ : Type) (K : Res sig × Mem sig → Option ρ), Rc124_0 C ρ args m K = none) ∨ ∃ (a1 : List Tok) (a2 : Int) (a3 : Bool), args = [.ptr 0 0] ∧ m = [some [.d (.sl Key.tok a1), .d (.int .i64 a2), .d (.bool a3)]] := by
  unfold Rc124_0
  refine uC_k fun x0 x1 e => ?_; subst e
  refine uP_k fun e => ?_; subst e
  refine u0_k fun e => ?_; subst e
  refine uM_k fun x3 x2 e => ?_; subst e
  refine uC_k fun x4 x5 e => ?_; subst e
  refine uS_k fun a1 e => ?_; subst e
  refine uC_k fun x6 x7 e => ?_; subst e
  refine uI_k fun a2 e => ?_; subst e
  refine uC_k fun x8 x9 e => ?_; subst e
  refine uB_k fun a3 e => ?_; subst e
  refine u0_k fun e => ?_; subst e
  refine uE_k fun e => ?_; subst e
  exact .inr ⟨a1, a2, a3, rfl, rfl⟩

theorem rc125_0 (args : List (PV sig)) (m : Mem sig) : (∀ (C : Tab) (ρ : Type) (K : Res sig × Mem sig → Option ρ), Rc125_0 C ρ args m K = none) ∨ ∃ (a1 : List Tok) (a2 : Int) (a3 : Bool), args = [.ptr 0 0] ∧ m = [some [.d (.sl Key.tok a1), .d (.int .i64 a2), .d (.bool a3)]] := by
  unfold Rc125_0
  refine uC_k fun x0 x1 e => ?_; subst e
  refine uP_k fun e => ?_; subst e
  refine u0_k fun e => ?_; subst e
  refine uM_k fun x3 x2 e => ?_; subst e
  refine uC_k fun x4 x5 e => ?_; subst e
  refine uS_k fun a1 e => ?_; subst e
  refine uC_k fun x6 x7 e => ?_; subst e
  refine uI_k fun a2 e => ?_; subst e
  refine uC_k fun x8 x9 e => ?_; subst e
  refine uB_k fun a3 e => ?_; subst e
  refine u0_k fun e => ?_; subst e
  refine uE_k fun e => ?_; subst e
  exact .inr ⟨a1, a2, a3, rfl, rfl⟩

theorem rc126_0 (args : List (PV sig)) (m : Mem sig) : (∀ (C : Tab) (ρ : Type) (K : Res sig × Mem sig → Option ρ), Rc126_0 C ρ args m K = none) ∨ ∃ (a1 : List ByteArray) (a2 : ByteArray), args = [.d (.sl Key.str a1), .d (.str a2)] ∧ m = [] := by
  unfold Rc126_0
  refine uC_k fun x0 x1 e => ?_; subst e
  refine uS_k fun a1 e => ?_; subst e
  refine uC_k fun x2 x3 e => ?_; subst e
  refine uStr_k fun a2 e => ?_; subst e
  refine u0_k fun e => ?_; subst e
  refine uE_k fun e => ?_; subst e
  exact .inr ⟨a1, a2, rfl, rfl⟩

theorem rc127_0 (args : List (PV sig)) (m : Mem sig) : (∀ (C : Tab) (ρ : Type) (K : Res sig × Mem sig → Option ρ), Rc127_0 C ρ args m K = none) ∨ ∃ (a1 : Int), args = [.d (.int .u8 a1)] ∧ m = [] := by
  unfold Rc127_0
  refine uC_k fun x0 x1 e => ?_; subst e
  refine uI_k fun a1 e => ?_; subst e
  refine u0_k fun e => ?_; subst e
  refine uE_k fun e => ?_; subst e
  exact .inr ⟨a1, rfl, rfl⟩

theorem rc130_0 (args : List (PV sig)) (m : Mem sig) : (∀ (C : Tab) (ρ : Type) (K : Res sig × Mem sig → Option ρ), Rc130_0 C ρ args m K = none) ∨ ∃ (a1 : Tok), args = [.agg [.d (.int .i64 a1.kind), .d (.str a1.text), .d (.int .i64 (a1.at_))]] ∧ m = [] := by
  unfold Rc130_0
  refine uC_k fun x0 x1 e => ?_; subst e
  refine uTok_k fun a1 e => ?_; subst e
  refine u0_k fun e => ?_; subst e
  refine uE_k fun e => ?_; subst e
  exact .inr ⟨a1, rfl, rfl⟩

theorem rc132_0 (args : List (PV sig)) (m : Mem sig) : (∀ (C : Tab) (ρ : Type) (K : Res sig × Mem sig → Option ρ), Rc132_0 C ρ args m K = none) ∨ ∃ (a1 : Int), args = [.d (.int .u8 a1)] ∧ m = [] := by
  unfold Rc132_0
  refine uC_k fun x0 x1 e => ?_; subst e
  refine uI_k fun a1 e => ?_; subst e
  refine u0_k fun e => ?_; subst e
  refine uE_k fun e => ?_; subst e
  exact .inr ⟨a1, rfl, rfl⟩

theorem rc133_0 (args : List (PV sig)) (m : Mem sig) : (∀ (C : Tab) (ρ : Type) (K : Res sig × Mem sig → Option ρ), Rc133_0 C ρ args m K = none) ∨ ∃ (a1 : List Int) (a2 : Int), args = [.d (.sl Key.int a1), .d (.int .i64 a2)] ∧ m = [] := by
  unfold Rc133_0
  refine uC_k fun x0 x1 e => ?_; subst e
  refine uS_k fun a1 e => ?_; subst e
  refine uC_k fun x2 x3 e => ?_; subst e
  refine uI_k fun a2 e => ?_; subst e
  refine u0_k fun e => ?_; subst e
  refine uE_k fun e => ?_; subst e
  exact .inr ⟨a1, a2, rfl, rfl⟩

theorem rc139_0 (args : List (PV sig)) (m : Mem sig) : (∀ (C : Tab) (ρ : Type) (K : Res sig × Mem sig → Option ρ), Rc139_0 C ρ args m K = none) ∨ ∃ (a1 : ByteArray), args = [.d (.str a1)] ∧ m = [] := by
  unfold Rc139_0
  refine uC_k fun x0 x1 e => ?_; subst e
  refine uStr_k fun a1 e => ?_; subst e
  refine u0_k fun e => ?_; subst e
  refine uE_k fun e => ?_; subst e
  exact .inr ⟨a1, rfl, rfl⟩

theorem rc140_0 (args : List (PV sig)) (m : Mem sig) : (∀ (C : Tab) (ρ : Type) (K : Res sig × Mem sig → Option ρ), Rc140_0 C ρ args m K = none) ∨ ∃ (a1 : Tok), args = [.agg [.d (.int .i64 a1.kind), .d (.str a1.text), .d (.int .i64 (a1.at_))]] ∧ m = [] := by
  unfold Rc140_0
  refine uC_k fun x0 x1 e => ?_; subst e
  refine uTok_k fun a1 e => ?_; subst e
  refine u0_k fun e => ?_; subst e
  refine uE_k fun e => ?_; subst e
  exact .inr ⟨a1, rfl, rfl⟩

theorem rc141_0 (args : List (PV sig)) (m : Mem sig) : (∀ (C : Tab) (ρ : Type) (K : Res sig × Mem sig → Option ρ), Rc141_0 C ρ args m K = none) ∨ ∃ (a1 : List Tok) (a2 : Int), args = [.ptr 0 0] ∧ m = [some [.d (.sl Key.tok a1), .d (.int .i64 a2)]] := by
  unfold Rc141_0
  refine uC_k fun x0 x1 e => ?_; subst e
  refine uP_k fun e => ?_; subst e
  refine u0_k fun e => ?_; subst e
  refine uM_k fun x3 x2 e => ?_; subst e
  refine uC_k fun x4 x5 e => ?_; subst e
  refine uS_k fun a1 e => ?_; subst e
  refine uC_k fun x6 x7 e => ?_; subst e
  refine uI_k fun a2 e => ?_; subst e
  refine u0_k fun e => ?_; subst e
  refine uE_k fun e => ?_; subst e
  exact .inr ⟨a1, a2, rfl, rfl⟩

theorem rl10_4_0 (vs : List (PV sig)) (m : Mem sig) (ds : List (FuncId × List (PV sig))) (nt : Nat) : (∀ (C : Tab) (ρ : Type) (K : Ex sig → St sig → Option ρ), Rl10_4_0 C ρ vs m ds nt K = none) ∨ ∃ (a1 : Int) (a2 : Rw) (a3 : Rw), vs = [.ptr 0 0, .ptr 1 0, .d (.int .i64 a1)] ∧ m = [some [.d (.int .i64 a2.op), .d (.str a2.name), .d (.sl Key.raw a2.args)], some [.d (.int .i64 a3.op), .d (.str a3.name), .d (.sl Key.raw a3.args)]] ∧ ds = [] ∧ nt = 46 := by
  unfold Rl10_4_0
  refine uN_k fun e => ?_; subst e
  refine uC_k fun x0 x1 e => ?_; subst e
  refine uP_k fun e => ?_; subst e
  refine uC_k fun x2 x3 e => ?_; subst e
  refine uP_k fun e => ?_; subst e
  refine uC_k fun x4 x5 e => ?_; subst e
  refine uI_k fun a1 e => ?_; subst e
  refine u0_k fun e => ?_; subst e
  refine uM_k fun x7 x6 e => ?_; subst e
  refine uRwL_k fun a2 e => ?_; subst e
  refine uM_k fun x9 x8 e => ?_; subst e
  refine uRwL_k fun a3 e => ?_; subst e
  refine uE_k fun e => ?_; subst e
  refine uDe_k fun e => ?_; subst e
  exact .inr ⟨a1, a2, a3, rfl, rfl, rfl, rfl⟩

theorem rl28_6_0 (vs : List (PV sig)) (m : Mem sig) (ds : List (FuncId × List (PV sig))) (nt : Nat) : (∀ (C : Tab) (ρ : Type) (K : Ex sig → St sig → Option ρ), Rl28_6_0 C ρ vs m ds nt K = none) ∨ ∃ (a1 : ByteArray) (a2 : List Tok) (a3 : ByteArray) (a4 : Int), vs = [.d (.str a1), .ptr 0 0, .own Key.tok a2] ∧ m = [some [.d (.str a3), .d (.int .i64 a4)]] ∧ ds = [] ∧ nt = 69 := by
  unfold Rl28_6_0
  refine uN_k fun e => ?_; subst e
  refine uC_k fun x0 x1 e => ?_; subst e
  refine uStr_k fun a1 e => ?_; subst e
  refine uC_k fun x2 x3 e => ?_; subst e
  refine uP_k fun e => ?_; subst e
  refine uC_k fun x4 x5 e => ?_; subst e
  refine uS_k fun a2 e => ?_; subst e
  refine u0_k fun e => ?_; subst e
  refine uM_k fun x7 x6 e => ?_; subst e
  refine uC_k fun x8 x9 e => ?_; subst e
  refine uStr_k fun a3 e => ?_; subst e
  refine uC_k fun x10 x11 e => ?_; subst e
  refine uI_k fun a4 e => ?_; subst e
  refine u0_k fun e => ?_; subst e
  refine uE_k fun e => ?_; subst e
  refine uDe_k fun e => ?_; subst e
  exact .inr ⟨a1, a2, a3, a4, rfl, rfl, rfl, rfl⟩

theorem rl30_4_0 (vs : List (PV sig)) (m : Mem sig) (ds : List (FuncId × List (PV sig))) (nt : Nat) : (∀ (C : Tab) (ρ : Type) (K : Ex sig → St sig → Option ρ), Rl30_4_0 C ρ vs m ds nt K = none) ∨ ∃ (a1 : Bool) (a2 : List Tok) (a3 : Int) (a4 : Rw) (a5 : Rw), vs = [.ptr 0 0, .ptr 1 0, .ptr 2 0, .d (.bool a1)] ∧ m = [some [.d (.sl Key.tok a2), .d (.int .i64 a3)], some [.d (.int .i64 a4.op), .d (.str a4.name), .full Key.raw a4.args], some [.d (.int .i64 a5.op), .d (.str a5.name), .d (.sl Key.raw a5.args)]] ∧ ds = [] ∧ nt = 63 := by
  unfold Rl30_4_0
  refine uN_k fun e => ?_; subst e
  refine uC_k fun x0 x1 e => ?_; subst e
  refine uP_k fun e => ?_; subst e
  refine uC_k fun x2 x3 e => ?_; subst e
  refine uP_k fun e => ?_; subst e
  refine uC_k fun x4 x5 e => ?_; subst e
  refine uP_k fun e => ?_; subst e
  refine uC_k fun x6 x7 e => ?_; subst e
  refine uB_k fun a1 e => ?_; subst e
  refine u0_k fun e => ?_; subst e
  refine uM_k fun x9 x8 e => ?_; subst e
  refine uC_k fun x10 x11 e => ?_; subst e
  refine uS_k fun a2 e => ?_; subst e
  refine uC_k fun x12 x13 e => ?_; subst e
  refine uI_k fun a3 e => ?_; subst e
  refine u0_k fun e => ?_; subst e
  refine uM_k fun x15 x14 e => ?_; subst e
  refine uRwL_k fun a4 e => ?_; subst e
  refine uM_k fun x17 x16 e => ?_; subst e
  refine uRwL_k fun a5 e => ?_; subst e
  refine uE_k fun e => ?_; subst e
  refine uDe_k fun e => ?_; subst e
  exact .inr ⟨a1, a2, a3, a4, a5, rfl, rfl, rfl, rfl⟩

theorem rl34_5_0 (vs : List (PV sig)) (m : Mem sig) (ds : List (FuncId × List (PV sig))) (nt : Nat) : (∀ (C : Tab) (ρ : Type) (K : Ex sig → St sig → Option ρ), Rl34_5_0 C ρ vs m ds nt K = none) ∨ ∃ (a1 : ByteArray) (a2 : List Tok) (a3 : Int), vs = [.d (.str a1), .own Key.tok a2, .d (.int .i64 a3)] ∧ m = [] ∧ ds = [] ∧ nt = 45 := by
  unfold Rl34_5_0
  refine uN_k fun e => ?_; subst e
  refine uC_k fun x0 x1 e => ?_; subst e
  refine uStr_k fun a1 e => ?_; subst e
  refine uC_k fun x2 x3 e => ?_; subst e
  refine uS_k fun a2 e => ?_; subst e
  refine uC_k fun x4 x5 e => ?_; subst e
  refine uI_k fun a3 e => ?_; subst e
  refine u0_k fun e => ?_; subst e
  refine uE_k fun e => ?_; subst e
  refine uDe_k fun e => ?_; subst e
  exact .inr ⟨a1, a2, a3, rfl, rfl, rfl, rfl⟩

theorem rl35_9_0 (vs : List (PV sig)) (m : Mem sig) (ds : List (FuncId × List (PV sig))) (nt : Nat) : (∀ (C : Tab) (ρ : Type) (K : Ex sig → St sig → Option ρ), Rl35_9_0 C ρ vs m ds nt K = none) ∨ ∃ (a1 : Bool) (a2 : List Tok) (a3 : Int) (a4 : Bool) (a5 : Rw) (a6 : Rw), vs = [.ptr 0 0, .ptr 1 0, .ptr 2 0, .d (.bool a1)] ∧ m = [some [.d (.sl Key.tok a2), .d (.int .i64 a3), .d (.bool a4)], some [.d (.int .i64 a5.op), .d (.str a5.name), .full Key.raw a5.args], some [.d (.int .i64 a6.op), .d (.str a6.name), .d (.sl Key.raw a6.args)]] ∧ ds = [] ∧ nt = 65 := by
  unfold Rl35_9_0
  refine uN_k fun e => ?_; subst e
  refine uC_k fun x0 x1 e => ?_; subst e
  refine uP_k fun e => ?_; subst e
  refine uC_k fun x2 x3 e => ?_; subst e
  refine uP_k fun e => ?_; subst e
  refine uC_k fun x4 x5 e => ?_; subst e
  refine uP_k fun e => ?_; subst e
  refine uC_k fun x6 x7 e => ?_; subst e
  refine uB_k fun a1 e => ?_; subst e
  refine u0_k fun e => ?_; subst e
  refine uM_k fun x9 x8 e => ?_; subst e
  refine uC_k fun x10 x11 e => ?_; subst e
  refine uS_k fun a2 e => ?_; subst e
  refine uC_k fun x12 x13 e => ?_; subst e
  refine uI_k fun a3 e => ?_; subst e
  refine uC_k fun x14 x15 e => ?_; subst e
  refine uB_k fun a4 e => ?_; subst e
  refine u0_k fun e => ?_; subst e
  refine uM_k fun x17 x16 e => ?_; subst e
  refine uRwL_k fun a5 e => ?_; subst e
  refine uM_k fun x19 x18 e => ?_; subst e
  refine uRwL_k fun a6 e => ?_; subst e
  refine uE_k fun e => ?_; subst e
  refine uDe_k fun e => ?_; subst e
  exact .inr ⟨a1, a2, a3, a4, a5, a6, rfl, rfl, rfl, rfl⟩

theorem rl42_3_0 (vs : List (PV sig)) (m : Mem sig) (ds : List (FuncId × List (PV sig))) (nt : Nat) : (∀ (C : Tab) (ρ : Type) (K : Ex sig → St sig → Option ρ), Rl42_3_0 C ρ vs m ds nt K = none) ∨ ∃ (a1 : Int) (a2 : Int) (a3 : Int) (a4 : Rw), vs = [.d (.int .i64 a1), .ptr 0 0, .d (.int .i64 a2), .d (.int .i64 a3)] ∧ m = [some [.d (.int .i64 a4.op), .d (.str a4.name), .d (.sl Key.raw a4.args)]] ∧ ds = [] ∧ nt = 34 := by
  unfold Rl42_3_0
  refine uN_k fun e => ?_; subst e
  refine uC_k fun x0 x1 e => ?_; subst e
  refine uI_k fun a1 e => ?_; subst e
  refine uC_k fun x2 x3 e => ?_; subst e
  refine uP_k fun e => ?_; subst e
  refine uC_k fun x4 x5 e => ?_; subst e
  refine uI_k fun a2 e => ?_; subst e
  refine uC_k fun x6 x7 e => ?_; subst e
  refine uI_k fun a3 e => ?_; subst e
  refine u0_k fun e => ?_; subst e
  refine uM_k fun x9 x8 e => ?_; subst e
  refine uRwL_k fun a4 e => ?_; subst e
  refine uE_k fun e => ?_; subst e
  refine uDe_k fun e => ?_; subst e
  exact .inr ⟨a1, a2, a3, a4, rfl, rfl, rfl, rfl⟩

theorem rl43_18_0 (vs : List (PV sig)) (m : Mem sig) (ds : List (FuncId × List (PV sig))) (nt : Nat) : (∀ (C : Tab) (ρ : Type) (K : Ex sig → St sig → Option ρ), Rl43_18_0 C ρ vs m ds nt K = none) ∨ ∃ (a1 : Int) (a2 : Int) (a3 : Rw), vs = [.d (.int .i64 a1), .ptr 0 0, .d (.int .i64 a2)] ∧ m = [some [.d (.int .i64 a3.op), .d (.str a3.name), .d (.sl Key.raw a3.args)]] ∧ ds = [] ∧ nt = 62 := by
  unfold Rl43_18_0
  refine uN_k fun e => ?_; subst e
  refine uC_k fun x0 x1 e => ?_; subst e
  refine uI_k fun a1 e => ?_; subst e
  refine uC_k fun x2 x3 e => ?_; subst e
  refine uP_k fun e => ?_; subst e
  refine uC_k fun x4 x5 e => ?_; subst e
  refine uI_k fun a2 e => ?_; subst e
  refine u0_k fun e => ?_; subst e
  refine uM_k fun x7 x6 e => ?_; subst e
  refine uRwL_k fun a3 e => ?_; subst e
  refine uE_k fun e => ?_; subst e
  refine uDe_k fun e => ?_; subst e
  exact .inr ⟨a1, a2, a3, rfl, rfl, rfl, rfl⟩

theorem rl65_0_0 (vs : List (PV sig)) (m : Mem sig) (ds : List (FuncId × List (PV sig))) (nt : Nat) : (∀ (C : Tab) (ρ : Type) (K : Ex sig → St sig → Option ρ), Rl65_0_0 C ρ vs m ds nt K = none) ∨ ∃ (a1 : ByteArray) (a2 : Int), vs = [.ptr 0 0] ∧ m = [some [.d (.str a1), .d (.int .i64 a2)]] ∧ ds = [] ∧ nt = 102 := by
  unfold Rl65_0_0
  refine uN_k fun e => ?_; subst e
  refine uC_k fun x0 x1 e => ?_; subst e
  refine uP_k fun e => ?_; subst e
  refine u0_k fun e => ?_; subst e
  refine uM_k fun x3 x2 e => ?_; subst e
  refine uC_k fun x4 x5 e => ?_; subst e
  refine uStr_k fun a1 e => ?_; subst e
  refine uC_k fun x6 x7 e => ?_; subst e
  refine uI_k fun a2 e => ?_; subst e
  refine u0_k fun e => ?_; subst e
  refine uE_k fun e => ?_; subst e
  refine uDe_k fun e => ?_; subst e
  exact .inr ⟨a1, a2, rfl, rfl, rfl, rfl⟩

theorem rl69_2_0 (vs : List (PV sig)) (m : Mem sig) (ds : List (FuncId × List (PV sig))) (nt : Nat) : (∀ (C : Tab) (ρ : Type) (K : Ex sig → St sig → Option ρ), Rl69_2_0 C ρ vs m ds nt K = none) ∨ ∃ (a1 : List Tok) (a2 : Int) (a3 : Rw) (a4 : Rw), vs = [.ptr 0 0, .ptr 1 0, .ptr 2 0] ∧ m = [some [.d (.sl Key.tok a1), .d (.int .i64 a2)], some [.d (.int .i64 a3.op), .d (.str a3.name), .full Key.raw a3.args], some [.d (.int .i64 a4.op), .d (.str a4.name), .d (.sl Key.raw a4.args)]] ∧ ds = [] ∧ nt = 23 := by
  unfold Rl69_2_0
  refine uN_k fun e => ?_; subst e
  refine uC_k fun x0 x1 e => ?_; subst e
  refine uP_k fun e => ?_; subst e
  refine uC_k fun x2 x3 e => ?_; subst e
  refine uP_k fun e => ?_; subst e
  refine uC_k fun x4 x5 e => ?_; subst e
  refine uP_k fun e => ?_; subst e
  refine u0_k fun e => ?_; subst e
  refine uM_k fun x7 x6 e => ?_; subst e
  refine uC_k fun x8 x9 e => ?_; subst e
  refine uS_k fun a1 e => ?_; subst e
  refine uC_k fun x10 x11 e => ?_; subst e
  refine uI_k fun a2 e => ?_; subst e
  refine u0_k fun e => ?_; subst e
  refine uM_k fun x13 x12 e => ?_; subst e
  refine uRwL_k fun a3 e => ?_; subst e
  refine uM_k fun x15 x14 e => ?_; subst e
  refine uRwL_k fun a4 e => ?_; subst e
  refine uE_k fun e => ?_; subst e
  refine uDe_k fun e => ?_; subst e
  exact .inr ⟨a1, a2, a3, a4, rfl, rfl, rfl, rfl⟩

theorem rl70_20_0 (vs : List (PV sig)) (m : Mem sig) (ds : List (FuncId × List (PV sig))) (nt : Nat) : (∀ (C : Tab) (ρ : Type) (K : Ex sig → St sig → Option ρ), Rl70_20_0 C ρ vs m ds nt K = none) ∨ ∃ (a1 : Int) (a2 : List Rw) (a3 : Int) (a4 : Int) (a5 : Int), vs = [.d (.int .i64 a1), .ptr 0 0, .d (.sl Key.raw a2), .d (.int .i64 a3), .d (.int .i64 a4)] ∧ m = [some [.d (.int .i64 a5)]] ∧ ds = [] ∧ nt = 72 := by
  unfold Rl70_20_0
  refine uN_k fun e => ?_; subst e
  refine uC_k fun x0 x1 e => ?_; subst e
  refine uI_k fun a1 e => ?_; subst e
  refine uC_k fun x2 x3 e => ?_; subst e
  refine uP_k fun e => ?_; subst e
  refine uC_k fun x4 x5 e => ?_; subst e
  refine uS_k fun a2 e => ?_; subst e
  refine uC_k fun x6 x7 e => ?_; subst e
  refine uI_k fun a3 e => ?_; subst e
  refine uC_k fun x8 x9 e => ?_; subst e
  refine uI_k fun a4 e => ?_; subst e
  refine u0_k fun e => ?_; subst e
  refine uM_k fun x11 x10 e => ?_; subst e
  refine uC_k fun x12 x13 e => ?_; subst e
  refine uI_k fun a5 e => ?_; subst e
  refine u0_k fun e => ?_; subst e
  refine uE_k fun e => ?_; subst e
  refine uDe_k fun e => ?_; subst e
  exact .inr ⟨a1, a2, a3, a4, a5, rfl, rfl, rfl, rfl⟩

theorem rl71_1_0 (vs : List (PV sig)) (m : Mem sig) (ds : List (FuncId × List (PV sig))) (nt : Nat) : (∀ (C : Tab) (ρ : Type) (K : Ex sig → St sig → Option ρ), Rl71_1_0 C ρ vs m ds nt K = none) ∨ ∃ (a1 : ByteArray) (a2 : Int), vs = [.d (.str a1), .d (.int .i64 a2)] ∧ m = [] ∧ ds = [] ∧ nt = 59 := by
  unfold Rl71_1_0
  refine uN_k fun e => ?_; subst e
  refine uC_k fun x0 x1 e => ?_; subst e
  refine uStr_k fun a1 e => ?_; subst e
  refine uC_k fun x2 x3 e => ?_; subst e
  refine uI_k fun a2 e => ?_; subst e
  refine u0_k fun e => ?_; subst e
  refine uE_k fun e => ?_; subst e
  refine uDe_k fun e => ?_; subst e
  exact .inr ⟨a1, a2, rfl, rfl, rfl, rfl⟩

theorem rl71_6_0 (vs : List (PV sig)) (m : Mem sig) (ds : List (FuncId × List (PV sig))) (nt : Nat) : (∀ (C : Tab) (ρ : Type) (K : Ex sig → St sig → Option ρ), Rl71_6_0 C ρ vs m ds nt K = none) ∨ ∃ (a1 : ByteArray) (a2 : Int), vs = [.d (.str a1), .d (.int .i64 a2)] ∧ m = [] ∧ ds = [] ∧ nt = 59 := by
  unfold Rl71_6_0
  refine uN_k fun e => ?_; subst e
  refine uC_k fun x0 x1 e => ?_; subst e
  refine uStr_k fun a1 e => ?_; subst e
  refine uC_k fun x2 x3 e => ?_; subst e
  refine uI_k fun a2 e => ?_; subst e
  refine u0_k fun e => ?_; subst e
  refine uE_k fun e => ?_; subst e
  refine uDe_k fun e => ?_; subst e
  exact .inr ⟨a1, a2, rfl, rfl, rfl, rfl⟩

theorem rl75_2_0 (vs : List (PV sig)) (m : Mem sig) (ds : List (FuncId × List (PV sig))) (nt : Nat) : (∀ (C : Tab) (ρ : Type) (K : Ex sig → St sig → Option ρ), Rl75_2_0 C ρ vs m ds nt K = none) ∨ ∃ (a1 : List Tok) (a2 : Int) (a3 : Bool) (a4 : Rw) (a5 : Rw), vs = [.ptr 0 0, .ptr 1 0, .ptr 2 0] ∧ m = [some [.d (.sl Key.tok a1), .d (.int .i64 a2), .d (.bool a3)], some [.d (.int .i64 a4.op), .d (.str a4.name), .full Key.raw a4.args], some [.d (.int .i64 a5.op), .d (.str a5.name), .d (.sl Key.raw a5.args)]] ∧ ds = [] ∧ nt = 22 := by
  unfold Rl75_2_0
  refine uN_k fun e => ?_; subst e
  refine uC_k fun x0 x1 e => ?_; subst e
  refine uP_k fun e => ?_; subst e
  refine uC_k fun x2 x3 e => ?_; subst e
  refine uP_k fun e => ?_; subst e
  refine uC_k fun x4 x5 e => ?_; subst e
  refine uP_k fun e => ?_; subst e
  refine u0_k fun e => ?_; subst e
  refine uM_k fun x7 x6 e => ?_; subst e
  refine uC_k fun x8 x9 e => ?_; subst e
  refine uS_k fun a1 e => ?_; subst e
  refine uC_k fun x10 x11 e => ?_; subst e
  refine uI_k fun a2 e => ?_; subst e
  refine uC_k fun x12 x13 e => ?_; subst e
  refine uB_k fun a3 e => ?_; subst e
  refine u0_k fun e => ?_; subst e
  refine uM_k fun x15 x14 e => ?_; subst e
  refine uRwL_k fun a4 e => ?_; subst e
  refine uM_k fun x17 x16 e => ?_; subst e
  refine uRwL_k fun a5 e => ?_; subst e
  refine uE_k fun e => ?_; subst e
  refine uDe_k fun e => ?_; subst e
  exact .inr ⟨a1, a2, a3, a4, a5, rfl, rfl, rfl, rfl⟩

theorem rl83_1_0 (vs : List (PV sig)) (m : Mem sig) (ds : List (FuncId × List (PV sig))) (nt : Nat) : (∀ (C : Tab) (ρ : Type) (K : Ex sig → St sig → Option ρ), Rl83_1_0 C ρ vs m ds nt K = none) ∨ ∃ (a1 : ByteArray) (a2 : Int), vs = [.d (.str a1), .d (.int .i64 a2)] ∧ m = [] ∧ ds = [] ∧ nt = 18 := by
  unfold Rl83_1_0
  refine uN_k fun e => ?_; subst e
  refine uC_k fun x0 x1 e => ?_; subst e
  refine uStr_k fun a1 e => ?_; subst e
  refine uC_k fun x2 x3 e => ?_; subst e
  refine uI_k fun a2 e => ?_; subst e
  refine u0_k fun e => ?_; subst e
  refine uE_k fun e => ?_; subst e
  refine uDe_k fun e => ?_; subst e
  exact .inr ⟨a1, a2, rfl, rfl, rfl, rfl⟩

theorem rl92_4_0 (vs : List (PV sig)) (m : Mem sig) (ds : List (FuncId × List (PV sig))) (nt : Nat) : (∀ (C : Tab) (ρ : Type) (K : Ex sig → St sig → Option ρ), Rl92_4_0 C ρ vs m ds nt K = none) ∨ ∃ (a1 : ByteArray) (a2 : Int) (a3 : Int), vs = [.d (.str a1), .d (.int .i64 a2), .d (.int .i64 a3)] ∧ m = [] ∧ ds = [] ∧ nt = 32 := by
  unfold Rl92_4_0
  refine uN_k fun e => ?_; subst e
  refine uC_k fun x0 x1 e => ?_; subst e
  refine uStr_k fun a1 e => ?_; subst e
  refine uC_k fun x2 x3 e => ?_; subst e
  refine uI_k fun a2 e => ?_; subst e
  refine uC_k fun x4 x5 e => ?_; subst e
  refine uI_k fun a3 e => ?_; subst e
  refine u0_k fun e => ?_; subst e
  refine uE_k fun e => ?_; subst e
  refine uDe_k fun e => ?_; subst e
  exact .inr ⟨a1, a2, a3, rfl, rfl, rfl, rfl⟩

theorem rl106_2_0 (vs : List (PV sig)) (m : Mem sig) (ds : List (FuncId × List (PV sig))) (nt : Nat) : (∀ (C : Tab) (ρ : Type) (K : Ex sig → St sig → Option ρ), Rl106_2_0 C ρ vs m ds nt K = none) ∨ ∃ (a1 : Int) (a2 : Int) (a3 : ByteArray) (a4 : Int), vs = [.ptr 0 0, .d (.int .i64 a1), .d (.int .i64 a2)] ∧ m = [some [.d (.str a3), .d (.int .i64 a4)]] ∧ ds = [] ∧ nt = 42 := by
  unfold Rl106_2_0
  refine uN_k fun e => ?_; subst e
  refine uC_k fun x0 x1 e => ?_; subst e
  refine uP_k fun e => ?_; subst e
  refine uC_k fun x2 x3 e => ?_; subst e
  refine uI_k fun a1 e => ?_; subst e
  refine uC_k fun x4 x5 e => ?_; subst e
  refine uI_k fun a2 e => ?_; subst e
  refine u0_k fun e => ?_; subst e
  refine uM_k fun x7 x6 e => ?_; subst e
  refine uC_k fun x8 x9 e => ?_; subst e
  refine uStr_k fun a3 e => ?_; subst e
  refine uC_k fun x10 x11 e => ?_; subst e
  refine uI_k fun a4 e => ?_; subst e
  refine u0_k fun e => ?_; subst e
  refine uE_k fun e => ?_; subst e
  refine uDe_k fun e => ?_; subst e
  exact .inr ⟨a1, a2, a3, a4, rfl, rfl, rfl, rfl⟩

theorem rl122_5_0 (vs : List (PV sig)) (m : Mem sig) (ds : List (FuncId × List (PV sig))) (nt : Nat) : (∀ (C : Tab) (ρ : Type) (K : Ex sig → St sig → Option ρ), Rl122_5_0 C ρ vs m ds nt K = none) ∨ ∃ (a1 : ByteArray) (a2 : Int) (a3 : Int), vs = [.d (.str a1), .d (.int .i64 a2), .d (.int .i64 a3)] ∧ m = [] ∧ ds = [] ∧ nt = 51 := by
  unfold Rl122_5_0
  refine uN_k fun e => ?_; subst e
  refine uC_k fun x0 x1 e => ?_; subst e
  refine uStr_k fun a1 e => ?_; subst e
  refine uC_k fun x2 x3 e => ?_; subst e
  refine uI_k fun a2 e => ?_; subst e
  refine uC_k fun x4 x5 e => ?_; subst e
  refine uI_k fun a3 e => ?_; subst e
  refine u0_k fun e => ?_; subst e
  refine uE_k fun e => ?_; subst e
  refine uDe_k fun e => ?_; subst e
  exact .inr ⟨a1, a2, a3, rfl, rfl, rfl, rfl⟩

theorem rl126_2_0 (vs : List (PV sig)) (m : Mem sig) (ds : List (FuncId × List (PV sig))) (nt : Nat) : (∀ (C : Tab) (ρ : Type) (K : Ex sig → St sig → Option ρ), Rl126_2_0 C ρ vs m ds nt K = none) ∨ ∃ (a1 : List ByteArray) (a2 : ByteArray) (a3 : Int) (a4 : Int), vs = [.d (.sl Key.str a1), .d (.str a2), .d (.int .i64 a3), .d (.int .i64 a4)] ∧ m = [] ∧ ds = [] ∧ nt = 19 := by
  unfold Rl126_2_0
  refine uN_k fun e => ?_; subst e
  refine uC_k fun x0 x1 e => ?_; subst e
  refine uS_k fun a1 e => ?_; subst e
  refine uC_k fun x2 x3 e => ?_; subst e
  refine uStr_k fun a2 e => ?_; subst e
  refine uC_k fun x4 x5 e => ?_; subst e
  refine uI_k fun a3 e => ?_; subst e
  refine uC_k fun x6 x7 e => ?_; subst e
  refine uI_k fun a4 e => ?_; subst e
  refine u0_k fun e => ?_; subst e
  refine uE_k fun e => ?_; subst e
  refine uDe_k fun e => ?_; subst e
  exact .inr ⟨a1, a2, a3, a4, rfl, rfl, rfl, rfl⟩

theorem rl133_2_0 (vs : List (PV sig)) (m : Mem sig) (ds : List (FuncId × List (PV sig))) (nt : Nat) : (∀ (C : Tab) (ρ : Type) (K : Ex sig → St sig → Option ρ), Rl133_2_0 C ρ vs m ds nt K = none) ∨ ∃ (a1 : List Int) (a2 : Int) (a3 : Int) (a4 : Int), vs = [.d (.sl Key.int a1), .d (.int .i64 a2), .d (.int .i64 a3), .d (.int .i64 a4)] ∧ m = [] ∧ ds = [] ∧ nt = 19 := by
  unfold Rl133_2_0
  refine uN_k fun e => ?_; subst e
  refine uC_k fun x0 x1 e => ?_; subst e
  refine uS_k fun a1 e => ?_; subst e
  refine uC_k fun x2 x3 e => ?_; subst e
  refine uI_k fun a2 e => ?_; subst e
  refine uC_k fun x4 x5 e => ?_; subst e
  refine uI_k fun a3 e => ?_; subst e
  refine uC_k fun x6 x7 e => ?_; subst e
  refine uI_k fun a4 e => ?_; subst e
  refine u0_k fun e => ?_; subst e
  refine uE_k fun e => ?_; subst e
  refine uDe_k fun e => ?_; subst e
  exact .inr ⟨a1, a2, a3, a4, rfl, rfl, rfl, rfl⟩

end Go.Proofs.YtanfoijdfcnpoaaGreatDoor.Ev
