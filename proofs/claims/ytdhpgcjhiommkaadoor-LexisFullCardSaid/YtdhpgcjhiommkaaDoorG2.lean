/- This file proves when the tables of typed functions answer; without any condition. -/
import Derived.Test.YtdhpgcjhiommkaaDoorG1
set_option linter.unusedVariables false
set_option linter.unusedSimpArgs false
namespace Go.Proofs.YtdhpgcjhiommkaaDoor.Ev

theorem rc3_0 (args : List (PV sig)) (m : Mem sig) : (∀ (C : Tab) (ρ : Type) (K : Res sig × Mem sig → Option ρ), Rc3_0 C ρ args m K = none) ∨ ∃ (a1 : ByteArray), args = [.d (.str a1)] ∧ m = [] := by
  unfold Rc3_0
  refine uC_k fun x0 x1 e => ?_; subst e
  refine uStr_k fun a1 e => ?_; subst e
  refine u0_k fun e => ?_; subst e
  refine uE_k fun e => ?_; subst e
  exact .inr ⟨a1, rfl, rfl⟩

theorem rc4_0 (args : List (PV sig)) (m : Mem sig) : (∀ (C : Tab) (ρ : Type) (K : Res sig × Mem sig → Option ρ), Rc4_0 C ρ args m K = none) ∨ ∃ (a1 : ByteArray), args = [.d (.str a1)] ∧ m = [] := by
  unfold Rc4_0
  refine uC_k fun x0 x1 e => ?_; subst e
  refine uStr_k fun a1 e => ?_; subst e
  refine u0_k fun e => ?_; subst e
  refine uE_k fun e => ?_; subst e
  exact .inr ⟨a1, rfl, rfl⟩

theorem rc5_0 (args : List (PV sig)) (m : Mem sig) : (∀ (C : Tab) (ρ : Type) (K : Res sig × Mem sig → Option ρ), Rc5_0 C ρ args m K = none) ∨ ∃ (a1 : ByteArray), args = [.d (.str a1)] ∧ m = [] := by
  unfold Rc5_0
  refine uC_k fun x0 x1 e => ?_; subst e
  refine uStr_k fun a1 e => ?_; subst e
  refine u0_k fun e => ?_; subst e
  refine uE_k fun e => ?_; subst e
  exact .inr ⟨a1, rfl, rfl⟩

theorem rc6_0 (args : List (PV sig)) (m : Mem sig) : (∀ (C : Tab) (ρ : Type) (K : Res sig × Mem sig → Option ρ), Rc6_0 C ρ args m K = none) ∨ ∃ (a1 : ByteArray) (a2 : Int) (a3 : ByteArray), args = [.d (.str a1), .d (.int .i64 a2), .d (.str a3)] ∧ m = [] := by
  unfold Rc6_0
  refine uC_k fun x0 x1 e => ?_; subst e
  refine uStr_k fun a1 e => ?_; subst e
  refine uC_k fun x2 x3 e => ?_; subst e
  refine uI_k fun a2 e => ?_; subst e
  refine uC_k fun x4 x5 e => ?_; subst e
  refine uStr_k fun a3 e => ?_; subst e
  refine u0_k fun e => ?_; subst e
  refine uE_k fun e => ?_; subst e
  exact .inr ⟨a1, a2, a3, rfl, rfl⟩

theorem rc8_0 (args : List (PV sig)) (m : Mem sig) : (∀ (C : Tab) (ρ : Type) (K : Res sig × Mem sig → Option ρ), Rc8_0 C ρ args m K = none) ∨ ∃ (a1 : List Tok), args = [.d (.sl Key.tok a1)] ∧ m = [] := by
  unfold Rc8_0
  refine uC_k fun x0 x1 e => ?_; subst e
  refine uS_k fun a1 e => ?_; subst e
  refine u0_k fun e => ?_; subst e
  refine uE_k fun e => ?_; subst e
  exact .inr ⟨a1, rfl, rfl⟩

theorem rc9_0 (args : List (PV sig)) (m : Mem sig) : (∀ (C : Tab) (ρ : Type) (K : Res sig × Mem sig → Option ρ), Rc9_0 C ρ args m K = none) ∨ ∃ (a1 : ByteArray) (a2 : Int), args = [.d (.str a1), .d (.int .i64 a2)] ∧ m = [] := by
  unfold Rc9_0
  refine uC_k fun x0 x1 e => ?_; subst e
  refine uStr_k fun a1 e => ?_; subst e
  refine uC_k fun x2 x3 e => ?_; subst e
  refine uI_k fun a2 e => ?_; subst e
  refine u0_k fun e => ?_; subst e
  refine uE_k fun e => ?_; subst e
  exact .inr ⟨a1, a2, rfl, rfl⟩

theorem rc10_0 (args : List (PV sig)) (m : Mem sig) : (∀ (C : Tab) (ρ : Type) (K : Res sig × Mem sig → Option ρ), Rc10_0 C ρ args m K = none) ∨ ∃ (a1 : ByteArray) (a2 : Int), args = [.d (.str a1), .d (.int .i64 a2)] ∧ m = [] := by
  unfold Rc10_0
  refine uC_k fun x0 x1 e => ?_; subst e
  refine uStr_k fun a1 e => ?_; subst e
  refine uC_k fun x2 x3 e => ?_; subst e
  refine uI_k fun a2 e => ?_; subst e
  refine u0_k fun e => ?_; subst e
  refine uE_k fun e => ?_; subst e
  exact .inr ⟨a1, a2, rfl, rfl⟩

theorem rc11_0 (args : List (PV sig)) (m : Mem sig) : (∀ (C : Tab) (ρ : Type) (K : Res sig × Mem sig → Option ρ), Rc11_0 C ρ args m K = none) ∨ ∃ (a1 : ByteArray), args = [.d (.str a1)] ∧ m = [] := by
  unfold Rc11_0
  refine uC_k fun x0 x1 e => ?_; subst e
  refine uStr_k fun a1 e => ?_; subst e
  refine u0_k fun e => ?_; subst e
  refine uE_k fun e => ?_; subst e
  exact .inr ⟨a1, rfl, rfl⟩

theorem rc12_0 (args : List (PV sig)) (m : Mem sig) : (∀ (C : Tab) (ρ : Type) (K : Res sig × Mem sig → Option ρ), Rc12_0 C ρ args m K = none) ∨ ∃ (a1 : ByteArray), args = [.d (.str a1)] ∧ m = [] := by
  unfold Rc12_0
  refine uC_k fun x0 x1 e => ?_; subst e
  refine uStr_k fun a1 e => ?_; subst e
  refine u0_k fun e => ?_; subst e
  refine uE_k fun e => ?_; subst e
  exact .inr ⟨a1, rfl, rfl⟩

theorem rc13_0 (args : List (PV sig)) (m : Mem sig) : (∀ (C : Tab) (ρ : Type) (K : Res sig × Mem sig → Option ρ), Rc13_0 C ρ args m K = none) ∨ ∃ (a1 : List Tok) (a2 : List Tok) (a3 : Bool), args = [.d (.sl Key.tok a1), .d (.sl Key.tok a2), .d (.bool a3)] ∧ m = [] := by
  unfold Rc13_0
  refine uC_k fun x0 x1 e => ?_; subst e
  refine uS_k fun a1 e => ?_; subst e
  refine uC_k fun x2 x3 e => ?_; subst e
  refine uS_k fun a2 e => ?_; subst e
  refine uC_k fun x4 x5 e => ?_; subst e
  refine uB_k fun a3 e => ?_; subst e
  refine u0_k fun e => ?_; subst e
  refine uE_k fun e => ?_; subst e
  exact .inr ⟨a1, a2, a3, rfl, rfl⟩

theorem rc14_0 (args : List (PV sig)) (m : Mem sig) : (∀ (C : Tab) (ρ : Type) (K : Res sig × Mem sig → Option ρ), Rc14_0 C ρ args m K = none) ∨ args = [] ∧ m = [] := by
  unfold Rc14_0
  refine u0_k fun e => ?_; subst e
  refine uE_k fun e => ?_; subst e
  exact .inr ⟨rfl, rfl⟩

theorem rc15_0 (args : List (PV sig)) (m : Mem sig) : (∀ (C : Tab) (ρ : Type) (K : Res sig × Mem sig → Option ρ), Rc15_0 C ρ args m K = none) ∨ ∃ (a1 : ByteArray), args = [.d (.str a1)] ∧ m = [] := by
  unfold Rc15_0
  refine uC_k fun x0 x1 e => ?_; subst e
  refine uStr_k fun a1 e => ?_; subst e
  refine u0_k fun e => ?_; subst e
  refine uE_k fun e => ?_; subst e
  exact .inr ⟨a1, rfl, rfl⟩

theorem rc16_0 (args : List (PV sig)) (m : Mem sig) : (∀ (C : Tab) (ρ : Type) (K : Res sig × Mem sig → Option ρ), Rc16_0 C ρ args m K = none) ∨ ∃ (a1 : ByteArray), args = [.d (.str a1)] ∧ m = [] := by
  unfold Rc16_0
  refine uC_k fun x0 x1 e => ?_; subst e
  refine uStr_k fun a1 e => ?_; subst e
  refine u0_k fun e => ?_; subst e
  refine uE_k fun e => ?_; subst e
  exact .inr ⟨a1, rfl, rfl⟩

theorem rc17_0 (args : List (PV sig)) (m : Mem sig) : (∀ (C : Tab) (ρ : Type) (K : Res sig × Mem sig → Option ρ), Rc17_0 C ρ args m K = none) ∨ ∃ (a1 : ByteArray), args = [.d (.str a1)] ∧ m = [] := by
  unfold Rc17_0
  refine uC_k fun x0 x1 e => ?_; subst e
  refine uStr_k fun a1 e => ?_; subst e
  refine u0_k fun e => ?_; subst e
  refine uE_k fun e => ?_; subst e
  exact .inr ⟨a1, rfl, rfl⟩

theorem rc18_0 (args : List (PV sig)) (m : Mem sig) : (∀ (C : Tab) (ρ : Type) (K : Res sig × Mem sig → Option ρ), Rc18_0 C ρ args m K = none) ∨ ∃ (a1 : ByteArray), args = [.d (.str a1)] ∧ m = [] := by
  unfold Rc18_0
  refine uC_k fun x0 x1 e => ?_; subst e
  refine uStr_k fun a1 e => ?_; subst e
  refine u0_k fun e => ?_; subst e
  refine uE_k fun e => ?_; subst e
  exact .inr ⟨a1, rfl, rfl⟩

theorem rc19_0 (args : List (PV sig)) (m : Mem sig) : (∀ (C : Tab) (ρ : Type) (K : Res sig × Mem sig → Option ρ), Rc19_0 C ρ args m K = none) ∨ ∃ (a1 : List Tok), args = [.d (.sl Key.tok a1)] ∧ m = [] := by
  unfold Rc19_0
  refine uC_k fun x0 x1 e => ?_; subst e
  refine uS_k fun a1 e => ?_; subst e
  refine u0_k fun e => ?_; subst e
  refine uE_k fun e => ?_; subst e
  exact .inr ⟨a1, rfl, rfl⟩

theorem rc20_0 (args : List (PV sig)) (m : Mem sig) : (∀ (C : Tab) (ρ : Type) (K : Res sig × Mem sig → Option ρ), Rc20_0 C ρ args m K = none) ∨ ∃ (a1 : List Tok), args = [.d (.sl Key.tok a1)] ∧ m = [] := by
  unfold Rc20_0
  refine uC_k fun x0 x1 e => ?_; subst e
  refine uS_k fun a1 e => ?_; subst e
  refine u0_k fun e => ?_; subst e
  refine uE_k fun e => ?_; subst e
  exact .inr ⟨a1, rfl, rfl⟩

theorem rc21_0 (args : List (PV sig)) (m : Mem sig) : (∀ (C : Tab) (ρ : Type) (K : Res sig × Mem sig → Option ρ), Rc21_0 C ρ args m K = none) ∨ ∃ (a1 : ByteArray) (a2 : Int), args = [.d (.str a1), .d (.int .i64 a2)] ∧ m = [] := by
  unfold Rc21_0
  refine uC_k fun x0 x1 e => ?_; subst e
  refine uStr_k fun a1 e => ?_; subst e
  refine uC_k fun x2 x3 e => ?_; subst e
  refine uI_k fun a2 e => ?_; subst e
  refine u0_k fun e => ?_; subst e
  refine uE_k fun e => ?_; subst e
  exact .inr ⟨a1, a2, rfl, rfl⟩

theorem rc22_0 (args : List (PV sig)) (m : Mem sig) : (∀ (C : Tab) (ρ : Type) (K : Res sig × Mem sig → Option ρ), Rc22_0 C ρ args m K = none) ∨ ∃ (a1 : ByteArray) (a2 : Int), args = [.d (.str a1), .d (.int .i64 a2)] ∧ m = [] := by
  unfold Rc22_0
  refine uC_k fun x0 x1 e => ?_; subst e
  refine uStr_k fun a1 e => ?_; subst e
  refine uC_k fun x2 x3 e => ?_; subst e
  refine uI_k fun a2 e => ?_; subst e
  refine u0_k fun e => ?_; subst e
  refine uE_k fun e => ?_; subst e
  exact .inr ⟨a1, a2, rfl, rfl⟩

theorem rc23_0 (args : List (PV sig)) (m : Mem sig) : (∀ (C : Tab) (ρ : Type) (K : Res sig × Mem sig → Option ρ), Rc23_0 C ρ args m K = none) ∨ ∃ (a1 : ByteArray) (a2 : Int), args = [.ptr 0 0] ∧ m = [some [.d (.str a1), .d (.int .i64 a2)]] := by
  unfold Rc23_0
  refine uC_k fun x0 x1 e => ?_; subst e
  refine uP_k fun e => ?_; subst e
  refine u0_k fun e => ?_; subst e
  refine uM_k fun x3 x2 e => ?_; subst e
  refine uC_k fun x4 x5 e => ?_; subst e
  refine uStr_k fun a1 e => ?_; subst e
  refine uC_k fun x6 x7 e => ?_; subst e
  refine uI_k fun a2 e => ?_; subst e
  refine u0_k fun e => ?_; subst e
  refine uE_k fun e => ?_; subst e
  exact .inr ⟨a1, a2, rfl, rfl⟩

theorem rc24_0 (args : List (PV sig)) (m : Mem sig) : (∀ (C : Tab) (ρ : Type) (K : Res sig × Mem sig → Option ρ), Rc24_0 C ρ args m K = none) ∨ ∃ (a1 : Int), args = [.d (.int .u8 a1)] ∧ m = [] := by
  unfold Rc24_0
  refine uC_k fun x0 x1 e => ?_; subst e
  refine uI_k fun a1 e => ?_; subst e
  refine u0_k fun e => ?_; subst e
  refine uE_k fun e => ?_; subst e
  exact .inr ⟨a1, rfl, rfl⟩

theorem rc25_0 (args : List (PV sig)) (m : Mem sig) : (∀ (C : Tab) (ρ : Type) (K : Res sig × Mem sig → Option ρ), Rc25_0 C ρ args m K = none) ∨ ∃ (a1 : ByteArray) (a2 : Int), args = [.d (.str a1), .d (.int .i64 a2)] ∧ m = [] := by
  unfold Rc25_0
  refine uC_k fun x0 x1 e => ?_; subst e
  refine uStr_k fun a1 e => ?_; subst e
  refine uC_k fun x2 x3 e => ?_; subst e
  refine uI_k fun a2 e => ?_; subst e
  refine u0_k fun e => ?_; subst e
  refine uE_k fun e => ?_; subst e
  exact .inr ⟨a1, a2, rfl, rfl⟩

theorem rc26_0 (args : List (PV sig)) (m : Mem sig) : (∀ (C : Tab) (ρ : Type) (K : Res sig × Mem sig → Option ρ), Rc26_0 C ρ args m K = none) ∨ ∃ (a1 : ByteArray) (a2 : Int), args = [.d (.str a1), .d (.int .i64 a2)] ∧ m = [] := by
  unfold Rc26_0
  refine uC_k fun x0 x1 e => ?_; subst e
  refine uStr_k fun a1 e => ?_; subst e
  refine uC_k fun x2 x3 e => ?_; subst e
  refine uI_k fun a2 e => ?_; subst e
  refine u0_k fun e => ?_; subst e
  refine uE_k fun e => ?_; subst e
  exact .inr ⟨a1, a2, rfl, rfl⟩

theorem rc27_0 (args : List (PV sig)) (m : Mem sig) : (∀ (C : Tab) (ρ : Type) (K : Res sig × Mem sig → Option ρ), Rc27_0 C ρ args m K = none) ∨ ∃ (a1 : ByteArray), args = [.d (.str a1), .fn (.func 28) [] []] ∧ m = [] := by
  unfold Rc27_0
  refine uC_k fun x0 x1 e => ?_; subst e
  refine uStr_k fun a1 e => ?_; subst e
  refine uC_k fun x2 x3 e => ?_; subst e
  refine uFn_k fun x4 x5 e => ?_; subst e
  refine u0_k fun e => ?_; subst e
  refine u0_k fun e => ?_; subst e
  refine u0_k fun e => ?_; subst e
  refine uE_k fun e => ?_; subst e
  exact .inr ⟨a1, rfl, rfl⟩

theorem rc27_1 (args : List (PV sig)) (m : Mem sig) : (∀ (C : Tab) (ρ : Type) (K : Res sig × Mem sig → Option ρ), Rc27_1 C ρ args m K = none) ∨ ∃ (a1 : ByteArray), args = [.d (.str a1), .fn (.func 29) [] []] ∧ m = [] := by
  unfold Rc27_1
  refine uC_k fun x0 x1 e => ?_; subst e
  refine uStr_k fun a1 e => ?_; subst e
  refine uC_k fun x2 x3 e => ?_; subst e
  refine uFn_k fun x4 x5 e => ?_; subst e
  refine u0_k fun e => ?_; subst e
  refine u0_k fun e => ?_; subst e
  refine u0_k fun e => ?_; subst e
  refine uE_k fun e => ?_; subst e
  exact .inr ⟨a1, rfl, rfl⟩

theorem rc28_0 (args : List (PV sig)) (m : Mem sig) : (∀ (C : Tab) (ρ : Type) (K : Res sig × Mem sig → Option ρ), Rc28_0 C ρ args m K = none) ∨ ∃ (a1 : Int), args = [.d (.int .u8 a1)] ∧ m = [] := by
  unfold Rc28_0
  refine uC_k fun x0 x1 e => ?_; subst e
  refine uI_k fun a1 e => ?_; subst e
  refine u0_k fun e => ?_; subst e
  refine uE_k fun e => ?_; subst e
  exact .inr ⟨a1, rfl, rfl⟩

theorem rc29_0 (args : List (PV sig)) (m : Mem sig) : (∀ (C : Tab) (ρ : Type) (K : Res sig × Mem sig → Option ρ), Rc29_0 C ρ args m K = none) ∨ ∃ (a1 : Int), args = [.d (.int .u8 a1)] ∧ m = [] := by
  unfold Rc29_0
  refine uC_k fun x0 x1 e => ?_; subst e
  refine uI_k fun a1 e => ?_; subst e
  refine u0_k fun e => ?_; subst e
  refine uE_k fun e => ?_; subst e
  exact .inr ⟨a1, rfl, rfl⟩

theorem rc30_0 (args : List (PV sig)) (m : Mem sig) : (∀ (C : Tab) (ρ : Type) (K : Res sig × Mem sig → Option ρ), Rc30_0 C ρ args m K = none) ∨ ∃ (a1 : ByteArray), args = [.d (.str a1)] ∧ m = [] := by
  unfold Rc30_0
  refine uC_k fun x0 x1 e => ?_; subst e
  refine uStr_k fun a1 e => ?_; subst e
  refine u0_k fun e => ?_; subst e
  refine uE_k fun e => ?_; subst e
  exact .inr ⟨a1, rfl, rfl⟩

theorem rc31_0 (args : List (PV sig)) (m : Mem sig) : (∀ (C : Tab) (ρ : Type) (K : Res sig × Mem sig → Option ρ), Rc31_0 C ρ args m K = none) ∨ ∃ (a1 : Int), args = [.d (.int .u8 a1)] ∧ m = [] := by
  unfold Rc31_0
  refine uC_k fun x0 x1 e => ?_; subst e
  refine uI_k fun a1 e => ?_; subst e
  refine u0_k fun e => ?_; subst e
  refine uE_k fun e => ?_; subst e
  exact .inr ⟨a1, rfl, rfl⟩

theorem rc32_0 (args : List (PV sig)) (m : Mem sig) : (∀ (C : Tab) (ρ : Type) (K : Res sig × Mem sig → Option ρ), Rc32_0 C ρ args m K = none) ∨ ∃ (a1 : Tok), args = [.agg [.d (.int .i64 a1.kind), .d (.str a1.text), .d (.int .i64 (a1.at_))]] ∧ m = [] := by
  unfold Rc32_0
  refine uC_k fun x0 x1 e => ?_; subst e
  refine uTok_k fun a1 e => ?_; subst e
  refine u0_k fun e => ?_; subst e
  refine uE_k fun e => ?_; subst e
  exact .inr ⟨a1, rfl, rfl⟩

theorem rc33_0 (args : List (PV sig)) (m : Mem sig) : (∀ (C : Tab) (ρ : Type) (K : Res sig × Mem sig → Option ρ), Rc33_0 C ρ args m K = none) ∨ ∃ (a1 : List ByteArray) (a2 : ByteArray), args = [.d (.sl Key.str a1), .d (.str a2)] ∧ m = [] := by
  unfold Rc33_0
  refine uC_k fun x0 x1 e => ?_; subst e
  refine uS_k fun a1 e => ?_; subst e
  refine uC_k fun x2 x3 e => ?_; subst e
  refine uStr_k fun a2 e => ?_; subst e
  refine u0_k fun e => ?_; subst e
  refine uE_k fun e => ?_; subst e
  exact .inr ⟨a1, a2, rfl, rfl⟩

theorem rc34_0 (args : List (PV sig)) (m : Mem sig) : (∀ (C : Tab) (ρ : Type) (K : Res sig × Mem sig → Option ρ), Rc34_0 C ρ args m K = none) ∨ ∃ (a1 : Tok), args = [.agg [.d (.int .i64 a1.kind), .d (.str a1.text), .d (.int .i64 (a1.at_))]] ∧ m = [] := by
  unfold Rc34_0
  refine uC_k fun x0 x1 e => ?_; subst e
  refine uTok_k fun a1 e => ?_; subst e
  refine u0_k fun e => ?_; subst e
  refine uE_k fun e => ?_; subst e
  exact .inr ⟨a1, rfl, rfl⟩

theorem rc35_0 (args : List (PV sig)) (m : Mem sig) : (∀ (C : Tab) (ρ : Type) (K : Res sig × Mem sig → Option ρ), Rc35_0 C ρ args m K = none) ∨ ∃ (a1 : ByteArray) (a2 : ByteArray), args = [.d (.str a1), .d (.str a2)] ∧ m = [] := by
  unfold Rc35_0
  refine uC_k fun x0 x1 e => ?_; subst e
  refine uStr_k fun a1 e => ?_; subst e
  refine uC_k fun x2 x3 e => ?_; subst e
  refine uStr_k fun a2 e => ?_; subst e
  refine u0_k fun e => ?_; subst e
  refine uE_k fun e => ?_; subst e
  exact .inr ⟨a1, a2, rfl, rfl⟩

theorem rc36_0 (args : List (PV sig)) (m : Mem sig) : (∀ (C : Tab) (ρ : Type) (K : Res sig × Mem sig → Option ρ), Rc36_0 C ρ args m K = none) ∨ ∃ (a1 : ByteArray) (a2 : Int), args = [.d (.str a1), .d (.int .u8 a2)] ∧ m = [] := by
  unfold Rc36_0
  refine uC_k fun x0 x1 e => ?_; subst e
  refine uStr_k fun a1 e => ?_; subst e
  refine uC_k fun x2 x3 e => ?_; subst e
  refine uI_k fun a2 e => ?_; subst e
  refine u0_k fun e => ?_; subst e
  refine uE_k fun e => ?_; subst e
  exact .inr ⟨a1, a2, rfl, rfl⟩

theorem rc37_0 (args : List (PV sig)) (m : Mem sig) : (∀ (C : Tab) (ρ : Type) (K : Res sig × Mem sig → Option ρ), Rc37_0 C ρ args m K = none) ∨ ∃ (a1 : Int) (a2 : ByteArray) (a3 : Int), args = [.ptr 0 0, .d (.int .i64 a1)] ∧ m = [some [.d (.str a2), .d (.int .i64 a3)]] := by
  unfold Rc37_0
  refine uC_k fun x0 x1 e => ?_; subst e
  refine uP_k fun e => ?_; subst e
  refine uC_k fun x2 x3 e => ?_; subst e
  refine uI_k fun a1 e => ?_; subst e
  refine u0_k fun e => ?_; subst e
  refine uM_k fun x5 x4 e => ?_; subst e
  refine uC_k fun x6 x7 e => ?_; subst e
  refine uStr_k fun a2 e => ?_; subst e
  refine uC_k fun x8 x9 e => ?_; subst e
  refine uI_k fun a3 e => ?_; subst e
  refine u0_k fun e => ?_; subst e
  refine uE_k fun e => ?_; subst e
  exact .inr ⟨a1, a2, a3, rfl, rfl⟩

theorem rc38_0 (args : List (PV sig)) (m : Mem sig) : (∀ (C : Tab) (ρ : Type) (K : Res sig × Mem sig → Option ρ), Rc38_0 C ρ args m K = none) ∨ ∃ (a1 : ByteArray) (a2 : Int), args = [.d (.str a1), .d (.int .u8 a2)] ∧ m = [] := by
  unfold Rc38_0
  refine uC_k fun x0 x1 e => ?_; subst e
  refine uStr_k fun a1 e => ?_; subst e
  refine uC_k fun x2 x3 e => ?_; subst e
  refine uI_k fun a2 e => ?_; subst e
  refine u0_k fun e => ?_; subst e
  refine uE_k fun e => ?_; subst e
  exact .inr ⟨a1, a2, rfl, rfl⟩

theorem rc39_0 (args : List (PV sig)) (m : Mem sig) : (∀ (C : Tab) (ρ : Type) (K : Res sig × Mem sig → Option ρ), Rc39_0 C ρ args m K = none) ∨ ∃ (a1 : Int) (a2 : ByteArray) (a3 : Bool), args = [.d (.int .i64 a1), .d (.str a2), .d (.bool a3)] ∧ m = [] := by
  unfold Rc39_0
  refine uC_k fun x0 x1 e => ?_; subst e
  refine uI_k fun a1 e => ?_; subst e
  refine uC_k fun x2 x3 e => ?_; subst e
  refine uStr_k fun a2 e => ?_; subst e
  refine uC_k fun x4 x5 e => ?_; subst e
  refine uB_k fun a3 e => ?_; subst e
  refine u0_k fun e => ?_; subst e
  refine uE_k fun e => ?_; subst e
  exact .inr ⟨a1, a2, a3, rfl, rfl⟩

theorem rc40_0 (args : List (PV sig)) (m : Mem sig) : (∀ (C : Tab) (ρ : Type) (K : Res sig × Mem sig → Option ρ), Rc40_0 C ρ args m K = none) ∨ ∃ (a1 : ByteArray) (a2 : Int), args = [.ptr 0 0, .ptr 1 0] ∧ m = [some [.d (.str a1), .d (.int .i64 a2)], some [.fn (.func 39) [] []]] := by
  unfold Rc40_0
  refine uC_k fun x0 x1 e => ?_; subst e
  refine uP_k fun e => ?_; subst e
  refine uC_k fun x2 x3 e => ?_; subst e
  refine uP_k fun e => ?_; subst e
  refine u0_k fun e => ?_; subst e
  refine uM_k fun x5 x4 e => ?_; subst e
  refine uC_k fun x6 x7 e => ?_; subst e
  refine uStr_k fun a1 e => ?_; subst e
  refine uC_k fun x8 x9 e => ?_; subst e
  refine uI_k fun a2 e => ?_; subst e
  refine u0_k fun e => ?_; subst e
  refine uM_k fun x11 x10 e => ?_; subst e
  refine uC_k fun x12 x13 e => ?_; subst e
  refine uFn_k fun x14 x15 e => ?_; subst e
  refine u0_k fun e => ?_; subst e
  refine u0_k fun e => ?_; subst e
  refine u0_k fun e => ?_; subst e
  refine uE_k fun e => ?_; subst e
  exact .inr ⟨a1, a2, rfl, rfl⟩

theorem rc41_0 (args : List (PV sig)) (m : Mem sig) : (∀ (C : Tab) (ρ : Type) (K : Res sig × Mem sig → Option ρ), Rc41_0 C ρ args m K = none) ∨ ∃ (a1 : Int) (a2 : ByteArray) (a3 : Int), args = [.ptr 0 0, .d (.int .i64 a1)] ∧ m = [some [.d (.str a2), .d (.int .i64 a3)]] := by
  unfold Rc41_0
  refine uC_k fun x0 x1 e => ?_; subst e
  refine uP_k fun e => ?_; subst e
  refine uC_k fun x2 x3 e => ?_; subst e
  refine uI_k fun a1 e => ?_; subst e
  refine u0_k fun e => ?_; subst e
  refine uM_k fun x5 x4 e => ?_; subst e
  refine uC_k fun x6 x7 e => ?_; subst e
  refine uStr_k fun a2 e => ?_; subst e
  refine uC_k fun x8 x9 e => ?_; subst e
  refine uI_k fun a3 e => ?_; subst e
  refine u0_k fun e => ?_; subst e
  refine uE_k fun e => ?_; subst e
  exact .inr ⟨a1, a2, a3, rfl, rfl⟩

theorem rc42_0 (args : List (PV sig)) (m : Mem sig) : (∀ (C : Tab) (ρ : Type) (K : Res sig × Mem sig → Option ρ), Rc42_0 C ρ args m K = none) ∨ ∃ (a1 : ByteArray) (a2 : Int), args = [.ptr 0 0, .ptr 1 0] ∧ m = [some [.d (.str a1), .d (.int .i64 a2)], some [.fn (.func 39) [] []]] := by
  unfold Rc42_0
  refine uC_k fun x0 x1 e => ?_; subst e
  refine uP_k fun e => ?_; subst e
  refine uC_k fun x2 x3 e => ?_; subst e
  refine uP_k fun e => ?_; subst e
  refine u0_k fun e => ?_; subst e
  refine uM_k fun x5 x4 e => ?_; subst e
  refine uC_k fun x6 x7 e => ?_; subst e
  refine uStr_k fun a1 e => ?_; subst e
  refine uC_k fun x8 x9 e => ?_; subst e
  refine uI_k fun a2 e => ?_; subst e
  refine u0_k fun e => ?_; subst e
  refine uM_k fun x11 x10 e => ?_; subst e
  refine uC_k fun x12 x13 e => ?_; subst e
  refine uFn_k fun x14 x15 e => ?_; subst e
  refine u0_k fun e => ?_; subst e
  refine u0_k fun e => ?_; subst e
  refine u0_k fun e => ?_; subst e
  refine uE_k fun e => ?_; subst e
  exact .inr ⟨a1, a2, rfl, rfl⟩

theorem rc43_0 (args : List (PV sig)) (m : Mem sig) : (∀ (C : Tab) (ρ : Type) (K : Res sig × Mem sig → Option ρ), Rc43_0 C ρ args m K = none) ∨ ∃ (a1 : Int), args = [.d (.int .u8 a1)] ∧ m = [] := by
  unfold Rc43_0
  refine uC_k fun x0 x1 e => ?_; subst e
  refine uI_k fun a1 e => ?_; subst e
  refine u0_k fun e => ?_; subst e
  refine uE_k fun e => ?_; subst e
  exact .inr ⟨a1, rfl, rfl⟩

theorem rc44_0 (args : List (PV sig)) (m : Mem sig) : (∀ (C : Tab) (ρ : Type) (K : Res sig × Mem sig → Option ρ), Rc44_0 C ρ args m K = none) ∨ ∃ (a1 : ByteArray) (a2 : Int), args = [.ptr 0 0, .ptr 1 0] ∧ m = [some [.d (.str a1), .d (.int .i64 a2)], some [.fn (.func 39) [] []]] := by
  unfold Rc44_0
  refine uC_k fun x0 x1 e => ?_; subst e
  refine uP_k fun e => ?_; subst e
  refine uC_k fun x2 x3 e => ?_; subst e
  refine uP_k fun e => ?_; subst e
  refine u0_k fun e => ?_; subst e
  refine uM_k fun x5 x4 e => ?_; subst e
  refine uC_k fun x6 x7 e => ?_; subst e
  refine uStr_k fun a1 e => ?_; subst e
  refine uC_k fun x8 x9 e => ?_; subst e
  refine uI_k fun a2 e => ?_; subst e
  refine u0_k fun e => ?_; subst e
  refine uM_k fun x11 x10 e => ?_; subst e
  refine uC_k fun x12 x13 e => ?_; subst e
  refine uFn_k fun x14 x15 e => ?_; subst e
  refine u0_k fun e => ?_; subst e
  refine u0_k fun e => ?_; subst e
  refine u0_k fun e => ?_; subst e
  refine uE_k fun e => ?_; subst e
  exact .inr ⟨a1, a2, rfl, rfl⟩

theorem rc45_0 (args : List (PV sig)) (m : Mem sig) : (∀ (C : Tab) (ρ : Type) (K : Res sig × Mem sig → Option ρ), Rc45_0 C ρ args m K = none) ∨ ∃ (a1 : ByteArray), args = [.d (.str a1)] ∧ m = [] := by
  unfold Rc45_0
  refine uC_k fun x0 x1 e => ?_; subst e
  refine uStr_k fun a1 e => ?_; subst e
  refine u0_k fun e => ?_; subst e
  refine uE_k fun e => ?_; subst e
  exact .inr ⟨a1, rfl, rfl⟩

theorem rc46_0 (args : List (PV sig)) (m : Mem sig) : (∀ (C : Tab) (ρ : Type) (K : Res sig × Mem sig → Option ρ), Rc46_0 C ρ args m K = none) ∨ ∃ (a1 : ByteArray) (a2 : Int), args = [.ptr 0 0, .ptr 1 0] ∧ m = [some [.d (.str a1), .d (.int .i64 a2)], some [.fn (.func 39) [] []]] := by
  unfold Rc46_0
  refine uC_k fun x0 x1 e => ?_; subst e
  refine uP_k fun e => ?_; subst e
  refine uC_k fun x2 x3 e => ?_; subst e
  refine uP_k fun e => ?_; subst e
  refine u0_k fun e => ?_; subst e
  refine uM_k fun x5 x4 e => ?_; subst e
  refine uC_k fun x6 x7 e => ?_; subst e
  refine uStr_k fun a1 e => ?_; subst e
  refine uC_k fun x8 x9 e => ?_; subst e
  refine uI_k fun a2 e => ?_; subst e
  refine u0_k fun e => ?_; subst e
  refine uM_k fun x11 x10 e => ?_; subst e
  refine uC_k fun x12 x13 e => ?_; subst e
  refine uFn_k fun x14 x15 e => ?_; subst e
  refine u0_k fun e => ?_; subst e
  refine u0_k fun e => ?_; subst e
  refine u0_k fun e => ?_; subst e
  refine uE_k fun e => ?_; subst e
  exact .inr ⟨a1, a2, rfl, rfl⟩

theorem rc47_0 (args : List (PV sig)) (m : Mem sig) : (∀ (C : Tab) (ρ : Type) (K : Res sig × Mem sig → Option ρ), Rc47_0 C ρ args m K = none) ∨ ∃ (a1 : ByteArray) (a2 : Int), args = [.ptr 0 0, .ptr 1 0] ∧ m = [some [.d (.str a1), .d (.int .i64 a2)], some [.fn (.func 39) [] []]] := by
  unfold Rc47_0
  refine uC_k fun x0 x1 e => ?_; subst e
  refine uP_k fun e => ?_; subst e
  refine uC_k fun x2 x3 e => ?_; subst e
  refine uP_k fun e => ?_; subst e
  refine u0_k fun e => ?_; subst e
  refine uM_k fun x5 x4 e => ?_; subst e
  refine uC_k fun x6 x7 e => ?_; subst e
  refine uStr_k fun a1 e => ?_; subst e
  refine uC_k fun x8 x9 e => ?_; subst e
  refine uI_k fun a2 e => ?_; subst e
  refine u0_k fun e => ?_; subst e
  refine uM_k fun x11 x10 e => ?_; subst e
  refine uC_k fun x12 x13 e => ?_; subst e
  refine uFn_k fun x14 x15 e => ?_; subst e
  refine u0_k fun e => ?_; subst e
  refine u0_k fun e => ?_; subst e
  refine u0_k fun e => ?_; subst e
  refine uE_k fun e => ?_; subst e
  exact .inr ⟨a1, a2, rfl, rfl⟩

theorem rc48_0 (args : List (PV sig)) (m : Mem sig) : (∀ (C : Tab) (ρ : Type) (K : Res sig × Mem sig → Option ρ), Rc48_0 C ρ args m K = none) ∨ ∃ (a1 : ByteArray) (a2 : Int), args = [.ptr 0 0] ∧ m = [some [.d (.str a1), .d (.int .i64 a2)]] := by
  unfold Rc48_0
  refine uC_k fun x0 x1 e => ?_; subst e
  refine uP_k fun e => ?_; subst e
  refine u0_k fun e => ?_; subst e
  refine uM_k fun x3 x2 e => ?_; subst e
  refine uC_k fun x4 x5 e => ?_; subst e
  refine uStr_k fun a1 e => ?_; subst e
  refine uC_k fun x6 x7 e => ?_; subst e
  refine uI_k fun a2 e => ?_; subst e
  refine u0_k fun e => ?_; subst e
  refine uE_k fun e => ?_; subst e
  exact .inr ⟨a1, a2, rfl, rfl⟩

theorem rc49_0 (args : List (PV sig)) (m : Mem sig) : (∀ (C : Tab) (ρ : Type) (K : Res sig × Mem sig → Option ρ), Rc49_0 C ρ args m K = none) ∨ ∃ (a1 : ByteArray) (a2 : Int), args = [.ptr 0 0, .ptr 1 0] ∧ m = [some [.d (.str a1), .d (.int .i64 a2)], some [.fn (.func 39) [] []]] := by
  unfold Rc49_0
  refine uC_k fun x0 x1 e => ?_; subst e
  refine uP_k fun e => ?_; subst e
  refine uC_k fun x2 x3 e => ?_; subst e
  refine uP_k fun e => ?_; subst e
  refine u0_k fun e => ?_; subst e
  refine uM_k fun x5 x4 e => ?_; subst e
  refine uC_k fun x6 x7 e => ?_; subst e
  refine uStr_k fun a1 e => ?_; subst e
  refine uC_k fun x8 x9 e => ?_; subst e
  refine uI_k fun a2 e => ?_; subst e
  refine u0_k fun e => ?_; subst e
  refine uM_k fun x11 x10 e => ?_; subst e
  refine uC_k fun x12 x13 e => ?_; subst e
  refine uFn_k fun x14 x15 e => ?_; subst e
  refine u0_k fun e => ?_; subst e
  refine u0_k fun e => ?_; subst e
  refine u0_k fun e => ?_; subst e
  refine uE_k fun e => ?_; subst e
  exact .inr ⟨a1, a2, rfl, rfl⟩

theorem rc50_0 (args : List (PV sig)) (m : Mem sig) : (∀ (C : Tab) (ρ : Type) (K : Res sig × Mem sig → Option ρ), Rc50_0 C ρ args m K = none) ∨ ∃ (a1 : ByteArray) (a2 : Int) (a3 : Int), args = [.ptr 0 0, .ptr 1 0, .ptr 2 0] ∧ m = [some [.d (.str a1), .d (.int .i64 a2)], some [.fn (.func 39) [] []], some [.d (.int .u8 a3)]] := by
  unfold Rc50_0
  refine uC_k fun x0 x1 e => ?_; subst e
  refine uP_k fun e => ?_; subst e
  refine uC_k fun x2 x3 e => ?_; subst e
  refine uP_k fun e => ?_; subst e
  refine uC_k fun x4 x5 e => ?_; subst e
  refine uP_k fun e => ?_; subst e
  refine u0_k fun e => ?_; subst e
  refine uM_k fun x7 x6 e => ?_; subst e
  refine uC_k fun x8 x9 e => ?_; subst e
  refine uStr_k fun a1 e => ?_; subst e
  refine uC_k fun x10 x11 e => ?_; subst e
  refine uI_k fun a2 e => ?_; subst e
  refine u0_k fun e => ?_; subst e
  refine uM_k fun x13 x12 e => ?_; subst e
  refine uC_k fun x14 x15 e => ?_; subst e
  refine uFn_k fun x16 x17 e => ?_; subst e
  refine u0_k fun e => ?_; subst e
  refine u0_k fun e => ?_; subst e
  refine u0_k fun e => ?_; subst e
  refine uM_k fun x19 x18 e => ?_; subst e
  refine uC_k fun x20 x21 e => ?_; subst e
  refine uI_k fun a3 e => ?_; subst e
  refine u0_k fun e => ?_; subst e
  refine uE_k fun e => ?_; subst e
  exact .inr ⟨a1, a2, a3, rfl, rfl⟩

theorem rc51_0 (args : List (PV sig)) (m : Mem sig) : (∀ (C : Tab) (ρ : Type) (K : Res sig × Mem sig → Option ρ), Rc51_0 C ρ args m K = none) ∨ ∃ (a1 : ByteArray) (a2 : Int), args = [.d (.str a1), .d (.int .i64 a2)] ∧ m = [] := by
  unfold Rc51_0
  refine uC_k fun x0 x1 e => ?_; subst e
  refine uStr_k fun a1 e => ?_; subst e
  refine uC_k fun x2 x3 e => ?_; subst e
  refine uI_k fun a2 e => ?_; subst e
  refine u0_k fun e => ?_; subst e
  refine uE_k fun e => ?_; subst e
  exact .inr ⟨a1, a2, rfl, rfl⟩

theorem rc52_0 (args : List (PV sig)) (m : Mem sig) : (∀ (C : Tab) (ρ : Type) (K : Res sig × Mem sig → Option ρ), Rc52_0 C ρ args m K = none) ∨ ∃ (a1 : ByteArray) (a2 : Int), args = [.d (.str a1), .d (.int .i64 a2)] ∧ m = [] := by
  unfold Rc52_0
  refine uC_k fun x0 x1 e => ?_; subst e
  refine uStr_k fun a1 e => ?_; subst e
  refine uC_k fun x2 x3 e => ?_; subst e
  refine uI_k fun a2 e => ?_; subst e
  refine u0_k fun e => ?_; subst e
  refine uE_k fun e => ?_; subst e
  exact .inr ⟨a1, a2, rfl, rfl⟩

theorem rc53_0 (args : List (PV sig)) (m : Mem sig) : (∀ (C : Tab) (ρ : Type) (K : Res sig × Mem sig → Option ρ), Rc53_0 C ρ args m K = none) ∨ ∃ (a1 : Int), args = [.d (.int .u8 a1)] ∧ m = [] := by
  unfold Rc53_0
  refine uC_k fun x0 x1 e => ?_; subst e
  refine uI_k fun a1 e => ?_; subst e
  refine u0_k fun e => ?_; subst e
  refine uE_k fun e => ?_; subst e
  exact .inr ⟨a1, rfl, rfl⟩

theorem rc54_0 (args : List (PV sig)) (m : Mem sig) : (∀ (C : Tab) (ρ : Type) (K : Res sig × Mem sig → Option ρ), Rc54_0 C ρ args m K = none) ∨ ∃ (a1 : ByteArray), args = [.d (.str a1)] ∧ m = [] := by
  unfold Rc54_0
  refine uC_k fun x0 x1 e => ?_; subst e
  refine uStr_k fun a1 e => ?_; subst e
  refine u0_k fun e => ?_; subst e
  refine uE_k fun e => ?_; subst e
  exact .inr ⟨a1, rfl, rfl⟩

theorem rc55_0 (args : List (PV sig)) (m : Mem sig) : (∀ (C : Tab) (ρ : Type) (K : Res sig × Mem sig → Option ρ), Rc55_0 C ρ args m K = none) ∨ ∃ (a1 : ByteArray) (a2 : Int), args = [.d (.str a1), .d (.int .i64 a2)] ∧ m = [] := by
  unfold Rc55_0
  refine uC_k fun x0 x1 e => ?_; subst e
  refine uStr_k fun a1 e => ?_; subst e
  refine uC_k fun x2 x3 e => ?_; subst e
  refine uI_k fun a2 e => ?_; subst e
  refine u0_k fun e => ?_; subst e
  refine uE_k fun e => ?_; subst e
  exact .inr ⟨a1, a2, rfl, rfl⟩

theorem rc56_0 (args : List (PV sig)) (m : Mem sig) : (∀ (C : Tab) (ρ : Type) (K : Res sig × Mem sig → Option ρ), Rc56_0 C ρ args m K = none) ∨ ∃ (a1 : Int), args = [.d (.int .u8 a1)] ∧ m = [] := by
  unfold Rc56_0
  refine uC_k fun x0 x1 e => ?_; subst e
  refine uI_k fun a1 e => ?_; subst e
  refine u0_k fun e => ?_; subst e
  refine uE_k fun e => ?_; subst e
  exact .inr ⟨a1, rfl, rfl⟩

theorem rc65_0 (args : List (PV sig)) (m : Mem sig) : (∀ (C : Tab) (ρ : Type) (K : Res sig × Mem sig → Option ρ), Rc65_0 C ρ args m K = none) ∨ ∃ (a1 : ByteArray), args = [.d (.str a1)] ∧ m = [] := by
  unfold Rc65_0
  refine uC_k fun x0 x1 e => ?_; subst e
  refine uStr_k fun a1 e => ?_; subst e
  refine u0_k fun e => ?_; subst e
  refine uE_k fun e => ?_; subst e
  exact .inr ⟨a1, rfl, rfl⟩

theorem rc66_0 (args : List (PV sig)) (m : Mem sig) : (∀ (C : Tab) (ρ : Type) (K : Res sig × Mem sig → Option ρ), Rc66_0 C ρ args m K = none) ∨ ∃ (a1 : Int), args = [.d (.int .i64 a1)] ∧ m = [] := by
  unfold Rc66_0
  refine uC_k fun x0 x1 e => ?_; subst e
  refine uI_k fun a1 e => ?_; subst e
  refine u0_k fun e => ?_; subst e
  refine uE_k fun e => ?_; subst e
  exact .inr ⟨a1, rfl, rfl⟩

theorem rc67_0 (args : List (PV sig)) (m : Mem sig) : (∀ (C : Tab) (ρ : Type) (K : Res sig × Mem sig → Option ρ), Rc67_0 C ρ args m K = none) ∨ ∃ (a1 : Int), args = [.d (.int .u8 a1)] ∧ m = [] := by
  unfold Rc67_0
  refine uC_k fun x0 x1 e => ?_; subst e
  refine uI_k fun a1 e => ?_; subst e
  refine u0_k fun e => ?_; subst e
  refine uE_k fun e => ?_; subst e
  exact .inr ⟨a1, rfl, rfl⟩

theorem rl5_6_0 (vs : List (PV sig)) (m : Mem sig) (ds : List (FuncId × List (PV sig))) (nt : Nat) : (∀ (C : Tab) (ρ : Type) (K : Ex sig → St sig → Option ρ), Rl5_6_0 C ρ vs m ds nt K = none) ∨ ∃ (a1 : ByteArray) (a2 : List Tok) (a3 : Int) (a4 : Int) (a5 : List Tok) (a6 : Int) (a7 : Int), vs = [.d (.str a1), .d (.sl Key.tok a2), .d (.int .i64 a3), .d (.int .i64 a4), .d (.sl Key.tok a5), .d (.int .i64 a6), .d (.int .i64 a7)] ∧ m = [] ∧ ds = [] ∧ nt = 128 := by
  unfold Rl5_6_0
  refine uN_k fun e => ?_; subst e
  refine uC_k fun x0 x1 e => ?_; subst e
  refine uStr_k fun a1 e => ?_; subst e
  refine uC_k fun x2 x3 e => ?_; subst e
  refine uS_k fun a2 e => ?_; subst e
  refine uC_k fun x4 x5 e => ?_; subst e
  refine uI_k fun a3 e => ?_; subst e
  refine uC_k fun x6 x7 e => ?_; subst e
  refine uI_k fun a4 e => ?_; subst e
  refine uC_k fun x8 x9 e => ?_; subst e
  refine uS_k fun a5 e => ?_; subst e
  refine uC_k fun x10 x11 e => ?_; subst e
  refine uI_k fun a6 e => ?_; subst e
  refine uC_k fun x12 x13 e => ?_; subst e
  refine uI_k fun a7 e => ?_; subst e
  refine u0_k fun e => ?_; subst e
  refine uE_k fun e => ?_; subst e
  refine uDe_k fun e => ?_; subst e
  exact .inr ⟨a1, a2, a3, a4, a5, a6, a7, rfl, rfl, rfl, rfl⟩

theorem rl6_11_0 (vs : List (PV sig)) (m : Mem sig) (ds : List (FuncId × List (PV sig))) (nt : Nat) : (∀ (C : Tab) (ρ : Type) (K : Ex sig → St sig → Option ρ), Rl6_11_0 C ρ vs m ds nt K = none) ∨ ∃ (a1 : ByteArray) (a2 : Int) (a3 : ByteArray) (a4 : List Tok) (a5 : List Int) (a6 : Int), vs = [.d (.str a1), .d (.int .i64 a2), .d (.str a3), .d (.sl Key.tok a4), .own Key.u8 a5, .d (.int .i64 a6)] ∧ m = [] ∧ ds = [] ∧ nt = 137 := by
  unfold Rl6_11_0
  refine uN_k fun e => ?_; subst e
  refine uC_k fun x0 x1 e => ?_; subst e
  refine uStr_k fun a1 e => ?_; subst e
  refine uC_k fun x2 x3 e => ?_; subst e
  refine uI_k fun a2 e => ?_; subst e
  refine uC_k fun x4 x5 e => ?_; subst e
  refine uStr_k fun a3 e => ?_; subst e
  refine uC_k fun x6 x7 e => ?_; subst e
  refine uS_k fun a4 e => ?_; subst e
  refine uC_k fun x8 x9 e => ?_; subst e
  refine uS_k fun a5 e => ?_; subst e
  refine uC_k fun x10 x11 e => ?_; subst e
  refine uI_k fun a6 e => ?_; subst e
  refine u0_k fun e => ?_; subst e
  refine uE_k fun e => ?_; subst e
  refine uDe_k fun e => ?_; subst e
  exact .inr ⟨a1, a2, a3, a4, a5, a6, rfl, rfl, rfl, rfl⟩

theorem rl6_20_0 (vs : List (PV sig)) (m : Mem sig) (ds : List (FuncId × List (PV sig))) (nt : Nat) : (∀ (C : Tab) (ρ : Type) (K : Ex sig → St sig → Option ρ), Rl6_20_0 C ρ vs m ds nt K = none) ∨ ∃ (a1 : Int) (a2 : List Tok) (a3 : ByteArray) (a4 : List Tok) (a5 : Int) (a6 : Int), vs = [.d (.int .i64 a1), .d (.sl Key.tok a2), .d (.str a3), .d (.sl Key.tok a4), .d (.int .i64 a5), .d (.int .i64 a6)] ∧ m = [] ∧ ds = [] ∧ nt = 137 := by
  unfold Rl6_20_0
  refine uN_k fun e => ?_; subst e
  refine uC_k fun x0 x1 e => ?_; subst e
  refine uI_k fun a1 e => ?_; subst e
  refine uC_k fun x2 x3 e => ?_; subst e
  refine uS_k fun a2 e => ?_; subst e
  refine uC_k fun x4 x5 e => ?_; subst e
  refine uStr_k fun a3 e => ?_; subst e
  refine uC_k fun x6 x7 e => ?_; subst e
  refine uS_k fun a4 e => ?_; subst e
  refine uC_k fun x8 x9 e => ?_; subst e
  refine uI_k fun a5 e => ?_; subst e
  refine uC_k fun x10 x11 e => ?_; subst e
  refine uI_k fun a6 e => ?_; subst e
  refine u0_k fun e => ?_; subst e
  refine uE_k fun e => ?_; subst e
  refine uDe_k fun e => ?_; subst e
  exact .inr ⟨a1, a2, a3, a4, a5, a6, rfl, rfl, rfl, rfl⟩

theorem rl8_9_0 (vs : List (PV sig)) (m : Mem sig) (ds : List (FuncId × List (PV sig))) (nt : Nat) : (∀ (C : Tab) (ρ : Type) (K : Ex sig → St sig → Option ρ), Rl8_9_0 C ρ vs m ds nt K = none) ∨ ∃ (a1 : ByteArray) (a2 : List Tok) (a3 : List Tok) (a4 : Int) (a5 : Int), vs = [.d (.str a1), .own Key.tok a2, .d (.sl Key.tok a3), .d (.int .i64 a4), .d (.int .i64 a5)] ∧ m = [] ∧ ds = [] ∧ nt = 79 := by
  unfold Rl8_9_0
  refine uN_k fun e => ?_; subst e
  refine uC_k fun x0 x1 e => ?_; subst e
  refine uStr_k fun a1 e => ?_; subst e
  refine uC_k fun x2 x3 e => ?_; subst e
  refine uS_k fun a2 e => ?_; subst e
  refine uC_k fun x4 x5 e => ?_; subst e
  refine uS_k fun a3 e => ?_; subst e
  refine uC_k fun x6 x7 e => ?_; subst e
  refine uI_k fun a4 e => ?_; subst e
  refine uC_k fun x8 x9 e => ?_; subst e
  refine uI_k fun a5 e => ?_; subst e
  refine u0_k fun e => ?_; subst e
  refine uE_k fun e => ?_; subst e
  refine uDe_k fun e => ?_; subst e
  exact .inr ⟨a1, a2, a3, a4, a5, rfl, rfl, rfl, rfl⟩

theorem rl11_6_0 (vs : List (PV sig)) (m : Mem sig) (ds : List (FuncId × List (PV sig))) (nt : Nat) : (∀ (C : Tab) (ρ : Type) (K : Ex sig → St sig → Option ρ), Rl11_6_0 C ρ vs m ds nt K = none) ∨ ∃ (a1 : ByteArray) (a2 : List Tok) (a3 : ByteArray) (a4 : Int), vs = [.d (.str a1), .ptr 0 0, .own Key.tok a2] ∧ m = [some [.d (.str a3), .d (.int .i64 a4)]] ∧ ds = [] ∧ nt = 69 := by
  unfold Rl11_6_0
  refine uN_k fun e => ?_; subst e
  refine uC_k fun x0 x1 e => ?_; subst e
  refine uStr_k fun a1 e => ?_; subst e
  refine uC_k fun x2 x3 e => ?_; subst e
  refine uP_k fun e => ?_; subst e
  refine uC_k fun x4 x5 e => ?_; subst e
  refine uS_k fun a2 e => ?_; subst e
  refine u0_k fun e => ?_; subst e
  refine uM_k fun x7 x6 e => ?_; subst e
  refine uC_k fun x8 x9 e => ?_; subst e
  refine uStr_k fun a3 e => ?_; subst e
  refine uC_k fun x10 x11 e => ?_; subst e
  refine uI_k fun a4 e => ?_; subst e
  refine u0_k fun e => ?_; subst e
  refine uE_k fun e => ?_; subst e
  refine uDe_k fun e => ?_; subst e
  exact .inr ⟨a1, a2, a3, a4, rfl, rfl, rfl, rfl⟩

theorem rl12_5_0 (vs : List (PV sig)) (m : Mem sig) (ds : List (FuncId × List (PV sig))) (nt : Nat) : (∀ (C : Tab) (ρ : Type) (K : Ex sig → St sig → Option ρ), Rl12_5_0 C ρ vs m ds nt K = none) ∨ ∃ (a1 : ByteArray) (a2 : List Tok) (a3 : Int), vs = [.d (.str a1), .own Key.tok a2, .d (.int .i64 a3)] ∧ m = [] ∧ ds = [] ∧ nt = 45 := by
  unfold Rl12_5_0
  refine uN_k fun e => ?_; subst e
  refine uC_k fun x0 x1 e => ?_; subst e
  refine uStr_k fun a1 e => ?_; subst e
  refine uC_k fun x2 x3 e => ?_; subst e
  refine uS_k fun a2 e => ?_; subst e
  refine uC_k fun x4 x5 e => ?_; subst e
  refine uI_k fun a3 e => ?_; subst e
  refine u0_k fun e => ?_; subst e
  refine uE_k fun e => ?_; subst e
  refine uDe_k fun e => ?_; subst e
  exact .inr ⟨a1, a2, a3, rfl, rfl, rfl, rfl⟩

theorem rl13_4_0 (vs : List (PV sig)) (m : Mem sig) (ds : List (FuncId × List (PV sig))) (nt : Nat) : (∀ (C : Tab) (ρ : Type) (K : Ex sig → St sig → Option ρ), Rl13_4_0 C ρ vs m ds nt K = none) ∨ ∃ (a1 : List Tok) (a2 : List Tok) (a3 : Bool) (a4 : Int) (a5 : Int), vs = [.d (.sl Key.tok a1), .d (.sl Key.tok a2), .d (.bool a3), .d (.int .i64 a4), .d (.int .i64 a5)] ∧ m = [] ∧ ds = [] ∧ nt = 59 := by
  unfold Rl13_4_0
  refine uN_k fun e => ?_; subst e
  refine uC_k fun x0 x1 e => ?_; subst e
  refine uS_k fun a1 e => ?_; subst e
  refine uC_k fun x2 x3 e => ?_; subst e
  refine uS_k fun a2 e => ?_; subst e
  refine uC_k fun x4 x5 e => ?_; subst e
  refine uB_k fun a3 e => ?_; subst e
  refine uC_k fun x6 x7 e => ?_; subst e
  refine uI_k fun a4 e => ?_; subst e
  refine uC_k fun x8 x9 e => ?_; subst e
  refine uI_k fun a5 e => ?_; subst e
  refine u0_k fun e => ?_; subst e
  refine uE_k fun e => ?_; subst e
  refine uDe_k fun e => ?_; subst e
  exact .inr ⟨a1, a2, a3, a4, a5, rfl, rfl, rfl, rfl⟩

theorem rl19_3_0 (vs : List (PV sig)) (m : Mem sig) (ds : List (FuncId × List (PV sig))) (nt : Nat) : (∀ (C : Tab) (ρ : Type) (K : Ex sig → St sig → Option ρ), Rl19_3_0 C ρ vs m ds nt K = none) ∨ ∃ (a1 : List ByteArray) (a2 : List Tok) (a3 : Int) (a4 : Int), vs = [.own Key.str a1, .d (.sl Key.tok a2), .d (.int .i64 a3), .d (.int .i64 a4)] ∧ m = [] ∧ ds = [] ∧ nt = 27 := by
  unfold Rl19_3_0
  refine uN_k fun e => ?_; subst e
  refine uC_k fun x0 x1 e => ?_; subst e
  refine uS_k fun a1 e => ?_; subst e
  refine uC_k fun x2 x3 e => ?_; subst e
  refine uS_k fun a2 e => ?_; subst e
  refine uC_k fun x4 x5 e => ?_; subst e
  refine uI_k fun a3 e => ?_; subst e
  refine uC_k fun x6 x7 e => ?_; subst e
  refine uI_k fun a4 e => ?_; subst e
  refine u0_k fun e => ?_; subst e
  refine uE_k fun e => ?_; subst e
  refine uDe_k fun e => ?_; subst e
  exact .inr ⟨a1, a2, a3, a4, rfl, rfl, rfl, rfl⟩

theorem rl20_4_0 (vs : List (PV sig)) (m : Mem sig) (ds : List (FuncId × List (PV sig))) (nt : Nat) : (∀ (C : Tab) (ρ : Type) (K : Ex sig → St sig → Option ρ), Rl20_4_0 C ρ vs m ds nt K = none) ∨ ∃ (a1 : List Int) (a2 : Bool) (a3 : List Tok) (a4 : Int) (a5 : Int), vs = [.own Key.u8 a1, .d (.bool a2), .d (.sl Key.tok a3), .d (.int .i64 a4), .d (.int .i64 a5)] ∧ m = [] ∧ ds = [] ∧ nt = 32 := by
  unfold Rl20_4_0
  refine uN_k fun e => ?_; subst e
  refine uC_k fun x0 x1 e => ?_; subst e
  refine uS_k fun a1 e => ?_; subst e
  refine uC_k fun x2 x3 e => ?_; subst e
  refine uB_k fun a2 e => ?_; subst e
  refine uC_k fun x4 x5 e => ?_; subst e
  refine uS_k fun a3 e => ?_; subst e
  refine uC_k fun x6 x7 e => ?_; subst e
  refine uI_k fun a4 e => ?_; subst e
  refine uC_k fun x8 x9 e => ?_; subst e
  refine uI_k fun a5 e => ?_; subst e
  refine u0_k fun e => ?_; subst e
  refine uE_k fun e => ?_; subst e
  refine uDe_k fun e => ?_; subst e
  exact .inr ⟨a1, a2, a3, a4, a5, rfl, rfl, rfl, rfl⟩

theorem rl22_5_0 (vs : List (PV sig)) (m : Mem sig) (ds : List (FuncId × List (PV sig))) (nt : Nat) : (∀ (C : Tab) (ρ : Type) (K : Ex sig → St sig → Option ρ), Rl22_5_0 C ρ vs m ds nt K = none) ∨ ∃ (a1 : ByteArray) (a2 : Int) (a3 : Int) (a4 : Int) (a5 : Int), vs = [.d (.str a1), .d (.int .i64 a2), .d (.int .i64 a3), .d (.int .i64 a4), .d (.int .i64 a5)] ∧ m = [] ∧ ds = [] ∧ nt = 33 := by
  unfold Rl22_5_0
  refine uN_k fun e => ?_; subst e
  refine uC_k fun x0 x1 e => ?_; subst e
  refine uStr_k fun a1 e => ?_; subst e
  refine uC_k fun x2 x3 e => ?_; subst e
  refine uI_k fun a2 e => ?_; subst e
  refine uC_k fun x4 x5 e => ?_; subst e
  refine uI_k fun a3 e => ?_; subst e
  refine uC_k fun x6 x7 e => ?_; subst e
  refine uI_k fun a4 e => ?_; subst e
  refine uC_k fun x8 x9 e => ?_; subst e
  refine uI_k fun a5 e => ?_; subst e
  refine u0_k fun e => ?_; subst e
  refine uE_k fun e => ?_; subst e
  refine uDe_k fun e => ?_; subst e
  exact .inr ⟨a1, a2, a3, a4, a5, rfl, rfl, rfl, rfl⟩

theorem rl23_0_0 (vs : List (PV sig)) (m : Mem sig) (ds : List (FuncId × List (PV sig))) (nt : Nat) : (∀ (C : Tab) (ρ : Type) (K : Ex sig → St sig → Option ρ), Rl23_0_0 C ρ vs m ds nt K = none) ∨ ∃ (a1 : ByteArray) (a2 : Int), vs = [.ptr 0 0] ∧ m = [some [.d (.str a1), .d (.int .i64 a2)]] ∧ ds = [] ∧ nt = 102 := by
  unfold Rl23_0_0
  refine uN_k fun e => ?_; subst e
  refine uC_k fun x0 x1 e => ?_; subst e
  refine uP_k fun e => ?_; subst e
  refine u0_k fun e => ?_; subst e
  refine uM_k fun x3 x2 e => ?_; subst e
  refine uC_k fun x4 x5 e => ?_; subst e
  refine uStr_k fun a1 e => ?_; subst e
  refine uC_k fun x6 x7 e => ?_; subst e
  refine uI_k fun a2 e => ?_; subst e
  refine u0_k fun e => ?_; subst e
  refine uE_k fun e => ?_; subst e
  refine uDe_k fun e => ?_; subst e
  exact .inr ⟨a1, a2, rfl, rfl, rfl, rfl⟩

theorem rl25_1_0 (vs : List (PV sig)) (m : Mem sig) (ds : List (FuncId × List (PV sig))) (nt : Nat) : (∀ (C : Tab) (ρ : Type) (K : Ex sig → St sig → Option ρ), Rl25_1_0 C ρ vs m ds nt K = none) ∨ ∃ (a1 : ByteArray) (a2 : Int), vs = [.d (.str a1), .d (.int .i64 a2)] ∧ m = [] ∧ ds = [] ∧ nt = 59 := by
  unfold Rl25_1_0
  refine uN_k fun e => ?_; subst e
  refine uC_k fun x0 x1 e => ?_; subst e
  refine uStr_k fun a1 e => ?_; subst e
  refine uC_k fun x2 x3 e => ?_; subst e
  refine uI_k fun a2 e => ?_; subst e
  refine u0_k fun e => ?_; subst e
  refine uE_k fun e => ?_; subst e
  refine uDe_k fun e => ?_; subst e
  exact .inr ⟨a1, a2, rfl, rfl, rfl, rfl⟩

theorem rl25_6_0 (vs : List (PV sig)) (m : Mem sig) (ds : List (FuncId × List (PV sig))) (nt : Nat) : (∀ (C : Tab) (ρ : Type) (K : Ex sig → St sig → Option ρ), Rl25_6_0 C ρ vs m ds nt K = none) ∨ ∃ (a1 : ByteArray) (a2 : Int), vs = [.d (.str a1), .d (.int .i64 a2)] ∧ m = [] ∧ ds = [] ∧ nt = 59 := by
  unfold Rl25_6_0
  refine uN_k fun e => ?_; subst e
  refine uC_k fun x0 x1 e => ?_; subst e
  refine uStr_k fun a1 e => ?_; subst e
  refine uC_k fun x2 x3 e => ?_; subst e
  refine uI_k fun a2 e => ?_; subst e
  refine u0_k fun e => ?_; subst e
  refine uE_k fun e => ?_; subst e
  refine uDe_k fun e => ?_; subst e
  exact .inr ⟨a1, a2, rfl, rfl, rfl, rfl⟩

theorem rl27_4_0 (vs : List (PV sig)) (m : Mem sig) (ds : List (FuncId × List (PV sig))) (nt : Nat) : (∀ (C : Tab) (ρ : Type) (K : Ex sig → St sig → Option ρ), Rl27_4_0 C ρ vs m ds nt K = none) ∨ ∃ (a1 : ByteArray) (a2 : Int) (a3 : Int), vs = [.d (.str a1), .d (.int .i64 a2), .d (.int .i64 a3)] ∧ m = [] ∧ ds = [] ∧ nt = 32 := by
  unfold Rl27_4_0
  refine uN_k fun e => ?_; subst e
  refine uC_k fun x0 x1 e => ?_; subst e
  refine uStr_k fun a1 e => ?_; subst e
  refine uC_k fun x2 x3 e => ?_; subst e
  refine uI_k fun a2 e => ?_; subst e
  refine uC_k fun x4 x5 e => ?_; subst e
  refine uI_k fun a3 e => ?_; subst e
  refine u0_k fun e => ?_; subst e
  refine uE_k fun e => ?_; subst e
  refine uDe_k fun e => ?_; subst e
  exact .inr ⟨a1, a2, a3, rfl, rfl, rfl, rfl⟩

theorem rl41_2_0 (vs : List (PV sig)) (m : Mem sig) (ds : List (FuncId × List (PV sig))) (nt : Nat) : (∀ (C : Tab) (ρ : Type) (K : Ex sig → St sig → Option ρ), Rl41_2_0 C ρ vs m ds nt K = none) ∨ ∃ (a1 : Int) (a2 : Int) (a3 : ByteArray) (a4 : Int), vs = [.ptr 0 0, .d (.int .i64 a1), .d (.int .i64 a2)] ∧ m = [some [.d (.str a3), .d (.int .i64 a4)]] ∧ ds = [] ∧ nt = 42 := by
  unfold Rl41_2_0
  refine uN_k fun e => ?_; subst e
  refine uC_k fun x0 x1 e => ?_; subst e
  refine uP_k fun e => ?_; subst e
  refine uC_k fun x2 x3 e => ?_; subst e
  refine uI_k fun a1 e => ?_; subst e
  refine uC_k fun x4 x5 e => ?_; subst e
  refine uI_k fun a2 e => ?_; subst e
  refine u0_k fun e => ?_; subst e
  refine uM_k fun x7 x6 e => ?_; subst e
  refine uC_k fun x8 x9 e => ?_; subst e
  refine uStr_k fun a3 e => ?_; subst e
  refine uC_k fun x10 x11 e => ?_; subst e
  refine uI_k fun a4 e => ?_; subst e
  refine u0_k fun e => ?_; subst e
  refine uE_k fun e => ?_; subst e
  refine uDe_k fun e => ?_; subst e
  exact .inr ⟨a1, a2, a3, a4, rfl, rfl, rfl, rfl⟩

theorem rl52_1_0 (vs : List (PV sig)) (m : Mem sig) (ds : List (FuncId × List (PV sig))) (nt : Nat) : (∀ (C : Tab) (ρ : Type) (K : Ex sig → St sig → Option ρ), Rl52_1_0 C ρ vs m ds nt K = none) ∨ ∃ (a1 : ByteArray) (a2 : Int), vs = [.d (.str a1), .d (.int .i64 a2)] ∧ m = [] ∧ ds = [] ∧ nt = 18 := by
  unfold Rl52_1_0
  refine uN_k fun e => ?_; subst e
  refine uC_k fun x0 x1 e => ?_; subst e
  refine uStr_k fun a1 e => ?_; subst e
  refine uC_k fun x2 x3 e => ?_; subst e
  refine uI_k fun a2 e => ?_; subst e
  refine u0_k fun e => ?_; subst e
  refine uE_k fun e => ?_; subst e
  refine uDe_k fun e => ?_; subst e
  exact .inr ⟨a1, a2, rfl, rfl, rfl, rfl⟩

theorem rl54_5_0 (vs : List (PV sig)) (m : Mem sig) (ds : List (FuncId × List (PV sig))) (nt : Nat) : (∀ (C : Tab) (ρ : Type) (K : Ex sig → St sig → Option ρ), Rl54_5_0 C ρ vs m ds nt K = none) ∨ ∃ (a1 : ByteArray) (a2 : Int) (a3 : Int), vs = [.d (.str a1), .d (.int .i64 a2), .d (.int .i64 a3)] ∧ m = [] ∧ ds = [] ∧ nt = 51 := by
  unfold Rl54_5_0
  refine uN_k fun e => ?_; subst e
  refine uC_k fun x0 x1 e => ?_; subst e
  refine uStr_k fun a1 e => ?_; subst e
  refine uC_k fun x2 x3 e => ?_; subst e
  refine uI_k fun a2 e => ?_; subst e
  refine uC_k fun x4 x5 e => ?_; subst e
  refine uI_k fun a3 e => ?_; subst e
  refine u0_k fun e => ?_; subst e
  refine uE_k fun e => ?_; subst e
  refine uDe_k fun e => ?_; subst e
  exact .inr ⟨a1, a2, a3, rfl, rfl, rfl, rfl⟩

end Go.Proofs.YtdhpgcjhiommkaaDoor.Ev
