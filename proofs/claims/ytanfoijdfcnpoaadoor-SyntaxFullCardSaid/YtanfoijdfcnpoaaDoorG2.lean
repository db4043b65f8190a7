/- This file proves when the tables of typed functions answer; without any condition. -/
import Derived.Test.YtanfoijdfcnpoaaDoorGR
set_option linter.unusedVariables false
set_option linter.unusedSimpArgs false
namespace Go.Proofs.YtanfoijdfcnpoaaDoor.Ev

theorem rc3_0 (args : List (PV sig)) (m : Mem sig) : (∀ (C : Tab) (ρ : Type) (K : Res sig × Mem sig → Option ρ), Rc3_0 C ρ args m K = none) ∨ ∃ (a1 : Rw), args = [.agg [.d (.int .i64 a1.op), .d (.str a1.name), .d (.sl Key.raw a1.args)]] ∧ m = [] := by
  unfold Rc3_0
  exact uC_k fun _ _ _ => uRw_k fun a1 _ => u0_k fun _ => uE_k fun _ => .inr ⟨a1, by subst_vars; exact ⟨rfl, rfl⟩⟩

theorem rc8_0 (args : List (PV sig)) (m : Mem sig) : (∀ (C : Tab) (ρ : Type) (K : Res sig × Mem sig → Option ρ), Rc8_0 C ρ args m K = none) ∨ ∃ (a1 : Int), args = [.d (.int .i64 a1)] ∧ m = [] := by
  unfold Rc8_0
  exact uC_k fun _ _ _ => uI_k fun a1 _ => u0_k fun _ => uE_k fun _ => .inr ⟨a1, by subst_vars; exact ⟨rfl, rfl⟩⟩

theorem rc9_0 (args : List (PV sig)) (m : Mem sig) : (∀ (C : Tab) (ρ : Type) (K : Res sig × Mem sig → Option ρ), Rc9_0 C ρ args m K = none) ∨ ∃ (a1 : Rw), args = [.agg [.d (.int .i64 a1.op), .d (.str a1.name), .d (.sl Key.raw a1.args)]] ∧ m = [] := by
  unfold Rc9_0
  exact uC_k fun _ _ _ => uRw_k fun a1 _ => u0_k fun _ => uE_k fun _ => .inr ⟨a1, by subst_vars; exact ⟨rfl, rfl⟩⟩

theorem rc10_0 (args : List (PV sig)) (m : Mem sig) : (∀ (C : Tab) (ρ : Type) (K : Res sig × Mem sig → Option ρ), Rc10_0 C ρ args m K = none) ∨ ∃ (a1 : Rw), args = [.agg [.d (.int .i64 a1.op), .d (.str a1.name), .d (.sl Key.raw a1.args)]] ∧ m = [] := by
  unfold Rc10_0
  exact uC_k fun _ _ _ => uRw_k fun a1 _ => u0_k fun _ => uE_k fun _ => .inr ⟨a1, by subst_vars; exact ⟨rfl, rfl⟩⟩

theorem rc11_0 (args : List (PV sig)) (m : Mem sig) : (∀ (C : Tab) (ρ : Type) (K : Res sig × Mem sig → Option ρ), Rc11_0 C ρ args m K = none) ∨ ∃ (a1 : Rw), args = [.agg [.d (.int .i64 a1.op), .d (.str a1.name), .d (.sl Key.raw a1.args)]] ∧ m = [] := by
  unfold Rc11_0
  exact uC_k fun _ _ _ => uRw_k fun a1 _ => u0_k fun _ => uE_k fun _ => .inr ⟨a1, by subst_vars; exact ⟨rfl, rfl⟩⟩

theorem rc12_0 (args : List (PV sig)) (m : Mem sig) : (∀ (C : Tab) (ρ : Type) (K : Res sig × Mem sig → Option ρ), Rc12_0 C ρ args m K = none) ∨ args = [] ∧ m = [] := by
  unfold Rc12_0
  exact u0_k fun _ => uE_k fun _ => .inr (by subst_vars; exact ⟨rfl, rfl⟩)

theorem rc13_0 (args : List (PV sig)) (m : Mem sig) : (∀ (C : Tab) (ρ : Type) (K : Res sig × Mem sig → Option ρ), Rc13_0 C ρ args m K = none) ∨ ∃ (a1 : Rw), args = [.agg [.d (.int .i64 a1.op), .d (.str a1.name), .d (.sl Key.raw a1.args)]] ∧ m = [] := by
  unfold Rc13_0
  exact uC_k fun _ _ _ => uRw_k fun a1 _ => u0_k fun _ => uE_k fun _ => .inr ⟨a1, by subst_vars; exact ⟨rfl, rfl⟩⟩

theorem rc14_0 (args : List (PV sig)) (m : Mem sig) : (∀ (C : Tab) (ρ : Type) (K : Res sig × Mem sig → Option ρ), Rc14_0 C ρ args m K = none) ∨ ∃ (a1 : ByteArray), args = [.d (.str a1)] ∧ m = [] := by
  unfold Rc14_0
  exact uC_k fun _ _ _ => uStr_k fun a1 _ => u0_k fun _ => uE_k fun _ => .inr ⟨a1, by subst_vars; exact ⟨rfl, rfl⟩⟩

theorem rc15_0 (args : List (PV sig)) (m : Mem sig) : (∀ (C : Tab) (ρ : Type) (K : Res sig × Mem sig → Option ρ), Rc15_0 C ρ args m K = none) ∨ ∃ (a1 : Rw) (a2 : Rw), args = [.agg [.d (.int .i64 a1.op), .d (.str a1.name), .d (.sl Key.raw a1.args)], .agg [.d (.int .i64 a2.op), .d (.str a2.name), .d (.sl Key.raw a2.args)]] ∧ m = [] := by
  unfold Rc15_0
  exact uC_k fun _ _ _ => uRw_k fun a1 _ => uC_k fun _ _ _ => uRw_k fun a2 _ => u0_k fun _ => uE_k fun _ => .inr ⟨a1, a2, by subst_vars; exact ⟨rfl, rfl⟩⟩

theorem rc20_0 (args : List (PV sig)) (m : Mem sig) : (∀ (C : Tab) (ρ : Type) (K : Res sig × Mem sig → Option ρ), Rc20_0 C ρ args m K = none) ∨ ∃ (a1 : ByteArray), args = [.d (.str a1)] ∧ m = [] := by
  unfold Rc20_0
  exact uC_k fun _ _ _ => uStr_k fun a1 _ => u0_k fun _ => uE_k fun _ => .inr ⟨a1, by subst_vars; exact ⟨rfl, rfl⟩⟩

theorem rc22_0 (args : List (PV sig)) (m : Mem sig) : (∀ (C : Tab) (ρ : Type) (K : Res sig × Mem sig → Option ρ), Rc22_0 C ρ args m K = none) ∨ ∃ (a1 : Rw) (a2 : Int) (a3 : Int), args = [.agg [.d (.int .i64 a1.op), .d (.str a1.name), .d (.sl Key.raw a1.args)], .d (.int .i64 a2), .ptr 0 0] ∧ m = [some [.d (.int .i64 a3)]] := by
  unfold Rc22_0
  exact uC_k fun _ _ _ => uRw_k fun a1 _ => uC_k fun _ _ _ => uI_k fun a2 _ => uC_k fun _ _ _ => uP_k fun _ => u0_k fun _ => uM_k fun _ _ _ => uC_k fun _ _ _ => uI_k fun a3 _ => u0_k fun _ => uE_k fun _ => .inr ⟨a1, a2, a3, by subst_vars; exact ⟨rfl, rfl⟩⟩

theorem rc23_0 (args : List (PV sig)) (m : Mem sig) : (∀ (C : Tab) (ρ : Type) (K : Res sig × Mem sig → Option ρ), Rc23_0 C ρ args m K = none) ∨ ∃ (a1 : Rw) (a2 : List Int), args = [.agg [.d (.int .i64 a1.op), .d (.str a1.name), .d (.sl Key.raw a1.args)], .d (.sl Key.int a2)] ∧ m = [] := by
  unfold Rc23_0
  exact uC_k fun _ _ _ => uRw_k fun a1 _ => uC_k fun _ _ _ => uS_k fun a2 _ => u0_k fun _ => uE_k fun _ => .inr ⟨a1, a2, by subst_vars; exact ⟨rfl, rfl⟩⟩

theorem rc24_0 (args : List (PV sig)) (m : Mem sig) : (∀ (C : Tab) (ρ : Type) (K : Res sig × Mem sig → Option ρ), Rc24_0 C ρ args m K = none) ∨ ∃ (a1 : Rw) (a2 : Int), args = [.agg [.d (.int .i64 a1.op), .d (.str a1.name), .d (.sl Key.raw a1.args)], .d (.int .i64 a2)] ∧ m = [] := by
  unfold Rc24_0
  exact uC_k fun _ _ _ => uRw_k fun a1 _ => uC_k fun _ _ _ => uI_k fun a2 _ => u0_k fun _ => uE_k fun _ => .inr ⟨a1, a2, by subst_vars; exact ⟨rfl, rfl⟩⟩

theorem rc25_0 (args : List (PV sig)) (m : Mem sig) : (∀ (C : Tab) (ρ : Type) (K : Res sig × Mem sig → Option ρ), Rc25_0 C ρ args m K = none) ∨ ∃ (a1 : Rw) (a2 : Int), args = [.agg [.d (.int .i64 a1.op), .d (.str a1.name), .d (.sl Key.raw a1.args)], .d (.int .i64 a2)] ∧ m = [] := by
  unfold Rc25_0
  exact uC_k fun _ _ _ => uRw_k fun a1 _ => uC_k fun _ _ _ => uI_k fun a2 _ => u0_k fun _ => uE_k fun _ => .inr ⟨a1, a2, by subst_vars; exact ⟨rfl, rfl⟩⟩

theorem rc26_0 (args : List (PV sig)) (m : Mem sig) : (∀ (C : Tab) (ρ : Type) (K : Res sig × Mem sig → Option ρ), Rc26_0 C ρ args m K = none) ∨ ∃ (a1 : ByteArray) (a2 : Bool), args = [.d (.str a1), .d (.bool a2)] ∧ m = [] := by
  unfold Rc26_0
  exact uC_k fun _ _ _ => uStr_k fun a1 _ => uC_k fun _ _ _ => uB_k fun a2 _ => u0_k fun _ => uE_k fun _ => .inr ⟨a1, a2, by subst_vars; exact ⟨rfl, rfl⟩⟩

theorem rc27_0 (args : List (PV sig)) (m : Mem sig) : (∀ (C : Tab) (ρ : Type) (K : Res sig × Mem sig → Option ρ), Rc27_0 C ρ args m K = none) ∨ ∃ (a1 : Rw), args = [.agg [.d (.int .i64 a1.op), .d (.str a1.name), .d (.sl Key.raw a1.args)]] ∧ m = [] := by
  unfold Rc27_0
  exact uC_k fun _ _ _ => uRw_k fun a1 _ => u0_k fun _ => uE_k fun _ => .inr ⟨a1, by subst_vars; exact ⟨rfl, rfl⟩⟩

theorem rc28_0 (args : List (PV sig)) (m : Mem sig) : (∀ (C : Tab) (ρ : Type) (K : Res sig × Mem sig → Option ρ), Rc28_0 C ρ args m K = none) ∨ ∃ (a1 : ByteArray), args = [.d (.str a1)] ∧ m = [] := by
  unfold Rc28_0
  exact uC_k fun _ _ _ => uStr_k fun a1 _ => u0_k fun _ => uE_k fun _ => .inr ⟨a1, by subst_vars; exact ⟨rfl, rfl⟩⟩

theorem rc30_0 (args : List (PV sig)) (m : Mem sig) : (∀ (C : Tab) (ρ : Type) (K : Res sig × Mem sig → Option ρ), Rc30_0 C ρ args m K = none) ∨ ∃ (a1 : List Tok) (a2 : Int), args = [.ptr 0 0] ∧ m = [some [.d (.sl Key.tok a1), .d (.int .i64 a2)]] := by
  unfold Rc30_0
  exact uC_k fun _ _ _ => uP_k fun _ => u0_k fun _ => uM_k fun _ _ _ => uC_k fun _ _ _ => uS_k fun a1 _ => uC_k fun _ _ _ => uI_k fun a2 _ => u0_k fun _ => uE_k fun _ => .inr ⟨a1, a2, by subst_vars; exact ⟨rfl, rfl⟩⟩

theorem rc31_0 (args : List (PV sig)) (m : Mem sig) : (∀ (C : Tab) (ρ : Type) (K : Res sig × Mem sig → Option ρ), Rc31_0 C ρ args m K = none) ∨ ∃ (a1 : List Tok) (a2 : Int), args = [.ptr 0 0] ∧ m = [some [.d (.sl Key.tok a1), .d (.int .i64 a2)]] := by
  unfold Rc31_0
  exact uC_k fun _ _ _ => uP_k fun _ => u0_k fun _ => uM_k fun _ _ _ => uC_k fun _ _ _ => uS_k fun a1 _ => uC_k fun _ _ _ => uI_k fun a2 _ => u0_k fun _ => uE_k fun _ => .inr ⟨a1, a2, by subst_vars; exact ⟨rfl, rfl⟩⟩

theorem rc32_0 (args : List (PV sig)) (m : Mem sig) : (∀ (C : Tab) (ρ : Type) (K : Res sig × Mem sig → Option ρ), Rc32_0 C ρ args m K = none) ∨ ∃ (a1 : List Tok) (a2 : Int), args = [.ptr 0 0] ∧ m = [some [.d (.sl Key.tok a1), .d (.int .i64 a2)]] := by
  unfold Rc32_0
  exact uC_k fun _ _ _ => uP_k fun _ => u0_k fun _ => uM_k fun _ _ _ => uC_k fun _ _ _ => uS_k fun a1 _ => uC_k fun _ _ _ => uI_k fun a2 _ => u0_k fun _ => uE_k fun _ => .inr ⟨a1, a2, by subst_vars; exact ⟨rfl, rfl⟩⟩

theorem rc37_0 (args : List (PV sig)) (m : Mem sig) : (∀ (C : Tab) (ρ : Type) (K : Res sig × Mem sig → Option ρ), Rc37_0 C ρ args m K = none) ∨ ∃ (a1 : List Tok) (a2 : Int), args = [.ptr 0 0] ∧ m = [some [.d (.sl Key.tok a1), .d (.int .i64 a2)]] := by
  unfold Rc37_0
  exact uC_k fun _ _ _ => uP_k fun _ => u0_k fun _ => uM_k fun _ _ _ => uC_k fun _ _ _ => uS_k fun a1 _ => uC_k fun _ _ _ => uI_k fun a2 _ => u0_k fun _ => uE_k fun _ => .inr ⟨a1, a2, by subst_vars; exact ⟨rfl, rfl⟩⟩

theorem rc38_0 (args : List (PV sig)) (m : Mem sig) : (∀ (C : Tab) (ρ : Type) (K : Res sig × Mem sig → Option ρ), Rc38_0 C ρ args m K = none) ∨ ∃ (a1 : It), args = [.agg [.d (.str a1.word), .d (.str a1.name), .d (.int .i64 a1.raw.op), .d (.str a1.raw.name), .d (.sl Key.raw a1.raw.args), .d (.sl Key.part a1.parts)]] ∧ m = [] := by
  unfold Rc38_0
  exact uC_k fun _ _ _ => uIt_k fun a1 _ => u0_k fun _ => uE_k fun _ => .inr ⟨a1, by subst_vars; exact ⟨rfl, rfl⟩⟩

theorem rc40_0 (args : List (PV sig)) (m : Mem sig) : (∀ (C : Tab) (ρ : Type) (K : Res sig × Mem sig → Option ρ), Rc40_0 C ρ args m K = none) ∨ ∃ (a1 : ByteArray), args = [.d (.str a1)] ∧ m = [] := by
  unfold Rc40_0
  exact uC_k fun _ _ _ => uStr_k fun a1 _ => u0_k fun _ => uE_k fun _ => .inr ⟨a1, by subst_vars; exact ⟨rfl, rfl⟩⟩

theorem rc41_0 (args : List (PV sig)) (m : Mem sig) : (∀ (C : Tab) (ρ : Type) (K : Res sig × Mem sig → Option ρ), Rc41_0 C ρ args m K = none) ∨ ∃ (a1 : List Int) (a2 : Int), args = [.d (.sl Key.int a1), .d (.int .i64 a2)] ∧ m = [] := by
  unfold Rc41_0
  exact uC_k fun _ _ _ => uS_k fun a1 _ => uC_k fun _ _ _ => uI_k fun a2 _ => u0_k fun _ => uE_k fun _ => .inr ⟨a1, a2, by subst_vars; exact ⟨rfl, rfl⟩⟩

theorem rc42_0 (args : List (PV sig)) (m : Mem sig) : (∀ (C : Tab) (ρ : Type) (K : Res sig × Mem sig → Option ρ), Rc42_0 C ρ args m K = none) ∨ ∃ (a1 : ByteArray), args = [.d (.str a1)] ∧ m = [] := by
  unfold Rc42_0
  exact uC_k fun _ _ _ => uStr_k fun a1 _ => u0_k fun _ => uE_k fun _ => .inr ⟨a1, by subst_vars; exact ⟨rfl, rfl⟩⟩

theorem rc43_0 (args : List (PV sig)) (m : Mem sig) : (∀ (C : Tab) (ρ : Type) (K : Res sig × Mem sig → Option ρ), Rc43_0 C ρ args m K = none) ∨ ∃ (a1 : ByteArray) (a2 : Int), args = [.ptr 0 0] ∧ m = [some [.d (.str a1), .d (.int .i64 a2)]] := by
  unfold Rc43_0
  exact uC_k fun _ _ _ => uP_k fun _ => u0_k fun _ => uM_k fun _ _ _ => uC_k fun _ _ _ => uStr_k fun a1 _ => uC_k fun _ _ _ => uI_k fun a2 _ => u0_k fun _ => uE_k fun _ => .inr ⟨a1, a2, by subst_vars; exact ⟨rfl, rfl⟩⟩

theorem rc44_0 (args : List (PV sig)) (m : Mem sig) : (∀ (C : Tab) (ρ : Type) (K : Res sig × Mem sig → Option ρ), Rc44_0 C ρ args m K = none) ∨ ∃ (a1 : Int), args = [.d (.int .u8 a1)] ∧ m = [] := by
  unfold Rc44_0
  exact uC_k fun _ _ _ => uI_k fun a1 _ => u0_k fun _ => uE_k fun _ => .inr ⟨a1, by subst_vars; exact ⟨rfl, rfl⟩⟩

theorem rc45_0 (args : List (PV sig)) (m : Mem sig) : (∀ (C : Tab) (ρ : Type) (K : Res sig × Mem sig → Option ρ), Rc45_0 C ρ args m K = none) ∨ ∃ (a1 : List ByteArray) (a2 : List Tok) (a3 : Int), args = [.ptr 0 0, .d (.sl Key.str a1)] ∧ m = [some [.d (.sl Key.tok a2), .d (.int .i64 a3)]] := by
  unfold Rc45_0
  exact uC_k fun _ _ _ => uP_k fun _ => uC_k fun _ _ _ => uS_k fun a1 _ => u0_k fun _ => uM_k fun _ _ _ => uC_k fun _ _ _ => uS_k fun a2 _ => uC_k fun _ _ _ => uI_k fun a3 _ => u0_k fun _ => uE_k fun _ => .inr ⟨a1, a2, a3, by subst_vars; exact ⟨rfl, rfl⟩⟩

theorem rc46_0 (args : List (PV sig)) (m : Mem sig) : (∀ (C : Tab) (ρ : Type) (K : Res sig × Mem sig → Option ρ), Rc46_0 C ρ args m K = none) ∨ ∃ (a1 : List Tok) (a2 : Int), args = [.ptr 0 0] ∧ m = [some [.d (.sl Key.tok a1), .d (.int .i64 a2)]] := by
  unfold Rc46_0
  exact uC_k fun _ _ _ => uP_k fun _ => u0_k fun _ => uM_k fun _ _ _ => uC_k fun _ _ _ => uS_k fun a1 _ => uC_k fun _ _ _ => uI_k fun a2 _ => u0_k fun _ => uE_k fun _ => .inr ⟨a1, a2, by subst_vars; exact ⟨rfl, rfl⟩⟩

theorem rc47_0 (args : List (PV sig)) (m : Mem sig) : (∀ (C : Tab) (ρ : Type) (K : Res sig × Mem sig → Option ρ), Rc47_0 C ρ args m K = none) ∨ ∃ (a1 : List Tok) (a2 : Int), args = [.ptr 0 0] ∧ m = [some [.d (.sl Key.tok a1), .d (.int .i64 a2)]] := by
  unfold Rc47_0
  exact uC_k fun _ _ _ => uP_k fun _ => u0_k fun _ => uM_k fun _ _ _ => uC_k fun _ _ _ => uS_k fun a1 _ => uC_k fun _ _ _ => uI_k fun a2 _ => u0_k fun _ => uE_k fun _ => .inr ⟨a1, a2, by subst_vars; exact ⟨rfl, rfl⟩⟩

theorem rc48_0 (args : List (PV sig)) (m : Mem sig) : (∀ (C : Tab) (ρ : Type) (K : Res sig × Mem sig → Option ρ), Rc48_0 C ρ args m K = none) ∨ ∃ (a1 : List ByteArray) (a2 : ByteArray), args = [.d (.sl Key.str a1), .d (.str a2)] ∧ m = [] := by
  unfold Rc48_0
  exact uC_k fun _ _ _ => uS_k fun a1 _ => uC_k fun _ _ _ => uStr_k fun a2 _ => u0_k fun _ => uE_k fun _ => .inr ⟨a1, a2, by subst_vars; exact ⟨rfl, rfl⟩⟩

theorem rc53_0 (args : List (PV sig)) (m : Mem sig) : (∀ (C : Tab) (ρ : Type) (K : Res sig × Mem sig → Option ρ), Rc53_0 C ρ args m K = none) ∨ ∃ (a1 : List Tok) (a2 : Int), args = [.ptr 0 0] ∧ m = [some [.d (.sl Key.tok a1), .d (.int .i64 a2)]] := by
  unfold Rc53_0
  exact uC_k fun _ _ _ => uP_k fun _ => u0_k fun _ => uM_k fun _ _ _ => uC_k fun _ _ _ => uS_k fun a1 _ => uC_k fun _ _ _ => uI_k fun a2 _ => u0_k fun _ => uE_k fun _ => .inr ⟨a1, a2, by subst_vars; exact ⟨rfl, rfl⟩⟩

theorem rc54_0 (args : List (PV sig)) (m : Mem sig) : (∀ (C : Tab) (ρ : Type) (K : Res sig × Mem sig → Option ρ), Rc54_0 C ρ args m K = none) ∨ ∃ (a1 : ByteArray), args = [.d (.str a1)] ∧ m = [] := by
  unfold Rc54_0
  exact uC_k fun _ _ _ => uStr_k fun a1 _ => u0_k fun _ => uE_k fun _ => .inr ⟨a1, by subst_vars; exact ⟨rfl, rfl⟩⟩

theorem rc55_0 (args : List (PV sig)) (m : Mem sig) : (∀ (C : Tab) (ρ : Type) (K : Res sig × Mem sig → Option ρ), Rc55_0 C ρ args m K = none) ∨ ∃ (a1 : Rw), args = [.agg [.d (.int .i64 a1.op), .d (.str a1.name), .d (.sl Key.raw a1.args)]] ∧ m = [] := by
  unfold Rc55_0
  exact uC_k fun _ _ _ => uRw_k fun a1 _ => u0_k fun _ => uE_k fun _ => .inr ⟨a1, by subst_vars; exact ⟨rfl, rfl⟩⟩

theorem rc56_0 (args : List (PV sig)) (m : Mem sig) : (∀ (C : Tab) (ρ : Type) (K : Res sig × Mem sig → Option ρ), Rc56_0 C ρ args m K = none) ∨ ∃ (a1 : Pt) (a2 : Int) (a3 : Int), args = [.agg [.d (.int .i64 a1.op), .d (.str a1.sign), .d (.str a1.name), .d (.int .i64 a1.num), .d (.int .i64 a1.raw.op), .d (.str a1.raw.name), .d (.sl Key.raw a1.raw.args), .d (.sl Key.part a1.parts)], .d (.int .i64 a2), .ptr 0 0] ∧ m = [some [.d (.int .i64 a3)]] := by
  unfold Rc56_0
  exact uC_k fun _ _ _ => uPt_k fun a1 _ => uC_k fun _ _ _ => uI_k fun a2 _ => uC_k fun _ _ _ => uP_k fun _ => u0_k fun _ => uM_k fun _ _ _ => uC_k fun _ _ _ => uI_k fun a3 _ => u0_k fun _ => uE_k fun _ => .inr ⟨a1, a2, a3, by subst_vars; exact ⟨rfl, rfl⟩⟩

theorem rc57_0 (args : List (PV sig)) (m : Mem sig) : (∀ (C : Tab) (ρ : Type) (K : Res sig × Mem sig → Option ρ), Rc57_0 C ρ args m K = none) ∨ ∃ (a1 : ByteArray), args = [.d (.str a1)] ∧ m = [] := by
  unfold Rc57_0
  exact uC_k fun _ _ _ => uStr_k fun a1 _ => u0_k fun _ => uE_k fun _ => .inr ⟨a1, by subst_vars; exact ⟨rfl, rfl⟩⟩

theorem rc58_0 (args : List (PV sig)) (m : Mem sig) : (∀ (C : Tab) (ρ : Type) (K : Res sig × Mem sig → Option ρ), Rc58_0 C ρ args m K = none) ∨ ∃ (a1 : List Int) (a2 : Int), args = [.d (.sl Key.int a1), .d (.int .i64 a2)] ∧ m = [] := by
  unfold Rc58_0
  exact uC_k fun _ _ _ => uS_k fun a1 _ => uC_k fun _ _ _ => uI_k fun a2 _ => u0_k fun _ => uE_k fun _ => .inr ⟨a1, a2, by subst_vars; exact ⟨rfl, rfl⟩⟩

theorem rc59_0 (args : List (PV sig)) (m : Mem sig) : (∀ (C : Tab) (ρ : Type) (K : Res sig × Mem sig → Option ρ), Rc59_0 C ρ args m K = none) ∨ ∃ (a1 : ByteArray), args = [.d (.str a1)] ∧ m = [] := by
  unfold Rc59_0
  exact uC_k fun _ _ _ => uStr_k fun a1 _ => u0_k fun _ => uE_k fun _ => .inr ⟨a1, by subst_vars; exact ⟨rfl, rfl⟩⟩

theorem rc60_0 (args : List (PV sig)) (m : Mem sig) : (∀ (C : Tab) (ρ : Type) (K : Res sig × Mem sig → Option ρ), Rc60_0 C ρ args m K = none) ∨ ∃ (a1 : Int) (a2 : ByteArray) (a3 : Int), args = [.ptr 0 0, .d (.int .i64 a1)] ∧ m = [some [.d (.str a2), .d (.int .i64 a3)]] := by
  unfold Rc60_0
  exact uC_k fun _ _ _ => uP_k fun _ => uC_k fun _ _ _ => uI_k fun a1 _ => u0_k fun _ => uM_k fun _ _ _ => uC_k fun _ _ _ => uStr_k fun a2 _ => uC_k fun _ _ _ => uI_k fun a3 _ => u0_k fun _ => uE_k fun _ => .inr ⟨a1, a2, a3, by subst_vars; exact ⟨rfl, rfl⟩⟩

theorem rc61_0 (args : List (PV sig)) (m : Mem sig) : (∀ (C : Tab) (ρ : Type) (K : Res sig × Mem sig → Option ρ), Rc61_0 C ρ args m K = none) ∨ ∃ (a1 : ByteArray) (a2 : Int), args = [.d (.str a1), .d (.int .u8 a2)] ∧ m = [] := by
  unfold Rc61_0
  exact uC_k fun _ _ _ => uStr_k fun a1 _ => uC_k fun _ _ _ => uI_k fun a2 _ => u0_k fun _ => uE_k fun _ => .inr ⟨a1, a2, by subst_vars; exact ⟨rfl, rfl⟩⟩

theorem rc62_0 (args : List (PV sig)) (m : Mem sig) : (∀ (C : Tab) (ρ : Type) (K : Res sig × Mem sig → Option ρ), Rc62_0 C ρ args m K = none) ∨ ∃ (a1 : Int) (a2 : ByteArray) (a3 : Bool), args = [.d (.int .i64 a1), .d (.str a2), .d (.bool a3)] ∧ m = [] := by
  unfold Rc62_0
  exact uC_k fun _ _ _ => uI_k fun a1 _ => uC_k fun _ _ _ => uStr_k fun a2 _ => uC_k fun _ _ _ => uB_k fun a3 _ => u0_k fun _ => uE_k fun _ => .inr ⟨a1, a2, a3, by subst_vars; exact ⟨rfl, rfl⟩⟩

theorem rc63_0 (args : List (PV sig)) (m : Mem sig) : (∀ (C : Tab) (ρ : Type) (K : Res sig × Mem sig → Option ρ), Rc63_0 C ρ args m K = none) ∨ ∃ (a1 : Int), args = [.d (.int .u8 a1)] ∧ m = [] := by
  unfold Rc63_0
  exact uC_k fun _ _ _ => uI_k fun a1 _ => u0_k fun _ => uE_k fun _ => .inr ⟨a1, by subst_vars; exact ⟨rfl, rfl⟩⟩

theorem rc64_0 (args : List (PV sig)) (m : Mem sig) : (∀ (C : Tab) (ρ : Type) (K : Res sig × Mem sig → Option ρ), Rc64_0 C ρ args m K = none) ∨ ∃ (a1 : ByteArray) (a2 : Int), args = [.ptr 0 0, .ptr 1 0] ∧ m = [some [.d (.str a1), .d (.int .i64 a2)], some [.fn (.func 62) [] []]] := by
  unfold Rc64_0
  exact uC_k fun _ _ _ => uP_k fun _ => uC_k fun _ _ _ => uP_k fun _ => u0_k fun _ => uM_k fun _ _ _ => uC_k fun _ _ _ => uStr_k fun a1 _ => uC_k fun _ _ _ => uI_k fun a2 _ => u0_k fun _ => uM_k fun _ _ _ => uC_k fun _ _ _ => uFn_k fun _ _ _ => u0_k fun _ => u0_k fun _ => u0_k fun _ => uE_k fun _ => .inr ⟨a1, a2, by subst_vars; exact ⟨rfl, rfl⟩⟩

theorem rc65_0 (args : List (PV sig)) (m : Mem sig) : (∀ (C : Tab) (ρ : Type) (K : Res sig × Mem sig → Option ρ), Rc65_0 C ρ args m K = none) ∨ ∃ (a1 : Int) (a2 : ByteArray) (a3 : Int), args = [.ptr 0 0, .d (.int .i64 a1)] ∧ m = [some [.d (.str a2), .d (.int .i64 a3)]] := by
  unfold Rc65_0
  exact uC_k fun _ _ _ => uP_k fun _ => uC_k fun _ _ _ => uI_k fun a1 _ => u0_k fun _ => uM_k fun _ _ _ => uC_k fun _ _ _ => uStr_k fun a2 _ => uC_k fun _ _ _ => uI_k fun a3 _ => u0_k fun _ => uE_k fun _ => .inr ⟨a1, a2, a3, by subst_vars; exact ⟨rfl, rfl⟩⟩

theorem rc66_0 (args : List (PV sig)) (m : Mem sig) : (∀ (C : Tab) (ρ : Type) (K : Res sig × Mem sig → Option ρ), Rc66_0 C ρ args m K = none) ∨ ∃ (a1 : Int), args = [.d (.int .u8 a1)] ∧ m = [] := by
  unfold Rc66_0
  exact uC_k fun _ _ _ => uI_k fun a1 _ => u0_k fun _ => uE_k fun _ => .inr ⟨a1, by subst_vars; exact ⟨rfl, rfl⟩⟩

theorem rc67_0 (args : List (PV sig)) (m : Mem sig) : (∀ (C : Tab) (ρ : Type) (K : Res sig × Mem sig → Option ρ), Rc67_0 C ρ args m K = none) ∨ ∃ (a1 : ByteArray) (a2 : Int), args = [.ptr 0 0, .ptr 1 0] ∧ m = [some [.d (.str a1), .d (.int .i64 a2)], some [.fn (.func 62) [] []]] := by
  unfold Rc67_0
  exact uC_k fun _ _ _ => uP_k fun _ => uC_k fun _ _ _ => uP_k fun _ => u0_k fun _ => uM_k fun _ _ _ => uC_k fun _ _ _ => uStr_k fun a1 _ => uC_k fun _ _ _ => uI_k fun a2 _ => u0_k fun _ => uM_k fun _ _ _ => uC_k fun _ _ _ => uFn_k fun _ _ _ => u0_k fun _ => u0_k fun _ => u0_k fun _ => uE_k fun _ => .inr ⟨a1, a2, by subst_vars; exact ⟨rfl, rfl⟩⟩

theorem rc68_0 (args : List (PV sig)) (m : Mem sig) : (∀ (C : Tab) (ρ : Type) (K : Res sig × Mem sig → Option ρ), Rc68_0 C ρ args m K = none) ∨ ∃ (a1 : Int), args = [.d (.int .u8 a1)] ∧ m = [] := by
  unfold Rc68_0
  exact uC_k fun _ _ _ => uI_k fun a1 _ => u0_k fun _ => uE_k fun _ => .inr ⟨a1, by subst_vars; exact ⟨rfl, rfl⟩⟩

theorem rc69_0 (args : List (PV sig)) (m : Mem sig) : (∀ (C : Tab) (ρ : Type) (K : Res sig × Mem sig → Option ρ), Rc69_0 C ρ args m K = none) ∨ ∃ (a1 : ByteArray) (a2 : Int), args = [.ptr 0 0, .ptr 1 0] ∧ m = [some [.d (.str a1), .d (.int .i64 a2)], some [.fn (.func 62) [] []]] := by
  unfold Rc69_0
  exact uC_k fun _ _ _ => uP_k fun _ => uC_k fun _ _ _ => uP_k fun _ => u0_k fun _ => uM_k fun _ _ _ => uC_k fun _ _ _ => uStr_k fun a1 _ => uC_k fun _ _ _ => uI_k fun a2 _ => u0_k fun _ => uM_k fun _ _ _ => uC_k fun _ _ _ => uFn_k fun _ _ _ => u0_k fun _ => u0_k fun _ => u0_k fun _ => uE_k fun _ => .inr ⟨a1, a2, by subst_vars; exact ⟨rfl, rfl⟩⟩

theorem rc70_0 (args : List (PV sig)) (m : Mem sig) : (∀ (C : Tab) (ρ : Type) (K : Res sig × Mem sig → Option ρ), Rc70_0 C ρ args m K = none) ∨ ∃ (a1 : ByteArray), args = [.d (.str a1)] ∧ m = [] := by
  unfold Rc70_0
  exact uC_k fun _ _ _ => uStr_k fun a1 _ => u0_k fun _ => uE_k fun _ => .inr ⟨a1, by subst_vars; exact ⟨rfl, rfl⟩⟩

theorem rc71_0 (args : List (PV sig)) (m : Mem sig) : (∀ (C : Tab) (ρ : Type) (K : Res sig × Mem sig → Option ρ), Rc71_0 C ρ args m K = none) ∨ ∃ (a1 : ByteArray) (a2 : Int), args = [.ptr 0 0, .ptr 1 0] ∧ m = [some [.d (.str a1), .d (.int .i64 a2)], some [.fn (.func 62) [] []]] := by
  unfold Rc71_0
  exact uC_k fun _ _ _ => uP_k fun _ => uC_k fun _ _ _ => uP_k fun _ => u0_k fun _ => uM_k fun _ _ _ => uC_k fun _ _ _ => uStr_k fun a1 _ => uC_k fun _ _ _ => uI_k fun a2 _ => u0_k fun _ => uM_k fun _ _ _ => uC_k fun _ _ _ => uFn_k fun _ _ _ => u0_k fun _ => u0_k fun _ => u0_k fun _ => uE_k fun _ => .inr ⟨a1, a2, by subst_vars; exact ⟨rfl, rfl⟩⟩

theorem rc72_0 (args : List (PV sig)) (m : Mem sig) : (∀ (C : Tab) (ρ : Type) (K : Res sig × Mem sig → Option ρ), Rc72_0 C ρ args m K = none) ∨ ∃ (a1 : ByteArray) (a2 : Int), args = [.ptr 0 0, .ptr 1 0] ∧ m = [some [.d (.str a1), .d (.int .i64 a2)], some [.fn (.func 62) [] []]] := by
  unfold Rc72_0
  exact uC_k fun _ _ _ => uP_k fun _ => uC_k fun _ _ _ => uP_k fun _ => u0_k fun _ => uM_k fun _ _ _ => uC_k fun _ _ _ => uStr_k fun a1 _ => uC_k fun _ _ _ => uI_k fun a2 _ => u0_k fun _ => uM_k fun _ _ _ => uC_k fun _ _ _ => uFn_k fun _ _ _ => u0_k fun _ => u0_k fun _ => u0_k fun _ => uE_k fun _ => .inr ⟨a1, a2, by subst_vars; exact ⟨rfl, rfl⟩⟩

theorem rc73_0 (args : List (PV sig)) (m : Mem sig) : (∀ (C : Tab) (ρ : Type) (K : Res sig × Mem sig → Option ρ), Rc73_0 C ρ args m K = none) ∨ ∃ (a1 : ByteArray) (a2 : Int), args = [.ptr 0 0] ∧ m = [some [.d (.str a1), .d (.int .i64 a2)]] := by
  unfold Rc73_0
  exact uC_k fun _ _ _ => uP_k fun _ => u0_k fun _ => uM_k fun _ _ _ => uC_k fun _ _ _ => uStr_k fun a1 _ => uC_k fun _ _ _ => uI_k fun a2 _ => u0_k fun _ => uE_k fun _ => .inr ⟨a1, a2, by subst_vars; exact ⟨rfl, rfl⟩⟩

theorem rc74_0 (args : List (PV sig)) (m : Mem sig) : (∀ (C : Tab) (ρ : Type) (K : Res sig × Mem sig → Option ρ), Rc74_0 C ρ args m K = none) ∨ ∃ (a1 : ByteArray) (a2 : Int), args = [.ptr 0 0, .ptr 1 0] ∧ m = [some [.d (.str a1), .d (.int .i64 a2)], some [.fn (.func 62) [] []]] := by
  unfold Rc74_0
  exact uC_k fun _ _ _ => uP_k fun _ => uC_k fun _ _ _ => uP_k fun _ => u0_k fun _ => uM_k fun _ _ _ => uC_k fun _ _ _ => uStr_k fun a1 _ => uC_k fun _ _ _ => uI_k fun a2 _ => u0_k fun _ => uM_k fun _ _ _ => uC_k fun _ _ _ => uFn_k fun _ _ _ => u0_k fun _ => u0_k fun _ => u0_k fun _ => uE_k fun _ => .inr ⟨a1, a2, by subst_vars; exact ⟨rfl, rfl⟩⟩

theorem rc75_0 (args : List (PV sig)) (m : Mem sig) : (∀ (C : Tab) (ρ : Type) (K : Res sig × Mem sig → Option ρ), Rc75_0 C ρ args m K = none) ∨ ∃ (a1 : ByteArray) (a2 : Int) (a3 : Int), args = [.ptr 0 0, .ptr 1 0, .ptr 2 0] ∧ m = [some [.d (.str a1), .d (.int .i64 a2)], some [.fn (.func 62) [] []], some [.d (.int .u8 a3)]] := by
  unfold Rc75_0
  exact uC_k fun _ _ _ => uP_k fun _ => uC_k fun _ _ _ => uP_k fun _ => uC_k fun _ _ _ => uP_k fun _ => u0_k fun _ => uM_k fun _ _ _ => uC_k fun _ _ _ => uStr_k fun a1 _ => uC_k fun _ _ _ => uI_k fun a2 _ => u0_k fun _ => uM_k fun _ _ _ => uC_k fun _ _ _ => uFn_k fun _ _ _ => u0_k fun _ => u0_k fun _ => u0_k fun _ => uM_k fun _ _ _ => uC_k fun _ _ _ => uI_k fun a3 _ => u0_k fun _ => uE_k fun _ => .inr ⟨a1, a2, a3, by subst_vars; exact ⟨rfl, rfl⟩⟩

theorem rc76_0 (args : List (PV sig)) (m : Mem sig) : (∀ (C : Tab) (ρ : Type) (K : Res sig × Mem sig → Option ρ), Rc76_0 C ρ args m K = none) ∨ ∃ (a1 : List Tok) (a2 : Int), args = [.ptr 0 0] ∧ m = [some [.d (.sl Key.tok a1), .d (.int .i64 a2)]] := by
  unfold Rc76_0
  exact uC_k fun _ _ _ => uP_k fun _ => u0_k fun _ => uM_k fun _ _ _ => uC_k fun _ _ _ => uS_k fun a1 _ => uC_k fun _ _ _ => uI_k fun a2 _ => u0_k fun _ => uE_k fun _ => .inr ⟨a1, a2, by subst_vars; exact ⟨rfl, rfl⟩⟩

theorem rc77_0 (args : List (PV sig)) (m : Mem sig) : (∀ (C : Tab) (ρ : Type) (K : Res sig × Mem sig → Option ρ), Rc77_0 C ρ args m K = none) ∨ ∃ (a1 : ByteArray) (a2 : List Tok) (a3 : Int), args = [.ptr 0 0, .d (.str a1)] ∧ m = [some [.d (.sl Key.tok a2), .d (.int .i64 a3)]] := by
  unfold Rc77_0
  exact uC_k fun _ _ _ => uP_k fun _ => uC_k fun _ _ _ => uStr_k fun a1 _ => u0_k fun _ => uM_k fun _ _ _ => uC_k fun _ _ _ => uS_k fun a2 _ => uC_k fun _ _ _ => uI_k fun a3 _ => u0_k fun _ => uE_k fun _ => .inr ⟨a1, a2, a3, by subst_vars; exact ⟨rfl, rfl⟩⟩

theorem rc78_0 (args : List (PV sig)) (m : Mem sig) : (∀ (C : Tab) (ρ : Type) (K : Res sig × Mem sig → Option ρ), Rc78_0 C ρ args m K = none) ∨ ∃ (a1 : List Tok) (a2 : Int), args = [.ptr 0 0] ∧ m = [some [.d (.sl Key.tok a1), .d (.int .i64 a2)]] := by
  unfold Rc78_0
  exact uC_k fun _ _ _ => uP_k fun _ => u0_k fun _ => uM_k fun _ _ _ => uC_k fun _ _ _ => uS_k fun a1 _ => uC_k fun _ _ _ => uI_k fun a2 _ => u0_k fun _ => uE_k fun _ => .inr ⟨a1, a2, by subst_vars; exact ⟨rfl, rfl⟩⟩

theorem rc79_0 (args : List (PV sig)) (m : Mem sig) : (∀ (C : Tab) (ρ : Type) (K : Res sig × Mem sig → Option ρ), Rc79_0 C ρ args m K = none) ∨ ∃ (a1 : List Tok) (a2 : Int), args = [.ptr 0 0] ∧ m = [some [.d (.sl Key.tok a1), .d (.int .i64 a2)]] := by
  unfold Rc79_0
  exact uC_k fun _ _ _ => uP_k fun _ => u0_k fun _ => uM_k fun _ _ _ => uC_k fun _ _ _ => uS_k fun a1 _ => uC_k fun _ _ _ => uI_k fun a2 _ => u0_k fun _ => uE_k fun _ => .inr ⟨a1, a2, by subst_vars; exact ⟨rfl, rfl⟩⟩

theorem rc80_0 (args : List (PV sig)) (m : Mem sig) : (∀ (C : Tab) (ρ : Type) (K : Res sig × Mem sig → Option ρ), Rc80_0 C ρ args m K = none) ∨ ∃ (a1 : List ByteArray) (a2 : ByteArray), args = [.d (.sl Key.str a1), .d (.str a2)] ∧ m = [] := by
  unfold Rc80_0
  exact uC_k fun _ _ _ => uS_k fun a1 _ => uC_k fun _ _ _ => uStr_k fun a2 _ => u0_k fun _ => uE_k fun _ => .inr ⟨a1, a2, by subst_vars; exact ⟨rfl, rfl⟩⟩

theorem rc81_0 (args : List (PV sig)) (m : Mem sig) : (∀ (C : Tab) (ρ : Type) (K : Res sig × Mem sig → Option ρ), Rc81_0 C ρ args m K = none) ∨ ∃ (a1 : ByteArray) (a2 : List Tok) (a3 : Int), args = [.ptr 0 0, .d (.str a1)] ∧ m = [some [.d (.sl Key.tok a2), .d (.int .i64 a3)]] := by
  unfold Rc81_0
  exact uC_k fun _ _ _ => uP_k fun _ => uC_k fun _ _ _ => uStr_k fun a1 _ => u0_k fun _ => uM_k fun _ _ _ => uC_k fun _ _ _ => uS_k fun a2 _ => uC_k fun _ _ _ => uI_k fun a3 _ => u0_k fun _ => uE_k fun _ => .inr ⟨a1, a2, a3, by subst_vars; exact ⟨rfl, rfl⟩⟩

theorem rc82_0 (args : List (PV sig)) (m : Mem sig) : (∀ (C : Tab) (ρ : Type) (K : Res sig × Mem sig → Option ρ), Rc82_0 C ρ args m K = none) ∨ ∃ (a1 : ByteArray), args = [.d (.str a1), .fn (.func 63) [] []] ∧ m = [] := by
  unfold Rc82_0
  exact uC_k fun _ _ _ => uStr_k fun a1 _ => uC_k fun _ _ _ => uFn_k fun _ _ _ => u0_k fun _ => u0_k fun _ => u0_k fun _ => uE_k fun _ => .inr ⟨a1, by subst_vars; exact ⟨rfl, rfl⟩⟩

theorem rc82_1 (args : List (PV sig)) (m : Mem sig) : (∀ (C : Tab) (ρ : Type) (K : Res sig × Mem sig → Option ρ), Rc82_1 C ρ args m K = none) ∨ ∃ (a1 : ByteArray), args = [.d (.str a1), .fn (.func 66) [] []] ∧ m = [] := by
  unfold Rc82_1
  exact uC_k fun _ _ _ => uStr_k fun a1 _ => uC_k fun _ _ _ => uFn_k fun _ _ _ => u0_k fun _ => u0_k fun _ => u0_k fun _ => uE_k fun _ => .inr ⟨a1, by subst_vars; exact ⟨rfl, rfl⟩⟩

theorem rc83_0 (args : List (PV sig)) (m : Mem sig) : (∀ (C : Tab) (ρ : Type) (K : Res sig × Mem sig → Option ρ), Rc83_0 C ρ args m K = none) ∨ ∃ (a1 : Int), args = [.d (.int .u8 a1)] ∧ m = [] := by
  unfold Rc83_0
  exact uC_k fun _ _ _ => uI_k fun a1 _ => u0_k fun _ => uE_k fun _ => .inr ⟨a1, by subst_vars; exact ⟨rfl, rfl⟩⟩

theorem rc84_0 (args : List (PV sig)) (m : Mem sig) : (∀ (C : Tab) (ρ : Type) (K : Res sig × Mem sig → Option ρ), Rc84_0 C ρ args m K = none) ∨ ∃ (a1 : ByteArray) (a2 : Int), args = [.d (.str a1), .d (.int .i64 a2)] ∧ m = [] := by
  unfold Rc84_0
  exact uC_k fun _ _ _ => uStr_k fun a1 _ => uC_k fun _ _ _ => uI_k fun a2 _ => u0_k fun _ => uE_k fun _ => .inr ⟨a1, a2, by subst_vars; exact ⟨rfl, rfl⟩⟩

theorem rc86_0 (args : List (PV sig)) (m : Mem sig) : (∀ (C : Tab) (ρ : Type) (K : Res sig × Mem sig → Option ρ), Rc86_0 C ρ args m K = none) ∨ ∃ (a1 : Int), args = [.d (.int .u8 a1)] ∧ m = [] := by
  unfold Rc86_0
  exact uC_k fun _ _ _ => uI_k fun a1 _ => u0_k fun _ => uE_k fun _ => .inr ⟨a1, by subst_vars; exact ⟨rfl, rfl⟩⟩

theorem rc87_0 (args : List (PV sig)) (m : Mem sig) : (∀ (C : Tab) (ρ : Type) (K : Res sig × Mem sig → Option ρ), Rc87_0 C ρ args m K = none) ∨ ∃ (a1 : ByteArray), args = [.d (.str a1)] ∧ m = [] := by
  unfold Rc87_0
  exact uC_k fun _ _ _ => uStr_k fun a1 _ => u0_k fun _ => uE_k fun _ => .inr ⟨a1, by subst_vars; exact ⟨rfl, rfl⟩⟩

theorem rc88_0 (args : List (PV sig)) (m : Mem sig) : (∀ (C : Tab) (ρ : Type) (K : Res sig × Mem sig → Option ρ), Rc88_0 C ρ args m K = none) ∨ ∃ (a1 : Int), args = [.d (.int .i64 a1)] ∧ m = [] := by
  unfold Rc88_0
  exact uC_k fun _ _ _ => uI_k fun a1 _ => u0_k fun _ => uE_k fun _ => .inr ⟨a1, by subst_vars; exact ⟨rfl, rfl⟩⟩

theorem rc89_0 (args : List (PV sig)) (m : Mem sig) : (∀ (C : Tab) (ρ : Type) (K : Res sig × Mem sig → Option ρ), Rc89_0 C ρ args m K = none) ∨ ∃ (a1 : Tok), args = [.agg [.d (.int .i64 a1.kind), .d (.str a1.text), .d (.int .i64 (a1.at_))]] ∧ m = [] := by
  unfold Rc89_0
  exact uC_k fun _ _ _ => uTok_k fun a1 _ => u0_k fun _ => uE_k fun _ => .inr ⟨a1, by subst_vars; exact ⟨rfl, rfl⟩⟩

theorem rc90_0 (args : List (PV sig)) (m : Mem sig) : (∀ (C : Tab) (ρ : Type) (K : Res sig × Mem sig → Option ρ), Rc90_0 C ρ args m K = none) ∨ ∃ (a1 : List Tok) (a2 : Int), args = [.ptr 0 0] ∧ m = [some [.d (.sl Key.tok a1), .d (.int .i64 a2)]] := by
  unfold Rc90_0
  exact uC_k fun _ _ _ => uP_k fun _ => u0_k fun _ => uM_k fun _ _ _ => uC_k fun _ _ _ => uS_k fun a1 _ => uC_k fun _ _ _ => uI_k fun a2 _ => u0_k fun _ => uE_k fun _ => .inr ⟨a1, a2, by subst_vars; exact ⟨rfl, rfl⟩⟩

theorem rc91_0 (args : List (PV sig)) (m : Mem sig) : (∀ (C : Tab) (ρ : Type) (K : Res sig × Mem sig → Option ρ), Rc91_0 C ρ args m K = none) ∨ ∃ (a1 : List Tok) (a2 : Int), args = [.ptr 0 0] ∧ m = [some [.d (.sl Key.tok a1), .d (.int .i64 a2)]] := by
  unfold Rc91_0
  exact uC_k fun _ _ _ => uP_k fun _ => u0_k fun _ => uM_k fun _ _ _ => uC_k fun _ _ _ => uS_k fun a1 _ => uC_k fun _ _ _ => uI_k fun a2 _ => u0_k fun _ => uE_k fun _ => .inr ⟨a1, a2, by subst_vars; exact ⟨rfl, rfl⟩⟩

theorem rc92_0 (args : List (PV sig)) (m : Mem sig) : (∀ (C : Tab) (ρ : Type) (K : Res sig × Mem sig → Option ρ), Rc92_0 C ρ args m K = none) ∨ ∃ (a1 : Int), args = [.d (.int .u8 a1)] ∧ m = [] := by
  unfold Rc92_0
  exact uC_k fun _ _ _ => uI_k fun a1 _ => u0_k fun _ => uE_k fun _ => .inr ⟨a1, by subst_vars; exact ⟨rfl, rfl⟩⟩

theorem rc93_0 (args : List (PV sig)) (m : Mem sig) : (∀ (C : Tab) (ρ : Type) (K : Res sig × Mem sig → Option ρ), Rc93_0 C ρ args m K = none) ∨ ∃ (a1 : Int), args = [.d (.int .u8 a1)] ∧ m = [] := by
  unfold Rc93_0
  exact uC_k fun _ _ _ => uI_k fun a1 _ => u0_k fun _ => uE_k fun _ => .inr ⟨a1, by subst_vars; exact ⟨rfl, rfl⟩⟩

theorem rc98_0 (args : List (PV sig)) (m : Mem sig) : (∀ (C : Tab) (ρ : Type) (K : Res sig × Mem sig → Option ρ), Rc98_0 C ρ args m K = none) ∨ ∃ (a1 : Int) (a2 : List Tok) (a3 : Int), args = [.ptr 0 0, .d (.int .i64 a1)] ∧ m = [some [.d (.sl Key.tok a2), .d (.int .i64 a3)]] := by
  unfold Rc98_0
  exact uC_k fun _ _ _ => uP_k fun _ => uC_k fun _ _ _ => uI_k fun a1 _ => u0_k fun _ => uM_k fun _ _ _ => uC_k fun _ _ _ => uS_k fun a2 _ => uC_k fun _ _ _ => uI_k fun a3 _ => u0_k fun _ => uE_k fun _ => .inr ⟨a1, a2, a3, by subst_vars; exact ⟨rfl, rfl⟩⟩

theorem rl8_4_0 (vs : List (PV sig)) (m : Mem sig) (ds : List (FuncId × List (PV sig))) (nt : Nat) : (∀ (C : Tab) (ρ : Type) (K : Ex sig → St sig → Option ρ), Rl8_4_0 C ρ vs m ds nt K = none) ∨ ∃ (a1 : Int) (a2 : Int) (a3 : Int) (a4 : Rw), vs = [.d (.int .i64 a1), .ptr 0 0, .d (.int .i64 a2), .d (.int .i64 a3)] ∧ m = [some [.d (.int .i64 a4.op), .d (.str a4.name), .full Key.raw a4.args]] ∧ ds = [] ∧ nt = 130 := by
  unfold Rl8_4_0
  exact uN_k fun _ => uC_k fun _ _ _ => uI_k fun a1 _ => uC_k fun _ _ _ => uP_k fun _ => uC_k fun _ _ _ => uI_k fun a2 _ => uC_k fun _ _ _ => uI_k fun a3 _ => u0_k fun _ => uM_k fun _ _ _ => uRwL_k fun a4 _ => uE_k fun _ => uDe_k fun _ => .inr ⟨a1, a2, a3, a4, by subst_vars; exact ⟨rfl, rfl, rfl, rfl⟩⟩

theorem rl8_9_0 (vs : List (PV sig)) (m : Mem sig) (ds : List (FuncId × List (PV sig))) (nt : Nat) : (∀ (C : Tab) (ρ : Type) (K : Ex sig → St sig → Option ρ), Rl8_9_0 C ρ vs m ds nt K = none) ∨ ∃ (a1 : Int) (a2 : Int) (a3 : Rw) (a4 : Rw), vs = [.d (.int .i64 a1), .ptr 0 0, .ptr 1 0, .d (.int .i64 a2)] ∧ m = [some [.d (.int .i64 a3.op), .d (.str a3.name), .full Key.raw a3.args], some [.d (.int .i64 a4.op), .d (.str a4.name), .full Key.raw a4.args]] ∧ ds = [] ∧ nt = 130 := by
  unfold Rl8_9_0
  exact uN_k fun _ => uC_k fun _ _ _ => uI_k fun a1 _ => uC_k fun _ _ _ => uP_k fun _ => uC_k fun _ _ _ => uP_k fun _ => uC_k fun _ _ _ => uI_k fun a2 _ => u0_k fun _ => uM_k fun _ _ _ => uRwL_k fun a3 _ => uM_k fun _ _ _ => uRwL_k fun a4 _ => uE_k fun _ => uDe_k fun _ => .inr ⟨a1, a2, a3, a4, by subst_vars; exact ⟨rfl, rfl, rfl, rfl⟩⟩

theorem rl8_16_0 (vs : List (PV sig)) (m : Mem sig) (ds : List (FuncId × List (PV sig))) (nt : Nat) : (∀ (C : Tab) (ρ : Type) (K : Ex sig → St sig → Option ρ), Rl8_16_0 C ρ vs m ds nt K = none) ∨ ∃ (a1 : Int) (a2 : Int) (a3 : List Rw) (a4 : Int) (a5 : Int) (a6 : Rw) (a7 : Rw) (a8 : Rw), vs = [.d (.int .i64 a1), .ptr 0 0, .ptr 2 0, .d (.int .i64 a2), .full Key.raw a3, .d (.int .i64 a4), .d (.int .i64 a5)] ∧ m = [some [.d (.int .i64 a6.op), .d (.str a6.name), .full Key.raw a6.args], some [.d (.int .i64 a7.op), .d (.str a7.name), .full Key.raw a7.args], some [.d (.int .i64 a8.op), .d (.str a8.name), .full Key.raw a8.args]] ∧ ds = [] ∧ nt = 130 := by
  unfold Rl8_16_0
  exact uN_k fun _ => uC_k fun _ _ _ => uI_k fun a1 _ => uC_k fun _ _ _ => uP_k fun _ => uC_k fun _ _ _ => uP_k fun _ => uC_k fun _ _ _ => uI_k fun a2 _ => uC_k fun _ _ _ => uS_k fun a3 _ => uC_k fun _ _ _ => uI_k fun a4 _ => uC_k fun _ _ _ => uI_k fun a5 _ => u0_k fun _ => uM_k fun _ _ _ => uRwL_k fun a6 _ => uM_k fun _ _ _ => uRwL_k fun a7 _ => uM_k fun _ _ _ => uRwL_k fun a8 _ => uE_k fun _ => uDe_k fun _ => .inr ⟨a1, a2, a3, a4, a5, a6, a7, a8, by subst_vars; exact ⟨rfl, rfl, rfl, rfl⟩⟩

theorem rl8_22_0 (vs : List (PV sig)) (m : Mem sig) (ds : List (FuncId × List (PV sig))) (nt : Nat) : (∀ (C : Tab) (ρ : Type) (K : Ex sig → St sig → Option ρ), Rl8_22_0 C ρ vs m ds nt K = none) ∨ ∃ (a1 : Int) (a2 : Int) (a3 : Int) (a4 : Int) (a5 : Rw) (a6 : Rw) (a7 : Rw), vs = [.d (.int .i64 a1), .ptr 0 0, .ptr 2 0, .d (.int .i64 a2), .d (.int .i64 a3), .d (.int .i64 a4)] ∧ m = [some [.d (.int .i64 a5.op), .d (.str a5.name), .full Key.raw a5.args], some [.d (.int .i64 a6.op), .d (.str a6.name), .full Key.raw a6.args], some [.d (.int .i64 a7.op), .d (.str a7.name), .full Key.raw a7.args]] ∧ ds = [] ∧ nt = 130 := by
  unfold Rl8_22_0
  exact uN_k fun _ => uC_k fun _ _ _ => uI_k fun a1 _ => uC_k fun _ _ _ => uP_k fun _ => uC_k fun _ _ _ => uP_k fun _ => uC_k fun _ _ _ => uI_k fun a2 _ => uC_k fun _ _ _ => uI_k fun a3 _ => uC_k fun _ _ _ => uI_k fun a4 _ => u0_k fun _ => uM_k fun _ _ _ => uRwL_k fun a5 _ => uM_k fun _ _ _ => uRwL_k fun a6 _ => uM_k fun _ _ _ => uRwL_k fun a7 _ => uE_k fun _ => uDe_k fun _ => .inr ⟨a1, a2, a3, a4, a5, a6, a7, by subst_vars; exact ⟨rfl, rfl, rfl, rfl⟩⟩

theorem rl8_27_0 (vs : List (PV sig)) (m : Mem sig) (ds : List (FuncId × List (PV sig))) (nt : Nat) : (∀ (C : Tab) (ρ : Type) (K : Ex sig → St sig → Option ρ), Rl8_27_0 C ρ vs m ds nt K = none) ∨ ∃ (a1 : Int) (a2 : Int) (a3 : Int) (a4 : Int) (a5 : Rw) (a6 : Rw) (a7 : Rw), vs = [.d (.int .i64 a1), .ptr 0 0, .ptr 2 0, .d (.int .i64 a2), .d (.int .i64 a3), .d (.int .i64 a4)] ∧ m = [some [.d (.int .i64 a5.op), .d (.str a5.name), .full Key.raw a5.args], some [.d (.int .i64 a6.op), .d (.str a6.name), .full Key.raw a6.args], some [.d (.int .i64 a7.op), .d (.str a7.name), .full Key.raw a7.args]] ∧ ds = [] ∧ nt = 130 := by
  unfold Rl8_27_0
  exact uN_k fun _ => uC_k fun _ _ _ => uI_k fun a1 _ => uC_k fun _ _ _ => uP_k fun _ => uC_k fun _ _ _ => uP_k fun _ => uC_k fun _ _ _ => uI_k fun a2 _ => uC_k fun _ _ _ => uI_k fun a3 _ => uC_k fun _ _ _ => uI_k fun a4 _ => u0_k fun _ => uM_k fun _ _ _ => uRwL_k fun a5 _ => uM_k fun _ _ _ => uRwL_k fun a6 _ => uM_k fun _ _ _ => uRwL_k fun a7 _ => uE_k fun _ => uDe_k fun _ => .inr ⟨a1, a2, a3, a4, a5, a6, a7, by subst_vars; exact ⟨rfl, rfl, rfl, rfl⟩⟩

theorem rl8_33_0 (vs : List (PV sig)) (m : Mem sig) (ds : List (FuncId × List (PV sig))) (nt : Nat) : (∀ (C : Tab) (ρ : Type) (K : Ex sig → St sig → Option ρ), Rl8_33_0 C ρ vs m ds nt K = none) ∨ ∃ (a1 : Int) (a2 : Int) (a3 : List Int) (a4 : Int) (a5 : Int) (a6 : Rw) (a7 : Rw) (a8 : Rw), vs = [.d (.int .i64 a1), .ptr 0 0, .ptr 2 0, .d (.int .i64 a2), .own Key.u8 a3, .d (.int .i64 a4), .d (.int .i64 a5)] ∧ m = [some [.d (.int .i64 a6.op), .d (.str a6.name), .full Key.raw a6.args], some [.d (.int .i64 a7.op), .d (.str a7.name), .full Key.raw a7.args], some [.d (.int .i64 a8.op), .d (.str a8.name), .full Key.raw a8.args]] ∧ ds = [] ∧ nt = 130 := by
  unfold Rl8_33_0
  exact uN_k fun _ => uC_k fun _ _ _ => uI_k fun a1 _ => uC_k fun _ _ _ => uP_k fun _ => uC_k fun _ _ _ => uP_k fun _ => uC_k fun _ _ _ => uI_k fun a2 _ => uC_k fun _ _ _ => uS_k fun a3 _ => uC_k fun _ _ _ => uI_k fun a4 _ => uC_k fun _ _ _ => uI_k fun a5 _ => u0_k fun _ => uM_k fun _ _ _ => uRwL_k fun a6 _ => uM_k fun _ _ _ => uRwL_k fun a7 _ => uM_k fun _ _ _ => uRwL_k fun a8 _ => uE_k fun _ => uDe_k fun _ => .inr ⟨a1, a2, a3, a4, a5, a6, a7, a8, by subst_vars; exact ⟨rfl, rfl, rfl, rfl⟩⟩

theorem rl15_4_0 (vs : List (PV sig)) (m : Mem sig) (ds : List (FuncId × List (PV sig))) (nt : Nat) : (∀ (C : Tab) (ρ : Type) (K : Ex sig → St sig → Option ρ), Rl15_4_0 C ρ vs m ds nt K = none) ∨ ∃ (a1 : Int) (a2 : Rw) (a3 : Rw), vs = [.ptr 0 0, .ptr 1 0, .d (.int .i64 a1)] ∧ m = [some [.d (.int .i64 a2.op), .d (.str a2.name), .d (.sl Key.raw a2.args)], some [.d (.int .i64 a3.op), .d (.str a3.name), .d (.sl Key.raw a3.args)]] ∧ ds = [] ∧ nt = 46 := by
  unfold Rl15_4_0
  exact uN_k fun _ => uC_k fun _ _ _ => uP_k fun _ => uC_k fun _ _ _ => uP_k fun _ => uC_k fun _ _ _ => uI_k fun a1 _ => u0_k fun _ => uM_k fun _ _ _ => uRwL_k fun a2 _ => uM_k fun _ _ _ => uRwL_k fun a3 _ => uE_k fun _ => uDe_k fun _ => .inr ⟨a1, a2, a3, by subst_vars; exact ⟨rfl, rfl, rfl, rfl⟩⟩

theorem rl20_11_0 (vs : List (PV sig)) (m : Mem sig) (ds : List (FuncId × List (PV sig))) (nt : Nat) : (∀ (C : Tab) (ρ : Type) (K : Ex sig → St sig → Option ρ), Rl20_11_0 C ρ vs m ds nt K = none) ∨ ∃ (a1 : List It) (a2 : Int) (a3 : Int) (a4 : List It) (a5 : Int) (a6 : Int) (mk : Nat), vs = [.ptr 0 0, .ptr 1 0, .ptr 2 0, .d (.sl Key.item a1), .d (.int .i64 a2), .d (.int .i64 a3)] ∧ m = [some [.d (.sl Key.item a4)], some [.d (.int .i64 a5)], some [.d (.int .i64 a6)]] ∧ ds = [(1000000, [.fn (.yield mk) [] []]), (29, [.ptr 1 0, .ptr 2 0]), (36, [.ptr 2 0, .ptr 0 0])] ∧ nt = 45 := by
  unfold Rl20_11_0
  exact uN_k fun _ => uC_k fun _ _ _ => uP_k fun _ => uC_k fun _ _ _ => uP_k fun _ => uC_k fun _ _ _ => uP_k fun _ => uC_k fun _ _ _ => uS_k fun a1 _ => uC_k fun _ _ _ => uI_k fun a2 _ => uC_k fun _ _ _ => uI_k fun a3 _ => u0_k fun _ => uM_k fun _ _ _ => uC_k fun _ _ _ => uS_k fun a4 _ => u0_k fun _ => uM_k fun _ _ _ => uC_k fun _ _ _ => uI_k fun a5 _ => u0_k fun _ => uM_k fun _ _ _ => uC_k fun _ _ _ => uI_k fun a6 _ => u0_k fun _ => uE_k fun _ => uD_k fun _ _ _ => uC_k fun _ _ _ => uY_k fun mk _ => u0_k fun _ => uD_k fun _ _ _ => uC_k fun _ _ _ => uP_k fun _ => uC_k fun _ _ _ => uP_k fun _ => u0_k fun _ => uD_k fun _ _ _ => uC_k fun _ _ _ => uP_k fun _ => uC_k fun _ _ _ => uP_k fun _ => u0_k fun _ => uDe_k fun _ => .inr ⟨a1, a2, a3, a4, a5, a6, mk, by subst_vars; exact ⟨rfl, rfl, rfl, rfl⟩⟩

theorem rl22_20_0 (vs : List (PV sig)) (m : Mem sig) (ds : List (FuncId × List (PV sig))) (nt : Nat) : (∀ (C : Tab) (ρ : Type) (K : Ex sig → St sig → Option ρ), Rl22_20_0 C ρ vs m ds nt K = none) ∨ ∃ (a1 : Int) (a2 : List Rw) (a3 : Int) (a4 : Int) (a5 : Int), vs = [.d (.int .i64 a1), .ptr 0 0, .d (.sl Key.raw a2), .d (.int .i64 a3), .d (.int .i64 a4)] ∧ m = [some [.d (.int .i64 a5)]] ∧ ds = [] ∧ nt = 72 := by
  unfold Rl22_20_0
  exact uN_k fun _ => uC_k fun _ _ _ => uI_k fun a1 _ => uC_k fun _ _ _ => uP_k fun _ => uC_k fun _ _ _ => uS_k fun a2 _ => uC_k fun _ _ _ => uI_k fun a3 _ => uC_k fun _ _ _ => uI_k fun a4 _ => u0_k fun _ => uM_k fun _ _ _ => uC_k fun _ _ _ => uI_k fun a5 _ => u0_k fun _ => uE_k fun _ => uDe_k fun _ => .inr ⟨a1, a2, a3, a4, a5, by subst_vars; exact ⟨rfl, rfl, rfl, rfl⟩⟩

theorem rl24_3_0 (vs : List (PV sig)) (m : Mem sig) (ds : List (FuncId × List (PV sig))) (nt : Nat) : (∀ (C : Tab) (ρ : Type) (K : Ex sig → St sig → Option ρ), Rl24_3_0 C ρ vs m ds nt K = none) ∨ ∃ (a1 : Int) (a2 : Int) (a3 : Int) (a4 : Rw), vs = [.d (.int .i64 a1), .ptr 0 0, .d (.int .i64 a2), .d (.int .i64 a3)] ∧ m = [some [.d (.int .i64 a4.op), .d (.str a4.name), .d (.sl Key.raw a4.args)]] ∧ ds = [] ∧ nt = 34 := by
  unfold Rl24_3_0
  exact uN_k fun _ => uC_k fun _ _ _ => uI_k fun a1 _ => uC_k fun _ _ _ => uP_k fun _ => uC_k fun _ _ _ => uI_k fun a2 _ => uC_k fun _ _ _ => uI_k fun a3 _ => u0_k fun _ => uM_k fun _ _ _ => uRwL_k fun a4 _ => uE_k fun _ => uDe_k fun _ => .inr ⟨a1, a2, a3, a4, by subst_vars; exact ⟨rfl, rfl, rfl, rfl⟩⟩

theorem rl25_18_0 (vs : List (PV sig)) (m : Mem sig) (ds : List (FuncId × List (PV sig))) (nt : Nat) : (∀ (C : Tab) (ρ : Type) (K : Ex sig → St sig → Option ρ), Rl25_18_0 C ρ vs m ds nt K = none) ∨ ∃ (a1 : Int) (a2 : Int) (a3 : Rw), vs = [.d (.int .i64 a1), .ptr 0 0, .d (.int .i64 a2)] ∧ m = [some [.d (.int .i64 a3.op), .d (.str a3.name), .d (.sl Key.raw a3.args)]] ∧ ds = [] ∧ nt = 62 := by
  unfold Rl25_18_0
  exact uN_k fun _ => uC_k fun _ _ _ => uI_k fun a1 _ => uC_k fun _ _ _ => uP_k fun _ => uC_k fun _ _ _ => uI_k fun a2 _ => u0_k fun _ => uM_k fun _ _ _ => uRwL_k fun a3 _ => uE_k fun _ => uDe_k fun _ => .inr ⟨a1, a2, a3, by subst_vars; exact ⟨rfl, rfl, rfl, rfl⟩⟩

theorem rl28_6_0 (vs : List (PV sig)) (m : Mem sig) (ds : List (FuncId × List (PV sig))) (nt : Nat) : (∀ (C : Tab) (ρ : Type) (K : Ex sig → St sig → Option ρ), Rl28_6_0 C ρ vs m ds nt K = none) ∨ ∃ (a1 : ByteArray) (a2 : List Tok) (a3 : ByteArray) (a4 : Int), vs = [.d (.str a1), .ptr 0 0, .own Key.tok a2] ∧ m = [some [.d (.str a3), .d (.int .i64 a4)]] ∧ ds = [] ∧ nt = 69 := by
  unfold Rl28_6_0
  exact uN_k fun _ => uC_k fun _ _ _ => uStr_k fun a1 _ => uC_k fun _ _ _ => uP_k fun _ => uC_k fun _ _ _ => uS_k fun a2 _ => u0_k fun _ => uM_k fun _ _ _ => uC_k fun _ _ _ => uStr_k fun a3 _ => uC_k fun _ _ _ => uI_k fun a4 _ => u0_k fun _ => uE_k fun _ => uDe_k fun _ => .inr ⟨a1, a2, a3, a4, by subst_vars; exact ⟨rfl, rfl, rfl, rfl⟩⟩

theorem rl30_4_0 (vs : List (PV sig)) (m : Mem sig) (ds : List (FuncId × List (PV sig))) (nt : Nat) : (∀ (C : Tab) (ρ : Type) (K : Ex sig → St sig → Option ρ), Rl30_4_0 C ρ vs m ds nt K = none) ∨ ∃ (a1 : Bool) (a2 : List Tok) (a3 : Int) (a4 : Rw) (a5 : Rw), vs = [.ptr 0 0, .ptr 1 0, .ptr 2 0, .d (.bool a1)] ∧ m = [some [.d (.sl Key.tok a2), .d (.int .i64 a3)], some [.d (.int .i64 a4.op), .d (.str a4.name), .full Key.raw a4.args], some [.d (.int .i64 a5.op), .d (.str a5.name), .d (.sl Key.raw a5.args)]] ∧ ds = [] ∧ nt = 63 := by
  unfold Rl30_4_0
  exact uN_k fun _ => uC_k fun _ _ _ => uP_k fun _ => uC_k fun _ _ _ => uP_k fun _ => uC_k fun _ _ _ => uP_k fun _ => uC_k fun _ _ _ => uB_k fun a1 _ => u0_k fun _ => uM_k fun _ _ _ => uC_k fun _ _ _ => uS_k fun a2 _ => uC_k fun _ _ _ => uI_k fun a3 _ => u0_k fun _ => uM_k fun _ _ _ => uRwL_k fun a4 _ => uM_k fun _ _ _ => uRwL_k fun a5 _ => uE_k fun _ => uDe_k fun _ => .inr ⟨a1, a2, a3, a4, a5, by subst_vars; exact ⟨rfl, rfl, rfl, rfl⟩⟩

theorem rl38_9_0 (vs : List (PV sig)) (m : Mem sig) (ds : List (FuncId × List (PV sig))) (nt : Nat) : (∀ (C : Tab) (ρ : Type) (K : Ex sig → St sig → Option ρ), Rl38_9_0 C ρ vs m ds nt K = none) ∨ ∃ (a1 : List Pt) (a2 : Int) (a3 : Int) (a4 : It) (a5 : Int), vs = [.ptr 1 0, .d (.sl Key.part a1), .d (.int .i64 a2), .d (.int .i64 a3)] ∧ m = [some [.d (.str a4.word), .d (.str a4.name), .d (.int .i64 a4.raw.op), .d (.str a4.raw.name), .d (.sl Key.raw a4.raw.args), .d (.sl Key.part a4.parts)], some [.d (.int .i64 a5)]] ∧ ds = [] ∧ nt = 53 := by
  unfold Rl38_9_0
  exact uN_k fun _ => uC_k fun _ _ _ => uP_k fun _ => uC_k fun _ _ _ => uS_k fun a1 _ => uC_k fun _ _ _ => uI_k fun a2 _ => uC_k fun _ _ _ => uI_k fun a3 _ => u0_k fun _ => uM_k fun _ _ _ => uItL_k fun a4 _ => uM_k fun _ _ _ => uC_k fun _ _ _ => uI_k fun a5 _ => u0_k fun _ => uE_k fun _ => uDe_k fun _ => .inr ⟨a1, a2, a3, a4, a5, by subst_vars; exact ⟨rfl, rfl, rfl, rfl⟩⟩

theorem rl43_0_0 (vs : List (PV sig)) (m : Mem sig) (ds : List (FuncId × List (PV sig))) (nt : Nat) : (∀ (C : Tab) (ρ : Type) (K : Ex sig → St sig → Option ρ), Rl43_0_0 C ρ vs m ds nt K = none) ∨ ∃ (a1 : ByteArray) (a2 : Int), vs = [.ptr 0 0] ∧ m = [some [.d (.str a1), .d (.int .i64 a2)]] ∧ ds = [] ∧ nt = 102 := by
  unfold Rl43_0_0
  exact uN_k fun _ => uC_k fun _ _ _ => uP_k fun _ => u0_k fun _ => uM_k fun _ _ _ => uC_k fun _ _ _ => uStr_k fun a1 _ => uC_k fun _ _ _ => uI_k fun a2 _ => u0_k fun _ => uE_k fun _ => uDe_k fun _ => .inr ⟨a1, a2, by subst_vars; exact ⟨rfl, rfl, rfl, rfl⟩⟩

theorem rl47_2_0 (vs : List (PV sig)) (m : Mem sig) (ds : List (FuncId × List (PV sig))) (nt : Nat) : (∀ (C : Tab) (ρ : Type) (K : Ex sig → St sig → Option ρ), Rl47_2_0 C ρ vs m ds nt K = none) ∨ ∃ (a1 : List Tok) (a2 : Int) (a3 : Rw) (a4 : Rw), vs = [.ptr 0 0, .ptr 1 0, .ptr 2 0] ∧ m = [some [.d (.sl Key.tok a1), .d (.int .i64 a2)], some [.d (.int .i64 a3.op), .d (.str a3.name), .full Key.raw a3.args], some [.d (.int .i64 a4.op), .d (.str a4.name), .d (.sl Key.raw a4.args)]] ∧ ds = [] ∧ nt = 23 := by
  unfold Rl47_2_0
  exact uN_k fun _ => uC_k fun _ _ _ => uP_k fun _ => uC_k fun _ _ _ => uP_k fun _ => uC_k fun _ _ _ => uP_k fun _ => u0_k fun _ => uM_k fun _ _ _ => uC_k fun _ _ _ => uS_k fun a1 _ => uC_k fun _ _ _ => uI_k fun a2 _ => u0_k fun _ => uM_k fun _ _ _ => uRwL_k fun a3 _ => uM_k fun _ _ _ => uRwL_k fun a4 _ => uE_k fun _ => uDe_k fun _ => .inr ⟨a1, a2, a3, a4, by subst_vars; exact ⟨rfl, rfl, rfl, rfl⟩⟩

theorem rl56_32_0 (vs : List (PV sig)) (m : Mem sig) (ds : List (FuncId × List (PV sig))) (nt : Nat) : (∀ (C : Tab) (ρ : Type) (K : Ex sig → St sig → Option ρ), Rl56_32_0 C ρ vs m ds nt K = none) ∨ ∃ (a1 : Int) (a2 : List Pt) (a3 : Int) (a4 : Int) (a5 : Int) (a6 : Pt) (a7 : Pt), vs = [.d (.int .i64 a1), .ptr 0 0, .ptr 1 0, .ptr 2 0, .d (.sl Key.part a2), .d (.int .i64 a3), .d (.int .i64 a4)] ∧ m = [some [.d (.int .i64 a5)], some [.d (.int .i64 a6.op), .d (.str a6.sign), .d (.str a6.name), .d (.int .i64 a6.num), .d (.int .i64 a6.raw.op), .d (.str a6.raw.name), .d (.sl Key.raw a6.raw.args), .d (.sl Key.part a6.parts)], some [.d (.int .i64 a7.op), .d (.str a7.sign), .d (.str a7.name), .d (.int .i64 a7.num), .d (.int .i64 a7.raw.op), .d (.str a7.raw.name), .full Key.raw a7.raw.args, .full Key.part a7.parts]] ∧ ds = [] ∧ nt = 205 := by
  unfold Rl56_32_0
  exact uN_k fun _ => uC_k fun _ _ _ => uI_k fun a1 _ => uC_k fun _ _ _ => uP_k fun _ => uC_k fun _ _ _ => uP_k fun _ => uC_k fun _ _ _ => uP_k fun _ => uC_k fun _ _ _ => uS_k fun a2 _ => uC_k fun _ _ _ => uI_k fun a3 _ => uC_k fun _ _ _ => uI_k fun a4 _ => u0_k fun _ => uM_k fun _ _ _ => uC_k fun _ _ _ => uI_k fun a5 _ => u0_k fun _ => uM_k fun _ _ _ => uPtL_k fun a6 _ => uM_k fun _ _ _ => uPtL_k fun a7 _ => uE_k fun _ => uDe_k fun _ => .inr ⟨a1, a2, a3, a4, a5, a6, a7, by subst_vars; exact ⟨rfl, rfl, rfl, rfl⟩⟩

theorem rl58_2_0 (vs : List (PV sig)) (m : Mem sig) (ds : List (FuncId × List (PV sig))) (nt : Nat) : (∀ (C : Tab) (ρ : Type) (K : Ex sig → St sig → Option ρ), Rl58_2_0 C ρ vs m ds nt K = none) ∨ ∃ (a1 : List Int) (a2 : Int) (a3 : Int) (a4 : Int), vs = [.d (.sl Key.int a1), .d (.int .i64 a2), .d (.int .i64 a3), .d (.int .i64 a4)] ∧ m = [] ∧ ds = [] ∧ nt = 19 := by
  unfold Rl58_2_0
  exact uN_k fun _ => uC_k fun _ _ _ => uS_k fun a1 _ => uC_k fun _ _ _ => uI_k fun a2 _ => uC_k fun _ _ _ => uI_k fun a3 _ => uC_k fun _ _ _ => uI_k fun a4 _ => u0_k fun _ => uE_k fun _ => uDe_k fun _ => .inr ⟨a1, a2, a3, a4, by subst_vars; exact ⟨rfl, rfl, rfl, rfl⟩⟩

theorem rl65_2_0 (vs : List (PV sig)) (m : Mem sig) (ds : List (FuncId × List (PV sig))) (nt : Nat) : (∀ (C : Tab) (ρ : Type) (K : Ex sig → St sig → Option ρ), Rl65_2_0 C ρ vs m ds nt K = none) ∨ ∃ (a1 : Int) (a2 : Int) (a3 : ByteArray) (a4 : Int), vs = [.ptr 0 0, .d (.int .i64 a1), .d (.int .i64 a2)] ∧ m = [some [.d (.str a3), .d (.int .i64 a4)]] ∧ ds = [] ∧ nt = 42 := by
  unfold Rl65_2_0
  exact uN_k fun _ => uC_k fun _ _ _ => uP_k fun _ => uC_k fun _ _ _ => uI_k fun a1 _ => uC_k fun _ _ _ => uI_k fun a2 _ => u0_k fun _ => uM_k fun _ _ _ => uC_k fun _ _ _ => uStr_k fun a3 _ => uC_k fun _ _ _ => uI_k fun a4 _ => u0_k fun _ => uE_k fun _ => uDe_k fun _ => .inr ⟨a1, a2, a3, a4, by subst_vars; exact ⟨rfl, rfl, rfl, rfl⟩⟩

theorem rl80_2_0 (vs : List (PV sig)) (m : Mem sig) (ds : List (FuncId × List (PV sig))) (nt : Nat) : (∀ (C : Tab) (ρ : Type) (K : Ex sig → St sig → Option ρ), Rl80_2_0 C ρ vs m ds nt K = none) ∨ ∃ (a1 : List ByteArray) (a2 : ByteArray) (a3 : Int) (a4 : Int), vs = [.d (.sl Key.str a1), .d (.str a2), .d (.int .i64 a3), .d (.int .i64 a4)] ∧ m = [] ∧ ds = [] ∧ nt = 19 := by
  unfold Rl80_2_0
  exact uN_k fun _ => uC_k fun _ _ _ => uS_k fun a1 _ => uC_k fun _ _ _ => uStr_k fun a2 _ => uC_k fun _ _ _ => uI_k fun a3 _ => uC_k fun _ _ _ => uI_k fun a4 _ => u0_k fun _ => uE_k fun _ => uDe_k fun _ => .inr ⟨a1, a2, a3, a4, by subst_vars; exact ⟨rfl, rfl, rfl, rfl⟩⟩

theorem rl81_2_0 (vs : List (PV sig)) (m : Mem sig) (ds : List (FuncId × List (PV sig))) (nt : Nat) : (∀ (C : Tab) (ρ : Type) (K : Ex sig → St sig → Option ρ), Rl81_2_0 C ρ vs m ds nt K = none) ∨ ∃ (a1 : ByteArray) (a2 : List Pt) (a3 : List Tok) (a4 : Int), vs = [.ptr 0 0, .d (.str a1), .own Key.part a2] ∧ m = [some [.d (.sl Key.tok a3), .d (.int .i64 a4)]] ∧ ds = [] ∧ nt = 24 := by
  unfold Rl81_2_0
  exact uN_k fun _ => uC_k fun _ _ _ => uP_k fun _ => uC_k fun _ _ _ => uStr_k fun a1 _ => uC_k fun _ _ _ => uS_k fun a2 _ => u0_k fun _ => uM_k fun _ _ _ => uC_k fun _ _ _ => uS_k fun a3 _ => uC_k fun _ _ _ => uI_k fun a4 _ => u0_k fun _ => uE_k fun _ => uDe_k fun _ => .inr ⟨a1, a2, a3, a4, by subst_vars; exact ⟨rfl, rfl, rfl, rfl⟩⟩

theorem rl82_4_0 (vs : List (PV sig)) (m : Mem sig) (ds : List (FuncId × List (PV sig))) (nt : Nat) : (∀ (C : Tab) (ρ : Type) (K : Ex sig → St sig → Option ρ), Rl82_4_0 C ρ vs m ds nt K = none) ∨ ∃ (a1 : ByteArray) (a2 : Int) (a3 : Int), vs = [.d (.str a1), .d (.int .i64 a2), .d (.int .i64 a3)] ∧ m = [] ∧ ds = [] ∧ nt = 32 := by
  unfold Rl82_4_0
  exact uN_k fun _ => uC_k fun _ _ _ => uStr_k fun a1 _ => uC_k fun _ _ _ => uI_k fun a2 _ => uC_k fun _ _ _ => uI_k fun a3 _ => u0_k fun _ => uE_k fun _ => uDe_k fun _ => .inr ⟨a1, a2, a3, by subst_vars; exact ⟨rfl, rfl, rfl, rfl⟩⟩

theorem rl84_1_0 (vs : List (PV sig)) (m : Mem sig) (ds : List (FuncId × List (PV sig))) (nt : Nat) : (∀ (C : Tab) (ρ : Type) (K : Ex sig → St sig → Option ρ), Rl84_1_0 C ρ vs m ds nt K = none) ∨ ∃ (a1 : ByteArray) (a2 : Int), vs = [.d (.str a1), .d (.int .i64 a2)] ∧ m = [] ∧ ds = [] ∧ nt = 18 := by
  unfold Rl84_1_0
  exact uN_k fun _ => uC_k fun _ _ _ => uStr_k fun a1 _ => uC_k fun _ _ _ => uI_k fun a2 _ => u0_k fun _ => uE_k fun _ => uDe_k fun _ => .inr ⟨a1, a2, by subst_vars; exact ⟨rfl, rfl, rfl, rfl⟩⟩

end Go.Proofs.YtanfoijdfcnpoaaDoor.Ev
