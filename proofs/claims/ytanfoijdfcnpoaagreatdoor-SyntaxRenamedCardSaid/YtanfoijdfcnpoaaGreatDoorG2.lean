/- This file proves when the tables of typed functions answer; without any condition. -/
import Derived.Test.YtanfoijdfcnpoaaGreatDoorGR
set_option linter.unusedVariables false
set_option linter.unusedSimpArgs false
namespace Go.Proofs.YtanfoijdfcnpoaaGreatDoor.Ev

theorem rc4_0 (args : List (PV sig)) (m : Mem sig) : (∀ (C : Tab) (ρ : Type) (K : Res sig × Mem sig → Option ρ), Rc4_0 C ρ args m K = none) ∨ ∃ (a1 : Rw) (a2 : ByteArray) (a3 : ByteArray), args = [.agg [.d (.int .i64 a1.op), .d (.str a1.name), .d (.sl Key.raw a1.args)], .d (.str a2), .d (.str a3)] ∧ m = [] := by
  unfold Rc4_0
  exact uC_k fun _ _ _ => uRw_k fun a1 _ => uC_k fun _ _ _ => uStr_k fun a2 _ => uC_k fun _ _ _ => uStr_k fun a3 _ => u0_k fun _ => uE_k fun _ => .inr ⟨a1, a2, a3, by subst_vars; exact ⟨rfl, rfl⟩⟩

theorem rc5_0 (args : List (PV sig)) (m : Mem sig) : (∀ (C : Tab) (ρ : Type) (K : Res sig × Mem sig → Option ρ), Rc5_0 C ρ args m K = none) ∨ ∃ (a1 : Rw) (a2 : ByteArray) (a3 : ByteArray), args = [.agg [.d (.int .i64 a1.op), .d (.str a1.name), .d (.sl Key.raw a1.args)], .d (.str a2), .d (.str a3)] ∧ m = [] := by
  unfold Rc5_0
  exact uC_k fun _ _ _ => uRw_k fun a1 _ => uC_k fun _ _ _ => uStr_k fun a2 _ => uC_k fun _ _ _ => uStr_k fun a3 _ => u0_k fun _ => uE_k fun _ => .inr ⟨a1, a2, a3, by subst_vars; exact ⟨rfl, rfl⟩⟩

theorem rc8_0 (args : List (PV sig)) (m : Mem sig) : (∀ (C : Tab) (ρ : Type) (K : Res sig × Mem sig → Option ρ), Rc8_0 C ρ args m K = none) ∨ ∃ (a1 : ByteArray), args = [.d (.str a1)] ∧ m = [] := by
  unfold Rc8_0
  exact uC_k fun _ _ _ => uStr_k fun a1 _ => u0_k fun _ => uE_k fun _ => .inr ⟨a1, by subst_vars; exact ⟨rfl, rfl⟩⟩

theorem rc10_0 (args : List (PV sig)) (m : Mem sig) : (∀ (C : Tab) (ρ : Type) (K : Res sig × Mem sig → Option ρ), Rc10_0 C ρ args m K = none) ∨ ∃ (a1 : Rw) (a2 : Rw), args = [.agg [.d (.int .i64 a1.op), .d (.str a1.name), .d (.sl Key.raw a1.args)], .agg [.d (.int .i64 a2.op), .d (.str a2.name), .d (.sl Key.raw a2.args)]] ∧ m = [] := by
  unfold Rc10_0
  exact uC_k fun _ _ _ => uRw_k fun a1 _ => uC_k fun _ _ _ => uRw_k fun a2 _ => u0_k fun _ => uE_k fun _ => .inr ⟨a1, a2, by subst_vars; exact ⟨rfl, rfl⟩⟩

theorem rc11_0 (args : List (PV sig)) (m : Mem sig) : (∀ (C : Tab) (ρ : Type) (K : Res sig × Mem sig → Option ρ), Rc11_0 C ρ args m K = none) ∨ args = [] ∧ m = [] := by
  unfold Rc11_0
  exact u0_k fun _ => uE_k fun _ => .inr (by subst_vars; exact ⟨rfl, rfl⟩)

theorem rc12_0 (args : List (PV sig)) (m : Mem sig) : (∀ (C : Tab) (ρ : Type) (K : Res sig × Mem sig → Option ρ), Rc12_0 C ρ args m K = none) ∨ ∃ (a1 : Rw) (a2 : ByteArray) (a3 : ByteArray), args = [.agg [.d (.int .i64 a1.op), .d (.str a1.name), .d (.sl Key.raw a1.args)], .d (.str a2), .d (.str a3)] ∧ m = [] := by
  unfold Rc12_0
  exact uC_k fun _ _ _ => uRw_k fun a1 _ => uC_k fun _ _ _ => uStr_k fun a2 _ => uC_k fun _ _ _ => uStr_k fun a3 _ => u0_k fun _ => uE_k fun _ => .inr ⟨a1, a2, a3, by subst_vars; exact ⟨rfl, rfl⟩⟩

theorem rc13_0 (args : List (PV sig)) (m : Mem sig) : (∀ (C : Tab) (ρ : Type) (K : Res sig × Mem sig → Option ρ), Rc13_0 C ρ args m K = none) ∨ ∃ (a1 : Rw), args = [.agg [.d (.int .i64 a1.op), .d (.str a1.name), .d (.sl Key.raw a1.args)]] ∧ m = [] := by
  unfold Rc13_0
  exact uC_k fun _ _ _ => uRw_k fun a1 _ => u0_k fun _ => uE_k fun _ => .inr ⟨a1, by subst_vars; exact ⟨rfl, rfl⟩⟩

theorem rc14_0 (args : List (PV sig)) (m : Mem sig) : (∀ (C : Tab) (ρ : Type) (K : Res sig × Mem sig → Option ρ), Rc14_0 C ρ args m K = none) ∨ ∃ (a1 : ByteArray), args = [.d (.str a1)] ∧ m = [] := by
  unfold Rc14_0
  exact uC_k fun _ _ _ => uStr_k fun a1 _ => u0_k fun _ => uE_k fun _ => .inr ⟨a1, by subst_vars; exact ⟨rfl, rfl⟩⟩

theorem rc15_0 (args : List (PV sig)) (m : Mem sig) : (∀ (C : Tab) (ρ : Type) (K : Res sig × Mem sig → Option ρ), Rc15_0 C ρ args m K = none) ∨ ∃ (a1 : Rw) (a2 : ByteArray) (a3 : ByteArray), args = [.agg [.d (.int .i64 a1.op), .d (.str a1.name), .d (.sl Key.raw a1.args)], .d (.str a2), .d (.str a3)] ∧ m = [] := by
  unfold Rc15_0
  exact uC_k fun _ _ _ => uRw_k fun a1 _ => uC_k fun _ _ _ => uStr_k fun a2 _ => uC_k fun _ _ _ => uStr_k fun a3 _ => u0_k fun _ => uE_k fun _ => .inr ⟨a1, a2, a3, by subst_vars; exact ⟨rfl, rfl⟩⟩

theorem rc16_0 (args : List (PV sig)) (m : Mem sig) : (∀ (C : Tab) (ρ : Type) (K : Res sig × Mem sig → Option ρ), Rc16_0 C ρ args m K = none) ∨ ∃ (a1 : Rw), args = [.agg [.d (.int .i64 a1.op), .d (.str a1.name), .d (.sl Key.raw a1.args)]] ∧ m = [] := by
  unfold Rc16_0
  exact uC_k fun _ _ _ => uRw_k fun a1 _ => u0_k fun _ => uE_k fun _ => .inr ⟨a1, by subst_vars; exact ⟨rfl, rfl⟩⟩

theorem rc17_0 (args : List (PV sig)) (m : Mem sig) : (∀ (C : Tab) (ρ : Type) (K : Res sig × Mem sig → Option ρ), Rc17_0 C ρ args m K = none) ∨ ∃ (a1 : List ByteArray) (a2 : ByteArray), args = [.d (.sl Key.str a1), .d (.str a2)] ∧ m = [] := by
  unfold Rc17_0
  exact uC_k fun _ _ _ => uS_k fun a1 _ => uC_k fun _ _ _ => uStr_k fun a2 _ => u0_k fun _ => uE_k fun _ => .inr ⟨a1, a2, by subst_vars; exact ⟨rfl, rfl⟩⟩

theorem rc18_0 (args : List (PV sig)) (m : Mem sig) : (∀ (C : Tab) (ρ : Type) (K : Res sig × Mem sig → Option ρ), Rc18_0 C ρ args m K = none) ∨ ∃ (a1 : List ByteArray) (a2 : List ByteArray), args = [.d (.sl Key.str a1), .d (.sl Key.str a2)] ∧ m = [] := by
  unfold Rc18_0
  exact uC_k fun _ _ _ => uS_k fun a1 _ => uC_k fun _ _ _ => uS_k fun a2 _ => u0_k fun _ => uE_k fun _ => .inr ⟨a1, a2, by subst_vars; exact ⟨rfl, rfl⟩⟩

theorem rc19_0 (args : List (PV sig)) (m : Mem sig) : (∀ (C : Tab) (ρ : Type) (K : Res sig × Mem sig → Option ρ), Rc19_0 C ρ args m K = none) ∨ ∃ (a1 : Rw) (a2 : ByteArray), args = [.agg [.d (.int .i64 a1.op), .d (.str a1.name), .d (.sl Key.raw a1.args)], .d (.str a2)] ∧ m = [] := by
  unfold Rc19_0
  exact uC_k fun _ _ _ => uRw_k fun a1 _ => uC_k fun _ _ _ => uStr_k fun a2 _ => u0_k fun _ => uE_k fun _ => .inr ⟨a1, a2, by subst_vars; exact ⟨rfl, rfl⟩⟩

theorem rc20_0 (args : List (PV sig)) (m : Mem sig) : (∀ (C : Tab) (ρ : Type) (K : Res sig × Mem sig → Option ρ), Rc20_0 C ρ args m K = none) ∨ ∃ (a1 : Rw) (a2 : Rw), args = [.agg [.d (.int .i64 a1.op), .d (.str a1.name), .d (.sl Key.raw a1.args)], .agg [.d (.int .i64 a2.op), .d (.str a2.name), .d (.sl Key.raw a2.args)]] ∧ m = [] := by
  unfold Rc20_0
  exact uC_k fun _ _ _ => uRw_k fun a1 _ => uC_k fun _ _ _ => uRw_k fun a2 _ => u0_k fun _ => uE_k fun _ => .inr ⟨a1, a2, by subst_vars; exact ⟨rfl, rfl⟩⟩

theorem rc28_0 (args : List (PV sig)) (m : Mem sig) : (∀ (C : Tab) (ρ : Type) (K : Res sig × Mem sig → Option ρ), Rc28_0 C ρ args m K = none) ∨ ∃ (a1 : ByteArray), args = [.d (.str a1)] ∧ m = [] := by
  unfold Rc28_0
  exact uC_k fun _ _ _ => uStr_k fun a1 _ => u0_k fun _ => uE_k fun _ => .inr ⟨a1, by subst_vars; exact ⟨rfl, rfl⟩⟩

theorem rc30_0 (args : List (PV sig)) (m : Mem sig) : (∀ (C : Tab) (ρ : Type) (K : Res sig × Mem sig → Option ρ), Rc30_0 C ρ args m K = none) ∨ ∃ (a1 : List Tok) (a2 : Int), args = [.ptr 0 0] ∧ m = [some [.d (.sl Key.tok a1), .d (.int .i64 a2)]] := by
  unfold Rc30_0
  exact uC_k fun _ _ _ => uP_k fun _ => u0_k fun _ => uM_k fun _ _ _ => uC_k fun _ _ _ => uS_k fun a1 _ => uC_k fun _ _ _ => uI_k fun a2 _ => u0_k fun _ => uE_k fun _ => .inr ⟨a1, a2, by subst_vars; exact ⟨rfl, rfl⟩⟩

theorem rc31_0 (args : List (PV sig)) (m : Mem sig) : (∀ (C : Tab) (ρ : Type) (K : Res sig × Mem sig → Option ρ), Rc31_0 C ρ args m K = none) ∨ ∃ (a1 : List Tok) (a2 : Int), args = [.ptr 0 0] ∧ m = [some [.d (.sl Key.tok a1), .d (.int .i64 a2)]] := by
  unfold Rc31_0
  exact uC_k fun _ _ _ => uP_k fun _ => u0_k fun _ => uM_k fun _ _ _ => uC_k fun _ _ _ => uS_k fun a1 _ => uC_k fun _ _ _ => uI_k fun a2 _ => u0_k fun _ => uE_k fun _ => .inr ⟨a1, a2, by subst_vars; exact ⟨rfl, rfl⟩⟩

theorem rc32_0 (args : List (PV sig)) (m : Mem sig) : (∀ (C : Tab) (ρ : Type) (K : Res sig × Mem sig → Option ρ), Rc32_0 C ρ args m K = none) ∨ ∃ (a1 : List Tok) (a2 : Int), args = [.ptr 0 0] ∧ m = [some [.d (.sl Key.tok a1), .d (.int .i64 a2)]] := by
  unfold Rc32_0
  exact uC_k fun _ _ _ => uP_k fun _ => u0_k fun _ => uM_k fun _ _ _ => uC_k fun _ _ _ => uS_k fun a1 _ => uC_k fun _ _ _ => uI_k fun a2 _ => u0_k fun _ => uE_k fun _ => .inr ⟨a1, a2, by subst_vars; exact ⟨rfl, rfl⟩⟩

theorem rc33_0 (args : List (PV sig)) (m : Mem sig) : (∀ (C : Tab) (ρ : Type) (K : Res sig × Mem sig → Option ρ), Rc33_0 C ρ args m K = none) ∨ ∃ (a1 : Rw), args = [.agg [.d (.int .i64 a1.op), .d (.str a1.name), .d (.sl Key.raw a1.args)]] ∧ m = [] := by
  unfold Rc33_0
  exact uC_k fun _ _ _ => uRw_k fun a1 _ => u0_k fun _ => uE_k fun _ => .inr ⟨a1, by subst_vars; exact ⟨rfl, rfl⟩⟩

theorem rc37_0 (args : List (PV sig)) (m : Mem sig) : (∀ (C : Tab) (ρ : Type) (K : Res sig × Mem sig → Option ρ), Rc37_0 C ρ args m K = none) ∨ ∃ (a1 : Rw), args = [.agg [.d (.int .i64 a1.op), .d (.str a1.name), .d (.sl Key.raw a1.args)]] ∧ m = [] := by
  unfold Rc37_0
  exact uC_k fun _ _ _ => uRw_k fun a1 _ => u0_k fun _ => uE_k fun _ => .inr ⟨a1, by subst_vars; exact ⟨rfl, rfl⟩⟩

theorem rc38_0 (args : List (PV sig)) (m : Mem sig) : (∀ (C : Tab) (ρ : Type) (K : Res sig × Mem sig → Option ρ), Rc38_0 C ρ args m K = none) ∨ ∃ (a1 : ByteArray), args = [.d (.str a1)] ∧ m = [] := by
  unfold Rc38_0
  exact uC_k fun _ _ _ => uStr_k fun a1 _ => u0_k fun _ => uE_k fun _ => .inr ⟨a1, by subst_vars; exact ⟨rfl, rfl⟩⟩

theorem rc39_0 (args : List (PV sig)) (m : Mem sig) : (∀ (C : Tab) (ρ : Type) (K : Res sig × Mem sig → Option ρ), Rc39_0 C ρ args m K = none) ∨ ∃ (a1 : Rw) (a2 : List (ByteArray × Bool)), args = [.agg [.d (.int .i64 a1.op), .d (.str a1.name), .d (.sl Key.raw a1.args)], .mp 0] ∧ m = [some [.mpo (.b a2)]] := by
  unfold Rc39_0
  exact uC_k fun _ _ _ => uRw_k fun a1 _ => uC_k fun _ _ _ => uMp_k fun _ => u0_k fun _ => uM_k fun _ _ _ => uC_k fun _ _ _ => uMb_k fun a2 _ => u0_k fun _ => uE_k fun _ => .inr ⟨a1, a2, by subst_vars; exact ⟨rfl, rfl⟩⟩

theorem rc40_0 (args : List (PV sig)) (m : Mem sig) : (∀ (C : Tab) (ρ : Type) (K : Res sig × Mem sig → Option ρ), Rc40_0 C ρ args m K = none) ∨ ∃ (a1 : Rw) (a2 : List ByteArray) (a3 : ByteArray) (a4 : ByteArray) (a5 : Int) (a6 : List (ByteArray × Bool)), args = [.ptr 0 0, .agg [.d (.int .i64 a1.op), .d (.str a1.name), .d (.sl Key.raw a1.args)], .d (.sl Key.str a2), .nilmp] ∧ m = [some [.d (.str a3), .d (.str a4), .mp 1, .d (.int .i64 a5)], some [.mpo (.b a6)]] := by
  unfold Rc40_0
  exact uC_k fun _ _ _ => uP_k fun _ => uC_k fun _ _ _ => uRw_k fun a1 _ => uC_k fun _ _ _ => uS_k fun a2 _ => uC_k fun _ _ _ => uNilmp_k fun _ => u0_k fun _ => uM_k fun _ _ _ => uC_k fun _ _ _ => uStr_k fun a3 _ => uC_k fun _ _ _ => uStr_k fun a4 _ => uC_k fun _ _ _ => uMp_k fun _ => uC_k fun _ _ _ => uI_k fun a5 _ => u0_k fun _ => uM_k fun _ _ _ => uC_k fun _ _ _ => uMb_k fun a6 _ => u0_k fun _ => uE_k fun _ => .inr ⟨a1, a2, a3, a4, a5, a6, by subst_vars; exact ⟨rfl, rfl⟩⟩

theorem rc40_1 (args : List (PV sig)) (m : Mem sig) : (∀ (C : Tab) (ρ : Type) (K : Res sig × Mem sig → Option ρ), Rc40_1 C ρ args m K = none) ∨ ∃ (a1 : Rw) (a2 : List ByteArray) (a3 : ByteArray) (a4 : ByteArray) (a5 : Int) (a6 : List (ByteArray × ByteArray)) (a7 : List (ByteArray × Bool)), args = [.ptr 0 0, .agg [.d (.int .i64 a1.op), .d (.str a1.name), .d (.sl Key.raw a1.args)], .d (.sl Key.str a2), .mp 1] ∧ m = [some [.d (.str a3), .d (.str a4), .mp 2, .d (.int .i64 a5)], some [.mpo (.s a6)], some [.mpo (.b a7)]] := by
  unfold Rc40_1
  exact uC_k fun _ _ _ => uP_k fun _ => uC_k fun _ _ _ => uRw_k fun a1 _ => uC_k fun _ _ _ => uS_k fun a2 _ => uC_k fun _ _ _ => uMp_k fun _ => u0_k fun _ => uM_k fun _ _ _ => uC_k fun _ _ _ => uStr_k fun a3 _ => uC_k fun _ _ _ => uStr_k fun a4 _ => uC_k fun _ _ _ => uMp_k fun _ => uC_k fun _ _ _ => uI_k fun a5 _ => u0_k fun _ => uM_k fun _ _ _ => uC_k fun _ _ _ => uMs_k fun a6 _ => u0_k fun _ => uM_k fun _ _ _ => uC_k fun _ _ _ => uMb_k fun a7 _ => u0_k fun _ => uE_k fun _ => .inr ⟨a1, a2, a3, a4, a5, a6, a7, by subst_vars; exact ⟨rfl, rfl⟩⟩

theorem rc41_0 (args : List (PV sig)) (m : Mem sig) : (∀ (C : Tab) (ρ : Type) (K : Res sig × Mem sig → Option ρ), Rc41_0 C ρ args m K = none) ∨ ∃ (a1 : Rw), args = [.agg [.d (.int .i64 a1.op), .d (.str a1.name), .d (.sl Key.raw a1.args)]] ∧ m = [] := by
  unfold Rc41_0
  exact uC_k fun _ _ _ => uRw_k fun a1 _ => u0_k fun _ => uE_k fun _ => .inr ⟨a1, by subst_vars; exact ⟨rfl, rfl⟩⟩

theorem rc42_0 (args : List (PV sig)) (m : Mem sig) : (∀ (C : Tab) (ρ : Type) (K : Res sig × Mem sig → Option ρ), Rc42_0 C ρ args m K = none) ∨ ∃ (a1 : Rw) (a2 : Int), args = [.agg [.d (.int .i64 a1.op), .d (.str a1.name), .d (.sl Key.raw a1.args)], .d (.int .i64 a2)] ∧ m = [] := by
  unfold Rc42_0
  exact uC_k fun _ _ _ => uRw_k fun a1 _ => uC_k fun _ _ _ => uI_k fun a2 _ => u0_k fun _ => uE_k fun _ => .inr ⟨a1, a2, by subst_vars; exact ⟨rfl, rfl⟩⟩

theorem rc43_0 (args : List (PV sig)) (m : Mem sig) : (∀ (C : Tab) (ρ : Type) (K : Res sig × Mem sig → Option ρ), Rc43_0 C ρ args m K = none) ∨ ∃ (a1 : Rw) (a2 : Int), args = [.agg [.d (.int .i64 a1.op), .d (.str a1.name), .d (.sl Key.raw a1.args)], .d (.int .i64 a2)] ∧ m = [] := by
  unfold Rc43_0
  exact uC_k fun _ _ _ => uRw_k fun a1 _ => uC_k fun _ _ _ => uI_k fun a2 _ => u0_k fun _ => uE_k fun _ => .inr ⟨a1, a2, by subst_vars; exact ⟨rfl, rfl⟩⟩

theorem rc44_0 (args : List (PV sig)) (m : Mem sig) : (∀ (C : Tab) (ρ : Type) (K : Res sig × Mem sig → Option ρ), Rc44_0 C ρ args m K = none) ∨ ∃ (a1 : ByteArray), args = [.d (.str a1)] ∧ m = [] := by
  unfold Rc44_0
  exact uC_k fun _ _ _ => uStr_k fun a1 _ => u0_k fun _ => uE_k fun _ => .inr ⟨a1, by subst_vars; exact ⟨rfl, rfl⟩⟩

theorem rc45_0 (args : List (PV sig)) (m : Mem sig) : (∀ (C : Tab) (ρ : Type) (K : Res sig × Mem sig → Option ρ), Rc45_0 C ρ args m K = none) ∨ ∃ (a1 : Rw) (a2 : List ByteArray), args = [.agg [.d (.int .i64 a1.op), .d (.str a1.name), .d (.sl Key.raw a1.args)], .full Key.str a2] ∧ m = [] := by
  unfold Rc45_0
  exact uC_k fun _ _ _ => uRw_k fun a1 _ => uC_k fun _ _ _ => uS_k fun a2 _ => u0_k fun _ => uE_k fun _ => .inr ⟨a1, a2, by subst_vars; exact ⟨rfl, rfl⟩⟩

theorem rc45_1 (args : List (PV sig)) (m : Mem sig) : (∀ (C : Tab) (ρ : Type) (K : Res sig × Mem sig → Option ρ), Rc45_1 C ρ args m K = none) ∨ ∃ (a1 : Rw) (a2 : List ByteArray), args = [.agg [.d (.int .i64 a1.op), .d (.str a1.name), .d (.sl Key.raw a1.args)], .own Key.str a2] ∧ m = [] := by
  unfold Rc45_1
  exact uC_k fun _ _ _ => uRw_k fun a1 _ => uC_k fun _ _ _ => uS_k fun a2 _ => u0_k fun _ => uE_k fun _ => .inr ⟨a1, a2, by subst_vars; exact ⟨rfl, rfl⟩⟩

theorem rc46_0 (args : List (PV sig)) (m : Mem sig) : (∀ (C : Tab) (ρ : Type) (K : Res sig × Mem sig → Option ρ), Rc46_0 C ρ args m K = none) ∨ ∃ (a1 : Rw) (a2 : ByteArray) (a3 : ByteArray) (a4 : List ByteArray), args = [.agg [.d (.int .i64 a1.op), .d (.str a1.name), .d (.sl Key.raw a1.args)], .d (.str a2), .d (.str a3), .d (.sl Key.str a4)] ∧ m = [] := by
  unfold Rc46_0
  exact uC_k fun _ _ _ => uRw_k fun a1 _ => uC_k fun _ _ _ => uStr_k fun a2 _ => uC_k fun _ _ _ => uStr_k fun a3 _ => uC_k fun _ _ _ => uS_k fun a4 _ => u0_k fun _ => uE_k fun _ => .inr ⟨a1, a2, a3, a4, by subst_vars; exact ⟨rfl, rfl⟩⟩

theorem rc47_0 (args : List (PV sig)) (m : Mem sig) : (∀ (C : Tab) (ρ : Type) (K : Res sig × Mem sig → Option ρ), Rc47_0 C ρ args m K = none) ∨ ∃ (a1 : Rw) (a2 : ByteArray) (a3 : ByteArray), args = [.agg [.d (.int .i64 a1.op), .d (.str a1.name), .d (.sl Key.raw a1.args)], .d (.str a2), .d (.str a3)] ∧ m = [] := by
  unfold Rc47_0
  exact uC_k fun _ _ _ => uRw_k fun a1 _ => uC_k fun _ _ _ => uStr_k fun a2 _ => uC_k fun _ _ _ => uStr_k fun a3 _ => u0_k fun _ => uE_k fun _ => .inr ⟨a1, a2, a3, by subst_vars; exact ⟨rfl, rfl⟩⟩

theorem rc48_0 (args : List (PV sig)) (m : Mem sig) : (∀ (C : Tab) (ρ : Type) (K : Res sig × Mem sig → Option ρ), Rc48_0 C ρ args m K = none) ∨ ∃ (a1 : Rw) (a2 : List ByteArray) (a3 : List ByteArray), args = [.agg [.d (.int .i64 a1.op), .d (.str a1.name), .d (.sl Key.raw a1.args)], .full Key.str a2, .full Key.str a3] ∧ m = [] := by
  unfold Rc48_0
  exact uC_k fun _ _ _ => uRw_k fun a1 _ => uC_k fun _ _ _ => uS_k fun a2 _ => uC_k fun _ _ _ => uS_k fun a3 _ => u0_k fun _ => uE_k fun _ => .inr ⟨a1, a2, a3, by subst_vars; exact ⟨rfl, rfl⟩⟩

theorem rc48_1 (args : List (PV sig)) (m : Mem sig) : (∀ (C : Tab) (ρ : Type) (K : Res sig × Mem sig → Option ρ), Rc48_1 C ρ args m K = none) ∨ ∃ (a1 : Rw) (a2 : List ByteArray) (a3 : List ByteArray), args = [.agg [.d (.int .i64 a1.op), .d (.str a1.name), .d (.sl Key.raw a1.args)], .d (.sl Key.str a2), .own Key.str a3] ∧ m = [] := by
  unfold Rc48_1
  exact uC_k fun _ _ _ => uRw_k fun a1 _ => uC_k fun _ _ _ => uS_k fun a2 _ => uC_k fun _ _ _ => uS_k fun a3 _ => u0_k fun _ => uE_k fun _ => .inr ⟨a1, a2, a3, by subst_vars; exact ⟨rfl, rfl⟩⟩

theorem rc48_2 (args : List (PV sig)) (m : Mem sig) : (∀ (C : Tab) (ρ : Type) (K : Res sig × Mem sig → Option ρ), Rc48_2 C ρ args m K = none) ∨ ∃ (a1 : Rw) (a2 : List ByteArray) (a3 : List ByteArray), args = [.agg [.d (.int .i64 a1.op), .d (.str a1.name), .d (.sl Key.raw a1.args)], .own Key.str a2, .own Key.str a3] ∧ m = [] := by
  unfold Rc48_2
  exact uC_k fun _ _ _ => uRw_k fun a1 _ => uC_k fun _ _ _ => uS_k fun a2 _ => uC_k fun _ _ _ => uS_k fun a3 _ => u0_k fun _ => uE_k fun _ => .inr ⟨a1, a2, a3, by subst_vars; exact ⟨rfl, rfl⟩⟩

theorem rc48_3 (args : List (PV sig)) (m : Mem sig) : (∀ (C : Tab) (ρ : Type) (K : Res sig × Mem sig → Option ρ), Rc48_3 C ρ args m K = none) ∨ ∃ (a1 : Rw) (a2 : List ByteArray) (a3 : List ByteArray), args = [.agg [.d (.int .i64 a1.op), .d (.str a1.name), .d (.sl Key.raw a1.args)], .d (.sl Key.str a2), .full Key.str a3] ∧ m = [] := by
  unfold Rc48_3
  exact uC_k fun _ _ _ => uRw_k fun a1 _ => uC_k fun _ _ _ => uS_k fun a2 _ => uC_k fun _ _ _ => uS_k fun a3 _ => u0_k fun _ => uE_k fun _ => .inr ⟨a1, a2, a3, by subst_vars; exact ⟨rfl, rfl⟩⟩

theorem rc49_0 (args : List (PV sig)) (m : Mem sig) : (∀ (C : Tab) (ρ : Type) (K : Res sig × Mem sig → Option ρ), Rc49_0 C ρ args m K = none) ∨ ∃ (a1 : List Rw) (a2 : List Rw), args = [.d (.sl Key.raw a1), .d (.sl Key.raw a2), .fn (.func 20) [] []] ∧ m = [] := by
  unfold Rc49_0
  exact uC_k fun _ _ _ => uS_k fun a1 _ => uC_k fun _ _ _ => uS_k fun a2 _ => uC_k fun _ _ _ => uFn_k fun _ _ _ => u0_k fun _ => u0_k fun _ => u0_k fun _ => uE_k fun _ => .inr ⟨a1, a2, by subst_vars; exact ⟨rfl, rfl⟩⟩

theorem rc54_0 (args : List (PV sig)) (m : Mem sig) : (∀ (C : Tab) (ρ : Type) (K : Res sig × Mem sig → Option ρ), Rc54_0 C ρ args m K = none) ∨ ∃ (a1 : ByteArray), args = [.d (.str a1)] ∧ m = [] := by
  unfold Rc54_0
  exact uC_k fun _ _ _ => uStr_k fun a1 _ => u0_k fun _ => uE_k fun _ => .inr ⟨a1, by subst_vars; exact ⟨rfl, rfl⟩⟩

theorem rc57_0 (args : List (PV sig)) (m : Mem sig) : (∀ (C : Tab) (ρ : Type) (K : Res sig × Mem sig → Option ρ), Rc57_0 C ρ args m K = none) ∨ ∃ (a1 : Rw) (a2 : List Int), args = [.agg [.d (.int .i64 a1.op), .d (.str a1.name), .d (.sl Key.raw a1.args)], .d (.sl Key.int a2)] ∧ m = [] := by
  unfold Rc57_0
  exact uC_k fun _ _ _ => uRw_k fun a1 _ => uC_k fun _ _ _ => uS_k fun a2 _ => u0_k fun _ => uE_k fun _ => .inr ⟨a1, a2, by subst_vars; exact ⟨rfl, rfl⟩⟩

theorem rc65_0 (args : List (PV sig)) (m : Mem sig) : (∀ (C : Tab) (ρ : Type) (K : Res sig × Mem sig → Option ρ), Rc65_0 C ρ args m K = none) ∨ ∃ (a1 : ByteArray) (a2 : Int), args = [.ptr 0 0] ∧ m = [some [.d (.str a1), .d (.int .i64 a2)]] := by
  unfold Rc65_0
  exact uC_k fun _ _ _ => uP_k fun _ => u0_k fun _ => uM_k fun _ _ _ => uC_k fun _ _ _ => uStr_k fun a1 _ => uC_k fun _ _ _ => uI_k fun a2 _ => u0_k fun _ => uE_k fun _ => .inr ⟨a1, a2, by subst_vars; exact ⟨rfl, rfl⟩⟩

theorem rc66_0 (args : List (PV sig)) (m : Mem sig) : (∀ (C : Tab) (ρ : Type) (K : Res sig × Mem sig → Option ρ), Rc66_0 C ρ args m K = none) ∨ ∃ (a1 : Int), args = [.d (.int .u8 a1)] ∧ m = [] := by
  unfold Rc66_0
  exact uC_k fun _ _ _ => uI_k fun a1 _ => u0_k fun _ => uE_k fun _ => .inr ⟨a1, by subst_vars; exact ⟨rfl, rfl⟩⟩

theorem rc67_0 (args : List (PV sig)) (m : Mem sig) : (∀ (C : Tab) (ρ : Type) (K : Res sig × Mem sig → Option ρ), Rc67_0 C ρ args m K = none) ∨ ∃ (a1 : List ByteArray) (a2 : List Tok) (a3 : Int), args = [.ptr 0 0, .d (.sl Key.str a1)] ∧ m = [some [.d (.sl Key.tok a2), .d (.int .i64 a3)]] := by
  unfold Rc67_0
  exact uC_k fun _ _ _ => uP_k fun _ => uC_k fun _ _ _ => uS_k fun a1 _ => u0_k fun _ => uM_k fun _ _ _ => uC_k fun _ _ _ => uS_k fun a2 _ => uC_k fun _ _ _ => uI_k fun a3 _ => u0_k fun _ => uE_k fun _ => .inr ⟨a1, a2, a3, by subst_vars; exact ⟨rfl, rfl⟩⟩

theorem rc68_0 (args : List (PV sig)) (m : Mem sig) : (∀ (C : Tab) (ρ : Type) (K : Res sig × Mem sig → Option ρ), Rc68_0 C ρ args m K = none) ∨ ∃ (a1 : List Tok) (a2 : Int), args = [.ptr 0 0] ∧ m = [some [.d (.sl Key.tok a1), .d (.int .i64 a2)]] := by
  unfold Rc68_0
  exact uC_k fun _ _ _ => uP_k fun _ => u0_k fun _ => uM_k fun _ _ _ => uC_k fun _ _ _ => uS_k fun a1 _ => uC_k fun _ _ _ => uI_k fun a2 _ => u0_k fun _ => uE_k fun _ => .inr ⟨a1, a2, by subst_vars; exact ⟨rfl, rfl⟩⟩

theorem rc69_0 (args : List (PV sig)) (m : Mem sig) : (∀ (C : Tab) (ρ : Type) (K : Res sig × Mem sig → Option ρ), Rc69_0 C ρ args m K = none) ∨ ∃ (a1 : List Tok) (a2 : Int), args = [.ptr 0 0] ∧ m = [some [.d (.sl Key.tok a1), .d (.int .i64 a2)]] := by
  unfold Rc69_0
  exact uC_k fun _ _ _ => uP_k fun _ => u0_k fun _ => uM_k fun _ _ _ => uC_k fun _ _ _ => uS_k fun a1 _ => uC_k fun _ _ _ => uI_k fun a2 _ => u0_k fun _ => uE_k fun _ => .inr ⟨a1, a2, by subst_vars; exact ⟨rfl, rfl⟩⟩

theorem rc70_0 (args : List (PV sig)) (m : Mem sig) : (∀ (C : Tab) (ρ : Type) (K : Res sig × Mem sig → Option ρ), Rc70_0 C ρ args m K = none) ∨ ∃ (a1 : Rw) (a2 : Int) (a3 : Int), args = [.agg [.d (.int .i64 a1.op), .d (.str a1.name), .d (.sl Key.raw a1.args)], .d (.int .i64 a2), .ptr 0 0] ∧ m = [some [.d (.int .i64 a3)]] := by
  unfold Rc70_0
  exact uC_k fun _ _ _ => uRw_k fun a1 _ => uC_k fun _ _ _ => uI_k fun a2 _ => uC_k fun _ _ _ => uP_k fun _ => u0_k fun _ => uM_k fun _ _ _ => uC_k fun _ _ _ => uI_k fun a3 _ => u0_k fun _ => uE_k fun _ => .inr ⟨a1, a2, a3, by subst_vars; exact ⟨rfl, rfl⟩⟩

theorem rc77_0 (args : List (PV sig)) (m : Mem sig) : (∀ (C : Tab) (ρ : Type) (K : Res sig × Mem sig → Option ρ), Rc77_0 C ρ args m K = none) ∨ ∃ (a1 : ByteArray), args = [.d (.str a1)] ∧ m = [] := by
  unfold Rc77_0
  exact uC_k fun _ _ _ => uStr_k fun a1 _ => u0_k fun _ => uE_k fun _ => .inr ⟨a1, by subst_vars; exact ⟨rfl, rfl⟩⟩

theorem rc78_0 (args : List (PV sig)) (m : Mem sig) : (∀ (C : Tab) (ρ : Type) (K : Res sig × Mem sig → Option ρ), Rc78_0 C ρ args m K = none) ∨ ∃ (a1 : List ByteArray) (a2 : ByteArray), args = [.d (.sl Key.str a1), .d (.str a2)] ∧ m = [] := by
  unfold Rc78_0
  exact uC_k fun _ _ _ => uS_k fun a1 _ => uC_k fun _ _ _ => uStr_k fun a2 _ => u0_k fun _ => uE_k fun _ => .inr ⟨a1, a2, by subst_vars; exact ⟨rfl, rfl⟩⟩

theorem rc79_0 (args : List (PV sig)) (m : Mem sig) : (∀ (C : Tab) (ρ : Type) (K : Res sig × Mem sig → Option ρ), Rc79_0 C ρ args m K = none) ∨ ∃ (a1 : Rw), args = [.agg [.d (.int .i64 a1.op), .d (.str a1.name), .d (.sl Key.raw a1.args)]] ∧ m = [] := by
  unfold Rc79_0
  exact uC_k fun _ _ _ => uRw_k fun a1 _ => u0_k fun _ => uE_k fun _ => .inr ⟨a1, by subst_vars; exact ⟨rfl, rfl⟩⟩

theorem rc80_0 (args : List (PV sig)) (m : Mem sig) : (∀ (C : Tab) (ρ : Type) (K : Res sig × Mem sig → Option ρ), Rc80_0 C ρ args m K = none) ∨ ∃ (a1 : List ByteArray), args = [.d (.sl Key.str a1)] ∧ m = [] := by
  unfold Rc80_0
  exact uC_k fun _ _ _ => uS_k fun a1 _ => u0_k fun _ => uE_k fun _ => .inr ⟨a1, by subst_vars; exact ⟨rfl, rfl⟩⟩

theorem rc81_0 (args : List (PV sig)) (m : Mem sig) : (∀ (C : Tab) (ρ : Type) (K : Res sig × Mem sig → Option ρ), Rc81_0 C ρ args m K = none) ∨ ∃ (a1 : ByteArray) (a2 : ByteArray) (a3 : Int) (a4 : List (ByteArray × Bool)), args = [.ptr 0 0] ∧ m = [some [.d (.str a1), .d (.str a2), .mp 1, .d (.int .i64 a3)], some [.mpo (.b a4)]] := by
  unfold Rc81_0
  exact uC_k fun _ _ _ => uP_k fun _ => u0_k fun _ => uM_k fun _ _ _ => uC_k fun _ _ _ => uStr_k fun a1 _ => uC_k fun _ _ _ => uStr_k fun a2 _ => uC_k fun _ _ _ => uMp_k fun _ => uC_k fun _ _ _ => uI_k fun a3 _ => u0_k fun _ => uM_k fun _ _ _ => uC_k fun _ _ _ => uMb_k fun a4 _ => u0_k fun _ => uE_k fun _ => .inr ⟨a1, a2, a3, a4, by subst_vars; exact ⟨rfl, rfl⟩⟩

theorem rc82_0 (args : List (PV sig)) (m : Mem sig) : (∀ (C : Tab) (ρ : Type) (K : Res sig × Mem sig → Option ρ), Rc82_0 C ρ args m K = none) ∨ ∃ (a1 : Int), args = [.d (.int .u8 a1)] ∧ m = [] := by
  unfold Rc82_0
  exact uC_k fun _ _ _ => uI_k fun a1 _ => u0_k fun _ => uE_k fun _ => .inr ⟨a1, by subst_vars; exact ⟨rfl, rfl⟩⟩

theorem rc83_0 (args : List (PV sig)) (m : Mem sig) : (∀ (C : Tab) (ρ : Type) (K : Res sig × Mem sig → Option ρ), Rc83_0 C ρ args m K = none) ∨ ∃ (a1 : ByteArray) (a2 : Int), args = [.d (.str a1), .d (.int .i64 a2)] ∧ m = [] := by
  unfold Rc83_0
  exact uC_k fun _ _ _ => uStr_k fun a1 _ => uC_k fun _ _ _ => uI_k fun a2 _ => u0_k fun _ => uE_k fun _ => .inr ⟨a1, a2, by subst_vars; exact ⟨rfl, rfl⟩⟩

theorem rc84_0 (args : List (PV sig)) (m : Mem sig) : (∀ (C : Tab) (ρ : Type) (K : Res sig × Mem sig → Option ρ), Rc84_0 C ρ args m K = none) ∨ ∃ (a1 : List ByteArray) (a2 : ByteArray), args = [.d (.sl Key.str a1), .d (.str a2)] ∧ m = [] := by
  unfold Rc84_0
  exact uC_k fun _ _ _ => uS_k fun a1 _ => uC_k fun _ _ _ => uStr_k fun a2 _ => u0_k fun _ => uE_k fun _ => .inr ⟨a1, a2, by subst_vars; exact ⟨rfl, rfl⟩⟩

theorem rc85_0 (args : List (PV sig)) (m : Mem sig) : (∀ (C : Tab) (ρ : Type) (K : Res sig × Mem sig → Option ρ), Rc85_0 C ρ args m K = none) ∨ ∃ (a1 : Rw), args = [.agg [.d (.int .i64 a1.op), .d (.str a1.name), .d (.sl Key.raw a1.args)]] ∧ m = [] := by
  unfold Rc85_0
  exact uC_k fun _ _ _ => uRw_k fun a1 _ => u0_k fun _ => uE_k fun _ => .inr ⟨a1, by subst_vars; exact ⟨rfl, rfl⟩⟩

theorem rc86_0 (args : List (PV sig)) (m : Mem sig) : (∀ (C : Tab) (ρ : Type) (K : Res sig × Mem sig → Option ρ), Rc86_0 C ρ args m K = none) ∨ ∃ (a1 : Int), args = [.d (.int .i64 a1)] ∧ m = [] := by
  unfold Rc86_0
  exact uC_k fun _ _ _ => uI_k fun a1 _ => u0_k fun _ => uE_k fun _ => .inr ⟨a1, by subst_vars; exact ⟨rfl, rfl⟩⟩

theorem rc92_0 (args : List (PV sig)) (m : Mem sig) : (∀ (C : Tab) (ρ : Type) (K : Res sig × Mem sig → Option ρ), Rc92_0 C ρ args m K = none) ∨ ∃ (a1 : ByteArray), args = [.d (.str a1), .fn (.func 93) [] []] ∧ m = [] := by
  unfold Rc92_0
  exact uC_k fun _ _ _ => uStr_k fun a1 _ => uC_k fun _ _ _ => uFn_k fun _ _ _ => u0_k fun _ => u0_k fun _ => u0_k fun _ => uE_k fun _ => .inr ⟨a1, by subst_vars; exact ⟨rfl, rfl⟩⟩

theorem rc92_1 (args : List (PV sig)) (m : Mem sig) : (∀ (C : Tab) (ρ : Type) (K : Res sig × Mem sig → Option ρ), Rc92_1 C ρ args m K = none) ∨ ∃ (a1 : ByteArray), args = [.d (.str a1), .fn (.func 107) [] []] ∧ m = [] := by
  unfold Rc92_1
  exact uC_k fun _ _ _ => uStr_k fun a1 _ => uC_k fun _ _ _ => uFn_k fun _ _ _ => u0_k fun _ => u0_k fun _ => u0_k fun _ => uE_k fun _ => .inr ⟨a1, by subst_vars; exact ⟨rfl, rfl⟩⟩

theorem rc93_0 (args : List (PV sig)) (m : Mem sig) : (∀ (C : Tab) (ρ : Type) (K : Res sig × Mem sig → Option ρ), Rc93_0 C ρ args m K = none) ∨ ∃ (a1 : Int), args = [.d (.int .u8 a1)] ∧ m = [] := by
  unfold Rc93_0
  exact uC_k fun _ _ _ => uI_k fun a1 _ => u0_k fun _ => uE_k fun _ => .inr ⟨a1, by subst_vars; exact ⟨rfl, rfl⟩⟩

theorem rc94_0 (args : List (PV sig)) (m : Mem sig) : (∀ (C : Tab) (ρ : Type) (K : Res sig × Mem sig → Option ρ), Rc94_0 C ρ args m K = none) ∨ ∃ (a1 : List Int) (a2 : Int), args = [.d (.sl Key.int a1), .d (.int .i64 a2)] ∧ m = [] := by
  unfold Rc94_0
  exact uC_k fun _ _ _ => uS_k fun a1 _ => uC_k fun _ _ _ => uI_k fun a2 _ => u0_k fun _ => uE_k fun _ => .inr ⟨a1, a2, by subst_vars; exact ⟨rfl, rfl⟩⟩

theorem rc95_0 (args : List (PV sig)) (m : Mem sig) : (∀ (C : Tab) (ρ : Type) (K : Res sig × Mem sig → Option ρ), Rc95_0 C ρ args m K = none) ∨ ∃ (a1 : Int), args = [.d (.int .i64 a1)] ∧ m = [] := by
  unfold Rc95_0
  exact uC_k fun _ _ _ => uI_k fun a1 _ => u0_k fun _ => uE_k fun _ => .inr ⟨a1, by subst_vars; exact ⟨rfl, rfl⟩⟩

theorem rc97_0 (args : List (PV sig)) (m : Mem sig) : (∀ (C : Tab) (ρ : Type) (K : Res sig × Mem sig → Option ρ), Rc97_0 C ρ args m K = none) ∨ ∃ (a1 : Int), args = [.d (.int .u8 a1)] ∧ m = [] := by
  unfold Rc97_0
  exact uC_k fun _ _ _ => uI_k fun a1 _ => u0_k fun _ => uE_k fun _ => .inr ⟨a1, by subst_vars; exact ⟨rfl, rfl⟩⟩

theorem rc102_0 (args : List (PV sig)) (m : Mem sig) : (∀ (C : Tab) (ρ : Type) (K : Res sig × Mem sig → Option ρ), Rc102_0 C ρ args m K = none) ∨ ∃ (a1 : Int) (a2 : ByteArray) (a3 : Int), args = [.ptr 0 0, .d (.int .i64 a1)] ∧ m = [some [.d (.str a2), .d (.int .i64 a3)]] := by
  unfold Rc102_0
  exact uC_k fun _ _ _ => uP_k fun _ => uC_k fun _ _ _ => uI_k fun a1 _ => u0_k fun _ => uM_k fun _ _ _ => uC_k fun _ _ _ => uStr_k fun a2 _ => uC_k fun _ _ _ => uI_k fun a3 _ => u0_k fun _ => uE_k fun _ => .inr ⟨a1, a2, a3, by subst_vars; exact ⟨rfl, rfl⟩⟩

theorem rc103_0 (args : List (PV sig)) (m : Mem sig) : (∀ (C : Tab) (ρ : Type) (K : Res sig × Mem sig → Option ρ), Rc103_0 C ρ args m K = none) ∨ ∃ (a1 : ByteArray) (a2 : Int), args = [.d (.str a1), .d (.int .u8 a2)] ∧ m = [] := by
  unfold Rc103_0
  exact uC_k fun _ _ _ => uStr_k fun a1 _ => uC_k fun _ _ _ => uI_k fun a2 _ => u0_k fun _ => uE_k fun _ => .inr ⟨a1, a2, by subst_vars; exact ⟨rfl, rfl⟩⟩

theorem rc104_0 (args : List (PV sig)) (m : Mem sig) : (∀ (C : Tab) (ρ : Type) (K : Res sig × Mem sig → Option ρ), Rc104_0 C ρ args m K = none) ∨ ∃ (a1 : Int) (a2 : ByteArray) (a3 : Bool), args = [.d (.int .i64 a1), .d (.str a2), .d (.bool a3)] ∧ m = [] := by
  unfold Rc104_0
  exact uC_k fun _ _ _ => uI_k fun a1 _ => uC_k fun _ _ _ => uStr_k fun a2 _ => uC_k fun _ _ _ => uB_k fun a3 _ => u0_k fun _ => uE_k fun _ => .inr ⟨a1, a2, a3, by subst_vars; exact ⟨rfl, rfl⟩⟩

theorem rc105_0 (args : List (PV sig)) (m : Mem sig) : (∀ (C : Tab) (ρ : Type) (K : Res sig × Mem sig → Option ρ), Rc105_0 C ρ args m K = none) ∨ ∃ (a1 : ByteArray) (a2 : Int), args = [.ptr 0 0, .ptr 1 0] ∧ m = [some [.d (.str a1), .d (.int .i64 a2)], some [.fn (.func 104) [] []]] := by
  unfold Rc105_0
  exact uC_k fun _ _ _ => uP_k fun _ => uC_k fun _ _ _ => uP_k fun _ => u0_k fun _ => uM_k fun _ _ _ => uC_k fun _ _ _ => uStr_k fun a1 _ => uC_k fun _ _ _ => uI_k fun a2 _ => u0_k fun _ => uM_k fun _ _ _ => uC_k fun _ _ _ => uFn_k fun _ _ _ => u0_k fun _ => u0_k fun _ => u0_k fun _ => uE_k fun _ => .inr ⟨a1, a2, by subst_vars; exact ⟨rfl, rfl⟩⟩

theorem rc106_0 (args : List (PV sig)) (m : Mem sig) : (∀ (C : Tab) (ρ : Type) (K : Res sig × Mem sig → Option ρ), Rc106_0 C ρ args m K = none) ∨ ∃ (a1 : Int) (a2 : ByteArray) (a3 : Int), args = [.ptr 0 0, .d (.int .i64 a1)] ∧ m = [some [.d (.str a2), .d (.int .i64 a3)]] := by
  unfold Rc106_0
  exact uC_k fun _ _ _ => uP_k fun _ => uC_k fun _ _ _ => uI_k fun a1 _ => u0_k fun _ => uM_k fun _ _ _ => uC_k fun _ _ _ => uStr_k fun a2 _ => uC_k fun _ _ _ => uI_k fun a3 _ => u0_k fun _ => uE_k fun _ => .inr ⟨a1, a2, a3, by subst_vars; exact ⟨rfl, rfl⟩⟩

theorem rc107_0 (args : List (PV sig)) (m : Mem sig) : (∀ (C : Tab) (ρ : Type) (K : Res sig × Mem sig → Option ρ), Rc107_0 C ρ args m K = none) ∨ ∃ (a1 : Int), args = [.d (.int .u8 a1)] ∧ m = [] := by
  unfold Rc107_0
  exact uC_k fun _ _ _ => uI_k fun a1 _ => u0_k fun _ => uE_k fun _ => .inr ⟨a1, by subst_vars; exact ⟨rfl, rfl⟩⟩

theorem rc108_0 (args : List (PV sig)) (m : Mem sig) : (∀ (C : Tab) (ρ : Type) (K : Res sig × Mem sig → Option ρ), Rc108_0 C ρ args m K = none) ∨ ∃ (a1 : ByteArray) (a2 : Int), args = [.ptr 0 0, .ptr 1 0] ∧ m = [some [.d (.str a1), .d (.int .i64 a2)], some [.fn (.func 104) [] []]] := by
  unfold Rc108_0
  exact uC_k fun _ _ _ => uP_k fun _ => uC_k fun _ _ _ => uP_k fun _ => u0_k fun _ => uM_k fun _ _ _ => uC_k fun _ _ _ => uStr_k fun a1 _ => uC_k fun _ _ _ => uI_k fun a2 _ => u0_k fun _ => uM_k fun _ _ _ => uC_k fun _ _ _ => uFn_k fun _ _ _ => u0_k fun _ => u0_k fun _ => u0_k fun _ => uE_k fun _ => .inr ⟨a1, a2, by subst_vars; exact ⟨rfl, rfl⟩⟩

theorem rc109_0 (args : List (PV sig)) (m : Mem sig) : (∀ (C : Tab) (ρ : Type) (K : Res sig × Mem sig → Option ρ), Rc109_0 C ρ args m K = none) ∨ ∃ (a1 : Int), args = [.d (.int .u8 a1)] ∧ m = [] := by
  unfold Rc109_0
  exact uC_k fun _ _ _ => uI_k fun a1 _ => u0_k fun _ => uE_k fun _ => .inr ⟨a1, by subst_vars; exact ⟨rfl, rfl⟩⟩

theorem rc110_0 (args : List (PV sig)) (m : Mem sig) : (∀ (C : Tab) (ρ : Type) (K : Res sig × Mem sig → Option ρ), Rc110_0 C ρ args m K = none) ∨ ∃ (a1 : ByteArray) (a2 : Int), args = [.ptr 0 0, .ptr 1 0] ∧ m = [some [.d (.str a1), .d (.int .i64 a2)], some [.fn (.func 104) [] []]] := by
  unfold Rc110_0
  exact uC_k fun _ _ _ => uP_k fun _ => uC_k fun _ _ _ => uP_k fun _ => u0_k fun _ => uM_k fun _ _ _ => uC_k fun _ _ _ => uStr_k fun a1 _ => uC_k fun _ _ _ => uI_k fun a2 _ => u0_k fun _ => uM_k fun _ _ _ => uC_k fun _ _ _ => uFn_k fun _ _ _ => u0_k fun _ => u0_k fun _ => u0_k fun _ => uE_k fun _ => .inr ⟨a1, a2, by subst_vars; exact ⟨rfl, rfl⟩⟩

theorem rc111_0 (args : List (PV sig)) (m : Mem sig) : (∀ (C : Tab) (ρ : Type) (K : Res sig × Mem sig → Option ρ), Rc111_0 C ρ args m K = none) ∨ ∃ (a1 : ByteArray), args = [.d (.str a1)] ∧ m = [] := by
  unfold Rc111_0
  exact uC_k fun _ _ _ => uStr_k fun a1 _ => u0_k fun _ => uE_k fun _ => .inr ⟨a1, by subst_vars; exact ⟨rfl, rfl⟩⟩

theorem rc112_0 (args : List (PV sig)) (m : Mem sig) : (∀ (C : Tab) (ρ : Type) (K : Res sig × Mem sig → Option ρ), Rc112_0 C ρ args m K = none) ∨ ∃ (a1 : ByteArray) (a2 : Int), args = [.ptr 0 0, .ptr 1 0] ∧ m = [some [.d (.str a1), .d (.int .i64 a2)], some [.fn (.func 104) [] []]] := by
  unfold Rc112_0
  exact uC_k fun _ _ _ => uP_k fun _ => uC_k fun _ _ _ => uP_k fun _ => u0_k fun _ => uM_k fun _ _ _ => uC_k fun _ _ _ => uStr_k fun a1 _ => uC_k fun _ _ _ => uI_k fun a2 _ => u0_k fun _ => uM_k fun _ _ _ => uC_k fun _ _ _ => uFn_k fun _ _ _ => u0_k fun _ => u0_k fun _ => u0_k fun _ => uE_k fun _ => .inr ⟨a1, a2, by subst_vars; exact ⟨rfl, rfl⟩⟩

theorem rc113_0 (args : List (PV sig)) (m : Mem sig) : (∀ (C : Tab) (ρ : Type) (K : Res sig × Mem sig → Option ρ), Rc113_0 C ρ args m K = none) ∨ ∃ (a1 : ByteArray) (a2 : Int), args = [.ptr 0 0, .ptr 1 0] ∧ m = [some [.d (.str a1), .d (.int .i64 a2)], some [.fn (.func 104) [] []]] := by
  unfold Rc113_0
  exact uC_k fun _ _ _ => uP_k fun _ => uC_k fun _ _ _ => uP_k fun _ => u0_k fun _ => uM_k fun _ _ _ => uC_k fun _ _ _ => uStr_k fun a1 _ => uC_k fun _ _ _ => uI_k fun a2 _ => u0_k fun _ => uM_k fun _ _ _ => uC_k fun _ _ _ => uFn_k fun _ _ _ => u0_k fun _ => u0_k fun _ => u0_k fun _ => uE_k fun _ => .inr ⟨a1, a2, by subst_vars; exact ⟨rfl, rfl⟩⟩

theorem rc114_0 (args : List (PV sig)) (m : Mem sig) : (∀ (C : Tab) (ρ : Type) (K : Res sig × Mem sig → Option ρ), Rc114_0 C ρ args m K = none) ∨ ∃ (a1 : ByteArray) (a2 : Int), args = [.ptr 0 0] ∧ m = [some [.d (.str a1), .d (.int .i64 a2)]] := by
  unfold Rc114_0
  exact uC_k fun _ _ _ => uP_k fun _ => u0_k fun _ => uM_k fun _ _ _ => uC_k fun _ _ _ => uStr_k fun a1 _ => uC_k fun _ _ _ => uI_k fun a2 _ => u0_k fun _ => uE_k fun _ => .inr ⟨a1, a2, by subst_vars; exact ⟨rfl, rfl⟩⟩

theorem rc115_0 (args : List (PV sig)) (m : Mem sig) : (∀ (C : Tab) (ρ : Type) (K : Res sig × Mem sig → Option ρ), Rc115_0 C ρ args m K = none) ∨ ∃ (a1 : ByteArray) (a2 : Int), args = [.ptr 0 0, .ptr 1 0] ∧ m = [some [.d (.str a1), .d (.int .i64 a2)], some [.fn (.func 104) [] []]] := by
  unfold Rc115_0
  exact uC_k fun _ _ _ => uP_k fun _ => uC_k fun _ _ _ => uP_k fun _ => u0_k fun _ => uM_k fun _ _ _ => uC_k fun _ _ _ => uStr_k fun a1 _ => uC_k fun _ _ _ => uI_k fun a2 _ => u0_k fun _ => uM_k fun _ _ _ => uC_k fun _ _ _ => uFn_k fun _ _ _ => u0_k fun _ => u0_k fun _ => u0_k fun _ => uE_k fun _ => .inr ⟨a1, a2, by subst_vars; exact ⟨rfl, rfl⟩⟩

theorem rc116_0 (args : List (PV sig)) (m : Mem sig) : (∀ (C : Tab) (ρ : Type) (K : Res sig × Mem sig → Option ρ), Rc116_0 C ρ args m K = none) ∨ ∃ (a1 : ByteArray) (a2 : Int) (a3 : Int), args = [.ptr 0 0, .ptr 1 0, .ptr 2 0] ∧ m = [some [.d (.str a1), .d (.int .i64 a2)], some [.fn (.func 104) [] []], some [.d (.int .u8 a3)]] := by
  unfold Rc116_0
  exact uC_k fun _ _ _ => uP_k fun _ => uC_k fun _ _ _ => uP_k fun _ => uC_k fun _ _ _ => uP_k fun _ => u0_k fun _ => uM_k fun _ _ _ => uC_k fun _ _ _ => uStr_k fun a1 _ => uC_k fun _ _ _ => uI_k fun a2 _ => u0_k fun _ => uM_k fun _ _ _ => uC_k fun _ _ _ => uFn_k fun _ _ _ => u0_k fun _ => u0_k fun _ => u0_k fun _ => uM_k fun _ _ _ => uC_k fun _ _ _ => uI_k fun a3 _ => u0_k fun _ => uE_k fun _ => .inr ⟨a1, a2, a3, by subst_vars; exact ⟨rfl, rfl⟩⟩

theorem rc117_0 (args : List (PV sig)) (m : Mem sig) : (∀ (C : Tab) (ρ : Type) (K : Res sig × Mem sig → Option ρ), Rc117_0 C ρ args m K = none) ∨ ∃ (a1 : List Tok) (a2 : Int), args = [.ptr 0 0] ∧ m = [some [.d (.sl Key.tok a1), .d (.int .i64 a2)]] := by
  unfold Rc117_0
  exact uC_k fun _ _ _ => uP_k fun _ => u0_k fun _ => uM_k fun _ _ _ => uC_k fun _ _ _ => uS_k fun a1 _ => uC_k fun _ _ _ => uI_k fun a2 _ => u0_k fun _ => uE_k fun _ => .inr ⟨a1, a2, by subst_vars; exact ⟨rfl, rfl⟩⟩

theorem rc118_0 (args : List (PV sig)) (m : Mem sig) : (∀ (C : Tab) (ρ : Type) (K : Res sig × Mem sig → Option ρ), Rc118_0 C ρ args m K = none) ∨ ∃ (a1 : ByteArray) (a2 : List Tok) (a3 : Int), args = [.ptr 0 0, .d (.str a1)] ∧ m = [some [.d (.sl Key.tok a2), .d (.int .i64 a3)]] := by
  unfold Rc118_0
  exact uC_k fun _ _ _ => uP_k fun _ => uC_k fun _ _ _ => uStr_k fun a1 _ => u0_k fun _ => uM_k fun _ _ _ => uC_k fun _ _ _ => uS_k fun a2 _ => uC_k fun _ _ _ => uI_k fun a3 _ => u0_k fun _ => uE_k fun _ => .inr ⟨a1, a2, a3, by subst_vars; exact ⟨rfl, rfl⟩⟩

theorem rc119_0 (args : List (PV sig)) (m : Mem sig) : (∀ (C : Tab) (ρ : Type) (K : Res sig × Mem sig → Option ρ), Rc119_0 C ρ args m K = none) ∨ ∃ (a1 : List Tok) (a2 : Int), args = [.ptr 0 0] ∧ m = [some [.d (.sl Key.tok a1), .d (.int .i64 a2)]] := by
  unfold Rc119_0
  exact uC_k fun _ _ _ => uP_k fun _ => u0_k fun _ => uM_k fun _ _ _ => uC_k fun _ _ _ => uS_k fun a1 _ => uC_k fun _ _ _ => uI_k fun a2 _ => u0_k fun _ => uE_k fun _ => .inr ⟨a1, a2, by subst_vars; exact ⟨rfl, rfl⟩⟩

theorem rc120_0 (args : List (PV sig)) (m : Mem sig) : (∀ (C : Tab) (ρ : Type) (K : Res sig × Mem sig → Option ρ), Rc120_0 C ρ args m K = none) ∨ ∃ (a1 : List Tok) (a2 : Int), args = [.ptr 0 0] ∧ m = [some [.d (.sl Key.tok a1), .d (.int .i64 a2)]] := by
  unfold Rc120_0
  exact uC_k fun _ _ _ => uP_k fun _ => u0_k fun _ => uM_k fun _ _ _ => uC_k fun _ _ _ => uS_k fun a1 _ => uC_k fun _ _ _ => uI_k fun a2 _ => u0_k fun _ => uE_k fun _ => .inr ⟨a1, a2, by subst_vars; exact ⟨rfl, rfl⟩⟩

theorem rc126_0 (args : List (PV sig)) (m : Mem sig) : (∀ (C : Tab) (ρ : Type) (K : Res sig × Mem sig → Option ρ), Rc126_0 C ρ args m K = none) ∨ ∃ (a1 : List ByteArray) (a2 : ByteArray), args = [.d (.sl Key.str a1), .d (.str a2)] ∧ m = [] := by
  unfold Rc126_0
  exact uC_k fun _ _ _ => uS_k fun a1 _ => uC_k fun _ _ _ => uStr_k fun a2 _ => u0_k fun _ => uE_k fun _ => .inr ⟨a1, a2, by subst_vars; exact ⟨rfl, rfl⟩⟩

theorem rc127_0 (args : List (PV sig)) (m : Mem sig) : (∀ (C : Tab) (ρ : Type) (K : Res sig × Mem sig → Option ρ), Rc127_0 C ρ args m K = none) ∨ ∃ (a1 : Int), args = [.d (.int .u8 a1)] ∧ m = [] := by
  unfold Rc127_0
  exact uC_k fun _ _ _ => uI_k fun a1 _ => u0_k fun _ => uE_k fun _ => .inr ⟨a1, by subst_vars; exact ⟨rfl, rfl⟩⟩

theorem rc128_0 (args : List (PV sig)) (m : Mem sig) : (∀ (C : Tab) (ρ : Type) (K : Res sig × Mem sig → Option ρ), Rc128_0 C ρ args m K = none) ∨ ∃ (a1 : Rw) (a2 : List ByteArray) (a3 : List ByteArray), args = [.agg [.d (.int .i64 a1.op), .d (.str a1.name), .d (.sl Key.raw a1.args)], .full Key.str a2, .full Key.str a3] ∧ m = [] := by
  unfold Rc128_0
  exact uC_k fun _ _ _ => uRw_k fun a1 _ => uC_k fun _ _ _ => uS_k fun a2 _ => uC_k fun _ _ _ => uS_k fun a3 _ => u0_k fun _ => uE_k fun _ => .inr ⟨a1, a2, a3, by subst_vars; exact ⟨rfl, rfl⟩⟩

theorem rc128_1 (args : List (PV sig)) (m : Mem sig) : (∀ (C : Tab) (ρ : Type) (K : Res sig × Mem sig → Option ρ), Rc128_1 C ρ args m K = none) ∨ ∃ (a1 : Rw) (a2 : List ByteArray) (a3 : List ByteArray), args = [.agg [.d (.int .i64 a1.op), .d (.str a1.name), .d (.sl Key.raw a1.args)], .d (.sl Key.str a2), .own Key.str a3] ∧ m = [] := by
  unfold Rc128_1
  exact uC_k fun _ _ _ => uRw_k fun a1 _ => uC_k fun _ _ _ => uS_k fun a2 _ => uC_k fun _ _ _ => uS_k fun a3 _ => u0_k fun _ => uE_k fun _ => .inr ⟨a1, a2, a3, by subst_vars; exact ⟨rfl, rfl⟩⟩

theorem rc128_2 (args : List (PV sig)) (m : Mem sig) : (∀ (C : Tab) (ρ : Type) (K : Res sig × Mem sig → Option ρ), Rc128_2 C ρ args m K = none) ∨ ∃ (a1 : Rw) (a2 : List ByteArray) (a3 : List ByteArray), args = [.agg [.d (.int .i64 a1.op), .d (.str a1.name), .d (.sl Key.raw a1.args)], .d (.sl Key.str a2), .full Key.str a3] ∧ m = [] := by
  unfold Rc128_2
  exact uC_k fun _ _ _ => uRw_k fun a1 _ => uC_k fun _ _ _ => uS_k fun a2 _ => uC_k fun _ _ _ => uS_k fun a3 _ => u0_k fun _ => uE_k fun _ => .inr ⟨a1, a2, a3, by subst_vars; exact ⟨rfl, rfl⟩⟩

theorem rc132_0 (args : List (PV sig)) (m : Mem sig) : (∀ (C : Tab) (ρ : Type) (K : Res sig × Mem sig → Option ρ), Rc132_0 C ρ args m K = none) ∨ ∃ (a1 : Int), args = [.d (.int .u8 a1)] ∧ m = [] := by
  unfold Rc132_0
  exact uC_k fun _ _ _ => uI_k fun a1 _ => u0_k fun _ => uE_k fun _ => .inr ⟨a1, by subst_vars; exact ⟨rfl, rfl⟩⟩

theorem rc133_0 (args : List (PV sig)) (m : Mem sig) : (∀ (C : Tab) (ρ : Type) (K : Res sig × Mem sig → Option ρ), Rc133_0 C ρ args m K = none) ∨ ∃ (a1 : List Int) (a2 : Int), args = [.d (.sl Key.int a1), .d (.int .i64 a2)] ∧ m = [] := by
  unfold Rc133_0
  exact uC_k fun _ _ _ => uS_k fun a1 _ => uC_k fun _ _ _ => uI_k fun a2 _ => u0_k fun _ => uE_k fun _ => .inr ⟨a1, a2, by subst_vars; exact ⟨rfl, rfl⟩⟩

theorem rc139_0 (args : List (PV sig)) (m : Mem sig) : (∀ (C : Tab) (ρ : Type) (K : Res sig × Mem sig → Option ρ), Rc139_0 C ρ args m K = none) ∨ ∃ (a1 : ByteArray), args = [.d (.str a1)] ∧ m = [] := by
  unfold Rc139_0
  exact uC_k fun _ _ _ => uStr_k fun a1 _ => u0_k fun _ => uE_k fun _ => .inr ⟨a1, by subst_vars; exact ⟨rfl, rfl⟩⟩

theorem rc140_0 (args : List (PV sig)) (m : Mem sig) : (∀ (C : Tab) (ρ : Type) (K : Res sig × Mem sig → Option ρ), Rc140_0 C ρ args m K = none) ∨ ∃ (a1 : Tok), args = [.agg [.d (.int .i64 a1.kind), .d (.str a1.text), .d (.int .i64 (a1.at_))]] ∧ m = [] := by
  unfold Rc140_0
  exact uC_k fun _ _ _ => uTok_k fun a1 _ => u0_k fun _ => uE_k fun _ => .inr ⟨a1, by subst_vars; exact ⟨rfl, rfl⟩⟩

theorem rc141_0 (args : List (PV sig)) (m : Mem sig) : (∀ (C : Tab) (ρ : Type) (K : Res sig × Mem sig → Option ρ), Rc141_0 C ρ args m K = none) ∨ ∃ (a1 : List Tok) (a2 : Int), args = [.ptr 0 0] ∧ m = [some [.d (.sl Key.tok a1), .d (.int .i64 a2)]] := by
  unfold Rc141_0
  exact uC_k fun _ _ _ => uP_k fun _ => u0_k fun _ => uM_k fun _ _ _ => uC_k fun _ _ _ => uS_k fun a1 _ => uC_k fun _ _ _ => uI_k fun a2 _ => u0_k fun _ => uE_k fun _ => .inr ⟨a1, a2, by subst_vars; exact ⟨rfl, rfl⟩⟩

theorem rl5_10_0 (vs : List (PV sig)) (m : Mem sig) (ds : List (FuncId × List (PV sig))) (nt : Nat) : (∀ (C : Tab) (ρ : Type) (K : Ex sig → St sig → Option ρ), Rl5_10_0 C ρ vs m ds nt K = none) ∨ ∃ (a1 : ByteArray) (a2 : ByteArray) (a3 : List ByteArray) (a4 : List ByteArray) (a5 : List ByteArray) (a6 : List ByteArray) (a7 : Int) (a8 : Int) (a9 : Rw) (a10 : Rw), vs = [.d (.str a1), .d (.str a2), .ptr 0 0, .ptr 1 0, .d (.sl Key.str a3), .d (.sl Key.str a4), .own Key.str a5, .d (.sl Key.str a6), .d (.int .i64 a7), .d (.int .i64 a8)] ∧ m = [some [.d (.int .i64 a9.op), .d (.str a9.name), .d (.sl Key.raw a9.args)], some [.d (.int .i64 a10.op), .d (.str a10.name), .d (.sl Key.raw a10.args)]] ∧ ds = [] ∧ nt = 118 := by
  unfold Rl5_10_0
  exact uN_k fun _ => uC_k fun _ _ _ => uStr_k fun a1 _ => uC_k fun _ _ _ => uStr_k fun a2 _ => uC_k fun _ _ _ => uP_k fun _ => uC_k fun _ _ _ => uP_k fun _ => uC_k fun _ _ _ => uS_k fun a3 _ => uC_k fun _ _ _ => uS_k fun a4 _ => uC_k fun _ _ _ => uS_k fun a5 _ => uC_k fun _ _ _ => uS_k fun a6 _ => uC_k fun _ _ _ => uI_k fun a7 _ => uC_k fun _ _ _ => uI_k fun a8 _ => u0_k fun _ => uM_k fun _ _ _ => uRwL_k fun a9 _ => uM_k fun _ _ _ => uRwL_k fun a10 _ => uE_k fun _ => uDe_k fun _ => .inr ⟨a1, a2, a3, a4, a5, a6, a7, a8, a9, a10, by subst_vars; exact ⟨rfl, rfl, rfl, rfl⟩⟩

theorem rl10_4_0 (vs : List (PV sig)) (m : Mem sig) (ds : List (FuncId × List (PV sig))) (nt : Nat) : (∀ (C : Tab) (ρ : Type) (K : Ex sig → St sig → Option ρ), Rl10_4_0 C ρ vs m ds nt K = none) ∨ ∃ (a1 : Int) (a2 : Rw) (a3 : Rw), vs = [.ptr 0 0, .ptr 1 0, .d (.int .i64 a1)] ∧ m = [some [.d (.int .i64 a2.op), .d (.str a2.name), .d (.sl Key.raw a2.args)], some [.d (.int .i64 a3.op), .d (.str a3.name), .d (.sl Key.raw a3.args)]] ∧ ds = [] ∧ nt = 46 := by
  unfold Rl10_4_0
  exact uN_k fun _ => uC_k fun _ _ _ => uP_k fun _ => uC_k fun _ _ _ => uP_k fun _ => uC_k fun _ _ _ => uI_k fun a1 _ => u0_k fun _ => uM_k fun _ _ _ => uRwL_k fun a2 _ => uM_k fun _ _ _ => uRwL_k fun a3 _ => uE_k fun _ => uDe_k fun _ => .inr ⟨a1, a2, a3, by subst_vars; exact ⟨rfl, rfl, rfl, rfl⟩⟩

theorem rl17_2_0 (vs : List (PV sig)) (m : Mem sig) (ds : List (FuncId × List (PV sig))) (nt : Nat) : (∀ (C : Tab) (ρ : Type) (K : Ex sig → St sig → Option ρ), Rl17_2_0 C ρ vs m ds nt K = none) ∨ ∃ (a1 : ByteArray) (a2 : List ByteArray) (a3 : Int) (a4 : Int), vs = [.d (.str a1), .d (.sl Key.str a2), .d (.int .i64 a3), .d (.int .i64 a4)] ∧ m = [] ∧ ds = [] ∧ nt = 17 := by
  unfold Rl17_2_0
  exact uN_k fun _ => uC_k fun _ _ _ => uStr_k fun a1 _ => uC_k fun _ _ _ => uS_k fun a2 _ => uC_k fun _ _ _ => uI_k fun a3 _ => uC_k fun _ _ _ => uI_k fun a4 _ => u0_k fun _ => uE_k fun _ => uDe_k fun _ => .inr ⟨a1, a2, a3, a4, by subst_vars; exact ⟨rfl, rfl, rfl, rfl⟩⟩

theorem rl18_4_0 (vs : List (PV sig)) (m : Mem sig) (ds : List (FuncId × List (PV sig))) (nt : Nat) : (∀ (C : Tab) (ρ : Type) (K : Ex sig → St sig → Option ρ), Rl18_4_0 C ρ vs m ds nt K = none) ∨ ∃ (a1 : List ByteArray) (a2 : List ByteArray) (a3 : Int) (a4 : Int), vs = [.d (.sl Key.str a1), .d (.sl Key.str a2), .d (.int .i64 a3), .d (.int .i64 a4)] ∧ m = [] ∧ ds = [] ∧ nt = 26 := by
  unfold Rl18_4_0
  exact uN_k fun _ => uC_k fun _ _ _ => uS_k fun a1 _ => uC_k fun _ _ _ => uS_k fun a2 _ => uC_k fun _ _ _ => uI_k fun a3 _ => uC_k fun _ _ _ => uI_k fun a4 _ => u0_k fun _ => uE_k fun _ => uDe_k fun _ => .inr ⟨a1, a2, a3, a4, by subst_vars; exact ⟨rfl, rfl, rfl, rfl⟩⟩

theorem rl19_4_0 (vs : List (PV sig)) (m : Mem sig) (ds : List (FuncId × List (PV sig))) (nt : Nat) : (∀ (C : Tab) (ρ : Type) (K : Ex sig → St sig → Option ρ), Rl19_4_0 C ρ vs m ds nt K = none) ∨ ∃ (a1 : ByteArray) (a2 : Int) (a3 : Int) (a4 : Rw), vs = [.d (.str a1), .ptr 0 0, .d (.int .i64 a2), .d (.int .i64 a3)] ∧ m = [some [.d (.int .i64 a4.op), .d (.str a4.name), .d (.sl Key.raw a4.args)]] ∧ ds = [] ∧ nt = 34 := by
  unfold Rl19_4_0
  exact uN_k fun _ => uC_k fun _ _ _ => uStr_k fun a1 _ => uC_k fun _ _ _ => uP_k fun _ => uC_k fun _ _ _ => uI_k fun a2 _ => uC_k fun _ _ _ => uI_k fun a3 _ => u0_k fun _ => uM_k fun _ _ _ => uRwL_k fun a4 _ => uE_k fun _ => uDe_k fun _ => .inr ⟨a1, a2, a3, a4, by subst_vars; exact ⟨rfl, rfl, rfl, rfl⟩⟩

theorem rl28_6_0 (vs : List (PV sig)) (m : Mem sig) (ds : List (FuncId × List (PV sig))) (nt : Nat) : (∀ (C : Tab) (ρ : Type) (K : Ex sig → St sig → Option ρ), Rl28_6_0 C ρ vs m ds nt K = none) ∨ ∃ (a1 : ByteArray) (a2 : List Tok) (a3 : ByteArray) (a4 : Int), vs = [.d (.str a1), .ptr 0 0, .own Key.tok a2] ∧ m = [some [.d (.str a3), .d (.int .i64 a4)]] ∧ ds = [] ∧ nt = 69 := by
  unfold Rl28_6_0
  exact uN_k fun _ => uC_k fun _ _ _ => uStr_k fun a1 _ => uC_k fun _ _ _ => uP_k fun _ => uC_k fun _ _ _ => uS_k fun a2 _ => u0_k fun _ => uM_k fun _ _ _ => uC_k fun _ _ _ => uStr_k fun a3 _ => uC_k fun _ _ _ => uI_k fun a4 _ => u0_k fun _ => uE_k fun _ => uDe_k fun _ => .inr ⟨a1, a2, a3, a4, by subst_vars; exact ⟨rfl, rfl, rfl, rfl⟩⟩

theorem rl30_4_0 (vs : List (PV sig)) (m : Mem sig) (ds : List (FuncId × List (PV sig))) (nt : Nat) : (∀ (C : Tab) (ρ : Type) (K : Ex sig → St sig → Option ρ), Rl30_4_0 C ρ vs m ds nt K = none) ∨ ∃ (a1 : Bool) (a2 : List Tok) (a3 : Int) (a4 : Rw) (a5 : Rw), vs = [.ptr 0 0, .ptr 1 0, .ptr 3 0, .d (.bool a1)] ∧ m = [some [.d (.sl Key.tok a2), .d (.int .i64 a3)], some [.d (.int .i64 a4.op), .d (.str a4.name), .full Key.raw a4.args], none, some [.d (.int .i64 a5.op), .d (.str a5.name), .d (.sl Key.raw a5.args)]] ∧ ds = [] ∧ nt = 63 := by
  unfold Rl30_4_0
  exact uN_k fun _ => uC_k fun _ _ _ => uP_k fun _ => uC_k fun _ _ _ => uP_k fun _ => uC_k fun _ _ _ => uP_k fun _ => uC_k fun _ _ _ => uB_k fun a1 _ => u0_k fun _ => uM_k fun _ _ _ => uC_k fun _ _ _ => uS_k fun a2 _ => uC_k fun _ _ _ => uI_k fun a3 _ => u0_k fun _ => uM_k fun _ _ _ => uRwL_k fun a4 _ => uMn_k fun _ _ => uM_k fun _ _ _ => uRwL_k fun a5 _ => uE_k fun _ => uDe_k fun _ => .inr ⟨a1, a2, a3, a4, a5, by subst_vars; exact ⟨rfl, rfl, rfl, rfl⟩⟩

theorem rl39_3_0 (vs : List (PV sig)) (m : Mem sig) (ds : List (FuncId × List (PV sig))) (nt : Nat) : (∀ (C : Tab) (ρ : Type) (K : Ex sig → St sig → Option ρ), Rl39_3_0 C ρ vs m ds nt K = none) ∨ ∃ (a1 : List Rw) (a2 : Int) (a3 : Int) (a4 : List (ByteArray × Bool)), vs = [.mp 0, .d (.sl Key.raw a1), .d (.int .i64 a2), .d (.int .i64 a3)] ∧ m = [some [.mpo (.b a4)]] ∧ ds = [] ∧ nt = 20 := by
  unfold Rl39_3_0
  exact uN_k fun _ => uC_k fun _ _ _ => uMp_k fun _ => uC_k fun _ _ _ => uS_k fun a1 _ => uC_k fun _ _ _ => uI_k fun a2 _ => uC_k fun _ _ _ => uI_k fun a3 _ => u0_k fun _ => uM_k fun _ _ _ => uC_k fun _ _ _ => uMb_k fun a4 _ => u0_k fun _ => uE_k fun _ => uDe_k fun _ => .inr ⟨a1, a2, a3, a4, by subst_vars; exact ⟨rfl, rfl, rfl, rfl⟩⟩

theorem rl40_23_0 (vs : List (PV sig)) (m : Mem sig) (ds : List (FuncId × List (PV sig))) (nt : Nat) : (∀ (C : Tab) (ρ : Type) (K : Ex sig → St sig → Option ρ), Rl40_23_0 C ρ vs m ds nt K = none) ∨ ∃ (a1 : List ByteArray) (a2 : List Rw) (a3 : Int) (a4 : Int) (a5 : ByteArray) (a6 : ByteArray) (a7 : Int) (a8 : List (ByteArray × Bool)) (a9 : Rw) (a10 : Rw) (a11 : Rw), vs = [.ptr 0 0, .d (.sl Key.str a1), .nilmp, .ptr 3 0, .ptr 4 0, .d (.sl Key.raw a2), .d (.int .i64 a3), .d (.int .i64 a4)] ∧ m = [some [.d (.str a5), .d (.str a6), .mp 1, .d (.int .i64 a7)], some [.mpo (.b a8)], some [.d (.int .i64 a9.op), .d (.str a9.name), .d (.sl Key.raw a9.args)], some [.d (.int .i64 a10.op), .d (.str a10.name), .full Key.raw a10.args], some [.d (.int .i64 a11.op), .d (.str a11.name), .own Key.raw a11.args]] ∧ ds = [] ∧ nt = 145 := by
  unfold Rl40_23_0
  exact uN_k fun _ => uC_k fun _ _ _ => uP_k fun _ => uC_k fun _ _ _ => uS_k fun a1 _ => uC_k fun _ _ _ => uNilmp_k fun _ => uC_k fun _ _ _ => uP_k fun _ => uC_k fun _ _ _ => uP_k fun _ => uC_k fun _ _ _ => uS_k fun a2 _ => uC_k fun _ _ _ => uI_k fun a3 _ => uC_k fun _ _ _ => uI_k fun a4 _ => u0_k fun _ => uM_k fun _ _ _ => uC_k fun _ _ _ => uStr_k fun a5 _ => uC_k fun _ _ _ => uStr_k fun a6 _ => uC_k fun _ _ _ => uMp_k fun _ => uC_k fun _ _ _ => uI_k fun a7 _ => u0_k fun _ => uM_k fun _ _ _ => uC_k fun _ _ _ => uMb_k fun a8 _ => u0_k fun _ => uM_k fun _ _ _ => uRwL_k fun a9 _ => uM_k fun _ _ _ => uRwL_k fun a10 _ => uM_k fun _ _ _ => uRwL_k fun a11 _ => uE_k fun _ => uDe_k fun _ => .inr ⟨a1, a2, a3, a4, a5, a6, a7, a8, a9, a10, a11, by subst_vars; exact ⟨rfl, rfl, rfl, rfl⟩⟩

theorem rl40_23_1 (vs : List (PV sig)) (m : Mem sig) (ds : List (FuncId × List (PV sig))) (nt : Nat) : (∀ (C : Tab) (ρ : Type) (K : Ex sig → St sig → Option ρ), Rl40_23_1 C ρ vs m ds nt K = none) ∨ ∃ (a1 : List ByteArray) (a2 : List Rw) (a3 : Int) (a4 : Int) (a5 : ByteArray) (a6 : ByteArray) (a7 : Int) (a8 : List (ByteArray × ByteArray)) (a9 : List (ByteArray × Bool)) (a10 : Rw) (a11 : Rw) (a12 : Rw), vs = [.ptr 0 0, .d (.sl Key.str a1), .mp 1, .ptr 4 0, .ptr 5 0, .d (.sl Key.raw a2), .d (.int .i64 a3), .d (.int .i64 a4)] ∧ m = [some [.d (.str a5), .d (.str a6), .mp 2, .d (.int .i64 a7)], some [.mpo (.s a8)], some [.mpo (.b a9)], some [.d (.int .i64 a10.op), .d (.str a10.name), .d (.sl Key.raw a10.args)], some [.d (.int .i64 a11.op), .d (.str a11.name), .full Key.raw a11.args], some [.d (.int .i64 a12.op), .d (.str a12.name), .own Key.raw a12.args]] ∧ ds = [] ∧ nt = 145 := by
  unfold Rl40_23_1
  exact uN_k fun _ => uC_k fun _ _ _ => uP_k fun _ => uC_k fun _ _ _ => uS_k fun a1 _ => uC_k fun _ _ _ => uMp_k fun _ => uC_k fun _ _ _ => uP_k fun _ => uC_k fun _ _ _ => uP_k fun _ => uC_k fun _ _ _ => uS_k fun a2 _ => uC_k fun _ _ _ => uI_k fun a3 _ => uC_k fun _ _ _ => uI_k fun a4 _ => u0_k fun _ => uM_k fun _ _ _ => uC_k fun _ _ _ => uStr_k fun a5 _ => uC_k fun _ _ _ => uStr_k fun a6 _ => uC_k fun _ _ _ => uMp_k fun _ => uC_k fun _ _ _ => uI_k fun a7 _ => u0_k fun _ => uM_k fun _ _ _ => uC_k fun _ _ _ => uMs_k fun a8 _ => u0_k fun _ => uM_k fun _ _ _ => uC_k fun _ _ _ => uMb_k fun a9 _ => u0_k fun _ => uM_k fun _ _ _ => uRwL_k fun a10 _ => uM_k fun _ _ _ => uRwL_k fun a11 _ => uM_k fun _ _ _ => uRwL_k fun a12 _ => uE_k fun _ => uDe_k fun _ => .inr ⟨a1, a2, a3, a4, a5, a6, a7, a8, a9, a10, a11, a12, by subst_vars; exact ⟨rfl, rfl, rfl, rfl⟩⟩

theorem rl41_3_0 (vs : List (PV sig)) (m : Mem sig) (ds : List (FuncId × List (PV sig))) (nt : Nat) : (∀ (C : Tab) (ρ : Type) (K : Ex sig → St sig → Option ρ), Rl41_3_0 C ρ vs m ds nt K = none) ∨ ∃ (a1 : List Rw) (a2 : Int) (a3 : Int) (a4 : Rw) (a5 : Rw) (a6 : Rw), vs = [.ptr 1 0, .ptr 2 0, .d (.sl Key.raw a1), .d (.int .i64 a2), .d (.int .i64 a3)] ∧ m = [some [.d (.int .i64 a4.op), .d (.str a4.name), .d (.sl Key.raw a4.args)], some [.d (.int .i64 a5.op), .d (.str a5.name), .full Key.raw a5.args], some [.d (.int .i64 a6.op), .d (.str a6.name), .own Key.raw a6.args]] ∧ ds = [] ∧ nt = 27 := by
  unfold Rl41_3_0
  exact uN_k fun _ => uC_k fun _ _ _ => uP_k fun _ => uC_k fun _ _ _ => uP_k fun _ => uC_k fun _ _ _ => uS_k fun a1 _ => uC_k fun _ _ _ => uI_k fun a2 _ => uC_k fun _ _ _ => uI_k fun a3 _ => u0_k fun _ => uM_k fun _ _ _ => uRwL_k fun a4 _ => uM_k fun _ _ _ => uRwL_k fun a5 _ => uM_k fun _ _ _ => uRwL_k fun a6 _ => uE_k fun _ => uDe_k fun _ => .inr ⟨a1, a2, a3, a4, a5, a6, by subst_vars; exact ⟨rfl, rfl, rfl, rfl⟩⟩

theorem rl42_3_0 (vs : List (PV sig)) (m : Mem sig) (ds : List (FuncId × List (PV sig))) (nt : Nat) : (∀ (C : Tab) (ρ : Type) (K : Ex sig → St sig → Option ρ), Rl42_3_0 C ρ vs m ds nt K = none) ∨ ∃ (a1 : Int) (a2 : Int) (a3 : Int) (a4 : Rw), vs = [.d (.int .i64 a1), .ptr 0 0, .d (.int .i64 a2), .d (.int .i64 a3)] ∧ m = [some [.d (.int .i64 a4.op), .d (.str a4.name), .d (.sl Key.raw a4.args)]] ∧ ds = [] ∧ nt = 34 := by
  unfold Rl42_3_0
  exact uN_k fun _ => uC_k fun _ _ _ => uI_k fun a1 _ => uC_k fun _ _ _ => uP_k fun _ => uC_k fun _ _ _ => uI_k fun a2 _ => uC_k fun _ _ _ => uI_k fun a3 _ => u0_k fun _ => uM_k fun _ _ _ => uRwL_k fun a4 _ => uE_k fun _ => uDe_k fun _ => .inr ⟨a1, a2, a3, a4, by subst_vars; exact ⟨rfl, rfl, rfl, rfl⟩⟩

theorem rl43_18_0 (vs : List (PV sig)) (m : Mem sig) (ds : List (FuncId × List (PV sig))) (nt : Nat) : (∀ (C : Tab) (ρ : Type) (K : Ex sig → St sig → Option ρ), Rl43_18_0 C ρ vs m ds nt K = none) ∨ ∃ (a1 : Int) (a2 : Int) (a3 : Rw), vs = [.d (.int .i64 a1), .ptr 0 0, .d (.int .i64 a2)] ∧ m = [some [.d (.int .i64 a3.op), .d (.str a3.name), .d (.sl Key.raw a3.args)]] ∧ ds = [] ∧ nt = 62 := by
  unfold Rl43_18_0
  exact uN_k fun _ => uC_k fun _ _ _ => uI_k fun a1 _ => uC_k fun _ _ _ => uP_k fun _ => uC_k fun _ _ _ => uI_k fun a2 _ => u0_k fun _ => uM_k fun _ _ _ => uRwL_k fun a3 _ => uE_k fun _ => uDe_k fun _ => .inr ⟨a1, a2, a3, by subst_vars; exact ⟨rfl, rfl, rfl, rfl⟩⟩

theorem rl45_4_0 (vs : List (PV sig)) (m : Mem sig) (ds : List (FuncId × List (PV sig))) (nt : Nat) : (∀ (C : Tab) (ρ : Type) (K : Ex sig → St sig → Option ρ), Rl45_4_0 C ρ vs m ds nt K = none) ∨ ∃ (a1 : List ByteArray) (a2 : Int) (a3 : Rw), vs = [.own Key.str a1, .ptr 0 0, .d (.int .i64 a2)] ∧ m = [some [.d (.int .i64 a3.op), .d (.str a3.name), .d (.sl Key.raw a3.args)]] ∧ ds = [] ∧ nt = 36 := by
  unfold Rl45_4_0
  exact uN_k fun _ => uC_k fun _ _ _ => uS_k fun a1 _ => uC_k fun _ _ _ => uP_k fun _ => uC_k fun _ _ _ => uI_k fun a2 _ => u0_k fun _ => uM_k fun _ _ _ => uRwL_k fun a3 _ => uE_k fun _ => uDe_k fun _ => .inr ⟨a1, a2, a3, by subst_vars; exact ⟨rfl, rfl, rfl, rfl⟩⟩

theorem rl46_9_0 (vs : List (PV sig)) (m : Mem sig) (ds : List (FuncId × List (PV sig))) (nt : Nat) : (∀ (C : Tab) (ρ : Type) (K : Ex sig → St sig → Option ρ), Rl46_9_0 C ρ vs m ds nt K = none) ∨ ∃ (a1 : ByteArray) (a2 : ByteArray) (a3 : List ByteArray) (a4 : Bool) (a5 : Bool) (a6 : Int) (a7 : Rw) (a8 : Rw) (a9 : Rw) (a10 : Rw), vs = [.d (.str a1), .d (.str a2), .d (.sl Key.str a3), .ptr 0 0, .ptr 1 0, .ptr 2 0, .d (.bool a4), .ptr 3 0, .d (.bool a5), .d (.int .i64 a6)] ∧ m = [some [.d (.int .i64 a7.op), .d (.str a7.name), .d (.sl Key.raw a7.args)], some [.d (.int .i64 a8.op), .d (.str a8.name), .full Key.raw a8.args], some [.d (.int .i64 a9.op), .d (.str a9.name), .full Key.raw a9.args], some [.d (.int .i64 a10.op), .d (.str a10.name), .d (.sl Key.raw a10.args)]] ∧ ds = [] ∧ nt = 119 := by
  unfold Rl46_9_0
  exact uN_k fun _ => uC_k fun _ _ _ => uStr_k fun a1 _ => uC_k fun _ _ _ => uStr_k fun a2 _ => uC_k fun _ _ _ => uS_k fun a3 _ => uC_k fun _ _ _ => uP_k fun _ => uC_k fun _ _ _ => uP_k fun _ => uC_k fun _ _ _ => uP_k fun _ => uC_k fun _ _ _ => uB_k fun a4 _ => uC_k fun _ _ _ => uP_k fun _ => uC_k fun _ _ _ => uB_k fun a5 _ => uC_k fun _ _ _ => uI_k fun a6 _ => u0_k fun _ => uM_k fun _ _ _ => uRwL_k fun a7 _ => uM_k fun _ _ _ => uRwL_k fun a8 _ => uM_k fun _ _ _ => uRwL_k fun a9 _ => uM_k fun _ _ _ => uRwL_k fun a10 _ => uE_k fun _ => uDe_k fun _ => .inr ⟨a1, a2, a3, a4, a5, a6, a7, a8, a9, a10, by subst_vars; exact ⟨rfl, rfl, rfl, rfl⟩⟩

theorem rl48_8_0 (vs : List (PV sig)) (m : Mem sig) (ds : List (FuncId × List (PV sig))) (nt : Nat) : (∀ (C : Tab) (ρ : Type) (K : Ex sig → St sig → Option ρ), Rl48_8_0 C ρ vs m ds nt K = none) ∨ ∃ (a1 : List ByteArray) (a2 : List ByteArray) (a3 : List Rw) (a4 : Int) (a5 : Int), vs = [.d (.sl Key.str a1), .own Key.str a2, .d (.sl Key.raw a3), .d (.int .i64 a4), .d (.int .i64 a5)] ∧ m = [] ∧ ds = [] ∧ nt = 65 := by
  unfold Rl48_8_0
  exact uN_k fun _ => uC_k fun _ _ _ => uS_k fun a1 _ => uC_k fun _ _ _ => uS_k fun a2 _ => uC_k fun _ _ _ => uS_k fun a3 _ => uC_k fun _ _ _ => uI_k fun a4 _ => uC_k fun _ _ _ => uI_k fun a5 _ => u0_k fun _ => uE_k fun _ => uDe_k fun _ => .inr ⟨a1, a2, a3, a4, a5, by subst_vars; exact ⟨rfl, rfl, rfl, rfl⟩⟩

theorem rl49_4_0 (vs : List (PV sig)) (m : Mem sig) (ds : List (FuncId × List (PV sig))) (nt : Nat) : (∀ (C : Tab) (ρ : Type) (K : Ex sig → St sig → Option ρ), Rl49_4_0 C ρ vs m ds nt K = none) ∨ ∃ (a1 : List Rw) (a2 : List Rw) (a3 : Int) (a4 : Int), vs = [.d (.sl Key.raw a1), .fn (.func 20) [] [], .d (.sl Key.raw a2), .d (.int .i64 a3), .d (.int .i64 a4)] ∧ m = [] ∧ ds = [] ∧ nt = 32 := by
  unfold Rl49_4_0
  exact uN_k fun _ => uC_k fun _ _ _ => uS_k fun a1 _ => uC_k fun _ _ _ => uFn_k fun _ _ _ => u0_k fun _ => u0_k fun _ => uC_k fun _ _ _ => uS_k fun a2 _ => uC_k fun _ _ _ => uI_k fun a3 _ => uC_k fun _ _ _ => uI_k fun a4 _ => u0_k fun _ => uE_k fun _ => uDe_k fun _ => .inr ⟨a1, a2, a3, a4, by subst_vars; exact ⟨rfl, rfl, rfl, rfl⟩⟩

theorem rl65_0_0 (vs : List (PV sig)) (m : Mem sig) (ds : List (FuncId × List (PV sig))) (nt : Nat) : (∀ (C : Tab) (ρ : Type) (K : Ex sig → St sig → Option ρ), Rl65_0_0 C ρ vs m ds nt K = none) ∨ ∃ (a1 : ByteArray) (a2 : Int), vs = [.ptr 0 0] ∧ m = [some [.d (.str a1), .d (.int .i64 a2)]] ∧ ds = [] ∧ nt = 102 := by
  unfold Rl65_0_0
  exact uN_k fun _ => uC_k fun _ _ _ => uP_k fun _ => u0_k fun _ => uM_k fun _ _ _ => uC_k fun _ _ _ => uStr_k fun a1 _ => uC_k fun _ _ _ => uI_k fun a2 _ => u0_k fun _ => uE_k fun _ => uDe_k fun _ => .inr ⟨a1, a2, by subst_vars; exact ⟨rfl, rfl, rfl, rfl⟩⟩

theorem rl69_2_0 (vs : List (PV sig)) (m : Mem sig) (ds : List (FuncId × List (PV sig))) (nt : Nat) : (∀ (C : Tab) (ρ : Type) (K : Ex sig → St sig → Option ρ), Rl69_2_0 C ρ vs m ds nt K = none) ∨ ∃ (a1 : List Tok) (a2 : Int) (a3 : Rw) (a4 : Rw), vs = [.ptr 0 0, .ptr 1 0, .ptr 2 0] ∧ m = [some [.d (.sl Key.tok a1), .d (.int .i64 a2)], some [.d (.int .i64 a3.op), .d (.str a3.name), .full Key.raw a3.args], some [.d (.int .i64 a4.op), .d (.str a4.name), .d (.sl Key.raw a4.args)]] ∧ ds = [] ∧ nt = 23 := by
  unfold Rl69_2_0
  exact uN_k fun _ => uC_k fun _ _ _ => uP_k fun _ => uC_k fun _ _ _ => uP_k fun _ => uC_k fun _ _ _ => uP_k fun _ => u0_k fun _ => uM_k fun _ _ _ => uC_k fun _ _ _ => uS_k fun a1 _ => uC_k fun _ _ _ => uI_k fun a2 _ => u0_k fun _ => uM_k fun _ _ _ => uRwL_k fun a3 _ => uM_k fun _ _ _ => uRwL_k fun a4 _ => uE_k fun _ => uDe_k fun _ => .inr ⟨a1, a2, a3, a4, by subst_vars; exact ⟨rfl, rfl, rfl, rfl⟩⟩

theorem rl70_20_0 (vs : List (PV sig)) (m : Mem sig) (ds : List (FuncId × List (PV sig))) (nt : Nat) : (∀ (C : Tab) (ρ : Type) (K : Ex sig → St sig → Option ρ), Rl70_20_0 C ρ vs m ds nt K = none) ∨ ∃ (a1 : Int) (a2 : List Rw) (a3 : Int) (a4 : Int) (a5 : Int), vs = [.d (.int .i64 a1), .ptr 0 0, .d (.sl Key.raw a2), .d (.int .i64 a3), .d (.int .i64 a4)] ∧ m = [some [.d (.int .i64 a5)]] ∧ ds = [] ∧ nt = 72 := by
  unfold Rl70_20_0
  exact uN_k fun _ => uC_k fun _ _ _ => uI_k fun a1 _ => uC_k fun _ _ _ => uP_k fun _ => uC_k fun _ _ _ => uS_k fun a2 _ => uC_k fun _ _ _ => uI_k fun a3 _ => uC_k fun _ _ _ => uI_k fun a4 _ => u0_k fun _ => uM_k fun _ _ _ => uC_k fun _ _ _ => uI_k fun a5 _ => u0_k fun _ => uE_k fun _ => uDe_k fun _ => .inr ⟨a1, a2, a3, a4, a5, by subst_vars; exact ⟨rfl, rfl, rfl, rfl⟩⟩

theorem rl81_1_0 (vs : List (PV sig)) (m : Mem sig) (ds : List (FuncId × List (PV sig))) (nt : Nat) : (∀ (C : Tab) (ρ : Type) (K : Ex sig → St sig → Option ρ), Rl81_1_0 C ρ vs m ds nt K = none) ∨ ∃ (a1 : ByteArray) (a2 : ByteArray) (a3 : Int) (a4 : List (ByteArray × Bool)), vs = [.ptr 0 0] ∧ m = [some [.d (.str a1), .d (.str a2), .mp 1, .d (.int .i64 a3)], some [.mpo (.b a4)]] ∧ ds = [] ∧ nt = 30 := by
  unfold Rl81_1_0
  exact uN_k fun _ => uC_k fun _ _ _ => uP_k fun _ => u0_k fun _ => uM_k fun _ _ _ => uC_k fun _ _ _ => uStr_k fun a1 _ => uC_k fun _ _ _ => uStr_k fun a2 _ => uC_k fun _ _ _ => uMp_k fun _ => uC_k fun _ _ _ => uI_k fun a3 _ => u0_k fun _ => uM_k fun _ _ _ => uC_k fun _ _ _ => uMb_k fun a4 _ => u0_k fun _ => uE_k fun _ => uDe_k fun _ => .inr ⟨a1, a2, a3, a4, by subst_vars; exact ⟨rfl, rfl, rfl, rfl⟩⟩

theorem rl83_1_0 (vs : List (PV sig)) (m : Mem sig) (ds : List (FuncId × List (PV sig))) (nt : Nat) : (∀ (C : Tab) (ρ : Type) (K : Ex sig → St sig → Option ρ), Rl83_1_0 C ρ vs m ds nt K = none) ∨ ∃ (a1 : ByteArray) (a2 : Int), vs = [.d (.str a1), .d (.int .i64 a2)] ∧ m = [] ∧ ds = [] ∧ nt = 18 := by
  unfold Rl83_1_0
  exact uN_k fun _ => uC_k fun _ _ _ => uStr_k fun a1 _ => uC_k fun _ _ _ => uI_k fun a2 _ => u0_k fun _ => uE_k fun _ => uDe_k fun _ => .inr ⟨a1, a2, by subst_vars; exact ⟨rfl, rfl, rfl, rfl⟩⟩

theorem rl84_2_0 (vs : List (PV sig)) (m : Mem sig) (ds : List (FuncId × List (PV sig))) (nt : Nat) : (∀ (C : Tab) (ρ : Type) (K : Ex sig → St sig → Option ρ), Rl84_2_0 C ρ vs m ds nt K = none) ∨ ∃ (a1 : ByteArray) (a2 : List ByteArray) (a3 : Int) (a4 : Int), vs = [.d (.str a1), .d (.sl Key.str a2), .d (.int .i64 a3), .d (.int .i64 a4)] ∧ m = [] ∧ ds = [] ∧ nt = 17 := by
  unfold Rl84_2_0
  exact uN_k fun _ => uC_k fun _ _ _ => uStr_k fun a1 _ => uC_k fun _ _ _ => uS_k fun a2 _ => uC_k fun _ _ _ => uI_k fun a3 _ => uC_k fun _ _ _ => uI_k fun a4 _ => u0_k fun _ => uE_k fun _ => uDe_k fun _ => .inr ⟨a1, a2, a3, a4, by subst_vars; exact ⟨rfl, rfl, rfl, rfl⟩⟩

theorem rl86_2_0 (vs : List (PV sig)) (m : Mem sig) (ds : List (FuncId × List (PV sig))) (nt : Nat) : (∀ (C : Tab) (ρ : Type) (K : Ex sig → St sig → Option ρ), Rl86_2_0 C ρ vs m ds nt K = none) ∨ ∃ (a1 : Int) (a2 : ByteArray), vs = [.d (.int .i64 a1), .d (.str a2)] ∧ m = [] ∧ ds = [] ∧ nt = 23 := by
  unfold Rl86_2_0
  exact uN_k fun _ => uC_k fun _ _ _ => uI_k fun a1 _ => uC_k fun _ _ _ => uStr_k fun a2 _ => u0_k fun _ => uE_k fun _ => uDe_k fun _ => .inr ⟨a1, a2, by subst_vars; exact ⟨rfl, rfl, rfl, rfl⟩⟩

theorem rl92_4_0 (vs : List (PV sig)) (m : Mem sig) (ds : List (FuncId × List (PV sig))) (nt : Nat) : (∀ (C : Tab) (ρ : Type) (K : Ex sig → St sig → Option ρ), Rl92_4_0 C ρ vs m ds nt K = none) ∨ ∃ (a1 : ByteArray) (a2 : Int) (a3 : Int), vs = [.d (.str a1), .d (.int .i64 a2), .d (.int .i64 a3)] ∧ m = [] ∧ ds = [] ∧ nt = 32 := by
  unfold Rl92_4_0
  exact uN_k fun _ => uC_k fun _ _ _ => uStr_k fun a1 _ => uC_k fun _ _ _ => uI_k fun a2 _ => uC_k fun _ _ _ => uI_k fun a3 _ => u0_k fun _ => uE_k fun _ => uDe_k fun _ => .inr ⟨a1, a2, a3, by subst_vars; exact ⟨rfl, rfl, rfl, rfl⟩⟩

theorem rl106_2_0 (vs : List (PV sig)) (m : Mem sig) (ds : List (FuncId × List (PV sig))) (nt : Nat) : (∀ (C : Tab) (ρ : Type) (K : Ex sig → St sig → Option ρ), Rl106_2_0 C ρ vs m ds nt K = none) ∨ ∃ (a1 : Int) (a2 : Int) (a3 : ByteArray) (a4 : Int), vs = [.ptr 0 0, .d (.int .i64 a1), .d (.int .i64 a2)] ∧ m = [some [.d (.str a3), .d (.int .i64 a4)]] ∧ ds = [] ∧ nt = 42 := by
  unfold Rl106_2_0
  exact uN_k fun _ => uC_k fun _ _ _ => uP_k fun _ => uC_k fun _ _ _ => uI_k fun a1 _ => uC_k fun _ _ _ => uI_k fun a2 _ => u0_k fun _ => uM_k fun _ _ _ => uC_k fun _ _ _ => uStr_k fun a3 _ => uC_k fun _ _ _ => uI_k fun a4 _ => u0_k fun _ => uE_k fun _ => uDe_k fun _ => .inr ⟨a1, a2, a3, a4, by subst_vars; exact ⟨rfl, rfl, rfl, rfl⟩⟩

theorem rl126_2_0 (vs : List (PV sig)) (m : Mem sig) (ds : List (FuncId × List (PV sig))) (nt : Nat) : (∀ (C : Tab) (ρ : Type) (K : Ex sig → St sig → Option ρ), Rl126_2_0 C ρ vs m ds nt K = none) ∨ ∃ (a1 : List ByteArray) (a2 : ByteArray) (a3 : Int) (a4 : Int), vs = [.d (.sl Key.str a1), .d (.str a2), .d (.int .i64 a3), .d (.int .i64 a4)] ∧ m = [] ∧ ds = [] ∧ nt = 19 := by
  unfold Rl126_2_0
  exact uN_k fun _ => uC_k fun _ _ _ => uS_k fun a1 _ => uC_k fun _ _ _ => uStr_k fun a2 _ => uC_k fun _ _ _ => uI_k fun a3 _ => uC_k fun _ _ _ => uI_k fun a4 _ => u0_k fun _ => uE_k fun _ => uDe_k fun _ => .inr ⟨a1, a2, a3, a4, by subst_vars; exact ⟨rfl, rfl, rfl, rfl⟩⟩

theorem rl128_14_0 (vs : List (PV sig)) (m : Mem sig) (ds : List (FuncId × List (PV sig))) (nt : Nat) : (∀ (C : Tab) (ρ : Type) (K : Ex sig → St sig → Option ρ), Rl128_14_0 C ρ vs m ds nt K = none) ∨ ∃ (a1 : List ByteArray) (a2 : List ByteArray) (a3 : Int) (a4 : Rw), vs = [.d (.sl Key.str a1), .own Key.str a2, .ptr 0 0, .d (.int .i64 a3)] ∧ m = [some [.d (.int .i64 a4.op), .d (.str a4.name), .d (.sl Key.raw a4.args)]] ∧ ds = [] ∧ nt = 72 := by
  unfold Rl128_14_0
  exact uN_k fun _ => uC_k fun _ _ _ => uS_k fun a1 _ => uC_k fun _ _ _ => uS_k fun a2 _ => uC_k fun _ _ _ => uP_k fun _ => uC_k fun _ _ _ => uI_k fun a3 _ => u0_k fun _ => uM_k fun _ _ _ => uRwL_k fun a4 _ => uE_k fun _ => uDe_k fun _ => .inr ⟨a1, a2, a3, a4, by subst_vars; exact ⟨rfl, rfl, rfl, rfl⟩⟩

theorem rl133_2_0 (vs : List (PV sig)) (m : Mem sig) (ds : List (FuncId × List (PV sig))) (nt : Nat) : (∀ (C : Tab) (ρ : Type) (K : Ex sig → St sig → Option ρ), Rl133_2_0 C ρ vs m ds nt K = none) ∨ ∃ (a1 : List Int) (a2 : Int) (a3 : Int) (a4 : Int), vs = [.d (.sl Key.int a1), .d (.int .i64 a2), .d (.int .i64 a3), .d (.int .i64 a4)] ∧ m = [] ∧ ds = [] ∧ nt = 19 := by
  unfold Rl133_2_0
  exact uN_k fun _ => uC_k fun _ _ _ => uS_k fun a1 _ => uC_k fun _ _ _ => uI_k fun a2 _ => uC_k fun _ _ _ => uI_k fun a3 _ => uC_k fun _ _ _ => uI_k fun a4 _ => u0_k fun _ => uE_k fun _ => uDe_k fun _ => .inr ⟨a1, a2, a3, a4, by subst_vars; exact ⟨rfl, rfl, rfl, rfl⟩⟩

end Go.Proofs.YtanfoijdfcnpoaaGreatDoor.Ev
