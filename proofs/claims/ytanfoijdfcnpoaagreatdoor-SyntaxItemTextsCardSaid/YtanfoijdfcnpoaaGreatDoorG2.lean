/- This file proves when the tables of typed functions answer; without any condition. -/
import Derived.Test.YtanfoijdfcnpoaaGreatDoorGR
set_option linter.unusedVariables false
set_option linter.unusedSimpArgs false
namespace Go.Proofs.YtanfoijdfcnpoaaGreatDoor.Ev

theorem rc7_0 (args : List (PV sig)) (m : Mem sig) : (∀ (C : Tab) (ρ : Type) (K : Res sig × Mem sig → Option ρ), Rc7_0 C ρ args m K = none) ∨ ∃ (a1 : It), args = [.agg [.d (.str a1.word), .d (.str a1.name), .d (.int .i64 a1.raw.op), .d (.str a1.raw.name), .d (.sl Key.raw a1.raw.args), .d (.sl Key.part a1.parts)]] ∧ m = [] := by
  unfold Rc7_0
  exact uC_k fun _ _ _ => uIt_k fun a1 _ => u0_k fun _ => uE_k fun _ => .inr ⟨a1, by subst_vars; exact ⟨rfl, rfl⟩⟩

theorem rc8_0 (args : List (PV sig)) (m : Mem sig) : (∀ (C : Tab) (ρ : Type) (K : Res sig × Mem sig → Option ρ), Rc8_0 C ρ args m K = none) ∨ ∃ (a1 : ByteArray), args = [.d (.str a1)] ∧ m = [] := by
  unfold Rc8_0
  exact uC_k fun _ _ _ => uStr_k fun a1 _ => u0_k fun _ => uE_k fun _ => .inr ⟨a1, by subst_vars; exact ⟨rfl, rfl⟩⟩

theorem rc10_0 (args : List (PV sig)) (m : Mem sig) : (∀ (C : Tab) (ρ : Type) (K : Res sig × Mem sig → Option ρ), Rc10_0 C ρ args m K = none) ∨ ∃ (a1 : Rw) (a2 : Rw), args = [.agg [.d (.int .i64 a1.op), .d (.str a1.name), .d (.sl Key.raw a1.args)], .agg [.d (.int .i64 a2.op), .d (.str a2.name), .d (.sl Key.raw a2.args)]] ∧ m = [] := by
  unfold Rc10_0
  exact uC_k fun _ _ _ => uRw_k fun a1 _ => uC_k fun _ _ _ => uRw_k fun a2 _ => u0_k fun _ => uE_k fun _ => .inr ⟨a1, a2, by subst_vars; exact ⟨rfl, rfl⟩⟩

theorem rc11_0 (args : List (PV sig)) (m : Mem sig) : (∀ (C : Tab) (ρ : Type) (K : Res sig × Mem sig → Option ρ), Rc11_0 C ρ args m K = none) ∨ args = [] ∧ m = [] := by
  unfold Rc11_0
  exact u0_k fun _ => uE_k fun _ => .inr (by subst_vars; exact ⟨rfl, rfl⟩)

theorem rc13_0 (args : List (PV sig)) (m : Mem sig) : (∀ (C : Tab) (ρ : Type) (K : Res sig × Mem sig → Option ρ), Rc13_0 C ρ args m K = none) ∨ ∃ (a1 : Rw), args = [.agg [.d (.int .i64 a1.op), .d (.str a1.name), .d (.sl Key.raw a1.args)]] ∧ m = [] := by
  unfold Rc13_0
  exact uC_k fun _ _ _ => uRw_k fun a1 _ => u0_k fun _ => uE_k fun _ => .inr ⟨a1, by subst_vars; exact ⟨rfl, rfl⟩⟩

theorem rc14_0 (args : List (PV sig)) (m : Mem sig) : (∀ (C : Tab) (ρ : Type) (K : Res sig × Mem sig → Option ρ), Rc14_0 C ρ args m K = none) ∨ ∃ (a1 : ByteArray), args = [.d (.str a1)] ∧ m = [] := by
  unfold Rc14_0
  exact uC_k fun _ _ _ => uStr_k fun a1 _ => u0_k fun _ => uE_k fun _ => .inr ⟨a1, by subst_vars; exact ⟨rfl, rfl⟩⟩

theorem rc21_0 (args : List (PV sig)) (m : Mem sig) : (∀ (C : Tab) (ρ : Type) (K : Res sig × Mem sig → Option ρ), Rc21_0 C ρ args m K = none) ∨ ∃ (a1 : ByteArray), args = [.d (.str a1)] ∧ m = [] := by
  unfold Rc21_0
  exact uC_k fun _ _ _ => uStr_k fun a1 _ => u0_k fun _ => uE_k fun _ => .inr ⟨a1, by subst_vars; exact ⟨rfl, rfl⟩⟩

theorem rc23_0 (args : List (PV sig)) (m : Mem sig) : (∀ (C : Tab) (ρ : Type) (K : Res sig × Mem sig → Option ρ), Rc23_0 C ρ args m K = none) ∨ ∃ (a1 : It) (a2 : It), args = [.agg [.d (.str a1.word), .d (.str a1.name), .d (.int .i64 a1.raw.op), .d (.str a1.raw.name), .d (.sl Key.raw a1.raw.args), .d (.sl Key.part a1.parts)], .agg [.d (.str a2.word), .d (.str a2.name), .d (.int .i64 a2.raw.op), .d (.str a2.raw.name), .d (.sl Key.raw a2.raw.args), .d (.sl Key.part a2.parts)]] ∧ m = [] := by
  unfold Rc23_0
  exact uC_k fun _ _ _ => uIt_k fun a1 _ => uC_k fun _ _ _ => uIt_k fun a2 _ => u0_k fun _ => uE_k fun _ => .inr ⟨a1, a2, by subst_vars; exact ⟨rfl, rfl⟩⟩

theorem rc24_0 (args : List (PV sig)) (m : Mem sig) : (∀ (C : Tab) (ρ : Type) (K : Res sig × Mem sig → Option ρ), Rc24_0 C ρ args m K = none) ∨ ∃ (a1 : It), args = [.agg [.d (.str a1.word), .d (.str a1.name), .d (.int .i64 a1.raw.op), .d (.str a1.raw.name), .d (.sl Key.raw a1.raw.args), .d (.sl Key.part a1.parts)]] ∧ m = [] := by
  unfold Rc24_0
  exact uC_k fun _ _ _ => uIt_k fun a1 _ => u0_k fun _ => uE_k fun _ => .inr ⟨a1, by subst_vars; exact ⟨rfl, rfl⟩⟩

theorem rc25_0 (args : List (PV sig)) (m : Mem sig) : (∀ (C : Tab) (ρ : Type) (K : Res sig × Mem sig → Option ρ), Rc25_0 C ρ args m K = none) ∨ ∃ (a1 : It), args = [.agg [.d (.str a1.word), .d (.str a1.name), .d (.int .i64 a1.raw.op), .d (.str a1.raw.name), .d (.sl Key.raw a1.raw.args), .d (.sl Key.part a1.parts)]] ∧ m = [] := by
  unfold Rc25_0
  exact uC_k fun _ _ _ => uIt_k fun a1 _ => u0_k fun _ => uE_k fun _ => .inr ⟨a1, by subst_vars; exact ⟨rfl, rfl⟩⟩

theorem rc26_0 (args : List (PV sig)) (m : Mem sig) : (∀ (C : Tab) (ρ : Type) (K : Res sig × Mem sig → Option ρ), Rc26_0 C ρ args m K = none) ∨ ∃ (a1 : It), args = [.agg [.d (.str a1.word), .d (.str a1.name), .d (.int .i64 a1.raw.op), .d (.str a1.raw.name), .d (.sl Key.raw a1.raw.args), .d (.sl Key.part a1.parts)]] ∧ m = [] := by
  unfold Rc26_0
  exact uC_k fun _ _ _ => uIt_k fun a1 _ => u0_k fun _ => uE_k fun _ => .inr ⟨a1, by subst_vars; exact ⟨rfl, rfl⟩⟩

theorem rc27_0 (args : List (PV sig)) (m : Mem sig) : (∀ (C : Tab) (ρ : Type) (K : Res sig × Mem sig → Option ρ), Rc27_0 C ρ args m K = none) ∨ ∃ (a1 : It), args = [.agg [.d (.str a1.word), .d (.str a1.name), .d (.int .i64 a1.raw.op), .d (.str a1.raw.name), .d (.sl Key.raw a1.raw.args), .d (.sl Key.part a1.parts)]] ∧ m = [] := by
  unfold Rc27_0
  exact uC_k fun _ _ _ => uIt_k fun a1 _ => u0_k fun _ => uE_k fun _ => .inr ⟨a1, by subst_vars; exact ⟨rfl, rfl⟩⟩

theorem rc28_0 (args : List (PV sig)) (m : Mem sig) : (∀ (C : Tab) (ρ : Type) (K : Res sig × Mem sig → Option ρ), Rc28_0 C ρ args m K = none) ∨ ∃ (a1 : ByteArray), args = [.d (.str a1)] ∧ m = [] := by
  unfold Rc28_0
  exact uC_k fun _ _ _ => uStr_k fun a1 _ => u0_k fun _ => uE_k fun _ => .inr ⟨a1, by subst_vars; exact ⟨rfl, rfl⟩⟩

theorem rc30_0 (args : List (PV sig)) (m : Mem sig) : (∀ (C : Tab) (ρ : Type) (K : Res sig × Mem sig → Option ρ), Rc30_0 C ρ args m K = none) ∨ ∃ (a1 : List Tok) (a2 : Int), args = [.ptr 0 0] ∧ m = [some [.d (.sl Key.tok a1), .d (.int .i64 a2)]] := by
  unfold Rc30_0
  exact uC_k fun _ _ _ => uP_k fun _ => u0_k fun _ => uM_k fun _ _ _ => uC_k fun _ _ _ => uS_k fun a1 _ => uC_k fun _ _ _ => uI_k fun a2 _ => u0_k fun _ => uE_k fun _ => .inr ⟨a1, a2, by subst_vars; exact ⟨rfl, rfl⟩⟩

theorem rc31_0 (args : List (PV sig)) (m : Mem sig) : (∀ (C : Tab) (ρ : Type) (K : Res sig × Mem sig → Option ρ), Rc31_0 C ρ args m K = none) ∨ ∃ (a1 : List Tok) (a2 : Int), args = [.ptr 0 0] ∧ m = [some [.d (.sl Key.tok a1), .d (.int .i64 a2)]] := by
  unfold Rc31_0
  exact uC_k fun _ _ _ => uP_k fun _ => u0_k fun _ => uM_k fun _ _ _ => uC_k fun _ _ _ => uS_k fun a1 _ => uC_k fun _ _ _ => uI_k fun a2 _ => u0_k fun _ => uE_k fun _ => .inr ⟨a1, a2, by subst_vars; exact ⟨rfl, rfl⟩⟩

theorem rc32_0 (args : List (PV sig)) (m : Mem sig) : (∀ (C : Tab) (ρ : Type) (K : Res sig × Mem sig → Option ρ), Rc32_0 C ρ args m K = none) ∨ ∃ (a1 : List Tok) (a2 : Int), args = [.ptr 0 0] ∧ m = [some [.d (.sl Key.tok a1), .d (.int .i64 a2)]] := by
  unfold Rc32_0
  exact uC_k fun _ _ _ => uP_k fun _ => u0_k fun _ => uM_k fun _ _ _ => uC_k fun _ _ _ => uS_k fun a1 _ => uC_k fun _ _ _ => uI_k fun a2 _ => u0_k fun _ => uE_k fun _ => .inr ⟨a1, a2, by subst_vars; exact ⟨rfl, rfl⟩⟩

theorem rc33_0 (args : List (PV sig)) (m : Mem sig) : (∀ (C : Tab) (ρ : Type) (K : Res sig × Mem sig → Option ρ), Rc33_0 C ρ args m K = none) ∨ ∃ (a1 : Rw), args = [.agg [.d (.int .i64 a1.op), .d (.str a1.name), .d (.sl Key.raw a1.args)]] ∧ m = [] := by
  unfold Rc33_0
  exact uC_k fun _ _ _ => uRw_k fun a1 _ => u0_k fun _ => uE_k fun _ => .inr ⟨a1, by subst_vars; exact ⟨rfl, rfl⟩⟩

theorem rc37_0 (args : List (PV sig)) (m : Mem sig) : (∀ (C : Tab) (ρ : Type) (K : Res sig × Mem sig → Option ρ), Rc37_0 C ρ args m K = none) ∨ ∃ (a1 : Rw), args = [.agg [.d (.int .i64 a1.op), .d (.str a1.name), .d (.sl Key.raw a1.args)]] ∧ m = [] := by
  unfold Rc37_0
  exact uC_k fun _ _ _ => uRw_k fun a1 _ => u0_k fun _ => uE_k fun _ => .inr ⟨a1, by subst_vars; exact ⟨rfl, rfl⟩⟩

theorem rc38_0 (args : List (PV sig)) (m : Mem sig) : (∀ (C : Tab) (ρ : Type) (K : Res sig × Mem sig → Option ρ), Rc38_0 C ρ args m K = none) ∨ ∃ (a1 : ByteArray), args = [.d (.str a1)] ∧ m = [] := by
  unfold Rc38_0
  exact uC_k fun _ _ _ => uStr_k fun a1 _ => u0_k fun _ => uE_k fun _ => .inr ⟨a1, by subst_vars; exact ⟨rfl, rfl⟩⟩

theorem rc42_0 (args : List (PV sig)) (m : Mem sig) : (∀ (C : Tab) (ρ : Type) (K : Res sig × Mem sig → Option ρ), Rc42_0 C ρ args m K = none) ∨ ∃ (a1 : Rw) (a2 : Int), args = [.agg [.d (.int .i64 a1.op), .d (.str a1.name), .d (.sl Key.raw a1.args)], .d (.int .i64 a2)] ∧ m = [] := by
  unfold Rc42_0
  exact uC_k fun _ _ _ => uRw_k fun a1 _ => uC_k fun _ _ _ => uI_k fun a2 _ => u0_k fun _ => uE_k fun _ => .inr ⟨a1, a2, by subst_vars; exact ⟨rfl, rfl⟩⟩

theorem rc43_0 (args : List (PV sig)) (m : Mem sig) : (∀ (C : Tab) (ρ : Type) (K : Res sig × Mem sig → Option ρ), Rc43_0 C ρ args m K = none) ∨ ∃ (a1 : Rw) (a2 : Int), args = [.agg [.d (.int .i64 a1.op), .d (.str a1.name), .d (.sl Key.raw a1.args)], .d (.int .i64 a2)] ∧ m = [] := by
  unfold Rc43_0
  exact uC_k fun _ _ _ => uRw_k fun a1 _ => uC_k fun _ _ _ => uI_k fun a2 _ => u0_k fun _ => uE_k fun _ => .inr ⟨a1, a2, by subst_vars; exact ⟨rfl, rfl⟩⟩

theorem rc44_0 (args : List (PV sig)) (m : Mem sig) : (∀ (C : Tab) (ρ : Type) (K : Res sig × Mem sig → Option ρ), Rc44_0 C ρ args m K = none) ∨ ∃ (a1 : ByteArray), args = [.d (.str a1)] ∧ m = [] := by
  unfold Rc44_0
  exact uC_k fun _ _ _ => uStr_k fun a1 _ => u0_k fun _ => uE_k fun _ => .inr ⟨a1, by subst_vars; exact ⟨rfl, rfl⟩⟩

theorem rc51_0 (args : List (PV sig)) (m : Mem sig) : (∀ (C : Tab) (ρ : Type) (K : Res sig × Mem sig → Option ρ), Rc51_0 C ρ args m K = none) ∨ ∃ (a1 : List Tok) (a2 : Int), args = [.ptr 0 0] ∧ m = [some [.d (.sl Key.tok a1), .d (.int .i64 a2)]] := by
  unfold Rc51_0
  exact uC_k fun _ _ _ => uP_k fun _ => u0_k fun _ => uM_k fun _ _ _ => uC_k fun _ _ _ => uS_k fun a1 _ => uC_k fun _ _ _ => uI_k fun a2 _ => u0_k fun _ => uE_k fun _ => .inr ⟨a1, a2, by subst_vars; exact ⟨rfl, rfl⟩⟩

theorem rc53_0 (args : List (PV sig)) (m : Mem sig) : (∀ (C : Tab) (ρ : Type) (K : Res sig × Mem sig → Option ρ), Rc53_0 C ρ args m K = none) ∨ ∃ (a1 : Pt) (a2 : Pt), args = [.agg [.d (.int .i64 a1.op), .d (.str a1.sign), .d (.str a1.name), .d (.int .i64 a1.num), .d (.int .i64 a1.raw.op), .d (.str a1.raw.name), .d (.sl Key.raw a1.raw.args), .d (.sl Key.part a1.parts)], .agg [.d (.int .i64 a2.op), .d (.str a2.sign), .d (.str a2.name), .d (.int .i64 a2.num), .d (.int .i64 a2.raw.op), .d (.str a2.raw.name), .d (.sl Key.raw a2.raw.args), .d (.sl Key.part a2.parts)]] ∧ m = [] := by
  unfold Rc53_0
  exact uC_k fun _ _ _ => uPt_k fun a1 _ => uC_k fun _ _ _ => uPt_k fun a2 _ => u0_k fun _ => uE_k fun _ => .inr ⟨a1, a2, by subst_vars; exact ⟨rfl, rfl⟩⟩

theorem rc54_0 (args : List (PV sig)) (m : Mem sig) : (∀ (C : Tab) (ρ : Type) (K : Res sig × Mem sig → Option ρ), Rc54_0 C ρ args m K = none) ∨ ∃ (a1 : ByteArray), args = [.d (.str a1)] ∧ m = [] := by
  unfold Rc54_0
  exact uC_k fun _ _ _ => uStr_k fun a1 _ => u0_k fun _ => uE_k fun _ => .inr ⟨a1, by subst_vars; exact ⟨rfl, rfl⟩⟩

theorem rc55_0 (args : List (PV sig)) (m : Mem sig) : (∀ (C : Tab) (ρ : Type) (K : Res sig × Mem sig → Option ρ), Rc55_0 C ρ args m K = none) ∨ ∃ (a1 : Rw), args = [.agg [.d (.int .i64 a1.op), .d (.str a1.name), .d (.sl Key.raw a1.args)]] ∧ m = [] := by
  unfold Rc55_0
  exact uC_k fun _ _ _ => uRw_k fun a1 _ => u0_k fun _ => uE_k fun _ => .inr ⟨a1, by subst_vars; exact ⟨rfl, rfl⟩⟩

theorem rc56_0 (args : List (PV sig)) (m : Mem sig) : (∀ (C : Tab) (ρ : Type) (K : Res sig × Mem sig → Option ρ), Rc56_0 C ρ args m K = none) ∨ ∃ (a1 : Pt) (a2 : Int) (a3 : Int), args = [.agg [.d (.int .i64 a1.op), .d (.str a1.sign), .d (.str a1.name), .d (.int .i64 a1.num), .d (.int .i64 a1.raw.op), .d (.str a1.raw.name), .d (.sl Key.raw a1.raw.args), .d (.sl Key.part a1.parts)], .d (.int .i64 a2), .ptr 0 0] ∧ m = [some [.d (.int .i64 a3)]] := by
  unfold Rc56_0
  exact uC_k fun _ _ _ => uPt_k fun a1 _ => uC_k fun _ _ _ => uI_k fun a2 _ => uC_k fun _ _ _ => uP_k fun _ => u0_k fun _ => uM_k fun _ _ _ => uC_k fun _ _ _ => uI_k fun a3 _ => u0_k fun _ => uE_k fun _ => .inr ⟨a1, a2, a3, by subst_vars; exact ⟨rfl, rfl⟩⟩

theorem rc57_0 (args : List (PV sig)) (m : Mem sig) : (∀ (C : Tab) (ρ : Type) (K : Res sig × Mem sig → Option ρ), Rc57_0 C ρ args m K = none) ∨ ∃ (a1 : Rw) (a2 : List Int), args = [.agg [.d (.int .i64 a1.op), .d (.str a1.name), .d (.sl Key.raw a1.args)], .d (.sl Key.int a2)] ∧ m = [] := by
  unfold Rc57_0
  exact uC_k fun _ _ _ => uRw_k fun a1 _ => uC_k fun _ _ _ => uS_k fun a2 _ => u0_k fun _ => uE_k fun _ => .inr ⟨a1, a2, by subst_vars; exact ⟨rfl, rfl⟩⟩

theorem rc58_0 (args : List (PV sig)) (m : Mem sig) : (∀ (C : Tab) (ρ : Type) (K : Res sig × Mem sig → Option ρ), Rc58_0 C ρ args m K = none) ∨ ∃ (a1 : List Pt), args = [.d (.sl Key.part a1)] ∧ m = [] := by
  unfold Rc58_0
  exact uC_k fun _ _ _ => uS_k fun a1 _ => u0_k fun _ => uE_k fun _ => .inr ⟨a1, by subst_vars; exact ⟨rfl, rfl⟩⟩

theorem rc59_0 (args : List (PV sig)) (m : Mem sig) : (∀ (C : Tab) (ρ : Type) (K : Res sig × Mem sig → Option ρ), Rc59_0 C ρ args m K = none) ∨ ∃ (a1 : ByteArray), args = [.d (.str a1)] ∧ m = [] := by
  unfold Rc59_0
  exact uC_k fun _ _ _ => uStr_k fun a1 _ => u0_k fun _ => uE_k fun _ => .inr ⟨a1, by subst_vars; exact ⟨rfl, rfl⟩⟩

theorem rc60_0 (args : List (PV sig)) (m : Mem sig) : (∀ (C : Tab) (ρ : Type) (K : Res sig × Mem sig → Option ρ), Rc60_0 C ρ args m K = none) ∨ ∃ (a1 : Rw), args = [.agg [.d (.int .i64 a1.op), .d (.str a1.name), .d (.sl Key.raw a1.args)]] ∧ m = [] := by
  unfold Rc60_0
  exact uC_k fun _ _ _ => uRw_k fun a1 _ => u0_k fun _ => uE_k fun _ => .inr ⟨a1, by subst_vars; exact ⟨rfl, rfl⟩⟩

theorem rc61_0 (args : List (PV sig)) (m : Mem sig) : (∀ (C : Tab) (ρ : Type) (K : Res sig × Mem sig → Option ρ), Rc61_0 C ρ args m K = none) ∨ ∃ (a1 : List Pt) (a2 : Int), args = [.d (.sl Key.part a1), .d (.int .i64 a2)] ∧ m = [] := by
  unfold Rc61_0
  exact uC_k fun _ _ _ => uS_k fun a1 _ => uC_k fun _ _ _ => uI_k fun a2 _ => u0_k fun _ => uE_k fun _ => .inr ⟨a1, a2, by subst_vars; exact ⟨rfl, rfl⟩⟩

theorem rc62_0 (args : List (PV sig)) (m : Mem sig) : (∀ (C : Tab) (ρ : Type) (K : Res sig × Mem sig → Option ρ), Rc62_0 C ρ args m K = none) ∨ ∃ (a1 : Pt) (a2 : Int), args = [.agg [.d (.int .i64 a1.op), .d (.str a1.sign), .d (.str a1.name), .d (.int .i64 a1.num), .d (.int .i64 a1.raw.op), .d (.str a1.raw.name), .d (.sl Key.raw a1.raw.args), .d (.sl Key.part a1.parts)], .d (.int .i64 a2)] ∧ m = [] := by
  unfold Rc62_0
  exact uC_k fun _ _ _ => uPt_k fun a1 _ => uC_k fun _ _ _ => uI_k fun a2 _ => u0_k fun _ => uE_k fun _ => .inr ⟨a1, a2, by subst_vars; exact ⟨rfl, rfl⟩⟩

theorem rc63_0 (args : List (PV sig)) (m : Mem sig) : (∀ (C : Tab) (ρ : Type) (K : Res sig × Mem sig → Option ρ), Rc63_0 C ρ args m K = none) ∨ ∃ (a1 : Rw), args = [.agg [.d (.int .i64 a1.op), .d (.str a1.name), .d (.sl Key.raw a1.args)]] ∧ m = [] := by
  unfold Rc63_0
  exact uC_k fun _ _ _ => uRw_k fun a1 _ => u0_k fun _ => uE_k fun _ => .inr ⟨a1, by subst_vars; exact ⟨rfl, rfl⟩⟩

theorem rc64_0 (args : List (PV sig)) (m : Mem sig) : (∀ (C : Tab) (ρ : Type) (K : Res sig × Mem sig → Option ρ), Rc64_0 C ρ args m K = none) ∨ ∃ (a1 : Pt), args = [.agg [.d (.int .i64 a1.op), .d (.str a1.sign), .d (.str a1.name), .d (.int .i64 a1.num), .d (.int .i64 a1.raw.op), .d (.str a1.raw.name), .d (.sl Key.raw a1.raw.args), .d (.sl Key.part a1.parts)]] ∧ m = [] := by
  unfold Rc64_0
  exact uC_k fun _ _ _ => uPt_k fun a1 _ => u0_k fun _ => uE_k fun _ => .inr ⟨a1, by subst_vars; exact ⟨rfl, rfl⟩⟩

theorem rc65_0 (args : List (PV sig)) (m : Mem sig) : (∀ (C : Tab) (ρ : Type) (K : Res sig × Mem sig → Option ρ), Rc65_0 C ρ args m K = none) ∨ ∃ (a1 : ByteArray) (a2 : Int), args = [.ptr 0 0] ∧ m = [some [.d (.str a1), .d (.int .i64 a2)]] := by
  unfold Rc65_0
  exact uC_k fun _ _ _ => uP_k fun _ => u0_k fun _ => uM_k fun _ _ _ => uC_k fun _ _ _ => uStr_k fun a1 _ => uC_k fun _ _ _ => uI_k fun a2 _ => u0_k fun _ => uE_k fun _ => .inr ⟨a1, a2, by subst_vars; exact ⟨rfl, rfl⟩⟩

theorem rc66_0 (args : List (PV sig)) (m : Mem sig) : (∀ (C : Tab) (ρ : Type) (K : Res sig × Mem sig → Option ρ), Rc66_0 C ρ args m K = none) ∨ ∃ (a1 : Int), args = [.d (.int .u8 a1)] ∧ m = [] := by
  unfold Rc66_0
  exact uC_k fun _ _ _ => uI_k fun a1 _ => u0_k fun _ => uE_k fun _ => .inr ⟨a1, by subst_vars; exact ⟨rfl, rfl⟩⟩

theorem rc67_0 (args : List (PV sig)) (m : Mem sig) : (∀ (C : Tab) (ρ : Type) (K : Res sig × Mem sig → Option ρ), Rc67_0 C ρ args m K = none) ∨ ∃ (a1 : List ByteArray) (a2 : List Tok) (a3 : Int), args = [.ptr 0 0, .d (.sl Key.str a1)] ∧ m = [some [.d (.sl Key.tok a2), .d (.int .i64 a3)]] := by
  unfold Rc67_0
  exact uC_k fun _ _ _ => uP_k fun _ => uC_k fun _ _ _ => uS_k fun a1 _ => u0_k fun _ => uM_k fun _ _ _ => uC_k fun _ _ _ => uS_k fun a2 _ => uC_k fun _ _ _ => uI_k fun a3 _ => u0_k fun _ => uE_k fun _ => .inr ⟨a1, a2, a3, by subst_vars; exact ⟨rfl, rfl⟩⟩

theorem rc68_0 (args : List (PV sig)) (m : Mem sig) : (∀ (C : Tab) (ρ : Type) (K : Res sig × Mem sig → Option ρ), Rc68_0 C ρ args m K = none) ∨ ∃ (a1 : List Tok) (a2 : Int), args = [.ptr 0 0] ∧ m = [some [.d (.sl Key.tok a1), .d (.int .i64 a2)]] := by
  unfold Rc68_0
  exact uC_k fun _ _ _ => uP_k fun _ => u0_k fun _ => uM_k fun _ _ _ => uC_k fun _ _ _ => uS_k fun a1 _ => uC_k fun _ _ _ => uI_k fun a2 _ => u0_k fun _ => uE_k fun _ => .inr ⟨a1, a2, by subst_vars; exact ⟨rfl, rfl⟩⟩

theorem rc69_0 (args : List (PV sig)) (m : Mem sig) : (∀ (C : Tab) (ρ : Type) (K : Res sig × Mem sig → Option ρ), Rc69_0 C ρ args m K = none) ∨ ∃ (a1 : List Tok) (a2 : Int), args = [.ptr 0 0] ∧ m = [some [.d (.sl Key.tok a1), .d (.int .i64 a2)]] := by
  unfold Rc69_0
  exact uC_k fun _ _ _ => uP_k fun _ => u0_k fun _ => uM_k fun _ _ _ => uC_k fun _ _ _ => uS_k fun a1 _ => uC_k fun _ _ _ => uI_k fun a2 _ => u0_k fun _ => uE_k fun _ => .inr ⟨a1, a2, by subst_vars; exact ⟨rfl, rfl⟩⟩

theorem rc70_0 (args : List (PV sig)) (m : Mem sig) : (∀ (C : Tab) (ρ : Type) (K : Res sig × Mem sig → Option ρ), Rc70_0 C ρ args m K = none) ∨ ∃ (a1 : Rw) (a2 : Int) (a3 : Int), args = [.agg [.d (.int .i64 a1.op), .d (.str a1.name), .d (.sl Key.raw a1.args)], .d (.int .i64 a2), .ptr 0 0] ∧ m = [some [.d (.int .i64 a3)]] := by
  unfold Rc70_0
  exact uC_k fun _ _ _ => uRw_k fun a1 _ => uC_k fun _ _ _ => uI_k fun a2 _ => uC_k fun _ _ _ => uP_k fun _ => u0_k fun _ => uM_k fun _ _ _ => uC_k fun _ _ _ => uI_k fun a3 _ => u0_k fun _ => uE_k fun _ => .inr ⟨a1, a2, a3, by subst_vars; exact ⟨rfl, rfl⟩⟩

theorem rc77_0 (args : List (PV sig)) (m : Mem sig) : (∀ (C : Tab) (ρ : Type) (K : Res sig × Mem sig → Option ρ), Rc77_0 C ρ args m K = none) ∨ ∃ (a1 : ByteArray), args = [.d (.str a1)] ∧ m = [] := by
  unfold Rc77_0
  exact uC_k fun _ _ _ => uStr_k fun a1 _ => u0_k fun _ => uE_k fun _ => .inr ⟨a1, by subst_vars; exact ⟨rfl, rfl⟩⟩

theorem rc78_0 (args : List (PV sig)) (m : Mem sig) : (∀ (C : Tab) (ρ : Type) (K : Res sig × Mem sig → Option ρ), Rc78_0 C ρ args m K = none) ∨ ∃ (a1 : List ByteArray) (a2 : ByteArray), args = [.d (.sl Key.str a1), .d (.str a2)] ∧ m = [] := by
  unfold Rc78_0
  exact uC_k fun _ _ _ => uS_k fun a1 _ => uC_k fun _ _ _ => uStr_k fun a2 _ => u0_k fun _ => uE_k fun _ => .inr ⟨a1, a2, by subst_vars; exact ⟨rfl, rfl⟩⟩

theorem rc82_0 (args : List (PV sig)) (m : Mem sig) : (∀ (C : Tab) (ρ : Type) (K : Res sig × Mem sig → Option ρ), Rc82_0 C ρ args m K = none) ∨ ∃ (a1 : Int), args = [.d (.int .u8 a1)] ∧ m = [] := by
  unfold Rc82_0
  exact uC_k fun _ _ _ => uI_k fun a1 _ => u0_k fun _ => uE_k fun _ => .inr ⟨a1, by subst_vars; exact ⟨rfl, rfl⟩⟩

theorem rc83_0 (args : List (PV sig)) (m : Mem sig) : (∀ (C : Tab) (ρ : Type) (K : Res sig × Mem sig → Option ρ), Rc83_0 C ρ args m K = none) ∨ ∃ (a1 : ByteArray) (a2 : Int), args = [.d (.str a1), .d (.int .i64 a2)] ∧ m = [] := by
  unfold Rc83_0
  exact uC_k fun _ _ _ => uStr_k fun a1 _ => uC_k fun _ _ _ => uI_k fun a2 _ => u0_k fun _ => uE_k fun _ => .inr ⟨a1, a2, by subst_vars; exact ⟨rfl, rfl⟩⟩

theorem rc86_0 (args : List (PV sig)) (m : Mem sig) : (∀ (C : Tab) (ρ : Type) (K : Res sig × Mem sig → Option ρ), Rc86_0 C ρ args m K = none) ∨ ∃ (a1 : Int), args = [.d (.int .i64 a1)] ∧ m = [] := by
  unfold Rc86_0
  exact uC_k fun _ _ _ => uI_k fun a1 _ => u0_k fun _ => uE_k fun _ => .inr ⟨a1, by subst_vars; exact ⟨rfl, rfl⟩⟩

theorem rc88_0 (args : List (PV sig)) (m : Mem sig) : (∀ (C : Tab) (ρ : Type) (K : Res sig × Mem sig → Option ρ), Rc88_0 C ρ args m K = none) ∨ ∃ (a1 : List Tok) (a2 : Int), args = [.ptr 0 0] ∧ m = [some [.d (.sl Key.tok a1), .d (.int .i64 a2)]] := by
  unfold Rc88_0
  exact uC_k fun _ _ _ => uP_k fun _ => u0_k fun _ => uM_k fun _ _ _ => uC_k fun _ _ _ => uS_k fun a1 _ => uC_k fun _ _ _ => uI_k fun a2 _ => u0_k fun _ => uE_k fun _ => .inr ⟨a1, a2, by subst_vars; exact ⟨rfl, rfl⟩⟩

theorem rc92_0 (args : List (PV sig)) (m : Mem sig) : (∀ (C : Tab) (ρ : Type) (K : Res sig × Mem sig → Option ρ), Rc92_0 C ρ args m K = none) ∨ ∃ (a1 : ByteArray), args = [.d (.str a1), .fn (.func 93) [] []] ∧ m = [] := by
  unfold Rc92_0
  exact uC_k fun _ _ _ => uStr_k fun a1 _ => uC_k fun _ _ _ => uFn_k fun _ _ _ => u0_k fun _ => u0_k fun _ => u0_k fun _ => uE_k fun _ => .inr ⟨a1, by subst_vars; exact ⟨rfl, rfl⟩⟩

theorem rc92_1 (args : List (PV sig)) (m : Mem sig) : (∀ (C : Tab) (ρ : Type) (K : Res sig × Mem sig → Option ρ), Rc92_1 C ρ args m K = none) ∨ ∃ (a1 : ByteArray), args = [.d (.str a1), .fn (.func 107) [] []] ∧ m = [] := by
  unfold Rc92_1
  exact uC_k fun _ _ _ => uStr_k fun a1 _ => uC_k fun _ _ _ => uFn_k fun _ _ _ => u0_k fun _ => u0_k fun _ => u0_k fun _ => uE_k fun _ => .inr ⟨a1, by subst_vars; exact ⟨rfl, rfl⟩⟩

theorem rc93_0 (args : List (PV sig)) (m : Mem sig) : (∀ (C : Tab) (ρ : Type) (K : Res sig × Mem sig → Option ρ), Rc93_0 C ρ args m K = none) ∨ ∃ (a1 : Int), args = [.d (.int .u8 a1)] ∧ m = [] := by
  unfold Rc93_0
  exact uC_k fun _ _ _ => uI_k fun a1 _ => u0_k fun _ => uE_k fun _ => .inr ⟨a1, by subst_vars; exact ⟨rfl, rfl⟩⟩

theorem rc94_0 (args : List (PV sig)) (m : Mem sig) : (∀ (C : Tab) (ρ : Type) (K : Res sig × Mem sig → Option ρ), Rc94_0 C ρ args m K = none) ∨ ∃ (a1 : List Int) (a2 : Int), args = [.d (.sl Key.int a1), .d (.int .i64 a2)] ∧ m = [] := by
  unfold Rc94_0
  exact uC_k fun _ _ _ => uS_k fun a1 _ => uC_k fun _ _ _ => uI_k fun a2 _ => u0_k fun _ => uE_k fun _ => .inr ⟨a1, a2, by subst_vars; exact ⟨rfl, rfl⟩⟩

theorem rc95_0 (args : List (PV sig)) (m : Mem sig) : (∀ (C : Tab) (ρ : Type) (K : Res sig × Mem sig → Option ρ), Rc95_0 C ρ args m K = none) ∨ ∃ (a1 : Int), args = [.d (.int .i64 a1)] ∧ m = [] := by
  unfold Rc95_0
  exact uC_k fun _ _ _ => uI_k fun a1 _ => u0_k fun _ => uE_k fun _ => .inr ⟨a1, by subst_vars; exact ⟨rfl, rfl⟩⟩

theorem rc96_0 (args : List (PV sig)) (m : Mem sig) : (∀ (C : Tab) (ρ : Type) (K : Res sig × Mem sig → Option ρ), Rc96_0 C ρ args m K = none) ∨ ∃ (a1 : List ByteArray) (a2 : ByteArray), args = [.d (.sl Key.str a1), .d (.str a2)] ∧ m = [] := by
  unfold Rc96_0
  exact uC_k fun _ _ _ => uS_k fun a1 _ => uC_k fun _ _ _ => uStr_k fun a2 _ => u0_k fun _ => uE_k fun _ => .inr ⟨a1, a2, by subst_vars; exact ⟨rfl, rfl⟩⟩

theorem rc97_0 (args : List (PV sig)) (m : Mem sig) : (∀ (C : Tab) (ρ : Type) (K : Res sig × Mem sig → Option ρ), Rc97_0 C ρ args m K = none) ∨ ∃ (a1 : Int), args = [.d (.int .u8 a1)] ∧ m = [] := by
  unfold Rc97_0
  exact uC_k fun _ _ _ => uI_k fun a1 _ => u0_k fun _ => uE_k fun _ => .inr ⟨a1, by subst_vars; exact ⟨rfl, rfl⟩⟩

theorem rc98_0 (args : List (PV sig)) (m : Mem sig) : (∀ (C : Tab) (ρ : Type) (K : Res sig × Mem sig → Option ρ), Rc98_0 C ρ args m K = none) ∨ ∃ (a1 : ByteArray) (a2 : List ByteArray), args = [.d (.str a1), .d (.sl Key.str a2)] ∧ m = [] := by
  unfold Rc98_0
  exact uC_k fun _ _ _ => uStr_k fun a1 _ => uC_k fun _ _ _ => uS_k fun a2 _ => u0_k fun _ => uE_k fun _ => .inr ⟨a1, a2, by subst_vars; exact ⟨rfl, rfl⟩⟩

theorem rc99_0 (args : List (PV sig)) (m : Mem sig) : (∀ (C : Tab) (ρ : Type) (K : Res sig × Mem sig → Option ρ), Rc99_0 C ρ args m K = none) ∨ ∃ (a1 : ByteArray) (a2 : Bool), args = [.d (.str a1), .d (.bool a2)] ∧ m = [] := by
  unfold Rc99_0
  exact uC_k fun _ _ _ => uStr_k fun a1 _ => uC_k fun _ _ _ => uB_k fun a2 _ => u0_k fun _ => uE_k fun _ => .inr ⟨a1, a2, by subst_vars; exact ⟨rfl, rfl⟩⟩

theorem rc100_0 (args : List (PV sig)) (m : Mem sig) : (∀ (C : Tab) (ρ : Type) (K : Res sig × Mem sig → Option ρ), Rc100_0 C ρ args m K = none) ∨ ∃ (a1 : Rw), args = [.agg [.d (.int .i64 a1.op), .d (.str a1.name), .d (.sl Key.raw a1.args)]] ∧ m = [] := by
  unfold Rc100_0
  exact uC_k fun _ _ _ => uRw_k fun a1 _ => u0_k fun _ => uE_k fun _ => .inr ⟨a1, by subst_vars; exact ⟨rfl, rfl⟩⟩

theorem rc101_0 (args : List (PV sig)) (m : Mem sig) : (∀ (C : Tab) (ρ : Type) (K : Res sig × Mem sig → Option ρ), Rc101_0 C ρ args m K = none) ∨ ∃ (a1 : List Pt), args = [.d (.sl Key.part a1)] ∧ m = [] := by
  unfold Rc101_0
  exact uC_k fun _ _ _ => uS_k fun a1 _ => u0_k fun _ => uE_k fun _ => .inr ⟨a1, by subst_vars; exact ⟨rfl, rfl⟩⟩

theorem rc102_0 (args : List (PV sig)) (m : Mem sig) : (∀ (C : Tab) (ρ : Type) (K : Res sig × Mem sig → Option ρ), Rc102_0 C ρ args m K = none) ∨ ∃ (a1 : Int) (a2 : ByteArray) (a3 : Int), args = [.ptr 0 0, .d (.int .i64 a1)] ∧ m = [some [.d (.str a2), .d (.int .i64 a3)]] := by
  unfold Rc102_0
  exact uC_k fun _ _ _ => uP_k fun _ => uC_k fun _ _ _ => uI_k fun a1 _ => u0_k fun _ => uM_k fun _ _ _ => uC_k fun _ _ _ => uStr_k fun a2 _ => uC_k fun _ _ _ => uI_k fun a3 _ => u0_k fun _ => uE_k fun _ => .inr ⟨a1, a2, a3, by subst_vars; exact ⟨rfl, rfl⟩⟩

theorem rc103_0 (args : List (PV sig)) (m : Mem sig) : (∀ (C : Tab) (ρ : Type) (K : Res sig × Mem sig → Option ρ), Rc103_0 C ρ args m K = none) ∨ ∃ (a1 : ByteArray) (a2 : Int), args = [.d (.str a1), .d (.int .u8 a2)] ∧ m = [] := by
  unfold Rc103_0
  exact uC_k fun _ _ _ => uStr_k fun a1 _ => uC_k fun _ _ _ => uI_k fun a2 _ => u0_k fun _ => uE_k fun _ => .inr ⟨a1, a2, by subst_vars; exact ⟨rfl, rfl⟩⟩

theorem rc104_0 (args : List (PV sig)) (m : Mem sig) : (∀ (C : Tab) (ρ : Type) (K : Res sig × Mem sig → Option ρ), Rc104_0 C ρ args m K = none) ∨ ∃ (a1 : Int) (a2 : ByteArray) (a3 : Bool), args = [.d (.int .i64 a1), .d (.str a2), .d (.bool a3)] ∧ m = [] := by
  unfold Rc104_0
  exact uC_k fun _ _ _ => uI_k fun a1 _ => uC_k fun _ _ _ => uStr_k fun a2 _ => uC_k fun _ _ _ => uB_k fun a3 _ => u0_k fun _ => uE_k fun _ => .inr ⟨a1, a2, a3, by subst_vars; exact ⟨rfl, rfl⟩⟩

theorem rc105_0 (args : List (PV sig)) (m : Mem sig) : (∀ (C : Tab) (ρ : Type) (K : Res sig × Mem sig → Option ρ), Rc105_0 C ρ args m K = none) ∨ ∃ (a1 : ByteArray) (a2 : Int), args = [.ptr 0 0, .ptr 1 0] ∧ m = [some [.d (.str a1), .d (.int .i64 a2)], some [.fn (.func 104) [] []]] := by
  unfold Rc105_0
  exact uC_k fun _ _ _ => uP_k fun _ => uC_k fun _ _ _ => uP_k fun _ => u0_k fun _ => uM_k fun _ _ _ => uC_k fun _ _ _ => uStr_k fun a1 _ => uC_k fun _ _ _ => uI_k fun a2 _ => u0_k fun _ => uM_k fun _ _ _ => uC_k fun _ _ _ => uFn_k fun _ _ _ => u0_k fun _ => u0_k fun _ => u0_k fun _ => uE_k fun _ => .inr ⟨a1, a2, by subst_vars; exact ⟨rfl, rfl⟩⟩

theorem rc106_0 (args : List (PV sig)) (m : Mem sig) : (∀ (C : Tab) (ρ : Type) (K : Res sig × Mem sig → Option ρ), Rc106_0 C ρ args m K = none) ∨ ∃ (a1 : Int) (a2 : ByteArray) (a3 : Int), args = [.ptr 0 0, .d (.int .i64 a1)] ∧ m = [some [.d (.str a2), .d (.int .i64 a3)]] := by
  unfold Rc106_0
  exact uC_k fun _ _ _ => uP_k fun _ => uC_k fun _ _ _ => uI_k fun a1 _ => u0_k fun _ => uM_k fun _ _ _ => uC_k fun _ _ _ => uStr_k fun a2 _ => uC_k fun _ _ _ => uI_k fun a3 _ => u0_k fun _ => uE_k fun _ => .inr ⟨a1, a2, a3, by subst_vars; exact ⟨rfl, rfl⟩⟩

theorem rc107_0 (args : List (PV sig)) (m : Mem sig) : (∀ (C : Tab) (ρ : Type) (K : Res sig × Mem sig → Option ρ), Rc107_0 C ρ args m K = none) ∨ ∃ (a1 : Int), args = [.d (.int .u8 a1)] ∧ m = [] := by
  unfold Rc107_0
  exact uC_k fun _ _ _ => uI_k fun a1 _ => u0_k fun _ => uE_k fun _ => .inr ⟨a1, by subst_vars; exact ⟨rfl, rfl⟩⟩

theorem rc108_0 (args : List (PV sig)) (m : Mem sig) : (∀ (C : Tab) (ρ : Type) (K : Res sig × Mem sig → Option ρ), Rc108_0 C ρ args m K = none) ∨ ∃ (a1 : ByteArray) (a2 : Int), args = [.ptr 0 0, .ptr 1 0] ∧ m = [some [.d (.str a1), .d (.int .i64 a2)], some [.fn (.func 104) [] []]] := by
  unfold Rc108_0
  exact uC_k fun _ _ _ => uP_k fun _ => uC_k fun _ _ _ => uP_k fun _ => u0_k fun _ => uM_k fun _ _ _ => uC_k fun _ _ _ => uStr_k fun a1 _ => uC_k fun _ _ _ => uI_k fun a2 _ => u0_k fun _ => uM_k fun _ _ _ => uC_k fun _ _ _ => uFn_k fun _ _ _ => u0_k fun _ => u0_k fun _ => u0_k fun _ => uE_k fun _ => .inr ⟨a1, a2, by subst_vars; exact ⟨rfl, rfl⟩⟩

theorem rc109_0 (args : List (PV sig)) (m : Mem sig) : (∀ (C : Tab) (ρ : Type) (K : Res sig × Mem sig → Option ρ), Rc109_0 C ρ args m K = none) ∨ ∃ (a1 : Int), args = [.d (.int .u8 a1)] ∧ m = [] := by
  unfold Rc109_0
  exact uC_k fun _ _ _ => uI_k fun a1 _ => u0_k fun _ => uE_k fun _ => .inr ⟨a1, by subst_vars; exact ⟨rfl, rfl⟩⟩

theorem rc110_0 (args : List (PV sig)) (m : Mem sig) : (∀ (C : Tab) (ρ : Type) (K : Res sig × Mem sig → Option ρ), Rc110_0 C ρ args m K = none) ∨ ∃ (a1 : ByteArray) (a2 : Int), args = [.ptr 0 0, .ptr 1 0] ∧ m = [some [.d (.str a1), .d (.int .i64 a2)], some [.fn (.func 104) [] []]] := by
  unfold Rc110_0
  exact uC_k fun _ _ _ => uP_k fun _ => uC_k fun _ _ _ => uP_k fun _ => u0_k fun _ => uM_k fun _ _ _ => uC_k fun _ _ _ => uStr_k fun a1 _ => uC_k fun _ _ _ => uI_k fun a2 _ => u0_k fun _ => uM_k fun _ _ _ => uC_k fun _ _ _ => uFn_k fun _ _ _ => u0_k fun _ => u0_k fun _ => u0_k fun _ => uE_k fun _ => .inr ⟨a1, a2, by subst_vars; exact ⟨rfl, rfl⟩⟩

theorem rc111_0 (args : List (PV sig)) (m : Mem sig) : (∀ (C : Tab) (ρ : Type) (K : Res sig × Mem sig → Option ρ), Rc111_0 C ρ args m K = none) ∨ ∃ (a1 : ByteArray), args = [.d (.str a1)] ∧ m = [] := by
  unfold Rc111_0
  exact uC_k fun _ _ _ => uStr_k fun a1 _ => u0_k fun _ => uE_k fun _ => .inr ⟨a1, by subst_vars; exact ⟨rfl, rfl⟩⟩

theorem rc112_0 (args : List (PV sig)) (m : Mem sig) : (∀ (C : Tab) (ρ : Type) (K : Res sig × Mem sig → Option ρ), Rc112_0 C ρ args m K = none) ∨ ∃ (a1 : ByteArray) (a2 : Int), args = [.ptr 0 0, .ptr 1 0] ∧ m = [some [.d (.str a1), .d (.int .i64 a2)], some [.fn (.func 104) [] []]] := by
  unfold Rc112_0
  exact uC_k fun _ _ _ => uP_k fun _ => uC_k fun _ _ _ => uP_k fun _ => u0_k fun _ => uM_k fun _ _ _ => uC_k fun _ _ _ => uStr_k fun a1 _ => uC_k fun _ _ _ => uI_k fun a2 _ => u0_k fun _ => uM_k fun _ _ _ => uC_k fun _ _ _ => uFn_k fun _ _ _ => u0_k fun _ => u0_k fun _ => u0_k fun _ => uE_k fun _ => .inr ⟨a1, a2, by subst_vars; exact ⟨rfl, rfl⟩⟩

theorem rc113_0 (args : List (PV sig)) (m : Mem sig) : (∀ (C : Tab) (ρ : Type) (K : Res sig × Mem sig → Option ρ), Rc113_0 C ρ args m K = none) ∨ ∃ (a1 : ByteArray) (a2 : Int), args = [.ptr 0 0, .ptr 1 0] ∧ m = [some [.d (.str a1), .d (.int .i64 a2)], some [.fn (.func 104) [] []]] := by
  unfold Rc113_0
  exact uC_k fun _ _ _ => uP_k fun _ => uC_k fun _ _ _ => uP_k fun _ => u0_k fun _ => uM_k fun _ _ _ => uC_k fun _ _ _ => uStr_k fun a1 _ => uC_k fun _ _ _ => uI_k fun a2 _ => u0_k fun _ => uM_k fun _ _ _ => uC_k fun _ _ _ => uFn_k fun _ _ _ => u0_k fun _ => u0_k fun _ => u0_k fun _ => uE_k fun _ => .inr ⟨a1, a2, by subst_vars; exact ⟨rfl, rfl⟩⟩

theorem rc114_0 (args : List (PV sig)) (m : Mem sig) : (∀ (C : Tab) (ρ : Type) (K : Res sig × Mem sig → Option ρ), Rc114_0 C ρ args m K = none) ∨ ∃ (a1 : ByteArray) (a2 : Int), args = [.ptr 0 0] ∧ m = [some [.d (.str a1), .d (.int .i64 a2)]] := by
  unfold Rc114_0
  exact uC_k fun _ _ _ => uP_k fun _ => u0_k fun _ => uM_k fun _ _ _ => uC_k fun _ _ _ => uStr_k fun a1 _ => uC_k fun _ _ _ => uI_k fun a2 _ => u0_k fun _ => uE_k fun _ => .inr ⟨a1, a2, by subst_vars; exact ⟨rfl, rfl⟩⟩

theorem rc115_0 (args : List (PV sig)) (m : Mem sig) : (∀ (C : Tab) (ρ : Type) (K : Res sig × Mem sig → Option ρ), Rc115_0 C ρ args m K = none) ∨ ∃ (a1 : ByteArray) (a2 : Int), args = [.ptr 0 0, .ptr 1 0] ∧ m = [some [.d (.str a1), .d (.int .i64 a2)], some [.fn (.func 104) [] []]] := by
  unfold Rc115_0
  exact uC_k fun _ _ _ => uP_k fun _ => uC_k fun _ _ _ => uP_k fun _ => u0_k fun _ => uM_k fun _ _ _ => uC_k fun _ _ _ => uStr_k fun a1 _ => uC_k fun _ _ _ => uI_k fun a2 _ => u0_k fun _ => uM_k fun _ _ _ => uC_k fun _ _ _ => uFn_k fun _ _ _ => u0_k fun _ => u0_k fun _ => u0_k fun _ => uE_k fun _ => .inr ⟨a1, a2, by subst_vars; exact ⟨rfl, rfl⟩⟩

theorem rc116_0 (args : List (PV sig)) (m : Mem sig) : (∀ (C : Tab) (ρ : Type) (K : Res sig × Mem sig → Option ρ), Rc116_0 C ρ args m K = none) ∨ ∃ (a1 : ByteArray) (a2 : Int) (a3 : Int), args = [.ptr 0 0, .ptr 1 0, .ptr 2 0] ∧ m = [some [.d (.str a1), .d (.int .i64 a2)], some [.fn (.func 104) [] []], some [.d (.int .u8 a3)]] := by
  unfold Rc116_0
  exact uC_k fun _ _ _ => uP_k fun _ => uC_k fun _ _ _ => uP_k fun _ => uC_k fun _ _ _ => uP_k fun _ => u0_k fun _ => uM_k fun _ _ _ => uC_k fun _ _ _ => uStr_k fun a1 _ => uC_k fun _ _ _ => uI_k fun a2 _ => u0_k fun _ => uM_k fun _ _ _ => uC_k fun _ _ _ => uFn_k fun _ _ _ => u0_k fun _ => u0_k fun _ => u0_k fun _ => uM_k fun _ _ _ => uC_k fun _ _ _ => uI_k fun a3 _ => u0_k fun _ => uE_k fun _ => .inr ⟨a1, a2, a3, by subst_vars; exact ⟨rfl, rfl⟩⟩

theorem rc117_0 (args : List (PV sig)) (m : Mem sig) : (∀ (C : Tab) (ρ : Type) (K : Res sig × Mem sig → Option ρ), Rc117_0 C ρ args m K = none) ∨ ∃ (a1 : List Tok) (a2 : Int), args = [.ptr 0 0] ∧ m = [some [.d (.sl Key.tok a1), .d (.int .i64 a2)]] := by
  unfold Rc117_0
  exact uC_k fun _ _ _ => uP_k fun _ => u0_k fun _ => uM_k fun _ _ _ => uC_k fun _ _ _ => uS_k fun a1 _ => uC_k fun _ _ _ => uI_k fun a2 _ => u0_k fun _ => uE_k fun _ => .inr ⟨a1, a2, by subst_vars; exact ⟨rfl, rfl⟩⟩

theorem rc118_0 (args : List (PV sig)) (m : Mem sig) : (∀ (C : Tab) (ρ : Type) (K : Res sig × Mem sig → Option ρ), Rc118_0 C ρ args m K = none) ∨ ∃ (a1 : ByteArray) (a2 : List Tok) (a3 : Int), args = [.ptr 0 0, .d (.str a1)] ∧ m = [some [.d (.sl Key.tok a2), .d (.int .i64 a3)]] := by
  unfold Rc118_0
  exact uC_k fun _ _ _ => uP_k fun _ => uC_k fun _ _ _ => uStr_k fun a1 _ => u0_k fun _ => uM_k fun _ _ _ => uC_k fun _ _ _ => uS_k fun a2 _ => uC_k fun _ _ _ => uI_k fun a3 _ => u0_k fun _ => uE_k fun _ => .inr ⟨a1, a2, a3, by subst_vars; exact ⟨rfl, rfl⟩⟩

theorem rc119_0 (args : List (PV sig)) (m : Mem sig) : (∀ (C : Tab) (ρ : Type) (K : Res sig × Mem sig → Option ρ), Rc119_0 C ρ args m K = none) ∨ ∃ (a1 : List Tok) (a2 : Int), args = [.ptr 0 0] ∧ m = [some [.d (.sl Key.tok a1), .d (.int .i64 a2)]] := by
  unfold Rc119_0
  exact uC_k fun _ _ _ => uP_k fun _ => u0_k fun _ => uM_k fun _ _ _ => uC_k fun _ _ _ => uS_k fun a1 _ => uC_k fun _ _ _ => uI_k fun a2 _ => u0_k fun _ => uE_k fun _ => .inr ⟨a1, a2, by subst_vars; exact ⟨rfl, rfl⟩⟩

theorem rc120_0 (args : List (PV sig)) (m : Mem sig) : (∀ (C : Tab) (ρ : Type) (K : Res sig × Mem sig → Option ρ), Rc120_0 C ρ args m K = none) ∨ ∃ (a1 : List Tok) (a2 : Int), args = [.ptr 0 0] ∧ m = [some [.d (.sl Key.tok a1), .d (.int .i64 a2)]] := by
  unfold Rc120_0
  exact uC_k fun _ _ _ => uP_k fun _ => u0_k fun _ => uM_k fun _ _ _ => uC_k fun _ _ _ => uS_k fun a1 _ => uC_k fun _ _ _ => uI_k fun a2 _ => u0_k fun _ => uE_k fun _ => .inr ⟨a1, a2, by subst_vars; exact ⟨rfl, rfl⟩⟩

theorem rc126_0 (args : List (PV sig)) (m : Mem sig) : (∀ (C : Tab) (ρ : Type) (K : Res sig × Mem sig → Option ρ), Rc126_0 C ρ args m K = none) ∨ ∃ (a1 : List ByteArray) (a2 : ByteArray), args = [.d (.sl Key.str a1), .d (.str a2)] ∧ m = [] := by
  unfold Rc126_0
  exact uC_k fun _ _ _ => uS_k fun a1 _ => uC_k fun _ _ _ => uStr_k fun a2 _ => u0_k fun _ => uE_k fun _ => .inr ⟨a1, a2, by subst_vars; exact ⟨rfl, rfl⟩⟩

theorem rc127_0 (args : List (PV sig)) (m : Mem sig) : (∀ (C : Tab) (ρ : Type) (K : Res sig × Mem sig → Option ρ), Rc127_0 C ρ args m K = none) ∨ ∃ (a1 : Int), args = [.d (.int .u8 a1)] ∧ m = [] := by
  unfold Rc127_0
  exact uC_k fun _ _ _ => uI_k fun a1 _ => u0_k fun _ => uE_k fun _ => .inr ⟨a1, by subst_vars; exact ⟨rfl, rfl⟩⟩

theorem rc129_0 (args : List (PV sig)) (m : Mem sig) : (∀ (C : Tab) (ρ : Type) (K : Res sig × Mem sig → Option ρ), Rc129_0 C ρ args m K = none) ∨ ∃ (a1 : ByteArray) (a2 : List Tok) (a3 : Int), args = [.ptr 0 0, .d (.str a1)] ∧ m = [some [.d (.sl Key.tok a2), .d (.int .i64 a3)]] := by
  unfold Rc129_0
  exact uC_k fun _ _ _ => uP_k fun _ => uC_k fun _ _ _ => uStr_k fun a1 _ => u0_k fun _ => uM_k fun _ _ _ => uC_k fun _ _ _ => uS_k fun a2 _ => uC_k fun _ _ _ => uI_k fun a3 _ => u0_k fun _ => uE_k fun _ => .inr ⟨a1, a2, a3, by subst_vars; exact ⟨rfl, rfl⟩⟩

theorem rc132_0 (args : List (PV sig)) (m : Mem sig) : (∀ (C : Tab) (ρ : Type) (K : Res sig × Mem sig → Option ρ), Rc132_0 C ρ args m K = none) ∨ ∃ (a1 : Int), args = [.d (.int .u8 a1)] ∧ m = [] := by
  unfold Rc132_0
  exact uC_k fun _ _ _ => uI_k fun a1 _ => u0_k fun _ => uE_k fun _ => .inr ⟨a1, by subst_vars; exact ⟨rfl, rfl⟩⟩

theorem rc133_0 (args : List (PV sig)) (m : Mem sig) : (∀ (C : Tab) (ρ : Type) (K : Res sig × Mem sig → Option ρ), Rc133_0 C ρ args m K = none) ∨ ∃ (a1 : List Int) (a2 : Int), args = [.d (.sl Key.int a1), .d (.int .i64 a2)] ∧ m = [] := by
  unfold Rc133_0
  exact uC_k fun _ _ _ => uS_k fun a1 _ => uC_k fun _ _ _ => uI_k fun a2 _ => u0_k fun _ => uE_k fun _ => .inr ⟨a1, a2, by subst_vars; exact ⟨rfl, rfl⟩⟩

theorem rc139_0 (args : List (PV sig)) (m : Mem sig) : (∀ (C : Tab) (ρ : Type) (K : Res sig × Mem sig → Option ρ), Rc139_0 C ρ args m K = none) ∨ ∃ (a1 : ByteArray), args = [.d (.str a1)] ∧ m = [] := by
  unfold Rc139_0
  exact uC_k fun _ _ _ => uStr_k fun a1 _ => u0_k fun _ => uE_k fun _ => .inr ⟨a1, by subst_vars; exact ⟨rfl, rfl⟩⟩

theorem rc140_0 (args : List (PV sig)) (m : Mem sig) : (∀ (C : Tab) (ρ : Type) (K : Res sig × Mem sig → Option ρ), Rc140_0 C ρ args m K = none) ∨ ∃ (a1 : Tok), args = [.agg [.d (.int .i64 a1.kind), .d (.str a1.text), .d (.int .i64 (a1.at_))]] ∧ m = [] := by
  unfold Rc140_0
  exact uC_k fun _ _ _ => uTok_k fun a1 _ => u0_k fun _ => uE_k fun _ => .inr ⟨a1, by subst_vars; exact ⟨rfl, rfl⟩⟩

theorem rc141_0 (args : List (PV sig)) (m : Mem sig) : (∀ (C : Tab) (ρ : Type) (K : Res sig × Mem sig → Option ρ), Rc141_0 C ρ args m K = none) ∨ ∃ (a1 : List Tok) (a2 : Int), args = [.ptr 0 0] ∧ m = [some [.d (.sl Key.tok a1), .d (.int .i64 a2)]] := by
  unfold Rc141_0
  exact uC_k fun _ _ _ => uP_k fun _ => u0_k fun _ => uM_k fun _ _ _ => uC_k fun _ _ _ => uS_k fun a1 _ => uC_k fun _ _ _ => uI_k fun a2 _ => u0_k fun _ => uE_k fun _ => .inr ⟨a1, a2, by subst_vars; exact ⟨rfl, rfl⟩⟩

theorem rc142_0 (args : List (PV sig)) (m : Mem sig) : (∀ (C : Tab) (ρ : Type) (K : Res sig × Mem sig → Option ρ), Rc142_0 C ρ args m K = none) ∨ ∃ (a1 : List Tok) (a2 : Int), args = [.ptr 0 0] ∧ m = [some [.d (.sl Key.tok a1), .d (.int .i64 a2)]] := by
  unfold Rc142_0
  exact uC_k fun _ _ _ => uP_k fun _ => u0_k fun _ => uM_k fun _ _ _ => uC_k fun _ _ _ => uS_k fun a1 _ => uC_k fun _ _ _ => uI_k fun a2 _ => u0_k fun _ => uE_k fun _ => .inr ⟨a1, a2, by subst_vars; exact ⟨rfl, rfl⟩⟩

theorem rc150_0 (args : List (PV sig)) (m : Mem sig) : (∀ (C : Tab) (ρ : Type) (K : Res sig × Mem sig → Option ρ), Rc150_0 C ρ args m K = none) ∨ ∃ (a1 : Int) (a2 : List Tok) (a3 : Int), args = [.ptr 0 0, .d (.int .i64 a1)] ∧ m = [some [.d (.sl Key.tok a2), .d (.int .i64 a3)]] := by
  unfold Rc150_0
  exact uC_k fun _ _ _ => uP_k fun _ => uC_k fun _ _ _ => uI_k fun a1 _ => u0_k fun _ => uM_k fun _ _ _ => uC_k fun _ _ _ => uS_k fun a2 _ => uC_k fun _ _ _ => uI_k fun a3 _ => u0_k fun _ => uE_k fun _ => .inr ⟨a1, a2, a3, by subst_vars; exact ⟨rfl, rfl⟩⟩

theorem rl10_4_0 (vs : List (PV sig)) (m : Mem sig) (ds : List (FuncId × List (PV sig))) (nt : Nat) : (∀ (C : Tab) (ρ : Type) (K : Ex sig → St sig → Option ρ), Rl10_4_0 C ρ vs m ds nt K = none) ∨ ∃ (a1 : Int) (a2 : Rw) (a3 : Rw), vs = [.ptr 0 0, .ptr 1 0, .d (.int .i64 a1)] ∧ m = [some [.d (.int .i64 a2.op), .d (.str a2.name), .d (.sl Key.raw a2.args)], some [.d (.int .i64 a3.op), .d (.str a3.name), .d (.sl Key.raw a3.args)]] ∧ ds = [] ∧ nt = 46 := by
  unfold Rl10_4_0
  exact uN_k fun _ => uC_k fun _ _ _ => uP_k fun _ => uC_k fun _ _ _ => uP_k fun _ => uC_k fun _ _ _ => uI_k fun a1 _ => u0_k fun _ => uM_k fun _ _ _ => uRwL_k fun a2 _ => uM_k fun _ _ _ => uRwL_k fun a3 _ => uE_k fun _ => uDe_k fun _ => .inr ⟨a1, a2, a3, by subst_vars; exact ⟨rfl, rfl, rfl, rfl⟩⟩

theorem rl21_11_0 (vs : List (PV sig)) (m : Mem sig) (ds : List (FuncId × List (PV sig))) (nt : Nat) : (∀ (C : Tab) (ρ : Type) (K : Ex sig → St sig → Option ρ), Rl21_11_0 C ρ vs m ds nt K = none) ∨ ∃ (a1 : List It) (a2 : Int) (a3 : Int) (a4 : List It) (a5 : Int) (a6 : Int) (mk : Nat), vs = [.ptr 0 0, .ptr 1 0, .ptr 2 0, .d (.sl Key.item a1), .d (.int .i64 a2), .d (.int .i64 a3)] ∧ m = [some [.d (.sl Key.item a4)], some [.d (.int .i64 a5)], some [.d (.int .i64 a6)]] ∧ ds = [(1000000, [.fn (.yield mk) [] []]), (29, [.ptr 1 0, .ptr 2 0]), (50, [.ptr 2 0, .ptr 0 0])] ∧ nt = 45 := by
  unfold Rl21_11_0
  exact uN_k fun _ => uC_k fun _ _ _ => uP_k fun _ => uC_k fun _ _ _ => uP_k fun _ => uC_k fun _ _ _ => uP_k fun _ => uC_k fun _ _ _ => uS_k fun a1 _ => uC_k fun _ _ _ => uI_k fun a2 _ => uC_k fun _ _ _ => uI_k fun a3 _ => u0_k fun _ => uM_k fun _ _ _ => uC_k fun _ _ _ => uS_k fun a4 _ => u0_k fun _ => uM_k fun _ _ _ => uC_k fun _ _ _ => uI_k fun a5 _ => u0_k fun _ => uM_k fun _ _ _ => uC_k fun _ _ _ => uI_k fun a6 _ => u0_k fun _ => uE_k fun _ => uD_k fun _ _ _ => uC_k fun _ _ _ => uY_k fun mk _ => u0_k fun _ => uD_k fun _ _ _ => uC_k fun _ _ _ => uP_k fun _ => uC_k fun _ _ _ => uP_k fun _ => u0_k fun _ => uD_k fun _ _ _ => uC_k fun _ _ _ => uP_k fun _ => uC_k fun _ _ _ => uP_k fun _ => u0_k fun _ => uDe_k fun _ => .inr ⟨a1, a2, a3, a4, a5, a6, mk, by subst_vars; exact ⟨rfl, rfl, rfl, rfl⟩⟩

theorem rl23_4_0 (vs : List (PV sig)) (m : Mem sig) (ds : List (FuncId × List (PV sig))) (nt : Nat) : (∀ (C : Tab) (ρ : Type) (K : Ex sig → St sig → Option ρ), Rl23_4_0 C ρ vs m ds nt K = none) ∨ ∃ (a1 : Int) (a2 : It) (a3 : It), vs = [.ptr 0 0, .ptr 1 0, .d (.int .i64 a1)] ∧ m = [some [.d (.str a2.word), .d (.str a2.name), .d (.int .i64 a2.raw.op), .d (.str a2.raw.name), .d (.sl Key.raw a2.raw.args), .d (.sl Key.part a2.parts)], some [.d (.str a3.word), .d (.str a3.name), .d (.int .i64 a3.raw.op), .d (.str a3.raw.name), .d (.sl Key.raw a3.raw.args), .d (.sl Key.part a3.parts)]] ∧ ds = [] ∧ nt = 54 := by
  unfold Rl23_4_0
  exact uN_k fun _ => uC_k fun _ _ _ => uP_k fun _ => uC_k fun _ _ _ => uP_k fun _ => uC_k fun _ _ _ => uI_k fun a1 _ => u0_k fun _ => uM_k fun _ _ _ => uItL_k fun a2 _ => uM_k fun _ _ _ => uItL_k fun a3 _ => uE_k fun _ => uDe_k fun _ => .inr ⟨a1, a2, a3, by subst_vars; exact ⟨rfl, rfl, rfl, rfl⟩⟩

theorem rl24_9_0 (vs : List (PV sig)) (m : Mem sig) (ds : List (FuncId × List (PV sig))) (nt : Nat) : (∀ (C : Tab) (ρ : Type) (K : Ex sig → St sig → Option ρ), Rl24_9_0 C ρ vs m ds nt K = none) ∨ ∃ (a1 : List Pt) (a2 : Int) (a3 : Int) (a4 : It) (a5 : Int), vs = [.ptr 1 0, .d (.sl Key.part a1), .d (.int .i64 a2), .d (.int .i64 a3)] ∧ m = [some [.d (.str a4.word), .d (.str a4.name), .d (.int .i64 a4.raw.op), .d (.str a4.raw.name), .d (.sl Key.raw a4.raw.args), .d (.sl Key.part a4.parts)], some [.d (.int .i64 a5)]] ∧ ds = [] ∧ nt = 53 := by
  unfold Rl24_9_0
  exact uN_k fun _ => uC_k fun _ _ _ => uP_k fun _ => uC_k fun _ _ _ => uS_k fun a1 _ => uC_k fun _ _ _ => uI_k fun a2 _ => uC_k fun _ _ _ => uI_k fun a3 _ => u0_k fun _ => uM_k fun _ _ _ => uItL_k fun a4 _ => uM_k fun _ _ _ => uC_k fun _ _ _ => uI_k fun a5 _ => u0_k fun _ => uE_k fun _ => uDe_k fun _ => .inr ⟨a1, a2, a3, a4, a5, by subst_vars; exact ⟨rfl, rfl, rfl, rfl⟩⟩

theorem rl26_6_0 (vs : List (PV sig)) (m : Mem sig) (ds : List (FuncId × List (PV sig))) (nt : Nat) : (∀ (C : Tab) (ρ : Type) (K : Ex sig → St sig → Option ρ), Rl26_6_0 C ρ vs m ds nt K = none) ∨ ∃ (a1 : Int) (a2 : It), vs = [.ptr 0 0, .d (.int .i64 a1)] ∧ m = [some [.d (.str a2.word), .d (.str a2.name), .d (.int .i64 a2.raw.op), .d (.str a2.raw.name), .d (.sl Key.raw a2.raw.args), .d (.sl Key.part a2.parts)]] ∧ ds = [] ∧ nt = 61 := by
  unfold Rl26_6_0
  exact uN_k fun _ => uC_k fun _ _ _ => uP_k fun _ => uC_k fun _ _ _ => uI_k fun a1 _ => u0_k fun _ => uM_k fun _ _ _ => uItL_k fun a2 _ => uE_k fun _ => uDe_k fun _ => .inr ⟨a1, a2, by subst_vars; exact ⟨rfl, rfl, rfl, rfl⟩⟩

theorem rl27_5_0 (vs : List (PV sig)) (m : Mem sig) (ds : List (FuncId × List (PV sig))) (nt : Nat) : (∀ (C : Tab) (ρ : Type) (K : Ex sig → St sig → Option ρ), Rl27_5_0 C ρ vs m ds nt K = none) ∨ ∃ (a1 : ByteArray) (a2 : List Pt) (a3 : Int) (a4 : Int), vs = [.d (.str a1), .d (.sl Key.part a2), .d (.int .i64 a3), .d (.int .i64 a4)] ∧ m = [] ∧ ds = [] ∧ nt = 35 := by
  unfold Rl27_5_0
  exact uN_k fun _ => uC_k fun _ _ _ => uStr_k fun a1 _ => uC_k fun _ _ _ => uS_k fun a2 _ => uC_k fun _ _ _ => uI_k fun a3 _ => uC_k fun _ _ _ => uI_k fun a4 _ => u0_k fun _ => uE_k fun _ => uDe_k fun _ => .inr ⟨a1, a2, a3, a4, by subst_vars; exact ⟨rfl, rfl, rfl, rfl⟩⟩

theorem rl28_6_0 (vs : List (PV sig)) (m : Mem sig) (ds : List (FuncId × List (PV sig))) (nt : Nat) : (∀ (C : Tab) (ρ : Type) (K : Ex sig → St sig → Option ρ), Rl28_6_0 C ρ vs m ds nt K = none) ∨ ∃ (a1 : ByteArray) (a2 : List Tok) (a3 : ByteArray) (a4 : Int), vs = [.d (.str a1), .ptr 0 0, .own Key.tok a2] ∧ m = [some [.d (.str a3), .d (.int .i64 a4)]] ∧ ds = [] ∧ nt = 69 := by
  unfold Rl28_6_0
  exact uN_k fun _ => uC_k fun _ _ _ => uStr_k fun a1 _ => uC_k fun _ _ _ => uP_k fun _ => uC_k fun _ _ _ => uS_k fun a2 _ => u0_k fun _ => uM_k fun _ _ _ => uC_k fun _ _ _ => uStr_k fun a3 _ => uC_k fun _ _ _ => uI_k fun a4 _ => u0_k fun _ => uE_k fun _ => uDe_k fun _ => .inr ⟨a1, a2, a3, a4, by subst_vars; exact ⟨rfl, rfl, rfl, rfl⟩⟩

theorem rl30_4_0 (vs : List (PV sig)) (m : Mem sig) (ds : List (FuncId × List (PV sig))) (nt : Nat) : (∀ (C : Tab) (ρ : Type) (K : Ex sig → St sig → Option ρ), Rl30_4_0 C ρ vs m ds nt K = none) ∨ ∃ (a1 : Bool) (a2 : List Tok) (a3 : Int) (a4 : Rw) (a5 : Rw), vs = [.ptr 0 0, .ptr 1 0, .ptr 2 0, .d (.bool a1)] ∧ m = [some [.d (.sl Key.tok a2), .d (.int .i64 a3)], some [.d (.int .i64 a4.op), .d (.str a4.name), .full Key.raw a4.args], some [.d (.int .i64 a5.op), .d (.str a5.name), .d (.sl Key.raw a5.args)]] ∧ ds = [] ∧ nt = 63 := by
  unfold Rl30_4_0
  exact uN_k fun _ => uC_k fun _ _ _ => uP_k fun _ => uC_k fun _ _ _ => uP_k fun _ => uC_k fun _ _ _ => uP_k fun _ => uC_k fun _ _ _ => uB_k fun a1 _ => u0_k fun _ => uM_k fun _ _ _ => uC_k fun _ _ _ => uS_k fun a2 _ => uC_k fun _ _ _ => uI_k fun a3 _ => u0_k fun _ => uM_k fun _ _ _ => uRwL_k fun a4 _ => uM_k fun _ _ _ => uRwL_k fun a5 _ => uE_k fun _ => uDe_k fun _ => .inr ⟨a1, a2, a3, a4, a5, by subst_vars; exact ⟨rfl, rfl, rfl, rfl⟩⟩

theorem rl42_3_0 (vs : List (PV sig)) (m : Mem sig) (ds : List (FuncId × List (PV sig))) (nt : Nat) : (∀ (C : Tab) (ρ : Type) (K : Ex sig → St sig → Option ρ), Rl42_3_0 C ρ vs m ds nt K = none) ∨ ∃ (a1 : Int) (a2 : Int) (a3 : Int) (a4 : Rw), vs = [.d (.int .i64 a1), .ptr 0 0, .d (.int .i64 a2), .d (.int .i64 a3)] ∧ m = [some [.d (.int .i64 a4.op), .d (.str a4.name), .d (.sl Key.raw a4.args)]] ∧ ds = [] ∧ nt = 34 := by
  unfold Rl42_3_0
  exact uN_k fun _ => uC_k fun _ _ _ => uI_k fun a1 _ => uC_k fun _ _ _ => uP_k fun _ => uC_k fun _ _ _ => uI_k fun a2 _ => uC_k fun _ _ _ => uI_k fun a3 _ => u0_k fun _ => uM_k fun _ _ _ => uRwL_k fun a4 _ => uE_k fun _ => uDe_k fun _ => .inr ⟨a1, a2, a3, a4, by subst_vars; exact ⟨rfl, rfl, rfl, rfl⟩⟩

theorem rl43_18_0 (vs : List (PV sig)) (m : Mem sig) (ds : List (FuncId × List (PV sig))) (nt : Nat) : (∀ (C : Tab) (ρ : Type) (K : Ex sig → St sig → Option ρ), Rl43_18_0 C ρ vs m ds nt K = none) ∨ ∃ (a1 : Int) (a2 : Int) (a3 : Rw), vs = [.d (.int .i64 a1), .ptr 0 0, .d (.int .i64 a2)] ∧ m = [some [.d (.int .i64 a3.op), .d (.str a3.name), .d (.sl Key.raw a3.args)]] ∧ ds = [] ∧ nt = 62 := by
  unfold Rl43_18_0
  exact uN_k fun _ => uC_k fun _ _ _ => uI_k fun a1 _ => uC_k fun _ _ _ => uP_k fun _ => uC_k fun _ _ _ => uI_k fun a2 _ => u0_k fun _ => uM_k fun _ _ _ => uRwL_k fun a3 _ => uE_k fun _ => uDe_k fun _ => .inr ⟨a1, a2, a3, by subst_vars; exact ⟨rfl, rfl, rfl, rfl⟩⟩

theorem rl53_4_0 (vs : List (PV sig)) (m : Mem sig) (ds : List (FuncId × List (PV sig))) (nt : Nat) : (∀ (C : Tab) (ρ : Type) (K : Ex sig → St sig → Option ρ), Rl53_4_0 C ρ vs m ds nt K = none) ∨ ∃ (a1 : Int) (a2 : Pt) (a3 : Pt), vs = [.ptr 0 0, .ptr 1 0, .d (.int .i64 a1)] ∧ m = [some [.d (.int .i64 a2.op), .d (.str a2.sign), .d (.str a2.name), .d (.int .i64 a2.num), .d (.int .i64 a2.raw.op), .d (.str a2.raw.name), .d (.sl Key.raw a2.raw.args), .d (.sl Key.part a2.parts)], some [.d (.int .i64 a3.op), .d (.str a3.sign), .d (.str a3.name), .d (.int .i64 a3.num), .d (.int .i64 a3.raw.op), .d (.str a3.raw.name), .d (.sl Key.raw a3.raw.args), .d (.sl Key.part a3.parts)]] ∧ ds = [] ∧ nt = 68 := by
  unfold Rl53_4_0
  exact uN_k fun _ => uC_k fun _ _ _ => uP_k fun _ => uC_k fun _ _ _ => uP_k fun _ => uC_k fun _ _ _ => uI_k fun a1 _ => u0_k fun _ => uM_k fun _ _ _ => uPtL_k fun a2 _ => uM_k fun _ _ _ => uPtL_k fun a3 _ => uE_k fun _ => uDe_k fun _ => .inr ⟨a1, a2, a3, by subst_vars; exact ⟨rfl, rfl, rfl, rfl⟩⟩

theorem rl56_32_0 (vs : List (PV sig)) (m : Mem sig) (ds : List (FuncId × List (PV sig))) (nt : Nat) : (∀ (C : Tab) (ρ : Type) (K : Ex sig → St sig → Option ρ), Rl56_32_0 C ρ vs m ds nt K = none) ∨ ∃ (a1 : Int) (a2 : List Pt) (a3 : Int) (a4 : Int) (a5 : Int) (a6 : Pt) (a7 : Pt), vs = [.d (.int .i64 a1), .ptr 0 0, .ptr 1 0, .ptr 2 0, .d (.sl Key.part a2), .d (.int .i64 a3), .d (.int .i64 a4)] ∧ m = [some [.d (.int .i64 a5)], some [.d (.int .i64 a6.op), .d (.str a6.sign), .d (.str a6.name), .d (.int .i64 a6.num), .d (.int .i64 a6.raw.op), .d (.str a6.raw.name), .d (.sl Key.raw a6.raw.args), .d (.sl Key.part a6.parts)], some [.d (.int .i64 a7.op), .d (.str a7.sign), .d (.str a7.name), .d (.int .i64 a7.num), .d (.int .i64 a7.raw.op), .d (.str a7.raw.name), .full Key.raw a7.raw.args, .full Key.part a7.parts]] ∧ ds = [] ∧ nt = 205 := by
  unfold Rl56_32_0
  exact uN_k fun _ => uC_k fun _ _ _ => uI_k fun a1 _ => uC_k fun _ _ _ => uP_k fun _ => uC_k fun _ _ _ => uP_k fun _ => uC_k fun _ _ _ => uP_k fun _ => uC_k fun _ _ _ => uS_k fun a2 _ => uC_k fun _ _ _ => uI_k fun a3 _ => uC_k fun _ _ _ => uI_k fun a4 _ => u0_k fun _ => uM_k fun _ _ _ => uC_k fun _ _ _ => uI_k fun a5 _ => u0_k fun _ => uM_k fun _ _ _ => uPtL_k fun a6 _ => uM_k fun _ _ _ => uPtL_k fun a7 _ => uE_k fun _ => uDe_k fun _ => .inr ⟨a1, a2, a3, a4, a5, a6, a7, by subst_vars; exact ⟨rfl, rfl, rfl, rfl⟩⟩

theorem rl58_3_0 (vs : List (PV sig)) (m : Mem sig) (ds : List (FuncId × List (PV sig))) (nt : Nat) : (∀ (C : Tab) (ρ : Type) (K : Ex sig → St sig → Option ρ), Rl58_3_0 C ρ vs m ds nt K = none) ∨ ∃ (a1 : List ByteArray) (a2 : List Pt) (a3 : Int) (a4 : Int), vs = [.own Key.str a1, .d (.sl Key.part a2), .d (.int .i64 a3), .d (.int .i64 a4)] ∧ m = [] ∧ ds = [] ∧ nt = 64 := by
  unfold Rl58_3_0
  exact uN_k fun _ => uC_k fun _ _ _ => uS_k fun a1 _ => uC_k fun _ _ _ => uS_k fun a2 _ => uC_k fun _ _ _ => uI_k fun a3 _ => uC_k fun _ _ _ => uI_k fun a4 _ => u0_k fun _ => uE_k fun _ => uDe_k fun _ => .inr ⟨a1, a2, a3, a4, by subst_vars; exact ⟨rfl, rfl, rfl, rfl⟩⟩

theorem rl61_3_0 (vs : List (PV sig)) (m : Mem sig) (ds : List (FuncId × List (PV sig))) (nt : Nat) : (∀ (C : Tab) (ρ : Type) (K : Ex sig → St sig → Option ρ), Rl61_3_0 C ρ vs m ds nt K = none) ∨ ∃ (a1 : List Pt) (a2 : Int) (a3 : Int) (a4 : Int), vs = [.d (.sl Key.part a1), .d (.int .i64 a2), .d (.int .i64 a3), .d (.int .i64 a4)] ∧ m = [] ∧ ds = [] ∧ nt = 35 := by
  unfold Rl61_3_0
  exact uN_k fun _ => uC_k fun _ _ _ => uS_k fun a1 _ => uC_k fun _ _ _ => uI_k fun a2 _ => uC_k fun _ _ _ => uI_k fun a3 _ => uC_k fun _ _ _ => uI_k fun a4 _ => u0_k fun _ => uE_k fun _ => uDe_k fun _ => .inr ⟨a1, a2, a3, a4, by subst_vars; exact ⟨rfl, rfl, rfl, rfl⟩⟩

theorem rl62_23_0 (vs : List (PV sig)) (m : Mem sig) (ds : List (FuncId × List (PV sig))) (nt : Nat) : (∀ (C : Tab) (ρ : Type) (K : Ex sig → St sig → Option ρ), Rl62_23_0 C ρ vs m ds nt K = none) ∨ ∃ (a1 : Int) (a2 : Bool) (a3 : Int) (a4 : Pt), vs = [.d (.int .i64 a1), .ptr 0 0, .d (.bool a2), .d (.int .i64 a3)] ∧ m = [some [.d (.int .i64 a4.op), .d (.str a4.sign), .d (.str a4.name), .d (.int .i64 a4.num), .d (.int .i64 a4.raw.op), .d (.str a4.raw.name), .d (.sl Key.raw a4.raw.args), .d (.sl Key.part a4.parts)]] ∧ ds = [] ∧ nt = 229 := by
  unfold Rl62_23_0
  exact uN_k fun _ => uC_k fun _ _ _ => uI_k fun a1 _ => uC_k fun _ _ _ => uP_k fun _ => uC_k fun _ _ _ => uB_k fun a2 _ => uC_k fun _ _ _ => uI_k fun a3 _ => u0_k fun _ => uM_k fun _ _ _ => uPtL_k fun a4 _ => uE_k fun _ => uDe_k fun _ => .inr ⟨a1, a2, a3, a4, by subst_vars; exact ⟨rfl, rfl, rfl, rfl⟩⟩

theorem rl65_0_0 (vs : List (PV sig)) (m : Mem sig) (ds : List (FuncId × List (PV sig))) (nt : Nat) : (∀ (C : Tab) (ρ : Type) (K : Ex sig → St sig → Option ρ), Rl65_0_0 C ρ vs m ds nt K = none) ∨ ∃ (a1 : ByteArray) (a2 : Int), vs = [.ptr 0 0] ∧ m = [some [.d (.str a1), .d (.int .i64 a2)]] ∧ ds = [] ∧ nt = 102 := by
  unfold Rl65_0_0
  exact uN_k fun _ => uC_k fun _ _ _ => uP_k fun _ => u0_k fun _ => uM_k fun _ _ _ => uC_k fun _ _ _ => uStr_k fun a1 _ => uC_k fun _ _ _ => uI_k fun a2 _ => u0_k fun _ => uE_k fun _ => uDe_k fun _ => .inr ⟨a1, a2, by subst_vars; exact ⟨rfl, rfl, rfl, rfl⟩⟩

theorem rl69_2_0 (vs : List (PV sig)) (m : Mem sig) (ds : List (FuncId × List (PV sig))) (nt : Nat) : (∀ (C : Tab) (ρ : Type) (K : Ex sig → St sig → Option ρ), Rl69_2_0 C ρ vs m ds nt K = none) ∨ ∃ (a1 : List Tok) (a2 : Int) (a3 : Rw) (a4 : Rw), vs = [.ptr 0 0, .ptr 1 0, .ptr 2 0] ∧ m = [some [.d (.sl Key.tok a1), .d (.int .i64 a2)], some [.d (.int .i64 a3.op), .d (.str a3.name), .full Key.raw a3.args], some [.d (.int .i64 a4.op), .d (.str a4.name), .d (.sl Key.raw a4.args)]] ∧ ds = [] ∧ nt = 23 := by
  unfold Rl69_2_0
  exact uN_k fun _ => uC_k fun _ _ _ => uP_k fun _ => uC_k fun _ _ _ => uP_k fun _ => uC_k fun _ _ _ => uP_k fun _ => u0_k fun _ => uM_k fun _ _ _ => uC_k fun _ _ _ => uS_k fun a1 _ => uC_k fun _ _ _ => uI_k fun a2 _ => u0_k fun _ => uM_k fun _ _ _ => uRwL_k fun a3 _ => uM_k fun _ _ _ => uRwL_k fun a4 _ => uE_k fun _ => uDe_k fun _ => .inr ⟨a1, a2, a3, a4, by subst_vars; exact ⟨rfl, rfl, rfl, rfl⟩⟩

theorem rl70_20_0 (vs : List (PV sig)) (m : Mem sig) (ds : List (FuncId × List (PV sig))) (nt : Nat) : (∀ (C : Tab) (ρ : Type) (K : Ex sig → St sig → Option ρ), Rl70_20_0 C ρ vs m ds nt K = none) ∨ ∃ (a1 : Int) (a2 : List Rw) (a3 : Int) (a4 : Int) (a5 : Int), vs = [.d (.int .i64 a1), .ptr 0 0, .d (.sl Key.raw a2), .d (.int .i64 a3), .d (.int .i64 a4)] ∧ m = [some [.d (.int .i64 a5)]] ∧ ds = [] ∧ nt = 72 := by
  unfold Rl70_20_0
  exact uN_k fun _ => uC_k fun _ _ _ => uI_k fun a1 _ => uC_k fun _ _ _ => uP_k fun _ => uC_k fun _ _ _ => uS_k fun a2 _ => uC_k fun _ _ _ => uI_k fun a3 _ => uC_k fun _ _ _ => uI_k fun a4 _ => u0_k fun _ => uM_k fun _ _ _ => uC_k fun _ _ _ => uI_k fun a5 _ => u0_k fun _ => uE_k fun _ => uDe_k fun _ => .inr ⟨a1, a2, a3, a4, a5, by subst_vars; exact ⟨rfl, rfl, rfl, rfl⟩⟩

theorem rl83_1_0 (vs : List (PV sig)) (m : Mem sig) (ds : List (FuncId × List (PV sig))) (nt : Nat) : (∀ (C : Tab) (ρ : Type) (K : Ex sig → St sig → Option ρ), Rl83_1_0 C ρ vs m ds nt K = none) ∨ ∃ (a1 : ByteArray) (a2 : Int), vs = [.d (.str a1), .d (.int .i64 a2)] ∧ m = [] ∧ ds = [] ∧ nt = 18 := by
  unfold Rl83_1_0
  exact uN_k fun _ => uC_k fun _ _ _ => uStr_k fun a1 _ => uC_k fun _ _ _ => uI_k fun a2 _ => u0_k fun _ => uE_k fun _ => uDe_k fun _ => .inr ⟨a1, a2, by subst_vars; exact ⟨rfl, rfl, rfl, rfl⟩⟩

theorem rl86_2_0 (vs : List (PV sig)) (m : Mem sig) (ds : List (FuncId × List (PV sig))) (nt : Nat) : (∀ (C : Tab) (ρ : Type) (K : Ex sig → St sig → Option ρ), Rl86_2_0 C ρ vs m ds nt K = none) ∨ ∃ (a1 : Int) (a2 : ByteArray), vs = [.d (.int .i64 a1), .d (.str a2)] ∧ m = [] ∧ ds = [] ∧ nt = 23 := by
  unfold Rl86_2_0
  exact uN_k fun _ => uC_k fun _ _ _ => uI_k fun a1 _ => uC_k fun _ _ _ => uStr_k fun a2 _ => u0_k fun _ => uE_k fun _ => uDe_k fun _ => .inr ⟨a1, a2, by subst_vars; exact ⟨rfl, rfl, rfl, rfl⟩⟩

theorem rl92_4_0 (vs : List (PV sig)) (m : Mem sig) (ds : List (FuncId × List (PV sig))) (nt : Nat) : (∀ (C : Tab) (ρ : Type) (K : Ex sig → St sig → Option ρ), Rl92_4_0 C ρ vs m ds nt K = none) ∨ ∃ (a1 : ByteArray) (a2 : Int) (a3 : Int), vs = [.d (.str a1), .d (.int .i64 a2), .d (.int .i64 a3)] ∧ m = [] ∧ ds = [] ∧ nt = 32 := by
  unfold Rl92_4_0
  exact uN_k fun _ => uC_k fun _ _ _ => uStr_k fun a1 _ => uC_k fun _ _ _ => uI_k fun a2 _ => uC_k fun _ _ _ => uI_k fun a3 _ => u0_k fun _ => uE_k fun _ => uDe_k fun _ => .inr ⟨a1, a2, a3, by subst_vars; exact ⟨rfl, rfl, rfl, rfl⟩⟩

theorem rl98_2_0 (vs : List (PV sig)) (m : Mem sig) (ds : List (FuncId × List (PV sig))) (nt : Nat) : (∀ (C : Tab) (ρ : Type) (K : Ex sig → St sig → Option ρ), Rl98_2_0 C ρ vs m ds nt K = none) ∨ ∃ (a1 : ByteArray) (a2 : List ByteArray) (a3 : Int) (a4 : Int), vs = [.d (.str a1), .d (.sl Key.str a2), .d (.int .i64 a3), .d (.int .i64 a4)] ∧ m = [] ∧ ds = [] ∧ nt = 17 := by
  unfold Rl98_2_0
  exact uN_k fun _ => uC_k fun _ _ _ => uStr_k fun a1 _ => uC_k fun _ _ _ => uS_k fun a2 _ => uC_k fun _ _ _ => uI_k fun a3 _ => uC_k fun _ _ _ => uI_k fun a4 _ => u0_k fun _ => uE_k fun _ => uDe_k fun _ => .inr ⟨a1, a2, a3, a4, by subst_vars; exact ⟨rfl, rfl, rfl, rfl⟩⟩

theorem rl101_3_0 (vs : List (PV sig)) (m : Mem sig) (ds : List (FuncId × List (PV sig))) (nt : Nat) : (∀ (C : Tab) (ρ : Type) (K : Ex sig → St sig → Option ρ), Rl101_3_0 C ρ vs m ds nt K = none) ∨ ∃ (a1 : ByteArray) (a2 : List Pt) (a3 : Int) (a4 : Int), vs = [.d (.str a1), .d (.sl Key.part a2), .d (.int .i64 a3), .d (.int .i64 a4)] ∧ m = [] ∧ ds = [] ∧ nt = 23 := by
  unfold Rl101_3_0
  exact uN_k fun _ => uC_k fun _ _ _ => uStr_k fun a1 _ => uC_k fun _ _ _ => uS_k fun a2 _ => uC_k fun _ _ _ => uI_k fun a3 _ => uC_k fun _ _ _ => uI_k fun a4 _ => u0_k fun _ => uE_k fun _ => uDe_k fun _ => .inr ⟨a1, a2, a3, a4, by subst_vars; exact ⟨rfl, rfl, rfl, rfl⟩⟩

theorem rl106_2_0 (vs : List (PV sig)) (m : Mem sig) (ds : List (FuncId × List (PV sig))) (nt : Nat) : (∀ (C : Tab) (ρ : Type) (K : Ex sig → St sig → Option ρ), Rl106_2_0 C ρ vs m ds nt K = none) ∨ ∃ (a1 : Int) (a2 : Int) (a3 : ByteArray) (a4 : Int), vs = [.ptr 0 0, .d (.int .i64 a1), .d (.int .i64 a2)] ∧ m = [some [.d (.str a3), .d (.int .i64 a4)]] ∧ ds = [] ∧ nt = 42 := by
  unfold Rl106_2_0
  exact uN_k fun _ => uC_k fun _ _ _ => uP_k fun _ => uC_k fun _ _ _ => uI_k fun a1 _ => uC_k fun _ _ _ => uI_k fun a2 _ => u0_k fun _ => uM_k fun _ _ _ => uC_k fun _ _ _ => uStr_k fun a3 _ => uC_k fun _ _ _ => uI_k fun a4 _ => u0_k fun _ => uE_k fun _ => uDe_k fun _ => .inr ⟨a1, a2, a3, a4, by subst_vars; exact ⟨rfl, rfl, rfl, rfl⟩⟩

theorem rl126_2_0 (vs : List (PV sig)) (m : Mem sig) (ds : List (FuncId × List (PV sig))) (nt : Nat) : (∀ (C : Tab) (ρ : Type) (K : Ex sig → St sig → Option ρ), Rl126_2_0 C ρ vs m ds nt K = none) ∨ ∃ (a1 : List ByteArray) (a2 : ByteArray) (a3 : Int) (a4 : Int), vs = [.d (.sl Key.str a1), .d (.str a2), .d (.int .i64 a3), .d (.int .i64 a4)] ∧ m = [] ∧ ds = [] ∧ nt = 19 := by
  unfold Rl126_2_0
  exact uN_k fun _ => uC_k fun _ _ _ => uS_k fun a1 _ => uC_k fun _ _ _ => uStr_k fun a2 _ => uC_k fun _ _ _ => uI_k fun a3 _ => uC_k fun _ _ _ => uI_k fun a4 _ => u0_k fun _ => uE_k fun _ => uDe_k fun _ => .inr ⟨a1, a2, a3, a4, by subst_vars; exact ⟨rfl, rfl, rfl, rfl⟩⟩

theorem rl129_2_0 (vs : List (PV sig)) (m : Mem sig) (ds : List (FuncId × List (PV sig))) (nt : Nat) : (∀ (C : Tab) (ρ : Type) (K : Ex sig → St sig → Option ρ), Rl129_2_0 C ρ vs m ds nt K = none) ∨ ∃ (a1 : ByteArray) (a2 : List Pt) (a3 : List Tok) (a4 : Int), vs = [.ptr 0 0, .d (.str a1), .own Key.part a2] ∧ m = [some [.d (.sl Key.tok a3), .d (.int .i64 a4)]] ∧ ds = [] ∧ nt = 24 := by
  unfold Rl129_2_0
  exact uN_k fun _ => uC_k fun _ _ _ => uP_k fun _ => uC_k fun _ _ _ => uStr_k fun a1 _ => uC_k fun _ _ _ => uS_k fun a2 _ => u0_k fun _ => uM_k fun _ _ _ => uC_k fun _ _ _ => uS_k fun a3 _ => uC_k fun _ _ _ => uI_k fun a4 _ => u0_k fun _ => uE_k fun _ => uDe_k fun _ => .inr ⟨a1, a2, a3, a4, by subst_vars; exact ⟨rfl, rfl, rfl, rfl⟩⟩

theorem rl133_2_0 (vs : List (PV sig)) (m : Mem sig) (ds : List (FuncId × List (PV sig))) (nt : Nat) : (∀ (C : Tab) (ρ : Type) (K : Ex sig → St sig → Option ρ), Rl133_2_0 C ρ vs m ds nt K = none) ∨ ∃ (a1 : List Int) (a2 : Int) (a3 : Int) (a4 : Int), vs = [.d (.sl Key.int a1), .d (.int .i64 a2), .d (.int .i64 a3), .d (.int .i64 a4)] ∧ m = [] ∧ ds = [] ∧ nt = 19 := by
  unfold Rl133_2_0
  exact uN_k fun _ => uC_k fun _ _ _ => uS_k fun a1 _ => uC_k fun _ _ _ => uI_k fun a2 _ => uC_k fun _ _ _ => uI_k fun a3 _ => uC_k fun _ _ _ => uI_k fun a4 _ => u0_k fun _ => uE_k fun _ => uDe_k fun _ => .inr ⟨a1, a2, a3, a4, by subst_vars; exact ⟨rfl, rfl, rfl, rfl⟩⟩

end Go.Proofs.YtanfoijdfcnpoaaGreatDoor.Ev
