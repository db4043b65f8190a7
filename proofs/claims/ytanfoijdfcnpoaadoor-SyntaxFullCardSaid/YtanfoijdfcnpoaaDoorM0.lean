/- This file proves what SyntaxFull answers; without any condition. -/
import Derived.Test.YtanfoijdfcnpoaaDoorW1
import Derived.Test.YtanfoijdfcnpoaaDoorR0
set_option linter.unusedVariables false
set_option linter.unusedSimpArgs false
namespace Go.Proofs.YtanfoijdfcnpoaaDoor.Ev

theorem full_0 (k : Nat) (ρ : Type) (K : Bool → Option ρ) : (Tabs (k + 1499 + 1)).c8_0 ρ 0 K = K true := by kernel_rfl
theorem full_1 (k : Nat) (ρ : Type) (K : Bool → Option ρ) : (Tabs (k + 1499 + 1)).c8_0 ρ 1 K = K true := by kernel_rfl
theorem full_2 (k : Nat) (ρ : Type) (K : Bool → Option ρ) : (Tabs (k + 1499 + 1)).c8_0 ρ 2 K = K true := by kernel_rfl

theorem full_mod (k : Nat) (ρ : Type) (n j : Int) (K : Bool → Option ρ) (hj : IntKind.wrap .i64 (Int.tmod (IntKind.wrap .u64 j) 3) = j) (h : IntKind.wrap .i64 (Int.tmod (IntKind.wrap .u64 n) 3) = j) (hr : (Tabs (k + 1)).c8_0 ρ j K = K true) : (Tabs (k + 1)).c8_0 ρ n K = K true := by
  rw [show (Tabs (k + 1)).c8_0 = Gc8_0 (Tabs k) from rfl] at hr ⊢
  rw [← hr]
  simp only [Gc8_0, h, hj]

theorem full_law (n : Int) : Evt fun k => ∀ (ρ : Type) K, (Tabs k).c8_0 ρ n K = K true := by
  refine ⟨1500, fun k hk ρ K => ?_⟩
  obtain ⟨m, rfl⟩ : ∃ m, k = m + 1499 + 1 := ⟨k - 1500, by omega⟩
  have hu : IntKind.wrap .u64 n = n % 18446744073709551616 := rfl
  have hr : IntKind.wrap .i64 (Int.tmod (IntKind.wrap .u64 n) 3) = 0 ∨ IntKind.wrap .i64 (Int.tmod (IntKind.wrap .u64 n) 3) = 1 ∨ IntKind.wrap .i64 (Int.tmod (IntKind.wrap .u64 n) 3) = 2 := by
    rw [Int.tmod_eq_emod_of_nonneg (by rw [hu]; omega), W_id (by omega) (by omega)]
    omega
  rcases hr with h | h | h
  · exact full_mod _ ρ n 0 K (by decide) h (full_0 m ρ K)
  · exact full_mod _ ρ n 1 K (by decide) h (full_1 m ρ K)
  · exact full_mod _ ρ n 2 K (by decide) h (full_2 m ρ K)

end Go.Proofs.YtanfoijdfcnpoaaDoor.Ev
