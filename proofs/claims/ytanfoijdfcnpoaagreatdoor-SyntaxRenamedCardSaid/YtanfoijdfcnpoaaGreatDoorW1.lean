/- This file proves that awake answers true. -/
import Derived.Test.YtanfoijdfcnpoaaGreatDoorG1
set_option linter.unusedVariables false
namespace Go.Proofs.YtanfoijdfcnpoaaGreatDoor.Ev

theorem awake_k (k : Nat) (ρ : Type) (K : Bool → Option ρ) : (Tabs (k + 100)).c11_0 ρ K = K true := by kernel_rfl

end Go.Proofs.YtanfoijdfcnpoaaGreatDoor.Ev
