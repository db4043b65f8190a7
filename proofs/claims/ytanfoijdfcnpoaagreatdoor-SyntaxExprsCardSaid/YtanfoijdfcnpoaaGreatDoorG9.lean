/- This file proves that the tables of typed functions are sound; without any condition. -/
import Derived.Test.YtanfoijdfcnpoaaGreatDoorU1
import Derived.Test.YtanfoijdfcnpoaaGreatDoorG2
import Derived.Test.YtanfoijdfcnpoaaGreatDoorG3
import Derived.Test.YtanfoijdfcnpoaaGreatDoorG4
import Derived.Test.YtanfoijdfcnpoaaGreatDoorG5
import Derived.Test.YtanfoijdfcnpoaaGreatDoorG6
set_option linter.unusedVariables false
set_option linter.unusedSimpArgs false
namespace Go.Proofs.YtanfoijdfcnpoaaGreatDoor.Ev

theorem t3 (k : Nat) (args : List (PV sig)) (m : Mem sig) : (∀ ρ K, T3 (Tabs (k + 1)) ρ args m K = none) ∨ (∀ ρ K, T3 (Tabs (k + 1)) ρ args m K = evF Tryz.prog lay (T (Tabs k)) (LT (Tabs k)) hints dfT 3 args m K) ∨ ∃ r, CallOk Tryz.prog lay 3 args m r ∧ ∀ ρ K, T3 (Tabs (k + 1)) ρ args m K = K r := by
  rcases rc3_0 args m with h | ⟨a1, rfl, rfl⟩
  · exact .inl fun ρ K => h ..
  · exact .inr (.inl fun ρ K => (gc3_0 (Tabs k) ρ K a1).symm)

theorem t8 (k : Nat) (args : List (PV sig)) (m : Mem sig) : (∀ ρ K, T8 (Tabs (k + 1)) ρ args m K = none) ∨ (∀ ρ K, T8 (Tabs (k + 1)) ρ args m K = evF Tryz.prog lay (T (Tabs k)) (LT (Tabs k)) hints dfT 8 args m K) ∨ ∃ r, CallOk Tryz.prog lay 8 args m r ∧ ∀ ρ K, T8 (Tabs (k + 1)) ρ args m K = K r := by
  rcases rc8_0 args m with h | ⟨a1, rfl, rfl⟩
  · exact .inl fun ρ K => h ..
  · exact .inr (.inl fun ρ K => (gc8_0 (Tabs k) ρ K a1).symm)

theorem t9 (k : Nat) (args : List (PV sig)) (m : Mem sig) : (∀ ρ K, T9 (Tabs (k + 1)) ρ args m K = none) ∨ (∀ ρ K, T9 (Tabs (k + 1)) ρ args m K = evF Tryz.prog lay (T (Tabs k)) (LT (Tabs k)) hints dfT 9 args m K) ∨ ∃ r, CallOk Tryz.prog lay 9 args m r ∧ ∀ ρ K, T9 (Tabs (k + 1)) ρ args m K = K r := by
  rcases rc9_0 args m with h | ⟨a1, rfl, rfl⟩
  · exact .inl fun ρ K => h ..
  · exact .inr (.inl fun ρ K => (gc9_0 (Tabs k) ρ K a1).symm)

theorem t10 (k : Nat) (args : List (PV sig)) (m : Mem sig) : (∀ ρ K, T10 (Tabs (k + 1)) ρ args m K = none) ∨ (∀ ρ K, T10 (Tabs (k + 1)) ρ args m K = evF Tryz.prog lay (T (Tabs k)) (LT (Tabs k)) hints dfT 10 args m K) ∨ ∃ r, CallOk Tryz.prog lay 10 args m r ∧ ∀ ρ K, T10 (Tabs (k + 1)) ρ args m K = K r := by
  rcases rc10_0 args m with h | ⟨a1, a2, rfl, rfl⟩
  · exact .inl fun ρ K => h ..
  · obtain ⟨a1_0, a1_1, a1_2⟩ := a1; obtain ⟨a2_0, a2_1, a2_2⟩ := a2; exact .inr (.inl fun ρ K => (gc10_0 (Tabs k) ρ K ⟨a1_0, a1_1, a1_2⟩ ⟨a2_0, a2_1, a2_2⟩).symm)

theorem t11 (k : Nat) (args : List (PV sig)) (m : Mem sig) : (∀ ρ K, T11 (Tabs (k + 1)) ρ args m K = none) ∨ (∀ ρ K, T11 (Tabs (k + 1)) ρ args m K = evF Tryz.prog lay (T (Tabs k)) (LT (Tabs k)) hints dfT 11 args m K) ∨ ∃ r, CallOk Tryz.prog lay 11 args m r ∧ ∀ ρ K, T11 (Tabs (k + 1)) ρ args m K = K r := by
  rcases rc11_0 args m with h | ⟨rfl, rfl⟩
  · exact .inl fun ρ K => h ..
  · exact .inr (.inl fun ρ K => (gc11_0 (Tabs k) ρ K).symm)

theorem t13 (k : Nat) (args : List (PV sig)) (m : Mem sig) : (∀ ρ K, T13 (Tabs (k + 1)) ρ args m K = none) ∨ (∀ ρ K, T13 (Tabs (k + 1)) ρ args m K = evF Tryz.prog lay (T (Tabs k)) (LT (Tabs k)) hints dfT 13 args m K) ∨ ∃ r, CallOk Tryz.prog lay 13 args m r ∧ ∀ ρ K, T13 (Tabs (k + 1)) ρ args m K = K r := by
  rcases rc13_0 args m with h | ⟨a1, rfl, rfl⟩
  · exact .inl fun ρ K => h ..
  · obtain ⟨a1_0, a1_1, a1_2⟩ := a1; exact .inr (.inl fun ρ K => (gc13_0 (Tabs k) ρ K ⟨a1_0, a1_1, a1_2⟩).symm)

theorem t14 (k : Nat) (args : List (PV sig)) (m : Mem sig) : (∀ ρ K, T14 (Tabs (k + 1)) ρ args m K = none) ∨ (∀ ρ K, T14 (Tabs (k + 1)) ρ args m K = evF Tryz.prog lay (T (Tabs k)) (LT (Tabs k)) hints dfT 14 args m K) ∨ ∃ r, CallOk Tryz.prog lay 14 args m r ∧ ∀ ρ K, T14 (Tabs (k + 1)) ρ args m K = K r := by
  rcases rc14_0 args m with h | ⟨a1, rfl, rfl⟩
  · exact .inl fun ρ K => h ..
  · exact .inr (.inl fun ρ K => (gc14_0 (Tabs k) ρ K a1).symm)

theorem t28 (k : Nat) (args : List (PV sig)) (m : Mem sig) : (∀ ρ K, T28 (Tabs (k + 1)) ρ args m K = none) ∨ (∀ ρ K, T28 (Tabs (k + 1)) ρ args m K = evF Tryz.prog lay (T (Tabs k)) (LT (Tabs k)) hints dfT 28 args m K) ∨ ∃ r, CallOk Tryz.prog lay 28 args m r ∧ ∀ ρ K, T28 (Tabs (k + 1)) ρ args m K = K r := by
  rcases rc28_0 args m with h | ⟨a1, rfl, rfl⟩
  · exact .inl fun ρ K => h ..
  · exact .inr (.inl fun ρ K => (gc28_0 (Tabs k) ρ K a1).symm)

theorem t30 (k : Nat) (args : List (PV sig)) (m : Mem sig) : (∀ ρ K, T30 (Tabs (k + 1)) ρ args m K = none) ∨ (∀ ρ K, T30 (Tabs (k + 1)) ρ args m K = evF Tryz.prog lay (T (Tabs k)) (LT (Tabs k)) hints dfT 30 args m K) ∨ ∃ r, CallOk Tryz.prog lay 30 args m r ∧ ∀ ρ K, T30 (Tabs (k + 1)) ρ args m K = K r := by
  rcases rc30_0 args m with h | ⟨a1, a2, rfl, rfl⟩
  · exact .inl fun ρ K => h ..
  · exact .inr (.inl fun ρ K => (gc30_0 (Tabs k) ρ K a1 a2).symm)

theorem t31 (k : Nat) (args : List (PV sig)) (m : Mem sig) : (∀ ρ K, T31 (Tabs (k + 1)) ρ args m K = none) ∨ (∀ ρ K, T31 (Tabs (k + 1)) ρ args m K = evF Tryz.prog lay (T (Tabs k)) (LT (Tabs k)) hints dfT 31 args m K) ∨ ∃ r, CallOk Tryz.prog lay 31 args m r ∧ ∀ ρ K, T31 (Tabs (k + 1)) ρ args m K = K r := by
  rcases rc31_0 args m with h | ⟨a1, a2, rfl, rfl⟩
  · exact .inl fun ρ K => h ..
  · exact .inr (.inl fun ρ K => (gc31_0 (Tabs k) ρ K a1 a2).symm)

theorem t32 (k : Nat) (args : List (PV sig)) (m : Mem sig) : (∀ ρ K, T32 (Tabs (k + 1)) ρ args m K = none) ∨ (∀ ρ K, T32 (Tabs (k + 1)) ρ args m K = evF Tryz.prog lay (T (Tabs k)) (LT (Tabs k)) hints dfT 32 args m K) ∨ ∃ r, CallOk Tryz.prog lay 32 args m r ∧ ∀ ρ K, T32 (Tabs (k + 1)) ρ args m K = K r := by
  rcases rc32_0 args m with h | ⟨a1, a2, rfl, rfl⟩
  · exact .inl fun ρ K => h ..
  · exact .inr (.inl fun ρ K => (gc32_0 (Tabs k) ρ K a1 a2).symm)

theorem t33 (k : Nat) (args : List (PV sig)) (m : Mem sig) : (∀ ρ K, T33 (Tabs (k + 1)) ρ args m K = none) ∨ (∀ ρ K, T33 (Tabs (k + 1)) ρ args m K = evF Tryz.prog lay (T (Tabs k)) (LT (Tabs k)) hints dfT 33 args m K) ∨ ∃ r, CallOk Tryz.prog lay 33 args m r ∧ ∀ ρ K, T33 (Tabs (k + 1)) ρ args m K = K r := by
  rcases rc33_0 args m with h | ⟨a1, rfl, rfl⟩
  · exact .inl fun ρ K => h ..
  · obtain ⟨a1_0, a1_1, a1_2⟩ := a1; exact .inr (.inl fun ρ K => (gc33_0 (Tabs k) ρ K ⟨a1_0, a1_1, a1_2⟩).symm)

theorem t34 (k : Nat) (args : List (PV sig)) (m : Mem sig) : (∀ ρ K, T34 (Tabs (k + 1)) ρ args m K = none) ∨ (∀ ρ K, T34 (Tabs (k + 1)) ρ args m K = evF Tryz.prog lay (T (Tabs k)) (LT (Tabs k)) hints dfT 34 args m K) ∨ ∃ r, CallOk Tryz.prog lay 34 args m r ∧ ∀ ρ K, T34 (Tabs (k + 1)) ρ args m K = K r := by
  rcases rc34_0 args m with h | ⟨a1, rfl, rfl⟩
  · exact .inl fun ρ K => h ..
  · exact .inr (.inl fun ρ K => (gc34_0 (Tabs k) ρ K a1).symm)

theorem t35 (k : Nat) (args : List (PV sig)) (m : Mem sig) : (∀ ρ K, T35 (Tabs (k + 1)) ρ args m K = none) ∨ (∀ ρ K, T35 (Tabs (k + 1)) ρ args m K = evF Tryz.prog lay (T (Tabs k)) (LT (Tabs k)) hints dfT 35 args m K) ∨ ∃ r, CallOk Tryz.prog lay 35 args m r ∧ ∀ ρ K, T35 (Tabs (k + 1)) ρ args m K = K r := by
  rcases rc35_0 args m with h | ⟨a1, a2, a3, rfl, rfl⟩
  · exact .inl fun ρ K => h ..
  · exact .inr (.inl fun ρ K => (gc35_0 (Tabs k) ρ K a1 a2 a3).symm)

theorem t36 (k : Nat) (args : List (PV sig)) (m : Mem sig) : (∀ ρ K, T36 (Tabs (k + 1)) ρ args m K = none) ∨ (∀ ρ K, T36 (Tabs (k + 1)) ρ args m K = evF Tryz.prog lay (T (Tabs k)) (LT (Tabs k)) hints dfT 36 args m K) ∨ ∃ r, CallOk Tryz.prog lay 36 args m r ∧ ∀ ρ K, T36 (Tabs (k + 1)) ρ args m K = K r := by
  rcases rc36_0 args m with h | ⟨a1, a2, a3, rfl, rfl⟩
  · exact .inl fun ρ K => h ..
  · exact .inr (.inl fun ρ K => (gc36_0 (Tabs k) ρ K a1 a2 a3).symm)

theorem t37 (k : Nat) (args : List (PV sig)) (m : Mem sig) : (∀ ρ K, T37 (Tabs (k + 1)) ρ args m K = none) ∨ (∀ ρ K, T37 (Tabs (k + 1)) ρ args m K = evF Tryz.prog lay (T (Tabs k)) (LT (Tabs k)) hints dfT 37 args m K) ∨ ∃ r, CallOk Tryz.prog lay 37 args m r ∧ ∀ ρ K, T37 (Tabs (k + 1)) ρ args m K = K r := by
  rcases rc37_0 args m with h | ⟨a1, rfl, rfl⟩
  · exact .inl fun ρ K => h ..
  · obtain ⟨a1_0, a1_1, a1_2⟩ := a1; exact .inr (.inl fun ρ K => (gc37_0 (Tabs k) ρ K ⟨a1_0, a1_1, a1_2⟩).symm)

theorem t38 (k : Nat) (args : List (PV sig)) (m : Mem sig) : (∀ ρ K, T38 (Tabs (k + 1)) ρ args m K = none) ∨ (∀ ρ K, T38 (Tabs (k + 1)) ρ args m K = evF Tryz.prog lay (T (Tabs k)) (LT (Tabs k)) hints dfT 38 args m K) ∨ ∃ r, CallOk Tryz.prog lay 38 args m r ∧ ∀ ρ K, T38 (Tabs (k + 1)) ρ args m K = K r := by
  rcases rc38_0 args m with h | ⟨a1, rfl, rfl⟩
  · exact .inl fun ρ K => h ..
  · exact .inr (.inl fun ρ K => (gc38_0 (Tabs k) ρ K a1).symm)

theorem t42 (k : Nat) (args : List (PV sig)) (m : Mem sig) : (∀ ρ K, T42 (Tabs (k + 1)) ρ args m K = none) ∨ (∀ ρ K, T42 (Tabs (k + 1)) ρ args m K = evF Tryz.prog lay (T (Tabs k)) (LT (Tabs k)) hints dfT 42 args m K) ∨ ∃ r, CallOk Tryz.prog lay 42 args m r ∧ ∀ ρ K, T42 (Tabs (k + 1)) ρ args m K = K r := by
  rcases rc42_0 args m with h | ⟨a1, a2, rfl, rfl⟩
  · exact .inl fun ρ K => h ..
  · obtain ⟨a1_0, a1_1, a1_2⟩ := a1; exact .inr (.inl fun ρ K => (gc42_0 (Tabs k) ρ K ⟨a1_0, a1_1, a1_2⟩ a2).symm)

theorem t43 (k : Nat) (args : List (PV sig)) (m : Mem sig) : (∀ ρ K, T43 (Tabs (k + 1)) ρ args m K = none) ∨ (∀ ρ K, T43 (Tabs (k + 1)) ρ args m K = evF Tryz.prog lay (T (Tabs k)) (LT (Tabs k)) hints dfT 43 args m K) ∨ ∃ r, CallOk Tryz.prog lay 43 args m r ∧ ∀ ρ K, T43 (Tabs (k + 1)) ρ args m K = K r := by
  rcases rc43_0 args m with h | ⟨a1, a2, rfl, rfl⟩
  · exact .inl fun ρ K => h ..
  · obtain ⟨a1_0, a1_1, a1_2⟩ := a1; exact .inr (.inl fun ρ K => (gc43_0 (Tabs k) ρ K ⟨a1_0, a1_1, a1_2⟩ a2).symm)

theorem t44 (k : Nat) (args : List (PV sig)) (m : Mem sig) : (∀ ρ K, T44 (Tabs (k + 1)) ρ args m K = none) ∨ (∀ ρ K, T44 (Tabs (k + 1)) ρ args m K = evF Tryz.prog lay (T (Tabs k)) (LT (Tabs k)) hints dfT 44 args m K) ∨ ∃ r, CallOk Tryz.prog lay 44 args m r ∧ ∀ ρ K, T44 (Tabs (k + 1)) ρ args m K = K r := by
  rcases rc44_0 args m with h | ⟨a1, rfl, rfl⟩
  · exact .inl fun ρ K => h ..
  · exact .inr (.inl fun ρ K => (gc44_0 (Tabs k) ρ K a1).symm)

theorem t54 (k : Nat) (args : List (PV sig)) (m : Mem sig) : (∀ ρ K, T54 (Tabs (k + 1)) ρ args m K = none) ∨ (∀ ρ K, T54 (Tabs (k + 1)) ρ args m K = evF Tryz.prog lay (T (Tabs k)) (LT (Tabs k)) hints dfT 54 args m K) ∨ ∃ r, CallOk Tryz.prog lay 54 args m r ∧ ∀ ρ K, T54 (Tabs (k + 1)) ρ args m K = K r := by
  rcases rc54_0 args m with h | ⟨a1, rfl, rfl⟩
  · exact .inl fun ρ K => h ..
  · exact .inr (.inl fun ρ K => (gc54_0 (Tabs k) ρ K a1).symm)

theorem t57 (k : Nat) (args : List (PV sig)) (m : Mem sig) : (∀ ρ K, T57 (Tabs (k + 1)) ρ args m K = none) ∨ (∀ ρ K, T57 (Tabs (k + 1)) ρ args m K = evF Tryz.prog lay (T (Tabs k)) (LT (Tabs k)) hints dfT 57 args m K) ∨ ∃ r, CallOk Tryz.prog lay 57 args m r ∧ ∀ ρ K, T57 (Tabs (k + 1)) ρ args m K = K r := by
  rcases rc57_0 args m with h | ⟨a1, a2, rfl, rfl⟩
  · exact .inl fun ρ K => h ..
  · obtain ⟨a1_0, a1_1, a1_2⟩ := a1; exact .inr (.inl fun ρ K => (gc57_0 (Tabs k) ρ K ⟨a1_0, a1_1, a1_2⟩ a2).symm)

theorem t59 (k : Nat) (args : List (PV sig)) (m : Mem sig) : (∀ ρ K, T59 (Tabs (k + 1)) ρ args m K = none) ∨ (∀ ρ K, T59 (Tabs (k + 1)) ρ args m K = evF Tryz.prog lay (T (Tabs k)) (LT (Tabs k)) hints dfT 59 args m K) ∨ ∃ r, CallOk Tryz.prog lay 59 args m r ∧ ∀ ρ K, T59 (Tabs (k + 1)) ρ args m K = K r := by
  rcases rc59_0 args m with h | ⟨a1, rfl, rfl⟩
  · exact .inl fun ρ K => h ..
  · exact .inr (.inl fun ρ K => (gc59_0 (Tabs k) ρ K a1).symm)

theorem t65 (k : Nat) (args : List (PV sig)) (m : Mem sig) : (∀ ρ K, T65 (Tabs (k + 1)) ρ args m K = none) ∨ (∀ ρ K, T65 (Tabs (k + 1)) ρ args m K = evF Tryz.prog lay (T (Tabs k)) (LT (Tabs k)) hints dfT 65 args m K) ∨ ∃ r, CallOk Tryz.prog lay 65 args m r ∧ ∀ ρ K, T65 (Tabs (k + 1)) ρ args m K = K r := by
  rcases rc65_0 args m with h | ⟨a1, a2, rfl, rfl⟩
  · exact .inl fun ρ K => h ..
  · exact .inr (.inl fun ρ K => (gc65_0 (Tabs k) ρ K a1 a2).symm)

theorem t66 (k : Nat) (args : List (PV sig)) (m : Mem sig) : (∀ ρ K, T66 (Tabs (k + 1)) ρ args m K = none) ∨ (∀ ρ K, T66 (Tabs (k + 1)) ρ args m K = evF Tryz.prog lay (T (Tabs k)) (LT (Tabs k)) hints dfT 66 args m K) ∨ ∃ r, CallOk Tryz.prog lay 66 args m r ∧ ∀ ρ K, T66 (Tabs (k + 1)) ρ args m K = K r := by
  rcases rc66_0 args m with h | ⟨a1, rfl, rfl⟩
  · exact .inl fun ρ K => h ..
  · exact .inr (.inl fun ρ K => (gc66_0 (Tabs k) ρ K a1).symm)

theorem t67 (k : Nat) (args : List (PV sig)) (m : Mem sig) : (∀ ρ K, T67 (Tabs (k + 1)) ρ args m K = none) ∨ (∀ ρ K, T67 (Tabs (k + 1)) ρ args m K = evF Tryz.prog lay (T (Tabs k)) (LT (Tabs k)) hints dfT 67 args m K) ∨ ∃ r, CallOk Tryz.prog lay 67 args m r ∧ ∀ ρ K, T67 (Tabs (k + 1)) ρ args m K = K r := by
  rcases rc67_0 args m with h | ⟨a1, a2, a3, rfl, rfl⟩
  · exact .inl fun ρ K => h ..
  · exact .inr (.inl fun ρ K => (gc67_0 (Tabs k) ρ K a1 a2 a3).symm)

theorem t68 (k : Nat) (args : List (PV sig)) (m : Mem sig) : (∀ ρ K, T68 (Tabs (k + 1)) ρ args m K = none) ∨ (∀ ρ K, T68 (Tabs (k + 1)) ρ args m K = evF Tryz.prog lay (T (Tabs k)) (LT (Tabs k)) hints dfT 68 args m K) ∨ ∃ r, CallOk Tryz.prog lay 68 args m r ∧ ∀ ρ K, T68 (Tabs (k + 1)) ρ args m K = K r := by
  rcases rc68_0 args m with h | ⟨a1, a2, rfl, rfl⟩
  · exact .inl fun ρ K => h ..
  · exact .inr (.inl fun ρ K => (gc68_0 (Tabs k) ρ K a1 a2).symm)

theorem t69 (k : Nat) (args : List (PV sig)) (m : Mem sig) : (∀ ρ K, T69 (Tabs (k + 1)) ρ args m K = none) ∨ (∀ ρ K, T69 (Tabs (k + 1)) ρ args m K = evF Tryz.prog lay (T (Tabs k)) (LT (Tabs k)) hints dfT 69 args m K) ∨ ∃ r, CallOk Tryz.prog lay 69 args m r ∧ ∀ ρ K, T69 (Tabs (k + 1)) ρ args m K = K r := by
  rcases rc69_0 args m with h | ⟨a1, a2, rfl, rfl⟩
  · exact .inl fun ρ K => h ..
  · exact .inr (.inl fun ρ K => (gc69_0 (Tabs k) ρ K a1 a2).symm)

theorem t70 (k : Nat) (args : List (PV sig)) (m : Mem sig) : (∀ ρ K, T70 (Tabs (k + 1)) ρ args m K = none) ∨ (∀ ρ K, T70 (Tabs (k + 1)) ρ args m K = evF Tryz.prog lay (T (Tabs k)) (LT (Tabs k)) hints dfT 70 args m K) ∨ ∃ r, CallOk Tryz.prog lay 70 args m r ∧ ∀ ρ K, T70 (Tabs (k + 1)) ρ args m K = K r := by
  rcases rc70_0 args m with h | ⟨a1, a2, a3, rfl, rfl⟩
  · exact .inl fun ρ K => h ..
  · obtain ⟨a1_0, a1_1, a1_2⟩ := a1; exact .inr (.inl fun ρ K => (gc70_0 (Tabs k) ρ K ⟨a1_0, a1_1, a1_2⟩ a2 a3).symm)

theorem t71 (k : Nat) (args : List (PV sig)) (m : Mem sig) : (∀ ρ K, T71 (Tabs (k + 1)) ρ args m K = none) ∨ (∀ ρ K, T71 (Tabs (k + 1)) ρ args m K = evF Tryz.prog lay (T (Tabs k)) (LT (Tabs k)) hints dfT 71 args m K) ∨ ∃ r, CallOk Tryz.prog lay 71 args m r ∧ ∀ ρ K, T71 (Tabs (k + 1)) ρ args m K = K r := by
  rcases rc71_0 args m with h | ⟨a1, a2, rfl, rfl⟩
  · exact .inl fun ρ K => h ..
  · exact .inr (.inl fun ρ K => (gc71_0 (Tabs k) ρ K a1 a2).symm)

theorem t72 (k : Nat) (args : List (PV sig)) (m : Mem sig) : (∀ ρ K, T72 (Tabs (k + 1)) ρ args m K = none) ∨ (∀ ρ K, T72 (Tabs (k + 1)) ρ args m K = evF Tryz.prog lay (T (Tabs k)) (LT (Tabs k)) hints dfT 72 args m K) ∨ ∃ r, CallOk Tryz.prog lay 72 args m r ∧ ∀ ρ K, T72 (Tabs (k + 1)) ρ args m K = K r := by
  rcases rc72_0 args m with h | ⟨a1, a2, rfl, rfl⟩
  · exact .inl fun ρ K => h ..
  · exact .inr (.inl fun ρ K => (gc72_0 (Tabs k) ρ K a1 a2).symm)

theorem t73 (k : Nat) (args : List (PV sig)) (m : Mem sig) : (∀ ρ K, T73 (Tabs (k + 1)) ρ args m K = none) ∨ (∀ ρ K, T73 (Tabs (k + 1)) ρ args m K = evF Tryz.prog lay (T (Tabs k)) (LT (Tabs k)) hints dfT 73 args m K) ∨ ∃ r, CallOk Tryz.prog lay 73 args m r ∧ ∀ ρ K, T73 (Tabs (k + 1)) ρ args m K = K r := by
  rcases rc73_0 args m with h | ⟨a1, a2, a3, rfl, rfl⟩
  · exact .inl fun ρ K => h ..
  · exact .inr (.inl fun ρ K => (gc73_0 (Tabs k) ρ K a1 a2 a3).symm)

theorem t74 (k : Nat) (args : List (PV sig)) (m : Mem sig) : (∀ ρ K, T74 (Tabs (k + 1)) ρ args m K = none) ∨ (∀ ρ K, T74 (Tabs (k + 1)) ρ args m K = evF Tryz.prog lay (T (Tabs k)) (LT (Tabs k)) hints dfT 74 args m K) ∨ ∃ r, CallOk Tryz.prog lay 74 args m r ∧ ∀ ρ K, T74 (Tabs (k + 1)) ρ args m K = K r := by
  rcases rc74_0 args m with h | ⟨a1, a2, a3, rfl, rfl⟩
  · exact .inl fun ρ K => h ..
  · exact .inr (.inl fun ρ K => (gc74_0 (Tabs k) ρ K a1 a2 a3).symm)

theorem t75 (k : Nat) (args : List (PV sig)) (m : Mem sig) : (∀ ρ K, T75 (Tabs (k + 1)) ρ args m K = none) ∨ (∀ ρ K, T75 (Tabs (k + 1)) ρ args m K = evF Tryz.prog lay (T (Tabs k)) (LT (Tabs k)) hints dfT 75 args m K) ∨ ∃ r, CallOk Tryz.prog lay 75 args m r ∧ ∀ ρ K, T75 (Tabs (k + 1)) ρ args m K = K r := by
  rcases rc75_0 args m with h | ⟨a1, a2, a3, rfl, rfl⟩
  · exact .inl fun ρ K => h ..
  · exact .inr (.inl fun ρ K => (gc75_0 (Tabs k) ρ K a1 a2 a3).symm)

theorem t76 (k : Nat) (args : List (PV sig)) (m : Mem sig) : (∀ ρ K, T76 (Tabs (k + 1)) ρ args m K = none) ∨ (∀ ρ K, T76 (Tabs (k + 1)) ρ args m K = evF Tryz.prog lay (T (Tabs k)) (LT (Tabs k)) hints dfT 76 args m K) ∨ ∃ r, CallOk Tryz.prog lay 76 args m r ∧ ∀ ρ K, T76 (Tabs (k + 1)) ρ args m K = K r := by
  rcases rc76_0 args m with h | ⟨a1, a2, a3, a4, rfl, rfl⟩
  · exact .inl fun ρ K => h ..
  · exact .inr (.inl fun ρ K => (gc76_0 (Tabs k) ρ K a1 a2 a3 a4).symm)

theorem t77 (k : Nat) (args : List (PV sig)) (m : Mem sig) : (∀ ρ K, T77 (Tabs (k + 1)) ρ args m K = none) ∨ (∀ ρ K, T77 (Tabs (k + 1)) ρ args m K = evF Tryz.prog lay (T (Tabs k)) (LT (Tabs k)) hints dfT 77 args m K) ∨ ∃ r, CallOk Tryz.prog lay 77 args m r ∧ ∀ ρ K, T77 (Tabs (k + 1)) ρ args m K = K r := by
  rcases rc77_0 args m with h | ⟨a1, rfl, rfl⟩
  · exact .inl fun ρ K => h ..
  · exact .inr (.inl fun ρ K => (gc77_0 (Tabs k) ρ K a1).symm)

theorem t78 (k : Nat) (args : List (PV sig)) (m : Mem sig) : (∀ ρ K, T78 (Tabs (k + 1)) ρ args m K = none) ∨ (∀ ρ K, T78 (Tabs (k + 1)) ρ args m K = evF Tryz.prog lay (T (Tabs k)) (LT (Tabs k)) hints dfT 78 args m K) ∨ ∃ r, CallOk Tryz.prog lay 78 args m r ∧ ∀ ρ K, T78 (Tabs (k + 1)) ρ args m K = K r := by
  rcases rc78_0 args m with h | ⟨a1, a2, rfl, rfl⟩
  · exact .inl fun ρ K => h ..
  · exact .inr (.inl fun ρ K => (gc78_0 (Tabs k) ρ K a1 a2).symm)

theorem t82 (k : Nat) (args : List (PV sig)) (m : Mem sig) : (∀ ρ K, T82 (Tabs (k + 1)) ρ args m K = none) ∨ (∀ ρ K, T82 (Tabs (k + 1)) ρ args m K = evF Tryz.prog lay (T (Tabs k)) (LT (Tabs k)) hints dfT 82 args m K) ∨ ∃ r, CallOk Tryz.prog lay 82 args m r ∧ ∀ ρ K, T82 (Tabs (k + 1)) ρ args m K = K r := by
  rcases rc82_0 args m with h | ⟨a1, rfl, rfl⟩
  · exact .inl fun ρ K => h ..
  · exact .inr (.inl fun ρ K => (gc82_0 (Tabs k) ρ K a1).symm)

theorem t83 (k : Nat) (args : List (PV sig)) (m : Mem sig) : (∀ ρ K, T83 (Tabs (k + 1)) ρ args m K = none) ∨ (∀ ρ K, T83 (Tabs (k + 1)) ρ args m K = evF Tryz.prog lay (T (Tabs k)) (LT (Tabs k)) hints dfT 83 args m K) ∨ ∃ r, CallOk Tryz.prog lay 83 args m r ∧ ∀ ρ K, T83 (Tabs (k + 1)) ρ args m K = K r := by
  rcases rc83_0 args m with h | ⟨a1, a2, rfl, rfl⟩
  · exact .inl fun ρ K => h ..
  · exact .inr (.inl fun ρ K => (gc83_0 (Tabs k) ρ K a1 a2).symm)

theorem t89 (k : Nat) (args : List (PV sig)) (m : Mem sig) : (∀ ρ K, T89 (Tabs (k + 1)) ρ args m K = none) ∨ (∀ ρ K, T89 (Tabs (k + 1)) ρ args m K = evF Tryz.prog lay (T (Tabs k)) (LT (Tabs k)) hints dfT 89 args m K) ∨ ∃ r, CallOk Tryz.prog lay 89 args m r ∧ ∀ ρ K, T89 (Tabs (k + 1)) ρ args m K = K r := by
  rcases rc89_0 args m with h | ⟨a1, a2, a3, rfl, rfl⟩
  · exact .inl fun ρ K => h ..
  · exact .inr (.inl fun ρ K => (gc89_0 (Tabs k) ρ K a1 a2 a3).symm)

theorem t90 (k : Nat) (args : List (PV sig)) (m : Mem sig) : (∀ ρ K, T90 (Tabs (k + 1)) ρ args m K = none) ∨ (∀ ρ K, T90 (Tabs (k + 1)) ρ args m K = evF Tryz.prog lay (T (Tabs k)) (LT (Tabs k)) hints dfT 90 args m K) ∨ ∃ r, CallOk Tryz.prog lay 90 args m r ∧ ∀ ρ K, T90 (Tabs (k + 1)) ρ args m K = K r := by
  rcases rc90_0 args m with h | ⟨a1, a2, a3, a4, rfl, rfl⟩
  · exact .inl fun ρ K => h ..
  · exact .inr (.inl fun ρ K => (gc90_0 (Tabs k) ρ K a1 a2 a3 a4).symm)

theorem t92 (k : Nat) (args : List (PV sig)) (m : Mem sig) : (∀ ρ K, T92 (Tabs (k + 1)) ρ args m K = none) ∨ (∀ ρ K, T92 (Tabs (k + 1)) ρ args m K = evF Tryz.prog lay (T (Tabs k)) (LT (Tabs k)) hints dfT 92 args m K) ∨ ∃ r, CallOk Tryz.prog lay 92 args m r ∧ ∀ ρ K, T92 (Tabs (k + 1)) ρ args m K = K r := by
  unfold T92
  cases hc : Nat.beq (fnId (args.getD 1 .any)) 93 with
  | true =>
    simp only [cond_true]
    rcases rc92_0 args m with h | ⟨a1, rfl, rfl⟩
    · exact .inl fun ρ K => h ..
    · exact .inr (.inl fun ρ K => (gc92_0 (Tabs k) ρ K a1).symm)
  | false =>
    simp only [cond_false]
    cases hc : Nat.beq (fnId (args.getD 1 .any)) 107 with
    | true =>
      simp only [cond_true]
      rcases rc92_1 args m with h | ⟨a1, rfl, rfl⟩
      · exact .inl fun ρ K => h ..
      · exact .inr (.inl fun ρ K => (gc92_1 (Tabs k) ρ K a1).symm)
    | false =>
      simp only [cond_false]
      first | exact .inl fun _ _ => rfl | exact .inl fun _ _ => trivial

theorem t93 (k : Nat) (args : List (PV sig)) (m : Mem sig) : (∀ ρ K, T93 (Tabs (k + 1)) ρ args m K = none) ∨ (∀ ρ K, T93 (Tabs (k + 1)) ρ args m K = evF Tryz.prog lay (T (Tabs k)) (LT (Tabs k)) hints dfT 93 args m K) ∨ ∃ r, CallOk Tryz.prog lay 93 args m r ∧ ∀ ρ K, T93 (Tabs (k + 1)) ρ args m K = K r := by
  rcases rc93_0 args m with h | ⟨a1, rfl, rfl⟩
  · exact .inl fun ρ K => h ..
  · exact .inr (.inl fun ρ K => (gc93_0 (Tabs k) ρ K a1).symm)

theorem t94 (k : Nat) (args : List (PV sig)) (m : Mem sig) : (∀ ρ K, T94 (Tabs (k + 1)) ρ args m K = none) ∨ (∀ ρ K, T94 (Tabs (k + 1)) ρ args m K = evF Tryz.prog lay (T (Tabs k)) (LT (Tabs k)) hints dfT 94 args m K) ∨ ∃ r, CallOk Tryz.prog lay 94 args m r ∧ ∀ ρ K, T94 (Tabs (k + 1)) ρ args m K = K r := by
  rcases rc94_0 args m with h | ⟨a1, a2, rfl, rfl⟩
  · exact .inl fun ρ K => h ..
  · exact .inr (.inl fun ρ K => (gc94_0 (Tabs k) ρ K a1 a2).symm)

theorem t95 (k : Nat) (args : List (PV sig)) (m : Mem sig) : (∀ ρ K, T95 (Tabs (k + 1)) ρ args m K = none) ∨ (∀ ρ K, T95 (Tabs (k + 1)) ρ args m K = evF Tryz.prog lay (T (Tabs k)) (LT (Tabs k)) hints dfT 95 args m K) ∨ ∃ r, CallOk Tryz.prog lay 95 args m r ∧ ∀ ρ K, T95 (Tabs (k + 1)) ρ args m K = K r := by
  rcases rc95_0 args m with h | ⟨a1, rfl, rfl⟩
  · exact .inl fun ρ K => h ..
  · exact (told95 a1).imp (fun h ρ K => h ρ K) fun ⟨r, h1, h2⟩ => .inr ⟨r, h1, fun ρ K => h2 ρ K⟩

theorem t97 (k : Nat) (args : List (PV sig)) (m : Mem sig) : (∀ ρ K, T97 (Tabs (k + 1)) ρ args m K = none) ∨ (∀ ρ K, T97 (Tabs (k + 1)) ρ args m K = evF Tryz.prog lay (T (Tabs k)) (LT (Tabs k)) hints dfT 97 args m K) ∨ ∃ r, CallOk Tryz.prog lay 97 args m r ∧ ∀ ρ K, T97 (Tabs (k + 1)) ρ args m K = K r := by
  rcases rc97_0 args m with h | ⟨a1, rfl, rfl⟩
  · exact .inl fun ρ K => h ..
  · exact .inr (.inl fun ρ K => (gc97_0 (Tabs k) ρ K a1).symm)

theorem t102 (k : Nat) (args : List (PV sig)) (m : Mem sig) : (∀ ρ K, T102 (Tabs (k + 1)) ρ args m K = none) ∨ (∀ ρ K, T102 (Tabs (k + 1)) ρ args m K = evF Tryz.prog lay (T (Tabs k)) (LT (Tabs k)) hints dfT 102 args m K) ∨ ∃ r, CallOk Tryz.prog lay 102 args m r ∧ ∀ ρ K, T102 (Tabs (k + 1)) ρ args m K = K r := by
  rcases rc102_0 args m with h | ⟨a1, a2, a3, rfl, rfl⟩
  · exact .inl fun ρ K => h ..
  · exact .inr (.inl fun ρ K => (gc102_0 (Tabs k) ρ K a1 a2 a3).symm)

theorem t103 (k : Nat) (args : List (PV sig)) (m : Mem sig) : (∀ ρ K, T103 (Tabs (k + 1)) ρ args m K = none) ∨ (∀ ρ K, T103 (Tabs (k + 1)) ρ args m K = evF Tryz.prog lay (T (Tabs k)) (LT (Tabs k)) hints dfT 103 args m K) ∨ ∃ r, CallOk Tryz.prog lay 103 args m r ∧ ∀ ρ K, T103 (Tabs (k + 1)) ρ args m K = K r := by
  rcases rc103_0 args m with h | ⟨a1, a2, rfl, rfl⟩
  · exact .inl fun ρ K => h ..
  · exact (told103 a1 a2).imp (fun h ρ K => h ρ K) fun ⟨r, h1, h2⟩ => .inr ⟨r, h1, fun ρ K => h2 ρ K⟩

theorem t104 (k : Nat) (args : List (PV sig)) (m : Mem sig) : (∀ ρ K, T104 (Tabs (k + 1)) ρ args m K = none) ∨ (∀ ρ K, T104 (Tabs (k + 1)) ρ args m K = evF Tryz.prog lay (T (Tabs k)) (LT (Tabs k)) hints dfT 104 args m K) ∨ ∃ r, CallOk Tryz.prog lay 104 args m r ∧ ∀ ρ K, T104 (Tabs (k + 1)) ρ args m K = K r := by
  rcases rc104_0 args m with h | ⟨a1, a2, a3, rfl, rfl⟩
  · exact .inl fun ρ K => h ..
  · exact .inr (.inl fun ρ K => (gc104_0 (Tabs k) ρ K a1 a2 a3).symm)

theorem t105 (k : Nat) (args : List (PV sig)) (m : Mem sig) : (∀ ρ K, T105 (Tabs (k + 1)) ρ args m K = none) ∨ (∀ ρ K, T105 (Tabs (k + 1)) ρ args m K = evF Tryz.prog lay (T (Tabs k)) (LT (Tabs k)) hints dfT 105 args m K) ∨ ∃ r, CallOk Tryz.prog lay 105 args m r ∧ ∀ ρ K, T105 (Tabs (k + 1)) ρ args m K = K r := by
  rcases rc105_0 args m with h | ⟨a1, a2, rfl, rfl⟩
  · exact .inl fun ρ K => h ..
  · exact .inr (.inl fun ρ K => (gc105_0 (Tabs k) ρ K a1 a2).symm)

theorem t106 (k : Nat) (args : List (PV sig)) (m : Mem sig) : (∀ ρ K, T106 (Tabs (k + 1)) ρ args m K = none) ∨ (∀ ρ K, T106 (Tabs (k + 1)) ρ args m K = evF Tryz.prog lay (T (Tabs k)) (LT (Tabs k)) hints dfT 106 args m K) ∨ ∃ r, CallOk Tryz.prog lay 106 args m r ∧ ∀ ρ K, T106 (Tabs (k + 1)) ρ args m K = K r := by
  rcases rc106_0 args m with h | ⟨a1, a2, a3, rfl, rfl⟩
  · exact .inl fun ρ K => h ..
  · exact .inr (.inl fun ρ K => (gc106_0 (Tabs k) ρ K a1 a2 a3).symm)

theorem t107 (k : Nat) (args : List (PV sig)) (m : Mem sig) : (∀ ρ K, T107 (Tabs (k + 1)) ρ args m K = none) ∨ (∀ ρ K, T107 (Tabs (k + 1)) ρ args m K = evF Tryz.prog lay (T (Tabs k)) (LT (Tabs k)) hints dfT 107 args m K) ∨ ∃ r, CallOk Tryz.prog lay 107 args m r ∧ ∀ ρ K, T107 (Tabs (k + 1)) ρ args m K = K r := by
  rcases rc107_0 args m with h | ⟨a1, rfl, rfl⟩
  · exact .inl fun ρ K => h ..
  · exact .inr (.inl fun ρ K => (gc107_0 (Tabs k) ρ K a1).symm)

theorem t108 (k : Nat) (args : List (PV sig)) (m : Mem sig) : (∀ ρ K, T108 (Tabs (k + 1)) ρ args m K = none) ∨ (∀ ρ K, T108 (Tabs (k + 1)) ρ args m K = evF Tryz.prog lay (T (Tabs k)) (LT (Tabs k)) hints dfT 108 args m K) ∨ ∃ r, CallOk Tryz.prog lay 108 args m r ∧ ∀ ρ K, T108 (Tabs (k + 1)) ρ args m K = K r := by
  rcases rc108_0 args m with h | ⟨a1, a2, rfl, rfl⟩
  · exact .inl fun ρ K => h ..
  · exact .inr (.inl fun ρ K => (gc108_0 (Tabs k) ρ K a1 a2).symm)

theorem t109 (k : Nat) (args : List (PV sig)) (m : Mem sig) : (∀ ρ K, T109 (Tabs (k + 1)) ρ args m K = none) ∨ (∀ ρ K, T109 (Tabs (k + 1)) ρ args m K = evF Tryz.prog lay (T (Tabs k)) (LT (Tabs k)) hints dfT 109 args m K) ∨ ∃ r, CallOk Tryz.prog lay 109 args m r ∧ ∀ ρ K, T109 (Tabs (k + 1)) ρ args m K = K r := by
  rcases rc109_0 args m with h | ⟨a1, rfl, rfl⟩
  · exact .inl fun ρ K => h ..
  · exact .inr (.inl fun ρ K => (gc109_0 (Tabs k) ρ K a1).symm)

theorem t110 (k : Nat) (args : List (PV sig)) (m : Mem sig) : (∀ ρ K, T110 (Tabs (k + 1)) ρ args m K = none) ∨ (∀ ρ K, T110 (Tabs (k + 1)) ρ args m K = evF Tryz.prog lay (T (Tabs k)) (LT (Tabs k)) hints dfT 110 args m K) ∨ ∃ r, CallOk Tryz.prog lay 110 args m r ∧ ∀ ρ K, T110 (Tabs (k + 1)) ρ args m K = K r := by
  rcases rc110_0 args m with h | ⟨a1, a2, rfl, rfl⟩
  · exact .inl fun ρ K => h ..
  · exact .inr (.inl fun ρ K => (gc110_0 (Tabs k) ρ K a1 a2).symm)

theorem t111 (k : Nat) (args : List (PV sig)) (m : Mem sig) : (∀ ρ K, T111 (Tabs (k + 1)) ρ args m K = none) ∨ (∀ ρ K, T111 (Tabs (k + 1)) ρ args m K = evF Tryz.prog lay (T (Tabs k)) (LT (Tabs k)) hints dfT 111 args m K) ∨ ∃ r, CallOk Tryz.prog lay 111 args m r ∧ ∀ ρ K, T111 (Tabs (k + 1)) ρ args m K = K r := by
  rcases rc111_0 args m with h | ⟨a1, rfl, rfl⟩
  · exact .inl fun ρ K => h ..
  · exact .inr (.inl fun ρ K => (gc111_0 (Tabs k) ρ K a1).symm)

theorem t112 (k : Nat) (args : List (PV sig)) (m : Mem sig) : (∀ ρ K, T112 (Tabs (k + 1)) ρ args m K = none) ∨ (∀ ρ K, T112 (Tabs (k + 1)) ρ args m K = evF Tryz.prog lay (T (Tabs k)) (LT (Tabs k)) hints dfT 112 args m K) ∨ ∃ r, CallOk Tryz.prog lay 112 args m r ∧ ∀ ρ K, T112 (Tabs (k + 1)) ρ args m K = K r := by
  rcases rc112_0 args m with h | ⟨a1, a2, rfl, rfl⟩
  · exact .inl fun ρ K => h ..
  · exact .inr (.inl fun ρ K => (gc112_0 (Tabs k) ρ K a1 a2).symm)

theorem t113 (k : Nat) (args : List (PV sig)) (m : Mem sig) : (∀ ρ K, T113 (Tabs (k + 1)) ρ args m K = none) ∨ (∀ ρ K, T113 (Tabs (k + 1)) ρ args m K = evF Tryz.prog lay (T (Tabs k)) (LT (Tabs k)) hints dfT 113 args m K) ∨ ∃ r, CallOk Tryz.prog lay 113 args m r ∧ ∀ ρ K, T113 (Tabs (k + 1)) ρ args m K = K r := by
  rcases rc113_0 args m with h | ⟨a1, a2, rfl, rfl⟩
  · exact .inl fun ρ K => h ..
  · exact .inr (.inl fun ρ K => (gc113_0 (Tabs k) ρ K a1 a2).symm)

theorem t114 (k : Nat) (args : List (PV sig)) (m : Mem sig) : (∀ ρ K, T114 (Tabs (k + 1)) ρ args m K = none) ∨ (∀ ρ K, T114 (Tabs (k + 1)) ρ args m K = evF Tryz.prog lay (T (Tabs k)) (LT (Tabs k)) hints dfT 114 args m K) ∨ ∃ r, CallOk Tryz.prog lay 114 args m r ∧ ∀ ρ K, T114 (Tabs (k + 1)) ρ args m K = K r := by
  rcases rc114_0 args m with h | ⟨a1, a2, rfl, rfl⟩
  · exact .inl fun ρ K => h ..
  · exact .inr (.inl fun ρ K => (gc114_0 (Tabs k) ρ K a1 a2).symm)

theorem t115 (k : Nat) (args : List (PV sig)) (m : Mem sig) : (∀ ρ K, T115 (Tabs (k + 1)) ρ args m K = none) ∨ (∀ ρ K, T115 (Tabs (k + 1)) ρ args m K = evF Tryz.prog lay (T (Tabs k)) (LT (Tabs k)) hints dfT 115 args m K) ∨ ∃ r, CallOk Tryz.prog lay 115 args m r ∧ ∀ ρ K, T115 (Tabs (k + 1)) ρ args m K = K r := by
  rcases rc115_0 args m with h | ⟨a1, a2, rfl, rfl⟩
  · exact .inl fun ρ K => h ..
  · exact .inr (.inl fun ρ K => (gc115_0 (Tabs k) ρ K a1 a2).symm)

theorem t116 (k : Nat) (args : List (PV sig)) (m : Mem sig) : (∀ ρ K, T116 (Tabs (k + 1)) ρ args m K = none) ∨ (∀ ρ K, T116 (Tabs (k + 1)) ρ args m K = evF Tryz.prog lay (T (Tabs k)) (LT (Tabs k)) hints dfT 116 args m K) ∨ ∃ r, CallOk Tryz.prog lay 116 args m r ∧ ∀ ρ K, T116 (Tabs (k + 1)) ρ args m K = K r := by
  rcases rc116_0 args m with h | ⟨a1, a2, a3, rfl, rfl⟩
  · exact .inl fun ρ K => h ..
  · exact .inr (.inl fun ρ K => (gc116_0 (Tabs k) ρ K a1 a2 a3).symm)

theorem t117 (k : Nat) (args : List (PV sig)) (m : Mem sig) : (∀ ρ K, T117 (Tabs (k + 1)) ρ args m K = none) ∨ (∀ ρ K, T117 (Tabs (k + 1)) ρ args m K = evF Tryz.prog lay (T (Tabs k)) (LT (Tabs k)) hints dfT 117 args m K) ∨ ∃ r, CallOk Tryz.prog lay 117 args m r ∧ ∀ ρ K, T117 (Tabs (k + 1)) ρ args m K = K r := by
  rcases rc117_0 args m with h | ⟨a1, a2, rfl, rfl⟩
  · exact .inl fun ρ K => h ..
  · exact .inr (.inl fun ρ K => (gc117_0 (Tabs k) ρ K a1 a2).symm)

theorem t118 (k : Nat) (args : List (PV sig)) (m : Mem sig) : (∀ ρ K, T118 (Tabs (k + 1)) ρ args m K = none) ∨ (∀ ρ K, T118 (Tabs (k + 1)) ρ args m K = evF Tryz.prog lay (T (Tabs k)) (LT (Tabs k)) hints dfT 118 args m K) ∨ ∃ r, CallOk Tryz.prog lay 118 args m r ∧ ∀ ρ K, T118 (Tabs (k + 1)) ρ args m K = K r := by
  rcases rc118_0 args m with h | ⟨a1, a2, a3, rfl, rfl⟩
  · exact .inl fun ρ K => h ..
  · exact .inr (.inl fun ρ K => (gc118_0 (Tabs k) ρ K a1 a2 a3).symm)

theorem t119 (k : Nat) (args : List (PV sig)) (m : Mem sig) : (∀ ρ K, T119 (Tabs (k + 1)) ρ args m K = none) ∨ (∀ ρ K, T119 (Tabs (k + 1)) ρ args m K = evF Tryz.prog lay (T (Tabs k)) (LT (Tabs k)) hints dfT 119 args m K) ∨ ∃ r, CallOk Tryz.prog lay 119 args m r ∧ ∀ ρ K, T119 (Tabs (k + 1)) ρ args m K = K r := by
  rcases rc119_0 args m with h | ⟨a1, a2, rfl, rfl⟩
  · exact .inl fun ρ K => h ..
  · exact .inr (.inl fun ρ K => (gc119_0 (Tabs k) ρ K a1 a2).symm)

theorem t120 (k : Nat) (args : List (PV sig)) (m : Mem sig) : (∀ ρ K, T120 (Tabs (k + 1)) ρ args m K = none) ∨ (∀ ρ K, T120 (Tabs (k + 1)) ρ args m K = evF Tryz.prog lay (T (Tabs k)) (LT (Tabs k)) hints dfT 120 args m K) ∨ ∃ r, CallOk Tryz.prog lay 120 args m r ∧ ∀ ρ K, T120 (Tabs (k + 1)) ρ args m K = K r := by
  rcases rc120_0 args m with h | ⟨a1, a2, rfl, rfl⟩
  · exact .inl fun ρ K => h ..
  · exact .inr (.inl fun ρ K => (gc120_0 (Tabs k) ρ K a1 a2).symm)

theorem t121 (k : Nat) (args : List (PV sig)) (m : Mem sig) : (∀ ρ K, T121 (Tabs (k + 1)) ρ args m K = none) ∨ (∀ ρ K, T121 (Tabs (k + 1)) ρ args m K = evF Tryz.prog lay (T (Tabs k)) (LT (Tabs k)) hints dfT 121 args m K) ∨ ∃ r, CallOk Tryz.prog lay 121 args m r ∧ ∀ ρ K, T121 (Tabs (k + 1)) ρ args m K = K r := by
  rcases rc121_0 args m with h | ⟨a1, a2, rfl, rfl⟩
  · exact .inl fun ρ K => h ..
  · exact .inr (.inl fun ρ K => (gc121_0 (Tabs k) ρ K a1 a2).symm)

theorem t122 (k : Nat) (args : List (PV sig)) (m : Mem sig) : (∀ ρ K, T122 (Tabs (k + 1)) ρ args m K = none) ∨ (∀ ρ K, T122 (Tabs (k + 1)) ρ args m K = evF Tryz.prog lay (T (Tabs k)) (LT (Tabs k)) hints dfT 122 args m K) ∨ ∃ r, CallOk Tryz.prog lay 122 args m r ∧ ∀ ρ K, T122 (Tabs (k + 1)) ρ args m K = K r := by
  rcases rc122_0 args m with h | ⟨a1, rfl, rfl⟩
  · exact .inl fun ρ K => h ..
  · exact .inr (.inl fun ρ K => (gc122_0 (Tabs k) ρ K a1).symm)

theorem t123 (k : Nat) (args : List (PV sig)) (m : Mem sig) : (∀ ρ K, T123 (Tabs (k + 1)) ρ args m K = none) ∨ (∀ ρ K, T123 (Tabs (k + 1)) ρ args m K = evF Tryz.prog lay (T (Tabs k)) (LT (Tabs k)) hints dfT 123 args m K) ∨ ∃ r, CallOk Tryz.prog lay 123 args m r ∧ ∀ ρ K, T123 (Tabs (k + 1)) ρ args m K = K r := by
  rcases rc123_0 args m with h | ⟨a1, a2, rfl, rfl⟩
  · exact .inl fun ρ K => h ..
  · exact .inr (.inl fun ρ K => (gc123_0 (Tabs k) ρ K a1 a2).symm)

theorem t124 (k : Nat) (args : List (PV sig)) (m : Mem sig) : (∀ ρ K, T124 (Tabs (k + 1)) ρ args m K = none) ∨ (∀ ρ K, T124 (Tabs (k + 1)) ρ args m K = evF Tryz.prog lay (T (Tabs k)) (LT (Tabs k)) hints dfT 124 args m K) ∨ ∃ r, CallOk Tryz.prog lay 124 args m r ∧ ∀ ρ K, T124 (Tabs (k + 1)) ρ args m K = K r := by
  rcases rc124_0 args m with h | ⟨a1, a2, a3, rfl, rfl⟩
  · exact .inl fun ρ K => h ..
  · exact .inr (.inl fun ρ K => (gc124_0 (Tabs k) ρ K a1 a2 a3).symm)

theorem t125 (k : Nat) (args : List (PV sig)) (m : Mem sig) : (∀ ρ K, T125 (Tabs (k + 1)) ρ args m K = none) ∨ (∀ ρ K, T125 (Tabs (k + 1)) ρ args m K = evF Tryz.prog lay (T (Tabs k)) (LT (Tabs k)) hints dfT 125 args m K) ∨ ∃ r, CallOk Tryz.prog lay 125 args m r ∧ ∀ ρ K, T125 (Tabs (k + 1)) ρ args m K = K r := by
  rcases rc125_0 args m with h | ⟨a1, a2, a3, rfl, rfl⟩
  · exact .inl fun ρ K => h ..
  · exact .inr (.inl fun ρ K => (gc125_0 (Tabs k) ρ K a1 a2 a3).symm)

theorem t126 (k : Nat) (args : List (PV sig)) (m : Mem sig) : (∀ ρ K, T126 (Tabs (k + 1)) ρ args m K = none) ∨ (∀ ρ K, T126 (Tabs (k + 1)) ρ args m K = evF Tryz.prog lay (T (Tabs k)) (LT (Tabs k)) hints dfT 126 args m K) ∨ ∃ r, CallOk Tryz.prog lay 126 args m r ∧ ∀ ρ K, T126 (Tabs (k + 1)) ρ args m K = K r := by
  rcases rc126_0 args m with h | ⟨a1, a2, rfl, rfl⟩
  · exact .inl fun ρ K => h ..
  · exact .inr (.inl fun ρ K => (gc126_0 (Tabs k) ρ K a1 a2).symm)

theorem t127 (k : Nat) (args : List (PV sig)) (m : Mem sig) : (∀ ρ K, T127 (Tabs (k + 1)) ρ args m K = none) ∨ (∀ ρ K, T127 (Tabs (k + 1)) ρ args m K = evF Tryz.prog lay (T (Tabs k)) (LT (Tabs k)) hints dfT 127 args m K) ∨ ∃ r, CallOk Tryz.prog lay 127 args m r ∧ ∀ ρ K, T127 (Tabs (k + 1)) ρ args m K = K r := by
  rcases rc127_0 args m with h | ⟨a1, rfl, rfl⟩
  · exact .inl fun ρ K => h ..
  · exact .inr (.inl fun ρ K => (gc127_0 (Tabs k) ρ K a1).symm)

theorem t130 (k : Nat) (args : List (PV sig)) (m : Mem sig) : (∀ ρ K, T130 (Tabs (k + 1)) ρ args m K = none) ∨ (∀ ρ K, T130 (Tabs (k + 1)) ρ args m K = evF Tryz.prog lay (T (Tabs k)) (LT (Tabs k)) hints dfT 130 args m K) ∨ ∃ r, CallOk Tryz.prog lay 130 args m r ∧ ∀ ρ K, T130 (Tabs (k + 1)) ρ args m K = K r := by
  rcases rc130_0 args m with h | ⟨a1, rfl, rfl⟩
  · exact .inl fun ρ K => h ..
  · obtain ⟨a1_0, a1_1, a1_2⟩ := a1; exact .inr (.inl fun ρ K => (gc130_0 (Tabs k) ρ K ⟨a1_0, a1_1, a1_2⟩).symm)

theorem t132 (k : Nat) (args : List (PV sig)) (m : Mem sig) : (∀ ρ K, T132 (Tabs (k + 1)) ρ args m K = none) ∨ (∀ ρ K, T132 (Tabs (k + 1)) ρ args m K = evF Tryz.prog lay (T (Tabs k)) (LT (Tabs k)) hints dfT 132 args m K) ∨ ∃ r, CallOk Tryz.prog lay 132 args m r ∧ ∀ ρ K, T132 (Tabs (k + 1)) ρ args m K = K r := by
  rcases rc132_0 args m with h | ⟨a1, rfl, rfl⟩
  · exact .inl fun ρ K => h ..
  · exact .inr (.inl fun ρ K => (gc132_0 (Tabs k) ρ K a1).symm)

theorem t133 (k : Nat) (args : List (PV sig)) (m : Mem sig) : (∀ ρ K, T133 (Tabs (k + 1)) ρ args m K = none) ∨ (∀ ρ K, T133 (Tabs (k + 1)) ρ args m K = evF Tryz.prog lay (T (Tabs k)) (LT (Tabs k)) hints dfT 133 args m K) ∨ ∃ r, CallOk Tryz.prog lay 133 args m r ∧ ∀ ρ K, T133 (Tabs (k + 1)) ρ args m K = K r := by
  rcases rc133_0 args m with h | ⟨a1, a2, rfl, rfl⟩
  · exact .inl fun ρ K => h ..
  · exact .inr (.inl fun ρ K => (gc133_0 (Tabs k) ρ K a1 a2).symm)

theorem t139 (k : Nat) (args : List (PV sig)) (m : Mem sig) : (∀ ρ K, T139 (Tabs (k + 1)) ρ args m K = none) ∨ (∀ ρ K, T139 (Tabs (k + 1)) ρ args m K = evF Tryz.prog lay (T (Tabs k)) (LT (Tabs k)) hints dfT 139 args m K) ∨ ∃ r, CallOk Tryz.prog lay 139 args m r ∧ ∀ ρ K, T139 (Tabs (k + 1)) ρ args m K = K r := by
  rcases rc139_0 args m with h | ⟨a1, rfl, rfl⟩
  · exact .inl fun ρ K => h ..
  · exact (told139 a1).imp (fun h ρ K => h ρ K) fun ⟨r, h1, h2⟩ => .inr ⟨r, h1, fun ρ K => h2 ρ K⟩

theorem t140 (k : Nat) (args : List (PV sig)) (m : Mem sig) : (∀ ρ K, T140 (Tabs (k + 1)) ρ args m K = none) ∨ (∀ ρ K, T140 (Tabs (k + 1)) ρ args m K = evF Tryz.prog lay (T (Tabs k)) (LT (Tabs k)) hints dfT 140 args m K) ∨ ∃ r, CallOk Tryz.prog lay 140 args m r ∧ ∀ ρ K, T140 (Tabs (k + 1)) ρ args m K = K r := by
  rcases rc140_0 args m with h | ⟨a1, rfl, rfl⟩
  · exact .inl fun ρ K => h ..
  · obtain ⟨a1_0, a1_1, a1_2⟩ := a1; exact .inr (.inl fun ρ K => (gc140_0 (Tabs k) ρ K ⟨a1_0, a1_1, a1_2⟩).symm)

theorem t141 (k : Nat) (args : List (PV sig)) (m : Mem sig) : (∀ ρ K, T141 (Tabs (k + 1)) ρ args m K = none) ∨ (∀ ρ K, T141 (Tabs (k + 1)) ρ args m K = evF Tryz.prog lay (T (Tabs k)) (LT (Tabs k)) hints dfT 141 args m K) ∨ ∃ r, CallOk Tryz.prog lay 141 args m r ∧ ∀ ρ K, T141 (Tabs (k + 1)) ρ args m K = K r := by
  rcases rc141_0 args m with h | ⟨a1, a2, rfl, rfl⟩
  · exact .inl fun ρ K => h ..
  · exact .inr (.inl fun ρ K => (gc141_0 (Tabs k) ρ K a1 a2).symm)

theorem tT (k f : Nat) (args : List (PV sig)) (m : Mem sig) : (∀ ρ K, T (Tabs (k + 1)) ρ f args m K = none) ∨ (∀ ρ K, T (Tabs (k + 1)) ρ f args m K = evF Tryz.prog lay (T (Tabs k)) (LT (Tabs k)) hints dfT f args m K) ∨ ∃ r, CallOk Tryz.prog lay f args m r ∧ ∀ ρ K, T (Tabs (k + 1)) ρ f args m K = K r := by
  unfold T
  cases hc : Nat.beq f 3 with
  | true => simp only [cond_true]; rw [Nat.eq_of_beq_eq_true hc]; exact t3 k args m
  | false =>
  simp only [cond_false]; clear hc
  cases hc : Nat.beq f 8 with
  | true => simp only [cond_true]; rw [Nat.eq_of_beq_eq_true hc]; exact t8 k args m
  | false =>
  simp only [cond_false]; clear hc
  cases hc : Nat.beq f 9 with
  | true => simp only [cond_true]; rw [Nat.eq_of_beq_eq_true hc]; exact t9 k args m
  | false =>
  simp only [cond_false]; clear hc
  cases hc : Nat.beq f 10 with
  | true => simp only [cond_true]; rw [Nat.eq_of_beq_eq_true hc]; exact t10 k args m
  | false =>
  simp only [cond_false]; clear hc
  cases hc : Nat.beq f 11 with
  | true => simp only [cond_true]; rw [Nat.eq_of_beq_eq_true hc]; exact t11 k args m
  | false =>
  simp only [cond_false]; clear hc
  cases hc : Nat.beq f 13 with
  | true => simp only [cond_true]; rw [Nat.eq_of_beq_eq_true hc]; exact t13 k args m
  | false =>
  simp only [cond_false]; clear hc
  cases hc : Nat.beq f 14 with
  | true => simp only [cond_true]; rw [Nat.eq_of_beq_eq_true hc]; exact t14 k args m
  | false =>
  simp only [cond_false]; clear hc
  cases hc : Nat.beq f 28 with
  | true => simp only [cond_true]; rw [Nat.eq_of_beq_eq_true hc]; exact t28 k args m
  | false =>
  simp only [cond_false]; clear hc
  cases hc : Nat.beq f 30 with
  | true => simp only [cond_true]; rw [Nat.eq_of_beq_eq_true hc]; exact t30 k args m
  | false =>
  simp only [cond_false]; clear hc
  cases hc : Nat.beq f 31 with
  | true => simp only [cond_true]; rw [Nat.eq_of_beq_eq_true hc]; exact t31 k args m
  | false =>
  simp only [cond_false]; clear hc
  cases hc : Nat.beq f 32 with
  | true => simp only [cond_true]; rw [Nat.eq_of_beq_eq_true hc]; exact t32 k args m
  | false =>
  simp only [cond_false]; clear hc
  cases hc : Nat.beq f 33 with
  | true => simp only [cond_true]; rw [Nat.eq_of_beq_eq_true hc]; exact t33 k args m
  | false =>
  simp only [cond_false]; clear hc
  cases hc : Nat.beq f 34 with
  | true => simp only [cond_true]; rw [Nat.eq_of_beq_eq_true hc]; exact t34 k args m
  | false =>
  simp only [cond_false]; clear hc
  cases hc : Nat.beq f 35 with
  | true => simp only [cond_true]; rw [Nat.eq_of_beq_eq_true hc]; exact t35 k args m
  | false =>
  simp only [cond_false]; clear hc
  cases hc : Nat.beq f 36 with
  | true => simp only [cond_true]; rw [Nat.eq_of_beq_eq_true hc]; exact t36 k args m
  | false =>
  simp only [cond_false]; clear hc
  cases hc : Nat.beq f 37 with
  | true => simp only [cond_true]; rw [Nat.eq_of_beq_eq_true hc]; exact t37 k args m
  | false =>
  simp only [cond_false]; clear hc
  cases hc : Nat.beq f 38 with
  | true => simp only [cond_true]; rw [Nat.eq_of_beq_eq_true hc]; exact t38 k args m
  | false =>
  simp only [cond_false]; clear hc
  cases hc : Nat.beq f 42 with
  | true => simp only [cond_true]; rw [Nat.eq_of_beq_eq_true hc]; exact t42 k args m
  | false =>
  simp only [cond_false]; clear hc
  cases hc : Nat.beq f 43 with
  | true => simp only [cond_true]; rw [Nat.eq_of_beq_eq_true hc]; exact t43 k args m
  | false =>
  simp only [cond_false]; clear hc
  cases hc : Nat.beq f 44 with
  | true => simp only [cond_true]; rw [Nat.eq_of_beq_eq_true hc]; exact t44 k args m
  | false =>
  simp only [cond_false]; clear hc
  cases hc : Nat.beq f 54 with
  | true => simp only [cond_true]; rw [Nat.eq_of_beq_eq_true hc]; exact t54 k args m
  | false =>
  simp only [cond_false]; clear hc
  cases hc : Nat.beq f 57 with
  | true => simp only [cond_true]; rw [Nat.eq_of_beq_eq_true hc]; exact t57 k args m
  | false =>
  simp only [cond_false]; clear hc
  cases hc : Nat.beq f 59 with
  | true => simp only [cond_true]; rw [Nat.eq_of_beq_eq_true hc]; exact t59 k args m
  | false =>
  simp only [cond_false]; clear hc
  cases hc : Nat.beq f 65 with
  | true => simp only [cond_true]; rw [Nat.eq_of_beq_eq_true hc]; exact t65 k args m
  | false =>
  simp only [cond_false]; clear hc
  cases hc : Nat.beq f 66 with
  | true => simp only [cond_true]; rw [Nat.eq_of_beq_eq_true hc]; exact t66 k args m
  | false =>
  simp only [cond_false]; clear hc
  cases hc : Nat.beq f 67 with
  | true => simp only [cond_true]; rw [Nat.eq_of_beq_eq_true hc]; exact t67 k args m
  | false =>
  simp only [cond_false]; clear hc
  cases hc : Nat.beq f 68 with
  | true => simp only [cond_true]; rw [Nat.eq_of_beq_eq_true hc]; exact t68 k args m
  | false =>
  simp only [cond_false]; clear hc
  cases hc : Nat.beq f 69 with
  | true => simp only [cond_true]; rw [Nat.eq_of_beq_eq_true hc]; exact t69 k args m
  | false =>
  simp only [cond_false]; clear hc
  cases hc : Nat.beq f 70 with
  | true => simp only [cond_true]; rw [Nat.eq_of_beq_eq_true hc]; exact t70 k args m
  | false =>
  simp only [cond_false]; clear hc
  cases hc : Nat.beq f 71 with
  | true => simp only [cond_true]; rw [Nat.eq_of_beq_eq_true hc]; exact t71 k args m
  | false =>
  simp only [cond_false]; clear hc
  cases hc : Nat.beq f 72 with
  | true => simp only [cond_true]; rw [Nat.eq_of_beq_eq_true hc]; exact t72 k args m
  | false =>
  simp only [cond_false]; clear hc
  cases hc : Nat.beq f 73 with
  | true => simp only [cond_true]; rw [Nat.eq_of_beq_eq_true hc]; exact t73 k args m
  | false =>
  simp only [cond_false]; clear hc
  cases hc : Nat.beq f 74 with
  | true => simp only [cond_true]; rw [Nat.eq_of_beq_eq_true hc]; exact t74 k args m
  | false =>
  simp only [cond_false]; clear hc
  cases hc : Nat.beq f 75 with
  | true => simp only [cond_true]; rw [Nat.eq_of_beq_eq_true hc]; exact t75 k args m
  | false =>
  simp only [cond_false]; clear hc
  cases hc : Nat.beq f 76 with
  | true => simp only [cond_true]; rw [Nat.eq_of_beq_eq_true hc]; exact t76 k args m
  | false =>
  simp only [cond_false]; clear hc
  cases hc : Nat.beq f 77 with
  | true => simp only [cond_true]; rw [Nat.eq_of_beq_eq_true hc]; exact t77 k args m
  | false =>
  simp only [cond_false]; clear hc
  cases hc : Nat.beq f 78 with
  | true => simp only [cond_true]; rw [Nat.eq_of_beq_eq_true hc]; exact t78 k args m
  | false =>
  simp only [cond_false]; clear hc
  cases hc : Nat.beq f 82 with
  | true => simp only [cond_true]; rw [Nat.eq_of_beq_eq_true hc]; exact t82 k args m
  | false =>
  simp only [cond_false]; clear hc
  cases hc : Nat.beq f 83 with
  | true => simp only [cond_true]; rw [Nat.eq_of_beq_eq_true hc]; exact t83 k args m
  | false =>
  simp only [cond_false]; clear hc
  cases hc : Nat.beq f 89 with
  | true => simp only [cond_true]; rw [Nat.eq_of_beq_eq_true hc]; exact t89 k args m
  | false =>
  simp only [cond_false]; clear hc
  cases hc : Nat.beq f 90 with
  | true => simp only [cond_true]; rw [Nat.eq_of_beq_eq_true hc]; exact t90 k args m
  | false =>
  simp only [cond_false]; clear hc
  cases hc : Nat.beq f 92 with
  | true => simp only [cond_true]; rw [Nat.eq_of_beq_eq_true hc]; exact t92 k args m
  | false =>
  simp only [cond_false]; clear hc
  cases hc : Nat.beq f 93 with
  | true => simp only [cond_true]; rw [Nat.eq_of_beq_eq_true hc]; exact t93 k args m
  | false =>
  simp only [cond_false]; clear hc
  cases hc : Nat.beq f 94 with
  | true => simp only [cond_true]; rw [Nat.eq_of_beq_eq_true hc]; exact t94 k args m
  | false =>
  simp only [cond_false]; clear hc
  cases hc : Nat.beq f 95 with
  | true => simp only [cond_true]; rw [Nat.eq_of_beq_eq_true hc]; exact t95 k args m
  | false =>
  simp only [cond_false]; clear hc
  cases hc : Nat.beq f 97 with
  | true => simp only [cond_true]; rw [Nat.eq_of_beq_eq_true hc]; exact t97 k args m
  | false =>
  simp only [cond_false]; clear hc
  cases hc : Nat.beq f 102 with
  | true => simp only [cond_true]; rw [Nat.eq_of_beq_eq_true hc]; exact t102 k args m
  | false =>
  simp only [cond_false]; clear hc
  cases hc : Nat.beq f 103 with
  | true => simp only [cond_true]; rw [Nat.eq_of_beq_eq_true hc]; exact t103 k args m
  | false =>
  simp only [cond_false]; clear hc
  cases hc : Nat.beq f 104 with
  | true => simp only [cond_true]; rw [Nat.eq_of_beq_eq_true hc]; exact t104 k args m
  | false =>
  simp only [cond_false]; clear hc
  cases hc : Nat.beq f 105 with
  | true => simp only [cond_true]; rw [Nat.eq_of_beq_eq_true hc]; exact t105 k args m
  | false =>
  simp only [cond_false]; clear hc
  cases hc : Nat.beq f 106 with
  | true => simp only [cond_true]; rw [Nat.eq_of_beq_eq_true hc]; exact t106 k args m
  | false =>
  simp only [cond_false]; clear hc
  cases hc : Nat.beq f 107 with
  | true => simp only [cond_true]; rw [Nat.eq_of_beq_eq_true hc]; exact t107 k args m
  | false =>
  simp only [cond_false]; clear hc
  cases hc : Nat.beq f 108 with
  | true => simp only [cond_true]; rw [Nat.eq_of_beq_eq_true hc]; exact t108 k args m
  | false =>
  simp only [cond_false]; clear hc
  cases hc : Nat.beq f 109 with
  | true => simp only [cond_true]; rw [Nat.eq_of_beq_eq_true hc]; exact t109 k args m
  | false =>
  simp only [cond_false]; clear hc
  cases hc : Nat.beq f 110 with
  | true => simp only [cond_true]; rw [Nat.eq_of_beq_eq_true hc]; exact t110 k args m
  | false =>
  simp only [cond_false]; clear hc
  cases hc : Nat.beq f 111 with
  | true => simp only [cond_true]; rw [Nat.eq_of_beq_eq_true hc]; exact t111 k args m
  | false =>
  simp only [cond_false]; clear hc
  cases hc : Nat.beq f 112 with
  | true => simp only [cond_true]; rw [Nat.eq_of_beq_eq_true hc]; exact t112 k args m
  | false =>
  simp only [cond_false]; clear hc
  cases hc : Nat.beq f 113 with
  | true => simp only [cond_true]; rw [Nat.eq_of_beq_eq_true hc]; exact t113 k args m
  | false =>
  simp only [cond_false]; clear hc
  cases hc : Nat.beq f 114 with
  | true => simp only [cond_true]; rw [Nat.eq_of_beq_eq_true hc]; exact t114 k args m
  | false =>
  simp only [cond_false]; clear hc
  cases hc : Nat.beq f 115 with
  | true => simp only [cond_true]; rw [Nat.eq_of_beq_eq_true hc]; exact t115 k args m
  | false =>
  simp only [cond_false]; clear hc
  cases hc : Nat.beq f 116 with
  | true => simp only [cond_true]; rw [Nat.eq_of_beq_eq_true hc]; exact t116 k args m
  | false =>
  simp only [cond_false]; clear hc
  cases hc : Nat.beq f 117 with
  | true => simp only [cond_true]; rw [Nat.eq_of_beq_eq_true hc]; exact t117 k args m
  | false =>
  simp only [cond_false]; clear hc
  cases hc : Nat.beq f 118 with
  | true => simp only [cond_true]; rw [Nat.eq_of_beq_eq_true hc]; exact t118 k args m
  | false =>
  simp only [cond_false]; clear hc
  cases hc : Nat.beq f 119 with
  | true => simp only [cond_true]; rw [Nat.eq_of_beq_eq_true hc]; exact t119 k args m
  | false =>
  simp only [cond_false]; clear hc
  cases hc : Nat.beq f 120 with
  | true => simp only [cond_true]; rw [Nat.eq_of_beq_eq_true hc]; exact t120 k args m
  | false =>
  simp only [cond_false]; clear hc
  cases hc : Nat.beq f 121 with
  | true => simp only [cond_true]; rw [Nat.eq_of_beq_eq_true hc]; exact t121 k args m
  | false =>
  simp only [cond_false]; clear hc
  cases hc : Nat.beq f 122 with
  | true => simp only [cond_true]; rw [Nat.eq_of_beq_eq_true hc]; exact t122 k args m
  | false =>
  simp only [cond_false]; clear hc
  cases hc : Nat.beq f 123 with
  | true => simp only [cond_true]; rw [Nat.eq_of_beq_eq_true hc]; exact t123 k args m
  | false =>
  simp only [cond_false]; clear hc
  cases hc : Nat.beq f 124 with
  | true => simp only [cond_true]; rw [Nat.eq_of_beq_eq_true hc]; exact t124 k args m
  | false =>
  simp only [cond_false]; clear hc
  cases hc : Nat.beq f 125 with
  | true => simp only [cond_true]; rw [Nat.eq_of_beq_eq_true hc]; exact t125 k args m
  | false =>
  simp only [cond_false]; clear hc
  cases hc : Nat.beq f 126 with
  | true => simp only [cond_true]; rw [Nat.eq_of_beq_eq_true hc]; exact t126 k args m
  | false =>
  simp only [cond_false]; clear hc
  cases hc : Nat.beq f 127 with
  | true => simp only [cond_true]; rw [Nat.eq_of_beq_eq_true hc]; exact t127 k args m
  | false =>
  simp only [cond_false]; clear hc
  cases hc : Nat.beq f 130 with
  | true => simp only [cond_true]; rw [Nat.eq_of_beq_eq_true hc]; exact t130 k args m
  | false =>
  simp only [cond_false]; clear hc
  cases hc : Nat.beq f 132 with
  | true => simp only [cond_true]; rw [Nat.eq_of_beq_eq_true hc]; exact t132 k args m
  | false =>
  simp only [cond_false]; clear hc
  cases hc : Nat.beq f 133 with
  | true => simp only [cond_true]; rw [Nat.eq_of_beq_eq_true hc]; exact t133 k args m
  | false =>
  simp only [cond_false]; clear hc
  cases hc : Nat.beq f 139 with
  | true => simp only [cond_true]; rw [Nat.eq_of_beq_eq_true hc]; exact t139 k args m
  | false =>
  simp only [cond_false]; clear hc
  cases hc : Nat.beq f 140 with
  | true => simp only [cond_true]; rw [Nat.eq_of_beq_eq_true hc]; exact t140 k args m
  | false =>
  simp only [cond_false]; clear hc
  cases hc : Nat.beq f 141 with
  | true => simp only [cond_true]; rw [Nat.eq_of_beq_eq_true hc]; exact t141 k args m
  | false =>
  simp only [cond_false]; clear hc
  first | exact .inl fun _ _ => rfl | exact .inl fun _ _ => trivial

theorem lbl10_4_0 : loopOf Tryz.prog 10 4 = some (bodyOf Tryz.prog 10 4) := by kernel_rfl

theorem lbl28_6_0 : loopOf Tryz.prog 28 6 = some (bodyOf Tryz.prog 28 6) := by kernel_rfl

theorem lbl30_4_0 : loopOf Tryz.prog 30 4 = some (bodyOf Tryz.prog 30 4) := by kernel_rfl

theorem lbl34_5_0 : loopOf Tryz.prog 34 5 = some (bodyOf Tryz.prog 34 5) := by kernel_rfl

theorem lbl35_9_0 : loopOf Tryz.prog 35 9 = some (bodyOf Tryz.prog 35 9) := by kernel_rfl

theorem lbl42_3_0 : loopOf Tryz.prog 42 3 = some (bodyOf Tryz.prog 42 3) := by kernel_rfl

theorem lbl43_18_0 : loopOf Tryz.prog 43 18 = some (bodyOf Tryz.prog 43 18) := by kernel_rfl

theorem lbl65_0_0 : loopOf Tryz.prog 65 0 = some (bodyOf Tryz.prog 65 0) := by kernel_rfl

theorem lbl69_2_0 : loopOf Tryz.prog 69 2 = some (bodyOf Tryz.prog 69 2) := by kernel_rfl

theorem lbl70_20_0 : loopOf Tryz.prog 70 20 = some (bodyOf Tryz.prog 70 20) := by kernel_rfl

theorem lbl71_1_0 : loopOf Tryz.prog 71 1 = some (bodyOf Tryz.prog 71 1) := by kernel_rfl

theorem lbl71_6_0 : loopOf Tryz.prog 71 6 = some (bodyOf Tryz.prog 71 6) := by kernel_rfl

theorem lbl75_2_0 : loopOf Tryz.prog 75 2 = some (bodyOf Tryz.prog 75 2) := by kernel_rfl

theorem lbl83_1_0 : loopOf Tryz.prog 83 1 = some (bodyOf Tryz.prog 83 1) := by kernel_rfl

theorem lbl92_4_0 : loopOf Tryz.prog 92 4 = some (bodyOf Tryz.prog 92 4) := by kernel_rfl

theorem lbl106_2_0 : loopOf Tryz.prog 106 2 = some (bodyOf Tryz.prog 106 2) := by kernel_rfl

theorem lbl122_5_0 : loopOf Tryz.prog 122 5 = some (bodyOf Tryz.prog 122 5) := by kernel_rfl

theorem lbl126_2_0 : loopOf Tryz.prog 126 2 = some (bodyOf Tryz.prog 126 2) := by kernel_rfl

theorem lbl133_2_0 : loopOf Tryz.prog 133 2 = some (bodyOf Tryz.prog 133 2) := by kernel_rfl

theorem ul10_4_0 (k : Nat) (st : St sig) : (∀ ρ K, Rl10_4_0 (Tabs (k + 1)) ρ (seenV (PK 10 0 4 0) st) (seenM 0 (PK 10 0 4 0) st) st.dfs st.nt K = none) ∨ ∃ c, loopOf Tryz.prog 10 4 = some c ∧ ∀ ρ K, Rl10_4_0 (Tabs (k + 1)) ρ (seenV (PK 10 0 4 0) st) (seenM 0 (PK 10 0 4 0) st) st.dfs st.nt K = evK Tryz.prog lay (T (Tabs k)) (LT (Tabs k)) hints 10 0 c (parkE PK 10 0 4 .normal st) (loopNext (LT (Tabs k)) PK 10 0 4 K) := by
  rcases rl10_4_0 (seenV (PK 10 0 4 0) st) (seenM 0 (PK 10 0 4 0) st) st.dfs st.nt with h | ⟨a1, a2, a3, h1, h2, h3, h4⟩
  · exact .inl fun ρ K => h ..
  · refine .inr ⟨_, lbl10_4_0, fun ρ K => ?_⟩
    rw [show parkE PK 10 0 4 (.normal : Ex sig) st = canon ((PK 10 0 4 0).1.map (·.1)) (seenV (PK 10 0 4 0) st) (seenM 0 (PK 10 0 4 0) st) st.dfs st.nt from park_seen ..]
    rw [h1, h2, h3, h4]
    obtain ⟨a2_0, a2_1, a2_2⟩ := a2; obtain ⟨a3_0, a3_1, a3_2⟩ := a3; exact (gl10_4_0 (Tabs k) ρ K a1 ⟨a2_0, a2_1, a2_2⟩ ⟨a3_0, a3_1, a3_2⟩).symm

theorem ul28_6_0 (k : Nat) (st : St sig) : (∀ ρ K, Rl28_6_0 (Tabs (k + 1)) ρ (seenV (PK 28 0 6 0) st) (seenM 0 (PK 28 0 6 0) st) st.dfs st.nt K = none) ∨ ∃ c, loopOf Tryz.prog 28 6 = some c ∧ ∀ ρ K, Rl28_6_0 (Tabs (k + 1)) ρ (seenV (PK 28 0 6 0) st) (seenM 0 (PK 28 0 6 0) st) st.dfs st.nt K = evK Tryz.prog lay (T (Tabs k)) (LT (Tabs k)) hints 28 0 c (parkE PK 28 0 6 .normal st) (loopNext (LT (Tabs k)) PK 28 0 6 K) := by
  rcases rl28_6_0 (seenV (PK 28 0 6 0) st) (seenM 0 (PK 28 0 6 0) st) st.dfs st.nt with h | ⟨a1, a2, a3, a4, h1, h2, h3, h4⟩
  · exact .inl fun ρ K => h ..
  · refine .inr ⟨_, lbl28_6_0, fun ρ K => ?_⟩
    rw [show parkE PK 28 0 6 (.normal : Ex sig) st = canon ((PK 28 0 6 0).1.map (·.1)) (seenV (PK 28 0 6 0) st) (seenM 0 (PK 28 0 6 0) st) st.dfs st.nt from park_seen ..]
    rw [h1, h2, h3, h4]
    exact (gl28_6_0 (Tabs k) ρ K a1 a2 a3 a4).symm

theorem ul30_4_0 (k : Nat) (st : St sig) : (∀ ρ K, Rl30_4_0 (Tabs (k + 1)) ρ (seenV (PK 30 1 4 0) st) (seenM 1 (PK 30 1 4 0) st) st.dfs st.nt K = none) ∨ ∃ c, loopOf Tryz.prog 30 4 = some c ∧ ∀ ρ K, Rl30_4_0 (Tabs (k + 1)) ρ (seenV (PK 30 1 4 0) st) (seenM 1 (PK 30 1 4 0) st) st.dfs st.nt K = evK Tryz.prog lay (T (Tabs k)) (LT (Tabs k)) hints 30 1 c (parkE PK 30 1 4 .normal st) (loopNext (LT (Tabs k)) PK 30 1 4 K) := by
  rcases rl30_4_0 (seenV (PK 30 1 4 0) st) (seenM 1 (PK 30 1 4 0) st) st.dfs st.nt with h | ⟨a1, a2, a3, a4, a5, h1, h2, h3, h4⟩
  · exact .inl fun ρ K => h ..
  · refine .inr ⟨_, lbl30_4_0, fun ρ K => ?_⟩
    rw [show parkE PK 30 1 4 (.normal : Ex sig) st = canon ((PK 30 1 4 0).1.map (·.1)) (seenV (PK 30 1 4 0) st) (seenM 1 (PK 30 1 4 0) st) st.dfs st.nt from park_seen ..]
    rw [h1, h2, h3, h4]
    obtain ⟨a4_0, a4_1, a4_2⟩ := a4; obtain ⟨a5_0, a5_1, a5_2⟩ := a5; exact (gl30_4_0 (Tabs k) ρ K a1 a2 a3 ⟨a4_0, a4_1, a4_2⟩ ⟨a5_0, a5_1, a5_2⟩).symm

theorem ul34_5_0 (k : Nat) (st : St sig) : (∀ ρ K, Rl34_5_0 (Tabs (k + 1)) ρ (seenV (PK 34 0 5 0) st) (seenM 0 (PK 34 0 5 0) st) st.dfs st.nt K = none) ∨ ∃ c, loopOf Tryz.prog 34 5 = some c ∧ ∀ ρ K, Rl34_5_0 (Tabs (k + 1)) ρ (seenV (PK 34 0 5 0) st) (seenM 0 (PK 34 0 5 0) st) st.dfs st.nt K = evK Tryz.prog lay (T (Tabs k)) (LT (Tabs k)) hints 34 0 c (parkE PK 34 0 5 .normal st) (loopNext (LT (Tabs k)) PK 34 0 5 K) := by
  rcases rl34_5_0 (seenV (PK 34 0 5 0) st) (seenM 0 (PK 34 0 5 0) st) st.dfs st.nt with h | ⟨a1, a2, a3, h1, h2, h3, h4⟩
  · exact .inl fun ρ K => h ..
  · refine .inr ⟨_, lbl34_5_0, fun ρ K => ?_⟩
    rw [show parkE PK 34 0 5 (.normal : Ex sig) st = canon ((PK 34 0 5 0).1.map (·.1)) (seenV (PK 34 0 5 0) st) (seenM 0 (PK 34 0 5 0) st) st.dfs st.nt from park_seen ..]
    rw [h1, h2, h3, h4]
    exact (gl34_5_0 (Tabs k) ρ K a1 a2 a3).symm

theorem ul35_9_0 (k : Nat) (st : St sig) : (∀ ρ K, Rl35_9_0 (Tabs (k + 1)) ρ (seenV (PK 35 1 9 0) st) (seenM 1 (PK 35 1 9 0) st) st.dfs st.nt K = none) ∨ ∃ c, loopOf Tryz.prog 35 9 = some c ∧ ∀ ρ K, Rl35_9_0 (Tabs (k + 1)) ρ (seenV (PK 35 1 9 0) st) (seenM 1 (PK 35 1 9 0) st) st.dfs st.nt K = evK Tryz.prog lay (T (Tabs k)) (LT (Tabs k)) hints 35 1 c (parkE PK 35 1 9 .normal st) (loopNext (LT (Tabs k)) PK 35 1 9 K) := by
  rcases rl35_9_0 (seenV (PK 35 1 9 0) st) (seenM 1 (PK 35 1 9 0) st) st.dfs st.nt with h | ⟨a1, a2, a3, a4, a5, a6, h1, h2, h3, h4⟩
  · exact .inl fun ρ K => h ..
  · refine .inr ⟨_, lbl35_9_0, fun ρ K => ?_⟩
    rw [show parkE PK 35 1 9 (.normal : Ex sig) st = canon ((PK 35 1 9 0).1.map (·.1)) (seenV (PK 35 1 9 0) st) (seenM 1 (PK 35 1 9 0) st) st.dfs st.nt from park_seen ..]
    rw [h1, h2, h3, h4]
    obtain ⟨a5_0, a5_1, a5_2⟩ := a5; obtain ⟨a6_0, a6_1, a6_2⟩ := a6; exact (gl35_9_0 (Tabs k) ρ K a1 a2 a3 a4 ⟨a5_0, a5_1, a5_2⟩ ⟨a6_0, a6_1, a6_2⟩).symm

theorem ul42_3_0 (k : Nat) (st : St sig) : (∀ ρ K, Rl42_3_0 (Tabs (k + 1)) ρ (seenV (PK 42 0 3 0) st) (seenM 0 (PK 42 0 3 0) st) st.dfs st.nt K = none) ∨ ∃ c, loopOf Tryz.prog 42 3 = some c ∧ ∀ ρ K, Rl42_3_0 (Tabs (k + 1)) ρ (seenV (PK 42 0 3 0) st) (seenM 0 (PK 42 0 3 0) st) st.dfs st.nt K = evK Tryz.prog lay (T (Tabs k)) (LT (Tabs k)) hints 42 0 c (parkE PK 42 0 3 .normal st) (loopNext (LT (Tabs k)) PK 42 0 3 K) := by
  rcases rl42_3_0 (seenV (PK 42 0 3 0) st) (seenM 0 (PK 42 0 3 0) st) st.dfs st.nt with h | ⟨a1, a2, a3, a4, h1, h2, h3, h4⟩
  · exact .inl fun ρ K => h ..
  · refine .inr ⟨_, lbl42_3_0, fun ρ K => ?_⟩
    rw [show parkE PK 42 0 3 (.normal : Ex sig) st = canon ((PK 42 0 3 0).1.map (·.1)) (seenV (PK 42 0 3 0) st) (seenM 0 (PK 42 0 3 0) st) st.dfs st.nt from park_seen ..]
    rw [h1, h2, h3, h4]
    obtain ⟨a4_0, a4_1, a4_2⟩ := a4; exact (gl42_3_0 (Tabs k) ρ K a1 a2 a3 ⟨a4_0, a4_1, a4_2⟩).symm

theorem ul43_18_0 (k : Nat) (st : St sig) : (∀ ρ K, Rl43_18_0 (Tabs (k + 1)) ρ (seenV (PK 43 0 18 0) st) (seenM 0 (PK 43 0 18 0) st) st.dfs st.nt K = none) ∨ ∃ c, loopOf Tryz.prog 43 18 = some c ∧ ∀ ρ K, Rl43_18_0 (Tabs (k + 1)) ρ (seenV (PK 43 0 18 0) st) (seenM 0 (PK 43 0 18 0) st) st.dfs st.nt K = evK Tryz.prog lay (T (Tabs k)) (LT (Tabs k)) hints 43 0 c (parkE PK 43 0 18 .normal st) (loopNext (LT (Tabs k)) PK 43 0 18 K) := by
  rcases rl43_18_0 (seenV (PK 43 0 18 0) st) (seenM 0 (PK 43 0 18 0) st) st.dfs st.nt with h | ⟨a1, a2, a3, h1, h2, h3, h4⟩
  · exact .inl fun ρ K => h ..
  · refine .inr ⟨_, lbl43_18_0, fun ρ K => ?_⟩
    rw [show parkE PK 43 0 18 (.normal : Ex sig) st = canon ((PK 43 0 18 0).1.map (·.1)) (seenV (PK 43 0 18 0) st) (seenM 0 (PK 43 0 18 0) st) st.dfs st.nt from park_seen ..]
    rw [h1, h2, h3, h4]
    obtain ⟨a3_0, a3_1, a3_2⟩ := a3; exact (gl43_18_0 (Tabs k) ρ K a1 a2 ⟨a3_0, a3_1, a3_2⟩).symm

theorem ul65_0_0 (k : Nat) (st : St sig) : (∀ ρ K, Rl65_0_0 (Tabs (k + 1)) ρ (seenV (PK 65 1 0 0) st) (seenM 1 (PK 65 1 0 0) st) st.dfs st.nt K = none) ∨ ∃ c, loopOf Tryz.prog 65 0 = some c ∧ ∀ ρ K, Rl65_0_0 (Tabs (k + 1)) ρ (seenV (PK 65 1 0 0) st) (seenM 1 (PK 65 1 0 0) st) st.dfs st.nt K = evK Tryz.prog lay (T (Tabs k)) (LT (Tabs k)) hints 65 1 c (parkE PK 65 1 0 .normal st) (loopNext (LT (Tabs k)) PK 65 1 0 K) := by
  rcases rl65_0_0 (seenV (PK 65 1 0 0) st) (seenM 1 (PK 65 1 0 0) st) st.dfs st.nt with h | ⟨a1, a2, h1, h2, h3, h4⟩
  · exact .inl fun ρ K => h ..
  · refine .inr ⟨_, lbl65_0_0, fun ρ K => ?_⟩
    rw [show parkE PK 65 1 0 (.normal : Ex sig) st = canon ((PK 65 1 0 0).1.map (·.1)) (seenV (PK 65 1 0 0) st) (seenM 1 (PK 65 1 0 0) st) st.dfs st.nt from park_seen ..]
    rw [h1, h2, h3, h4]
    exact (gl65_0_0 (Tabs k) ρ K a1 a2).symm

theorem ul69_2_0 (k : Nat) (st : St sig) : (∀ ρ K, Rl69_2_0 (Tabs (k + 1)) ρ (seenV (PK 69 1 2 0) st) (seenM 1 (PK 69 1 2 0) st) st.dfs st.nt K = none) ∨ ∃ c, loopOf Tryz.prog 69 2 = some c ∧ ∀ ρ K, Rl69_2_0 (Tabs (k + 1)) ρ (seenV (PK 69 1 2 0) st) (seenM 1 (PK 69 1 2 0) st) st.dfs st.nt K = evK Tryz.prog lay (T (Tabs k)) (LT (Tabs k)) hints 69 1 c (parkE PK 69 1 2 .normal st) (loopNext (LT (Tabs k)) PK 69 1 2 K) := by
  rcases rl69_2_0 (seenV (PK 69 1 2 0) st) (seenM 1 (PK 69 1 2 0) st) st.dfs st.nt with h | ⟨a1, a2, a3, a4, h1, h2, h3, h4⟩
  · exact .inl fun ρ K => h ..
  · refine .inr ⟨_, lbl69_2_0, fun ρ K => ?_⟩
    rw [show parkE PK 69 1 2 (.normal : Ex sig) st = canon ((PK 69 1 2 0).1.map (·.1)) (seenV (PK 69 1 2 0) st) (seenM 1 (PK 69 1 2 0) st) st.dfs st.nt from park_seen ..]
    rw [h1, h2, h3, h4]
    obtain ⟨a3_0, a3_1, a3_2⟩ := a3; obtain ⟨a4_0, a4_1, a4_2⟩ := a4; exact (gl69_2_0 (Tabs k) ρ K a1 a2 ⟨a3_0, a3_1, a3_2⟩ ⟨a4_0, a4_1, a4_2⟩).symm

theorem ul70_20_0 (k : Nat) (st : St sig) : (∀ ρ K, Rl70_20_0 (Tabs (k + 1)) ρ (seenV (PK 70 1 20 0) st) (seenM 1 (PK 70 1 20 0) st) st.dfs st.nt K = none) ∨ ∃ c, loopOf Tryz.prog 70 20 = some c ∧ ∀ ρ K, Rl70_20_0 (Tabs (k + 1)) ρ (seenV (PK 70 1 20 0) st) (seenM 1 (PK 70 1 20 0) st) st.dfs st.nt K = evK Tryz.prog lay (T (Tabs k)) (LT (Tabs k)) hints 70 1 c (parkE PK 70 1 20 .normal st) (loopNext (LT (Tabs k)) PK 70 1 20 K) := by
  rcases rl70_20_0 (seenV (PK 70 1 20 0) st) (seenM 1 (PK 70 1 20 0) st) st.dfs st.nt with h | ⟨a1, a2, a3, a4, a5, h1, h2, h3, h4⟩
  · exact .inl fun ρ K => h ..
  · refine .inr ⟨_, lbl70_20_0, fun ρ K => ?_⟩
    rw [show parkE PK 70 1 20 (.normal : Ex sig) st = canon ((PK 70 1 20 0).1.map (·.1)) (seenV (PK 70 1 20 0) st) (seenM 1 (PK 70 1 20 0) st) st.dfs st.nt from park_seen ..]
    rw [h1, h2, h3, h4]
    exact (gl70_20_0 (Tabs k) ρ K a1 a2 a3 a4 a5).symm

theorem ul71_1_0 (k : Nat) (st : St sig) : (∀ ρ K, Rl71_1_0 (Tabs (k + 1)) ρ (seenV (PK 71 0 1 0) st) (seenM 0 (PK 71 0 1 0) st) st.dfs st.nt K = none) ∨ ∃ c, loopOf Tryz.prog 71 1 = some c ∧ ∀ ρ K, Rl71_1_0 (Tabs (k + 1)) ρ (seenV (PK 71 0 1 0) st) (seenM 0 (PK 71 0 1 0) st) st.dfs st.nt K = evK Tryz.prog lay (T (Tabs k)) (LT (Tabs k)) hints 71 0 c (parkE PK 71 0 1 .normal st) (loopNext (LT (Tabs k)) PK 71 0 1 K) := by
  rcases rl71_1_0 (seenV (PK 71 0 1 0) st) (seenM 0 (PK 71 0 1 0) st) st.dfs st.nt with h | ⟨a1, a2, h1, h2, h3, h4⟩
  · exact .inl fun ρ K => h ..
  · refine .inr ⟨_, lbl71_1_0, fun ρ K => ?_⟩
    rw [show parkE PK 71 0 1 (.normal : Ex sig) st = canon ((PK 71 0 1 0).1.map (·.1)) (seenV (PK 71 0 1 0) st) (seenM 0 (PK 71 0 1 0) st) st.dfs st.nt from park_seen ..]
    rw [h1, h2, h3, h4]
    exact (gl71_1_0 (Tabs k) ρ K a1 a2).symm

theorem ul71_6_0 (k : Nat) (st : St sig) : (∀ ρ K, Rl71_6_0 (Tabs (k + 1)) ρ (seenV (PK 71 0 6 0) st) (seenM 0 (PK 71 0 6 0) st) st.dfs st.nt K = none) ∨ ∃ c, loopOf Tryz.prog 71 6 = some c ∧ ∀ ρ K, Rl71_6_0 (Tabs (k + 1)) ρ (seenV (PK 71 0 6 0) st) (seenM 0 (PK 71 0 6 0) st) st.dfs st.nt K = evK Tryz.prog lay (T (Tabs k)) (LT (Tabs k)) hints 71 0 c (parkE PK 71 0 6 .normal st) (loopNext (LT (Tabs k)) PK 71 0 6 K) := by
  rcases rl71_6_0 (seenV (PK 71 0 6 0) st) (seenM 0 (PK 71 0 6 0) st) st.dfs st.nt with h | ⟨a1, a2, h1, h2, h3, h4⟩
  · exact .inl fun ρ K => h ..
  · refine .inr ⟨_, lbl71_6_0, fun ρ K => ?_⟩
    rw [show parkE PK 71 0 6 (.normal : Ex sig) st = canon ((PK 71 0 6 0).1.map (·.1)) (seenV (PK 71 0 6 0) st) (seenM 0 (PK 71 0 6 0) st) st.dfs st.nt from park_seen ..]
    rw [h1, h2, h3, h4]
    exact (gl71_6_0 (Tabs k) ρ K a1 a2).symm

theorem ul75_2_0 (k : Nat) (st : St sig) : (∀ ρ K, Rl75_2_0 (Tabs (k + 1)) ρ (seenV (PK 75 1 2 0) st) (seenM 1 (PK 75 1 2 0) st) st.dfs st.nt K = none) ∨ ∃ c, loopOf Tryz.prog 75 2 = some c ∧ ∀ ρ K, Rl75_2_0 (Tabs (k + 1)) ρ (seenV (PK 75 1 2 0) st) (seenM 1 (PK 75 1 2 0) st) st.dfs st.nt K = evK Tryz.prog lay (T (Tabs k)) (LT (Tabs k)) hints 75 1 c (parkE PK 75 1 2 .normal st) (loopNext (LT (Tabs k)) PK 75 1 2 K) := by
  rcases rl75_2_0 (seenV (PK 75 1 2 0) st) (seenM 1 (PK 75 1 2 0) st) st.dfs st.nt with h | ⟨a1, a2, a3, a4, a5, h1, h2, h3, h4⟩
  · exact .inl fun ρ K => h ..
  · refine .inr ⟨_, lbl75_2_0, fun ρ K => ?_⟩
    rw [show parkE PK 75 1 2 (.normal : Ex sig) st = canon ((PK 75 1 2 0).1.map (·.1)) (seenV (PK 75 1 2 0) st) (seenM 1 (PK 75 1 2 0) st) st.dfs st.nt from park_seen ..]
    rw [h1, h2, h3, h4]
    obtain ⟨a4_0, a4_1, a4_2⟩ := a4; obtain ⟨a5_0, a5_1, a5_2⟩ := a5; exact (gl75_2_0 (Tabs k) ρ K a1 a2 a3 ⟨a4_0, a4_1, a4_2⟩ ⟨a5_0, a5_1, a5_2⟩).symm

theorem ul83_1_0 (k : Nat) (st : St sig) : (∀ ρ K, Rl83_1_0 (Tabs (k + 1)) ρ (seenV (PK 83 0 1 0) st) (seenM 0 (PK 83 0 1 0) st) st.dfs st.nt K = none) ∨ ∃ c, loopOf Tryz.prog 83 1 = some c ∧ ∀ ρ K, Rl83_1_0 (Tabs (k + 1)) ρ (seenV (PK 83 0 1 0) st) (seenM 0 (PK 83 0 1 0) st) st.dfs st.nt K = evK Tryz.prog lay (T (Tabs k)) (LT (Tabs k)) hints 83 0 c (parkE PK 83 0 1 .normal st) (loopNext (LT (Tabs k)) PK 83 0 1 K) := by
  rcases rl83_1_0 (seenV (PK 83 0 1 0) st) (seenM 0 (PK 83 0 1 0) st) st.dfs st.nt with h | ⟨a1, a2, h1, h2, h3, h4⟩
  · exact .inl fun ρ K => h ..
  · refine .inr ⟨_, lbl83_1_0, fun ρ K => ?_⟩
    rw [show parkE PK 83 0 1 (.normal : Ex sig) st = canon ((PK 83 0 1 0).1.map (·.1)) (seenV (PK 83 0 1 0) st) (seenM 0 (PK 83 0 1 0) st) st.dfs st.nt from park_seen ..]
    rw [h1, h2, h3, h4]
    exact (gl83_1_0 (Tabs k) ρ K a1 a2).symm

theorem ul92_4_0 (k : Nat) (st : St sig) : (∀ ρ K, Rl92_4_0 (Tabs (k + 1)) ρ (seenV (PK 92 0 4 0) st) (seenM 0 (PK 92 0 4 0) st) st.dfs st.nt K = none) ∨ ∃ c, loopOf Tryz.prog 92 4 = some c ∧ ∀ ρ K, Rl92_4_0 (Tabs (k + 1)) ρ (seenV (PK 92 0 4 0) st) (seenM 0 (PK 92 0 4 0) st) st.dfs st.nt K = evK Tryz.prog lay (T (Tabs k)) (LT (Tabs k)) hints 92 0 c (parkE PK 92 0 4 .normal st) (loopNext (LT (Tabs k)) PK 92 0 4 K) := by
  rcases rl92_4_0 (seenV (PK 92 0 4 0) st) (seenM 0 (PK 92 0 4 0) st) st.dfs st.nt with h | ⟨a1, a2, a3, h1, h2, h3, h4⟩
  · exact .inl fun ρ K => h ..
  · refine .inr ⟨_, lbl92_4_0, fun ρ K => ?_⟩
    rw [show parkE PK 92 0 4 (.normal : Ex sig) st = canon ((PK 92 0 4 0).1.map (·.1)) (seenV (PK 92 0 4 0) st) (seenM 0 (PK 92 0 4 0) st) st.dfs st.nt from park_seen ..]
    rw [h1, h2, h3, h4]
    exact (gl92_4_0 (Tabs k) ρ K a1 a2 a3).symm

theorem ul106_2_0 (k : Nat) (st : St sig) : (∀ ρ K, Rl106_2_0 (Tabs (k + 1)) ρ (seenV (PK 106 1 2 0) st) (seenM 1 (PK 106 1 2 0) st) st.dfs st.nt K = none) ∨ ∃ c, loopOf Tryz.prog 106 2 = some c ∧ ∀ ρ K, Rl106_2_0 (Tabs (k + 1)) ρ (seenV (PK 106 1 2 0) st) (seenM 1 (PK 106 1 2 0) st) st.dfs st.nt K = evK Tryz.prog lay (T (Tabs k)) (LT (Tabs k)) hints 106 1 c (parkE PK 106 1 2 .normal st) (loopNext (LT (Tabs k)) PK 106 1 2 K) := by
  rcases rl106_2_0 (seenV (PK 106 1 2 0) st) (seenM 1 (PK 106 1 2 0) st) st.dfs st.nt with h | ⟨a1, a2, a3, a4, h1, h2, h3, h4⟩
  · exact .inl fun ρ K => h ..
  · refine .inr ⟨_, lbl106_2_0, fun ρ K => ?_⟩
    rw [show parkE PK 106 1 2 (.normal : Ex sig) st = canon ((PK 106 1 2 0).1.map (·.1)) (seenV (PK 106 1 2 0) st) (seenM 1 (PK 106 1 2 0) st) st.dfs st.nt from park_seen ..]
    rw [h1, h2, h3, h4]
    exact (gl106_2_0 (Tabs k) ρ K a1 a2 a3 a4).symm

theorem ul122_5_0 (k : Nat) (st : St sig) : (∀ ρ K, Rl122_5_0 (Tabs (k + 1)) ρ (seenV (PK 122 0 5 0) st) (seenM 0 (PK 122 0 5 0) st) st.dfs st.nt K = none) ∨ ∃ c, loopOf Tryz.prog 122 5 = some c ∧ ∀ ρ K, Rl122_5_0 (Tabs (k + 1)) ρ (seenV (PK 122 0 5 0) st) (seenM 0 (PK 122 0 5 0) st) st.dfs st.nt K = evK Tryz.prog lay (T (Tabs k)) (LT (Tabs k)) hints 122 0 c (parkE PK 122 0 5 .normal st) (loopNext (LT (Tabs k)) PK 122 0 5 K) := by
  rcases rl122_5_0 (seenV (PK 122 0 5 0) st) (seenM 0 (PK 122 0 5 0) st) st.dfs st.nt with h | ⟨a1, a2, a3, h1, h2, h3, h4⟩
  · exact .inl fun ρ K => h ..
  · refine .inr ⟨_, lbl122_5_0, fun ρ K => ?_⟩
    rw [show parkE PK 122 0 5 (.normal : Ex sig) st = canon ((PK 122 0 5 0).1.map (·.1)) (seenV (PK 122 0 5 0) st) (seenM 0 (PK 122 0 5 0) st) st.dfs st.nt from park_seen ..]
    rw [h1, h2, h3, h4]
    exact (gl122_5_0 (Tabs k) ρ K a1 a2 a3).symm

theorem ul126_2_0 (k : Nat) (st : St sig) : (∀ ρ K, Rl126_2_0 (Tabs (k + 1)) ρ (seenV (PK 126 0 2 0) st) (seenM 0 (PK 126 0 2 0) st) st.dfs st.nt K = none) ∨ ∃ c, loopOf Tryz.prog 126 2 = some c ∧ ∀ ρ K, Rl126_2_0 (Tabs (k + 1)) ρ (seenV (PK 126 0 2 0) st) (seenM 0 (PK 126 0 2 0) st) st.dfs st.nt K = evK Tryz.prog lay (T (Tabs k)) (LT (Tabs k)) hints 126 0 c (parkE PK 126 0 2 .normal st) (loopNext (LT (Tabs k)) PK 126 0 2 K) := by
  rcases rl126_2_0 (seenV (PK 126 0 2 0) st) (seenM 0 (PK 126 0 2 0) st) st.dfs st.nt with h | ⟨a1, a2, a3, a4, h1, h2, h3, h4⟩
  · exact .inl fun ρ K => h ..
  · refine .inr ⟨_, lbl126_2_0, fun ρ K => ?_⟩
    rw [show parkE PK 126 0 2 (.normal : Ex sig) st = canon ((PK 126 0 2 0).1.map (·.1)) (seenV (PK 126 0 2 0) st) (seenM 0 (PK 126 0 2 0) st) st.dfs st.nt from park_seen ..]
    rw [h1, h2, h3, h4]
    exact (gl126_2_0 (Tabs k) ρ K a1 a2 a3 a4).symm

theorem ul133_2_0 (k : Nat) (st : St sig) : (∀ ρ K, Rl133_2_0 (Tabs (k + 1)) ρ (seenV (PK 133 0 2 0) st) (seenM 0 (PK 133 0 2 0) st) st.dfs st.nt K = none) ∨ ∃ c, loopOf Tryz.prog 133 2 = some c ∧ ∀ ρ K, Rl133_2_0 (Tabs (k + 1)) ρ (seenV (PK 133 0 2 0) st) (seenM 0 (PK 133 0 2 0) st) st.dfs st.nt K = evK Tryz.prog lay (T (Tabs k)) (LT (Tabs k)) hints 133 0 c (parkE PK 133 0 2 .normal st) (loopNext (LT (Tabs k)) PK 133 0 2 K) := by
  rcases rl133_2_0 (seenV (PK 133 0 2 0) st) (seenM 0 (PK 133 0 2 0) st) st.dfs st.nt with h | ⟨a1, a2, a3, a4, h1, h2, h3, h4⟩
  · exact .inl fun ρ K => h ..
  · refine .inr ⟨_, lbl133_2_0, fun ρ K => ?_⟩
    rw [show parkE PK 133 0 2 (.normal : Ex sig) st = canon ((PK 133 0 2 0).1.map (·.1)) (seenV (PK 133 0 2 0) st) (seenM 0 (PK 133 0 2 0) st) st.dfs st.nt from park_seen ..]
    rw [h1, h2, h3, h4]
    exact (gl133_2_0 (Tabs k) ρ K a1 a2 a3 a4).symm

theorem tL (k f np key : Nat) (st : St sig) : (∀ ρ K, LT (Tabs (k + 1)) ρ f np key st K = none) ∨ ∃ c, loopOf Tryz.prog f key = some c ∧ ∀ ρ K, LT (Tabs (k + 1)) ρ f np key st K = evK Tryz.prog lay (T (Tabs k)) (LT (Tabs k)) hints f np c (parkE PK f np key .normal st) (loopNext (LT (Tabs k)) PK f np key K) := by
  unfold LT
  cases hc : Nat.beq f 10 && (Nat.beq np 0 && Nat.beq key 4) with
  | true =>
    simp only [cond_true]; simp only [Bool.and_eq_true] at hc; rw [Nat.eq_of_beq_eq_true hc.1, Nat.eq_of_beq_eq_true hc.2.1, Nat.eq_of_beq_eq_true hc.2.2]
    exact ul10_4_0 k st
  | false =>
  simp only [cond_false]; clear hc
  cases hc : Nat.beq f 28 && (Nat.beq np 0 && Nat.beq key 6) with
  | true =>
    simp only [cond_true]; simp only [Bool.and_eq_true] at hc; rw [Nat.eq_of_beq_eq_true hc.1, Nat.eq_of_beq_eq_true hc.2.1, Nat.eq_of_beq_eq_true hc.2.2]
    exact ul28_6_0 k st
  | false =>
  simp only [cond_false]; clear hc
  cases hc : Nat.beq f 30 && (Nat.beq np 1 && Nat.beq key 4) with
  | true =>
    simp only [cond_true]; simp only [Bool.and_eq_true] at hc; rw [Nat.eq_of_beq_eq_true hc.1, Nat.eq_of_beq_eq_true hc.2.1, Nat.eq_of_beq_eq_true hc.2.2]
    exact ul30_4_0 k st
  | false =>
  simp only [cond_false]; clear hc
  cases hc : Nat.beq f 34 && (Nat.beq np 0 && Nat.beq key 5) with
  | true =>
    simp only [cond_true]; simp only [Bool.and_eq_true] at hc; rw [Nat.eq_of_beq_eq_true hc.1, Nat.eq_of_beq_eq_true hc.2.1, Nat.eq_of_beq_eq_true hc.2.2]
    exact ul34_5_0 k st
  | false =>
  simp only [cond_false]; clear hc
  cases hc : Nat.beq f 35 && (Nat.beq np 1 && Nat.beq key 9) with
  | true =>
    simp only [cond_true]; simp only [Bool.and_eq_true] at hc; rw [Nat.eq_of_beq_eq_true hc.1, Nat.eq_of_beq_eq_true hc.2.1, Nat.eq_of_beq_eq_true hc.2.2]
    exact ul35_9_0 k st
  | false =>
  simp only [cond_false]; clear hc
  cases hc : Nat.beq f 42 && (Nat.beq np 0 && Nat.beq key 3) with
  | true =>
    simp only [cond_true]; simp only [Bool.and_eq_true] at hc; rw [Nat.eq_of_beq_eq_true hc.1, Nat.eq_of_beq_eq_true hc.2.1, Nat.eq_of_beq_eq_true hc.2.2]
    exact ul42_3_0 k st
  | false =>
  simp only [cond_false]; clear hc
  cases hc : Nat.beq f 43 && (Nat.beq np 0 && Nat.beq key 18) with
  | true =>
    simp only [cond_true]; simp only [Bool.and_eq_true] at hc; rw [Nat.eq_of_beq_eq_true hc.1, Nat.eq_of_beq_eq_true hc.2.1, Nat.eq_of_beq_eq_true hc.2.2]
    exact ul43_18_0 k st
  | false =>
  simp only [cond_false]; clear hc
  cases hc : Nat.beq f 65 && (Nat.beq np 1 && Nat.beq key 0) with
  | true =>
    simp only [cond_true]; simp only [Bool.and_eq_true] at hc; rw [Nat.eq_of_beq_eq_true hc.1, Nat.eq_of_beq_eq_true hc.2.1, Nat.eq_of_beq_eq_true hc.2.2]
    exact ul65_0_0 k st
  | false =>
  simp only [cond_false]; clear hc
  cases hc : Nat.beq f 69 && (Nat.beq np 1 && Nat.beq key 2) with
  | true =>
    simp only [cond_true]; simp only [Bool.and_eq_true] at hc; rw [Nat.eq_of_beq_eq_true hc.1, Nat.eq_of_beq_eq_true hc.2.1, Nat.eq_of_beq_eq_true hc.2.2]
    exact ul69_2_0 k st
  | false =>
  simp only [cond_false]; clear hc
  cases hc : Nat.beq f 70 && (Nat.beq np 1 && Nat.beq key 20) with
  | true =>
    simp only [cond_true]; simp only [Bool.and_eq_true] at hc; rw [Nat.eq_of_beq_eq_true hc.1, Nat.eq_of_beq_eq_true hc.2.1, Nat.eq_of_beq_eq_true hc.2.2]
    exact ul70_20_0 k st
  | false =>
  simp only [cond_false]; clear hc
  cases hc : Nat.beq f 71 && (Nat.beq np 0 && Nat.beq key 1) with
  | true =>
    simp only [cond_true]; simp only [Bool.and_eq_true] at hc; rw [Nat.eq_of_beq_eq_true hc.1, Nat.eq_of_beq_eq_true hc.2.1, Nat.eq_of_beq_eq_true hc.2.2]
    exact ul71_1_0 k st
  | false =>
  simp only [cond_false]; clear hc
  cases hc : Nat.beq f 71 && (Nat.beq np 0 && Nat.beq key 6) with
  | true =>
    simp only [cond_true]; simp only [Bool.and_eq_true] at hc; rw [Nat.eq_of_beq_eq_true hc.1, Nat.eq_of_beq_eq_true hc.2.1, Nat.eq_of_beq_eq_true hc.2.2]
    exact ul71_6_0 k st
  | false =>
  simp only [cond_false]; clear hc
  cases hc : Nat.beq f 75 && (Nat.beq np 1 && Nat.beq key 2) with
  | true =>
    simp only [cond_true]; simp only [Bool.and_eq_true] at hc; rw [Nat.eq_of_beq_eq_true hc.1, Nat.eq_of_beq_eq_true hc.2.1, Nat.eq_of_beq_eq_true hc.2.2]
    exact ul75_2_0 k st
  | false =>
  simp only [cond_false]; clear hc
  cases hc : Nat.beq f 83 && (Nat.beq np 0 && Nat.beq key 1) with
  | true =>
    simp only [cond_true]; simp only [Bool.and_eq_true] at hc; rw [Nat.eq_of_beq_eq_true hc.1, Nat.eq_of_beq_eq_true hc.2.1, Nat.eq_of_beq_eq_true hc.2.2]
    exact ul83_1_0 k st
  | false =>
  simp only [cond_false]; clear hc
  cases hc : Nat.beq f 92 && (Nat.beq np 0 && Nat.beq key 4) with
  | true =>
    simp only [cond_true]; simp only [Bool.and_eq_true] at hc; rw [Nat.eq_of_beq_eq_true hc.1, Nat.eq_of_beq_eq_true hc.2.1, Nat.eq_of_beq_eq_true hc.2.2]
    exact ul92_4_0 k st
  | false =>
  simp only [cond_false]; clear hc
  cases hc : Nat.beq f 106 && (Nat.beq np 1 && Nat.beq key 2) with
  | true =>
    simp only [cond_true]; simp only [Bool.and_eq_true] at hc; rw [Nat.eq_of_beq_eq_true hc.1, Nat.eq_of_beq_eq_true hc.2.1, Nat.eq_of_beq_eq_true hc.2.2]
    exact ul106_2_0 k st
  | false =>
  simp only [cond_false]; clear hc
  cases hc : Nat.beq f 122 && (Nat.beq np 0 && Nat.beq key 5) with
  | true =>
    simp only [cond_true]; simp only [Bool.and_eq_true] at hc; rw [Nat.eq_of_beq_eq_true hc.1, Nat.eq_of_beq_eq_true hc.2.1, Nat.eq_of_beq_eq_true hc.2.2]
    exact ul122_5_0 k st
  | false =>
  simp only [cond_false]; clear hc
  cases hc : Nat.beq f 126 && (Nat.beq np 0 && Nat.beq key 2) with
  | true =>
    simp only [cond_true]; simp only [Bool.and_eq_true] at hc; rw [Nat.eq_of_beq_eq_true hc.1, Nat.eq_of_beq_eq_true hc.2.1, Nat.eq_of_beq_eq_true hc.2.2]
    exact ul126_2_0 k st
  | false =>
  simp only [cond_false]; clear hc
  cases hc : Nat.beq f 133 && (Nat.beq np 0 && Nat.beq key 2) with
  | true =>
    simp only [cond_true]; simp only [Bool.and_eq_true] at hc; rw [Nat.eq_of_beq_eq_true hc.1, Nat.eq_of_beq_eq_true hc.2.1, Nat.eq_of_beq_eq_true hc.2.2]
    exact ul133_2_0 k st
  | false =>
  simp only [cond_false]; clear hc
  first | exact .inl fun _ _ => rfl | exact .inl fun _ _ => trivial

theorem z3 (args : List (PV sig)) (m : Mem sig) : ∀ ρ K, T3 (Tabs 0) ρ args m K = none := by
  rcases rc3_0 args m with h | ⟨a1, rfl, rfl⟩
  · exact fun ρ K => h ..
  · exact fun ρ K => rfl

theorem z8 (args : List (PV sig)) (m : Mem sig) : ∀ ρ K, T8 (Tabs 0) ρ args m K = none := by
  rcases rc8_0 args m with h | ⟨a1, rfl, rfl⟩
  · exact fun ρ K => h ..
  · exact fun ρ K => rfl

theorem z9 (args : List (PV sig)) (m : Mem sig) : ∀ ρ K, T9 (Tabs 0) ρ args m K = none := by
  rcases rc9_0 args m with h | ⟨a1, rfl, rfl⟩
  · exact fun ρ K => h ..
  · exact fun ρ K => rfl

theorem z10 (args : List (PV sig)) (m : Mem sig) : ∀ ρ K, T10 (Tabs 0) ρ args m K = none := by
  rcases rc10_0 args m with h | ⟨a1, a2, rfl, rfl⟩
  · exact fun ρ K => h ..
  · obtain ⟨a1_0, a1_1, a1_2⟩ := a1; obtain ⟨a2_0, a2_1, a2_2⟩ := a2; exact fun ρ K => rfl

theorem z11 (args : List (PV sig)) (m : Mem sig) : ∀ ρ K, T11 (Tabs 0) ρ args m K = none := by
  rcases rc11_0 args m with h | ⟨rfl, rfl⟩
  · exact fun ρ K => h ..
  · exact fun ρ K => rfl

theorem z13 (args : List (PV sig)) (m : Mem sig) : ∀ ρ K, T13 (Tabs 0) ρ args m K = none := by
  rcases rc13_0 args m with h | ⟨a1, rfl, rfl⟩
  · exact fun ρ K => h ..
  · obtain ⟨a1_0, a1_1, a1_2⟩ := a1; exact fun ρ K => rfl

theorem z14 (args : List (PV sig)) (m : Mem sig) : ∀ ρ K, T14 (Tabs 0) ρ args m K = none := by
  rcases rc14_0 args m with h | ⟨a1, rfl, rfl⟩
  · exact fun ρ K => h ..
  · exact fun ρ K => rfl

theorem z28 (args : List (PV sig)) (m : Mem sig) : ∀ ρ K, T28 (Tabs 0) ρ args m K = none := by
  rcases rc28_0 args m with h | ⟨a1, rfl, rfl⟩
  · exact fun ρ K => h ..
  · exact fun ρ K => rfl

theorem z30 (args : List (PV sig)) (m : Mem sig) : ∀ ρ K, T30 (Tabs 0) ρ args m K = none := by
  rcases rc30_0 args m with h | ⟨a1, a2, rfl, rfl⟩
  · exact fun ρ K => h ..
  · exact fun ρ K => rfl

theorem z31 (args : List (PV sig)) (m : Mem sig) : ∀ ρ K, T31 (Tabs 0) ρ args m K = none := by
  rcases rc31_0 args m with h | ⟨a1, a2, rfl, rfl⟩
  · exact fun ρ K => h ..
  · exact fun ρ K => rfl

theorem z32 (args : List (PV sig)) (m : Mem sig) : ∀ ρ K, T32 (Tabs 0) ρ args m K = none := by
  rcases rc32_0 args m with h | ⟨a1, a2, rfl, rfl⟩
  · exact fun ρ K => h ..
  · exact fun ρ K => rfl

theorem z33 (args : List (PV sig)) (m : Mem sig) : ∀ ρ K, T33 (Tabs 0) ρ args m K = none := by
  rcases rc33_0 args m with h | ⟨a1, rfl, rfl⟩
  · exact fun ρ K => h ..
  · obtain ⟨a1_0, a1_1, a1_2⟩ := a1; exact fun ρ K => rfl

theorem z34 (args : List (PV sig)) (m : Mem sig) : ∀ ρ K, T34 (Tabs 0) ρ args m K = none := by
  rcases rc34_0 args m with h | ⟨a1, rfl, rfl⟩
  · exact fun ρ K => h ..
  · exact fun ρ K => rfl

theorem z35 (args : List (PV sig)) (m : Mem sig) : ∀ ρ K, T35 (Tabs 0) ρ args m K = none := by
  rcases rc35_0 args m with h | ⟨a1, a2, a3, rfl, rfl⟩
  · exact fun ρ K => h ..
  · exact fun ρ K => rfl

theorem z36 (args : List (PV sig)) (m : Mem sig) : ∀ ρ K, T36 (Tabs 0) ρ args m K = none := by
  rcases rc36_0 args m with h | ⟨a1, a2, a3, rfl, rfl⟩
  · exact fun ρ K => h ..
  · exact fun ρ K => rfl

theorem z37 (args : List (PV sig)) (m : Mem sig) : ∀ ρ K, T37 (Tabs 0) ρ args m K = none := by
  rcases rc37_0 args m with h | ⟨a1, rfl, rfl⟩
  · exact fun ρ K => h ..
  · obtain ⟨a1_0, a1_1, a1_2⟩ := a1; exact fun ρ K => rfl

theorem z38 (args : List (PV sig)) (m : Mem sig) : ∀ ρ K, T38 (Tabs 0) ρ args m K = none := by
  rcases rc38_0 args m with h | ⟨a1, rfl, rfl⟩
  · exact fun ρ K => h ..
  · exact fun ρ K => rfl

theorem z42 (args : List (PV sig)) (m : Mem sig) : ∀ ρ K, T42 (Tabs 0) ρ args m K = none := by
  rcases rc42_0 args m with h | ⟨a1, a2, rfl, rfl⟩
  · exact fun ρ K => h ..
  · obtain ⟨a1_0, a1_1, a1_2⟩ := a1; exact fun ρ K => rfl

theorem z43 (args : List (PV sig)) (m : Mem sig) : ∀ ρ K, T43 (Tabs 0) ρ args m K = none := by
  rcases rc43_0 args m with h | ⟨a1, a2, rfl, rfl⟩
  · exact fun ρ K => h ..
  · obtain ⟨a1_0, a1_1, a1_2⟩ := a1; exact fun ρ K => rfl

theorem z44 (args : List (PV sig)) (m : Mem sig) : ∀ ρ K, T44 (Tabs 0) ρ args m K = none := by
  rcases rc44_0 args m with h | ⟨a1, rfl, rfl⟩
  · exact fun ρ K => h ..
  · exact fun ρ K => rfl

theorem z54 (args : List (PV sig)) (m : Mem sig) : ∀ ρ K, T54 (Tabs 0) ρ args m K = none := by
  rcases rc54_0 args m with h | ⟨a1, rfl, rfl⟩
  · exact fun ρ K => h ..
  · exact fun ρ K => rfl

theorem z57 (args : List (PV sig)) (m : Mem sig) : ∀ ρ K, T57 (Tabs 0) ρ args m K = none := by
  rcases rc57_0 args m with h | ⟨a1, a2, rfl, rfl⟩
  · exact fun ρ K => h ..
  · obtain ⟨a1_0, a1_1, a1_2⟩ := a1; exact fun ρ K => rfl

theorem z59 (args : List (PV sig)) (m : Mem sig) : ∀ ρ K, T59 (Tabs 0) ρ args m K = none := by
  rcases rc59_0 args m with h | ⟨a1, rfl, rfl⟩
  · exact fun ρ K => h ..
  · exact fun ρ K => rfl

theorem z65 (args : List (PV sig)) (m : Mem sig) : ∀ ρ K, T65 (Tabs 0) ρ args m K = none := by
  rcases rc65_0 args m with h | ⟨a1, a2, rfl, rfl⟩
  · exact fun ρ K => h ..
  · exact fun ρ K => rfl

theorem z66 (args : List (PV sig)) (m : Mem sig) : ∀ ρ K, T66 (Tabs 0) ρ args m K = none := by
  rcases rc66_0 args m with h | ⟨a1, rfl, rfl⟩
  · exact fun ρ K => h ..
  · exact fun ρ K => rfl

theorem z67 (args : List (PV sig)) (m : Mem sig) : ∀ ρ K, T67 (Tabs 0) ρ args m K = none := by
  rcases rc67_0 args m with h | ⟨a1, a2, a3, rfl, rfl⟩
  · exact fun ρ K => h ..
  · exact fun ρ K => rfl

theorem z68 (args : List (PV sig)) (m : Mem sig) : ∀ ρ K, T68 (Tabs 0) ρ args m K = none := by
  rcases rc68_0 args m with h | ⟨a1, a2, rfl, rfl⟩
  · exact fun ρ K => h ..
  · exact fun ρ K => rfl

theorem z69 (args : List (PV sig)) (m : Mem sig) : ∀ ρ K, T69 (Tabs 0) ρ args m K = none := by
  rcases rc69_0 args m with h | ⟨a1, a2, rfl, rfl⟩
  · exact fun ρ K => h ..
  · exact fun ρ K => rfl

theorem z70 (args : List (PV sig)) (m : Mem sig) : ∀ ρ K, T70 (Tabs 0) ρ args m K = none := by
  rcases rc70_0 args m with h | ⟨a1, a2, a3, rfl, rfl⟩
  · exact fun ρ K => h ..
  · obtain ⟨a1_0, a1_1, a1_2⟩ := a1; exact fun ρ K => rfl

theorem z71 (args : List (PV sig)) (m : Mem sig) : ∀ ρ K, T71 (Tabs 0) ρ args m K = none := by
  rcases rc71_0 args m with h | ⟨a1, a2, rfl, rfl⟩
  · exact fun ρ K => h ..
  · exact fun ρ K => rfl

theorem z72 (args : List (PV sig)) (m : Mem sig) : ∀ ρ K, T72 (Tabs 0) ρ args m K = none := by
  rcases rc72_0 args m with h | ⟨a1, a2, rfl, rfl⟩
  · exact fun ρ K => h ..
  · exact fun ρ K => rfl

theorem z73 (args : List (PV sig)) (m : Mem sig) : ∀ ρ K, T73 (Tabs 0) ρ args m K = none := by
  rcases rc73_0 args m with h | ⟨a1, a2, a3, rfl, rfl⟩
  · exact fun ρ K => h ..
  · exact fun ρ K => rfl

theorem z74 (args : List (PV sig)) (m : Mem sig) : ∀ ρ K, T74 (Tabs 0) ρ args m K = none := by
  rcases rc74_0 args m with h | ⟨a1, a2, a3, rfl, rfl⟩
  · exact fun ρ K => h ..
  · exact fun ρ K => rfl

theorem z75 (args : List (PV sig)) (m : Mem sig) : ∀ ρ K, T75 (Tabs 0) ρ args m K = none := by
  rcases rc75_0 args m with h | ⟨a1, a2, a3, rfl, rfl⟩
  · exact fun ρ K => h ..
  · exact fun ρ K => rfl

theorem z76 (args : List (PV sig)) (m : Mem sig) : ∀ ρ K, T76 (Tabs 0) ρ args m K = none := by
  rcases rc76_0 args m with h | ⟨a1, a2, a3, a4, rfl, rfl⟩
  · exact fun ρ K => h ..
  · exact fun ρ K => rfl

theorem z77 (args : List (PV sig)) (m : Mem sig) : ∀ ρ K, T77 (Tabs 0) ρ args m K = none := by
  rcases rc77_0 args m with h | ⟨a1, rfl, rfl⟩
  · exact fun ρ K => h ..
  · exact fun ρ K => rfl

theorem z78 (args : List (PV sig)) (m : Mem sig) : ∀ ρ K, T78 (Tabs 0) ρ args m K = none := by
  rcases rc78_0 args m with h | ⟨a1, a2, rfl, rfl⟩
  · exact fun ρ K => h ..
  · exact fun ρ K => rfl

theorem z82 (args : List (PV sig)) (m : Mem sig) : ∀ ρ K, T82 (Tabs 0) ρ args m K = none := by
  rcases rc82_0 args m with h | ⟨a1, rfl, rfl⟩
  · exact fun ρ K => h ..
  · exact fun ρ K => rfl

theorem z83 (args : List (PV sig)) (m : Mem sig) : ∀ ρ K, T83 (Tabs 0) ρ args m K = none := by
  rcases rc83_0 args m with h | ⟨a1, a2, rfl, rfl⟩
  · exact fun ρ K => h ..
  · exact fun ρ K => rfl

theorem z89 (args : List (PV sig)) (m : Mem sig) : ∀ ρ K, T89 (Tabs 0) ρ args m K = none := by
  rcases rc89_0 args m with h | ⟨a1, a2, a3, rfl, rfl⟩
  · exact fun ρ K => h ..
  · exact fun ρ K => rfl

theorem z90 (args : List (PV sig)) (m : Mem sig) : ∀ ρ K, T90 (Tabs 0) ρ args m K = none := by
  rcases rc90_0 args m with h | ⟨a1, a2, a3, a4, rfl, rfl⟩
  · exact fun ρ K => h ..
  · exact fun ρ K => rfl

theorem z92 (args : List (PV sig)) (m : Mem sig) : ∀ ρ K, T92 (Tabs 0) ρ args m K = none := by
  unfold T92
  cases hc : Nat.beq (fnId (args.getD 1 .any)) 93 with
  | true =>
    simp only [cond_true]
    rcases rc92_0 args m with h | ⟨a1, rfl, rfl⟩
    · exact fun ρ K => h ..
    · exact fun ρ K => rfl
  | false =>
    simp only [cond_false]
    cases hc : Nat.beq (fnId (args.getD 1 .any)) 107 with
    | true =>
      simp only [cond_true]
      rcases rc92_1 args m with h | ⟨a1, rfl, rfl⟩
      · exact fun ρ K => h ..
      · exact fun ρ K => rfl
    | false =>
      simp only [cond_false]
      first | exact fun _ _ => rfl | exact fun _ _ => trivial

theorem z93 (args : List (PV sig)) (m : Mem sig) : ∀ ρ K, T93 (Tabs 0) ρ args m K = none := by
  rcases rc93_0 args m with h | ⟨a1, rfl, rfl⟩
  · exact fun ρ K => h ..
  · exact fun ρ K => rfl

theorem z94 (args : List (PV sig)) (m : Mem sig) : ∀ ρ K, T94 (Tabs 0) ρ args m K = none := by
  rcases rc94_0 args m with h | ⟨a1, a2, rfl, rfl⟩
  · exact fun ρ K => h ..
  · exact fun ρ K => rfl

theorem z95 (args : List (PV sig)) (m : Mem sig) : ∀ ρ K, T95 (Tabs 0) ρ args m K = none := by
  rcases rc95_0 args m with h | ⟨a1, rfl, rfl⟩
  · exact fun ρ K => h ..
  · exact fun ρ K => rfl

theorem z97 (args : List (PV sig)) (m : Mem sig) : ∀ ρ K, T97 (Tabs 0) ρ args m K = none := by
  rcases rc97_0 args m with h | ⟨a1, rfl, rfl⟩
  · exact fun ρ K => h ..
  · exact fun ρ K => rfl

theorem z102 (args : List (PV sig)) (m : Mem sig) : ∀ ρ K, T102 (Tabs 0) ρ args m K = none := by
  rcases rc102_0 args m with h | ⟨a1, a2, a3, rfl, rfl⟩
  · exact fun ρ K => h ..
  · exact fun ρ K => rfl

theorem z103 (args : List (PV sig)) (m : Mem sig) : ∀ ρ K, T103 (Tabs 0) ρ args m K = none := by
  rcases rc103_0 args m with h | ⟨a1, a2, rfl, rfl⟩
  · exact fun ρ K => h ..
  · exact fun ρ K => rfl

theorem z104 (args : List (PV sig)) (m : Mem sig) : ∀ ρ K, T104 (Tabs 0) ρ args m K = none := by
  rcases rc104_0 args m with h | ⟨a1, a2, a3, rfl, rfl⟩
  · exact fun ρ K => h ..
  · exact fun ρ K => rfl

theorem z105 (args : List (PV sig)) (m : Mem sig) : ∀ ρ K, T105 (Tabs 0) ρ args m K = none := by
  rcases rc105_0 args m with h | ⟨a1, a2, rfl, rfl⟩
  · exact fun ρ K => h ..
  · exact fun ρ K => rfl

theorem z106 (args : List (PV sig)) (m : Mem sig) : ∀ ρ K, T106 (Tabs 0) ρ args m K = none := by
  rcases rc106_0 args m with h | ⟨a1, a2, a3, rfl, rfl⟩
  · exact fun ρ K => h ..
  · exact fun ρ K => rfl

theorem z107 (args : List (PV sig)) (m : Mem sig) : ∀ ρ K, T107 (Tabs 0) ρ args m K = none := by
  rcases rc107_0 args m with h | ⟨a1, rfl, rfl⟩
  · exact fun ρ K => h ..
  · exact fun ρ K => rfl

theorem z108 (args : List (PV sig)) (m : Mem sig) : ∀ ρ K, T108 (Tabs 0) ρ args m K = none := by
  rcases rc108_0 args m with h | ⟨a1, a2, rfl, rfl⟩
  · exact fun ρ K => h ..
  · exact fun ρ K => rfl

theorem z109 (args : List (PV sig)) (m : Mem sig) : ∀ ρ K, T109 (Tabs 0) ρ args m K = none := by
  rcases rc109_0 args m with h | ⟨a1, rfl, rfl⟩
  · exact fun ρ K => h ..
  · exact fun ρ K => rfl

theorem z110 (args : List (PV sig)) (m : Mem sig) : ∀ ρ K, T110 (Tabs 0) ρ args m K = none := by
  rcases rc110_0 args m with h | ⟨a1, a2, rfl, rfl⟩
  · exact fun ρ K => h ..
  · exact fun ρ K => rfl

theorem z111 (args : List (PV sig)) (m : Mem sig) : ∀ ρ K, T111 (Tabs 0) ρ args m K = none := by
  rcases rc111_0 args m with h | ⟨a1, rfl, rfl⟩
  · exact fun ρ K => h ..
  · exact fun ρ K => rfl

theorem z112 (args : List (PV sig)) (m : Mem sig) : ∀ ρ K, T112 (Tabs 0) ρ args m K = none := by
  rcases rc112_0 args m with h | ⟨a1, a2, rfl, rfl⟩
  · exact fun ρ K => h ..
  · exact fun ρ K => rfl

theorem z113 (args : List (PV sig)) (m : Mem sig) : ∀ ρ K, T113 (Tabs 0) ρ args m K = none := by
  rcases rc113_0 args m with h | ⟨a1, a2, rfl, rfl⟩
  · exact fun ρ K => h ..
  · exact fun ρ K => rfl

theorem z114 (args : List (PV sig)) (m : Mem sig) : ∀ ρ K, T114 (Tabs 0) ρ args m K = none := by
  rcases rc114_0 args m with h | ⟨a1, a2, rfl, rfl⟩
  · exact fun ρ K => h ..
  · exact fun ρ K => rfl

theorem z115 (args : List (PV sig)) (m : Mem sig) : ∀ ρ K, T115 (Tabs 0) ρ args m K = none := by
  rcases rc115_0 args m with h | ⟨a1, a2, rfl, rfl⟩
  · exact fun ρ K => h ..
  · exact fun ρ K => rfl

theorem z116 (args : List (PV sig)) (m : Mem sig) : ∀ ρ K, T116 (Tabs 0) ρ args m K = none := by
  rcases rc116_0 args m with h | ⟨a1, a2, a3, rfl, rfl⟩
  · exact fun ρ K => h ..
  · exact fun ρ K => rfl

theorem z117 (args : List (PV sig)) (m : Mem sig) : ∀ ρ K, T117 (Tabs 0) ρ args m K = none := by
  rcases rc117_0 args m with h | ⟨a1, a2, rfl, rfl⟩
  · exact fun ρ K => h ..
  · exact fun ρ K => rfl

theorem z118 (args : List (PV sig)) (m : Mem sig) : ∀ ρ K, T118 (Tabs 0) ρ args m K = none := by
  rcases rc118_0 args m with h | ⟨a1, a2, a3, rfl, rfl⟩
  · exact fun ρ K => h ..
  · exact fun ρ K => rfl

theorem z119 (args : List (PV sig)) (m : Mem sig) : ∀ ρ K, T119 (Tabs 0) ρ args m K = none := by
  rcases rc119_0 args m with h | ⟨a1, a2, rfl, rfl⟩
  · exact fun ρ K => h ..
  · exact fun ρ K => rfl

theorem z120 (args : List (PV sig)) (m : Mem sig) : ∀ ρ K, T120 (Tabs 0) ρ args m K = none := by
  rcases rc120_0 args m with h | ⟨a1, a2, rfl, rfl⟩
  · exact fun ρ K => h ..
  · exact fun ρ K => rfl

theorem z121 (args : List (PV sig)) (m : Mem sig) : ∀ ρ K, T121 (Tabs 0) ρ args m K = none := by
  rcases rc121_0 args m with h | ⟨a1, a2, rfl, rfl⟩
  · exact fun ρ K => h ..
  · exact fun ρ K => rfl

theorem z122 (args : List (PV sig)) (m : Mem sig) : ∀ ρ K, T122 (Tabs 0) ρ args m K = none := by
  rcases rc122_0 args m with h | ⟨a1, rfl, rfl⟩
  · exact fun ρ K => h ..
  · exact fun ρ K => rfl

theorem z123 (args : List (PV sig)) (m : Mem sig) : ∀ ρ K, T123 (Tabs 0) ρ args m K = none := by
  rcases rc123_0 args m with h | ⟨a1, a2, rfl, rfl⟩
  · exact fun ρ K => h ..
  · exact fun ρ K => rfl

theorem z124 (args : List (PV sig)) (m : Mem sig) : ∀ ρ K, T124 (Tabs 0) ρ args m K = none := by
  rcases rc124_0 args m with h | ⟨a1, a2, a3, rfl, rfl⟩
  · exact fun ρ K => h ..
  · exact fun ρ K => rfl

theorem z125 (args : List (PV sig)) (m : Mem sig) : ∀ ρ K, T125 (Tabs 0) ρ args m K = none := by
  rcases rc125_0 args m with h | ⟨a1, a2, a3, rfl, rfl⟩
  · exact fun ρ K => h ..
  · exact fun ρ K => rfl

theorem z126 (args : List (PV sig)) (m : Mem sig) : ∀ ρ K, T126 (Tabs 0) ρ args m K = none := by
  rcases rc126_0 args m with h | ⟨a1, a2, rfl, rfl⟩
  · exact fun ρ K => h ..
  · exact fun ρ K => rfl

theorem z127 (args : List (PV sig)) (m : Mem sig) : ∀ ρ K, T127 (Tabs 0) ρ args m K = none := by
  rcases rc127_0 args m with h | ⟨a1, rfl, rfl⟩
  · exact fun ρ K => h ..
  · exact fun ρ K => rfl

theorem z130 (args : List (PV sig)) (m : Mem sig) : ∀ ρ K, T130 (Tabs 0) ρ args m K = none := by
  rcases rc130_0 args m with h | ⟨a1, rfl, rfl⟩
  · exact fun ρ K => h ..
  · obtain ⟨a1_0, a1_1, a1_2⟩ := a1; exact fun ρ K => rfl

theorem z132 (args : List (PV sig)) (m : Mem sig) : ∀ ρ K, T132 (Tabs 0) ρ args m K = none := by
  rcases rc132_0 args m with h | ⟨a1, rfl, rfl⟩
  · exact fun ρ K => h ..
  · exact fun ρ K => rfl

theorem z133 (args : List (PV sig)) (m : Mem sig) : ∀ ρ K, T133 (Tabs 0) ρ args m K = none := by
  rcases rc133_0 args m with h | ⟨a1, a2, rfl, rfl⟩
  · exact fun ρ K => h ..
  · exact fun ρ K => rfl

theorem z139 (args : List (PV sig)) (m : Mem sig) : ∀ ρ K, T139 (Tabs 0) ρ args m K = none := by
  rcases rc139_0 args m with h | ⟨a1, rfl, rfl⟩
  · exact fun ρ K => h ..
  · exact fun ρ K => rfl

theorem z140 (args : List (PV sig)) (m : Mem sig) : ∀ ρ K, T140 (Tabs 0) ρ args m K = none := by
  rcases rc140_0 args m with h | ⟨a1, rfl, rfl⟩
  · exact fun ρ K => h ..
  · obtain ⟨a1_0, a1_1, a1_2⟩ := a1; exact fun ρ K => rfl

theorem z141 (args : List (PV sig)) (m : Mem sig) : ∀ ρ K, T141 (Tabs 0) ρ args m K = none := by
  rcases rc141_0 args m with h | ⟨a1, a2, rfl, rfl⟩
  · exact fun ρ K => h ..
  · exact fun ρ K => rfl

theorem z0 (f : Nat) (args : List (PV sig)) (m : Mem sig) : ∀ ρ K, T (Tabs 0) ρ f args m K = none := by
  unfold T
  cases hc : Nat.beq f 3 with
  | true => simp only [cond_true]; exact z3 args m
  | false =>
  simp only [cond_false]; clear hc
  cases hc : Nat.beq f 8 with
  | true => simp only [cond_true]; exact z8 args m
  | false =>
  simp only [cond_false]; clear hc
  cases hc : Nat.beq f 9 with
  | true => simp only [cond_true]; exact z9 args m
  | false =>
  simp only [cond_false]; clear hc
  cases hc : Nat.beq f 10 with
  | true => simp only [cond_true]; exact z10 args m
  | false =>
  simp only [cond_false]; clear hc
  cases hc : Nat.beq f 11 with
  | true => simp only [cond_true]; exact z11 args m
  | false =>
  simp only [cond_false]; clear hc
  cases hc : Nat.beq f 13 with
  | true => simp only [cond_true]; exact z13 args m
  | false =>
  simp only [cond_false]; clear hc
  cases hc : Nat.beq f 14 with
  | true => simp only [cond_true]; exact z14 args m
  | false =>
  simp only [cond_false]; clear hc
  cases hc : Nat.beq f 28 with
  | true => simp only [cond_true]; exact z28 args m
  | false =>
  simp only [cond_false]; clear hc
  cases hc : Nat.beq f 30 with
  | true => simp only [cond_true]; exact z30 args m
  | false =>
  simp only [cond_false]; clear hc
  cases hc : Nat.beq f 31 with
  | true => simp only [cond_true]; exact z31 args m
  | false =>
  simp only [cond_false]; clear hc
  cases hc : Nat.beq f 32 with
  | true => simp only [cond_true]; exact z32 args m
  | false =>
  simp only [cond_false]; clear hc
  cases hc : Nat.beq f 33 with
  | true => simp only [cond_true]; exact z33 args m
  | false =>
  simp only [cond_false]; clear hc
  cases hc : Nat.beq f 34 with
  | true => simp only [cond_true]; exact z34 args m
  | false =>
  simp only [cond_false]; clear hc
  cases hc : Nat.beq f 35 with
  | true => simp only [cond_true]; exact z35 args m
  | false =>
  simp only [cond_false]; clear hc
  cases hc : Nat.beq f 36 with
  | true => simp only [cond_true]; exact z36 args m
  | false =>
  simp only [cond_false]; clear hc
  cases hc : Nat.beq f 37 with
  | true => simp only [cond_true]; exact z37 args m
  | false =>
  simp only [cond_false]; clear hc
  cases hc : Nat.beq f 38 with
  | true => simp only [cond_true]; exact z38 args m
  | false =>
  simp only [cond_false]; clear hc
  cases hc : Nat.beq f 42 with
  | true => simp only [cond_true]; exact z42 args m
  | false =>
  simp only [cond_false]; clear hc
  cases hc : Nat.beq f 43 with
  | true => simp only [cond_true]; exact z43 args m
  | false =>
  simp only [cond_false]; clear hc
  cases hc : Nat.beq f 44 with
  | true => simp only [cond_true]; exact z44 args m
  | false =>
  simp only [cond_false]; clear hc
  cases hc : Nat.beq f 54 with
  | true => simp only [cond_true]; exact z54 args m
  | false =>
  simp only [cond_false]; clear hc
  cases hc : Nat.beq f 57 with
  | true => simp only [cond_true]; exact z57 args m
  | false =>
  simp only [cond_false]; clear hc
  cases hc : Nat.beq f 59 with
  | true => simp only [cond_true]; exact z59 args m
  | false =>
  simp only [cond_false]; clear hc
  cases hc : Nat.beq f 65 with
  | true => simp only [cond_true]; exact z65 args m
  | false =>
  simp only [cond_false]; clear hc
  cases hc : Nat.beq f 66 with
  | true => simp only [cond_true]; exact z66 args m
  | false =>
  simp only [cond_false]; clear hc
  cases hc : Nat.beq f 67 with
  | true => simp only [cond_true]; exact z67 args m
  | false =>
  simp only [cond_false]; clear hc
  cases hc : Nat.beq f 68 with
  | true => simp only [cond_true]; exact z68 args m
  | false =>
  simp only [cond_false]; clear hc
  cases hc : Nat.beq f 69 with
  | true => simp only [cond_true]; exact z69 args m
  | false =>
  simp only [cond_false]; clear hc
  cases hc : Nat.beq f 70 with
  | true => simp only [cond_true]; exact z70 args m
  | false =>
  simp only [cond_false]; clear hc
  cases hc : Nat.beq f 71 with
  | true => simp only [cond_true]; exact z71 args m
  | false =>
  simp only [cond_false]; clear hc
  cases hc : Nat.beq f 72 with
  | true => simp only [cond_true]; exact z72 args m
  | false =>
  simp only [cond_false]; clear hc
  cases hc : Nat.beq f 73 with
  | true => simp only [cond_true]; exact z73 args m
  | false =>
  simp only [cond_false]; clear hc
  cases hc : Nat.beq f 74 with
  | true => simp only [cond_true]; exact z74 args m
  | false =>
  simp only [cond_false]; clear hc
  cases hc : Nat.beq f 75 with
  | true => simp only [cond_true]; exact z75 args m
  | false =>
  simp only [cond_false]; clear hc
  cases hc : Nat.beq f 76 with
  | true => simp only [cond_true]; exact z76 args m
  | false =>
  simp only [cond_false]; clear hc
  cases hc : Nat.beq f 77 with
  | true => simp only [cond_true]; exact z77 args m
  | false =>
  simp only [cond_false]; clear hc
  cases hc : Nat.beq f 78 with
  | true => simp only [cond_true]; exact z78 args m
  | false =>
  simp only [cond_false]; clear hc
  cases hc : Nat.beq f 82 with
  | true => simp only [cond_true]; exact z82 args m
  | false =>
  simp only [cond_false]; clear hc
  cases hc : Nat.beq f 83 with
  | true => simp only [cond_true]; exact z83 args m
  | false =>
  simp only [cond_false]; clear hc
  cases hc : Nat.beq f 89 with
  | true => simp only [cond_true]; exact z89 args m
  | false =>
  simp only [cond_false]; clear hc
  cases hc : Nat.beq f 90 with
  | true => simp only [cond_true]; exact z90 args m
  | false =>
  simp only [cond_false]; clear hc
  cases hc : Nat.beq f 92 with
  | true => simp only [cond_true]; exact z92 args m
  | false =>
  simp only [cond_false]; clear hc
  cases hc : Nat.beq f 93 with
  | true => simp only [cond_true]; exact z93 args m
  | false =>
  simp only [cond_false]; clear hc
  cases hc : Nat.beq f 94 with
  | true => simp only [cond_true]; exact z94 args m
  | false =>
  simp only [cond_false]; clear hc
  cases hc : Nat.beq f 95 with
  | true => simp only [cond_true]; exact z95 args m
  | false =>
  simp only [cond_false]; clear hc
  cases hc : Nat.beq f 97 with
  | true => simp only [cond_true]; exact z97 args m
  | false =>
  simp only [cond_false]; clear hc
  cases hc : Nat.beq f 102 with
  | true => simp only [cond_true]; exact z102 args m
  | false =>
  simp only [cond_false]; clear hc
  cases hc : Nat.beq f 103 with
  | true => simp only [cond_true]; exact z103 args m
  | false =>
  simp only [cond_false]; clear hc
  cases hc : Nat.beq f 104 with
  | true => simp only [cond_true]; exact z104 args m
  | false =>
  simp only [cond_false]; clear hc
  cases hc : Nat.beq f 105 with
  | true => simp only [cond_true]; exact z105 args m
  | false =>
  simp only [cond_false]; clear hc
  cases hc : Nat.beq f 106 with
  | true => simp only [cond_true]; exact z106 args m
  | false =>
  simp only [cond_false]; clear hc
  cases hc : Nat.beq f 107 with
  | true => simp only [cond_true]; exact z107 args m
  | false =>
  simp only [cond_false]; clear hc
  cases hc : Nat.beq f 108 with
  | true => simp only [cond_true]; exact z108 args m
  | false =>
  simp only [cond_false]; clear hc
  cases hc : Nat.beq f 109 with
  | true => simp only [cond_true]; exact z109 args m
  | false =>
  simp only [cond_false]; clear hc
  cases hc : Nat.beq f 110 with
  | true => simp only [cond_true]; exact z110 args m
  | false =>
  simp only [cond_false]; clear hc
  cases hc : Nat.beq f 111 with
  | true => simp only [cond_true]; exact z111 args m
  | false =>
  simp only [cond_false]; clear hc
  cases hc : Nat.beq f 112 with
  | true => simp only [cond_true]; exact z112 args m
  | false =>
  simp only [cond_false]; clear hc
  cases hc : Nat.beq f 113 with
  | true => simp only [cond_true]; exact z113 args m
  | false =>
  simp only [cond_false]; clear hc
  cases hc : Nat.beq f 114 with
  | true => simp only [cond_true]; exact z114 args m
  | false =>
  simp only [cond_false]; clear hc
  cases hc : Nat.beq f 115 with
  | true => simp only [cond_true]; exact z115 args m
  | false =>
  simp only [cond_false]; clear hc
  cases hc : Nat.beq f 116 with
  | true => simp only [cond_true]; exact z116 args m
  | false =>
  simp only [cond_false]; clear hc
  cases hc : Nat.beq f 117 with
  | true => simp only [cond_true]; exact z117 args m
  | false =>
  simp only [cond_false]; clear hc
  cases hc : Nat.beq f 118 with
  | true => simp only [cond_true]; exact z118 args m
  | false =>
  simp only [cond_false]; clear hc
  cases hc : Nat.beq f 119 with
  | true => simp only [cond_true]; exact z119 args m
  | false =>
  simp only [cond_false]; clear hc
  cases hc : Nat.beq f 120 with
  | true => simp only [cond_true]; exact z120 args m
  | false =>
  simp only [cond_false]; clear hc
  cases hc : Nat.beq f 121 with
  | true => simp only [cond_true]; exact z121 args m
  | false =>
  simp only [cond_false]; clear hc
  cases hc : Nat.beq f 122 with
  | true => simp only [cond_true]; exact z122 args m
  | false =>
  simp only [cond_false]; clear hc
  cases hc : Nat.beq f 123 with
  | true => simp only [cond_true]; exact z123 args m
  | false =>
  simp only [cond_false]; clear hc
  cases hc : Nat.beq f 124 with
  | true => simp only [cond_true]; exact z124 args m
  | false =>
  simp only [cond_false]; clear hc
  cases hc : Nat.beq f 125 with
  | true => simp only [cond_true]; exact z125 args m
  | false =>
  simp only [cond_false]; clear hc
  cases hc : Nat.beq f 126 with
  | true => simp only [cond_true]; exact z126 args m
  | false =>
  simp only [cond_false]; clear hc
  cases hc : Nat.beq f 127 with
  | true => simp only [cond_true]; exact z127 args m
  | false =>
  simp only [cond_false]; clear hc
  cases hc : Nat.beq f 130 with
  | true => simp only [cond_true]; exact z130 args m
  | false =>
  simp only [cond_false]; clear hc
  cases hc : Nat.beq f 132 with
  | true => simp only [cond_true]; exact z132 args m
  | false =>
  simp only [cond_false]; clear hc
  cases hc : Nat.beq f 133 with
  | true => simp only [cond_true]; exact z133 args m
  | false =>
  simp only [cond_false]; clear hc
  cases hc : Nat.beq f 139 with
  | true => simp only [cond_true]; exact z139 args m
  | false =>
  simp only [cond_false]; clear hc
  cases hc : Nat.beq f 140 with
  | true => simp only [cond_true]; exact z140 args m
  | false =>
  simp only [cond_false]; clear hc
  cases hc : Nat.beq f 141 with
  | true => simp only [cond_true]; exact z141 args m
  | false =>
  simp only [cond_false]; clear hc
  first | exact fun _ _ => rfl | exact fun _ _ => trivial

theorem zl10_4_0 (vs : List (PV sig)) (m : Mem sig) (ds : List (FuncId × List (PV sig))) (nt : Nat) : ∀ ρ K, Rl10_4_0 (Tabs 0) ρ vs m ds nt K = none := by
  rcases rl10_4_0 vs m ds nt with h | ⟨a1, a2, a3, rfl, rfl, rfl, rfl⟩
  · exact fun ρ K => h ..
  · obtain ⟨a2_0, a2_1, a2_2⟩ := a2; obtain ⟨a3_0, a3_1, a3_2⟩ := a3; exact fun ρ K => rfl

theorem zl28_6_0 (vs : List (PV sig)) (m : Mem sig) (ds : List (FuncId × List (PV sig))) (nt : Nat) : ∀ ρ K, Rl28_6_0 (Tabs 0) ρ vs m ds nt K = none := by
  rcases rl28_6_0 vs m ds nt with h | ⟨a1, a2, a3, a4, rfl, rfl, rfl, rfl⟩
  · exact fun ρ K => h ..
  · exact fun ρ K => rfl

theorem zl30_4_0 (vs : List (PV sig)) (m : Mem sig) (ds : List (FuncId × List (PV sig))) (nt : Nat) : ∀ ρ K, Rl30_4_0 (Tabs 0) ρ vs m ds nt K = none := by
  rcases rl30_4_0 vs m ds nt with h | ⟨a1, a2, a3, a4, a5, rfl, rfl, rfl, rfl⟩
  · exact fun ρ K => h ..
  · obtain ⟨a4_0, a4_1, a4_2⟩ := a4; obtain ⟨a5_0, a5_1, a5_2⟩ := a5; exact fun ρ K => rfl

theorem zl34_5_0 (vs : List (PV sig)) (m : Mem sig) (ds : List (FuncId × List (PV sig))) (nt : Nat) : ∀ ρ K, Rl34_5_0 (Tabs 0) ρ vs m ds nt K = none := by
  rcases rl34_5_0 vs m ds nt with h | ⟨a1, a2, a3, rfl, rfl, rfl, rfl⟩
  · exact fun ρ K => h ..
  · exact fun ρ K => rfl

theorem zl35_9_0 (vs : List (PV sig)) (m : Mem sig) (ds : List (FuncId × List (PV sig))) (nt : Nat) : ∀ ρ K, Rl35_9_0 (Tabs 0) ρ vs m ds nt K = none := by
  rcases rl35_9_0 vs m ds nt with h | ⟨a1, a2, a3, a4, a5, a6, rfl, rfl, rfl, rfl⟩
  · exact fun ρ K => h ..
  · obtain ⟨a5_0, a5_1, a5_2⟩ := a5; obtain ⟨a6_0, a6_1, a6_2⟩ := a6; exact fun ρ K => rfl

theorem zl42_3_0 (vs : List (PV sig)) (m : Mem sig) (ds : List (FuncId × List (PV sig))) (nt : Nat) : ∀ ρ K, Rl42_3_0 (Tabs 0) ρ vs m ds nt K = none := by
  rcases rl42_3_0 vs m ds nt with h | ⟨a1, a2, a3, a4, rfl, rfl, rfl, rfl⟩
  · exact fun ρ K => h ..
  · obtain ⟨a4_0, a4_1, a4_2⟩ := a4; exact fun ρ K => rfl

theorem zl43_18_0 (vs : List (PV sig)) (m : Mem sig) (ds : List (FuncId × List (PV sig))) (nt : Nat) : ∀ ρ K, Rl43_18_0 (Tabs 0) ρ vs m ds nt K = none := by
  rcases rl43_18_0 vs m ds nt with h | ⟨a1, a2, a3, rfl, rfl, rfl, rfl⟩
  · exact fun ρ K => h ..
  · obtain ⟨a3_0, a3_1, a3_2⟩ := a3; exact fun ρ K => rfl

theorem zl65_0_0 (vs : List (PV sig)) (m : Mem sig) (ds : List (FuncId × List (PV sig))) (nt : Nat) : ∀ ρ K, Rl65_0_0 (Tabs 0) ρ vs m ds nt K = none := by
  rcases rl65_0_0 vs m ds nt with h | ⟨a1, a2, rfl, rfl, rfl, rfl⟩
  · exact fun ρ K => h ..
  · exact fun ρ K => rfl

theorem zl69_2_0 (vs : List (PV sig)) (m : Mem sig) (ds : List (FuncId × List (PV sig))) (nt : Nat) : ∀ ρ K, Rl69_2_0 (Tabs 0) ρ vs m ds nt K = none := by
  rcases rl69_2_0 vs m ds nt with h | ⟨a1, a2, a3, a4, rfl, rfl, rfl, rfl⟩
  · exact fun ρ K => h ..
  · obtain ⟨a3_0, a3_1, a3_2⟩ := a3; obtain ⟨a4_0, a4_1, a4_2⟩ := a4; exact fun ρ K => rfl

theorem zl70_20_0 (vs : List (PV sig)) (m : Mem sig) (ds : List (FuncId × List (PV sig))) (nt : Nat) : ∀ ρ K, Rl70_20_0 (Tabs 0) ρ vs m ds nt K = none := by
  rcases rl70_20_0 vs m ds nt with h | ⟨a1, a2, a3, a4, a5, rfl, rfl, rfl, rfl⟩
  · exact fun ρ K => h ..
  · exact fun ρ K => rfl

theorem zl71_1_0 (vs : List (PV sig)) (m : Mem sig) (ds : List (FuncId × List (PV sig))) (nt : Nat) : ∀ ρ K, Rl71_1_0 (Tabs 0) ρ vs m ds nt K = none := by
  rcases rl71_1_0 vs m ds nt with h | ⟨a1, a2, rfl, rfl, rfl, rfl⟩
  · exact fun ρ K => h ..
  · exact fun ρ K => rfl

theorem zl71_6_0 (vs : List (PV sig)) (m : Mem sig) (ds : List (FuncId × List (PV sig))) (nt : Nat) : ∀ ρ K, Rl71_6_0 (Tabs 0) ρ vs m ds nt K = none := by
  rcases rl71_6_0 vs m ds nt with h | ⟨a1, a2, rfl, rfl, rfl, rfl⟩
  · exact fun ρ K => h ..
  · exact fun ρ K => rfl

theorem zl75_2_0 (vs : List (PV sig)) (m : Mem sig) (ds : List (FuncId × List (PV sig))) (nt : Nat) : ∀ ρ K, Rl75_2_0 (Tabs 0) ρ vs m ds nt K = none := by
  rcases rl75_2_0 vs m ds nt with h | ⟨a1, a2, a3, a4, a5, rfl, rfl, rfl, rfl⟩
  · exact fun ρ K => h ..
  · obtain ⟨a4_0, a4_1, a4_2⟩ := a4; obtain ⟨a5_0, a5_1, a5_2⟩ := a5; exact fun ρ K => rfl

theorem zl83_1_0 (vs : List (PV sig)) (m : Mem sig) (ds : List (FuncId × List (PV sig))) (nt : Nat) : ∀ ρ K, Rl83_1_0 (Tabs 0) ρ vs m ds nt K = none := by
  rcases rl83_1_0 vs m ds nt with h | ⟨a1, a2, rfl, rfl, rfl, rfl⟩
  · exact fun ρ K => h ..
  · exact fun ρ K => rfl

theorem zl92_4_0 (vs : List (PV sig)) (m : Mem sig) (ds : List (FuncId × List (PV sig))) (nt : Nat) : ∀ ρ K, Rl92_4_0 (Tabs 0) ρ vs m ds nt K = none := by
  rcases rl92_4_0 vs m ds nt with h | ⟨a1, a2, a3, rfl, rfl, rfl, rfl⟩
  · exact fun ρ K => h ..
  · exact fun ρ K => rfl

theorem zl106_2_0 (vs : List (PV sig)) (m : Mem sig) (ds : List (FuncId × List (PV sig))) (nt : Nat) : ∀ ρ K, Rl106_2_0 (Tabs 0) ρ vs m ds nt K = none := by
  rcases rl106_2_0 vs m ds nt with h | ⟨a1, a2, a3, a4, rfl, rfl, rfl, rfl⟩
  · exact fun ρ K => h ..
  · exact fun ρ K => rfl

theorem zl122_5_0 (vs : List (PV sig)) (m : Mem sig) (ds : List (FuncId × List (PV sig))) (nt : Nat) : ∀ ρ K, Rl122_5_0 (Tabs 0) ρ vs m ds nt K = none := by
  rcases rl122_5_0 vs m ds nt with h | ⟨a1, a2, a3, rfl, rfl, rfl, rfl⟩
  · exact fun ρ K => h ..
  · exact fun ρ K => rfl

theorem zl126_2_0 (vs : List (PV sig)) (m : Mem sig) (ds : List (FuncId × List (PV sig))) (nt : Nat) : ∀ ρ K, Rl126_2_0 (Tabs 0) ρ vs m ds nt K = none := by
  rcases rl126_2_0 vs m ds nt with h | ⟨a1, a2, a3, a4, rfl, rfl, rfl, rfl⟩
  · exact fun ρ K => h ..
  · exact fun ρ K => rfl

theorem zl133_2_0 (vs : List (PV sig)) (m : Mem sig) (ds : List (FuncId × List (PV sig))) (nt : Nat) : ∀ ρ K, Rl133_2_0 (Tabs 0) ρ vs m ds nt K = none := by
  rcases rl133_2_0 vs m ds nt with h | ⟨a1, a2, a3, a4, rfl, rfl, rfl, rfl⟩
  · exact fun ρ K => h ..
  · exact fun ρ K => rfl

theorem zL (f np key : Nat) (st : St sig) : ∀ ρ K, LT (Tabs 0) ρ f np key st K = none := by
  unfold LT
  cases hc : Nat.beq f 10 && (Nat.beq np 0 && Nat.beq key 4) with
  | true => simp only [cond_true]; exact zl10_4_0 _ _ _ _
  | false =>
  simp only [cond_false]; clear hc
  cases hc : Nat.beq f 28 && (Nat.beq np 0 && Nat.beq key 6) with
  | true => simp only [cond_true]; exact zl28_6_0 _ _ _ _
  | false =>
  simp only [cond_false]; clear hc
  cases hc : Nat.beq f 30 && (Nat.beq np 1 && Nat.beq key 4) with
  | true => simp only [cond_true]; exact zl30_4_0 _ _ _ _
  | false =>
  simp only [cond_false]; clear hc
  cases hc : Nat.beq f 34 && (Nat.beq np 0 && Nat.beq key 5) with
  | true => simp only [cond_true]; exact zl34_5_0 _ _ _ _
  | false =>
  simp only [cond_false]; clear hc
  cases hc : Nat.beq f 35 && (Nat.beq np 1 && Nat.beq key 9) with
  | true => simp only [cond_true]; exact zl35_9_0 _ _ _ _
  | false =>
  simp only [cond_false]; clear hc
  cases hc : Nat.beq f 42 && (Nat.beq np 0 && Nat.beq key 3) with
  | true => simp only [cond_true]; exact zl42_3_0 _ _ _ _
  | false =>
  simp only [cond_false]; clear hc
  cases hc : Nat.beq f 43 && (Nat.beq np 0 && Nat.beq key 18) with
  | true => simp only [cond_true]; exact zl43_18_0 _ _ _ _
  | false =>
  simp only [cond_false]; clear hc
  cases hc : Nat.beq f 65 && (Nat.beq np 1 && Nat.beq key 0) with
  | true => simp only [cond_true]; exact zl65_0_0 _ _ _ _
  | false =>
  simp only [cond_false]; clear hc
  cases hc : Nat.beq f 69 && (Nat.beq np 1 && Nat.beq key 2) with
  | true => simp only [cond_true]; exact zl69_2_0 _ _ _ _
  | false =>
  simp only [cond_false]; clear hc
  cases hc : Nat.beq f 70 && (Nat.beq np 1 && Nat.beq key 20) with
  | true => simp only [cond_true]; exact zl70_20_0 _ _ _ _
  | false =>
  simp only [cond_false]; clear hc
  cases hc : Nat.beq f 71 && (Nat.beq np 0 && Nat.beq key 1) with
  | true => simp only [cond_true]; exact zl71_1_0 _ _ _ _
  | false =>
  simp only [cond_false]; clear hc
  cases hc : Nat.beq f 71 && (Nat.beq np 0 && Nat.beq key 6) with
  | true => simp only [cond_true]; exact zl71_6_0 _ _ _ _
  | false =>
  simp only [cond_false]; clear hc
  cases hc : Nat.beq f 75 && (Nat.beq np 1 && Nat.beq key 2) with
  | true => simp only [cond_true]; exact zl75_2_0 _ _ _ _
  | false =>
  simp only [cond_false]; clear hc
  cases hc : Nat.beq f 83 && (Nat.beq np 0 && Nat.beq key 1) with
  | true => simp only [cond_true]; exact zl83_1_0 _ _ _ _
  | false =>
  simp only [cond_false]; clear hc
  cases hc : Nat.beq f 92 && (Nat.beq np 0 && Nat.beq key 4) with
  | true => simp only [cond_true]; exact zl92_4_0 _ _ _ _
  | false =>
  simp only [cond_false]; clear hc
  cases hc : Nat.beq f 106 && (Nat.beq np 1 && Nat.beq key 2) with
  | true => simp only [cond_true]; exact zl106_2_0 _ _ _ _
  | false =>
  simp only [cond_false]; clear hc
  cases hc : Nat.beq f 122 && (Nat.beq np 0 && Nat.beq key 5) with
  | true => simp only [cond_true]; exact zl122_5_0 _ _ _ _
  | false =>
  simp only [cond_false]; clear hc
  cases hc : Nat.beq f 126 && (Nat.beq np 0 && Nat.beq key 2) with
  | true => simp only [cond_true]; exact zl126_2_0 _ _ _ _
  | false =>
  simp only [cond_false]; clear hc
  cases hc : Nat.beq f 133 && (Nat.beq np 0 && Nat.beq key 2) with
  | true => simp only [cond_true]; exact zl133_2_0 _ _ _ _
  | false =>
  simp only [cond_false]; clear hc
  first | exact fun _ _ => rfl | exact fun _ _ => trivial

theorem levels : Levels Tryz.prog lay hints dfT PK (fun k => T (Tabs k)) (fun k => LT (Tabs k)) where
  t0 ρ f args m K := z0 f args m ρ K
  l0 ρ f np key st K := zL f np key st ρ K
  t k f args m := tT k f args m
  l k f np key st := tL k f np key st

end Go.Proofs.YtanfoijdfcnpoaaGreatDoor.Ev
