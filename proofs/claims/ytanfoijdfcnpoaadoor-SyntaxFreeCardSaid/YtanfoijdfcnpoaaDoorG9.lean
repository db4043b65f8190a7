/- This file proves that the tables of typed functions are sound; without any condition. -/
import Derived.Test.YtanfoijdfcnpoaaDoorU2
import Derived.Test.YtanfoijdfcnpoaaDoorG2
import Derived.Test.YtanfoijdfcnpoaaDoorG3
import Derived.Test.YtanfoijdfcnpoaaDoorG4
import Derived.Test.YtanfoijdfcnpoaaDoorG5
import Derived.Test.YtanfoijdfcnpoaaDoorG6
set_option linter.unusedVariables false
set_option linter.unusedSimpArgs false
namespace Go.Proofs.YtanfoijdfcnpoaaDoor.Ev

theorem t3 (k : Nat) (args : List (PV sig)) (m : Mem sig) : (∀ ρ K, T3 (Tabs (k + 1)) ρ args m K = none) ∨ (∀ ρ K, T3 (Tabs (k + 1)) ρ args m K = evF Tryd.prog lay (T (Tabs k)) (LT (Tabs k)) hints dfT 3 args m K) ∨ ∃ r, CallOk Tryd.prog lay 3 args m r ∧ ∀ ρ K, T3 (Tabs (k + 1)) ρ args m K = K r := by
  rcases rc3_0 args m with h | ⟨a1, rfl, rfl⟩
  · exact .inl fun ρ K => h ..
  · obtain ⟨a1_0, a1_1, a1_2⟩ := a1; exact .inr (.inl fun ρ K => (gc3_0 (Tabs k) ρ K ⟨a1_0, a1_1, a1_2⟩).symm)

theorem t4 (k : Nat) (args : List (PV sig)) (m : Mem sig) : (∀ ρ K, T4 (Tabs (k + 1)) ρ args m K = none) ∨ (∀ ρ K, T4 (Tabs (k + 1)) ρ args m K = evF Tryd.prog lay (T (Tabs k)) (LT (Tabs k)) hints dfT 4 args m K) ∨ ∃ r, CallOk Tryd.prog lay 4 args m r ∧ ∀ ρ K, T4 (Tabs (k + 1)) ρ args m K = K r := by
  rcases rc4_0 args m with h | ⟨a1, a2, rfl, rfl⟩
  · exact .inl fun ρ K => h ..
  · obtain ⟨a1_0, a1_1, a1_2⟩ := a1; obtain ⟨a2_0, a2_1, a2_2⟩ := a2; exact .inr (.inl fun ρ K => (gc4_0 (Tabs k) ρ K ⟨a1_0, a1_1, a1_2⟩ ⟨a2_0, a2_1, a2_2⟩).symm)

theorem t5 (k : Nat) (args : List (PV sig)) (m : Mem sig) : (∀ ρ K, T5 (Tabs (k + 1)) ρ args m K = none) ∨ (∀ ρ K, T5 (Tabs (k + 1)) ρ args m K = evF Tryd.prog lay (T (Tabs k)) (LT (Tabs k)) hints dfT 5 args m K) ∨ ∃ r, CallOk Tryd.prog lay 5 args m r ∧ ∀ ρ K, T5 (Tabs (k + 1)) ρ args m K = K r := by
  rcases rc5_0 args m with h | ⟨a1, a2, a3, rfl, rfl⟩
  · exact .inl fun ρ K => h ..
  · obtain ⟨a1_0, a1_1, a1_2⟩ := a1; obtain ⟨a2_0, a2_1, a2_2⟩ := a2; obtain ⟨a3_0, a3_1, a3_2⟩ := a3; exact .inr (.inl fun ρ K => (gc5_0 (Tabs k) ρ K ⟨a1_0, a1_1, a1_2⟩ ⟨a2_0, a2_1, a2_2⟩ ⟨a3_0, a3_1, a3_2⟩).symm)

theorem t6 (k : Nat) (args : List (PV sig)) (m : Mem sig) : (∀ ρ K, T6 (Tabs (k + 1)) ρ args m K = none) ∨ (∀ ρ K, T6 (Tabs (k + 1)) ρ args m K = evF Tryd.prog lay (T (Tabs k)) (LT (Tabs k)) hints dfT 6 args m K) ∨ ∃ r, CallOk Tryd.prog lay 6 args m r ∧ ∀ ρ K, T6 (Tabs (k + 1)) ρ args m K = K r := by
  rcases rc6_0 args m with h | ⟨a1, rfl, rfl⟩
  · exact .inl fun ρ K => h ..
  · obtain ⟨a1_0, a1_1, a1_2⟩ := a1; exact .inr (.inl fun ρ K => (gc6_0 (Tabs k) ρ K ⟨a1_0, a1_1, a1_2⟩).symm)

theorem t9 (k : Nat) (args : List (PV sig)) (m : Mem sig) : (∀ ρ K, T9 (Tabs (k + 1)) ρ args m K = none) ∨ (∀ ρ K, T9 (Tabs (k + 1)) ρ args m K = evF Tryd.prog lay (T (Tabs k)) (LT (Tabs k)) hints dfT 9 args m K) ∨ ∃ r, CallOk Tryd.prog lay 9 args m r ∧ ∀ ρ K, T9 (Tabs (k + 1)) ρ args m K = K r := by
  rcases rc9_0 args m with h | ⟨a1, rfl, rfl⟩
  · exact .inl fun ρ K => h ..
  · obtain ⟨a1_0, a1_1, a1_2⟩ := a1; exact .inr (.inl fun ρ K => (gc9_0 (Tabs k) ρ K ⟨a1_0, a1_1, a1_2⟩).symm)

theorem t10 (k : Nat) (args : List (PV sig)) (m : Mem sig) : (∀ ρ K, T10 (Tabs (k + 1)) ρ args m K = none) ∨ (∀ ρ K, T10 (Tabs (k + 1)) ρ args m K = evF Tryd.prog lay (T (Tabs k)) (LT (Tabs k)) hints dfT 10 args m K) ∨ ∃ r, CallOk Tryd.prog lay 10 args m r ∧ ∀ ρ K, T10 (Tabs (k + 1)) ρ args m K = K r := by
  rcases rc10_0 args m with h | ⟨a1, rfl, rfl⟩
  · exact .inl fun ρ K => h ..
  · obtain ⟨a1_0, a1_1, a1_2⟩ := a1; exact .inr (.inl fun ρ K => (gc10_0 (Tabs k) ρ K ⟨a1_0, a1_1, a1_2⟩).symm)

theorem t11 (k : Nat) (args : List (PV sig)) (m : Mem sig) : (∀ ρ K, T11 (Tabs (k + 1)) ρ args m K = none) ∨ (∀ ρ K, T11 (Tabs (k + 1)) ρ args m K = evF Tryd.prog lay (T (Tabs k)) (LT (Tabs k)) hints dfT 11 args m K) ∨ ∃ r, CallOk Tryd.prog lay 11 args m r ∧ ∀ ρ K, T11 (Tabs (k + 1)) ρ args m K = K r := by
  rcases rc11_0 args m with h | ⟨a1, rfl, rfl⟩
  · exact .inl fun ρ K => h ..
  · obtain ⟨a1_0, a1_1, a1_2⟩ := a1; exact .inr (.inl fun ρ K => (gc11_0 (Tabs k) ρ K ⟨a1_0, a1_1, a1_2⟩).symm)

theorem t12 (k : Nat) (args : List (PV sig)) (m : Mem sig) : (∀ ρ K, T12 (Tabs (k + 1)) ρ args m K = none) ∨ (∀ ρ K, T12 (Tabs (k + 1)) ρ args m K = evF Tryd.prog lay (T (Tabs k)) (LT (Tabs k)) hints dfT 12 args m K) ∨ ∃ r, CallOk Tryd.prog lay 12 args m r ∧ ∀ ρ K, T12 (Tabs (k + 1)) ρ args m K = K r := by
  rcases rc12_0 args m with h | ⟨rfl, rfl⟩
  · exact .inl fun ρ K => h ..
  · exact .inr (.inl fun ρ K => (gc12_0 (Tabs k) ρ K).symm)

theorem t13 (k : Nat) (args : List (PV sig)) (m : Mem sig) : (∀ ρ K, T13 (Tabs (k + 1)) ρ args m K = none) ∨ (∀ ρ K, T13 (Tabs (k + 1)) ρ args m K = evF Tryd.prog lay (T (Tabs k)) (LT (Tabs k)) hints dfT 13 args m K) ∨ ∃ r, CallOk Tryd.prog lay 13 args m r ∧ ∀ ρ K, T13 (Tabs (k + 1)) ρ args m K = K r := by
  rcases rc13_0 args m with h | ⟨a1, rfl, rfl⟩
  · exact .inl fun ρ K => h ..
  · obtain ⟨a1_0, a1_1, a1_2⟩ := a1; exact .inr (.inl fun ρ K => (gc13_0 (Tabs k) ρ K ⟨a1_0, a1_1, a1_2⟩).symm)

theorem t14 (k : Nat) (args : List (PV sig)) (m : Mem sig) : (∀ ρ K, T14 (Tabs (k + 1)) ρ args m K = none) ∨ (∀ ρ K, T14 (Tabs (k + 1)) ρ args m K = evF Tryd.prog lay (T (Tabs k)) (LT (Tabs k)) hints dfT 14 args m K) ∨ ∃ r, CallOk Tryd.prog lay 14 args m r ∧ ∀ ρ K, T14 (Tabs (k + 1)) ρ args m K = K r := by
  rcases rc14_0 args m with h | ⟨a1, rfl, rfl⟩
  · exact .inl fun ρ K => h ..
  · exact .inr (.inl fun ρ K => (gc14_0 (Tabs k) ρ K a1).symm)

theorem t15 (k : Nat) (args : List (PV sig)) (m : Mem sig) : (∀ ρ K, T15 (Tabs (k + 1)) ρ args m K = none) ∨ (∀ ρ K, T15 (Tabs (k + 1)) ρ args m K = evF Tryd.prog lay (T (Tabs k)) (LT (Tabs k)) hints dfT 15 args m K) ∨ ∃ r, CallOk Tryd.prog lay 15 args m r ∧ ∀ ρ K, T15 (Tabs (k + 1)) ρ args m K = K r := by
  rcases rc15_0 args m with h | ⟨a1, a2, rfl, rfl⟩
  · exact .inl fun ρ K => h ..
  · obtain ⟨a1_0, a1_1, a1_2⟩ := a1; obtain ⟨a2_0, a2_1, a2_2⟩ := a2; exact .inr (.inl fun ρ K => (gc15_0 (Tabs k) ρ K ⟨a1_0, a1_1, a1_2⟩ ⟨a2_0, a2_1, a2_2⟩).symm)

theorem t16 (k : Nat) (args : List (PV sig)) (m : Mem sig) : (∀ ρ K, T16 (Tabs (k + 1)) ρ args m K = none) ∨ (∀ ρ K, T16 (Tabs (k + 1)) ρ args m K = evF Tryd.prog lay (T (Tabs k)) (LT (Tabs k)) hints dfT 16 args m K) ∨ ∃ r, CallOk Tryd.prog lay 16 args m r ∧ ∀ ρ K, T16 (Tabs (k + 1)) ρ args m K = K r := by
  rcases rc16_0 args m with h | ⟨a1, a2, rfl, rfl⟩
  · exact .inl fun ρ K => h ..
  · obtain ⟨a1_0, a1_1, a1_2⟩ := a1; obtain ⟨a2_0, a2_1, a2_2⟩ := a2; exact .inr (.inl fun ρ K => (gc16_0 (Tabs k) ρ K ⟨a1_0, a1_1, a1_2⟩ ⟨a2_0, a2_1, a2_2⟩).symm)

theorem t17 (k : Nat) (args : List (PV sig)) (m : Mem sig) : (∀ ρ K, T17 (Tabs (k + 1)) ρ args m K = none) ∨ (∀ ρ K, T17 (Tabs (k + 1)) ρ args m K = evF Tryd.prog lay (T (Tabs k)) (LT (Tabs k)) hints dfT 17 args m K) ∨ ∃ r, CallOk Tryd.prog lay 17 args m r ∧ ∀ ρ K, T17 (Tabs (k + 1)) ρ args m K = K r := by
  rcases rc17_0 args m with h | ⟨a1, rfl, rfl⟩
  · exact .inl fun ρ K => h ..
  · obtain ⟨a1_0, a1_1, a1_2⟩ := a1; exact .inr (.inl fun ρ K => (gc17_0 (Tabs k) ρ K ⟨a1_0, a1_1, a1_2⟩).symm)

theorem t18 (k : Nat) (args : List (PV sig)) (m : Mem sig) : (∀ ρ K, T18 (Tabs (k + 1)) ρ args m K = none) ∨ (∀ ρ K, T18 (Tabs (k + 1)) ρ args m K = evF Tryd.prog lay (T (Tabs k)) (LT (Tabs k)) hints dfT 18 args m K) ∨ ∃ r, CallOk Tryd.prog lay 18 args m r ∧ ∀ ρ K, T18 (Tabs (k + 1)) ρ args m K = K r := by
  rcases rc18_0 args m with h | ⟨a1, a2, rfl, rfl⟩
  · exact .inl fun ρ K => h ..
  · exact .inr (.inl fun ρ K => (gc18_0 (Tabs k) ρ K a1 a2).symm)

theorem t19 (k : Nat) (args : List (PV sig)) (m : Mem sig) : (∀ ρ K, T19 (Tabs (k + 1)) ρ args m K = none) ∨ (∀ ρ K, T19 (Tabs (k + 1)) ρ args m K = evF Tryd.prog lay (T (Tabs k)) (LT (Tabs k)) hints dfT 19 args m K) ∨ ∃ r, CallOk Tryd.prog lay 19 args m r ∧ ∀ ρ K, T19 (Tabs (k + 1)) ρ args m K = K r := by
  rcases rc19_0 args m with h | ⟨a1, rfl, rfl⟩
  · exact .inl fun ρ K => h ..
  · obtain ⟨a1_0, a1_1, a1_2⟩ := a1; exact .inr (.inl fun ρ K => (gc19_0 (Tabs k) ρ K ⟨a1_0, a1_1, a1_2⟩).symm)

theorem t22 (k : Nat) (args : List (PV sig)) (m : Mem sig) : (∀ ρ K, T22 (Tabs (k + 1)) ρ args m K = none) ∨ (∀ ρ K, T22 (Tabs (k + 1)) ρ args m K = evF Tryd.prog lay (T (Tabs k)) (LT (Tabs k)) hints dfT 22 args m K) ∨ ∃ r, CallOk Tryd.prog lay 22 args m r ∧ ∀ ρ K, T22 (Tabs (k + 1)) ρ args m K = K r := by
  rcases rc22_0 args m with h | ⟨a1, a2, a3, rfl, rfl⟩
  · exact .inl fun ρ K => h ..
  · obtain ⟨a1_0, a1_1, a1_2⟩ := a1; exact .inr (.inl fun ρ K => (gc22_0 (Tabs k) ρ K ⟨a1_0, a1_1, a1_2⟩ a2 a3).symm)

theorem t23 (k : Nat) (args : List (PV sig)) (m : Mem sig) : (∀ ρ K, T23 (Tabs (k + 1)) ρ args m K = none) ∨ (∀ ρ K, T23 (Tabs (k + 1)) ρ args m K = evF Tryd.prog lay (T (Tabs k)) (LT (Tabs k)) hints dfT 23 args m K) ∨ ∃ r, CallOk Tryd.prog lay 23 args m r ∧ ∀ ρ K, T23 (Tabs (k + 1)) ρ args m K = K r := by
  rcases rc23_0 args m with h | ⟨a1, a2, rfl, rfl⟩
  · exact .inl fun ρ K => h ..
  · obtain ⟨a1_0, a1_1, a1_2⟩ := a1; exact .inr (.inl fun ρ K => (gc23_0 (Tabs k) ρ K ⟨a1_0, a1_1, a1_2⟩ a2).symm)

theorem t24 (k : Nat) (args : List (PV sig)) (m : Mem sig) : (∀ ρ K, T24 (Tabs (k + 1)) ρ args m K = none) ∨ (∀ ρ K, T24 (Tabs (k + 1)) ρ args m K = evF Tryd.prog lay (T (Tabs k)) (LT (Tabs k)) hints dfT 24 args m K) ∨ ∃ r, CallOk Tryd.prog lay 24 args m r ∧ ∀ ρ K, T24 (Tabs (k + 1)) ρ args m K = K r := by
  rcases rc24_0 args m with h | ⟨a1, a2, rfl, rfl⟩
  · exact .inl fun ρ K => h ..
  · obtain ⟨a1_0, a1_1, a1_2⟩ := a1; exact .inr (.inl fun ρ K => (gc24_0 (Tabs k) ρ K ⟨a1_0, a1_1, a1_2⟩ a2).symm)

theorem t25 (k : Nat) (args : List (PV sig)) (m : Mem sig) : (∀ ρ K, T25 (Tabs (k + 1)) ρ args m K = none) ∨ (∀ ρ K, T25 (Tabs (k + 1)) ρ args m K = evF Tryd.prog lay (T (Tabs k)) (LT (Tabs k)) hints dfT 25 args m K) ∨ ∃ r, CallOk Tryd.prog lay 25 args m r ∧ ∀ ρ K, T25 (Tabs (k + 1)) ρ args m K = K r := by
  rcases rc25_0 args m with h | ⟨a1, a2, rfl, rfl⟩
  · exact .inl fun ρ K => h ..
  · obtain ⟨a1_0, a1_1, a1_2⟩ := a1; exact .inr (.inl fun ρ K => (gc25_0 (Tabs k) ρ K ⟨a1_0, a1_1, a1_2⟩ a2).symm)

theorem t26 (k : Nat) (args : List (PV sig)) (m : Mem sig) : (∀ ρ K, T26 (Tabs (k + 1)) ρ args m K = none) ∨ (∀ ρ K, T26 (Tabs (k + 1)) ρ args m K = evF Tryd.prog lay (T (Tabs k)) (LT (Tabs k)) hints dfT 26 args m K) ∨ ∃ r, CallOk Tryd.prog lay 26 args m r ∧ ∀ ρ K, T26 (Tabs (k + 1)) ρ args m K = K r := by
  rcases rc26_0 args m with h | ⟨a1, a2, rfl, rfl⟩
  · exact .inl fun ρ K => h ..
  · exact .inr (.inl fun ρ K => (gc26_0 (Tabs k) ρ K a1 a2).symm)

theorem t27 (k : Nat) (args : List (PV sig)) (m : Mem sig) : (∀ ρ K, T27 (Tabs (k + 1)) ρ args m K = none) ∨ (∀ ρ K, T27 (Tabs (k + 1)) ρ args m K = evF Tryd.prog lay (T (Tabs k)) (LT (Tabs k)) hints dfT 27 args m K) ∨ ∃ r, CallOk Tryd.prog lay 27 args m r ∧ ∀ ρ K, T27 (Tabs (k + 1)) ρ args m K = K r := by
  rcases rc27_0 args m with h | ⟨a1, rfl, rfl⟩
  · exact .inl fun ρ K => h ..
  · obtain ⟨a1_0, a1_1, a1_2⟩ := a1; exact .inr (.inl fun ρ K => (gc27_0 (Tabs k) ρ K ⟨a1_0, a1_1, a1_2⟩).symm)

theorem t28 (k : Nat) (args : List (PV sig)) (m : Mem sig) : (∀ ρ K, T28 (Tabs (k + 1)) ρ args m K = none) ∨ (∀ ρ K, T28 (Tabs (k + 1)) ρ args m K = evF Tryd.prog lay (T (Tabs k)) (LT (Tabs k)) hints dfT 28 args m K) ∨ ∃ r, CallOk Tryd.prog lay 28 args m r ∧ ∀ ρ K, T28 (Tabs (k + 1)) ρ args m K = K r := by
  rcases rc28_0 args m with h | ⟨a1, rfl, rfl⟩
  · exact .inl fun ρ K => h ..
  · exact .inr (.inl fun ρ K => (gc28_0 (Tabs k) ρ K a1).symm)

theorem t30 (k : Nat) (args : List (PV sig)) (m : Mem sig) : (∀ ρ K, T30 (Tabs (k + 1)) ρ args m K = none) ∨ (∀ ρ K, T30 (Tabs (k + 1)) ρ args m K = evF Tryd.prog lay (T (Tabs k)) (LT (Tabs k)) hints dfT 30 args m K) ∨ ∃ r, CallOk Tryd.prog lay 30 args m r ∧ ∀ ρ K, T30 (Tabs (k + 1)) ρ args m K = K r := by
  rcases rc30_0 args m with h | ⟨a1, a2, rfl, rfl⟩
  · exact .inl fun ρ K => h ..
  · exact .inr (.inl fun ρ K => (gc30_0 (Tabs k) ρ K a1 a2).symm)

theorem t31 (k : Nat) (args : List (PV sig)) (m : Mem sig) : (∀ ρ K, T31 (Tabs (k + 1)) ρ args m K = none) ∨ (∀ ρ K, T31 (Tabs (k + 1)) ρ args m K = evF Tryd.prog lay (T (Tabs k)) (LT (Tabs k)) hints dfT 31 args m K) ∨ ∃ r, CallOk Tryd.prog lay 31 args m r ∧ ∀ ρ K, T31 (Tabs (k + 1)) ρ args m K = K r := by
  rcases rc31_0 args m with h | ⟨a1, a2, rfl, rfl⟩
  · exact .inl fun ρ K => h ..
  · exact .inr (.inl fun ρ K => (gc31_0 (Tabs k) ρ K a1 a2).symm)

theorem t32 (k : Nat) (args : List (PV sig)) (m : Mem sig) : (∀ ρ K, T32 (Tabs (k + 1)) ρ args m K = none) ∨ (∀ ρ K, T32 (Tabs (k + 1)) ρ args m K = evF Tryd.prog lay (T (Tabs k)) (LT (Tabs k)) hints dfT 32 args m K) ∨ ∃ r, CallOk Tryd.prog lay 32 args m r ∧ ∀ ρ K, T32 (Tabs (k + 1)) ρ args m K = K r := by
  rcases rc32_0 args m with h | ⟨a1, a2, rfl, rfl⟩
  · exact .inl fun ρ K => h ..
  · exact .inr (.inl fun ρ K => (gc32_0 (Tabs k) ρ K a1 a2).symm)

theorem t33 (k : Nat) (args : List (PV sig)) (m : Mem sig) : (∀ ρ K, T33 (Tabs (k + 1)) ρ args m K = none) ∨ (∀ ρ K, T33 (Tabs (k + 1)) ρ args m K = evF Tryd.prog lay (T (Tabs k)) (LT (Tabs k)) hints dfT 33 args m K) ∨ ∃ r, CallOk Tryd.prog lay 33 args m r ∧ ∀ ρ K, T33 (Tabs (k + 1)) ρ args m K = K r := by
  rcases rc33_0 args m with h | ⟨a1, a2, rfl, rfl⟩
  · exact .inl fun ρ K => h ..
  · exact .inr (.inl fun ρ K => (gc33_0 (Tabs k) ρ K a1 a2).symm)

theorem t34 (k : Nat) (args : List (PV sig)) (m : Mem sig) : (∀ ρ K, T34 (Tabs (k + 1)) ρ args m K = none) ∨ (∀ ρ K, T34 (Tabs (k + 1)) ρ args m K = evF Tryd.prog lay (T (Tabs k)) (LT (Tabs k)) hints dfT 34 args m K) ∨ ∃ r, CallOk Tryd.prog lay 34 args m r ∧ ∀ ρ K, T34 (Tabs (k + 1)) ρ args m K = K r := by
  unfold T34
  cases hc : Nat.beq (modeId (args.getD 1 .any)) 2 && Nat.beq (modeId (args.getD 2 .any)) 2 with
  | true =>
    simp only [cond_true]
    rcases rc34_0 args m with h | ⟨a1, a2, a3, rfl, rfl⟩
    · exact .inl fun ρ K => h ..
    · obtain ⟨a1_0, a1_1, a1_2⟩ := a1; exact .inr (.inl fun ρ K => (gc34_0 (Tabs k) ρ K ⟨a1_0, a1_1, a1_2⟩ a2 a3).symm)
  | false =>
    simp only [cond_false]
    cases hc : Nat.beq (modeId (args.getD 1 .any)) 1 && Nat.beq (modeId (args.getD 2 .any)) 3 with
    | true =>
      simp only [cond_true]
      rcases rc34_1 args m with h | ⟨a1, a2, a3, rfl, rfl⟩
      · exact .inl fun ρ K => h ..
      · obtain ⟨a1_0, a1_1, a1_2⟩ := a1; exact .inr (.inl fun ρ K => (gc34_1 (Tabs k) ρ K ⟨a1_0, a1_1, a1_2⟩ a2 a3).symm)
    | false =>
      simp only [cond_false]
      cases hc : Nat.beq (modeId (args.getD 1 .any)) 3 && Nat.beq (modeId (args.getD 2 .any)) 3 with
      | true =>
        simp only [cond_true]
        rcases rc34_2 args m with h | ⟨a1, a2, a3, rfl, rfl⟩
        · exact .inl fun ρ K => h ..
        · obtain ⟨a1_0, a1_1, a1_2⟩ := a1; exact .inr (.inl fun ρ K => (gc34_2 (Tabs k) ρ K ⟨a1_0, a1_1, a1_2⟩ a2 a3).symm)
      | false =>
        simp only [cond_false]
        first | exact .inl fun _ _ => rfl | exact .inl fun _ _ => trivial

theorem t35 (k : Nat) (args : List (PV sig)) (m : Mem sig) : (∀ ρ K, T35 (Tabs (k + 1)) ρ args m K = none) ∨ (∀ ρ K, T35 (Tabs (k + 1)) ρ args m K = evF Tryd.prog lay (T (Tabs k)) (LT (Tabs k)) hints dfT 35 args m K) ∨ ∃ r, CallOk Tryd.prog lay 35 args m r ∧ ∀ ρ K, T35 (Tabs (k + 1)) ρ args m K = K r := by
  unfold T35
  cases hc : Nat.beq (modeId (args.getD 1 .any)) 2 && Nat.beq (modeId (args.getD 2 .any)) 2 with
  | true =>
    simp only [cond_true]
    rcases rc35_0 args m with h | ⟨a1, a2, a3, rfl, rfl⟩
    · exact .inl fun ρ K => h ..
    · obtain ⟨a1_0, a1_1, a1_2⟩ := a1; exact .inr (.inl fun ρ K => (gc35_0 (Tabs k) ρ K ⟨a1_0, a1_1, a1_2⟩ a2 a3).symm)
  | false =>
    simp only [cond_false]
    cases hc : Nat.beq (modeId (args.getD 1 .any)) 1 && Nat.beq (modeId (args.getD 2 .any)) 3 with
    | true =>
      simp only [cond_true]
      rcases rc35_1 args m with h | ⟨a1, a2, a3, rfl, rfl⟩
      · exact .inl fun ρ K => h ..
      · obtain ⟨a1_0, a1_1, a1_2⟩ := a1; exact .inr (.inl fun ρ K => (gc35_1 (Tabs k) ρ K ⟨a1_0, a1_1, a1_2⟩ a2 a3).symm)
    | false =>
      simp only [cond_false]
      cases hc : Nat.beq (modeId (args.getD 1 .any)) 1 && Nat.beq (modeId (args.getD 2 .any)) 2 with
      | true =>
        simp only [cond_true]
        rcases rc35_2 args m with h | ⟨a1, a2, a3, rfl, rfl⟩
        · exact .inl fun ρ K => h ..
        · obtain ⟨a1_0, a1_1, a1_2⟩ := a1; exact .inr (.inl fun ρ K => (gc35_2 (Tabs k) ρ K ⟨a1_0, a1_1, a1_2⟩ a2 a3).symm)
      | false =>
        simp only [cond_false]
        first | exact .inl fun _ _ => rfl | exact .inl fun _ _ => trivial

theorem t40 (k : Nat) (args : List (PV sig)) (m : Mem sig) : (∀ ρ K, T40 (Tabs (k + 1)) ρ args m K = none) ∨ (∀ ρ K, T40 (Tabs (k + 1)) ρ args m K = evF Tryd.prog lay (T (Tabs k)) (LT (Tabs k)) hints dfT 40 args m K) ∨ ∃ r, CallOk Tryd.prog lay 40 args m r ∧ ∀ ρ K, T40 (Tabs (k + 1)) ρ args m K = K r := by
  rcases rc40_0 args m with h | ⟨a1, rfl, rfl⟩
  · exact .inl fun ρ K => h ..
  · exact .inr (.inl fun ρ K => (gc40_0 (Tabs k) ρ K a1).symm)

theorem t41 (k : Nat) (args : List (PV sig)) (m : Mem sig) : (∀ ρ K, T41 (Tabs (k + 1)) ρ args m K = none) ∨ (∀ ρ K, T41 (Tabs (k + 1)) ρ args m K = evF Tryd.prog lay (T (Tabs k)) (LT (Tabs k)) hints dfT 41 args m K) ∨ ∃ r, CallOk Tryd.prog lay 41 args m r ∧ ∀ ρ K, T41 (Tabs (k + 1)) ρ args m K = K r := by
  rcases rc41_0 args m with h | ⟨a1, a2, rfl, rfl⟩
  · exact .inl fun ρ K => h ..
  · exact .inr (.inl fun ρ K => (gc41_0 (Tabs k) ρ K a1 a2).symm)

theorem t42 (k : Nat) (args : List (PV sig)) (m : Mem sig) : (∀ ρ K, T42 (Tabs (k + 1)) ρ args m K = none) ∨ (∀ ρ K, T42 (Tabs (k + 1)) ρ args m K = evF Tryd.prog lay (T (Tabs k)) (LT (Tabs k)) hints dfT 42 args m K) ∨ ∃ r, CallOk Tryd.prog lay 42 args m r ∧ ∀ ρ K, T42 (Tabs (k + 1)) ρ args m K = K r := by
  rcases rc42_0 args m with h | ⟨a1, rfl, rfl⟩
  · exact .inl fun ρ K => h ..
  · exact .inr (.inl fun ρ K => (gc42_0 (Tabs k) ρ K a1).symm)

theorem t43 (k : Nat) (args : List (PV sig)) (m : Mem sig) : (∀ ρ K, T43 (Tabs (k + 1)) ρ args m K = none) ∨ (∀ ρ K, T43 (Tabs (k + 1)) ρ args m K = evF Tryd.prog lay (T (Tabs k)) (LT (Tabs k)) hints dfT 43 args m K) ∨ ∃ r, CallOk Tryd.prog lay 43 args m r ∧ ∀ ρ K, T43 (Tabs (k + 1)) ρ args m K = K r := by
  rcases rc43_0 args m with h | ⟨a1, a2, rfl, rfl⟩
  · exact .inl fun ρ K => h ..
  · exact .inr (.inl fun ρ K => (gc43_0 (Tabs k) ρ K a1 a2).symm)

theorem t44 (k : Nat) (args : List (PV sig)) (m : Mem sig) : (∀ ρ K, T44 (Tabs (k + 1)) ρ args m K = none) ∨ (∀ ρ K, T44 (Tabs (k + 1)) ρ args m K = evF Tryd.prog lay (T (Tabs k)) (LT (Tabs k)) hints dfT 44 args m K) ∨ ∃ r, CallOk Tryd.prog lay 44 args m r ∧ ∀ ρ K, T44 (Tabs (k + 1)) ρ args m K = K r := by
  rcases rc44_0 args m with h | ⟨a1, rfl, rfl⟩
  · exact .inl fun ρ K => h ..
  · exact .inr (.inl fun ρ K => (gc44_0 (Tabs k) ρ K a1).symm)

theorem t45 (k : Nat) (args : List (PV sig)) (m : Mem sig) : (∀ ρ K, T45 (Tabs (k + 1)) ρ args m K = none) ∨ (∀ ρ K, T45 (Tabs (k + 1)) ρ args m K = evF Tryd.prog lay (T (Tabs k)) (LT (Tabs k)) hints dfT 45 args m K) ∨ ∃ r, CallOk Tryd.prog lay 45 args m r ∧ ∀ ρ K, T45 (Tabs (k + 1)) ρ args m K = K r := by
  rcases rc45_0 args m with h | ⟨a1, a2, a3, rfl, rfl⟩
  · exact .inl fun ρ K => h ..
  · exact .inr (.inl fun ρ K => (gc45_0 (Tabs k) ρ K a1 a2 a3).symm)

theorem t46 (k : Nat) (args : List (PV sig)) (m : Mem sig) : (∀ ρ K, T46 (Tabs (k + 1)) ρ args m K = none) ∨ (∀ ρ K, T46 (Tabs (k + 1)) ρ args m K = evF Tryd.prog lay (T (Tabs k)) (LT (Tabs k)) hints dfT 46 args m K) ∨ ∃ r, CallOk Tryd.prog lay 46 args m r ∧ ∀ ρ K, T46 (Tabs (k + 1)) ρ args m K = K r := by
  rcases rc46_0 args m with h | ⟨a1, a2, rfl, rfl⟩
  · exact .inl fun ρ K => h ..
  · exact .inr (.inl fun ρ K => (gc46_0 (Tabs k) ρ K a1 a2).symm)

theorem t47 (k : Nat) (args : List (PV sig)) (m : Mem sig) : (∀ ρ K, T47 (Tabs (k + 1)) ρ args m K = none) ∨ (∀ ρ K, T47 (Tabs (k + 1)) ρ args m K = evF Tryd.prog lay (T (Tabs k)) (LT (Tabs k)) hints dfT 47 args m K) ∨ ∃ r, CallOk Tryd.prog lay 47 args m r ∧ ∀ ρ K, T47 (Tabs (k + 1)) ρ args m K = K r := by
  rcases rc47_0 args m with h | ⟨a1, a2, rfl, rfl⟩
  · exact .inl fun ρ K => h ..
  · exact .inr (.inl fun ρ K => (gc47_0 (Tabs k) ρ K a1 a2).symm)

theorem t48 (k : Nat) (args : List (PV sig)) (m : Mem sig) : (∀ ρ K, T48 (Tabs (k + 1)) ρ args m K = none) ∨ (∀ ρ K, T48 (Tabs (k + 1)) ρ args m K = evF Tryd.prog lay (T (Tabs k)) (LT (Tabs k)) hints dfT 48 args m K) ∨ ∃ r, CallOk Tryd.prog lay 48 args m r ∧ ∀ ρ K, T48 (Tabs (k + 1)) ρ args m K = K r := by
  rcases rc48_0 args m with h | ⟨a1, a2, rfl, rfl⟩
  · exact .inl fun ρ K => h ..
  · exact .inr (.inl fun ρ K => (gc48_0 (Tabs k) ρ K a1 a2).symm)

theorem t49 (k : Nat) (args : List (PV sig)) (m : Mem sig) : (∀ ρ K, T49 (Tabs (k + 1)) ρ args m K = none) ∨ (∀ ρ K, T49 (Tabs (k + 1)) ρ args m K = evF Tryd.prog lay (T (Tabs k)) (LT (Tabs k)) hints dfT 49 args m K) ∨ ∃ r, CallOk Tryd.prog lay 49 args m r ∧ ∀ ρ K, T49 (Tabs (k + 1)) ρ args m K = K r := by
  rcases rc49_0 args m with h | ⟨a1, rfl, rfl⟩
  · exact .inl fun ρ K => h ..
  · obtain ⟨a1_0, a1_1, a1_2⟩ := a1; exact .inr (.inl fun ρ K => (gc49_0 (Tabs k) ρ K ⟨a1_0, a1_1, a1_2⟩).symm)

theorem t50 (k : Nat) (args : List (PV sig)) (m : Mem sig) : (∀ ρ K, T50 (Tabs (k + 1)) ρ args m K = none) ∨ (∀ ρ K, T50 (Tabs (k + 1)) ρ args m K = evF Tryd.prog lay (T (Tabs k)) (LT (Tabs k)) hints dfT 50 args m K) ∨ ∃ r, CallOk Tryd.prog lay 50 args m r ∧ ∀ ρ K, T50 (Tabs (k + 1)) ρ args m K = K r := by
  rcases rc50_0 args m with h | ⟨a1, rfl, rfl⟩
  · exact .inl fun ρ K => h ..
  · exact (told50 a1).imp (fun h ρ K => h ρ K) fun ⟨r, h1, h2⟩ => .inr ⟨r, h1, fun ρ K => h2 ρ K⟩

theorem t51 (k : Nat) (args : List (PV sig)) (m : Mem sig) : (∀ ρ K, T51 (Tabs (k + 1)) ρ args m K = none) ∨ (∀ ρ K, T51 (Tabs (k + 1)) ρ args m K = evF Tryd.prog lay (T (Tabs k)) (LT (Tabs k)) hints dfT 51 args m K) ∨ ∃ r, CallOk Tryd.prog lay 51 args m r ∧ ∀ ρ K, T51 (Tabs (k + 1)) ρ args m K = K r := by
  rcases rc51_0 args m with h | ⟨a1, a2, rfl, rfl⟩
  · exact .inl fun ρ K => h ..
  · exact .inr (.inl fun ρ K => (gc51_0 (Tabs k) ρ K a1 a2).symm)

theorem t54 (k : Nat) (args : List (PV sig)) (m : Mem sig) : (∀ ρ K, T54 (Tabs (k + 1)) ρ args m K = none) ∨ (∀ ρ K, T54 (Tabs (k + 1)) ρ args m K = evF Tryd.prog lay (T (Tabs k)) (LT (Tabs k)) hints dfT 54 args m K) ∨ ∃ r, CallOk Tryd.prog lay 54 args m r ∧ ∀ ρ K, T54 (Tabs (k + 1)) ρ args m K = K r := by
  rcases rc54_0 args m with h | ⟨a1, rfl, rfl⟩
  · exact .inl fun ρ K => h ..
  · exact .inr (.inl fun ρ K => (gc54_0 (Tabs k) ρ K a1).symm)

theorem t57 (k : Nat) (args : List (PV sig)) (m : Mem sig) : (∀ ρ K, T57 (Tabs (k + 1)) ρ args m K = none) ∨ (∀ ρ K, T57 (Tabs (k + 1)) ρ args m K = evF Tryd.prog lay (T (Tabs k)) (LT (Tabs k)) hints dfT 57 args m K) ∨ ∃ r, CallOk Tryd.prog lay 57 args m r ∧ ∀ ρ K, T57 (Tabs (k + 1)) ρ args m K = K r := by
  rcases rc57_0 args m with h | ⟨a1, rfl, rfl⟩
  · exact .inl fun ρ K => h ..
  · exact .inr (.inl fun ρ K => (gc57_0 (Tabs k) ρ K a1).symm)

theorem t58 (k : Nat) (args : List (PV sig)) (m : Mem sig) : (∀ ρ K, T58 (Tabs (k + 1)) ρ args m K = none) ∨ (∀ ρ K, T58 (Tabs (k + 1)) ρ args m K = evF Tryd.prog lay (T (Tabs k)) (LT (Tabs k)) hints dfT 58 args m K) ∨ ∃ r, CallOk Tryd.prog lay 58 args m r ∧ ∀ ρ K, T58 (Tabs (k + 1)) ρ args m K = K r := by
  rcases rc58_0 args m with h | ⟨a1, a2, rfl, rfl⟩
  · exact .inl fun ρ K => h ..
  · exact .inr (.inl fun ρ K => (gc58_0 (Tabs k) ρ K a1 a2).symm)

theorem t59 (k : Nat) (args : List (PV sig)) (m : Mem sig) : (∀ ρ K, T59 (Tabs (k + 1)) ρ args m K = none) ∨ (∀ ρ K, T59 (Tabs (k + 1)) ρ args m K = evF Tryd.prog lay (T (Tabs k)) (LT (Tabs k)) hints dfT 59 args m K) ∨ ∃ r, CallOk Tryd.prog lay 59 args m r ∧ ∀ ρ K, T59 (Tabs (k + 1)) ρ args m K = K r := by
  rcases rc59_0 args m with h | ⟨a1, rfl, rfl⟩
  · exact .inl fun ρ K => h ..
  · exact .inr (.inl fun ρ K => (gc59_0 (Tabs k) ρ K a1).symm)

theorem t60 (k : Nat) (args : List (PV sig)) (m : Mem sig) : (∀ ρ K, T60 (Tabs (k + 1)) ρ args m K = none) ∨ (∀ ρ K, T60 (Tabs (k + 1)) ρ args m K = evF Tryd.prog lay (T (Tabs k)) (LT (Tabs k)) hints dfT 60 args m K) ∨ ∃ r, CallOk Tryd.prog lay 60 args m r ∧ ∀ ρ K, T60 (Tabs (k + 1)) ρ args m K = K r := by
  rcases rc60_0 args m with h | ⟨a1, a2, a3, rfl, rfl⟩
  · exact .inl fun ρ K => h ..
  · exact .inr (.inl fun ρ K => (gc60_0 (Tabs k) ρ K a1 a2 a3).symm)

theorem t61 (k : Nat) (args : List (PV sig)) (m : Mem sig) : (∀ ρ K, T61 (Tabs (k + 1)) ρ args m K = none) ∨ (∀ ρ K, T61 (Tabs (k + 1)) ρ args m K = evF Tryd.prog lay (T (Tabs k)) (LT (Tabs k)) hints dfT 61 args m K) ∨ ∃ r, CallOk Tryd.prog lay 61 args m r ∧ ∀ ρ K, T61 (Tabs (k + 1)) ρ args m K = K r := by
  rcases rc61_0 args m with h | ⟨a1, a2, rfl, rfl⟩
  · exact .inl fun ρ K => h ..
  · exact (told61 a1 a2).imp (fun h ρ K => h ρ K) fun ⟨r, h1, h2⟩ => .inr ⟨r, h1, fun ρ K => h2 ρ K⟩

theorem t62 (k : Nat) (args : List (PV sig)) (m : Mem sig) : (∀ ρ K, T62 (Tabs (k + 1)) ρ args m K = none) ∨ (∀ ρ K, T62 (Tabs (k + 1)) ρ args m K = evF Tryd.prog lay (T (Tabs k)) (LT (Tabs k)) hints dfT 62 args m K) ∨ ∃ r, CallOk Tryd.prog lay 62 args m r ∧ ∀ ρ K, T62 (Tabs (k + 1)) ρ args m K = K r := by
  rcases rc62_0 args m with h | ⟨a1, a2, a3, rfl, rfl⟩
  · exact .inl fun ρ K => h ..
  · exact .inr (.inl fun ρ K => (gc62_0 (Tabs k) ρ K a1 a2 a3).symm)

theorem t63 (k : Nat) (args : List (PV sig)) (m : Mem sig) : (∀ ρ K, T63 (Tabs (k + 1)) ρ args m K = none) ∨ (∀ ρ K, T63 (Tabs (k + 1)) ρ args m K = evF Tryd.prog lay (T (Tabs k)) (LT (Tabs k)) hints dfT 63 args m K) ∨ ∃ r, CallOk Tryd.prog lay 63 args m r ∧ ∀ ρ K, T63 (Tabs (k + 1)) ρ args m K = K r := by
  rcases rc63_0 args m with h | ⟨a1, rfl, rfl⟩
  · exact .inl fun ρ K => h ..
  · exact .inr (.inl fun ρ K => (gc63_0 (Tabs k) ρ K a1).symm)

theorem t64 (k : Nat) (args : List (PV sig)) (m : Mem sig) : (∀ ρ K, T64 (Tabs (k + 1)) ρ args m K = none) ∨ (∀ ρ K, T64 (Tabs (k + 1)) ρ args m K = evF Tryd.prog lay (T (Tabs k)) (LT (Tabs k)) hints dfT 64 args m K) ∨ ∃ r, CallOk Tryd.prog lay 64 args m r ∧ ∀ ρ K, T64 (Tabs (k + 1)) ρ args m K = K r := by
  rcases rc64_0 args m with h | ⟨a1, a2, rfl, rfl⟩
  · exact .inl fun ρ K => h ..
  · exact .inr (.inl fun ρ K => (gc64_0 (Tabs k) ρ K a1 a2).symm)

theorem t65 (k : Nat) (args : List (PV sig)) (m : Mem sig) : (∀ ρ K, T65 (Tabs (k + 1)) ρ args m K = none) ∨ (∀ ρ K, T65 (Tabs (k + 1)) ρ args m K = evF Tryd.prog lay (T (Tabs k)) (LT (Tabs k)) hints dfT 65 args m K) ∨ ∃ r, CallOk Tryd.prog lay 65 args m r ∧ ∀ ρ K, T65 (Tabs (k + 1)) ρ args m K = K r := by
  rcases rc65_0 args m with h | ⟨a1, a2, a3, rfl, rfl⟩
  · exact .inl fun ρ K => h ..
  · exact .inr (.inl fun ρ K => (gc65_0 (Tabs k) ρ K a1 a2 a3).symm)

theorem t66 (k : Nat) (args : List (PV sig)) (m : Mem sig) : (∀ ρ K, T66 (Tabs (k + 1)) ρ args m K = none) ∨ (∀ ρ K, T66 (Tabs (k + 1)) ρ args m K = evF Tryd.prog lay (T (Tabs k)) (LT (Tabs k)) hints dfT 66 args m K) ∨ ∃ r, CallOk Tryd.prog lay 66 args m r ∧ ∀ ρ K, T66 (Tabs (k + 1)) ρ args m K = K r := by
  rcases rc66_0 args m with h | ⟨a1, rfl, rfl⟩
  · exact .inl fun ρ K => h ..
  · exact .inr (.inl fun ρ K => (gc66_0 (Tabs k) ρ K a1).symm)

theorem t67 (k : Nat) (args : List (PV sig)) (m : Mem sig) : (∀ ρ K, T67 (Tabs (k + 1)) ρ args m K = none) ∨ (∀ ρ K, T67 (Tabs (k + 1)) ρ args m K = evF Tryd.prog lay (T (Tabs k)) (LT (Tabs k)) hints dfT 67 args m K) ∨ ∃ r, CallOk Tryd.prog lay 67 args m r ∧ ∀ ρ K, T67 (Tabs (k + 1)) ρ args m K = K r := by
  rcases rc67_0 args m with h | ⟨a1, a2, rfl, rfl⟩
  · exact .inl fun ρ K => h ..
  · exact .inr (.inl fun ρ K => (gc67_0 (Tabs k) ρ K a1 a2).symm)

theorem t68 (k : Nat) (args : List (PV sig)) (m : Mem sig) : (∀ ρ K, T68 (Tabs (k + 1)) ρ args m K = none) ∨ (∀ ρ K, T68 (Tabs (k + 1)) ρ args m K = evF Tryd.prog lay (T (Tabs k)) (LT (Tabs k)) hints dfT 68 args m K) ∨ ∃ r, CallOk Tryd.prog lay 68 args m r ∧ ∀ ρ K, T68 (Tabs (k + 1)) ρ args m K = K r := by
  rcases rc68_0 args m with h | ⟨a1, rfl, rfl⟩
  · exact .inl fun ρ K => h ..
  · exact .inr (.inl fun ρ K => (gc68_0 (Tabs k) ρ K a1).symm)

theorem t69 (k : Nat) (args : List (PV sig)) (m : Mem sig) : (∀ ρ K, T69 (Tabs (k + 1)) ρ args m K = none) ∨ (∀ ρ K, T69 (Tabs (k + 1)) ρ args m K = evF Tryd.prog lay (T (Tabs k)) (LT (Tabs k)) hints dfT 69 args m K) ∨ ∃ r, CallOk Tryd.prog lay 69 args m r ∧ ∀ ρ K, T69 (Tabs (k + 1)) ρ args m K = K r := by
  rcases rc69_0 args m with h | ⟨a1, a2, rfl, rfl⟩
  · exact .inl fun ρ K => h ..
  · exact .inr (.inl fun ρ K => (gc69_0 (Tabs k) ρ K a1 a2).symm)

theorem t70 (k : Nat) (args : List (PV sig)) (m : Mem sig) : (∀ ρ K, T70 (Tabs (k + 1)) ρ args m K = none) ∨ (∀ ρ K, T70 (Tabs (k + 1)) ρ args m K = evF Tryd.prog lay (T (Tabs k)) (LT (Tabs k)) hints dfT 70 args m K) ∨ ∃ r, CallOk Tryd.prog lay 70 args m r ∧ ∀ ρ K, T70 (Tabs (k + 1)) ρ args m K = K r := by
  rcases rc70_0 args m with h | ⟨a1, rfl, rfl⟩
  · exact .inl fun ρ K => h ..
  · exact .inr (.inl fun ρ K => (gc70_0 (Tabs k) ρ K a1).symm)

theorem t71 (k : Nat) (args : List (PV sig)) (m : Mem sig) : (∀ ρ K, T71 (Tabs (k + 1)) ρ args m K = none) ∨ (∀ ρ K, T71 (Tabs (k + 1)) ρ args m K = evF Tryd.prog lay (T (Tabs k)) (LT (Tabs k)) hints dfT 71 args m K) ∨ ∃ r, CallOk Tryd.prog lay 71 args m r ∧ ∀ ρ K, T71 (Tabs (k + 1)) ρ args m K = K r := by
  rcases rc71_0 args m with h | ⟨a1, a2, rfl, rfl⟩
  · exact .inl fun ρ K => h ..
  · exact .inr (.inl fun ρ K => (gc71_0 (Tabs k) ρ K a1 a2).symm)

theorem t72 (k : Nat) (args : List (PV sig)) (m : Mem sig) : (∀ ρ K, T72 (Tabs (k + 1)) ρ args m K = none) ∨ (∀ ρ K, T72 (Tabs (k + 1)) ρ args m K = evF Tryd.prog lay (T (Tabs k)) (LT (Tabs k)) hints dfT 72 args m K) ∨ ∃ r, CallOk Tryd.prog lay 72 args m r ∧ ∀ ρ K, T72 (Tabs (k + 1)) ρ args m K = K r := by
  rcases rc72_0 args m with h | ⟨a1, a2, rfl, rfl⟩
  · exact .inl fun ρ K => h ..
  · exact .inr (.inl fun ρ K => (gc72_0 (Tabs k) ρ K a1 a2).symm)

theorem t73 (k : Nat) (args : List (PV sig)) (m : Mem sig) : (∀ ρ K, T73 (Tabs (k + 1)) ρ args m K = none) ∨ (∀ ρ K, T73 (Tabs (k + 1)) ρ args m K = evF Tryd.prog lay (T (Tabs k)) (LT (Tabs k)) hints dfT 73 args m K) ∨ ∃ r, CallOk Tryd.prog lay 73 args m r ∧ ∀ ρ K, T73 (Tabs (k + 1)) ρ args m K = K r := by
  rcases rc73_0 args m with h | ⟨a1, a2, rfl, rfl⟩
  · exact .inl fun ρ K => h ..
  · exact .inr (.inl fun ρ K => (gc73_0 (Tabs k) ρ K a1 a2).symm)

theorem t74 (k : Nat) (args : List (PV sig)) (m : Mem sig) : (∀ ρ K, T74 (Tabs (k + 1)) ρ args m K = none) ∨ (∀ ρ K, T74 (Tabs (k + 1)) ρ args m K = evF Tryd.prog lay (T (Tabs k)) (LT (Tabs k)) hints dfT 74 args m K) ∨ ∃ r, CallOk Tryd.prog lay 74 args m r ∧ ∀ ρ K, T74 (Tabs (k + 1)) ρ args m K = K r := by
  rcases rc74_0 args m with h | ⟨a1, a2, rfl, rfl⟩
  · exact .inl fun ρ K => h ..
  · exact .inr (.inl fun ρ K => (gc74_0 (Tabs k) ρ K a1 a2).symm)

theorem t75 (k : Nat) (args : List (PV sig)) (m : Mem sig) : (∀ ρ K, T75 (Tabs (k + 1)) ρ args m K = none) ∨ (∀ ρ K, T75 (Tabs (k + 1)) ρ args m K = evF Tryd.prog lay (T (Tabs k)) (LT (Tabs k)) hints dfT 75 args m K) ∨ ∃ r, CallOk Tryd.prog lay 75 args m r ∧ ∀ ρ K, T75 (Tabs (k + 1)) ρ args m K = K r := by
  rcases rc75_0 args m with h | ⟨a1, a2, a3, rfl, rfl⟩
  · exact .inl fun ρ K => h ..
  · exact .inr (.inl fun ρ K => (gc75_0 (Tabs k) ρ K a1 a2 a3).symm)

theorem t76 (k : Nat) (args : List (PV sig)) (m : Mem sig) : (∀ ρ K, T76 (Tabs (k + 1)) ρ args m K = none) ∨ (∀ ρ K, T76 (Tabs (k + 1)) ρ args m K = evF Tryd.prog lay (T (Tabs k)) (LT (Tabs k)) hints dfT 76 args m K) ∨ ∃ r, CallOk Tryd.prog lay 76 args m r ∧ ∀ ρ K, T76 (Tabs (k + 1)) ρ args m K = K r := by
  rcases rc76_0 args m with h | ⟨a1, a2, rfl, rfl⟩
  · exact .inl fun ρ K => h ..
  · exact .inr (.inl fun ρ K => (gc76_0 (Tabs k) ρ K a1 a2).symm)

theorem t77 (k : Nat) (args : List (PV sig)) (m : Mem sig) : (∀ ρ K, T77 (Tabs (k + 1)) ρ args m K = none) ∨ (∀ ρ K, T77 (Tabs (k + 1)) ρ args m K = evF Tryd.prog lay (T (Tabs k)) (LT (Tabs k)) hints dfT 77 args m K) ∨ ∃ r, CallOk Tryd.prog lay 77 args m r ∧ ∀ ρ K, T77 (Tabs (k + 1)) ρ args m K = K r := by
  rcases rc77_0 args m with h | ⟨a1, a2, a3, rfl, rfl⟩
  · exact .inl fun ρ K => h ..
  · exact .inr (.inl fun ρ K => (gc77_0 (Tabs k) ρ K a1 a2 a3).symm)

theorem t78 (k : Nat) (args : List (PV sig)) (m : Mem sig) : (∀ ρ K, T78 (Tabs (k + 1)) ρ args m K = none) ∨ (∀ ρ K, T78 (Tabs (k + 1)) ρ args m K = evF Tryd.prog lay (T (Tabs k)) (LT (Tabs k)) hints dfT 78 args m K) ∨ ∃ r, CallOk Tryd.prog lay 78 args m r ∧ ∀ ρ K, T78 (Tabs (k + 1)) ρ args m K = K r := by
  rcases rc78_0 args m with h | ⟨a1, a2, rfl, rfl⟩
  · exact .inl fun ρ K => h ..
  · exact .inr (.inl fun ρ K => (gc78_0 (Tabs k) ρ K a1 a2).symm)

theorem t79 (k : Nat) (args : List (PV sig)) (m : Mem sig) : (∀ ρ K, T79 (Tabs (k + 1)) ρ args m K = none) ∨ (∀ ρ K, T79 (Tabs (k + 1)) ρ args m K = evF Tryd.prog lay (T (Tabs k)) (LT (Tabs k)) hints dfT 79 args m K) ∨ ∃ r, CallOk Tryd.prog lay 79 args m r ∧ ∀ ρ K, T79 (Tabs (k + 1)) ρ args m K = K r := by
  rcases rc79_0 args m with h | ⟨a1, a2, rfl, rfl⟩
  · exact .inl fun ρ K => h ..
  · exact .inr (.inl fun ρ K => (gc79_0 (Tabs k) ρ K a1 a2).symm)

theorem t80 (k : Nat) (args : List (PV sig)) (m : Mem sig) : (∀ ρ K, T80 (Tabs (k + 1)) ρ args m K = none) ∨ (∀ ρ K, T80 (Tabs (k + 1)) ρ args m K = evF Tryd.prog lay (T (Tabs k)) (LT (Tabs k)) hints dfT 80 args m K) ∨ ∃ r, CallOk Tryd.prog lay 80 args m r ∧ ∀ ρ K, T80 (Tabs (k + 1)) ρ args m K = K r := by
  rcases rc80_0 args m with h | ⟨a1, a2, rfl, rfl⟩
  · exact .inl fun ρ K => h ..
  · exact .inr (.inl fun ρ K => (gc80_0 (Tabs k) ρ K a1 a2).symm)

theorem t82 (k : Nat) (args : List (PV sig)) (m : Mem sig) : (∀ ρ K, T82 (Tabs (k + 1)) ρ args m K = none) ∨ (∀ ρ K, T82 (Tabs (k + 1)) ρ args m K = evF Tryd.prog lay (T (Tabs k)) (LT (Tabs k)) hints dfT 82 args m K) ∨ ∃ r, CallOk Tryd.prog lay 82 args m r ∧ ∀ ρ K, T82 (Tabs (k + 1)) ρ args m K = K r := by
  unfold T82
  cases hc : Nat.beq (fnId (args.getD 1 .any)) 63 with
  | true =>
    simp only [cond_true]
    rcases rc82_0 args m with h | ⟨a1, rfl, rfl⟩
    · exact .inl fun ρ K => h ..
    · exact .inr (.inl fun ρ K => (gc82_0 (Tabs k) ρ K a1).symm)
  | false =>
    simp only [cond_false]
    cases hc : Nat.beq (fnId (args.getD 1 .any)) 66 with
    | true =>
      simp only [cond_true]
      rcases rc82_1 args m with h | ⟨a1, rfl, rfl⟩
      · exact .inl fun ρ K => h ..
      · exact .inr (.inl fun ρ K => (gc82_1 (Tabs k) ρ K a1).symm)
    | false =>
      simp only [cond_false]
      first | exact .inl fun _ _ => rfl | exact .inl fun _ _ => trivial

theorem t83 (k : Nat) (args : List (PV sig)) (m : Mem sig) : (∀ ρ K, T83 (Tabs (k + 1)) ρ args m K = none) ∨ (∀ ρ K, T83 (Tabs (k + 1)) ρ args m K = evF Tryd.prog lay (T (Tabs k)) (LT (Tabs k)) hints dfT 83 args m K) ∨ ∃ r, CallOk Tryd.prog lay 83 args m r ∧ ∀ ρ K, T83 (Tabs (k + 1)) ρ args m K = K r := by
  rcases rc83_0 args m with h | ⟨a1, rfl, rfl⟩
  · exact .inl fun ρ K => h ..
  · exact .inr (.inl fun ρ K => (gc83_0 (Tabs k) ρ K a1).symm)

theorem t84 (k : Nat) (args : List (PV sig)) (m : Mem sig) : (∀ ρ K, T84 (Tabs (k + 1)) ρ args m K = none) ∨ (∀ ρ K, T84 (Tabs (k + 1)) ρ args m K = evF Tryd.prog lay (T (Tabs k)) (LT (Tabs k)) hints dfT 84 args m K) ∨ ∃ r, CallOk Tryd.prog lay 84 args m r ∧ ∀ ρ K, T84 (Tabs (k + 1)) ρ args m K = K r := by
  rcases rc84_0 args m with h | ⟨a1, a2, rfl, rfl⟩
  · exact .inl fun ρ K => h ..
  · exact .inr (.inl fun ρ K => (gc84_0 (Tabs k) ρ K a1 a2).symm)

theorem t86 (k : Nat) (args : List (PV sig)) (m : Mem sig) : (∀ ρ K, T86 (Tabs (k + 1)) ρ args m K = none) ∨ (∀ ρ K, T86 (Tabs (k + 1)) ρ args m K = evF Tryd.prog lay (T (Tabs k)) (LT (Tabs k)) hints dfT 86 args m K) ∨ ∃ r, CallOk Tryd.prog lay 86 args m r ∧ ∀ ρ K, T86 (Tabs (k + 1)) ρ args m K = K r := by
  rcases rc86_0 args m with h | ⟨a1, rfl, rfl⟩
  · exact .inl fun ρ K => h ..
  · exact .inr (.inl fun ρ K => (gc86_0 (Tabs k) ρ K a1).symm)

theorem t87 (k : Nat) (args : List (PV sig)) (m : Mem sig) : (∀ ρ K, T87 (Tabs (k + 1)) ρ args m K = none) ∨ (∀ ρ K, T87 (Tabs (k + 1)) ρ args m K = evF Tryd.prog lay (T (Tabs k)) (LT (Tabs k)) hints dfT 87 args m K) ∨ ∃ r, CallOk Tryd.prog lay 87 args m r ∧ ∀ ρ K, T87 (Tabs (k + 1)) ρ args m K = K r := by
  rcases rc87_0 args m with h | ⟨a1, rfl, rfl⟩
  · exact .inl fun ρ K => h ..
  · exact (told87 a1).imp (fun h ρ K => h ρ K) fun ⟨r, h1, h2⟩ => .inr ⟨r, h1, fun ρ K => h2 ρ K⟩

theorem t88 (k : Nat) (args : List (PV sig)) (m : Mem sig) : (∀ ρ K, T88 (Tabs (k + 1)) ρ args m K = none) ∨ (∀ ρ K, T88 (Tabs (k + 1)) ρ args m K = evF Tryd.prog lay (T (Tabs k)) (LT (Tabs k)) hints dfT 88 args m K) ∨ ∃ r, CallOk Tryd.prog lay 88 args m r ∧ ∀ ρ K, T88 (Tabs (k + 1)) ρ args m K = K r := by
  rcases rc88_0 args m with h | ⟨a1, rfl, rfl⟩
  · exact .inl fun ρ K => h ..
  · exact (told88 a1).imp (fun h ρ K => h ρ K) fun ⟨r, h1, h2⟩ => .inr ⟨r, h1, fun ρ K => h2 ρ K⟩

theorem t89 (k : Nat) (args : List (PV sig)) (m : Mem sig) : (∀ ρ K, T89 (Tabs (k + 1)) ρ args m K = none) ∨ (∀ ρ K, T89 (Tabs (k + 1)) ρ args m K = evF Tryd.prog lay (T (Tabs k)) (LT (Tabs k)) hints dfT 89 args m K) ∨ ∃ r, CallOk Tryd.prog lay 89 args m r ∧ ∀ ρ K, T89 (Tabs (k + 1)) ρ args m K = K r := by
  rcases rc89_0 args m with h | ⟨a1, rfl, rfl⟩
  · exact .inl fun ρ K => h ..
  · obtain ⟨a1_0, a1_1, a1_2⟩ := a1; exact .inr (.inl fun ρ K => (gc89_0 (Tabs k) ρ K ⟨a1_0, a1_1, a1_2⟩).symm)

theorem t90 (k : Nat) (args : List (PV sig)) (m : Mem sig) : (∀ ρ K, T90 (Tabs (k + 1)) ρ args m K = none) ∨ (∀ ρ K, T90 (Tabs (k + 1)) ρ args m K = evF Tryd.prog lay (T (Tabs k)) (LT (Tabs k)) hints dfT 90 args m K) ∨ ∃ r, CallOk Tryd.prog lay 90 args m r ∧ ∀ ρ K, T90 (Tabs (k + 1)) ρ args m K = K r := by
  rcases rc90_0 args m with h | ⟨a1, a2, rfl, rfl⟩
  · exact .inl fun ρ K => h ..
  · exact .inr (.inl fun ρ K => (gc90_0 (Tabs k) ρ K a1 a2).symm)

theorem t92 (k : Nat) (args : List (PV sig)) (m : Mem sig) : (∀ ρ K, T92 (Tabs (k + 1)) ρ args m K = none) ∨ (∀ ρ K, T92 (Tabs (k + 1)) ρ args m K = evF Tryd.prog lay (T (Tabs k)) (LT (Tabs k)) hints dfT 92 args m K) ∨ ∃ r, CallOk Tryd.prog lay 92 args m r ∧ ∀ ρ K, T92 (Tabs (k + 1)) ρ args m K = K r := by
  rcases rc92_0 args m with h | ⟨a1, rfl, rfl⟩
  · exact .inl fun ρ K => h ..
  · exact .inr (.inl fun ρ K => (gc92_0 (Tabs k) ρ K a1).symm)

theorem t93 (k : Nat) (args : List (PV sig)) (m : Mem sig) : (∀ ρ K, T93 (Tabs (k + 1)) ρ args m K = none) ∨ (∀ ρ K, T93 (Tabs (k + 1)) ρ args m K = evF Tryd.prog lay (T (Tabs k)) (LT (Tabs k)) hints dfT 93 args m K) ∨ ∃ r, CallOk Tryd.prog lay 93 args m r ∧ ∀ ρ K, T93 (Tabs (k + 1)) ρ args m K = K r := by
  rcases rc93_0 args m with h | ⟨a1, rfl, rfl⟩
  · exact .inl fun ρ K => h ..
  · exact .inr (.inl fun ρ K => (gc93_0 (Tabs k) ρ K a1).symm)

theorem tT (k f : Nat) (args : List (PV sig)) (m : Mem sig) : (∀ ρ K, T (Tabs (k + 1)) ρ f args m K = none) ∨ (∀ ρ K, T (Tabs (k + 1)) ρ f args m K = evF Tryd.prog lay (T (Tabs k)) (LT (Tabs k)) hints dfT f args m K) ∨ ∃ r, CallOk Tryd.prog lay f args m r ∧ ∀ ρ K, T (Tabs (k + 1)) ρ f args m K = K r := by
  unfold T
  cases hc : Nat.beq f 3 with
  | true => simp only [cond_true]; rw [Nat.eq_of_beq_eq_true hc]; exact t3 k args m
  | false =>
  simp only [cond_false]; clear hc
  cases hc : Nat.beq f 4 with
  | true => simp only [cond_true]; rw [Nat.eq_of_beq_eq_true hc]; exact t4 k args m
  | false =>
  simp only [cond_false]; clear hc
  cases hc : Nat.beq f 5 with
  | true => simp only [cond_true]; rw [Nat.eq_of_beq_eq_true hc]; exact t5 k args m
  | false =>
  simp only [cond_false]; clear hc
  cases hc : Nat.beq f 6 with
  | true => simp only [cond_true]; rw [Nat.eq_of_beq_eq_true hc]; exact t6 k args m
  | false =>
  simp only [cond_false]; clear hc
  cases hc : Nat.beq f 9 with
  | true => simp only [cond_true]; rw [Nat.eq_of_beq_eq_true hc]; exact t9 k args m
  | false =>
  simp only [cond_false]; clear hc
  cases hc : Nat.beq f 10 with
  | true => simp only [cond_true]; rw [Nat.eq_of_beq_eq_true hc]; exact t10 k args m
  | false =>
  simp only [cond_false]; clear hc
  cases hc : Nat.beq f 11 with
  | true => simp only [cond_true]; rw [Nat.eq_of_beq_eq_true hc]; exact t11 k args m
  | false =>
  simp only [cond_false]; clear hc
  cases hc : Nat.beq f 12 with
  | true => simp only [cond_true]; rw [Nat.eq_of_beq_eq_true hc]; exact t12 k args m
  | false =>
  simp only [cond_false]; clear hc
  cases hc : Nat.beq f 13 with
  | true => simp only [cond_true]; rw [Nat.eq_of_beq_eq_true hc]; exact t13 k args m
  | false =>
  simp only [cond_false]; clear hc
  cases hc : Nat.beq f 14 with
  | true => simp only [cond_true]; rw [Nat.eq_of_beq_eq_true hc]; exact t14 k args m
  | false =>
  simp only [cond_false]; clear hc
  cases hc : Nat.beq f 15 with
  | true => simp only [cond_true]; rw [Nat.eq_of_beq_eq_true hc]; exact t15 k args m
  | false =>
  simp only [cond_false]; clear hc
  cases hc : Nat.beq f 16 with
  | true => simp only [cond_true]; rw [Nat.eq_of_beq_eq_true hc]; exact t16 k args m
  | false =>
  simp only [cond_false]; clear hc
  cases hc : Nat.beq f 17 with
  | true => simp only [cond_true]; rw [Nat.eq_of_beq_eq_true hc]; exact t17 k args m
  | false =>
  simp only [cond_false]; clear hc
  cases hc : Nat.beq f 18 with
  | true => simp only [cond_true]; rw [Nat.eq_of_beq_eq_true hc]; exact t18 k args m
  | false =>
  simp only [cond_false]; clear hc
  cases hc : Nat.beq f 19 with
  | true => simp only [cond_true]; rw [Nat.eq_of_beq_eq_true hc]; exact t19 k args m
  | false =>
  simp only [cond_false]; clear hc
  cases hc : Nat.beq f 22 with
  | true => simp only [cond_true]; rw [Nat.eq_of_beq_eq_true hc]; exact t22 k args m
  | false =>
  simp only [cond_false]; clear hc
  cases hc : Nat.beq f 23 with
  | true => simp only [cond_true]; rw [Nat.eq_of_beq_eq_true hc]; exact t23 k args m
  | false =>
  simp only [cond_false]; clear hc
  cases hc : Nat.beq f 24 with
  | true => simp only [cond_true]; rw [Nat.eq_of_beq_eq_true hc]; exact t24 k args m
  | false =>
  simp only [cond_false]; clear hc
  cases hc : Nat.beq f 25 with
  | true => simp only [cond_true]; rw [Nat.eq_of_beq_eq_true hc]; exact t25 k args m
  | false =>
  simp only [cond_false]; clear hc
  cases hc : Nat.beq f 26 with
  | true => simp only [cond_true]; rw [Nat.eq_of_beq_eq_true hc]; exact t26 k args m
  | false =>
  simp only [cond_false]; clear hc
  cases hc : Nat.beq f 27 with
  | true => simp only [cond_true]; rw [Nat.eq_of_beq_eq_true hc]; exact t27 k args m
  | false =>
  simp only [cond_false]; clear hc
  cases hc : Nat.beq f 28 with
  | true => simp only [cond_true]; rw [Nat.eq_of_beq_eq_true hc]; exact t28 k args m
  | false =>
  simp only [cond_false]; clear hc
  cases hc : Nat.beq f 30 with
  | true => simp only [cond_true]; rw [Nat.eq_of_beq_eq_true hc]; exact t30 k args m
  | false =>
  simp only [cond_false]; clear hc
  cases hc : Nat.beq f 31 with
  | true => simp only [cond_true]; rw [Nat.eq_of_beq_eq_true hc]; exact t31 k args m
  | false =>
  simp only [cond_false]; clear hc
  cases hc : Nat.beq f 32 with
  | true => simp only [cond_true]; rw [Nat.eq_of_beq_eq_true hc]; exact t32 k args m
  | false =>
  simp only [cond_false]; clear hc
  cases hc : Nat.beq f 33 with
  | true => simp only [cond_true]; rw [Nat.eq_of_beq_eq_true hc]; exact t33 k args m
  | false =>
  simp only [cond_false]; clear hc
  cases hc : Nat.beq f 34 with
  | true => simp only [cond_true]; rw [Nat.eq_of_beq_eq_true hc]; exact t34 k args m
  | false =>
  simp only [cond_false]; clear hc
  cases hc : Nat.beq f 35 with
  | true => simp only [cond_true]; rw [Nat.eq_of_beq_eq_true hc]; exact t35 k args m
  | false =>
  simp only [cond_false]; clear hc
  cases hc : Nat.beq f 40 with
  | true => simp only [cond_true]; rw [Nat.eq_of_beq_eq_true hc]; exact t40 k args m
  | false =>
  simp only [cond_false]; clear hc
  cases hc : Nat.beq f 41 with
  | true => simp only [cond_true]; rw [Nat.eq_of_beq_eq_true hc]; exact t41 k args m
  | false =>
  simp only [cond_false]; clear hc
  cases hc : Nat.beq f 42 with
  | true => simp only [cond_true]; rw [Nat.eq_of_beq_eq_true hc]; exact t42 k args m
  | false =>
  simp only [cond_false]; clear hc
  cases hc : Nat.beq f 43 with
  | true => simp only [cond_true]; rw [Nat.eq_of_beq_eq_true hc]; exact t43 k args m
  | false =>
  simp only [cond_false]; clear hc
  cases hc : Nat.beq f 44 with
  | true => simp only [cond_true]; rw [Nat.eq_of_beq_eq_true hc]; exact t44 k args m
  | false =>
  simp only [cond_false]; clear hc
  cases hc : Nat.beq f 45 with
  | true => simp only [cond_true]; rw [Nat.eq_of_beq_eq_true hc]; exact t45 k args m
  | false =>
  simp only [cond_false]; clear hc
  cases hc : Nat.beq f 46 with
  | true => simp only [cond_true]; rw [Nat.eq_of_beq_eq_true hc]; exact t46 k args m
  | false =>
  simp only [cond_false]; clear hc
  cases hc : Nat.beq f 47 with
  | true => simp only [cond_true]; rw [Nat.eq_of_beq_eq_true hc]; exact t47 k args m
  | false =>
  simp only [cond_false]; clear hc
  cases hc : Nat.beq f 48 with
  | true => simp only [cond_true]; rw [Nat.eq_of_beq_eq_true hc]; exact t48 k args m
  | false =>
  simp only [cond_false]; clear hc
  cases hc : Nat.beq f 49 with
  | true => simp only [cond_true]; rw [Nat.eq_of_beq_eq_true hc]; exact t49 k args m
  | false =>
  simp only [cond_false]; clear hc
  cases hc : Nat.beq f 50 with
  | true => simp only [cond_true]; rw [Nat.eq_of_beq_eq_true hc]; exact t50 k args m
  | false =>
  simp only [cond_false]; clear hc
  cases hc : Nat.beq f 51 with
  | true => simp only [cond_true]; rw [Nat.eq_of_beq_eq_true hc]; exact t51 k args m
  | false =>
  simp only [cond_false]; clear hc
  cases hc : Nat.beq f 54 with
  | true => simp only [cond_true]; rw [Nat.eq_of_beq_eq_true hc]; exact t54 k args m
  | false =>
  simp only [cond_false]; clear hc
  cases hc : Nat.beq f 57 with
  | true => simp only [cond_true]; rw [Nat.eq_of_beq_eq_true hc]; exact t57 k args m
  | false =>
  simp only [cond_false]; clear hc
  cases hc : Nat.beq f 58 with
  | true => simp only [cond_true]; rw [Nat.eq_of_beq_eq_true hc]; exact t58 k args m
  | false =>
  simp only [cond_false]; clear hc
  cases hc : Nat.beq f 59 with
  | true => simp only [cond_true]; rw [Nat.eq_of_beq_eq_true hc]; exact t59 k args m
  | false =>
  simp only [cond_false]; clear hc
  cases hc : Nat.beq f 60 with
  | true => simp only [cond_true]; rw [Nat.eq_of_beq_eq_true hc]; exact t60 k args m
  | false =>
  simp only [cond_false]; clear hc
  cases hc : Nat.beq f 61 with
  | true => simp only [cond_true]; rw [Nat.eq_of_beq_eq_true hc]; exact t61 k args m
  | false =>
  simp only [cond_false]; clear hc
  cases hc : Nat.beq f 62 with
  | true => simp only [cond_true]; rw [Nat.eq_of_beq_eq_true hc]; exact t62 k args m
  | false =>
  simp only [cond_false]; clear hc
  cases hc : Nat.beq f 63 with
  | true => simp only [cond_true]; rw [Nat.eq_of_beq_eq_true hc]; exact t63 k args m
  | false =>
  simp only [cond_false]; clear hc
  cases hc : Nat.beq f 64 with
  | true => simp only [cond_true]; rw [Nat.eq_of_beq_eq_true hc]; exact t64 k args m
  | false =>
  simp only [cond_false]; clear hc
  cases hc : Nat.beq f 65 with
  | true => simp only [cond_true]; rw [Nat.eq_of_beq_eq_true hc]; exact t65 k args m
  | false =>
  simp only [cond_false]; clear hc
  cases hc : Nat.beq f 66 with
  | true => simp only [cond_true]; rw [Nat.eq_of_beq_eq_true hc]; exact t66 k args m
  | false =>
  simp only [cond_false]; clear hc
  cases hc : Nat.beq f 67 with
  | true => simp only [cond_true]; rw [Nat.eq_of_beq_eq_true hc]; exact t67 k args m
  | false =>
  simp only [cond_false]; clear hc
  cases hc : Nat.beq f 68 with
  | true => simp only [cond_true]; rw [Nat.eq_of_beq_eq_true hc]; exact t68 k args m
  | false =>
  simp only [cond_false]; clear hc
  cases hc : Nat.beq f 69 with
  | true => simp only [cond_true]; rw [Nat.eq_of_beq_eq_true hc]; exact t69 k args m
  | false =>
  simp only [cond_false]; clear hc
  cases hc : Nat.beq f 70 with
  | true => simp only [cond_true]; rw [Nat.eq_of_beq_eq_true hc]; exact t70 k args m
  | false =>
  simp only [cond_false]; clear hc
  cases hc : Nat.beq f 71 with
  | true => simp only [cond_true]; rw [Nat.eq_of_beq_eq_true hc]; exact t71 k args m
  | false =>
  simp only [cond_false]; clear hc
  cases hc : Nat.beq f 72 with
  | true => simp only [cond_true]; rw [Nat.eq_of_beq_eq_true hc]; exact t72 k args m
  | false =>
  simp only [cond_false]; clear hc
  cases hc : Nat.beq f 73 with
  | true => simp only [cond_true]; rw [Nat.eq_of_beq_eq_true hc]; exact t73 k args m
  | false =>
  simp only [cond_false]; clear hc
  cases hc : Nat.beq f 74 with
  | true => simp only [cond_true]; rw [Nat.eq_of_beq_eq_true hc]; exact t74 k args m
  | false =>
  simp only [cond_false]; clear hc
  cases hc : Nat.beq f 75 with
  | true => simp only [cond_true]; rw [Nat.eq_of_beq_eq_true hc]; exact t75 k args m
  | false =>
  simp only [cond_false]; clear hc
  cases hc : Nat.beq f 76 with
  | true => simp only [cond_true]; rw [Nat.eq_of_beq_eq_true hc]; exact t76 k args m
  | false =>
  simp only [cond_false]; clear hc
  cases hc : Nat.beq f 77 with
  | true => simp only [cond_true]; rw [Nat.eq_of_beq_eq_true hc]; exact t77 k args m
  | false =>
  simp only [cond_false]; clear hc
  cases hc : Nat.beq f 78 with
  | true => simp only [cond_true]; rw [Nat.eq_of_beq_eq_true hc]; exact t78 k args m
  | false =>
  simp only [cond_false]; clear hc
  cases hc : Nat.beq f 79 with
  | true => simp only [cond_true]; rw [Nat.eq_of_beq_eq_true hc]; exact t79 k args m
  | false =>
  simp only [cond_false]; clear hc
  cases hc : Nat.beq f 80 with
  | true => simp only [cond_true]; rw [Nat.eq_of_beq_eq_true hc]; exact t80 k args m
  | false =>
  simp only [cond_false]; clear hc
  cases hc : Nat.beq f 82 with
  | true => simp only [cond_true]; rw [Nat.eq_of_beq_eq_true hc]; exact t82 k args m
  | false =>
  simp only [cond_false]; clear hc
  cases hc : Nat.beq f 83 with
  | true => simp only [cond_true]; rw [Nat.eq_of_beq_eq_true hc]; exact t83 k args m
  | false =>
  simp only [cond_false]; clear hc
  cases hc : Nat.beq f 84 with
  | true => simp only [cond_true]; rw [Nat.eq_of_beq_eq_true hc]; exact t84 k args m
  | false =>
  simp only [cond_false]; clear hc
  cases hc : Nat.beq f 86 with
  | true => simp only [cond_true]; rw [Nat.eq_of_beq_eq_true hc]; exact t86 k args m
  | false =>
  simp only [cond_false]; clear hc
  cases hc : Nat.beq f 87 with
  | true => simp only [cond_true]; rw [Nat.eq_of_beq_eq_true hc]; exact t87 k args m
  | false =>
  simp only [cond_false]; clear hc
  cases hc : Nat.beq f 88 with
  | true => simp only [cond_true]; rw [Nat.eq_of_beq_eq_true hc]; exact t88 k args m
  | false =>
  simp only [cond_false]; clear hc
  cases hc : Nat.beq f 89 with
  | true => simp only [cond_true]; rw [Nat.eq_of_beq_eq_true hc]; exact t89 k args m
  | false =>
  simp only [cond_false]; clear hc
  cases hc : Nat.beq f 90 with
  | true => simp only [cond_true]; rw [Nat.eq_of_beq_eq_true hc]; exact t90 k args m
  | false =>
  simp only [cond_false]; clear hc
  cases hc : Nat.beq f 92 with
  | true => simp only [cond_true]; rw [Nat.eq_of_beq_eq_true hc]; exact t92 k args m
  | false =>
  simp only [cond_false]; clear hc
  cases hc : Nat.beq f 93 with
  | true => simp only [cond_true]; rw [Nat.eq_of_beq_eq_true hc]; exact t93 k args m
  | false =>
  simp only [cond_false]; clear hc
  first | exact .inl fun _ _ => rfl | exact .inl fun _ _ => trivial

theorem lbl15_4_0 : loopOf Tryd.prog 15 4 = some (bodyOf Tryd.prog 15 4) := by kernel_rfl

theorem lbl18_4_0 : loopOf Tryd.prog 18 4 = some (bodyOf Tryd.prog 18 4) := by kernel_rfl

theorem lbl22_20_0 : loopOf Tryd.prog 22 20 = some (bodyOf Tryd.prog 22 20) := by kernel_rfl

theorem lbl24_3_0 : loopOf Tryd.prog 24 3 = some (bodyOf Tryd.prog 24 3) := by kernel_rfl

theorem lbl25_18_0 : loopOf Tryd.prog 25 18 = some (bodyOf Tryd.prog 25 18) := by kernel_rfl

theorem lbl28_6_0 : loopOf Tryd.prog 28 6 = some (bodyOf Tryd.prog 28 6) := by kernel_rfl

theorem lbl30_4_0 : loopOf Tryd.prog 30 4 = some (bodyOf Tryd.prog 30 4) := by kernel_rfl

theorem lbl33_4_0 : loopOf Tryd.prog 33 4 = some (bodyOf Tryd.prog 33 4) := by kernel_rfl

theorem lbl34_8_0 : loopOf Tryd.prog 34 8 = some (bodyOf Tryd.prog 34 8) := by kernel_rfl

theorem lbl35_14_0 : loopOf Tryd.prog 35 14 = some (bodyOf Tryd.prog 35 14) := by kernel_rfl

theorem lbl43_0_0 : loopOf Tryd.prog 43 0 = some (bodyOf Tryd.prog 43 0) := by kernel_rfl

theorem lbl47_2_0 : loopOf Tryd.prog 47 2 = some (bodyOf Tryd.prog 47 2) := by kernel_rfl

theorem lbl51_2_0 : loopOf Tryd.prog 51 2 = some (bodyOf Tryd.prog 51 2) := by kernel_rfl

theorem lbl58_2_0 : loopOf Tryd.prog 58 2 = some (bodyOf Tryd.prog 58 2) := by kernel_rfl

theorem lbl65_2_0 : loopOf Tryd.prog 65 2 = some (bodyOf Tryd.prog 65 2) := by kernel_rfl

theorem lbl80_2_0 : loopOf Tryd.prog 80 2 = some (bodyOf Tryd.prog 80 2) := by kernel_rfl

theorem lbl82_4_0 : loopOf Tryd.prog 82 4 = some (bodyOf Tryd.prog 82 4) := by kernel_rfl

theorem lbl84_1_0 : loopOf Tryd.prog 84 1 = some (bodyOf Tryd.prog 84 1) := by kernel_rfl

theorem ul15_4_0 (k : Nat) (st : St sig) : (∀ ρ K, Rl15_4_0 (Tabs (k + 1)) ρ (seenV (PK 15 0 4 0) st) (seenM 0 (PK 15 0 4 0) st) st.dfs st.nt K = none) ∨ ∃ c, loopOf Tryd.prog 15 4 = some c ∧ ∀ ρ K, Rl15_4_0 (Tabs (k + 1)) ρ (seenV (PK 15 0 4 0) st) (seenM 0 (PK 15 0 4 0) st) st.dfs st.nt K = evK Tryd.prog lay (T (Tabs k)) (LT (Tabs k)) hints 15 0 c (parkE PK 15 0 4 .normal st) (loopNext (LT (Tabs k)) PK 15 0 4 K) := by
  rcases rl15_4_0 (seenV (PK 15 0 4 0) st) (seenM 0 (PK 15 0 4 0) st) st.dfs st.nt with h | ⟨a1, a2, a3, h1, h2, h3, h4⟩
  · exact .inl fun ρ K => h ..
  · refine .inr ⟨_, lbl15_4_0, fun ρ K => ?_⟩
    rw [show parkE PK 15 0 4 (.normal : Ex sig) st = canon ((PK 15 0 4 0).1.map (·.1)) (seenV (PK 15 0 4 0) st) (seenM 0 (PK 15 0 4 0) st) st.dfs st.nt from park_seen ..]
    rw [h1, h2, h3, h4]
    obtain ⟨a2_0, a2_1, a2_2⟩ := a2; obtain ⟨a3_0, a3_1, a3_2⟩ := a3; exact (gl15_4_0 (Tabs k) ρ K a1 ⟨a2_0, a2_1, a2_2⟩ ⟨a3_0, a3_1, a3_2⟩).symm

theorem ul18_4_0 (k : Nat) (st : St sig) : (∀ ρ K, Rl18_4_0 (Tabs (k + 1)) ρ (seenV (PK 18 0 4 0) st) (seenM 0 (PK 18 0 4 0) st) st.dfs st.nt K = none) ∨ ∃ c, loopOf Tryd.prog 18 4 = some c ∧ ∀ ρ K, Rl18_4_0 (Tabs (k + 1)) ρ (seenV (PK 18 0 4 0) st) (seenM 0 (PK 18 0 4 0) st) st.dfs st.nt K = evK Tryd.prog lay (T (Tabs k)) (LT (Tabs k)) hints 18 0 c (parkE PK 18 0 4 .normal st) (loopNext (LT (Tabs k)) PK 18 0 4 K) := by
  rcases rl18_4_0 (seenV (PK 18 0 4 0) st) (seenM 0 (PK 18 0 4 0) st) st.dfs st.nt with h | ⟨a1, a2, a3, a4, h1, h2, h3, h4⟩
  · exact .inl fun ρ K => h ..
  · refine .inr ⟨_, lbl18_4_0, fun ρ K => ?_⟩
    rw [show parkE PK 18 0 4 (.normal : Ex sig) st = canon ((PK 18 0 4 0).1.map (·.1)) (seenV (PK 18 0 4 0) st) (seenM 0 (PK 18 0 4 0) st) st.dfs st.nt from park_seen ..]
    rw [h1, h2, h3, h4]
    exact (gl18_4_0 (Tabs k) ρ K a1 a2 a3 a4).symm

theorem ul22_20_0 (k : Nat) (st : St sig) : (∀ ρ K, Rl22_20_0 (Tabs (k + 1)) ρ (seenV (PK 22 1 20 0) st) (seenM 1 (PK 22 1 20 0) st) st.dfs st.nt K = none) ∨ ∃ c, loopOf Tryd.prog 22 20 = some c ∧ ∀ ρ K, Rl22_20_0 (Tabs (k + 1)) ρ (seenV (PK 22 1 20 0) st) (seenM 1 (PK 22 1 20 0) st) st.dfs st.nt K = evK Tryd.prog lay (T (Tabs k)) (LT (Tabs k)) hints 22 1 c (parkE PK 22 1 20 .normal st) (loopNext (LT (Tabs k)) PK 22 1 20 K) := by
  rcases rl22_20_0 (seenV (PK 22 1 20 0) st) (seenM 1 (PK 22 1 20 0) st) st.dfs st.nt with h | ⟨a1, a2, a3, a4, a5, h1, h2, h3, h4⟩
  · exact .inl fun ρ K => h ..
  · refine .inr ⟨_, lbl22_20_0, fun ρ K => ?_⟩
    rw [show parkE PK 22 1 20 (.normal : Ex sig) st = canon ((PK 22 1 20 0).1.map (·.1)) (seenV (PK 22 1 20 0) st) (seenM 1 (PK 22 1 20 0) st) st.dfs st.nt from park_seen ..]
    rw [h1, h2, h3, h4]
    exact (gl22_20_0 (Tabs k) ρ K a1 a2 a3 a4 a5).symm

theorem ul24_3_0 (k : Nat) (st : St sig) : (∀ ρ K, Rl24_3_0 (Tabs (k + 1)) ρ (seenV (PK 24 0 3 0) st) (seenM 0 (PK 24 0 3 0) st) st.dfs st.nt K = none) ∨ ∃ c, loopOf Tryd.prog 24 3 = some c ∧ ∀ ρ K, Rl24_3_0 (Tabs (k + 1)) ρ (seenV (PK 24 0 3 0) st) (seenM 0 (PK 24 0 3 0) st) st.dfs st.nt K = evK Tryd.prog lay (T (Tabs k)) (LT (Tabs k)) hints 24 0 c (parkE PK 24 0 3 .normal st) (loopNext (LT (Tabs k)) PK 24 0 3 K) := by
  rcases rl24_3_0 (seenV (PK 24 0 3 0) st) (seenM 0 (PK 24 0 3 0) st) st.dfs st.nt with h | ⟨a1, a2, a3, a4, h1, h2, h3, h4⟩
  · exact .inl fun ρ K => h ..
  · refine .inr ⟨_, lbl24_3_0, fun ρ K => ?_⟩
    rw [show parkE PK 24 0 3 (.normal : Ex sig) st = canon ((PK 24 0 3 0).1.map (·.1)) (seenV (PK 24 0 3 0) st) (seenM 0 (PK 24 0 3 0) st) st.dfs st.nt from park_seen ..]
    rw [h1, h2, h3, h4]
    obtain ⟨a4_0, a4_1, a4_2⟩ := a4; exact (gl24_3_0 (Tabs k) ρ K a1 a2 a3 ⟨a4_0, a4_1, a4_2⟩).symm

theorem ul25_18_0 (k : Nat) (st : St sig) : (∀ ρ K, Rl25_18_0 (Tabs (k + 1)) ρ (seenV (PK 25 0 18 0) st) (seenM 0 (PK 25 0 18 0) st) st.dfs st.nt K = none) ∨ ∃ c, loopOf Tryd.prog 25 18 = some c ∧ ∀ ρ K, Rl25_18_0 (Tabs (k + 1)) ρ (seenV (PK 25 0 18 0) st) (seenM 0 (PK 25 0 18 0) st) st.dfs st.nt K = evK Tryd.prog lay (T (Tabs k)) (LT (Tabs k)) hints 25 0 c (parkE PK 25 0 18 .normal st) (loopNext (LT (Tabs k)) PK 25 0 18 K) := by
  rcases rl25_18_0 (seenV (PK 25 0 18 0) st) (seenM 0 (PK 25 0 18 0) st) st.dfs st.nt with h | ⟨a1, a2, a3, h1, h2, h3, h4⟩
  · exact .inl fun ρ K => h ..
  · refine .inr ⟨_, lbl25_18_0, fun ρ K => ?_⟩
    rw [show parkE PK 25 0 18 (.normal : Ex sig) st = canon ((PK 25 0 18 0).1.map (·.1)) (seenV (PK 25 0 18 0) st) (seenM 0 (PK 25 0 18 0) st) st.dfs st.nt from park_seen ..]
    rw [h1, h2, h3, h4]
    obtain ⟨a3_0, a3_1, a3_2⟩ := a3; exact (gl25_18_0 (Tabs k) ρ K a1 a2 ⟨a3_0, a3_1, a3_2⟩).symm

theorem ul28_6_0 (k : Nat) (st : St sig) : (∀ ρ K, Rl28_6_0 (Tabs (k + 1)) ρ (seenV (PK 28 0 6 0) st) (seenM 0 (PK 28 0 6 0) st) st.dfs st.nt K = none) ∨ ∃ c, loopOf Tryd.prog 28 6 = some c ∧ ∀ ρ K, Rl28_6_0 (Tabs (k + 1)) ρ (seenV (PK 28 0 6 0) st) (seenM 0 (PK 28 0 6 0) st) st.dfs st.nt K = evK Tryd.prog lay (T (Tabs k)) (LT (Tabs k)) hints 28 0 c (parkE PK 28 0 6 .normal st) (loopNext (LT (Tabs k)) PK 28 0 6 K) := by
  rcases rl28_6_0 (seenV (PK 28 0 6 0) st) (seenM 0 (PK 28 0 6 0) st) st.dfs st.nt with h | ⟨a1, a2, a3, a4, h1, h2, h3, h4⟩
  · exact .inl fun ρ K => h ..
  · refine .inr ⟨_, lbl28_6_0, fun ρ K => ?_⟩
    rw [show parkE PK 28 0 6 (.normal : Ex sig) st = canon ((PK 28 0 6 0).1.map (·.1)) (seenV (PK 28 0 6 0) st) (seenM 0 (PK 28 0 6 0) st) st.dfs st.nt from park_seen ..]
    rw [h1, h2, h3, h4]
    exact (gl28_6_0 (Tabs k) ρ K a1 a2 a3 a4).symm

theorem ul30_4_0 (k : Nat) (st : St sig) : (∀ ρ K, Rl30_4_0 (Tabs (k + 1)) ρ (seenV (PK 30 1 4 0) st) (seenM 1 (PK 30 1 4 0) st) st.dfs st.nt K = none) ∨ ∃ c, loopOf Tryd.prog 30 4 = some c ∧ ∀ ρ K, Rl30_4_0 (Tabs (k + 1)) ρ (seenV (PK 30 1 4 0) st) (seenM 1 (PK 30 1 4 0) st) st.dfs st.nt K = evK Tryd.prog lay (T (Tabs k)) (LT (Tabs k)) hints 30 1 c (parkE PK 30 1 4 .normal st) (loopNext (LT (Tabs k)) PK 30 1 4 K) := by
  rcases rl30_4_0 (seenV (PK 30 1 4 0) st) (seenM 1 (PK 30 1 4 0) st) st.dfs st.nt with h | ⟨a1, a2, a3, a4, a5, h1, h2, h3, h4⟩
  · exact .inl fun ρ K => h ..
  · refine .inr ⟨_, lbl30_4_0, fun ρ K => ?_⟩
    rw [show parkE PK 30 1 4 (.normal : Ex sig) st = canon ((PK 30 1 4 0).1.map (·.1)) (seenV (PK 30 1 4 0) st) (seenM 1 (PK 30 1 4 0) st) st.dfs st.nt from park_seen ..]
    rw [h1, h2, h3, h4]
    obtain ⟨a4_0, a4_1, a4_2⟩ := a4; obtain ⟨a5_0, a5_1, a5_2⟩ := a5; exact (gl30_4_0 (Tabs k) ρ K a1 a2 a3 ⟨a4_0, a4_1, a4_2⟩ ⟨a5_0, a5_1, a5_2⟩).symm

theorem ul33_4_0 (k : Nat) (st : St sig) : (∀ ρ K, Rl33_4_0 (Tabs (k + 1)) ρ (seenV (PK 33 0 4 0) st) (seenM 0 (PK 33 0 4 0) st) st.dfs st.nt K = none) ∨ ∃ c, loopOf Tryd.prog 33 4 = some c ∧ ∀ ρ K, Rl33_4_0 (Tabs (k + 1)) ρ (seenV (PK 33 0 4 0) st) (seenM 0 (PK 33 0 4 0) st) st.dfs st.nt K = evK Tryd.prog lay (T (Tabs k)) (LT (Tabs k)) hints 33 0 c (parkE PK 33 0 4 .normal st) (loopNext (LT (Tabs k)) PK 33 0 4 K) := by
  rcases rl33_4_0 (seenV (PK 33 0 4 0) st) (seenM 0 (PK 33 0 4 0) st) st.dfs st.nt with h | ⟨a1, a2, a3, a4, h1, h2, h3, h4⟩
  · exact .inl fun ρ K => h ..
  · refine .inr ⟨_, lbl33_4_0, fun ρ K => ?_⟩
    rw [show parkE PK 33 0 4 (.normal : Ex sig) st = canon ((PK 33 0 4 0).1.map (·.1)) (seenV (PK 33 0 4 0) st) (seenM 0 (PK 33 0 4 0) st) st.dfs st.nt from park_seen ..]
    rw [h1, h2, h3, h4]
    exact (gl33_4_0 (Tabs k) ρ K a1 a2 a3 a4).symm

theorem ul34_8_0 (k : Nat) (st : St sig) : (∀ ρ K, Rl34_8_0 (Tabs (k + 1)) ρ (seenV (PK 34 0 8 0) st) (seenM 0 (PK 34 0 8 0) st) st.dfs st.nt K = none) ∨ ∃ c, loopOf Tryd.prog 34 8 = some c ∧ ∀ ρ K, Rl34_8_0 (Tabs (k + 1)) ρ (seenV (PK 34 0 8 0) st) (seenM 0 (PK 34 0 8 0) st) st.dfs st.nt K = evK Tryd.prog lay (T (Tabs k)) (LT (Tabs k)) hints 34 0 c (parkE PK 34 0 8 .normal st) (loopNext (LT (Tabs k)) PK 34 0 8 K) := by
  rcases rl34_8_0 (seenV (PK 34 0 8 0) st) (seenM 0 (PK 34 0 8 0) st) st.dfs st.nt with h | ⟨a1, a2, a3, a4, a5, h1, h2, h3, h4⟩
  · exact .inl fun ρ K => h ..
  · refine .inr ⟨_, lbl34_8_0, fun ρ K => ?_⟩
    rw [show parkE PK 34 0 8 (.normal : Ex sig) st = canon ((PK 34 0 8 0).1.map (·.1)) (seenV (PK 34 0 8 0) st) (seenM 0 (PK 34 0 8 0) st) st.dfs st.nt from park_seen ..]
    rw [h1, h2, h3, h4]
    exact (gl34_8_0 (Tabs k) ρ K a1 a2 a3 a4 a5).symm

theorem ul35_14_0 (k : Nat) (st : St sig) : (∀ ρ K, Rl35_14_0 (Tabs (k + 1)) ρ (seenV (PK 35 0 14 0) st) (seenM 0 (PK 35 0 14 0) st) st.dfs st.nt K = none) ∨ ∃ c, loopOf Tryd.prog 35 14 = some c ∧ ∀ ρ K, Rl35_14_0 (Tabs (k + 1)) ρ (seenV (PK 35 0 14 0) st) (seenM 0 (PK 35 0 14 0) st) st.dfs st.nt K = evK Tryd.prog lay (T (Tabs k)) (LT (Tabs k)) hints 35 0 c (parkE PK 35 0 14 .normal st) (loopNext (LT (Tabs k)) PK 35 0 14 K) := by
  rcases rl35_14_0 (seenV (PK 35 0 14 0) st) (seenM 0 (PK 35 0 14 0) st) st.dfs st.nt with h | ⟨a1, a2, a3, a4, h1, h2, h3, h4⟩
  · exact .inl fun ρ K => h ..
  · refine .inr ⟨_, lbl35_14_0, fun ρ K => ?_⟩
    rw [show parkE PK 35 0 14 (.normal : Ex sig) st = canon ((PK 35 0 14 0).1.map (·.1)) (seenV (PK 35 0 14 0) st) (seenM 0 (PK 35 0 14 0) st) st.dfs st.nt from park_seen ..]
    rw [h1, h2, h3, h4]
    obtain ⟨a4_0, a4_1, a4_2⟩ := a4; exact (gl35_14_0 (Tabs k) ρ K a1 a2 a3 ⟨a4_0, a4_1, a4_2⟩).symm

theorem ul43_0_0 (k : Nat) (st : St sig) : (∀ ρ K, Rl43_0_0 (Tabs (k + 1)) ρ (seenV (PK 43 1 0 0) st) (seenM 1 (PK 43 1 0 0) st) st.dfs st.nt K = none) ∨ ∃ c, loopOf Tryd.prog 43 0 = some c ∧ ∀ ρ K, Rl43_0_0 (Tabs (k + 1)) ρ (seenV (PK 43 1 0 0) st) (seenM 1 (PK 43 1 0 0) st) st.dfs st.nt K = evK Tryd.prog lay (T (Tabs k)) (LT (Tabs k)) hints 43 1 c (parkE PK 43 1 0 .normal st) (loopNext (LT (Tabs k)) PK 43 1 0 K) := by
  rcases rl43_0_0 (seenV (PK 43 1 0 0) st) (seenM 1 (PK 43 1 0 0) st) st.dfs st.nt with h | ⟨a1, a2, h1, h2, h3, h4⟩
  · exact .inl fun ρ K => h ..
  · refine .inr ⟨_, lbl43_0_0, fun ρ K => ?_⟩
    rw [show parkE PK 43 1 0 (.normal : Ex sig) st = canon ((PK 43 1 0 0).1.map (·.1)) (seenV (PK 43 1 0 0) st) (seenM 1 (PK 43 1 0 0) st) st.dfs st.nt from park_seen ..]
    rw [h1, h2, h3, h4]
    exact (gl43_0_0 (Tabs k) ρ K a1 a2).symm

theorem ul47_2_0 (k : Nat) (st : St sig) : (∀ ρ K, Rl47_2_0 (Tabs (k + 1)) ρ (seenV (PK 47 1 2 0) st) (seenM 1 (PK 47 1 2 0) st) st.dfs st.nt K = none) ∨ ∃ c, loopOf Tryd.prog 47 2 = some c ∧ ∀ ρ K, Rl47_2_0 (Tabs (k + 1)) ρ (seenV (PK 47 1 2 0) st) (seenM 1 (PK 47 1 2 0) st) st.dfs st.nt K = evK Tryd.prog lay (T (Tabs k)) (LT (Tabs k)) hints 47 1 c (parkE PK 47 1 2 .normal st) (loopNext (LT (Tabs k)) PK 47 1 2 K) := by
  rcases rl47_2_0 (seenV (PK 47 1 2 0) st) (seenM 1 (PK 47 1 2 0) st) st.dfs st.nt with h | ⟨a1, a2, a3, a4, h1, h2, h3, h4⟩
  · exact .inl fun ρ K => h ..
  · refine .inr ⟨_, lbl47_2_0, fun ρ K => ?_⟩
    rw [show parkE PK 47 1 2 (.normal : Ex sig) st = canon ((PK 47 1 2 0).1.map (·.1)) (seenV (PK 47 1 2 0) st) (seenM 1 (PK 47 1 2 0) st) st.dfs st.nt from park_seen ..]
    rw [h1, h2, h3, h4]
    obtain ⟨a3_0, a3_1, a3_2⟩ := a3; obtain ⟨a4_0, a4_1, a4_2⟩ := a4; exact (gl47_2_0 (Tabs k) ρ K a1 a2 ⟨a3_0, a3_1, a3_2⟩ ⟨a4_0, a4_1, a4_2⟩).symm

theorem ul51_2_0 (k : Nat) (st : St sig) : (∀ ρ K, Rl51_2_0 (Tabs (k + 1)) ρ (seenV (PK 51 0 2 0) st) (seenM 0 (PK 51 0 2 0) st) st.dfs st.nt K = none) ∨ ∃ c, loopOf Tryd.prog 51 2 = some c ∧ ∀ ρ K, Rl51_2_0 (Tabs (k + 1)) ρ (seenV (PK 51 0 2 0) st) (seenM 0 (PK 51 0 2 0) st) st.dfs st.nt K = evK Tryd.prog lay (T (Tabs k)) (LT (Tabs k)) hints 51 0 c (parkE PK 51 0 2 .normal st) (loopNext (LT (Tabs k)) PK 51 0 2 K) := by
  rcases rl51_2_0 (seenV (PK 51 0 2 0) st) (seenM 0 (PK 51 0 2 0) st) st.dfs st.nt with h | ⟨a1, a2, a3, a4, h1, h2, h3, h4⟩
  · exact .inl fun ρ K => h ..
  · refine .inr ⟨_, lbl51_2_0, fun ρ K => ?_⟩
    rw [show parkE PK 51 0 2 (.normal : Ex sig) st = canon ((PK 51 0 2 0).1.map (·.1)) (seenV (PK 51 0 2 0) st) (seenM 0 (PK 51 0 2 0) st) st.dfs st.nt from park_seen ..]
    rw [h1, h2, h3, h4]
    exact (gl51_2_0 (Tabs k) ρ K a1 a2 a3 a4).symm

theorem ul58_2_0 (k : Nat) (st : St sig) : (∀ ρ K, Rl58_2_0 (Tabs (k + 1)) ρ (seenV (PK 58 0 2 0) st) (seenM 0 (PK 58 0 2 0) st) st.dfs st.nt K = none) ∨ ∃ c, loopOf Tryd.prog 58 2 = some c ∧ ∀ ρ K, Rl58_2_0 (Tabs (k + 1)) ρ (seenV (PK 58 0 2 0) st) (seenM 0 (PK 58 0 2 0) st) st.dfs st.nt K = evK Tryd.prog lay (T (Tabs k)) (LT (Tabs k)) hints 58 0 c (parkE PK 58 0 2 .normal st) (loopNext (LT (Tabs k)) PK 58 0 2 K) := by
  rcases rl58_2_0 (seenV (PK 58 0 2 0) st) (seenM 0 (PK 58 0 2 0) st) st.dfs st.nt with h | ⟨a1, a2, a3, a4, h1, h2, h3, h4⟩
  · exact .inl fun ρ K => h ..
  · refine .inr ⟨_, lbl58_2_0, fun ρ K => ?_⟩
    rw [show parkE PK 58 0 2 (.normal : Ex sig) st = canon ((PK 58 0 2 0).1.map (·.1)) (seenV (PK 58 0 2 0) st) (seenM 0 (PK 58 0 2 0) st) st.dfs st.nt from park_seen ..]
    rw [h1, h2, h3, h4]
    exact (gl58_2_0 (Tabs k) ρ K a1 a2 a3 a4).symm

theorem ul65_2_0 (k : Nat) (st : St sig) : (∀ ρ K, Rl65_2_0 (Tabs (k + 1)) ρ (seenV (PK 65 1 2 0) st) (seenM 1 (PK 65 1 2 0) st) st.dfs st.nt K = none) ∨ ∃ c, loopOf Tryd.prog 65 2 = some c ∧ ∀ ρ K, Rl65_2_0 (Tabs (k + 1)) ρ (seenV (PK 65 1 2 0) st) (seenM 1 (PK 65 1 2 0) st) st.dfs st.nt K = evK Tryd.prog lay (T (Tabs k)) (LT (Tabs k)) hints 65 1 c (parkE PK 65 1 2 .normal st) (loopNext (LT (Tabs k)) PK 65 1 2 K) := by
  rcases rl65_2_0 (seenV (PK 65 1 2 0) st) (seenM 1 (PK 65 1 2 0) st) st.dfs st.nt with h | ⟨a1, a2, a3, a4, h1, h2, h3, h4⟩
  · exact .inl fun ρ K => h ..
  · refine .inr ⟨_, lbl65_2_0, fun ρ K => ?_⟩
    rw [show parkE PK 65 1 2 (.normal : Ex sig) st = canon ((PK 65 1 2 0).1.map (·.1)) (seenV (PK 65 1 2 0) st) (seenM 1 (PK 65 1 2 0) st) st.dfs st.nt from park_seen ..]
    rw [h1, h2, h3, h4]
    exact (gl65_2_0 (Tabs k) ρ K a1 a2 a3 a4).symm

theorem ul80_2_0 (k : Nat) (st : St sig) : (∀ ρ K, Rl80_2_0 (Tabs (k + 1)) ρ (seenV (PK 80 0 2 0) st) (seenM 0 (PK 80 0 2 0) st) st.dfs st.nt K = none) ∨ ∃ c, loopOf Tryd.prog 80 2 = some c ∧ ∀ ρ K, Rl80_2_0 (Tabs (k + 1)) ρ (seenV (PK 80 0 2 0) st) (seenM 0 (PK 80 0 2 0) st) st.dfs st.nt K = evK Tryd.prog lay (T (Tabs k)) (LT (Tabs k)) hints 80 0 c (parkE PK 80 0 2 .normal st) (loopNext (LT (Tabs k)) PK 80 0 2 K) := by
  rcases rl80_2_0 (seenV (PK 80 0 2 0) st) (seenM 0 (PK 80 0 2 0) st) st.dfs st.nt with h | ⟨a1, a2, a3, a4, h1, h2, h3, h4⟩
  · exact .inl fun ρ K => h ..
  · refine .inr ⟨_, lbl80_2_0, fun ρ K => ?_⟩
    rw [show parkE PK 80 0 2 (.normal : Ex sig) st = canon ((PK 80 0 2 0).1.map (·.1)) (seenV (PK 80 0 2 0) st) (seenM 0 (PK 80 0 2 0) st) st.dfs st.nt from park_seen ..]
    rw [h1, h2, h3, h4]
    exact (gl80_2_0 (Tabs k) ρ K a1 a2 a3 a4).symm

theorem ul82_4_0 (k : Nat) (st : St sig) : (∀ ρ K, Rl82_4_0 (Tabs (k + 1)) ρ (seenV (PK 82 0 4 0) st) (seenM 0 (PK 82 0 4 0) st) st.dfs st.nt K = none) ∨ ∃ c, loopOf Tryd.prog 82 4 = some c ∧ ∀ ρ K, Rl82_4_0 (Tabs (k + 1)) ρ (seenV (PK 82 0 4 0) st) (seenM 0 (PK 82 0 4 0) st) st.dfs st.nt K = evK Tryd.prog lay (T (Tabs k)) (LT (Tabs k)) hints 82 0 c (parkE PK 82 0 4 .normal st) (loopNext (LT (Tabs k)) PK 82 0 4 K) := by
  rcases rl82_4_0 (seenV (PK 82 0 4 0) st) (seenM 0 (PK 82 0 4 0) st) st.dfs st.nt with h | ⟨a1, a2, a3, h1, h2, h3, h4⟩
  · exact .inl fun ρ K => h ..
  · refine .inr ⟨_, lbl82_4_0, fun ρ K => ?_⟩
    rw [show parkE PK 82 0 4 (.normal : Ex sig) st = canon ((PK 82 0 4 0).1.map (·.1)) (seenV (PK 82 0 4 0) st) (seenM 0 (PK 82 0 4 0) st) st.dfs st.nt from park_seen ..]
    rw [h1, h2, h3, h4]
    exact (gl82_4_0 (Tabs k) ρ K a1 a2 a3).symm

theorem ul84_1_0 (k : Nat) (st : St sig) : (∀ ρ K, Rl84_1_0 (Tabs (k + 1)) ρ (seenV (PK 84 0 1 0) st) (seenM 0 (PK 84 0 1 0) st) st.dfs st.nt K = none) ∨ ∃ c, loopOf Tryd.prog 84 1 = some c ∧ ∀ ρ K, Rl84_1_0 (Tabs (k + 1)) ρ (seenV (PK 84 0 1 0) st) (seenM 0 (PK 84 0 1 0) st) st.dfs st.nt K = evK Tryd.prog lay (T (Tabs k)) (LT (Tabs k)) hints 84 0 c (parkE PK 84 0 1 .normal st) (loopNext (LT (Tabs k)) PK 84 0 1 K) := by
  rcases rl84_1_0 (seenV (PK 84 0 1 0) st) (seenM 0 (PK 84 0 1 0) st) st.dfs st.nt with h | ⟨a1, a2, h1, h2, h3, h4⟩
  · exact .inl fun ρ K => h ..
  · refine .inr ⟨_, lbl84_1_0, fun ρ K => ?_⟩
    rw [show parkE PK 84 0 1 (.normal : Ex sig) st = canon ((PK 84 0 1 0).1.map (·.1)) (seenV (PK 84 0 1 0) st) (seenM 0 (PK 84 0 1 0) st) st.dfs st.nt from park_seen ..]
    rw [h1, h2, h3, h4]
    exact (gl84_1_0 (Tabs k) ρ K a1 a2).symm

theorem tL (k f np key : Nat) (st : St sig) : (∀ ρ K, LT (Tabs (k + 1)) ρ f np key st K = none) ∨ ∃ c, loopOf Tryd.prog f key = some c ∧ ∀ ρ K, LT (Tabs (k + 1)) ρ f np key st K = evK Tryd.prog lay (T (Tabs k)) (LT (Tabs k)) hints f np c (parkE PK f np key .normal st) (loopNext (LT (Tabs k)) PK f np key K) := by
  unfold LT
  cases hc : Nat.beq f 15 && (Nat.beq np 0 && Nat.beq key 4) with
  | true =>
    simp only [cond_true]; simp only [Bool.and_eq_true] at hc; rw [Nat.eq_of_beq_eq_true hc.1, Nat.eq_of_beq_eq_true hc.2.1, Nat.eq_of_beq_eq_true hc.2.2]
    exact ul15_4_0 k st
  | false =>
  simp only [cond_false]; clear hc
  cases hc : Nat.beq f 18 && (Nat.beq np 0 && Nat.beq key 4) with
  | true =>
    simp only [cond_true]; simp only [Bool.and_eq_true] at hc; rw [Nat.eq_of_beq_eq_true hc.1, Nat.eq_of_beq_eq_true hc.2.1, Nat.eq_of_beq_eq_true hc.2.2]
    exact ul18_4_0 k st
  | false =>
  simp only [cond_false]; clear hc
  cases hc : Nat.beq f 22 && (Nat.beq np 1 && Nat.beq key 20) with
  | true =>
    simp only [cond_true]; simp only [Bool.and_eq_true] at hc; rw [Nat.eq_of_beq_eq_true hc.1, Nat.eq_of_beq_eq_true hc.2.1, Nat.eq_of_beq_eq_true hc.2.2]
    exact ul22_20_0 k st
  | false =>
  simp only [cond_false]; clear hc
  cases hc : Nat.beq f 24 && (Nat.beq np 0 && Nat.beq key 3) with
  | true =>
    simp only [cond_true]; simp only [Bool.and_eq_true] at hc; rw [Nat.eq_of_beq_eq_true hc.1, Nat.eq_of_beq_eq_true hc.2.1, Nat.eq_of_beq_eq_true hc.2.2]
    exact ul24_3_0 k st
  | false =>
  simp only [cond_false]; clear hc
  cases hc : Nat.beq f 25 && (Nat.beq np 0 && Nat.beq key 18) with
  | true =>
    simp only [cond_true]; simp only [Bool.and_eq_true] at hc; rw [Nat.eq_of_beq_eq_true hc.1, Nat.eq_of_beq_eq_true hc.2.1, Nat.eq_of_beq_eq_true hc.2.2]
    exact ul25_18_0 k st
  | false =>
  simp only [cond_false]; clear hc
  cases hc : Nat.beq f 28 && (Nat.beq np 0 && Nat.beq key 6) with
  | true =>
    simp only [cond_true]; simp only [Bool.and_eq_true] at hc; rw [Nat.eq_of_beq_eq_true hc.1, Nat.eq_of_beq_eq_true hc.2.1, Nat.eq_of_beq_eq_true hc.2.2]
    exact ul28_6_0 k st
  | false =>
  simp only [cond_false]; clear hc
  cases hc : Nat.beq f 30 && (Nat.beq np 1 && Nat.beq key 4) with
  | true =>
    simp only [cond_true]; simp only [Bool.and_eq_true] at hc; rw [Nat.eq_of_beq_eq_true hc.1, Nat.eq_of_beq_eq_true hc.2.1, Nat.eq_of_beq_eq_true hc.2.2]
    exact ul30_4_0 k st
  | false =>
  simp only [cond_false]; clear hc
  cases hc : Nat.beq f 33 && (Nat.beq np 0 && Nat.beq key 4) with
  | true =>
    simp only [cond_true]; simp only [Bool.and_eq_true] at hc; rw [Nat.eq_of_beq_eq_true hc.1, Nat.eq_of_beq_eq_true hc.2.1, Nat.eq_of_beq_eq_true hc.2.2]
    exact ul33_4_0 k st
  | false =>
  simp only [cond_false]; clear hc
  cases hc : Nat.beq f 34 && (Nat.beq np 0 && Nat.beq key 8) with
  | true =>
    simp only [cond_true]; simp only [Bool.and_eq_true] at hc; rw [Nat.eq_of_beq_eq_true hc.1, Nat.eq_of_beq_eq_true hc.2.1, Nat.eq_of_beq_eq_true hc.2.2]
    exact ul34_8_0 k st
  | false =>
  simp only [cond_false]; clear hc
  cases hc : Nat.beq f 35 && (Nat.beq np 0 && Nat.beq key 14) with
  | true =>
    simp only [cond_true]; simp only [Bool.and_eq_true] at hc; rw [Nat.eq_of_beq_eq_true hc.1, Nat.eq_of_beq_eq_true hc.2.1, Nat.eq_of_beq_eq_true hc.2.2]
    exact ul35_14_0 k st
  | false =>
  simp only [cond_false]; clear hc
  cases hc : Nat.beq f 43 && (Nat.beq np 1 && Nat.beq key 0) with
  | true =>
    simp only [cond_true]; simp only [Bool.and_eq_true] at hc; rw [Nat.eq_of_beq_eq_true hc.1, Nat.eq_of_beq_eq_true hc.2.1, Nat.eq_of_beq_eq_true hc.2.2]
    exact ul43_0_0 k st
  | false =>
  simp only [cond_false]; clear hc
  cases hc : Nat.beq f 47 && (Nat.beq np 1 && Nat.beq key 2) with
  | true =>
    simp only [cond_true]; simp only [Bool.and_eq_true] at hc; rw [Nat.eq_of_beq_eq_true hc.1, Nat.eq_of_beq_eq_true hc.2.1, Nat.eq_of_beq_eq_true hc.2.2]
    exact ul47_2_0 k st
  | false =>
  simp only [cond_false]; clear hc
  cases hc : Nat.beq f 51 && (Nat.beq np 0 && Nat.beq key 2) with
  | true =>
    simp only [cond_true]; simp only [Bool.and_eq_true] at hc; rw [Nat.eq_of_beq_eq_true hc.1, Nat.eq_of_beq_eq_true hc.2.1, Nat.eq_of_beq_eq_true hc.2.2]
    exact ul51_2_0 k st
  | false =>
  simp only [cond_false]; clear hc
  cases hc : Nat.beq f 58 && (Nat.beq np 0 && Nat.beq key 2) with
  | true =>
    simp only [cond_true]; simp only [Bool.and_eq_true] at hc; rw [Nat.eq_of_beq_eq_true hc.1, Nat.eq_of_beq_eq_true hc.2.1, Nat.eq_of_beq_eq_true hc.2.2]
    exact ul58_2_0 k st
  | false =>
  simp only [cond_false]; clear hc
  cases hc : Nat.beq f 65 && (Nat.beq np 1 && Nat.beq key 2) with
  | true =>
    simp only [cond_true]; simp only [Bool.and_eq_true] at hc; rw [Nat.eq_of_beq_eq_true hc.1, Nat.eq_of_beq_eq_true hc.2.1, Nat.eq_of_beq_eq_true hc.2.2]
    exact ul65_2_0 k st
  | false =>
  simp only [cond_false]; clear hc
  cases hc : Nat.beq f 80 && (Nat.beq np 0 && Nat.beq key 2) with
  | true =>
    simp only [cond_true]; simp only [Bool.and_eq_true] at hc; rw [Nat.eq_of_beq_eq_true hc.1, Nat.eq_of_beq_eq_true hc.2.1, Nat.eq_of_beq_eq_true hc.2.2]
    exact ul80_2_0 k st
  | false =>
  simp only [cond_false]; clear hc
  cases hc : Nat.beq f 82 && (Nat.beq np 0 && Nat.beq key 4) with
  | true =>
    simp only [cond_true]; simp only [Bool.and_eq_true] at hc; rw [Nat.eq_of_beq_eq_true hc.1, Nat.eq_of_beq_eq_true hc.2.1, Nat.eq_of_beq_eq_true hc.2.2]
    exact ul82_4_0 k st
  | false =>
  simp only [cond_false]; clear hc
  cases hc : Nat.beq f 84 && (Nat.beq np 0 && Nat.beq key 1) with
  | true =>
    simp only [cond_true]; simp only [Bool.and_eq_true] at hc; rw [Nat.eq_of_beq_eq_true hc.1, Nat.eq_of_beq_eq_true hc.2.1, Nat.eq_of_beq_eq_true hc.2.2]
    exact ul84_1_0 k st
  | false =>
  simp only [cond_false]; clear hc
  first | exact .inl fun _ _ => rfl | exact .inl fun _ _ => trivial

theorem z3 (args : List (PV sig)) (m : Mem sig) : ∀ ρ K, T3 (Tabs 0) ρ args m K = none := by
  rcases rc3_0 args m with h | ⟨a1, rfl, rfl⟩
  · exact fun ρ K => h ..
  · obtain ⟨a1_0, a1_1, a1_2⟩ := a1; exact fun ρ K => rfl

theorem z4 (args : List (PV sig)) (m : Mem sig) : ∀ ρ K, T4 (Tabs 0) ρ args m K = none := by
  rcases rc4_0 args m with h | ⟨a1, a2, rfl, rfl⟩
  · exact fun ρ K => h ..
  · obtain ⟨a1_0, a1_1, a1_2⟩ := a1; obtain ⟨a2_0, a2_1, a2_2⟩ := a2; exact fun ρ K => rfl

theorem z5 (args : List (PV sig)) (m : Mem sig) : ∀ ρ K, T5 (Tabs 0) ρ args m K = none := by
  rcases rc5_0 args m with h | ⟨a1, a2, a3, rfl, rfl⟩
  · exact fun ρ K => h ..
  · obtain ⟨a1_0, a1_1, a1_2⟩ := a1; obtain ⟨a2_0, a2_1, a2_2⟩ := a2; obtain ⟨a3_0, a3_1, a3_2⟩ := a3; exact fun ρ K => rfl

theorem z6 (args : List (PV sig)) (m : Mem sig) : ∀ ρ K, T6 (Tabs 0) ρ args m K = none := by
  rcases rc6_0 args m with h | ⟨a1, rfl, rfl⟩
  · exact fun ρ K => h ..
  · obtain ⟨a1_0, a1_1, a1_2⟩ := a1; exact fun ρ K => rfl

theorem z9 (args : List (PV sig)) (m : Mem sig) : ∀ ρ K, T9 (Tabs 0) ρ args m K = none := by
  rcases rc9_0 args m with h | ⟨a1, rfl, rfl⟩
  · exact fun ρ K => h ..
  · obtain ⟨a1_0, a1_1, a1_2⟩ := a1; exact fun ρ K => rfl

theorem z10 (args : List (PV sig)) (m : Mem sig) : ∀ ρ K, T10 (Tabs 0) ρ args m K = none := by
  rcases rc10_0 args m with h | ⟨a1, rfl, rfl⟩
  · exact fun ρ K => h ..
  · obtain ⟨a1_0, a1_1, a1_2⟩ := a1; exact fun ρ K => rfl

theorem z11 (args : List (PV sig)) (m : Mem sig) : ∀ ρ K, T11 (Tabs 0) ρ args m K = none := by
  rcases rc11_0 args m with h | ⟨a1, rfl, rfl⟩
  · exact fun ρ K => h ..
  · obtain ⟨a1_0, a1_1, a1_2⟩ := a1; exact fun ρ K => rfl

theorem z12 (args : List (PV sig)) (m : Mem sig) : ∀ ρ K, T12 (Tabs 0) ρ args m K = none := by
  rcases rc12_0 args m with h | ⟨rfl, rfl⟩
  · exact fun ρ K => h ..
  · exact fun ρ K => rfl

theorem z13 (args : List (PV sig)) (m : Mem sig) : ∀ ρ K, T13 (Tabs 0) ρ args m K = none := by
  rcases rc13_0 args m with h | ⟨a1, rfl, rfl⟩
  · exact fun ρ K => h ..
  · obtain ⟨a1_0, a1_1, a1_2⟩ := a1; exact fun ρ K => rfl

theorem z14 (args : List (PV sig)) (m : Mem sig) : ∀ ρ K, T14 (Tabs 0) ρ args m K = none := by
  rcases rc14_0 args m with h | ⟨a1, rfl, rfl⟩
  · exact fun ρ K => h ..
  · exact fun ρ K => rfl

theorem z15 (args : List (PV sig)) (m : Mem sig) : ∀ ρ K, T15 (Tabs 0) ρ args m K = none := by
  rcases rc15_0 args m with h | ⟨a1, a2, rfl, rfl⟩
  · exact fun ρ K => h ..
  · obtain ⟨a1_0, a1_1, a1_2⟩ := a1; obtain ⟨a2_0, a2_1, a2_2⟩ := a2; exact fun ρ K => rfl

theorem z16 (args : List (PV sig)) (m : Mem sig) : ∀ ρ K, T16 (Tabs 0) ρ args m K = none := by
  rcases rc16_0 args m with h | ⟨a1, a2, rfl, rfl⟩
  · exact fun ρ K => h ..
  · obtain ⟨a1_0, a1_1, a1_2⟩ := a1; obtain ⟨a2_0, a2_1, a2_2⟩ := a2; exact fun ρ K => rfl

theorem z17 (args : List (PV sig)) (m : Mem sig) : ∀ ρ K, T17 (Tabs 0) ρ args m K = none := by
  rcases rc17_0 args m with h | ⟨a1, rfl, rfl⟩
  · exact fun ρ K => h ..
  · obtain ⟨a1_0, a1_1, a1_2⟩ := a1; exact fun ρ K => rfl

theorem z18 (args : List (PV sig)) (m : Mem sig) : ∀ ρ K, T18 (Tabs 0) ρ args m K = none := by
  rcases rc18_0 args m with h | ⟨a1, a2, rfl, rfl⟩
  · exact fun ρ K => h ..
  · exact fun ρ K => rfl

theorem z19 (args : List (PV sig)) (m : Mem sig) : ∀ ρ K, T19 (Tabs 0) ρ args m K = none := by
  rcases rc19_0 args m with h | ⟨a1, rfl, rfl⟩
  · exact fun ρ K => h ..
  · obtain ⟨a1_0, a1_1, a1_2⟩ := a1; exact fun ρ K => rfl

theorem z22 (args : List (PV sig)) (m : Mem sig) : ∀ ρ K, T22 (Tabs 0) ρ args m K = none := by
  rcases rc22_0 args m with h | ⟨a1, a2, a3, rfl, rfl⟩
  · exact fun ρ K => h ..
  · obtain ⟨a1_0, a1_1, a1_2⟩ := a1; exact fun ρ K => rfl

theorem z23 (args : List (PV sig)) (m : Mem sig) : ∀ ρ K, T23 (Tabs 0) ρ args m K = none := by
  rcases rc23_0 args m with h | ⟨a1, a2, rfl, rfl⟩
  · exact fun ρ K => h ..
  · obtain ⟨a1_0, a1_1, a1_2⟩ := a1; exact fun ρ K => rfl

theorem z24 (args : List (PV sig)) (m : Mem sig) : ∀ ρ K, T24 (Tabs 0) ρ args m K = none := by
  rcases rc24_0 args m with h | ⟨a1, a2, rfl, rfl⟩
  · exact fun ρ K => h ..
  · obtain ⟨a1_0, a1_1, a1_2⟩ := a1; exact fun ρ K => rfl

theorem z25 (args : List (PV sig)) (m : Mem sig) : ∀ ρ K, T25 (Tabs 0) ρ args m K = none := by
  rcases rc25_0 args m with h | ⟨a1, a2, rfl, rfl⟩
  · exact fun ρ K => h ..
  · obtain ⟨a1_0, a1_1, a1_2⟩ := a1; exact fun ρ K => rfl

theorem z26 (args : List (PV sig)) (m : Mem sig) : ∀ ρ K, T26 (Tabs 0) ρ args m K = none := by
  rcases rc26_0 args m with h | ⟨a1, a2, rfl, rfl⟩
  · exact fun ρ K => h ..
  · exact fun ρ K => rfl

theorem z27 (args : List (PV sig)) (m : Mem sig) : ∀ ρ K, T27 (Tabs 0) ρ args m K = none := by
  rcases rc27_0 args m with h | ⟨a1, rfl, rfl⟩
  · exact fun ρ K => h ..
  · obtain ⟨a1_0, a1_1, a1_2⟩ := a1; exact fun ρ K => rfl

theorem z28 (args : List (PV sig)) (m : Mem sig) : ∀ ρ K, T28 (Tabs 0) ρ args m K = none := by
  rcases rc28_0 args m with h | ⟨a1, rfl, rfl⟩
  · exact fun ρ K => h ..
  · exact fun ρ K => rfl

theorem z30 (args : List (PV sig)) (m : Mem sig) : ∀ ρ K, T30 (Tabs 0) ρ args m K = none := by
  rcases rc30_0 args m with h | ⟨a1, a2, rfl, rfl⟩
  · exact fun ρ K => h ..
  · exact fun ρ K => rfl

theorem z31 (args : List (PV sig)) (m : Mem sig) : ∀ ρ K, T31 (Tabs 0) ρ args m K = none := by
  rcases rc31_0 args m with h | ⟨a1, a2, rfl, rfl⟩
  · exact fun ρ K => h ..
  · exact fun ρ K => rfl

theorem z32 (args : List (PV sig)) (m : Mem sig) : ∀ ρ K, T32 (Tabs 0) ρ args m K = none := by
  rcases rc32_0 args m with h | ⟨a1, a2, rfl, rfl⟩
  · exact fun ρ K => h ..
  · exact fun ρ K => rfl

theorem z33 (args : List (PV sig)) (m : Mem sig) : ∀ ρ K, T33 (Tabs 0) ρ args m K = none := by
  rcases rc33_0 args m with h | ⟨a1, a2, rfl, rfl⟩
  · exact fun ρ K => h ..
  · exact fun ρ K => rfl

theorem z34 (args : List (PV sig)) (m : Mem sig) : ∀ ρ K, T34 (Tabs 0) ρ args m K = none := by
  unfold T34
  cases hc : Nat.beq (modeId (args.getD 1 .any)) 2 && Nat.beq (modeId (args.getD 2 .any)) 2 with
  | true =>
    simp only [cond_true]
    rcases rc34_0 args m with h | ⟨a1, a2, a3, rfl, rfl⟩
    · exact fun ρ K => h ..
    · obtain ⟨a1_0, a1_1, a1_2⟩ := a1; exact fun ρ K => rfl
  | false =>
    simp only [cond_false]
    cases hc : Nat.beq (modeId (args.getD 1 .any)) 1 && Nat.beq (modeId (args.getD 2 .any)) 3 with
    | true =>
      simp only [cond_true]
      rcases rc34_1 args m with h | ⟨a1, a2, a3, rfl, rfl⟩
      · exact fun ρ K => h ..
      · obtain ⟨a1_0, a1_1, a1_2⟩ := a1; exact fun ρ K => rfl
    | false =>
      simp only [cond_false]
      cases hc : Nat.beq (modeId (args.getD 1 .any)) 3 && Nat.beq (modeId (args.getD 2 .any)) 3 with
      | true =>
        simp only [cond_true]
        rcases rc34_2 args m with h | ⟨a1, a2, a3, rfl, rfl⟩
        · exact fun ρ K => h ..
        · obtain ⟨a1_0, a1_1, a1_2⟩ := a1; exact fun ρ K => rfl
      | false =>
        simp only [cond_false]
        first | exact fun _ _ => rfl | exact fun _ _ => trivial

theorem z35 (args : List (PV sig)) (m : Mem sig) : ∀ ρ K, T35 (Tabs 0) ρ args m K = none := by
  unfold T35
  cases hc : Nat.beq (modeId (args.getD 1 .any)) 2 && Nat.beq (modeId (args.getD 2 .any)) 2 with
  | true =>
    simp only [cond_true]
    rcases rc35_0 args m with h | ⟨a1, a2, a3, rfl, rfl⟩
    · exact fun ρ K => h ..
    · obtain ⟨a1_0, a1_1, a1_2⟩ := a1; exact fun ρ K => rfl
  | false =>
    simp only [cond_false]
    cases hc : Nat.beq (modeId (args.getD 1 .any)) 1 && Nat.beq (modeId (args.getD 2 .any)) 3 with
    | true =>
      simp only [cond_true]
      rcases rc35_1 args m with h | ⟨a1, a2, a3, rfl, rfl⟩
      · exact fun ρ K => h ..
      · obtain ⟨a1_0, a1_1, a1_2⟩ := a1; exact fun ρ K => rfl
    | false =>
      simp only [cond_false]
      cases hc : Nat.beq (modeId (args.getD 1 .any)) 1 && Nat.beq (modeId (args.getD 2 .any)) 2 with
      | true =>
        simp only [cond_true]
        rcases rc35_2 args m with h | ⟨a1, a2, a3, rfl, rfl⟩
        · exact fun ρ K => h ..
        · obtain ⟨a1_0, a1_1, a1_2⟩ := a1; exact fun ρ K => rfl
      | false =>
        simp only [cond_false]
        first | exact fun _ _ => rfl | exact fun _ _ => trivial

theorem z40 (args : List (PV sig)) (m : Mem sig) : ∀ ρ K, T40 (Tabs 0) ρ args m K = none := by
  rcases rc40_0 args m with h | ⟨a1, rfl, rfl⟩
  · exact fun ρ K => h ..
  · exact fun ρ K => rfl

theorem z41 (args : List (PV sig)) (m : Mem sig) : ∀ ρ K, T41 (Tabs 0) ρ args m K = none := by
  rcases rc41_0 args m with h | ⟨a1, a2, rfl, rfl⟩
  · exact fun ρ K => h ..
  · exact fun ρ K => rfl

theorem z42 (args : List (PV sig)) (m : Mem sig) : ∀ ρ K, T42 (Tabs 0) ρ args m K = none := by
  rcases rc42_0 args m with h | ⟨a1, rfl, rfl⟩
  · exact fun ρ K => h ..
  · exact fun ρ K => rfl

theorem z43 (args : List (PV sig)) (m : Mem sig) : ∀ ρ K, T43 (Tabs 0) ρ args m K = none := by
  rcases rc43_0 args m with h | ⟨a1, a2, rfl, rfl⟩
  · exact fun ρ K => h ..
  · exact fun ρ K => rfl

theorem z44 (args : List (PV sig)) (m : Mem sig) : ∀ ρ K, T44 (Tabs 0) ρ args m K = none := by
  rcases rc44_0 args m with h | ⟨a1, rfl, rfl⟩
  · exact fun ρ K => h ..
  · exact fun ρ K => rfl

theorem z45 (args : List (PV sig)) (m : Mem sig) : ∀ ρ K, T45 (Tabs 0) ρ args m K = none := by
  rcases rc45_0 args m with h | ⟨a1, a2, a3, rfl, rfl⟩
  · exact fun ρ K => h ..
  · exact fun ρ K => rfl

theorem z46 (args : List (PV sig)) (m : Mem sig) : ∀ ρ K, T46 (Tabs 0) ρ args m K = none := by
  rcases rc46_0 args m with h | ⟨a1, a2, rfl, rfl⟩
  · exact fun ρ K => h ..
  · exact fun ρ K => rfl

theorem z47 (args : List (PV sig)) (m : Mem sig) : ∀ ρ K, T47 (Tabs 0) ρ args m K = none := by
  rcases rc47_0 args m with h | ⟨a1, a2, rfl, rfl⟩
  · exact fun ρ K => h ..
  · exact fun ρ K => rfl

theorem z48 (args : List (PV sig)) (m : Mem sig) : ∀ ρ K, T48 (Tabs 0) ρ args m K = none := by
  rcases rc48_0 args m with h | ⟨a1, a2, rfl, rfl⟩
  · exact fun ρ K => h ..
  · exact fun ρ K => rfl

theorem z49 (args : List (PV sig)) (m : Mem sig) : ∀ ρ K, T49 (Tabs 0) ρ args m K = none := by
  rcases rc49_0 args m with h | ⟨a1, rfl, rfl⟩
  · exact fun ρ K => h ..
  · obtain ⟨a1_0, a1_1, a1_2⟩ := a1; exact fun ρ K => rfl

theorem z50 (args : List (PV sig)) (m : Mem sig) : ∀ ρ K, T50 (Tabs 0) ρ args m K = none := by
  rcases rc50_0 args m with h | ⟨a1, rfl, rfl⟩
  · exact fun ρ K => h ..
  · exact fun ρ K => rfl

theorem z51 (args : List (PV sig)) (m : Mem sig) : ∀ ρ K, T51 (Tabs 0) ρ args m K = none := by
  rcases rc51_0 args m with h | ⟨a1, a2, rfl, rfl⟩
  · exact fun ρ K => h ..
  · exact fun ρ K => rfl

theorem z54 (args : List (PV sig)) (m : Mem sig) : ∀ ρ K, T54 (Tabs 0) ρ args m K = none := by
  rcases rc54_0 args m with h | ⟨a1, rfl, rfl⟩
  · exact fun ρ K => h ..
  · exact fun ρ K => rfl

theorem z57 (args : List (PV sig)) (m : Mem sig) : ∀ ρ K, T57 (Tabs 0) ρ args m K = none := by
  rcases rc57_0 args m with h | ⟨a1, rfl, rfl⟩
  · exact fun ρ K => h ..
  · exact fun ρ K => rfl

theorem z58 (args : List (PV sig)) (m : Mem sig) : ∀ ρ K, T58 (Tabs 0) ρ args m K = none := by
  rcases rc58_0 args m with h | ⟨a1, a2, rfl, rfl⟩
  · exact fun ρ K => h ..
  · exact fun ρ K => rfl

theorem z59 (args : List (PV sig)) (m : Mem sig) : ∀ ρ K, T59 (Tabs 0) ρ args m K = none := by
  rcases rc59_0 args m with h | ⟨a1, rfl, rfl⟩
  · exact fun ρ K => h ..
  · exact fun ρ K => rfl

theorem z60 (args : List (PV sig)) (m : Mem sig) : ∀ ρ K, T60 (Tabs 0) ρ args m K = none := by
  rcases rc60_0 args m with h | ⟨a1, a2, a3, rfl, rfl⟩
  · exact fun ρ K => h ..
  · exact fun ρ K => rfl

theorem z61 (args : List (PV sig)) (m : Mem sig) : ∀ ρ K, T61 (Tabs 0) ρ args m K = none := by
  rcases rc61_0 args m with h | ⟨a1, a2, rfl, rfl⟩
  · exact fun ρ K => h ..
  · exact fun ρ K => rfl

theorem z62 (args : List (PV sig)) (m : Mem sig) : ∀ ρ K, T62 (Tabs 0) ρ args m K = none := by
  rcases rc62_0 args m with h | ⟨a1, a2, a3, rfl, rfl⟩
  · exact fun ρ K => h ..
  · exact fun ρ K => rfl

theorem z63 (args : List (PV sig)) (m : Mem sig) : ∀ ρ K, T63 (Tabs 0) ρ args m K = none := by
  rcases rc63_0 args m with h | ⟨a1, rfl, rfl⟩
  · exact fun ρ K => h ..
  · exact fun ρ K => rfl

theorem z64 (args : List (PV sig)) (m : Mem sig) : ∀ ρ K, T64 (Tabs 0) ρ args m K = none := by
  rcases rc64_0 args m with h | ⟨a1, a2, rfl, rfl⟩
  · exact fun ρ K => h ..
  · exact fun ρ K => rfl

theorem z65 (args : List (PV sig)) (m : Mem sig) : ∀ ρ K, T65 (Tabs 0) ρ args m K = none := by
  rcases rc65_0 args m with h | ⟨a1, a2, a3, rfl, rfl⟩
  · exact fun ρ K => h ..
  · exact fun ρ K => rfl

theorem z66 (args : List (PV sig)) (m : Mem sig) : ∀ ρ K, T66 (Tabs 0) ρ args m K = none := by
  rcases rc66_0 args m with h | ⟨a1, rfl, rfl⟩
  · exact fun ρ K => h ..
  · exact fun ρ K => rfl

theorem z67 (args : List (PV sig)) (m : Mem sig) : ∀ ρ K, T67 (Tabs 0) ρ args m K = none := by
  rcases rc67_0 args m with h | ⟨a1, a2, rfl, rfl⟩
  · exact fun ρ K => h ..
  · exact fun ρ K => rfl

theorem z68 (args : List (PV sig)) (m : Mem sig) : ∀ ρ K, T68 (Tabs 0) ρ args m K = none := by
  rcases rc68_0 args m with h | ⟨a1, rfl, rfl⟩
  · exact fun ρ K => h ..
  · exact fun ρ K => rfl

theorem z69 (args : List (PV sig)) (m : Mem sig) : ∀ ρ K, T69 (Tabs 0) ρ args m K = none := by
  rcases rc69_0 args m with h | ⟨a1, a2, rfl, rfl⟩
  · exact fun ρ K => h ..
  · exact fun ρ K => rfl

theorem z70 (args : List (PV sig)) (m : Mem sig) : ∀ ρ K, T70 (Tabs 0) ρ args m K = none := by
  rcases rc70_0 args m with h | ⟨a1, rfl, rfl⟩
  · exact fun ρ K => h ..
  · exact fun ρ K => rfl

theorem z71 (args : List (PV sig)) (m : Mem sig) : ∀ ρ K, T71 (Tabs 0) ρ args m K = none := by
  rcases rc71_0 args m with h | ⟨a1, a2, rfl, rfl⟩
  · exact fun ρ K => h ..
  · exact fun ρ K => rfl

theorem z72 (args : List (PV sig)) (m : Mem sig) : ∀ ρ K, T72 (Tabs 0) ρ args m K = none := by
  rcases rc72_0 args m with h | ⟨a1, a2, rfl, rfl⟩
  · exact fun ρ K => h ..
  · exact fun ρ K => rfl

theorem z73 (args : List (PV sig)) (m : Mem sig) : ∀ ρ K, T73 (Tabs 0) ρ args m K = none := by
  rcases rc73_0 args m with h | ⟨a1, a2, rfl, rfl⟩
  · exact fun ρ K => h ..
  · exact fun ρ K => rfl

theorem z74 (args : List (PV sig)) (m : Mem sig) : ∀ ρ K, T74 (Tabs 0) ρ args m K = none := by
  rcases rc74_0 args m with h | ⟨a1, a2, rfl, rfl⟩
  · exact fun ρ K => h ..
  · exact fun ρ K => rfl

theorem z75 (args : List (PV sig)) (m : Mem sig) : ∀ ρ K, T75 (Tabs 0) ρ args m K = none := by
  rcases rc75_0 args m with h | ⟨a1, a2, a3, rfl, rfl⟩
  · exact fun ρ K => h ..
  · exact fun ρ K => rfl

theorem z76 (args : List (PV sig)) (m : Mem sig) : ∀ ρ K, T76 (Tabs 0) ρ args m K = none := by
  rcases rc76_0 args m with h | ⟨a1, a2, rfl, rfl⟩
  · exact fun ρ K => h ..
  · exact fun ρ K => rfl

theorem z77 (args : List (PV sig)) (m : Mem sig) : ∀ ρ K, T77 (Tabs 0) ρ args m K = none := by
  rcases rc77_0 args m with h | ⟨a1, a2, a3, rfl, rfl⟩
  · exact fun ρ K => h ..
  · exact fun ρ K => rfl

theorem z78 (args : List (PV sig)) (m : Mem sig) : ∀ ρ K, T78 (Tabs 0) ρ args m K = none := by
  rcases rc78_0 args m with h | ⟨a1, a2, rfl, rfl⟩
  · exact fun ρ K => h ..
  · exact fun ρ K => rfl

theorem z79 (args : List (PV sig)) (m : Mem sig) : ∀ ρ K, T79 (Tabs 0) ρ args m K = none := by
  rcases rc79_0 args m with h | ⟨a1, a2, rfl, rfl⟩
  · exact fun ρ K => h ..
  · exact fun ρ K => rfl

theorem z80 (args : List (PV sig)) (m : Mem sig) : ∀ ρ K, T80 (Tabs 0) ρ args m K = none := by
  rcases rc80_0 args m with h | ⟨a1, a2, rfl, rfl⟩
  · exact fun ρ K => h ..
  · exact fun ρ K => rfl

theorem z82 (args : List (PV sig)) (m : Mem sig) : ∀ ρ K, T82 (Tabs 0) ρ args m K = none := by
  unfold T82
  cases hc : Nat.beq (fnId (args.getD 1 .any)) 63 with
  | true =>
    simp only [cond_true]
    rcases rc82_0 args m with h | ⟨a1, rfl, rfl⟩
    · exact fun ρ K => h ..
    · exact fun ρ K => rfl
  | false =>
    simp only [cond_false]
    cases hc : Nat.beq (fnId (args.getD 1 .any)) 66 with
    | true =>
      simp only [cond_true]
      rcases rc82_1 args m with h | ⟨a1, rfl, rfl⟩
      · exact fun ρ K => h ..
      · exact fun ρ K => rfl
    | false =>
      simp only [cond_false]
      first | exact fun _ _ => rfl | exact fun _ _ => trivial

theorem z83 (args : List (PV sig)) (m : Mem sig) : ∀ ρ K, T83 (Tabs 0) ρ args m K = none := by
  rcases rc83_0 args m with h | ⟨a1, rfl, rfl⟩
  · exact fun ρ K => h ..
  · exact fun ρ K => rfl

theorem z84 (args : List (PV sig)) (m : Mem sig) : ∀ ρ K, T84 (Tabs 0) ρ args m K = none := by
  rcases rc84_0 args m with h | ⟨a1, a2, rfl, rfl⟩
  · exact fun ρ K => h ..
  · exact fun ρ K => rfl

theorem z86 (args : List (PV sig)) (m : Mem sig) : ∀ ρ K, T86 (Tabs 0) ρ args m K = none := by
  rcases rc86_0 args m with h | ⟨a1, rfl, rfl⟩
  · exact fun ρ K => h ..
  · exact fun ρ K => rfl

theorem z87 (args : List (PV sig)) (m : Mem sig) : ∀ ρ K, T87 (Tabs 0) ρ args m K = none := by
  rcases rc87_0 args m with h | ⟨a1, rfl, rfl⟩
  · exact fun ρ K => h ..
  · exact fun ρ K => rfl

theorem z88 (args : List (PV sig)) (m : Mem sig) : ∀ ρ K, T88 (Tabs 0) ρ args m K = none := by
  rcases rc88_0 args m with h | ⟨a1, rfl, rfl⟩
  · exact fun ρ K => h ..
  · exact fun ρ K => rfl

theorem z89 (args : List (PV sig)) (m : Mem sig) : ∀ ρ K, T89 (Tabs 0) ρ args m K = none := by
  rcases rc89_0 args m with h | ⟨a1, rfl, rfl⟩
  · exact fun ρ K => h ..
  · obtain ⟨a1_0, a1_1, a1_2⟩ := a1; exact fun ρ K => rfl

theorem z90 (args : List (PV sig)) (m : Mem sig) : ∀ ρ K, T90 (Tabs 0) ρ args m K = none := by
  rcases rc90_0 args m with h | ⟨a1, a2, rfl, rfl⟩
  · exact fun ρ K => h ..
  · exact fun ρ K => rfl

theorem z92 (args : List (PV sig)) (m : Mem sig) : ∀ ρ K, T92 (Tabs 0) ρ args m K = none := by
  rcases rc92_0 args m with h | ⟨a1, rfl, rfl⟩
  · exact fun ρ K => h ..
  · exact fun ρ K => rfl

theorem z93 (args : List (PV sig)) (m : Mem sig) : ∀ ρ K, T93 (Tabs 0) ρ args m K = none := by
  rcases rc93_0 args m with h | ⟨a1, rfl, rfl⟩
  · exact fun ρ K => h ..
  · exact fun ρ K => rfl

theorem z0 (f : Nat) (args : List (PV sig)) (m : Mem sig) : ∀ ρ K, T (Tabs 0) ρ f args m K = none := by
  unfold T
  cases hc : Nat.beq f 3 with
  | true => simp only [cond_true]; exact z3 args m
  | false =>
  simp only [cond_false]; clear hc
  cases hc : Nat.beq f 4 with
  | true => simp only [cond_true]; exact z4 args m
  | false =>
  simp only [cond_false]; clear hc
  cases hc : Nat.beq f 5 with
  | true => simp only [cond_true]; exact z5 args m
  | false =>
  simp only [cond_false]; clear hc
  cases hc : Nat.beq f 6 with
  | true => simp only [cond_true]; exact z6 args m
  | false =>
  simp only [cond_false]; clear hc
  cases hc : Nat.beq f 9 with
  | true => simp only [cond_true]; exact z9 args m
  | false =>
  simp only [cond_false]; clear hc
  cases hc : Nat.beq f 10 with
  | true => simp only [cond_true]; exact z10 args m
  | false =>
  simp only [cond_false]; clear hc
  cases hc : Nat.beq f 11 with
  | true => simp only [cond_true]; exact z11 args m
  | false =>
  simp only [cond_false]; clear hc
  cases hc : Nat.beq f 12 with
  | true => simp only [cond_true]; exact z12 args m
  | false =>
  simp only [cond_false]; clear hc
  cases hc : Nat.beq f 13 with
  | true => simp only [cond_true]; exact z13 args m
  | false =>
  simp only [cond_false]; clear hc
  cases hc : Nat.beq f 14 with
  | true => simp only [cond_true]; exact z14 args m
  | false =>
  simp only [cond_false]; clear hc
  cases hc : Nat.beq f 15 with
  | true => simp only [cond_true]; exact z15 args m
  | false =>
  simp only [cond_false]; clear hc
  cases hc : Nat.beq f 16 with
  | true => simp only [cond_true]; exact z16 args m
  | false =>
  simp only [cond_false]; clear hc
  cases hc : Nat.beq f 17 with
  | true => simp only [cond_true]; exact z17 args m
  | false =>
  simp only [cond_false]; clear hc
  cases hc : Nat.beq f 18 with
  | true => simp only [cond_true]; exact z18 args m
  | false =>
  simp only [cond_false]; clear hc
  cases hc : Nat.beq f 19 with
  | true => simp only [cond_true]; exact z19 args m
  | false =>
  simp only [cond_false]; clear hc
  cases hc : Nat.beq f 22 with
  | true => simp only [cond_true]; exact z22 args m
  | false =>
  simp only [cond_false]; clear hc
  cases hc : Nat.beq f 23 with
  | true => simp only [cond_true]; exact z23 args m
  | false =>
  simp only [cond_false]; clear hc
  cases hc : Nat.beq f 24 with
  | true => simp only [cond_true]; exact z24 args m
  | false =>
  simp only [cond_false]; clear hc
  cases hc : Nat.beq f 25 with
  | true => simp only [cond_true]; exact z25 args m
  | false =>
  simp only [cond_false]; clear hc
  cases hc : Nat.beq f 26 with
  | true => simp only [cond_true]; exact z26 args m
  | false =>
  simp only [cond_false]; clear hc
  cases hc : Nat.beq f 27 with
  | true => simp only [cond_true]; exact z27 args m
  | false =>
  simp only [cond_false]; clear hc
  cases hc : Nat.beq f 28 with
  | true => simp only [cond_true]; exact z28 args m
  | false =>
  simp only [cond_false]; clear hc
  cases hc : Nat.beq f 30 with
  | true => simp only [cond_true]; exact z30 args m
  | false =>
  simp only [cond_false]; clear hc
  cases hc : Nat.beq f 31 with
  | true => simp only [cond_true]; exact z31 args m
  | false =>
  simp only [cond_false]; clear hc
  cases hc : Nat.beq f 32 with
  | true => simp only [cond_true]; exact z32 args m
  | false =>
  simp only [cond_false]; clear hc
  cases hc : Nat.beq f 33 with
  | true => simp only [cond_true]; exact z33 args m
  | false =>
  simp only [cond_false]; clear hc
  cases hc : Nat.beq f 34 with
  | true => simp only [cond_true]; exact z34 args m
  | false =>
  simp only [cond_false]; clear hc
  cases hc : Nat.beq f 35 with
  | true => simp only [cond_true]; exact z35 args m
  | false =>
  simp only [cond_false]; clear hc
  cases hc : Nat.beq f 40 with
  | true => simp only [cond_true]; exact z40 args m
  | false =>
  simp only [cond_false]; clear hc
  cases hc : Nat.beq f 41 with
  | true => simp only [cond_true]; exact z41 args m
  | false =>
  simp only [cond_false]; clear hc
  cases hc : Nat.beq f 42 with
  | true => simp only [cond_true]; exact z42 args m
  | false =>
  simp only [cond_false]; clear hc
  cases hc : Nat.beq f 43 with
  | true => simp only [cond_true]; exact z43 args m
  | false =>
  simp only [cond_false]; clear hc
  cases hc : Nat.beq f 44 with
  | true => simp only [cond_true]; exact z44 args m
  | false =>
  simp only [cond_false]; clear hc
  cases hc : Nat.beq f 45 with
  | true => simp only [cond_true]; exact z45 args m
  | false =>
  simp only [cond_false]; clear hc
  cases hc : Nat.beq f 46 with
  | true => simp only [cond_true]; exact z46 args m
  | false =>
  simp only [cond_false]; clear hc
  cases hc : Nat.beq f 47 with
  | true => simp only [cond_true]; exact z47 args m
  | false =>
  simp only [cond_false]; clear hc
  cases hc : Nat.beq f 48 with
  | true => simp only [cond_true]; exact z48 args m
  | false =>
  simp only [cond_false]; clear hc
  cases hc : Nat.beq f 49 with
  | true => simp only [cond_true]; exact z49 args m
  | false =>
  simp only [cond_false]; clear hc
  cases hc : Nat.beq f 50 with
  | true => simp only [cond_true]; exact z50 args m
  | false =>
  simp only [cond_false]; clear hc
  cases hc : Nat.beq f 51 with
  | true => simp only [cond_true]; exact z51 args m
  | false =>
  simp only [cond_false]; clear hc
  cases hc : Nat.beq f 54 with
  | true => simp only [cond_true]; exact z54 args m
  | false =>
  simp only [cond_false]; clear hc
  cases hc : Nat.beq f 57 with
  | true => simp only [cond_true]; exact z57 args m
  | false =>
  simp only [cond_false]; clear hc
  cases hc : Nat.beq f 58 with
  | true => simp only [cond_true]; exact z58 args m
  | false =>
  simp only [cond_false]; clear hc
  cases hc : Nat.beq f 59 with
  | true => simp only [cond_true]; exact z59 args m
  | false =>
  simp only [cond_false]; clear hc
  cases hc : Nat.beq f 60 with
  | true => simp only [cond_true]; exact z60 args m
  | false =>
  simp only [cond_false]; clear hc
  cases hc : Nat.beq f 61 with
  | true => simp only [cond_true]; exact z61 args m
  | false =>
  simp only [cond_false]; clear hc
  cases hc : Nat.beq f 62 with
  | true => simp only [cond_true]; exact z62 args m
  | false =>
  simp only [cond_false]; clear hc
  cases hc : Nat.beq f 63 with
  | true => simp only [cond_true]; exact z63 args m
  | false =>
  simp only [cond_false]; clear hc
  cases hc : Nat.beq f 64 with
  | true => simp only [cond_true]; exact z64 args m
  | false =>
  simp only [cond_false]; clear hc
  cases hc : Nat.beq f 65 with
  | true => simp only [cond_true]; exact z65 args m
  | false =>
  simp only [cond_false]; clear hc
  cases hc : Nat.beq f 66 with
  | true => simp only [cond_true]; exact z66 args m
  | false =>
  simp only [cond_false]; clear hc
  cases hc : Nat.beq f 67 with
  | true => simp only [cond_true]; exact z67 args m
  | false =>
  simp only [cond_false]; clear hc
  cases hc : Nat.beq f 68 with
  | true => simp only [cond_true]; exact z68 args m
  | false =>
  simp only [cond_false]; clear hc
  cases hc : Nat.beq f 69 with
  | true => simp only [cond_true]; exact z69 args m
  | false =>
  simp only [cond_false]; clear hc
  cases hc : Nat.beq f 70 with
  | true => simp only [cond_true]; exact z70 args m
  | false =>
  simp only [cond_false]; clear hc
  cases hc : Nat.beq f 71 with
  | true => simp only [cond_true]; exact z71 args m
  | false =>
  simp only [cond_false]; clear hc
  cases hc : Nat.beq f 72 with
  | true => simp only [cond_true]; exact z72 args m
  | false =>
  simp only [cond_false]; clear hc
  cases hc : Nat.beq f 73 with
  | true => simp only [cond_true]; exact z73 args m
  | false =>
  simp only [cond_false]; clear hc
  cases hc : Nat.beq f 74 with
  | true => simp only [cond_true]; exact z74 args m
  | false =>
  simp only [cond_false]; clear hc
  cases hc : Nat.beq f 75 with
  | true => simp only [cond_true]; exact z75 args m
  | false =>
  simp only [cond_false]; clear hc
  cases hc : Nat.beq f 76 with
  | true => simp only [cond_true]; exact z76 args m
  | false =>
  simp only [cond_false]; clear hc
  cases hc : Nat.beq f 77 with
  | true => simp only [cond_true]; exact z77 args m
  | false =>
  simp only [cond_false]; clear hc
  cases hc : Nat.beq f 78 with
  | true => simp only [cond_true]; exact z78 args m
  | false =>
  simp only [cond_false]; clear hc
  cases hc : Nat.beq f 79 with
  | true => simp only [cond_true]; exact z79 args m
  | false =>
  simp only [cond_false]; clear hc
  cases hc : Nat.beq f 80 with
  | true => simp only [cond_true]; exact z80 args m
  | false =>
  simp only [cond_false]; clear hc
  cases hc : Nat.beq f 82 with
  | true => simp only [cond_true]; exact z82 args m
  | false =>
  simp only [cond_false]; clear hc
  cases hc : Nat.beq f 83 with
  | true => simp only [cond_true]; exact z83 args m
  | false =>
  simp only [cond_false]; clear hc
  cases hc : Nat.beq f 84 with
  | true => simp only [cond_true]; exact z84 args m
  | false =>
  simp only [cond_false]; clear hc
  cases hc : Nat.beq f 86 with
  | true => simp only [cond_true]; exact z86 args m
  | false =>
  simp only [cond_false]; clear hc
  cases hc : Nat.beq f 87 with
  | true => simp only [cond_true]; exact z87 args m
  | false =>
  simp only [cond_false]; clear hc
  cases hc : Nat.beq f 88 with
  | true => simp only [cond_true]; exact z88 args m
  | false =>
  simp only [cond_false]; clear hc
  cases hc : Nat.beq f 89 with
  | true => simp only [cond_true]; exact z89 args m
  | false =>
  simp only [cond_false]; clear hc
  cases hc : Nat.beq f 90 with
  | true => simp only [cond_true]; exact z90 args m
  | false =>
  simp only [cond_false]; clear hc
  cases hc : Nat.beq f 92 with
  | true => simp only [cond_true]; exact z92 args m
  | false =>
  simp only [cond_false]; clear hc
  cases hc : Nat.beq f 93 with
  | true => simp only [cond_true]; exact z93 args m
  | false =>
  simp only [cond_false]; clear hc
  first | exact fun _ _ => rfl | exact fun _ _ => trivial

theorem zl15_4_0 (vs : List (PV sig)) (m : Mem sig) (ds : List (FuncId × List (PV sig))) (nt : Nat) : ∀ ρ K, Rl15_4_0 (Tabs 0) ρ vs m ds nt K = none := by
  rcases rl15_4_0 vs m ds nt with h | ⟨a1, a2, a3, rfl, rfl, rfl, rfl⟩
  · exact fun ρ K => h ..
  · obtain ⟨a2_0, a2_1, a2_2⟩ := a2; obtain ⟨a3_0, a3_1, a3_2⟩ := a3; exact fun ρ K => rfl

theorem zl18_4_0 (vs : List (PV sig)) (m : Mem sig) (ds : List (FuncId × List (PV sig))) (nt : Nat) : ∀ ρ K, Rl18_4_0 (Tabs 0) ρ vs m ds nt K = none := by
  rcases rl18_4_0 vs m ds nt with h | ⟨a1, a2, a3, a4, rfl, rfl, rfl, rfl⟩
  · exact fun ρ K => h ..
  · exact fun ρ K => rfl

theorem zl22_20_0 (vs : List (PV sig)) (m : Mem sig) (ds : List (FuncId × List (PV sig))) (nt : Nat) : ∀ ρ K, Rl22_20_0 (Tabs 0) ρ vs m ds nt K = none := by
  rcases rl22_20_0 vs m ds nt with h | ⟨a1, a2, a3, a4, a5, rfl, rfl, rfl, rfl⟩
  · exact fun ρ K => h ..
  · exact fun ρ K => rfl

theorem zl24_3_0 (vs : List (PV sig)) (m : Mem sig) (ds : List (FuncId × List (PV sig))) (nt : Nat) : ∀ ρ K, Rl24_3_0 (Tabs 0) ρ vs m ds nt K = none := by
  rcases rl24_3_0 vs m ds nt with h | ⟨a1, a2, a3, a4, rfl, rfl, rfl, rfl⟩
  · exact fun ρ K => h ..
  · obtain ⟨a4_0, a4_1, a4_2⟩ := a4; exact fun ρ K => rfl

theorem zl25_18_0 (vs : List (PV sig)) (m : Mem sig) (ds : List (FuncId × List (PV sig))) (nt : Nat) : ∀ ρ K, Rl25_18_0 (Tabs 0) ρ vs m ds nt K = none := by
  rcases rl25_18_0 vs m ds nt with h | ⟨a1, a2, a3, rfl, rfl, rfl, rfl⟩
  · exact fun ρ K => h ..
  · obtain ⟨a3_0, a3_1, a3_2⟩ := a3; exact fun ρ K => rfl

theorem zl28_6_0 (vs : List (PV sig)) (m : Mem sig) (ds : List (FuncId × List (PV sig))) (nt : Nat) : ∀ ρ K, Rl28_6_0 (Tabs 0) ρ vs m ds nt K = none := by
  rcases rl28_6_0 vs m ds nt with h | ⟨a1, a2, a3, a4, rfl, rfl, rfl, rfl⟩
  · exact fun ρ K => h ..
  · exact fun ρ K => rfl

theorem zl30_4_0 (vs : List (PV sig)) (m : Mem sig) (ds : List (FuncId × List (PV sig))) (nt : Nat) : ∀ ρ K, Rl30_4_0 (Tabs 0) ρ vs m ds nt K = none := by
  rcases rl30_4_0 vs m ds nt with h | ⟨a1, a2, a3, a4, a5, rfl, rfl, rfl, rfl⟩
  · exact fun ρ K => h ..
  · obtain ⟨a4_0, a4_1, a4_2⟩ := a4; obtain ⟨a5_0, a5_1, a5_2⟩ := a5; exact fun ρ K => rfl

theorem zl33_4_0 (vs : List (PV sig)) (m : Mem sig) (ds : List (FuncId × List (PV sig))) (nt : Nat) : ∀ ρ K, Rl33_4_0 (Tabs 0) ρ vs m ds nt K = none := by
  rcases rl33_4_0 vs m ds nt with h | ⟨a1, a2, a3, a4, rfl, rfl, rfl, rfl⟩
  · exact fun ρ K => h ..
  · exact fun ρ K => rfl

theorem zl34_8_0 (vs : List (PV sig)) (m : Mem sig) (ds : List (FuncId × List (PV sig))) (nt : Nat) : ∀ ρ K, Rl34_8_0 (Tabs 0) ρ vs m ds nt K = none := by
  rcases rl34_8_0 vs m ds nt with h | ⟨a1, a2, a3, a4, a5, rfl, rfl, rfl, rfl⟩
  · exact fun ρ K => h ..
  · exact fun ρ K => rfl

theorem zl35_14_0 (vs : List (PV sig)) (m : Mem sig) (ds : List (FuncId × List (PV sig))) (nt : Nat) : ∀ ρ K, Rl35_14_0 (Tabs 0) ρ vs m ds nt K = none := by
  rcases rl35_14_0 vs m ds nt with h | ⟨a1, a2, a3, a4, rfl, rfl, rfl, rfl⟩
  · exact fun ρ K => h ..
  · obtain ⟨a4_0, a4_1, a4_2⟩ := a4; exact fun ρ K => rfl

theorem zl43_0_0 (vs : List (PV sig)) (m : Mem sig) (ds : List (FuncId × List (PV sig))) (nt : Nat) : ∀ ρ K, Rl43_0_0 (Tabs 0) ρ vs m ds nt K = none := by
  rcases rl43_0_0 vs m ds nt with h | ⟨a1, a2, rfl, rfl, rfl, rfl⟩
  · exact fun ρ K => h ..
  · exact fun ρ K => rfl

theorem zl47_2_0 (vs : List (PV sig)) (m : Mem sig) (ds : List (FuncId × List (PV sig))) (nt : Nat) : ∀ ρ K, Rl47_2_0 (Tabs 0) ρ vs m ds nt K = none := by
  rcases rl47_2_0 vs m ds nt with h | ⟨a1, a2, a3, a4, rfl, rfl, rfl, rfl⟩
  · exact fun ρ K => h ..
  · obtain ⟨a3_0, a3_1, a3_2⟩ := a3; obtain ⟨a4_0, a4_1, a4_2⟩ := a4; exact fun ρ K => rfl

theorem zl51_2_0 (vs : List (PV sig)) (m : Mem sig) (ds : List (FuncId × List (PV sig))) (nt : Nat) : ∀ ρ K, Rl51_2_0 (Tabs 0) ρ vs m ds nt K = none := by
  rcases rl51_2_0 vs m ds nt with h | ⟨a1, a2, a3, a4, rfl, rfl, rfl, rfl⟩
  · exact fun ρ K => h ..
  · exact fun ρ K => rfl

theorem zl58_2_0 (vs : List (PV sig)) (m : Mem sig) (ds : List (FuncId × List (PV sig))) (nt : Nat) : ∀ ρ K, Rl58_2_0 (Tabs 0) ρ vs m ds nt K = none := by
  rcases rl58_2_0 vs m ds nt with h | ⟨a1, a2, a3, a4, rfl, rfl, rfl, rfl⟩
  · exact fun ρ K => h ..
  · exact fun ρ K => rfl

theorem zl65_2_0 (vs : List (PV sig)) (m : Mem sig) (ds : List (FuncId × List (PV sig))) (nt : Nat) : ∀ ρ K, Rl65_2_0 (Tabs 0) ρ vs m ds nt K = none := by
  rcases rl65_2_0 vs m ds nt with h | ⟨a1, a2, a3, a4, rfl, rfl, rfl, rfl⟩
  · exact fun ρ K => h ..
  · exact fun ρ K => rfl

theorem zl80_2_0 (vs : List (PV sig)) (m : Mem sig) (ds : List (FuncId × List (PV sig))) (nt : Nat) : ∀ ρ K, Rl80_2_0 (Tabs 0) ρ vs m ds nt K = none := by
  rcases rl80_2_0 vs m ds nt with h | ⟨a1, a2, a3, a4, rfl, rfl, rfl, rfl⟩
  · exact fun ρ K => h ..
  · exact fun ρ K => rfl

theorem zl82_4_0 (vs : List (PV sig)) (m : Mem sig) (ds : List (FuncId × List (PV sig))) (nt : Nat) : ∀ ρ K, Rl82_4_0 (Tabs 0) ρ vs m ds nt K = none := by
  rcases rl82_4_0 vs m ds nt with h | ⟨a1, a2, a3, rfl, rfl, rfl, rfl⟩
  · exact fun ρ K => h ..
  · exact fun ρ K => rfl

theorem zl84_1_0 (vs : List (PV sig)) (m : Mem sig) (ds : List (FuncId × List (PV sig))) (nt : Nat) : ∀ ρ K, Rl84_1_0 (Tabs 0) ρ vs m ds nt K = none := by
  rcases rl84_1_0 vs m ds nt with h | ⟨a1, a2, rfl, rfl, rfl, rfl⟩
  · exact fun ρ K => h ..
  · exact fun ρ K => rfl

theorem zL (f np key : Nat) (st : St sig) : ∀ ρ K, LT (Tabs 0) ρ f np key st K = none := by
  unfold LT
  cases hc : Nat.beq f 15 && (Nat.beq np 0 && Nat.beq key 4) with
  | true => simp only [cond_true]; exact zl15_4_0 _ _ _ _
  | false =>
  simp only [cond_false]; clear hc
  cases hc : Nat.beq f 18 && (Nat.beq np 0 && Nat.beq key 4) with
  | true => simp only [cond_true]; exact zl18_4_0 _ _ _ _
  | false =>
  simp only [cond_false]; clear hc
  cases hc : Nat.beq f 22 && (Nat.beq np 1 && Nat.beq key 20) with
  | true => simp only [cond_true]; exact zl22_20_0 _ _ _ _
  | false =>
  simp only [cond_false]; clear hc
  cases hc : Nat.beq f 24 && (Nat.beq np 0 && Nat.beq key 3) with
  | true => simp only [cond_true]; exact zl24_3_0 _ _ _ _
  | false =>
  simp only [cond_false]; clear hc
  cases hc : Nat.beq f 25 && (Nat.beq np 0 && Nat.beq key 18) with
  | true => simp only [cond_true]; exact zl25_18_0 _ _ _ _
  | false =>
  simp only [cond_false]; clear hc
  cases hc : Nat.beq f 28 && (Nat.beq np 0 && Nat.beq key 6) with
  | true => simp only [cond_true]; exact zl28_6_0 _ _ _ _
  | false =>
  simp only [cond_false]; clear hc
  cases hc : Nat.beq f 30 && (Nat.beq np 1 && Nat.beq key 4) with
  | true => simp only [cond_true]; exact zl30_4_0 _ _ _ _
  | false =>
  simp only [cond_false]; clear hc
  cases hc : Nat.beq f 33 && (Nat.beq np 0 && Nat.beq key 4) with
  | true => simp only [cond_true]; exact zl33_4_0 _ _ _ _
  | false =>
  simp only [cond_false]; clear hc
  cases hc : Nat.beq f 34 && (Nat.beq np 0 && Nat.beq key 8) with
  | true => simp only [cond_true]; exact zl34_8_0 _ _ _ _
  | false =>
  simp only [cond_false]; clear hc
  cases hc : Nat.beq f 35 && (Nat.beq np 0 && Nat.beq key 14) with
  | true => simp only [cond_true]; exact zl35_14_0 _ _ _ _
  | false =>
  simp only [cond_false]; clear hc
  cases hc : Nat.beq f 43 && (Nat.beq np 1 && Nat.beq key 0) with
  | true => simp only [cond_true]; exact zl43_0_0 _ _ _ _
  | false =>
  simp only [cond_false]; clear hc
  cases hc : Nat.beq f 47 && (Nat.beq np 1 && Nat.beq key 2) with
  | true => simp only [cond_true]; exact zl47_2_0 _ _ _ _
  | false =>
  simp only [cond_false]; clear hc
  cases hc : Nat.beq f 51 && (Nat.beq np 0 && Nat.beq key 2) with
  | true => simp only [cond_true]; exact zl51_2_0 _ _ _ _
  | false =>
  simp only [cond_false]; clear hc
  cases hc : Nat.beq f 58 && (Nat.beq np 0 && Nat.beq key 2) with
  | true => simp only [cond_true]; exact zl58_2_0 _ _ _ _
  | false =>
  simp only [cond_false]; clear hc
  cases hc : Nat.beq f 65 && (Nat.beq np 1 && Nat.beq key 2) with
  | true => simp only [cond_true]; exact zl65_2_0 _ _ _ _
  | false =>
  simp only [cond_false]; clear hc
  cases hc : Nat.beq f 80 && (Nat.beq np 0 && Nat.beq key 2) with
  | true => simp only [cond_true]; exact zl80_2_0 _ _ _ _
  | false =>
  simp only [cond_false]; clear hc
  cases hc : Nat.beq f 82 && (Nat.beq np 0 && Nat.beq key 4) with
  | true => simp only [cond_true]; exact zl82_4_0 _ _ _ _
  | false =>
  simp only [cond_false]; clear hc
  cases hc : Nat.beq f 84 && (Nat.beq np 0 && Nat.beq key 1) with
  | true => simp only [cond_true]; exact zl84_1_0 _ _ _ _
  | false =>
  simp only [cond_false]; clear hc
  first | exact fun _ _ => rfl | exact fun _ _ => trivial

theorem levels : Levels Tryd.prog lay hints dfT PK (fun k => T (Tabs k)) (fun k => LT (Tabs k)) where
  t0 ρ f args m K := z0 f args m ρ K
  l0 ρ f np key st K := zL f np key st ρ K
  t k f args m := tT k f args m
  l k f np key st := tL k f np key st

end Go.Proofs.YtanfoijdfcnpoaaDoor.Ev
