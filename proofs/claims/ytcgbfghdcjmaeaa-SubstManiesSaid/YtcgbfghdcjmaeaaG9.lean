/- This file proves that the tables of typed functions are sound; its condition is what the deferred function does. -/
import Derived.Test.YtcgbfghdcjmaeaaG2
import Derived.Test.YtcgbfghdcjmaeaaG3
import Derived.Test.YtcgbfghdcjmaeaaG4
import Derived.Test.YtcgbfghdcjmaeaaG5
import Derived.Test.YtcgbfghdcjmaeaaG6
set_option linter.unusedVariables false
set_option linter.unusedSimpArgs false
namespace Go.Proofs.Ytcgbfghdcjmaeaa.Ev

theorem t3 (k : Nat) (args : List (PV sig)) (m : Mem sig) : (∀ ρ K, T3 (Tabs (k + 1)) ρ args m K = none) ∨ ∀ ρ K, T3 (Tabs (k + 1)) ρ args m K = evF Try.prog lay (T (Tabs k)) (LT (Tabs k)) hints dfT 3 args m K := by
  rcases rc3_0 args m with h | ⟨a1, a2, a3, a4, a5, a6, a7, a8, a9, a10, a11, rfl, rfl⟩
  · exact .inl fun ρ K => h ..
  · exact .inr fun ρ K => (gc3_0 (Tabs k) ρ K a1 a2 a3 a4 a5 a6 a7 a8 a9 a10 a11).symm

theorem t4 (k : Nat) (args : List (PV sig)) (m : Mem sig) : (∀ ρ K, T4 (Tabs (k + 1)) ρ args m K = none) ∨ ∀ ρ K, T4 (Tabs (k + 1)) ρ args m K = evF Try.prog lay (T (Tabs k)) (LT (Tabs k)) hints dfT 4 args m K := by
  rcases rc4_0 args m with h | ⟨a1, a2, a3, a4, a5, a6, a7, a8, a9, a10, a11, rfl, rfl⟩
  · exact .inl fun ρ K => h ..
  · exact .inr fun ρ K => (gc4_0 (Tabs k) ρ K a1 a2 a3 a4 a5 a6 a7 a8 a9 a10 a11).symm

theorem t5 (k : Nat) (args : List (PV sig)) (m : Mem sig) : (∀ ρ K, T5 (Tabs (k + 1)) ρ args m K = none) ∨ ∀ ρ K, T5 (Tabs (k + 1)) ρ args m K = evF Try.prog lay (T (Tabs k)) (LT (Tabs k)) hints dfT 5 args m K := by
  rcases rc5_0 args m with h | ⟨a1, a2, a3, a4, a5, a6, a7, a8, a9, a10, rfl, rfl⟩
  · exact .inl fun ρ K => h ..
  · obtain ⟨a10_0, a10_1, a10_2, a10_3⟩ := a10; exact .inr fun ρ K => (gc5_0 (Tabs k) ρ K a1 a2 a3 a4 a5 a6 a7 a8 a9 ⟨a10_0, a10_1, a10_2, a10_3⟩).symm

theorem t6 (k : Nat) (args : List (PV sig)) (m : Mem sig) : (∀ ρ K, T6 (Tabs (k + 1)) ρ args m K = none) ∨ ∀ ρ K, T6 (Tabs (k + 1)) ρ args m K = evF Try.prog lay (T (Tabs k)) (LT (Tabs k)) hints dfT 6 args m K := by
  rcases rc6_0 args m with h | ⟨a1, a2, a3, a4, a5, a6, a7, a8, a9, a10, a11, a12, a13, a14, a15, a16, a17, a18, rfl, rfl⟩
  · exact .inl fun ρ K => h ..
  · exact .inr fun ρ K => (gc6_0 (Tabs k) ρ K a1 a2 a3 a4 a5 a6 a7 a8 a9 a10 a11 a12 a13 a14 a15 a16 a17 a18).symm

theorem t7 (k : Nat) (args : List (PV sig)) (m : Mem sig) : (∀ ρ K, T7 (Tabs (k + 1)) ρ args m K = none) ∨ ∀ ρ K, T7 (Tabs (k + 1)) ρ args m K = evF Try.prog lay (T (Tabs k)) (LT (Tabs k)) hints dfT 7 args m K := by
  rcases rc7_0 args m with h | ⟨a1, a2, a3, a4, a5, a6, a7, a8, a9, a10, rfl, rfl⟩
  · exact .inl fun ρ K => h ..
  · exact .inr fun ρ K => (gc7_0 (Tabs k) ρ K a1 a2 a3 a4 a5 a6 a7 a8 a9 a10).symm

theorem t8 (k : Nat) (args : List (PV sig)) (m : Mem sig) : (∀ ρ K, T8 (Tabs (k + 1)) ρ args m K = none) ∨ ∀ ρ K, T8 (Tabs (k + 1)) ρ args m K = evF Try.prog lay (T (Tabs k)) (LT (Tabs k)) hints dfT 8 args m K := by
  rcases rc8_0 args m with h | ⟨a1, a2, a3, rfl, rfl⟩
  · exact .inl fun ρ K => h ..
  · obtain ⟨a1_0, a1_1, a1_2, a1_3⟩ := a1; obtain ⟨a3_0, a3_1⟩ := a3; exact .inr fun ρ K => (gc8_0 (Tabs k) ρ K ⟨a1_0, a1_1, a1_2, a1_3⟩ a2 ⟨a3_0, a3_1⟩).symm

theorem t9 (k : Nat) (args : List (PV sig)) (m : Mem sig) : (∀ ρ K, T9 (Tabs (k + 1)) ρ args m K = none) ∨ ∀ ρ K, T9 (Tabs (k + 1)) ρ args m K = evF Try.prog lay (T (Tabs k)) (LT (Tabs k)) hints dfT 9 args m K := by
  rcases rc9_0 args m with h | ⟨a1, a2, a3, rfl, rfl⟩
  · exact .inl fun ρ K => h ..
  · obtain ⟨a1_0, a1_1, a1_2, a1_3⟩ := a1; exact .inr fun ρ K => (gc9_0 (Tabs k) ρ K ⟨a1_0, a1_1, a1_2, a1_3⟩ a2 a3).symm

theorem t10 (k : Nat) (args : List (PV sig)) (m : Mem sig) : (∀ ρ K, T10 (Tabs (k + 1)) ρ args m K = none) ∨ ∀ ρ K, T10 (Tabs (k + 1)) ρ args m K = evF Try.prog lay (T (Tabs k)) (LT (Tabs k)) hints dfT 10 args m K := by
  rcases rc10_0 args m with h | ⟨a1, a2, a3, rfl, rfl⟩
  · exact .inl fun ρ K => h ..
  · obtain ⟨a3_0, a3_1⟩ := a3; exact .inr fun ρ K => (gc10_0 (Tabs k) ρ K a1 a2 ⟨a3_0, a3_1⟩).symm

theorem t11 (k : Nat) (args : List (PV sig)) (m : Mem sig) : (∀ ρ K, T11 (Tabs (k + 1)) ρ args m K = none) ∨ ∀ ρ K, T11 (Tabs (k + 1)) ρ args m K = evF Try.prog lay (T (Tabs k)) (LT (Tabs k)) hints dfT 11 args m K := by
  rcases rc11_0 args m with h | ⟨a1, rfl, rfl⟩
  · exact .inl fun ρ K => h ..
  · obtain ⟨a1_0, a1_1, a1_2, a1_3⟩ := a1; exact .inr fun ρ K => (gc11_0 (Tabs k) ρ K ⟨a1_0, a1_1, a1_2, a1_3⟩).symm

theorem t12 (k : Nat) (args : List (PV sig)) (m : Mem sig) : (∀ ρ K, T12 (Tabs (k + 1)) ρ args m K = none) ∨ ∀ ρ K, T12 (Tabs (k + 1)) ρ args m K = evF Try.prog lay (T (Tabs k)) (LT (Tabs k)) hints dfT 12 args m K := by
  rcases rc12_0 args m with h | ⟨a1, a2, rfl, rfl⟩
  · exact .inl fun ρ K => h ..
  · obtain ⟨a1_0, a1_1, a1_2, a1_3⟩ := a1; exact .inr fun ρ K => (gc12_0 (Tabs k) ρ K ⟨a1_0, a1_1, a1_2, a1_3⟩ a2).symm

theorem t13 (k : Nat) (args : List (PV sig)) (m : Mem sig) : (∀ ρ K, T13 (Tabs (k + 1)) ρ args m K = none) ∨ ∀ ρ K, T13 (Tabs (k + 1)) ρ args m K = evF Try.prog lay (T (Tabs k)) (LT (Tabs k)) hints dfT 13 args m K := by
  rcases rc13_0 args m with h | ⟨a1, a2, a3, rfl, rfl⟩
  · exact .inl fun ρ K => h ..
  · obtain ⟨a1_0, a1_1, a1_2, a1_3⟩ := a1; obtain ⟨a3_0, a3_1⟩ := a3; exact .inr fun ρ K => (gc13_0 (Tabs k) ρ K ⟨a1_0, a1_1, a1_2, a1_3⟩ a2 ⟨a3_0, a3_1⟩).symm

theorem t14 (k : Nat) (args : List (PV sig)) (m : Mem sig) : (∀ ρ K, T14 (Tabs (k + 1)) ρ args m K = none) ∨ ∀ ρ K, T14 (Tabs (k + 1)) ρ args m K = evF Try.prog lay (T (Tabs k)) (LT (Tabs k)) hints dfT 14 args m K := by
  rcases rc14_0 args m with h | ⟨a1, a2, a3, a4, rfl, rfl⟩
  · exact .inl fun ρ K => h ..
  · obtain ⟨a1_0, a1_1, a1_2, a1_3⟩ := a1; obtain ⟨a3_0, a3_1, a3_2, a3_3⟩ := a3; obtain ⟨a4_0, a4_1⟩ := a4; exact .inr fun ρ K => (gc14_0 (Tabs k) ρ K ⟨a1_0, a1_1, a1_2, a1_3⟩ a2 ⟨a3_0, a3_1, a3_2, a3_3⟩ ⟨a4_0, a4_1⟩).symm

theorem t15 (k : Nat) (args : List (PV sig)) (m : Mem sig) : (∀ ρ K, T15 (Tabs (k + 1)) ρ args m K = none) ∨ ∀ ρ K, T15 (Tabs (k + 1)) ρ args m K = evF Try.prog lay (T (Tabs k)) (LT (Tabs k)) hints dfT 15 args m K := by
  rcases rc15_0 args m with h | ⟨a1, a2, a3, a4, rfl, rfl⟩
  · exact .inl fun ρ K => h ..
  · obtain ⟨a1_0, a1_1, a1_2, a1_3⟩ := a1; obtain ⟨a3_0, a3_1, a3_2, a3_3⟩ := a3; obtain ⟨a4_0, a4_1⟩ := a4; exact .inr fun ρ K => (gc15_0 (Tabs k) ρ K ⟨a1_0, a1_1, a1_2, a1_3⟩ a2 ⟨a3_0, a3_1, a3_2, a3_3⟩ ⟨a4_0, a4_1⟩).symm

theorem t16 (k : Nat) (args : List (PV sig)) (m : Mem sig) : (∀ ρ K, T16 (Tabs (k + 1)) ρ args m K = none) ∨ ∀ ρ K, T16 (Tabs (k + 1)) ρ args m K = evF Try.prog lay (T (Tabs k)) (LT (Tabs k)) hints dfT 16 args m K := by
  rcases rc16_0 args m with h | ⟨a1, a2, a3, a4, rfl, rfl⟩
  · exact .inl fun ρ K => h ..
  · obtain ⟨a1_0, a1_1, a1_2, a1_3⟩ := a1; obtain ⟨a3_0, a3_1, a3_2, a3_3⟩ := a3; exact .inr fun ρ K => (gc16_0 (Tabs k) ρ K ⟨a1_0, a1_1, a1_2, a1_3⟩ a2 ⟨a3_0, a3_1, a3_2, a3_3⟩ a4).symm

theorem t17 (k : Nat) (args : List (PV sig)) (m : Mem sig) : (∀ ρ K, T17 (Tabs (k + 1)) ρ args m K = none) ∨ ∀ ρ K, T17 (Tabs (k + 1)) ρ args m K = evF Try.prog lay (T (Tabs k)) (LT (Tabs k)) hints dfT 17 args m K := by
  rcases rc17_0 args m with h | ⟨rfl, rfl⟩
  · exact .inl fun ρ K => h ..
  · exact .inr fun ρ K => (gc17_0 (Tabs k) ρ K).symm

theorem t18 (k : Nat) (args : List (PV sig)) (m : Mem sig) : (∀ ρ K, T18 (Tabs (k + 1)) ρ args m K = none) ∨ ∀ ρ K, T18 (Tabs (k + 1)) ρ args m K = evF Try.prog lay (T (Tabs k)) (LT (Tabs k)) hints dfT 18 args m K := by
  rcases rc18_0 args m with h | ⟨a1, rfl, rfl⟩
  · exact .inl fun ρ K => h ..
  · obtain ⟨a1_0, a1_1, a1_2, a1_3⟩ := a1; exact .inr fun ρ K => (gc18_0 (Tabs k) ρ K ⟨a1_0, a1_1, a1_2, a1_3⟩).symm

theorem t19 (k : Nat) (args : List (PV sig)) (m : Mem sig) : (∀ ρ K, T19 (Tabs (k + 1)) ρ args m K = none) ∨ ∀ ρ K, T19 (Tabs (k + 1)) ρ args m K = evF Try.prog lay (T (Tabs k)) (LT (Tabs k)) hints dfT 19 args m K := by
  rcases rc19_0 args m with h | ⟨a1, rfl, rfl⟩
  · exact .inl fun ρ K => h ..
  · obtain ⟨a1_0, a1_1⟩ := a1; exact .inr fun ρ K => (gc19_0 (Tabs k) ρ K ⟨a1_0, a1_1⟩).symm

theorem t20 (k : Nat) (args : List (PV sig)) (m : Mem sig) : (∀ ρ K, T20 (Tabs (k + 1)) ρ args m K = none) ∨ ∀ ρ K, T20 (Tabs (k + 1)) ρ args m K = evF Try.prog lay (T (Tabs k)) (LT (Tabs k)) hints dfT 20 args m K := by
  rcases rc20_0 args m with h | ⟨a1, a2, rfl, rfl⟩
  · exact .inl fun ρ K => h ..
  · obtain ⟨a1_0, a1_1, a1_2, a1_3⟩ := a1; exact .inr fun ρ K => (gc20_0 (Tabs k) ρ K ⟨a1_0, a1_1, a1_2, a1_3⟩ a2).symm

theorem t21 (k : Nat) (args : List (PV sig)) (m : Mem sig) : (∀ ρ K, T21 (Tabs (k + 1)) ρ args m K = none) ∨ ∀ ρ K, T21 (Tabs (k + 1)) ρ args m K = evF Try.prog lay (T (Tabs k)) (LT (Tabs k)) hints dfT 21 args m K := by
  rcases rc21_0 args m with h | ⟨a1, a2, a3, rfl, rfl⟩
  · exact .inl fun ρ K => h ..
  · obtain ⟨a1_0, a1_1, a1_2, a1_3⟩ := a1; exact .inr fun ρ K => (gc21_0 (Tabs k) ρ K ⟨a1_0, a1_1, a1_2, a1_3⟩ a2 a3).symm

theorem t22 (k : Nat) (args : List (PV sig)) (m : Mem sig) : (∀ ρ K, T22 (Tabs (k + 1)) ρ args m K = none) ∨ ∀ ρ K, T22 (Tabs (k + 1)) ρ args m K = evF Try.prog lay (T (Tabs k)) (LT (Tabs k)) hints dfT 22 args m K := by
  rcases rc22_0 args m with h | ⟨a1, a2, a3, a4, a5, a6, a7, a8, rfl, rfl⟩
  · exact .inl fun ρ K => h ..
  · exact .inr fun ρ K => (gc22_0 (Tabs k) ρ K a1 a2 a3 a4 a5 a6 a7 a8).symm

theorem t23 (k : Nat) (args : List (PV sig)) (m : Mem sig) : (∀ ρ K, T23 (Tabs (k + 1)) ρ args m K = none) ∨ ∀ ρ K, T23 (Tabs (k + 1)) ρ args m K = evF Try.prog lay (T (Tabs k)) (LT (Tabs k)) hints dfT 23 args m K := by
  rcases rc23_0 args m with h | ⟨a1, a2, a3, a4, rfl, rfl⟩
  · exact .inl fun ρ K => h ..
  · obtain ⟨a3_0, a3_1, a3_2, a3_3⟩ := a3; obtain ⟨a4_0, a4_1⟩ := a4; exact .inr fun ρ K => (gc23_0 (Tabs k) ρ K a1 a2 ⟨a3_0, a3_1, a3_2, a3_3⟩ ⟨a4_0, a4_1⟩).symm

theorem t24 (k : Nat) (args : List (PV sig)) (m : Mem sig) : (∀ ρ K, T24 (Tabs (k + 1)) ρ args m K = none) ∨ ∀ ρ K, T24 (Tabs (k + 1)) ρ args m K = evF Try.prog lay (T (Tabs k)) (LT (Tabs k)) hints dfT 24 args m K := by
  rcases rc24_0 args m with h | ⟨a1, a2, rfl, rfl⟩
  · exact .inl fun ρ K => h ..
  · exact .inr fun ρ K => (gc24_0 (Tabs k) ρ K a1 a2).symm

theorem t25 (k : Nat) (args : List (PV sig)) (m : Mem sig) : (∀ ρ K, T25 (Tabs (k + 1)) ρ args m K = none) ∨ ∀ ρ K, T25 (Tabs (k + 1)) ρ args m K = evF Try.prog lay (T (Tabs k)) (LT (Tabs k)) hints dfT 25 args m K := by
  rcases rc25_0 args m with h | ⟨a1, a2, rfl, rfl⟩
  · exact .inl fun ρ K => h ..
  · exact .inr fun ρ K => (gc25_0 (Tabs k) ρ K a1 a2).symm

theorem t26 (k : Nat) (args : List (PV sig)) (m : Mem sig) : (∀ ρ K, T26 (Tabs (k + 1)) ρ args m K = none) ∨ ∀ ρ K, T26 (Tabs (k + 1)) ρ args m K = evF Try.prog lay (T (Tabs k)) (LT (Tabs k)) hints dfT 26 args m K := by
  rcases rc26_0 args m with h | ⟨a1, a2, rfl, rfl⟩
  · exact .inl fun ρ K => h ..
  · obtain ⟨a1_0, a1_1, a1_2, a1_3⟩ := a1; obtain ⟨a2_0, a2_1, a2_2, a2_3⟩ := a2; exact .inr fun ρ K => (gc26_0 (Tabs k) ρ K ⟨a1_0, a1_1, a1_2, a1_3⟩ ⟨a2_0, a2_1, a2_2, a2_3⟩).symm

theorem t27 (k : Nat) (args : List (PV sig)) (m : Mem sig) : (∀ ρ K, T27 (Tabs (k + 1)) ρ args m K = none) ∨ ∀ ρ K, T27 (Tabs (k + 1)) ρ args m K = evF Try.prog lay (T (Tabs k)) (LT (Tabs k)) hints dfT 27 args m K := by
  rcases rc27_0 args m with h | ⟨a1, a2, rfl, rfl⟩
  · exact .inl fun ρ K => h ..
  · obtain ⟨a1_0, a1_1⟩ := a1; obtain ⟨a2_0, a2_1⟩ := a2; exact .inr fun ρ K => (gc27_0 (Tabs k) ρ K ⟨a1_0, a1_1⟩ ⟨a2_0, a2_1⟩).symm

theorem t28 (k : Nat) (args : List (PV sig)) (m : Mem sig) : (∀ ρ K, T28 (Tabs (k + 1)) ρ args m K = none) ∨ ∀ ρ K, T28 (Tabs (k + 1)) ρ args m K = evF Try.prog lay (T (Tabs k)) (LT (Tabs k)) hints dfT 28 args m K := by
  rcases rc28_0 args m with h | ⟨a1, a2, a3, rfl, rfl⟩
  · exact .inl fun ρ K => h ..
  · obtain ⟨a3_0, a3_1⟩ := a3; exact .inr fun ρ K => (gc28_0 (Tabs k) ρ K a1 a2 ⟨a3_0, a3_1⟩).symm

theorem t29 (k : Nat) (args : List (PV sig)) (m : Mem sig) : (∀ ρ K, T29 (Tabs (k + 1)) ρ args m K = none) ∨ ∀ ρ K, T29 (Tabs (k + 1)) ρ args m K = evF Try.prog lay (T (Tabs k)) (LT (Tabs k)) hints dfT 29 args m K := by
  rcases rc29_0 args m with h | ⟨a1, a2, a3, a4, rfl, rfl⟩
  · exact .inl fun ρ K => h ..
  · obtain ⟨a1_0, a1_1, a1_2, a1_3⟩ := a1; exact .inr fun ρ K => (gc29_0 (Tabs k) ρ K ⟨a1_0, a1_1, a1_2, a1_3⟩ a2 a3 a4).symm

theorem t30 (k : Nat) (args : List (PV sig)) (m : Mem sig) : (∀ ρ K, T30 (Tabs (k + 1)) ρ args m K = none) ∨ ∀ ρ K, T30 (Tabs (k + 1)) ρ args m K = evF Try.prog lay (T (Tabs k)) (LT (Tabs k)) hints dfT 30 args m K := by
  rcases rc30_0 args m with h | ⟨a1, a2, a3, rfl, rfl⟩
  · exact .inl fun ρ K => h ..
  · obtain ⟨a1_0, a1_1, a1_2, a1_3⟩ := a1; obtain ⟨a3_0, a3_1⟩ := a3; exact .inr fun ρ K => (gc30_0 (Tabs k) ρ K ⟨a1_0, a1_1, a1_2, a1_3⟩ a2 ⟨a3_0, a3_1⟩).symm

theorem t31 (k : Nat) (args : List (PV sig)) (m : Mem sig) : (∀ ρ K, T31 (Tabs (k + 1)) ρ args m K = none) ∨ ∀ ρ K, T31 (Tabs (k + 1)) ρ args m K = evF Try.prog lay (T (Tabs k)) (LT (Tabs k)) hints dfT 31 args m K := by
  rcases rc31_0 args m with h | ⟨a1, a2, a3, rfl, rfl⟩
  · exact .inl fun ρ K => h ..
  · obtain ⟨a1_0, a1_1, a1_2, a1_3⟩ := a1; obtain ⟨a3_0, a3_1⟩ := a3; exact .inr fun ρ K => (gc31_0 (Tabs k) ρ K ⟨a1_0, a1_1, a1_2, a1_3⟩ a2 ⟨a3_0, a3_1⟩).symm

theorem t32 (k : Nat) (args : List (PV sig)) (m : Mem sig) : (∀ ρ K, T32 (Tabs (k + 1)) ρ args m K = none) ∨ ∀ ρ K, T32 (Tabs (k + 1)) ρ args m K = evF Try.prog lay (T (Tabs k)) (LT (Tabs k)) hints dfT 32 args m K := by
  rcases rc32_0 args m with h | ⟨a1, a2, a3, rfl, rfl⟩
  · exact .inl fun ρ K => h ..
  · obtain ⟨a1_0, a1_1, a1_2, a1_3⟩ := a1; exact .inr fun ρ K => (gc32_0 (Tabs k) ρ K ⟨a1_0, a1_1, a1_2, a1_3⟩ a2 a3).symm

theorem t33 (k : Nat) (args : List (PV sig)) (m : Mem sig) : (∀ ρ K, T33 (Tabs (k + 1)) ρ args m K = none) ∨ ∀ ρ K, T33 (Tabs (k + 1)) ρ args m K = evF Try.prog lay (T (Tabs k)) (LT (Tabs k)) hints dfT 33 args m K := by
  rcases rc33_0 args m with h | ⟨a1, a2, a3, rfl, rfl⟩
  · exact .inl fun ρ K => h ..
  · obtain ⟨a1_0, a1_1, a1_2, a1_3⟩ := a1; exact .inr fun ρ K => (gc33_0 (Tabs k) ρ K ⟨a1_0, a1_1, a1_2, a1_3⟩ a2 a3).symm

theorem t34 (k : Nat) (args : List (PV sig)) (m : Mem sig) : (∀ ρ K, T34 (Tabs (k + 1)) ρ args m K = none) ∨ ∀ ρ K, T34 (Tabs (k + 1)) ρ args m K = evF Try.prog lay (T (Tabs k)) (LT (Tabs k)) hints dfT 34 args m K := by
  rcases rc34_0 args m with h | ⟨a1, a2, a3, rfl, rfl⟩
  · exact .inl fun ρ K => h ..
  · obtain ⟨a3_0, a3_1⟩ := a3; exact .inr fun ρ K => (gc34_0 (Tabs k) ρ K a1 a2 ⟨a3_0, a3_1⟩).symm

theorem t35 (k : Nat) (args : List (PV sig)) (m : Mem sig) : (∀ ρ K, T35 (Tabs (k + 1)) ρ args m K = none) ∨ ∀ ρ K, T35 (Tabs (k + 1)) ρ args m K = evF Try.prog lay (T (Tabs k)) (LT (Tabs k)) hints dfT 35 args m K := by
  rcases rc35_0 args m with h | ⟨a1, rfl, rfl⟩
  · exact .inl fun ρ K => h ..
  · obtain ⟨a1_0, a1_1, a1_2, a1_3⟩ := a1; exact .inr fun ρ K => (gc35_0 (Tabs k) ρ K ⟨a1_0, a1_1, a1_2, a1_3⟩).symm

theorem t36 (k : Nat) (args : List (PV sig)) (m : Mem sig) : (∀ ρ K, T36 (Tabs (k + 1)) ρ args m K = none) ∨ ∀ ρ K, T36 (Tabs (k + 1)) ρ args m K = evF Try.prog lay (T (Tabs k)) (LT (Tabs k)) hints dfT 36 args m K := by
  rcases rc36_0 args m with h | ⟨a1, rfl, rfl⟩
  · exact .inl fun ρ K => h ..
  · obtain ⟨a1_0, a1_1, a1_2, a1_3⟩ := a1; exact .inr fun ρ K => (gc36_0 (Tabs k) ρ K ⟨a1_0, a1_1, a1_2, a1_3⟩).symm

theorem t37 (k : Nat) (args : List (PV sig)) (m : Mem sig) : (∀ ρ K, T37 (Tabs (k + 1)) ρ args m K = none) ∨ ∀ ρ K, T37 (Tabs (k + 1)) ρ args m K = evF Try.prog lay (T (Tabs k)) (LT (Tabs k)) hints dfT 37 args m K := by
  rcases rc37_0 args m with h | ⟨a1, a2, rfl, rfl⟩
  · exact .inl fun ρ K => h ..
  · obtain ⟨a1_0, a1_1, a1_2, a1_3⟩ := a1; exact .inr fun ρ K => (gc37_0 (Tabs k) ρ K ⟨a1_0, a1_1, a1_2, a1_3⟩ a2).symm

theorem t38 (k : Nat) (args : List (PV sig)) (m : Mem sig) : (∀ ρ K, T38 (Tabs (k + 1)) ρ args m K = none) ∨ ∀ ρ K, T38 (Tabs (k + 1)) ρ args m K = evF Try.prog lay (T (Tabs k)) (LT (Tabs k)) hints dfT 38 args m K := by
  rcases rc38_0 args m with h | ⟨a1, a2, rfl, rfl⟩
  · exact .inl fun ρ K => h ..
  · obtain ⟨a1_0, a1_1, a1_2, a1_3⟩ := a1; exact .inr fun ρ K => (gc38_0 (Tabs k) ρ K ⟨a1_0, a1_1, a1_2, a1_3⟩ a2).symm

theorem t39 (k : Nat) (args : List (PV sig)) (m : Mem sig) : (∀ ρ K, T39 (Tabs (k + 1)) ρ args m K = none) ∨ ∀ ρ K, T39 (Tabs (k + 1)) ρ args m K = evF Try.prog lay (T (Tabs k)) (LT (Tabs k)) hints dfT 39 args m K := by
  rcases rc39_0 args m with h | ⟨a1, a2, a3, rfl, rfl⟩
  · exact .inl fun ρ K => h ..
  · exact .inr fun ρ K => (gc39_0 (Tabs k) ρ K a1 a2 a3).symm

theorem t41 (k : Nat) (args : List (PV sig)) (m : Mem sig) : (∀ ρ K, T41 (Tabs (k + 1)) ρ args m K = none) ∨ ∀ ρ K, T41 (Tabs (k + 1)) ρ args m K = evF Try.prog lay (T (Tabs k)) (LT (Tabs k)) hints dfT 41 args m K := by
  rcases rc41_0 args m with h | ⟨a1, a2, a3, a4, a5, rfl, rfl⟩
  · exact .inl fun ρ K => h ..
  · obtain ⟨a1_0, a1_1, a1_2, a1_3⟩ := a1; obtain ⟨a3_0, a3_1, a3_2, a3_3⟩ := a3; obtain ⟨a4_0, a4_1⟩ := a4; exact .inr fun ρ K => (gc41_0 (Tabs k) ρ K ⟨a1_0, a1_1, a1_2, a1_3⟩ a2 ⟨a3_0, a3_1, a3_2, a3_3⟩ ⟨a4_0, a4_1⟩ a5).symm

theorem t42 (k : Nat) (args : List (PV sig)) (m : Mem sig) : (∀ ρ K, T42 (Tabs (k + 1)) ρ args m K = none) ∨ ∀ ρ K, T42 (Tabs (k + 1)) ρ args m K = evF Try.prog lay (T (Tabs k)) (LT (Tabs k)) hints dfT 42 args m K := by
  rcases rc42_0 args m with h | ⟨a1, rfl, rfl⟩
  · exact .inl fun ρ K => h ..
  · exact .inr fun ρ K => (gc42_0 (Tabs k) ρ K a1).symm

theorem t43 (k : Nat) (args : List (PV sig)) (m : Mem sig) : (∀ ρ K, T43 (Tabs (k + 1)) ρ args m K = none) ∨ ∀ ρ K, T43 (Tabs (k + 1)) ρ args m K = evF Try.prog lay (T (Tabs k)) (LT (Tabs k)) hints dfT 43 args m K := by
  rcases rc43_0 args m with h | ⟨a1, a2, a3, a4, a5, rfl, rfl⟩
  · exact .inl fun ρ K => h ..
  · obtain ⟨a1_0, a1_1, a1_2, a1_3⟩ := a1; obtain ⟨a3_0, a3_1, a3_2, a3_3⟩ := a3; obtain ⟨a4_0, a4_1⟩ := a4; exact .inr fun ρ K => (gc43_0 (Tabs k) ρ K ⟨a1_0, a1_1, a1_2, a1_3⟩ a2 ⟨a3_0, a3_1, a3_2, a3_3⟩ ⟨a4_0, a4_1⟩ a5).symm

theorem t44 (k : Nat) (args : List (PV sig)) (m : Mem sig) : (∀ ρ K, T44 (Tabs (k + 1)) ρ args m K = none) ∨ ∀ ρ K, T44 (Tabs (k + 1)) ρ args m K = evF Try.prog lay (T (Tabs k)) (LT (Tabs k)) hints dfT 44 args m K := by
  rcases rc44_0 args m with h | ⟨a1, a2, rfl, rfl⟩
  · exact .inl fun ρ K => h ..
  · exact .inr fun ρ K => (gc44_0 (Tabs k) ρ K a1 a2).symm

theorem t45 (k : Nat) (args : List (PV sig)) (m : Mem sig) : (∀ ρ K, T45 (Tabs (k + 1)) ρ args m K = none) ∨ ∀ ρ K, T45 (Tabs (k + 1)) ρ args m K = evF Try.prog lay (T (Tabs k)) (LT (Tabs k)) hints dfT 45 args m K := by
  rcases rc45_0 args m with h | ⟨a1, a2, rfl, rfl⟩
  · exact .inl fun ρ K => h ..
  · exact .inr fun ρ K => (gc45_0 (Tabs k) ρ K a1 a2).symm

theorem t46 (k : Nat) (args : List (PV sig)) (m : Mem sig) : (∀ ρ K, T46 (Tabs (k + 1)) ρ args m K = none) ∨ ∀ ρ K, T46 (Tabs (k + 1)) ρ args m K = evF Try.prog lay (T (Tabs k)) (LT (Tabs k)) hints dfT 46 args m K := by
  rcases rc46_0 args m with h | ⟨a1, rfl, rfl⟩
  · exact .inl fun ρ K => h ..
  · obtain ⟨a1_0, a1_1, a1_2, a1_3⟩ := a1; exact .inr fun ρ K => (gc46_0 (Tabs k) ρ K ⟨a1_0, a1_1, a1_2, a1_3⟩).symm

theorem t47 (k : Nat) (args : List (PV sig)) (m : Mem sig) : (∀ ρ K, T47 (Tabs (k + 1)) ρ args m K = none) ∨ ∀ ρ K, T47 (Tabs (k + 1)) ρ args m K = evF Try.prog lay (T (Tabs k)) (LT (Tabs k)) hints dfT 47 args m K := by
  rcases rc47_0 args m with h | ⟨a1, a2, rfl, rfl⟩
  · exact .inl fun ρ K => h ..
  · obtain ⟨a1_0, a1_1, a1_2, a1_3⟩ := a1; exact .inr fun ρ K => (gc47_0 (Tabs k) ρ K ⟨a1_0, a1_1, a1_2, a1_3⟩ a2).symm

theorem t48 (k : Nat) (args : List (PV sig)) (m : Mem sig) : (∀ ρ K, T48 (Tabs (k + 1)) ρ args m K = none) ∨ ∀ ρ K, T48 (Tabs (k + 1)) ρ args m K = evF Try.prog lay (T (Tabs k)) (LT (Tabs k)) hints dfT 48 args m K := by
  rcases rc48_0 args m with h | ⟨a1, a2, rfl, rfl⟩
  · exact .inl fun ρ K => h ..
  · obtain ⟨a1_0, a1_1, a1_2, a1_3⟩ := a1; exact .inr fun ρ K => (gc48_0 (Tabs k) ρ K ⟨a1_0, a1_1, a1_2, a1_3⟩ a2).symm

theorem t49 (k : Nat) (args : List (PV sig)) (m : Mem sig) : (∀ ρ K, T49 (Tabs (k + 1)) ρ args m K = none) ∨ ∀ ρ K, T49 (Tabs (k + 1)) ρ args m K = evF Try.prog lay (T (Tabs k)) (LT (Tabs k)) hints dfT 49 args m K := by
  rcases rc49_0 args m with h | ⟨a1, a2, rfl, rfl⟩
  · exact .inl fun ρ K => h ..
  · obtain ⟨a1_0, a1_1⟩ := a1; exact .inr fun ρ K => (gc49_0 (Tabs k) ρ K ⟨a1_0, a1_1⟩ a2).symm

theorem t50 (k : Nat) (args : List (PV sig)) (m : Mem sig) : (∀ ρ K, T50 (Tabs (k + 1)) ρ args m K = none) ∨ ∀ ρ K, T50 (Tabs (k + 1)) ρ args m K = evF Try.prog lay (T (Tabs k)) (LT (Tabs k)) hints dfT 50 args m K := by
  rcases rc50_0 args m with h | ⟨a1, a2, a3, rfl, rfl⟩
  · exact .inl fun ρ K => h ..
  · obtain ⟨a1_0, a1_1, a1_2, a1_3⟩ := a1; exact .inr fun ρ K => (gc50_0 (Tabs k) ρ K ⟨a1_0, a1_1, a1_2, a1_3⟩ a2 a3).symm

theorem t51 (k : Nat) (args : List (PV sig)) (m : Mem sig) : (∀ ρ K, T51 (Tabs (k + 1)) ρ args m K = none) ∨ ∀ ρ K, T51 (Tabs (k + 1)) ρ args m K = evF Try.prog lay (T (Tabs k)) (LT (Tabs k)) hints dfT 51 args m K := by
  rcases rc51_0 args m with h | ⟨a1, a2, a3, rfl, rfl⟩
  · exact .inl fun ρ K => h ..
  · obtain ⟨a1_0, a1_1, a1_2, a1_3⟩ := a1; exact .inr fun ρ K => (gc51_0 (Tabs k) ρ K ⟨a1_0, a1_1, a1_2, a1_3⟩ a2 a3).symm

theorem t52 (k : Nat) (args : List (PV sig)) (m : Mem sig) : (∀ ρ K, T52 (Tabs (k + 1)) ρ args m K = none) ∨ ∀ ρ K, T52 (Tabs (k + 1)) ρ args m K = evF Try.prog lay (T (Tabs k)) (LT (Tabs k)) hints dfT 52 args m K := by
  rcases rc52_0 args m with h | ⟨a1, a2, a3, rfl, rfl⟩
  · exact .inl fun ρ K => h ..
  · obtain ⟨a3_0, a3_1⟩ := a3; exact .inr fun ρ K => (gc52_0 (Tabs k) ρ K a1 a2 ⟨a3_0, a3_1⟩).symm

theorem t53 (k : Nat) (args : List (PV sig)) (m : Mem sig) : (∀ ρ K, T53 (Tabs (k + 1)) ρ args m K = none) ∨ ∀ ρ K, T53 (Tabs (k + 1)) ρ args m K = evF Try.prog lay (T (Tabs k)) (LT (Tabs k)) hints dfT 53 args m K := by
  rcases rc53_0 args m with h | ⟨a1, rfl, rfl⟩
  · exact .inl fun ρ K => h ..
  · obtain ⟨a1_0, a1_1, a1_2, a1_3⟩ := a1; exact .inr fun ρ K => (gc53_0 (Tabs k) ρ K ⟨a1_0, a1_1, a1_2, a1_3⟩).symm

theorem t54 (k : Nat) (args : List (PV sig)) (m : Mem sig) : (∀ ρ K, T54 (Tabs (k + 1)) ρ args m K = none) ∨ ∀ ρ K, T54 (Tabs (k + 1)) ρ args m K = evF Try.prog lay (T (Tabs k)) (LT (Tabs k)) hints dfT 54 args m K := by
  rcases rc54_0 args m with h | ⟨a1, rfl, rfl⟩
  · exact .inl fun ρ K => h ..
  · obtain ⟨a1_0, a1_1, a1_2, a1_3⟩ := a1; exact .inr fun ρ K => (gc54_0 (Tabs k) ρ K ⟨a1_0, a1_1, a1_2, a1_3⟩).symm

theorem t55 (k : Nat) (args : List (PV sig)) (m : Mem sig) : (∀ ρ K, T55 (Tabs (k + 1)) ρ args m K = none) ∨ ∀ ρ K, T55 (Tabs (k + 1)) ρ args m K = evF Try.prog lay (T (Tabs k)) (LT (Tabs k)) hints dfT 55 args m K := by
  rcases rc55_0 args m with h | ⟨a1, a2, a3, a4, rfl, rfl⟩
  · exact .inl fun ρ K => h ..
  · obtain ⟨a1_0, a1_1, a1_2, a1_3⟩ := a1; obtain ⟨a3_0, a3_1⟩ := a3; exact .inr fun ρ K => (gc55_0 (Tabs k) ρ K ⟨a1_0, a1_1, a1_2, a1_3⟩ a2 ⟨a3_0, a3_1⟩ a4).symm

theorem t56 (k : Nat) (args : List (PV sig)) (m : Mem sig) : (∀ ρ K, T56 (Tabs (k + 1)) ρ args m K = none) ∨ ∀ ρ K, T56 (Tabs (k + 1)) ρ args m K = evF Try.prog lay (T (Tabs k)) (LT (Tabs k)) hints dfT 56 args m K := by
  rcases rc56_0 args m with h | ⟨a1, rfl, rfl⟩
  · exact .inl fun ρ K => h ..
  · exact .inr fun ρ K => (gc56_0 (Tabs k) ρ K a1).symm

theorem t57 (k : Nat) (args : List (PV sig)) (m : Mem sig) : (∀ ρ K, T57 (Tabs (k + 1)) ρ args m K = none) ∨ ∀ ρ K, T57 (Tabs (k + 1)) ρ args m K = evF Try.prog lay (T (Tabs k)) (LT (Tabs k)) hints dfT 57 args m K := by
  rcases rc57_0 args m with h | ⟨a1, a2, a3, a4, rfl, rfl⟩
  · exact .inl fun ρ K => h ..
  · obtain ⟨a1_0, a1_1, a1_2, a1_3⟩ := a1; obtain ⟨a3_0, a3_1⟩ := a3; exact .inr fun ρ K => (gc57_0 (Tabs k) ρ K ⟨a1_0, a1_1, a1_2, a1_3⟩ a2 ⟨a3_0, a3_1⟩ a4).symm

theorem t58 (k : Nat) (args : List (PV sig)) (m : Mem sig) : (∀ ρ K, T58 (Tabs (k + 1)) ρ args m K = none) ∨ ∀ ρ K, T58 (Tabs (k + 1)) ρ args m K = evF Try.prog lay (T (Tabs k)) (LT (Tabs k)) hints dfT 58 args m K := by
  rcases rc58_0 args m with h | ⟨a1, a2, rfl, rfl⟩
  · exact .inl fun ρ K => h ..
  · obtain ⟨a1_0, a1_1, a1_2, a1_3⟩ := a1; exact .inr fun ρ K => (gc58_0 (Tabs k) ρ K ⟨a1_0, a1_1, a1_2, a1_3⟩ a2).symm

theorem t59 (k : Nat) (args : List (PV sig)) (m : Mem sig) : (∀ ρ K, T59 (Tabs (k + 1)) ρ args m K = none) ∨ ∀ ρ K, T59 (Tabs (k + 1)) ρ args m K = evF Try.prog lay (T (Tabs k)) (LT (Tabs k)) hints dfT 59 args m K := by
  rcases rc59_0 args m with h | ⟨a1, rfl, rfl⟩
  · exact .inl fun ρ K => h ..
  · obtain ⟨a1_0, a1_1, a1_2, a1_3⟩ := a1; exact .inr fun ρ K => (gc59_0 (Tabs k) ρ K ⟨a1_0, a1_1, a1_2, a1_3⟩).symm

theorem t60 (k : Nat) (args : List (PV sig)) (m : Mem sig) : (∀ ρ K, T60 (Tabs (k + 1)) ρ args m K = none) ∨ ∀ ρ K, T60 (Tabs (k + 1)) ρ args m K = evF Try.prog lay (T (Tabs k)) (LT (Tabs k)) hints dfT 60 args m K := by
  rcases rc60_0 args m with h | ⟨a1, a2, rfl, rfl⟩
  · exact .inl fun ρ K => h ..
  · obtain ⟨a1_0, a1_1, a1_2, a1_3⟩ := a1; exact .inr fun ρ K => (gc60_0 (Tabs k) ρ K ⟨a1_0, a1_1, a1_2, a1_3⟩ a2).symm

theorem t61 (k : Nat) (args : List (PV sig)) (m : Mem sig) : (∀ ρ K, T61 (Tabs (k + 1)) ρ args m K = none) ∨ ∀ ρ K, T61 (Tabs (k + 1)) ρ args m K = evF Try.prog lay (T (Tabs k)) (LT (Tabs k)) hints dfT 61 args m K := by
  rcases rc61_0 args m with h | ⟨a1, a2, a3, rfl, rfl⟩
  · exact .inl fun ρ K => h ..
  · obtain ⟨a3_0, a3_1⟩ := a3; exact .inr fun ρ K => (gc61_0 (Tabs k) ρ K a1 a2 ⟨a3_0, a3_1⟩).symm

theorem t62 (k : Nat) (args : List (PV sig)) (m : Mem sig) : (∀ ρ K, T62 (Tabs (k + 1)) ρ args m K = none) ∨ ∀ ρ K, T62 (Tabs (k + 1)) ρ args m K = evF Try.prog lay (T (Tabs k)) (LT (Tabs k)) hints dfT 62 args m K := by
  rcases rc62_0 args m with h | ⟨a1, rfl, rfl⟩
  · exact .inl fun ρ K => h ..
  · exact .inr fun ρ K => (gc62_0 (Tabs k) ρ K a1).symm

theorem t63 (k : Nat) (args : List (PV sig)) (m : Mem sig) : (∀ ρ K, T63 (Tabs (k + 1)) ρ args m K = none) ∨ ∀ ρ K, T63 (Tabs (k + 1)) ρ args m K = evF Try.prog lay (T (Tabs k)) (LT (Tabs k)) hints dfT 63 args m K := by
  rcases rc63_0 args m with h | ⟨a1, rfl, rfl⟩
  · exact .inl fun ρ K => h ..
  · obtain ⟨a1_0, a1_1, a1_2, a1_3⟩ := a1; exact .inr fun ρ K => (gc63_0 (Tabs k) ρ K ⟨a1_0, a1_1, a1_2, a1_3⟩).symm

theorem t64 (k : Nat) (args : List (PV sig)) (m : Mem sig) : (∀ ρ K, T64 (Tabs (k + 1)) ρ args m K = none) ∨ ∀ ρ K, T64 (Tabs (k + 1)) ρ args m K = evF Try.prog lay (T (Tabs k)) (LT (Tabs k)) hints dfT 64 args m K := by
  rcases rc64_0 args m with h | ⟨a1, rfl, rfl⟩
  · exact .inl fun ρ K => h ..
  · obtain ⟨a1_0, a1_1⟩ := a1; exact .inr fun ρ K => (gc64_0 (Tabs k) ρ K ⟨a1_0, a1_1⟩).symm

theorem t65 (k : Nat) (args : List (PV sig)) (m : Mem sig) : (∀ ρ K, T65 (Tabs (k + 1)) ρ args m K = none) ∨ ∀ ρ K, T65 (Tabs (k + 1)) ρ args m K = evF Try.prog lay (T (Tabs k)) (LT (Tabs k)) hints dfT 65 args m K := by
  rcases rc65_0 args m with h | ⟨a1, a2, a3, rfl, rfl⟩
  · exact .inl fun ρ K => h ..
  · obtain ⟨a1_0, a1_1, a1_2, a1_3⟩ := a1; obtain ⟨a2_0, a2_1, a2_2, a2_3⟩ := a2; exact .inr fun ρ K => (gc65_0 (Tabs k) ρ K ⟨a1_0, a1_1, a1_2, a1_3⟩ ⟨a2_0, a2_1, a2_2, a2_3⟩ a3).symm

theorem t66 (k : Nat) (args : List (PV sig)) (m : Mem sig) : (∀ ρ K, T66 (Tabs (k + 1)) ρ args m K = none) ∨ ∀ ρ K, T66 (Tabs (k + 1)) ρ args m K = evF Try.prog lay (T (Tabs k)) (LT (Tabs k)) hints dfT 66 args m K := by
  unfold T66
  cases hc : Nat.beq (fnId (args.getD 1 .any)) 67 with
  | true =>
    simp only [cond_true]
    rcases rc66_0 args m with h | ⟨a1, rfl, rfl⟩
    · exact .inl fun ρ K => h ..
    · exact .inr fun ρ K => (gc66_0 (Tabs k) ρ K a1).symm
  | false =>
    simp only [cond_false]
    cases hc : Nat.beq (fnId (args.getD 1 .any)) 88 with
    | true =>
      simp only [cond_true]
      rcases rc66_1 args m with h | ⟨a1, a2, rfl, rfl⟩
      · exact .inl fun ρ K => h ..
      · exact .inr fun ρ K => (gc66_1 (Tabs k) ρ K a1 a2).symm
    | false =>
      simp only [cond_false]
      first | exact .inl fun _ _ => rfl | exact .inl fun _ _ => trivial

theorem t67 (k : Nat) (args : List (PV sig)) (m : Mem sig) : (∀ ρ K, T67 (Tabs (k + 1)) ρ args m K = none) ∨ ∀ ρ K, T67 (Tabs (k + 1)) ρ args m K = evF Try.prog lay (T (Tabs k)) (LT (Tabs k)) hints dfT 67 args m K := by
  rcases rc67_0 args m with h | ⟨a1, rfl, rfl⟩
  · exact .inl fun ρ K => h ..
  · obtain ⟨a1_0, a1_1⟩ := a1; exact .inr fun ρ K => (gc67_0 (Tabs k) ρ K ⟨a1_0, a1_1⟩).symm

theorem t68 (k : Nat) (args : List (PV sig)) (m : Mem sig) : (∀ ρ K, T68 (Tabs (k + 1)) ρ args m K = none) ∨ ∀ ρ K, T68 (Tabs (k + 1)) ρ args m K = evF Try.prog lay (T (Tabs k)) (LT (Tabs k)) hints dfT 68 args m K := by
  rcases rc68_0 args m with h | ⟨a1, rfl, rfl⟩
  · exact .inl fun ρ K => h ..
  · exact .inr fun ρ K => (gc68_0 (Tabs k) ρ K a1).symm

theorem t69 (k : Nat) (args : List (PV sig)) (m : Mem sig) : (∀ ρ K, T69 (Tabs (k + 1)) ρ args m K = none) ∨ ∀ ρ K, T69 (Tabs (k + 1)) ρ args m K = evF Try.prog lay (T (Tabs k)) (LT (Tabs k)) hints dfT 69 args m K := by
  rcases rc69_0 args m with h | ⟨a1, rfl, rfl⟩
  · exact .inl fun ρ K => h ..
  · exact .inr fun ρ K => (gc69_0 (Tabs k) ρ K a1).symm

theorem t70 (k : Nat) (args : List (PV sig)) (m : Mem sig) : (∀ ρ K, T70 (Tabs (k + 1)) ρ args m K = none) ∨ ∀ ρ K, T70 (Tabs (k + 1)) ρ args m K = evF Try.prog lay (T (Tabs k)) (LT (Tabs k)) hints dfT 70 args m K := by
  rcases rc70_0 args m with h | ⟨a1, a2, rfl, rfl⟩
  · exact .inl fun ρ K => h ..
  · obtain ⟨a1_0, a1_1, a1_2, a1_3⟩ := a1; exact .inr fun ρ K => (gc70_0 (Tabs k) ρ K ⟨a1_0, a1_1, a1_2, a1_3⟩ a2).symm

theorem t71 (k : Nat) (args : List (PV sig)) (m : Mem sig) : (∀ ρ K, T71 (Tabs (k + 1)) ρ args m K = none) ∨ ∀ ρ K, T71 (Tabs (k + 1)) ρ args m K = evF Try.prog lay (T (Tabs k)) (LT (Tabs k)) hints dfT 71 args m K := by
  rcases rc71_0 args m with h | ⟨a1, rfl, rfl⟩
  · exact .inl fun ρ K => h ..
  · obtain ⟨a1_0, a1_1, a1_2, a1_3⟩ := a1; exact .inr fun ρ K => (gc71_0 (Tabs k) ρ K ⟨a1_0, a1_1, a1_2, a1_3⟩).symm

theorem t72 (k : Nat) (args : List (PV sig)) (m : Mem sig) : (∀ ρ K, T72 (Tabs (k + 1)) ρ args m K = none) ∨ ∀ ρ K, T72 (Tabs (k + 1)) ρ args m K = evF Try.prog lay (T (Tabs k)) (LT (Tabs k)) hints dfT 72 args m K := by
  rcases rc72_0 args m with h | ⟨a1, a2, rfl, rfl⟩
  · exact .inl fun ρ K => h ..
  · obtain ⟨a1_0, a1_1, a1_2, a1_3⟩ := a1; exact .inr fun ρ K => (gc72_0 (Tabs k) ρ K ⟨a1_0, a1_1, a1_2, a1_3⟩ a2).symm

theorem t73 (k : Nat) (args : List (PV sig)) (m : Mem sig) : (∀ ρ K, T73 (Tabs (k + 1)) ρ args m K = none) ∨ ∀ ρ K, T73 (Tabs (k + 1)) ρ args m K = evF Try.prog lay (T (Tabs k)) (LT (Tabs k)) hints dfT 73 args m K := by
  rcases rc73_0 args m with h | ⟨a1, rfl, rfl⟩
  · exact .inl fun ρ K => h ..
  · obtain ⟨a1_0, a1_1, a1_2, a1_3⟩ := a1; exact .inr fun ρ K => (gc73_0 (Tabs k) ρ K ⟨a1_0, a1_1, a1_2, a1_3⟩).symm

theorem t74 (k : Nat) (args : List (PV sig)) (m : Mem sig) : (∀ ρ K, T74 (Tabs (k + 1)) ρ args m K = none) ∨ ∀ ρ K, T74 (Tabs (k + 1)) ρ args m K = evF Try.prog lay (T (Tabs k)) (LT (Tabs k)) hints dfT 74 args m K := by
  rcases rc74_0 args m with h | ⟨a1, a2, a3, rfl, rfl⟩
  · exact .inl fun ρ K => h ..
  · obtain ⟨a1_0, a1_1, a1_2, a1_3⟩ := a1; exact .inr fun ρ K => (gc74_0 (Tabs k) ρ K ⟨a1_0, a1_1, a1_2, a1_3⟩ a2 a3).symm

theorem t75 (k : Nat) (args : List (PV sig)) (m : Mem sig) : (∀ ρ K, T75 (Tabs (k + 1)) ρ args m K = none) ∨ ∀ ρ K, T75 (Tabs (k + 1)) ρ args m K = evF Try.prog lay (T (Tabs k)) (LT (Tabs k)) hints dfT 75 args m K := by
  unfold T75
  cases hc : Nat.beq (fnId (args.getD 2 .any)) 76 with
  | true =>
    simp only [cond_true]
    rcases rc75_0 args m with h | ⟨a1, a2, rfl, rfl⟩
    · exact .inl fun ρ K => h ..
    · obtain ⟨a1_0, a1_1, a1_2, a1_3⟩ := a1; exact .inr fun ρ K => (gc75_0 (Tabs k) ρ K ⟨a1_0, a1_1, a1_2, a1_3⟩ a2).symm
  | false =>
    simp only [cond_false]
    cases hc : Nat.beq (fnId (args.getD 2 .any)) 89 with
    | true =>
      simp only [cond_true]
      rcases rc75_1 args m with h | ⟨a1, a2, a3, a4, rfl, rfl⟩
      · exact .inl fun ρ K => h ..
      · obtain ⟨a1_0, a1_1, a1_2, a1_3⟩ := a1; exact .inr fun ρ K => (gc75_1 (Tabs k) ρ K ⟨a1_0, a1_1, a1_2, a1_3⟩ a2 a3 a4).symm
    | false =>
      simp only [cond_false]
      first | exact .inl fun _ _ => rfl | exact .inl fun _ _ => trivial

theorem t76 (k : Nat) (args : List (PV sig)) (m : Mem sig) : (∀ ρ K, T76 (Tabs (k + 1)) ρ args m K = none) ∨ ∀ ρ K, T76 (Tabs (k + 1)) ρ args m K = evF Try.prog lay (T (Tabs k)) (LT (Tabs k)) hints dfT 76 args m K := by
  rcases rc76_0 args m with h | ⟨a1, a2, rfl, rfl⟩
  · exact .inl fun ρ K => h ..
  · obtain ⟨a1_0, a1_1, a1_2, a1_3⟩ := a1; exact .inr fun ρ K => (gc76_0 (Tabs k) ρ K ⟨a1_0, a1_1, a1_2, a1_3⟩ a2).symm

theorem t77 (k : Nat) (args : List (PV sig)) (m : Mem sig) : (∀ ρ K, T77 (Tabs (k + 1)) ρ args m K = none) ∨ ∀ ρ K, T77 (Tabs (k + 1)) ρ args m K = evF Try.prog lay (T (Tabs k)) (LT (Tabs k)) hints dfT 77 args m K := by
  rcases rc77_0 args m with h | ⟨a1, a2, a3, rfl, rfl⟩
  · exact .inl fun ρ K => h ..
  · obtain ⟨a1_0, a1_1, a1_2, a1_3⟩ := a1; exact .inr fun ρ K => (gc77_0 (Tabs k) ρ K ⟨a1_0, a1_1, a1_2, a1_3⟩ a2 a3).symm

theorem t78 (k : Nat) (args : List (PV sig)) (m : Mem sig) : (∀ ρ K, T78 (Tabs (k + 1)) ρ args m K = none) ∨ ∀ ρ K, T78 (Tabs (k + 1)) ρ args m K = evF Try.prog lay (T (Tabs k)) (LT (Tabs k)) hints dfT 78 args m K := by
  rcases rc78_0 args m with h | ⟨a1, a2, a3, rfl, rfl⟩
  · exact .inl fun ρ K => h ..
  · obtain ⟨a1_0, a1_1, a1_2, a1_3⟩ := a1; exact .inr fun ρ K => (gc78_0 (Tabs k) ρ K ⟨a1_0, a1_1, a1_2, a1_3⟩ a2 a3).symm

theorem t79 (k : Nat) (args : List (PV sig)) (m : Mem sig) : (∀ ρ K, T79 (Tabs (k + 1)) ρ args m K = none) ∨ ∀ ρ K, T79 (Tabs (k + 1)) ρ args m K = evF Try.prog lay (T (Tabs k)) (LT (Tabs k)) hints dfT 79 args m K := by
  rcases rc79_0 args m with h | ⟨a1, rfl, rfl⟩
  · exact .inl fun ρ K => h ..
  · obtain ⟨a1_0, a1_1, a1_2, a1_3⟩ := a1; exact .inr fun ρ K => (gc79_0 (Tabs k) ρ K ⟨a1_0, a1_1, a1_2, a1_3⟩).symm

theorem t80 (k : Nat) (args : List (PV sig)) (m : Mem sig) : (∀ ρ K, T80 (Tabs (k + 1)) ρ args m K = none) ∨ ∀ ρ K, T80 (Tabs (k + 1)) ρ args m K = evF Try.prog lay (T (Tabs k)) (LT (Tabs k)) hints dfT 80 args m K := by
  rcases rc80_0 args m with h | ⟨a1, a2, rfl, rfl⟩
  · exact .inl fun ρ K => h ..
  · obtain ⟨a1_0, a1_1⟩ := a1; exact .inr fun ρ K => (gc80_0 (Tabs k) ρ K ⟨a1_0, a1_1⟩ a2).symm

theorem t81 (k : Nat) (args : List (PV sig)) (m : Mem sig) : (∀ ρ K, T81 (Tabs (k + 1)) ρ args m K = none) ∨ ∀ ρ K, T81 (Tabs (k + 1)) ρ args m K = evF Try.prog lay (T (Tabs k)) (LT (Tabs k)) hints dfT 81 args m K := by
  rcases rc81_0 args m with h | ⟨a1, rfl, rfl⟩
  · exact .inl fun ρ K => h ..
  · obtain ⟨a1_0, a1_1, a1_2, a1_3⟩ := a1; exact .inr fun ρ K => (gc81_0 (Tabs k) ρ K ⟨a1_0, a1_1, a1_2, a1_3⟩).symm

theorem t82 (k : Nat) (args : List (PV sig)) (m : Mem sig) : (∀ ρ K, T82 (Tabs (k + 1)) ρ args m K = none) ∨ ∀ ρ K, T82 (Tabs (k + 1)) ρ args m K = evF Try.prog lay (T (Tabs k)) (LT (Tabs k)) hints dfT 82 args m K := by
  unfold T82
  cases hc : Nat.beq (fnId (args.getD 1 .any)) 67 with
  | true =>
    simp only [cond_true]
    rcases rc82_0 args m with h | ⟨a1, rfl, rfl⟩
    · exact .inl fun ρ K => h ..
    · exact .inr fun ρ K => (gc82_0 (Tabs k) ρ K a1).symm
  | false =>
    simp only [cond_false]
    cases hc : Nat.beq (fnId (args.getD 1 .any)) 88 with
    | true =>
      simp only [cond_true]
      rcases rc82_1 args m with h | ⟨a1, a2, rfl, rfl⟩
      · exact .inl fun ρ K => h ..
      · exact .inr fun ρ K => (gc82_1 (Tabs k) ρ K a1 a2).symm
    | false =>
      simp only [cond_false]
      first | exact .inl fun _ _ => rfl | exact .inl fun _ _ => trivial

theorem t83 (k : Nat) (args : List (PV sig)) (m : Mem sig) : (∀ ρ K, T83 (Tabs (k + 1)) ρ args m K = none) ∨ ∀ ρ K, T83 (Tabs (k + 1)) ρ args m K = evF Try.prog lay (T (Tabs k)) (LT (Tabs k)) hints dfT 83 args m K := by
  rcases rc83_0 args m with h | ⟨a1, rfl, rfl⟩
  · exact .inl fun ρ K => h ..
  · exact .inr fun ρ K => (gc83_0 (Tabs k) ρ K a1).symm

theorem t84 (k : Nat) (args : List (PV sig)) (m : Mem sig) : (∀ ρ K, T84 (Tabs (k + 1)) ρ args m K = none) ∨ ∀ ρ K, T84 (Tabs (k + 1)) ρ args m K = evF Try.prog lay (T (Tabs k)) (LT (Tabs k)) hints dfT 84 args m K := by
  rcases rc84_0 args m with h | ⟨a1, a2, a3, a4, a5, a6, rfl, rfl⟩
  · exact .inl fun ρ K => h ..
  · obtain ⟨a1_0, a1_1, a1_2, a1_3⟩ := a1; exact .inr fun ρ K => (gc84_0 (Tabs k) ρ K ⟨a1_0, a1_1, a1_2, a1_3⟩ a2 a3 a4 a5 a6).symm

theorem t85 (k : Nat) (args : List (PV sig)) (m : Mem sig) : (∀ ρ K, T85 (Tabs (k + 1)) ρ args m K = none) ∨ ∀ ρ K, T85 (Tabs (k + 1)) ρ args m K = evF Try.prog lay (T (Tabs k)) (LT (Tabs k)) hints dfT 85 args m K := by
  rcases rc85_0 args m with h | ⟨a1, a2, a3, a4, a5, a6, rfl, rfl⟩
  · exact .inl fun ρ K => h ..
  · obtain ⟨a1_0, a1_1, a1_2, a1_3⟩ := a1; exact .inr fun ρ K => (gc85_0 (Tabs k) ρ K ⟨a1_0, a1_1, a1_2, a1_3⟩ a2 a3 a4 a5 a6).symm

theorem t86 (k : Nat) (args : List (PV sig)) (m : Mem sig) : (∀ ρ K, T86 (Tabs (k + 1)) ρ args m K = none) ∨ ∀ ρ K, T86 (Tabs (k + 1)) ρ args m K = evF Try.prog lay (T (Tabs k)) (LT (Tabs k)) hints dfT 86 args m K := by
  rcases rc86_0 args m with h | ⟨a1, a2, a3, rfl, rfl⟩
  · exact .inl fun ρ K => h ..
  · obtain ⟨a1_0, a1_1, a1_2, a1_3⟩ := a1; exact .inr fun ρ K => (gc86_0 (Tabs k) ρ K ⟨a1_0, a1_1, a1_2, a1_3⟩ a2 a3).symm

theorem t87 (k : Nat) (args : List (PV sig)) (m : Mem sig) : (∀ ρ K, T87 (Tabs (k + 1)) ρ args m K = none) ∨ ∀ ρ K, T87 (Tabs (k + 1)) ρ args m K = evF Try.prog lay (T (Tabs k)) (LT (Tabs k)) hints dfT 87 args m K := by
  rcases rc87_0 args m with h | ⟨a1, rfl, rfl⟩
  · exact .inl fun ρ K => h ..
  · obtain ⟨a1_0, a1_1, a1_2, a1_3⟩ := a1; exact .inr fun ρ K => (gc87_0 (Tabs k) ρ K ⟨a1_0, a1_1, a1_2, a1_3⟩).symm

theorem t88 (k : Nat) (args : List (PV sig)) (m : Mem sig) : (∀ ρ K, T88 (Tabs (k + 1)) ρ args m K = none) ∨ ∀ ρ K, T88 (Tabs (k + 1)) ρ args m K = evF Try.prog lay (T (Tabs k)) (LT (Tabs k)) hints dfT 88 args m K := by
  rcases rc88_0 args m with h | ⟨a1, a2, rfl, rfl⟩
  · exact .inl fun ρ K => h ..
  · obtain ⟨a1_0, a1_1⟩ := a1; exact .inr fun ρ K => (gc88_0 (Tabs k) ρ K ⟨a1_0, a1_1⟩ a2).symm

theorem t89 (k : Nat) (args : List (PV sig)) (m : Mem sig) : (∀ ρ K, T89 (Tabs (k + 1)) ρ args m K = none) ∨ ∀ ρ K, T89 (Tabs (k + 1)) ρ args m K = evF Try.prog lay (T (Tabs k)) (LT (Tabs k)) hints dfT 89 args m K := by
  rcases rc89_0 args m with h | ⟨a1, a2, a3, a4, rfl, rfl⟩
  · exact .inl fun ρ K => h ..
  · obtain ⟨a1_0, a1_1, a1_2, a1_3⟩ := a1; exact .inr fun ρ K => (gc89_0 (Tabs k) ρ K ⟨a1_0, a1_1, a1_2, a1_3⟩ a2 a3 a4).symm

theorem tT (k f : Nat) (args : List (PV sig)) (m : Mem sig) : (∀ ρ K, T (Tabs (k + 1)) ρ f args m K = none) ∨ ∀ ρ K, T (Tabs (k + 1)) ρ f args m K = evF Try.prog lay (T (Tabs k)) (LT (Tabs k)) hints dfT f args m K := by
  unfold T
  cases hc : Nat.beq f 3 with
  | true => simp only [cond_true]; rw [Nat.eq_of_beq_eq_true hc]; exact t3 k args m
  | false =>
  simp only [cond_false]; clear hc
  cases hc : Nat.beq f 4 with
  | true => simp only [cond_true]; rw [Nat.eq_of_beq_eq_true hc]; exact t4 k args m
  | false =>
  simp only [cond_false]; clear hc
  cases hc : Nat.beq f 5 with
  | true => simp only [cond_true]; rw [Nat.eq_of_beq_eq_true hc]; exact t5 k args m
  | false =>
  simp only [cond_false]; clear hc
  cases hc : Nat.beq f 6 with
  | true => simp only [cond_true]; rw [Nat.eq_of_beq_eq_true hc]; exact t6 k args m
  | false =>
  simp only [cond_false]; clear hc
  cases hc : Nat.beq f 7 with
  | true => simp only [cond_true]; rw [Nat.eq_of_beq_eq_true hc]; exact t7 k args m
  | false =>
  simp only [cond_false]; clear hc
  cases hc : Nat.beq f 8 with
  | true => simp only [cond_true]; rw [Nat.eq_of_beq_eq_true hc]; exact t8 k args m
  | false =>
  simp only [cond_false]; clear hc
  cases hc : Nat.beq f 9 with
  | true => simp only [cond_true]; rw [Nat.eq_of_beq_eq_true hc]; exact t9 k args m
  | false =>
  simp only [cond_false]; clear hc
  cases hc : Nat.beq f 10 with
  | true => simp only [cond_true]; rw [Nat.eq_of_beq_eq_true hc]; exact t10 k args m
  | false =>
  simp only [cond_false]; clear hc
  cases hc : Nat.beq f 11 with
  | true => simp only [cond_true]; rw [Nat.eq_of_beq_eq_true hc]; exact t11 k args m
  | false =>
  simp only [cond_false]; clear hc
  cases hc : Nat.beq f 12 with
  | true => simp only [cond_true]; rw [Nat.eq_of_beq_eq_true hc]; exact t12 k args m
  | false =>
  simp only [cond_false]; clear hc
  cases hc : Nat.beq f 13 with
  | true => simp only [cond_true]; rw [Nat.eq_of_beq_eq_true hc]; exact t13 k args m
  | false =>
  simp only [cond_false]; clear hc
  cases hc : Nat.beq f 14 with
  | true => simp only [cond_true]; rw [Nat.eq_of_beq_eq_true hc]; exact t14 k args m
  | false =>
  simp only [cond_false]; clear hc
  cases hc : Nat.beq f 15 with
  | true => simp only [cond_true]; rw [Nat.eq_of_beq_eq_true hc]; exact t15 k args m
  | false =>
  simp only [cond_false]; clear hc
  cases hc : Nat.beq f 16 with
  | true => simp only [cond_true]; rw [Nat.eq_of_beq_eq_true hc]; exact t16 k args m
  | false =>
  simp only [cond_false]; clear hc
  cases hc : Nat.beq f 17 with
  | true => simp only [cond_true]; rw [Nat.eq_of_beq_eq_true hc]; exact t17 k args m
  | false =>
  simp only [cond_false]; clear hc
  cases hc : Nat.beq f 18 with
  | true => simp only [cond_true]; rw [Nat.eq_of_beq_eq_true hc]; exact t18 k args m
  | false =>
  simp only [cond_false]; clear hc
  cases hc : Nat.beq f 19 with
  | true => simp only [cond_true]; rw [Nat.eq_of_beq_eq_true hc]; exact t19 k args m
  | false =>
  simp only [cond_false]; clear hc
  cases hc : Nat.beq f 20 with
  | true => simp only [cond_true]; rw [Nat.eq_of_beq_eq_true hc]; exact t20 k args m
  | false =>
  simp only [cond_false]; clear hc
  cases hc : Nat.beq f 21 with
  | true => simp only [cond_true]; rw [Nat.eq_of_beq_eq_true hc]; exact t21 k args m
  | false =>
  simp only [cond_false]; clear hc
  cases hc : Nat.beq f 22 with
  | true => simp only [cond_true]; rw [Nat.eq_of_beq_eq_true hc]; exact t22 k args m
  | false =>
  simp only [cond_false]; clear hc
  cases hc : Nat.beq f 23 with
  | true => simp only [cond_true]; rw [Nat.eq_of_beq_eq_true hc]; exact t23 k args m
  | false =>
  simp only [cond_false]; clear hc
  cases hc : Nat.beq f 24 with
  | true => simp only [cond_true]; rw [Nat.eq_of_beq_eq_true hc]; exact t24 k args m
  | false =>
  simp only [cond_false]; clear hc
  cases hc : Nat.beq f 25 with
  | true => simp only [cond_true]; rw [Nat.eq_of_beq_eq_true hc]; exact t25 k args m
  | false =>
  simp only [cond_false]; clear hc
  cases hc : Nat.beq f 26 with
  | true => simp only [cond_true]; rw [Nat.eq_of_beq_eq_true hc]; exact t26 k args m
  | false =>
  simp only [cond_false]; clear hc
  cases hc : Nat.beq f 27 with
  | true => simp only [cond_true]; rw [Nat.eq_of_beq_eq_true hc]; exact t27 k args m
  | false =>
  simp only [cond_false]; clear hc
  cases hc : Nat.beq f 28 with
  | true => simp only [cond_true]; rw [Nat.eq_of_beq_eq_true hc]; exact t28 k args m
  | false =>
  simp only [cond_false]; clear hc
  cases hc : Nat.beq f 29 with
  | true => simp only [cond_true]; rw [Nat.eq_of_beq_eq_true hc]; exact t29 k args m
  | false =>
  simp only [cond_false]; clear hc
  cases hc : Nat.beq f 30 with
  | true => simp only [cond_true]; rw [Nat.eq_of_beq_eq_true hc]; exact t30 k args m
  | false =>
  simp only [cond_false]; clear hc
  cases hc : Nat.beq f 31 with
  | true => simp only [cond_true]; rw [Nat.eq_of_beq_eq_true hc]; exact t31 k args m
  | false =>
  simp only [cond_false]; clear hc
  cases hc : Nat.beq f 32 with
  | true => simp only [cond_true]; rw [Nat.eq_of_beq_eq_true hc]; exact t32 k args m
  | false =>
  simp only [cond_false]; clear hc
  cases hc : Nat.beq f 33 with
  | true => simp only [cond_true]; rw [Nat.eq_of_beq_eq_true hc]; exact t33 k args m
  | false =>
  simp only [cond_false]; clear hc
  cases hc : Nat.beq f 34 with
  | true => simp only [cond_true]; rw [Nat.eq_of_beq_eq_true hc]; exact t34 k args m
  | false =>
  simp only [cond_false]; clear hc
  cases hc : Nat.beq f 35 with
  | true => simp only [cond_true]; rw [Nat.eq_of_beq_eq_true hc]; exact t35 k args m
  | false =>
  simp only [cond_false]; clear hc
  cases hc : Nat.beq f 36 with
  | true => simp only [cond_true]; rw [Nat.eq_of_beq_eq_true hc]; exact t36 k args m
  | false =>
  simp only [cond_false]; clear hc
  cases hc : Nat.beq f 37 with
  | true => simp only [cond_true]; rw [Nat.eq_of_beq_eq_true hc]; exact t37 k args m
  | false =>
  simp only [cond_false]; clear hc
  cases hc : Nat.beq f 38 with
  | true => simp only [cond_true]; rw [Nat.eq_of_beq_eq_true hc]; exact t38 k args m
  | false =>
  simp only [cond_false]; clear hc
  cases hc : Nat.beq f 39 with
  | true => simp only [cond_true]; rw [Nat.eq_of_beq_eq_true hc]; exact t39 k args m
  | false =>
  simp only [cond_false]; clear hc
  cases hc : Nat.beq f 41 with
  | true => simp only [cond_true]; rw [Nat.eq_of_beq_eq_true hc]; exact t41 k args m
  | false =>
  simp only [cond_false]; clear hc
  cases hc : Nat.beq f 42 with
  | true => simp only [cond_true]; rw [Nat.eq_of_beq_eq_true hc]; exact t42 k args m
  | false =>
  simp only [cond_false]; clear hc
  cases hc : Nat.beq f 43 with
  | true => simp only [cond_true]; rw [Nat.eq_of_beq_eq_true hc]; exact t43 k args m
  | false =>
  simp only [cond_false]; clear hc
  cases hc : Nat.beq f 44 with
  | true => simp only [cond_true]; rw [Nat.eq_of_beq_eq_true hc]; exact t44 k args m
  | false =>
  simp only [cond_false]; clear hc
  cases hc : Nat.beq f 45 with
  | true => simp only [cond_true]; rw [Nat.eq_of_beq_eq_true hc]; exact t45 k args m
  | false =>
  simp only [cond_false]; clear hc
  cases hc : Nat.beq f 46 with
  | true => simp only [cond_true]; rw [Nat.eq_of_beq_eq_true hc]; exact t46 k args m
  | false =>
  simp only [cond_false]; clear hc
  cases hc : Nat.beq f 47 with
  | true => simp only [cond_true]; rw [Nat.eq_of_beq_eq_true hc]; exact t47 k args m
  | false =>
  simp only [cond_false]; clear hc
  cases hc : Nat.beq f 48 with
  | true => simp only [cond_true]; rw [Nat.eq_of_beq_eq_true hc]; exact t48 k args m
  | false =>
  simp only [cond_false]; clear hc
  cases hc : Nat.beq f 49 with
  | true => simp only [cond_true]; rw [Nat.eq_of_beq_eq_true hc]; exact t49 k args m
  | false =>
  simp only [cond_false]; clear hc
  cases hc : Nat.beq f 50 with
  | true => simp only [cond_true]; rw [Nat.eq_of_beq_eq_true hc]; exact t50 k args m
  | false =>
  simp only [cond_false]; clear hc
  cases hc : Nat.beq f 51 with
  | true => simp only [cond_true]; rw [Nat.eq_of_beq_eq_true hc]; exact t51 k args m
  | false =>
  simp only [cond_false]; clear hc
  cases hc : Nat.beq f 52 with
  | true => simp only [cond_true]; rw [Nat.eq_of_beq_eq_true hc]; exact t52 k args m
  | false =>
  simp only [cond_false]; clear hc
  cases hc : Nat.beq f 53 with
  | true => simp only [cond_true]; rw [Nat.eq_of_beq_eq_true hc]; exact t53 k args m
  | false =>
  simp only [cond_false]; clear hc
  cases hc : Nat.beq f 54 with
  | true => simp only [cond_true]; rw [Nat.eq_of_beq_eq_true hc]; exact t54 k args m
  | false =>
  simp only [cond_false]; clear hc
  cases hc : Nat.beq f 55 with
  | true => simp only [cond_true]; rw [Nat.eq_of_beq_eq_true hc]; exact t55 k args m
  | false =>
  simp only [cond_false]; clear hc
  cases hc : Nat.beq f 56 with
  | true => simp only [cond_true]; rw [Nat.eq_of_beq_eq_true hc]; exact t56 k args m
  | false =>
  simp only [cond_false]; clear hc
  cases hc : Nat.beq f 57 with
  | true => simp only [cond_true]; rw [Nat.eq_of_beq_eq_true hc]; exact t57 k args m
  | false =>
  simp only [cond_false]; clear hc
  cases hc : Nat.beq f 58 with
  | true => simp only [cond_true]; rw [Nat.eq_of_beq_eq_true hc]; exact t58 k args m
  | false =>
  simp only [cond_false]; clear hc
  cases hc : Nat.beq f 59 with
  | true => simp only [cond_true]; rw [Nat.eq_of_beq_eq_true hc]; exact t59 k args m
  | false =>
  simp only [cond_false]; clear hc
  cases hc : Nat.beq f 60 with
  | true => simp only [cond_true]; rw [Nat.eq_of_beq_eq_true hc]; exact t60 k args m
  | false =>
  simp only [cond_false]; clear hc
  cases hc : Nat.beq f 61 with
  | true => simp only [cond_true]; rw [Nat.eq_of_beq_eq_true hc]; exact t61 k args m
  | false =>
  simp only [cond_false]; clear hc
  cases hc : Nat.beq f 62 with
  | true => simp only [cond_true]; rw [Nat.eq_of_beq_eq_true hc]; exact t62 k args m
  | false =>
  simp only [cond_false]; clear hc
  cases hc : Nat.beq f 63 with
  | true => simp only [cond_true]; rw [Nat.eq_of_beq_eq_true hc]; exact t63 k args m
  | false =>
  simp only [cond_false]; clear hc
  cases hc : Nat.beq f 64 with
  | true => simp only [cond_true]; rw [Nat.eq_of_beq_eq_true hc]; exact t64 k args m
  | false =>
  simp only [cond_false]; clear hc
  cases hc : Nat.beq f 65 with
  | true => simp only [cond_true]; rw [Nat.eq_of_beq_eq_true hc]; exact t65 k args m
  | false =>
  simp only [cond_false]; clear hc
  cases hc : Nat.beq f 66 with
  | true => simp only [cond_true]; rw [Nat.eq_of_beq_eq_true hc]; exact t66 k args m
  | false =>
  simp only [cond_false]; clear hc
  cases hc : Nat.beq f 67 with
  | true => simp only [cond_true]; rw [Nat.eq_of_beq_eq_true hc]; exact t67 k args m
  | false =>
  simp only [cond_false]; clear hc
  cases hc : Nat.beq f 68 with
  | true => simp only [cond_true]; rw [Nat.eq_of_beq_eq_true hc]; exact t68 k args m
  | false =>
  simp only [cond_false]; clear hc
  cases hc : Nat.beq f 69 with
  | true => simp only [cond_true]; rw [Nat.eq_of_beq_eq_true hc]; exact t69 k args m
  | false =>
  simp only [cond_false]; clear hc
  cases hc : Nat.beq f 70 with
  | true => simp only [cond_true]; rw [Nat.eq_of_beq_eq_true hc]; exact t70 k args m
  | false =>
  simp only [cond_false]; clear hc
  cases hc : Nat.beq f 71 with
  | true => simp only [cond_true]; rw [Nat.eq_of_beq_eq_true hc]; exact t71 k args m
  | false =>
  simp only [cond_false]; clear hc
  cases hc : Nat.beq f 72 with
  | true => simp only [cond_true]; rw [Nat.eq_of_beq_eq_true hc]; exact t72 k args m
  | false =>
  simp only [cond_false]; clear hc
  cases hc : Nat.beq f 73 with
  | true => simp only [cond_true]; rw [Nat.eq_of_beq_eq_true hc]; exact t73 k args m
  | false =>
  simp only [cond_false]; clear hc
  cases hc : Nat.beq f 74 with
  | true => simp only [cond_true]; rw [Nat.eq_of_beq_eq_true hc]; exact t74 k args m
  | false =>
  simp only [cond_false]; clear hc
  cases hc : Nat.beq f 75 with
  | true => simp only [cond_true]; rw [Nat.eq_of_beq_eq_true hc]; exact t75 k args m
  | false =>
  simp only [cond_false]; clear hc
  cases hc : Nat.beq f 76 with
  | true => simp only [cond_true]; rw [Nat.eq_of_beq_eq_true hc]; exact t76 k args m
  | false =>
  simp only [cond_false]; clear hc
  cases hc : Nat.beq f 77 with
  | true => simp only [cond_true]; rw [Nat.eq_of_beq_eq_true hc]; exact t77 k args m
  | false =>
  simp only [cond_false]; clear hc
  cases hc : Nat.beq f 78 with
  | true => simp only [cond_true]; rw [Nat.eq_of_beq_eq_true hc]; exact t78 k args m
  | false =>
  simp only [cond_false]; clear hc
  cases hc : Nat.beq f 79 with
  | true => simp only [cond_true]; rw [Nat.eq_of_beq_eq_true hc]; exact t79 k args m
  | false =>
  simp only [cond_false]; clear hc
  cases hc : Nat.beq f 80 with
  | true => simp only [cond_true]; rw [Nat.eq_of_beq_eq_true hc]; exact t80 k args m
  | false =>
  simp only [cond_false]; clear hc
  cases hc : Nat.beq f 81 with
  | true => simp only [cond_true]; rw [Nat.eq_of_beq_eq_true hc]; exact t81 k args m
  | false =>
  simp only [cond_false]; clear hc
  cases hc : Nat.beq f 82 with
  | true => simp only [cond_true]; rw [Nat.eq_of_beq_eq_true hc]; exact t82 k args m
  | false =>
  simp only [cond_false]; clear hc
  cases hc : Nat.beq f 83 with
  | true => simp only [cond_true]; rw [Nat.eq_of_beq_eq_true hc]; exact t83 k args m
  | false =>
  simp only [cond_false]; clear hc
  cases hc : Nat.beq f 84 with
  | true => simp only [cond_true]; rw [Nat.eq_of_beq_eq_true hc]; exact t84 k args m
  | false =>
  simp only [cond_false]; clear hc
  cases hc : Nat.beq f 85 with
  | true => simp only [cond_true]; rw [Nat.eq_of_beq_eq_true hc]; exact t85 k args m
  | false =>
  simp only [cond_false]; clear hc
  cases hc : Nat.beq f 86 with
  | true => simp only [cond_true]; rw [Nat.eq_of_beq_eq_true hc]; exact t86 k args m
  | false =>
  simp only [cond_false]; clear hc
  cases hc : Nat.beq f 87 with
  | true => simp only [cond_true]; rw [Nat.eq_of_beq_eq_true hc]; exact t87 k args m
  | false =>
  simp only [cond_false]; clear hc
  cases hc : Nat.beq f 88 with
  | true => simp only [cond_true]; rw [Nat.eq_of_beq_eq_true hc]; exact t88 k args m
  | false =>
  simp only [cond_false]; clear hc
  cases hc : Nat.beq f 89 with
  | true => simp only [cond_true]; rw [Nat.eq_of_beq_eq_true hc]; exact t89 k args m
  | false =>
  simp only [cond_false]; clear hc
  first | exact .inl fun _ _ => rfl | exact .inl fun _ _ => trivial

theorem lbl13_4_0 : loopOf Try.prog 13 4 = some (bodyOf Try.prog 13 4) := by kernel_rfl

theorem lbl22_4_0 : loopOf Try.prog 22 4 = some (bodyOf Try.prog 22 4) := by kernel_rfl

theorem lbl22_10_0 : loopOf Try.prog 22 10 = some (bodyOf Try.prog 22 10) := by kernel_rfl

theorem lbl23_2_0 : loopOf Try.prog 23 2 = some (bodyOf Try.prog 23 2) := by kernel_rfl

theorem lbl23_23_0 : loopOf Try.prog 23 23 = some (bodyOf Try.prog 23 23) := by kernel_rfl

theorem lbl26_4_0 : loopOf Try.prog 26 4 = some (bodyOf Try.prog 26 4) := by kernel_rfl

theorem lbl27_4_0 : loopOf Try.prog 27 4 = some (bodyOf Try.prog 27 4) := by kernel_rfl

theorem lbl29_9_0 : loopOf Try.prog 29 9 = some (bodyOf Try.prog 29 9) := by kernel_rfl

theorem lbl32_6_0 : loopOf Try.prog 32 6 = some (bodyOf Try.prog 32 6) := by kernel_rfl

theorem lbl33_4_0 : loopOf Try.prog 33 4 = some (bodyOf Try.prog 33 4) := by kernel_rfl

theorem lbl33_10_0 : loopOf Try.prog 33 10 = some (bodyOf Try.prog 33 10) := by kernel_rfl

theorem lbl35_4_0 : loopOf Try.prog 35 4 = some (bodyOf Try.prog 35 4) := by kernel_rfl

theorem lbl35_10_0 : loopOf Try.prog 35 10 = some (bodyOf Try.prog 35 10) := by kernel_rfl

theorem lbl36_2_0 : loopOf Try.prog 36 2 = some (bodyOf Try.prog 36 2) := by kernel_rfl

theorem lbl36_8_0 : loopOf Try.prog 36 8 = some (bodyOf Try.prog 36 8) := by kernel_rfl

theorem lbl37_6_0 : loopOf Try.prog 37 6 = some (bodyOf Try.prog 37 6) := by kernel_rfl

theorem lbl38_5_0 : loopOf Try.prog 38 5 = some (bodyOf Try.prog 38 5) := by kernel_rfl

theorem lbl39_4_0 : loopOf Try.prog 39 4 = some (bodyOf Try.prog 39 4) := by kernel_rfl

theorem lbl41_6_0 : loopOf Try.prog 41 6 = some (bodyOf Try.prog 41 6) := by kernel_rfl

theorem lbl43_7_0 : loopOf Try.prog 43 7 = some (bodyOf Try.prog 43 7) := by kernel_rfl

theorem lbl47_3_0 : loopOf Try.prog 47 3 = some (bodyOf Try.prog 47 3) := by kernel_rfl

theorem lbl48_18_0 : loopOf Try.prog 48 18 = some (bodyOf Try.prog 48 18) := by kernel_rfl

theorem lbl49_5_0 : loopOf Try.prog 49 5 = some (bodyOf Try.prog 49 5) := by kernel_rfl

theorem lbl50_4_0 : loopOf Try.prog 50 4 = some (bodyOf Try.prog 50 4) := by kernel_rfl

theorem lbl51_6_0 : loopOf Try.prog 51 6 = some (bodyOf Try.prog 51 6) := by kernel_rfl

theorem lbl52_6_0 : loopOf Try.prog 52 6 = some (bodyOf Try.prog 52 6) := by kernel_rfl

theorem lbl52_11_0 : loopOf Try.prog 52 11 = some (bodyOf Try.prog 52 11) := by kernel_rfl

theorem lbl55_3_0 : loopOf Try.prog 55 3 = some (bodyOf Try.prog 55 3) := by kernel_rfl

theorem lbl56_2_0 : loopOf Try.prog 56 2 = some (bodyOf Try.prog 56 2) := by kernel_rfl

theorem lbl61_6_0 : loopOf Try.prog 61 6 = some (bodyOf Try.prog 61 6) := by kernel_rfl

theorem lbl61_11_0 : loopOf Try.prog 61 11 = some (bodyOf Try.prog 61 11) := by kernel_rfl

theorem lbl74_17_0 : loopOf Try.prog 74 17 = some (bodyOf Try.prog 74 17) := by kernel_rfl

theorem lbl75_3_0 : loopOf Try.prog 75 3 = some (bodyOf Try.prog 75 3) := by kernel_rfl

theorem lbl75_3_1 : loopOf Try.prog 75 3 = some (bodyOf Try.prog 75 3) := by kernel_rfl

theorem lbl78_6_0 : loopOf Try.prog 78 6 = some (bodyOf Try.prog 78 6) := by kernel_rfl

theorem lbl79_6_0 : loopOf Try.prog 79 6 = some (bodyOf Try.prog 79 6) := by kernel_rfl

theorem lbl82_2_0 : loopOf Try.prog 82 2 = some (bodyOf Try.prog 82 2) := by kernel_rfl

theorem lbl82_2_1 : loopOf Try.prog 82 2 = some (bodyOf Try.prog 82 2) := by kernel_rfl

theorem lbl83_2_0 : loopOf Try.prog 83 2 = some (bodyOf Try.prog 83 2) := by kernel_rfl

theorem lbl84_3_0 : loopOf Try.prog 84 3 = some (bodyOf Try.prog 84 3) := by kernel_rfl

theorem lbl87_2_0 : loopOf Try.prog 87 2 = some (bodyOf Try.prog 87 2) := by kernel_rfl

theorem ul13_4_0 (k : Nat) (st : St sig) : (∀ ρ K, Rl13_4_0 (Tabs (k + 1)) ρ (seenV (PK 13 0 4 0) st) (seenM 0 (PK 13 0 4 0) st) st.dfs st.nt K = none) ∨ ∃ c, loopOf Try.prog 13 4 = some c ∧ ∀ ρ K, Rl13_4_0 (Tabs (k + 1)) ρ (seenV (PK 13 0 4 0) st) (seenM 0 (PK 13 0 4 0) st) st.dfs st.nt K = evK Try.prog lay (T (Tabs k)) (LT (Tabs k)) hints 13 0 c (parkE PK 13 0 4 .normal st) (loopNext (LT (Tabs k)) PK 13 0 4 K) := by
  rcases rl13_4_0 (seenV (PK 13 0 4 0) st) (seenM 0 (PK 13 0 4 0) st) st.dfs st.nt with h | ⟨a1, a2, a3, a4, a5, h1, h2, h3, h4⟩
  · exact .inl fun ρ K => h ..
  · refine .inr ⟨_, lbl13_4_0, fun ρ K => ?_⟩
    rw [show parkE PK 13 0 4 (.normal : Ex sig) st = canon ((PK 13 0 4 0).1.map (·.1)) (seenV (PK 13 0 4 0) st) (seenM 0 (PK 13 0 4 0) st) st.dfs st.nt from park_seen ..]
    rw [h1, h2, h3, h4]
    obtain ⟨a4_0, a4_1, a4_2, a4_3⟩ := a4; obtain ⟨a5_0, a5_1⟩ := a5; exact (gl13_4_0 (Tabs k) ρ K a1 a2 a3 ⟨a4_0, a4_1, a4_2, a4_3⟩ ⟨a5_0, a5_1⟩).symm

theorem ul22_4_0 (k : Nat) (st : St sig) : (∀ ρ K, Rl22_4_0 (Tabs (k + 1)) ρ (seenV (PK 22 0 4 0) st) (seenM 0 (PK 22 0 4 0) st) st.dfs st.nt K = none) ∨ ∃ c, loopOf Try.prog 22 4 = some c ∧ ∀ ρ K, Rl22_4_0 (Tabs (k + 1)) ρ (seenV (PK 22 0 4 0) st) (seenM 0 (PK 22 0 4 0) st) st.dfs st.nt K = evK Try.prog lay (T (Tabs k)) (LT (Tabs k)) hints 22 0 c (parkE PK 22 0 4 .normal st) (loopNext (LT (Tabs k)) PK 22 0 4 K) := by
  rcases rl22_4_0 (seenV (PK 22 0 4 0) st) (seenM 0 (PK 22 0 4 0) st) st.dfs st.nt with h | ⟨a1, a2, a3, a4, a5, a6, a7, a8, a9, a10, a11, h1, h2, h3, h4⟩
  · exact .inl fun ρ K => h ..
  · refine .inr ⟨_, lbl22_4_0, fun ρ K => ?_⟩
    rw [show parkE PK 22 0 4 (.normal : Ex sig) st = canon ((PK 22 0 4 0).1.map (·.1)) (seenV (PK 22 0 4 0) st) (seenM 0 (PK 22 0 4 0) st) st.dfs st.nt from park_seen ..]
    rw [h1, h2, h3, h4]
    exact (gl22_4_0 (Tabs k) ρ K a1 a2 a3 a4 a5 a6 a7 a8 a9 a10 a11).symm

theorem ul22_10_0 (k : Nat) (st : St sig) : (∀ ρ K, Rl22_10_0 (Tabs (k + 1)) ρ (seenV (PK 22 0 10 0) st) (seenM 0 (PK 22 0 10 0) st) st.dfs st.nt K = none) ∨ ∃ c, loopOf Try.prog 22 10 = some c ∧ ∀ ρ K, Rl22_10_0 (Tabs (k + 1)) ρ (seenV (PK 22 0 10 0) st) (seenM 0 (PK 22 0 10 0) st) st.dfs st.nt K = evK Try.prog lay (T (Tabs k)) (LT (Tabs k)) hints 22 0 c (parkE PK 22 0 10 .normal st) (loopNext (LT (Tabs k)) PK 22 0 10 K) := by
  rcases rl22_10_0 (seenV (PK 22 0 10 0) st) (seenM 0 (PK 22 0 10 0) st) st.dfs st.nt with h | ⟨a1, a2, a3, a4, a5, a6, a7, a8, a9, a10, a11, h1, h2, h3, h4⟩
  · exact .inl fun ρ K => h ..
  · refine .inr ⟨_, lbl22_10_0, fun ρ K => ?_⟩
    rw [show parkE PK 22 0 10 (.normal : Ex sig) st = canon ((PK 22 0 10 0).1.map (·.1)) (seenV (PK 22 0 10 0) st) (seenM 0 (PK 22 0 10 0) st) st.dfs st.nt from park_seen ..]
    rw [h1, h2, h3, h4]
    exact (gl22_10_0 (Tabs k) ρ K a1 a2 a3 a4 a5 a6 a7 a8 a9 a10 a11).symm

theorem ul23_2_0 (k : Nat) (st : St sig) : (∀ ρ K, Rl23_2_0 (Tabs (k + 1)) ρ (seenV (PK 23 0 2 0) st) (seenM 0 (PK 23 0 2 0) st) st.dfs st.nt K = none) ∨ ∃ c, loopOf Try.prog 23 2 = some c ∧ ∀ ρ K, Rl23_2_0 (Tabs (k + 1)) ρ (seenV (PK 23 0 2 0) st) (seenM 0 (PK 23 0 2 0) st) st.dfs st.nt K = evK Try.prog lay (T (Tabs k)) (LT (Tabs k)) hints 23 0 c (parkE PK 23 0 2 .normal st) (loopNext (LT (Tabs k)) PK 23 0 2 K) := by
  rcases rl23_2_0 (seenV (PK 23 0 2 0) st) (seenM 0 (PK 23 0 2 0) st) st.dfs st.nt with h | ⟨a1, a2, a3, a4, a5, a6, a7, h1, h2, h3, h4⟩
  · exact .inl fun ρ K => h ..
  · refine .inr ⟨_, lbl23_2_0, fun ρ K => ?_⟩
    rw [show parkE PK 23 0 2 (.normal : Ex sig) st = canon ((PK 23 0 2 0).1.map (·.1)) (seenV (PK 23 0 2 0) st) (seenM 0 (PK 23 0 2 0) st) st.dfs st.nt from park_seen ..]
    rw [h1, h2, h3, h4]
    obtain ⟨a6_0, a6_1, a6_2, a6_3⟩ := a6; obtain ⟨a7_0, a7_1⟩ := a7; exact (gl23_2_0 (Tabs k) ρ K a1 a2 a3 a4 a5 ⟨a6_0, a6_1, a6_2, a6_3⟩ ⟨a7_0, a7_1⟩).symm

theorem ul23_23_0 (k : Nat) (st : St sig) : (∀ ρ K, Rl23_23_0 (Tabs (k + 1)) ρ (seenV (PK 23 0 23 0) st) (seenM 0 (PK 23 0 23 0) st) st.dfs st.nt K = none) ∨ ∃ c, loopOf Try.prog 23 23 = some c ∧ ∀ ρ K, Rl23_23_0 (Tabs (k + 1)) ρ (seenV (PK 23 0 23 0) st) (seenM 0 (PK 23 0 23 0) st) st.dfs st.nt K = evK Try.prog lay (T (Tabs k)) (LT (Tabs k)) hints 23 0 c (parkE PK 23 0 23 .normal st) (loopNext (LT (Tabs k)) PK 23 0 23 K) := by
  rcases rl23_23_0 (seenV (PK 23 0 23 0) st) (seenM 0 (PK 23 0 23 0) st) st.dfs st.nt with h | ⟨a1, a2, a3, a4, a5, a6, a7, h1, h2, h3, h4⟩
  · exact .inl fun ρ K => h ..
  · refine .inr ⟨_, lbl23_23_0, fun ρ K => ?_⟩
    rw [show parkE PK 23 0 23 (.normal : Ex sig) st = canon ((PK 23 0 23 0).1.map (·.1)) (seenV (PK 23 0 23 0) st) (seenM 0 (PK 23 0 23 0) st) st.dfs st.nt from park_seen ..]
    rw [h1, h2, h3, h4]
    obtain ⟨a5_0, a5_1, a5_2, a5_3⟩ := a5; obtain ⟨a6_0, a6_1⟩ := a6; obtain ⟨a7_0, a7_1⟩ := a7; exact (gl23_23_0 (Tabs k) ρ K a1 a2 a3 a4 ⟨a5_0, a5_1, a5_2, a5_3⟩ ⟨a6_0, a6_1⟩ ⟨a7_0, a7_1⟩).symm

theorem ul26_4_0 (k : Nat) (st : St sig) : (∀ ρ K, Rl26_4_0 (Tabs (k + 1)) ρ (seenV (PK 26 0 4 0) st) (seenM 0 (PK 26 0 4 0) st) st.dfs st.nt K = none) ∨ ∃ c, loopOf Try.prog 26 4 = some c ∧ ∀ ρ K, Rl26_4_0 (Tabs (k + 1)) ρ (seenV (PK 26 0 4 0) st) (seenM 0 (PK 26 0 4 0) st) st.dfs st.nt K = evK Try.prog lay (T (Tabs k)) (LT (Tabs k)) hints 26 0 c (parkE PK 26 0 4 .normal st) (loopNext (LT (Tabs k)) PK 26 0 4 K) := by
  rcases rl26_4_0 (seenV (PK 26 0 4 0) st) (seenM 0 (PK 26 0 4 0) st) st.dfs st.nt with h | ⟨a1, a2, a3, h1, h2, h3, h4⟩
  · exact .inl fun ρ K => h ..
  · refine .inr ⟨_, lbl26_4_0, fun ρ K => ?_⟩
    rw [show parkE PK 26 0 4 (.normal : Ex sig) st = canon ((PK 26 0 4 0).1.map (·.1)) (seenV (PK 26 0 4 0) st) (seenM 0 (PK 26 0 4 0) st) st.dfs st.nt from park_seen ..]
    rw [h1, h2, h3, h4]
    obtain ⟨a2_0, a2_1, a2_2, a2_3⟩ := a2; obtain ⟨a3_0, a3_1, a3_2, a3_3⟩ := a3; exact (gl26_4_0 (Tabs k) ρ K a1 ⟨a2_0, a2_1, a2_2, a2_3⟩ ⟨a3_0, a3_1, a3_2, a3_3⟩).symm

theorem ul27_4_0 (k : Nat) (st : St sig) : (∀ ρ K, Rl27_4_0 (Tabs (k + 1)) ρ (seenV (PK 27 0 4 0) st) (seenM 0 (PK 27 0 4 0) st) st.dfs st.nt K = none) ∨ ∃ c, loopOf Try.prog 27 4 = some c ∧ ∀ ρ K, Rl27_4_0 (Tabs (k + 1)) ρ (seenV (PK 27 0 4 0) st) (seenM 0 (PK 27 0 4 0) st) st.dfs st.nt K = evK Try.prog lay (T (Tabs k)) (LT (Tabs k)) hints 27 0 c (parkE PK 27 0 4 .normal st) (loopNext (LT (Tabs k)) PK 27 0 4 K) := by
  rcases rl27_4_0 (seenV (PK 27 0 4 0) st) (seenM 0 (PK 27 0 4 0) st) st.dfs st.nt with h | ⟨a1, a2, a3, h1, h2, h3, h4⟩
  · exact .inl fun ρ K => h ..
  · refine .inr ⟨_, lbl27_4_0, fun ρ K => ?_⟩
    rw [show parkE PK 27 0 4 (.normal : Ex sig) st = canon ((PK 27 0 4 0).1.map (·.1)) (seenV (PK 27 0 4 0) st) (seenM 0 (PK 27 0 4 0) st) st.dfs st.nt from park_seen ..]
    rw [h1, h2, h3, h4]
    obtain ⟨a2_0, a2_1⟩ := a2; obtain ⟨a3_0, a3_1⟩ := a3; exact (gl27_4_0 (Tabs k) ρ K a1 ⟨a2_0, a2_1⟩ ⟨a3_0, a3_1⟩).symm

theorem ul29_9_0 (k : Nat) (st : St sig) : (∀ ρ K, Rl29_9_0 (Tabs (k + 1)) ρ (seenV (PK 29 0 9 0) st) (seenM 0 (PK 29 0 9 0) st) st.dfs st.nt K = none) ∨ ∃ c, loopOf Try.prog 29 9 = some c ∧ ∀ ρ K, Rl29_9_0 (Tabs (k + 1)) ρ (seenV (PK 29 0 9 0) st) (seenM 0 (PK 29 0 9 0) st) st.dfs st.nt K = evK Try.prog lay (T (Tabs k)) (LT (Tabs k)) hints 29 0 c (parkE PK 29 0 9 .normal st) (loopNext (LT (Tabs k)) PK 29 0 9 K) := by
  rcases rl29_9_0 (seenV (PK 29 0 9 0) st) (seenM 0 (PK 29 0 9 0) st) st.dfs st.nt with h | ⟨a1, a2, a3, a4, a5, a6, a7, a8, h1, h2, h3, h4⟩
  · exact .inl fun ρ K => h ..
  · refine .inr ⟨_, lbl29_9_0, fun ρ K => ?_⟩
    rw [show parkE PK 29 0 9 (.normal : Ex sig) st = canon ((PK 29 0 9 0).1.map (·.1)) (seenV (PK 29 0 9 0) st) (seenM 0 (PK 29 0 9 0) st) st.dfs st.nt from park_seen ..]
    rw [h1, h2, h3, h4]
    obtain ⟨a6_0, a6_1, a6_2, a6_3⟩ := a6; obtain ⟨a7_0, a7_1, a7_2, a7_3⟩ := a7; obtain ⟨a8_0, a8_1, a8_2, a8_3⟩ := a8; exact (gl29_9_0 (Tabs k) ρ K a1 a2 a3 a4 a5 ⟨a6_0, a6_1, a6_2, a6_3⟩ ⟨a7_0, a7_1, a7_2, a7_3⟩ ⟨a8_0, a8_1, a8_2, a8_3⟩).symm

theorem ul32_6_0 (k : Nat) (st : St sig) : (∀ ρ K, Rl32_6_0 (Tabs (k + 1)) ρ (seenV (PK 32 0 6 0) st) (seenM 0 (PK 32 0 6 0) st) st.dfs st.nt K = none) ∨ ∃ c, loopOf Try.prog 32 6 = some c ∧ ∀ ρ K, Rl32_6_0 (Tabs (k + 1)) ρ (seenV (PK 32 0 6 0) st) (seenM 0 (PK 32 0 6 0) st) st.dfs st.nt K = evK Try.prog lay (T (Tabs k)) (LT (Tabs k)) hints 32 0 c (parkE PK 32 0 6 .normal st) (loopNext (LT (Tabs k)) PK 32 0 6 K) := by
  rcases rl32_6_0 (seenV (PK 32 0 6 0) st) (seenM 0 (PK 32 0 6 0) st) st.dfs st.nt with h | ⟨a1, a2, a3, a4, a5, a6, a7, a8, a9, h1, h2, h3, h4⟩
  · exact .inl fun ρ K => h ..
  · refine .inr ⟨_, lbl32_6_0, fun ρ K => ?_⟩
    rw [show parkE PK 32 0 6 (.normal : Ex sig) st = canon ((PK 32 0 6 0).1.map (·.1)) (seenV (PK 32 0 6 0) st) (seenM 0 (PK 32 0 6 0) st) st.dfs st.nt from park_seen ..]
    rw [h1, h2, h3, h4]
    obtain ⟨a6_0, a6_1, a6_2, a6_3⟩ := a6; obtain ⟨a7_0, a7_1, a7_2, a7_3⟩ := a7; exact (gl32_6_0 (Tabs k) ρ K a1 a2 a3 a4 a5 ⟨a6_0, a6_1, a6_2, a6_3⟩ ⟨a7_0, a7_1, a7_2, a7_3⟩ a8 a9).symm

theorem ul33_4_0 (k : Nat) (st : St sig) : (∀ ρ K, Rl33_4_0 (Tabs (k + 1)) ρ (seenV (PK 33 0 4 0) st) (seenM 0 (PK 33 0 4 0) st) st.dfs st.nt K = none) ∨ ∃ c, loopOf Try.prog 33 4 = some c ∧ ∀ ρ K, Rl33_4_0 (Tabs (k + 1)) ρ (seenV (PK 33 0 4 0) st) (seenM 0 (PK 33 0 4 0) st) st.dfs st.nt K = evK Try.prog lay (T (Tabs k)) (LT (Tabs k)) hints 33 0 c (parkE PK 33 0 4 .normal st) (loopNext (LT (Tabs k)) PK 33 0 4 K) := by
  rcases rl33_4_0 (seenV (PK 33 0 4 0) st) (seenM 0 (PK 33 0 4 0) st) st.dfs st.nt with h | ⟨a1, a2, a3, a4, a5, h1, h2, h3, h4⟩
  · exact .inl fun ρ K => h ..
  · refine .inr ⟨_, lbl33_4_0, fun ρ K => ?_⟩
    rw [show parkE PK 33 0 4 (.normal : Ex sig) st = canon ((PK 33 0 4 0).1.map (·.1)) (seenV (PK 33 0 4 0) st) (seenM 0 (PK 33 0 4 0) st) st.dfs st.nt from park_seen ..]
    rw [h1, h2, h3, h4]
    obtain ⟨a4_0, a4_1, a4_2, a4_3⟩ := a4; obtain ⟨a5_0, a5_1, a5_2, a5_3⟩ := a5; exact (gl33_4_0 (Tabs k) ρ K a1 a2 a3 ⟨a4_0, a4_1, a4_2, a4_3⟩ ⟨a5_0, a5_1, a5_2, a5_3⟩).symm

theorem ul33_10_0 (k : Nat) (st : St sig) : (∀ ρ K, Rl33_10_0 (Tabs (k + 1)) ρ (seenV (PK 33 0 10 0) st) (seenM 0 (PK 33 0 10 0) st) st.dfs st.nt K = none) ∨ ∃ c, loopOf Try.prog 33 10 = some c ∧ ∀ ρ K, Rl33_10_0 (Tabs (k + 1)) ρ (seenV (PK 33 0 10 0) st) (seenM 0 (PK 33 0 10 0) st) st.dfs st.nt K = evK Try.prog lay (T (Tabs k)) (LT (Tabs k)) hints 33 0 c (parkE PK 33 0 10 .normal st) (loopNext (LT (Tabs k)) PK 33 0 10 K) := by
  rcases rl33_10_0 (seenV (PK 33 0 10 0) st) (seenM 0 (PK 33 0 10 0) st) st.dfs st.nt with h | ⟨a1, a2, a3, a4, a5, a6, h1, h2, h3, h4⟩
  · exact .inl fun ρ K => h ..
  · refine .inr ⟨_, lbl33_10_0, fun ρ K => ?_⟩
    rw [show parkE PK 33 0 10 (.normal : Ex sig) st = canon ((PK 33 0 10 0).1.map (·.1)) (seenV (PK 33 0 10 0) st) (seenM 0 (PK 33 0 10 0) st) st.dfs st.nt from park_seen ..]
    rw [h1, h2, h3, h4]
    obtain ⟨a4_0, a4_1, a4_2, a4_3⟩ := a4; obtain ⟨a5_0, a5_1, a5_2, a5_3⟩ := a5; exact (gl33_10_0 (Tabs k) ρ K a1 a2 a3 ⟨a4_0, a4_1, a4_2, a4_3⟩ ⟨a5_0, a5_1, a5_2, a5_3⟩ a6).symm

theorem ul35_4_0 (k : Nat) (st : St sig) : (∀ ρ K, Rl35_4_0 (Tabs (k + 1)) ρ (seenV (PK 35 0 4 0) st) (seenM 0 (PK 35 0 4 0) st) st.dfs st.nt K = none) ∨ ∃ c, loopOf Try.prog 35 4 = some c ∧ ∀ ρ K, Rl35_4_0 (Tabs (k + 1)) ρ (seenV (PK 35 0 4 0) st) (seenM 0 (PK 35 0 4 0) st) st.dfs st.nt K = evK Try.prog lay (T (Tabs k)) (LT (Tabs k)) hints 35 0 c (parkE PK 35 0 4 .normal st) (loopNext (LT (Tabs k)) PK 35 0 4 K) := by
  rcases rl35_4_0 (seenV (PK 35 0 4 0) st) (seenM 0 (PK 35 0 4 0) st) st.dfs st.nt with h | ⟨a1, a2, h1, h2, h3, h4⟩
  · exact .inl fun ρ K => h ..
  · refine .inr ⟨_, lbl35_4_0, fun ρ K => ?_⟩
    rw [show parkE PK 35 0 4 (.normal : Ex sig) st = canon ((PK 35 0 4 0).1.map (·.1)) (seenV (PK 35 0 4 0) st) (seenM 0 (PK 35 0 4 0) st) st.dfs st.nt from park_seen ..]
    rw [h1, h2, h3, h4]
    obtain ⟨a2_0, a2_1, a2_2, a2_3⟩ := a2; exact (gl35_4_0 (Tabs k) ρ K a1 ⟨a2_0, a2_1, a2_2, a2_3⟩).symm

theorem ul35_10_0 (k : Nat) (st : St sig) : (∀ ρ K, Rl35_10_0 (Tabs (k + 1)) ρ (seenV (PK 35 0 10 0) st) (seenM 0 (PK 35 0 10 0) st) st.dfs st.nt K = none) ∨ ∃ c, loopOf Try.prog 35 10 = some c ∧ ∀ ρ K, Rl35_10_0 (Tabs (k + 1)) ρ (seenV (PK 35 0 10 0) st) (seenM 0 (PK 35 0 10 0) st) st.dfs st.nt K = evK Try.prog lay (T (Tabs k)) (LT (Tabs k)) hints 35 0 c (parkE PK 35 0 10 .normal st) (loopNext (LT (Tabs k)) PK 35 0 10 K) := by
  rcases rl35_10_0 (seenV (PK 35 0 10 0) st) (seenM 0 (PK 35 0 10 0) st) st.dfs st.nt with h | ⟨a1, a2, a3, a4, a5, h1, h2, h3, h4⟩
  · exact .inl fun ρ K => h ..
  · refine .inr ⟨_, lbl35_10_0, fun ρ K => ?_⟩
    rw [show parkE PK 35 0 10 (.normal : Ex sig) st = canon ((PK 35 0 10 0).1.map (·.1)) (seenV (PK 35 0 10 0) st) (seenM 0 (PK 35 0 10 0) st) st.dfs st.nt from park_seen ..]
    rw [h1, h2, h3, h4]
    obtain ⟨a5_0, a5_1, a5_2, a5_3⟩ := a5; exact (gl35_10_0 (Tabs k) ρ K a1 a2 a3 a4 ⟨a5_0, a5_1, a5_2, a5_3⟩).symm

theorem ul36_2_0 (k : Nat) (st : St sig) : (∀ ρ K, Rl36_2_0 (Tabs (k + 1)) ρ (seenV (PK 36 0 2 0) st) (seenM 0 (PK 36 0 2 0) st) st.dfs st.nt K = none) ∨ ∃ c, loopOf Try.prog 36 2 = some c ∧ ∀ ρ K, Rl36_2_0 (Tabs (k + 1)) ρ (seenV (PK 36 0 2 0) st) (seenM 0 (PK 36 0 2 0) st) st.dfs st.nt K = evK Try.prog lay (T (Tabs k)) (LT (Tabs k)) hints 36 0 c (parkE PK 36 0 2 .normal st) (loopNext (LT (Tabs k)) PK 36 0 2 K) := by
  rcases rl36_2_0 (seenV (PK 36 0 2 0) st) (seenM 0 (PK 36 0 2 0) st) st.dfs st.nt with h | ⟨a1, a2, h1, h2, h3, h4⟩
  · exact .inl fun ρ K => h ..
  · refine .inr ⟨_, lbl36_2_0, fun ρ K => ?_⟩
    rw [show parkE PK 36 0 2 (.normal : Ex sig) st = canon ((PK 36 0 2 0).1.map (·.1)) (seenV (PK 36 0 2 0) st) (seenM 0 (PK 36 0 2 0) st) st.dfs st.nt from park_seen ..]
    rw [h1, h2, h3, h4]
    obtain ⟨a2_0, a2_1, a2_2, a2_3⟩ := a2; exact (gl36_2_0 (Tabs k) ρ K a1 ⟨a2_0, a2_1, a2_2, a2_3⟩).symm

theorem ul36_8_0 (k : Nat) (st : St sig) : (∀ ρ K, Rl36_8_0 (Tabs (k + 1)) ρ (seenV (PK 36 0 8 0) st) (seenM 0 (PK 36 0 8 0) st) st.dfs st.nt K = none) ∨ ∃ c, loopOf Try.prog 36 8 = some c ∧ ∀ ρ K, Rl36_8_0 (Tabs (k + 1)) ρ (seenV (PK 36 0 8 0) st) (seenM 0 (PK 36 0 8 0) st) st.dfs st.nt K = evK Try.prog lay (T (Tabs k)) (LT (Tabs k)) hints 36 0 c (parkE PK 36 0 8 .normal st) (loopNext (LT (Tabs k)) PK 36 0 8 K) := by
  rcases rl36_8_0 (seenV (PK 36 0 8 0) st) (seenM 0 (PK 36 0 8 0) st) st.dfs st.nt with h | ⟨a1, a2, a3, h1, h2, h3, h4⟩
  · exact .inl fun ρ K => h ..
  · refine .inr ⟨_, lbl36_8_0, fun ρ K => ?_⟩
    rw [show parkE PK 36 0 8 (.normal : Ex sig) st = canon ((PK 36 0 8 0).1.map (·.1)) (seenV (PK 36 0 8 0) st) (seenM 0 (PK 36 0 8 0) st) st.dfs st.nt from park_seen ..]
    rw [h1, h2, h3, h4]
    obtain ⟨a3_0, a3_1, a3_2, a3_3⟩ := a3; exact (gl36_8_0 (Tabs k) ρ K a1 a2 ⟨a3_0, a3_1, a3_2, a3_3⟩).symm

theorem ul37_6_0 (k : Nat) (st : St sig) : (∀ ρ K, Rl37_6_0 (Tabs (k + 1)) ρ (seenV (PK 37 0 6 0) st) (seenM 0 (PK 37 0 6 0) st) st.dfs st.nt K = none) ∨ ∃ c, loopOf Try.prog 37 6 = some c ∧ ∀ ρ K, Rl37_6_0 (Tabs (k + 1)) ρ (seenV (PK 37 0 6 0) st) (seenM 0 (PK 37 0 6 0) st) st.dfs st.nt K = evK Try.prog lay (T (Tabs k)) (LT (Tabs k)) hints 37 0 c (parkE PK 37 0 6 .normal st) (loopNext (LT (Tabs k)) PK 37 0 6 K) := by
  rcases rl37_6_0 (seenV (PK 37 0 6 0) st) (seenM 0 (PK 37 0 6 0) st) st.dfs st.nt with h | ⟨a1, a2, a3, a4, a5, a6, a7, h1, h2, h3, h4⟩
  · exact .inl fun ρ K => h ..
  · refine .inr ⟨_, lbl37_6_0, fun ρ K => ?_⟩
    rw [show parkE PK 37 0 6 (.normal : Ex sig) st = canon ((PK 37 0 6 0).1.map (·.1)) (seenV (PK 37 0 6 0) st) (seenM 0 (PK 37 0 6 0) st) st.dfs st.nt from park_seen ..]
    rw [h1, h2, h3, h4]
    obtain ⟨a4_0, a4_1, a4_2, a4_3⟩ := a4; obtain ⟨a5_0, a5_1, a5_2, a5_3⟩ := a5; exact (gl37_6_0 (Tabs k) ρ K a1 a2 a3 ⟨a4_0, a4_1, a4_2, a4_3⟩ ⟨a5_0, a5_1, a5_2, a5_3⟩ a6 a7).symm

theorem ul38_5_0 (k : Nat) (st : St sig) : (∀ ρ K, Rl38_5_0 (Tabs (k + 1)) ρ (seenV (PK 38 0 5 0) st) (seenM 0 (PK 38 0 5 0) st) st.dfs st.nt K = none) ∨ ∃ c, loopOf Try.prog 38 5 = some c ∧ ∀ ρ K, Rl38_5_0 (Tabs (k + 1)) ρ (seenV (PK 38 0 5 0) st) (seenM 0 (PK 38 0 5 0) st) st.dfs st.nt K = evK Try.prog lay (T (Tabs k)) (LT (Tabs k)) hints 38 0 c (parkE PK 38 0 5 .normal st) (loopNext (LT (Tabs k)) PK 38 0 5 K) := by
  rcases rl38_5_0 (seenV (PK 38 0 5 0) st) (seenM 0 (PK 38 0 5 0) st) st.dfs st.nt with h | ⟨a1, a2, a3, a4, a5, h1, h2, h3, h4⟩
  · exact .inl fun ρ K => h ..
  · refine .inr ⟨_, lbl38_5_0, fun ρ K => ?_⟩
    rw [show parkE PK 38 0 5 (.normal : Ex sig) st = canon ((PK 38 0 5 0).1.map (·.1)) (seenV (PK 38 0 5 0) st) (seenM 0 (PK 38 0 5 0) st) st.dfs st.nt from park_seen ..]
    rw [h1, h2, h3, h4]
    obtain ⟨a3_0, a3_1, a3_2, a3_3⟩ := a3; obtain ⟨a4_0, a4_1, a4_2, a4_3⟩ := a4; exact (gl38_5_0 (Tabs k) ρ K a1 a2 ⟨a3_0, a3_1, a3_2, a3_3⟩ ⟨a4_0, a4_1, a4_2, a4_3⟩ a5).symm

theorem ul39_4_0 (k : Nat) (st : St sig) : (∀ ρ K, Rl39_4_0 (Tabs (k + 1)) ρ (seenV (PK 39 0 4 0) st) (seenM 0 (PK 39 0 4 0) st) st.dfs st.nt K = none) ∨ ∃ c, loopOf Try.prog 39 4 = some c ∧ ∀ ρ K, Rl39_4_0 (Tabs (k + 1)) ρ (seenV (PK 39 0 4 0) st) (seenM 0 (PK 39 0 4 0) st) st.dfs st.nt K = evK Try.prog lay (T (Tabs k)) (LT (Tabs k)) hints 39 0 c (parkE PK 39 0 4 .normal st) (loopNext (LT (Tabs k)) PK 39 0 4 K) := by
  rcases rl39_4_0 (seenV (PK 39 0 4 0) st) (seenM 0 (PK 39 0 4 0) st) st.dfs st.nt with h | ⟨a1, a2, a3, a4, a5, h1, h2, h3, h4⟩
  · exact .inl fun ρ K => h ..
  · refine .inr ⟨_, lbl39_4_0, fun ρ K => ?_⟩
    rw [show parkE PK 39 0 4 (.normal : Ex sig) st = canon ((PK 39 0 4 0).1.map (·.1)) (seenV (PK 39 0 4 0) st) (seenM 0 (PK 39 0 4 0) st) st.dfs st.nt from park_seen ..]
    rw [h1, h2, h3, h4]
    exact (gl39_4_0 (Tabs k) ρ K a1 a2 a3 a4 a5).symm

theorem ul41_6_0 (k : Nat) (st : St sig) : (∀ ρ K, Rl41_6_0 (Tabs (k + 1)) ρ (seenV (PK 41 1 6 0) st) (seenM 1 (PK 41 1 6 0) st) st.dfs st.nt K = none) ∨ ∃ c, loopOf Try.prog 41 6 = some c ∧ ∀ ρ K, Rl41_6_0 (Tabs (k + 1)) ρ (seenV (PK 41 1 6 0) st) (seenM 1 (PK 41 1 6 0) st) st.dfs st.nt K = evK Try.prog lay (T (Tabs k)) (LT (Tabs k)) hints 41 1 c (parkE PK 41 1 6 .normal st) (loopNext (LT (Tabs k)) PK 41 1 6 K) := by
  rcases rl41_6_0 (seenV (PK 41 1 6 0) st) (seenM 1 (PK 41 1 6 0) st) st.dfs st.nt with h | ⟨a1, a2, a3, a4, a5, a6, a7, a8, a9, a10, h1, h2, h3, h4⟩
  · exact .inl fun ρ K => h ..
  · refine .inr ⟨_, lbl41_6_0, fun ρ K => ?_⟩
    rw [show parkE PK 41 1 6 (.normal : Ex sig) st = canon ((PK 41 1 6 0).1.map (·.1)) (seenV (PK 41 1 6 0) st) (seenM 1 (PK 41 1 6 0) st) st.dfs st.nt from park_seen ..]
    rw [h1, h2, h3, h4]
    obtain ⟨a6_0, a6_1, a6_2, a6_3⟩ := a6; obtain ⟨a7_0, a7_1, a7_2, a7_3⟩ := a7; obtain ⟨a8_0, a8_1⟩ := a8; obtain ⟨a9_0, a9_1, a9_2, a9_3⟩ := a9; obtain ⟨a10_0, a10_1, a10_2, a10_3⟩ := a10; exact (gl41_6_0 (Tabs k) ρ K a1 a2 a3 a4 a5 ⟨a6_0, a6_1, a6_2, a6_3⟩ ⟨a7_0, a7_1, a7_2, a7_3⟩ ⟨a8_0, a8_1⟩ ⟨a9_0, a9_1, a9_2, a9_3⟩ ⟨a10_0, a10_1, a10_2, a10_3⟩).symm

theorem ul43_7_0 (k : Nat) (st : St sig) : (∀ ρ K, Rl43_7_0 (Tabs (k + 1)) ρ (seenV (PK 43 1 7 0) st) (seenM 1 (PK 43 1 7 0) st) st.dfs st.nt K = none) ∨ ∃ c, loopOf Try.prog 43 7 = some c ∧ ∀ ρ K, Rl43_7_0 (Tabs (k + 1)) ρ (seenV (PK 43 1 7 0) st) (seenM 1 (PK 43 1 7 0) st) st.dfs st.nt K = evK Try.prog lay (T (Tabs k)) (LT (Tabs k)) hints 43 1 c (parkE PK 43 1 7 .normal st) (loopNext (LT (Tabs k)) PK 43 1 7 K) := by
  rcases rl43_7_0 (seenV (PK 43 1 7 0) st) (seenM 1 (PK 43 1 7 0) st) st.dfs st.nt with h | ⟨a1, a2, a3, a4, a5, a6, a7, a8, h1, h2, h3, h4⟩
  · exact .inl fun ρ K => h ..
  · refine .inr ⟨_, lbl43_7_0, fun ρ K => ?_⟩
    rw [show parkE PK 43 1 7 (.normal : Ex sig) st = canon ((PK 43 1 7 0).1.map (·.1)) (seenV (PK 43 1 7 0) st) (seenM 1 (PK 43 1 7 0) st) st.dfs st.nt from park_seen ..]
    rw [h1, h2, h3, h4]
    obtain ⟨a4_0, a4_1, a4_2, a4_3⟩ := a4; obtain ⟨a5_0, a5_1, a5_2, a5_3⟩ := a5; obtain ⟨a6_0, a6_1⟩ := a6; obtain ⟨a7_0, a7_1, a7_2, a7_3⟩ := a7; obtain ⟨a8_0, a8_1, a8_2, a8_3⟩ := a8; exact (gl43_7_0 (Tabs k) ρ K a1 a2 a3 ⟨a4_0, a4_1, a4_2, a4_3⟩ ⟨a5_0, a5_1, a5_2, a5_3⟩ ⟨a6_0, a6_1⟩ ⟨a7_0, a7_1, a7_2, a7_3⟩ ⟨a8_0, a8_1, a8_2, a8_3⟩).symm

theorem ul47_3_0 (k : Nat) (st : St sig) : (∀ ρ K, Rl47_3_0 (Tabs (k + 1)) ρ (seenV (PK 47 0 3 0) st) (seenM 0 (PK 47 0 3 0) st) st.dfs st.nt K = none) ∨ ∃ c, loopOf Try.prog 47 3 = some c ∧ ∀ ρ K, Rl47_3_0 (Tabs (k + 1)) ρ (seenV (PK 47 0 3 0) st) (seenM 0 (PK 47 0 3 0) st) st.dfs st.nt K = evK Try.prog lay (T (Tabs k)) (LT (Tabs k)) hints 47 0 c (parkE PK 47 0 3 .normal st) (loopNext (LT (Tabs k)) PK 47 0 3 K) := by
  rcases rl47_3_0 (seenV (PK 47 0 3 0) st) (seenM 0 (PK 47 0 3 0) st) st.dfs st.nt with h | ⟨a1, a2, a3, a4, h1, h2, h3, h4⟩
  · exact .inl fun ρ K => h ..
  · refine .inr ⟨_, lbl47_3_0, fun ρ K => ?_⟩
    rw [show parkE PK 47 0 3 (.normal : Ex sig) st = canon ((PK 47 0 3 0).1.map (·.1)) (seenV (PK 47 0 3 0) st) (seenM 0 (PK 47 0 3 0) st) st.dfs st.nt from park_seen ..]
    rw [h1, h2, h3, h4]
    obtain ⟨a4_0, a4_1, a4_2, a4_3⟩ := a4; exact (gl47_3_0 (Tabs k) ρ K a1 a2 a3 ⟨a4_0, a4_1, a4_2, a4_3⟩).symm

theorem ul48_18_0 (k : Nat) (st : St sig) : (∀ ρ K, Rl48_18_0 (Tabs (k + 1)) ρ (seenV (PK 48 0 18 0) st) (seenM 0 (PK 48 0 18 0) st) st.dfs st.nt K = none) ∨ ∃ c, loopOf Try.prog 48 18 = some c ∧ ∀ ρ K, Rl48_18_0 (Tabs (k + 1)) ρ (seenV (PK 48 0 18 0) st) (seenM 0 (PK 48 0 18 0) st) st.dfs st.nt K = evK Try.prog lay (T (Tabs k)) (LT (Tabs k)) hints 48 0 c (parkE PK 48 0 18 .normal st) (loopNext (LT (Tabs k)) PK 48 0 18 K) := by
  rcases rl48_18_0 (seenV (PK 48 0 18 0) st) (seenM 0 (PK 48 0 18 0) st) st.dfs st.nt with h | ⟨a1, a2, a3, h1, h2, h3, h4⟩
  · exact .inl fun ρ K => h ..
  · refine .inr ⟨_, lbl48_18_0, fun ρ K => ?_⟩
    rw [show parkE PK 48 0 18 (.normal : Ex sig) st = canon ((PK 48 0 18 0).1.map (·.1)) (seenV (PK 48 0 18 0) st) (seenM 0 (PK 48 0 18 0) st) st.dfs st.nt from park_seen ..]
    rw [h1, h2, h3, h4]
    obtain ⟨a3_0, a3_1, a3_2, a3_3⟩ := a3; exact (gl48_18_0 (Tabs k) ρ K a1 a2 ⟨a3_0, a3_1, a3_2, a3_3⟩).symm

theorem ul49_5_0 (k : Nat) (st : St sig) : (∀ ρ K, Rl49_5_0 (Tabs (k + 1)) ρ (seenV (PK 49 0 5 0) st) (seenM 0 (PK 49 0 5 0) st) st.dfs st.nt K = none) ∨ ∃ c, loopOf Try.prog 49 5 = some c ∧ ∀ ρ K, Rl49_5_0 (Tabs (k + 1)) ρ (seenV (PK 49 0 5 0) st) (seenM 0 (PK 49 0 5 0) st) st.dfs st.nt K = evK Try.prog lay (T (Tabs k)) (LT (Tabs k)) hints 49 0 c (parkE PK 49 0 5 .normal st) (loopNext (LT (Tabs k)) PK 49 0 5 K) := by
  rcases rl49_5_0 (seenV (PK 49 0 5 0) st) (seenM 0 (PK 49 0 5 0) st) st.dfs st.nt with h | ⟨a1, a2, a3, a4, h1, h2, h3, h4⟩
  · exact .inl fun ρ K => h ..
  · refine .inr ⟨_, lbl49_5_0, fun ρ K => ?_⟩
    rw [show parkE PK 49 0 5 (.normal : Ex sig) st = canon ((PK 49 0 5 0).1.map (·.1)) (seenV (PK 49 0 5 0) st) (seenM 0 (PK 49 0 5 0) st) st.dfs st.nt from park_seen ..]
    rw [h1, h2, h3, h4]
    obtain ⟨a4_0, a4_1⟩ := a4; exact (gl49_5_0 (Tabs k) ρ K a1 a2 a3 ⟨a4_0, a4_1⟩).symm

theorem ul50_4_0 (k : Nat) (st : St sig) : (∀ ρ K, Rl50_4_0 (Tabs (k + 1)) ρ (seenV (PK 50 0 4 0) st) (seenM 0 (PK 50 0 4 0) st) st.dfs st.nt K = none) ∨ ∃ c, loopOf Try.prog 50 4 = some c ∧ ∀ ρ K, Rl50_4_0 (Tabs (k + 1)) ρ (seenV (PK 50 0 4 0) st) (seenM 0 (PK 50 0 4 0) st) st.dfs st.nt K = evK Try.prog lay (T (Tabs k)) (LT (Tabs k)) hints 50 0 c (parkE PK 50 0 4 .normal st) (loopNext (LT (Tabs k)) PK 50 0 4 K) := by
  rcases rl50_4_0 (seenV (PK 50 0 4 0) st) (seenM 0 (PK 50 0 4 0) st) st.dfs st.nt with h | ⟨a1, a2, a3, a4, h1, h2, h3, h4⟩
  · exact .inl fun ρ K => h ..
  · refine .inr ⟨_, lbl50_4_0, fun ρ K => ?_⟩
    rw [show parkE PK 50 0 4 (.normal : Ex sig) st = canon ((PK 50 0 4 0).1.map (·.1)) (seenV (PK 50 0 4 0) st) (seenM 0 (PK 50 0 4 0) st) st.dfs st.nt from park_seen ..]
    rw [h1, h2, h3, h4]
    obtain ⟨a4_0, a4_1, a4_2, a4_3⟩ := a4; exact (gl50_4_0 (Tabs k) ρ K a1 a2 a3 ⟨a4_0, a4_1, a4_2, a4_3⟩).symm

theorem ul51_6_0 (k : Nat) (st : St sig) : (∀ ρ K, Rl51_6_0 (Tabs (k + 1)) ρ (seenV (PK 51 0 6 0) st) (seenM 0 (PK 51 0 6 0) st) st.dfs st.nt K = none) ∨ ∃ c, loopOf Try.prog 51 6 = some c ∧ ∀ ρ K, Rl51_6_0 (Tabs (k + 1)) ρ (seenV (PK 51 0 6 0) st) (seenM 0 (PK 51 0 6 0) st) st.dfs st.nt K = evK Try.prog lay (T (Tabs k)) (LT (Tabs k)) hints 51 0 c (parkE PK 51 0 6 .normal st) (loopNext (LT (Tabs k)) PK 51 0 6 K) := by
  rcases rl51_6_0 (seenV (PK 51 0 6 0) st) (seenM 0 (PK 51 0 6 0) st) st.dfs st.nt with h | ⟨a1, a2, a3, a4, a5, a6, h1, h2, h3, h4⟩
  · exact .inl fun ρ K => h ..
  · refine .inr ⟨_, lbl51_6_0, fun ρ K => ?_⟩
    rw [show parkE PK 51 0 6 (.normal : Ex sig) st = canon ((PK 51 0 6 0).1.map (·.1)) (seenV (PK 51 0 6 0) st) (seenM 0 (PK 51 0 6 0) st) st.dfs st.nt from park_seen ..]
    rw [h1, h2, h3, h4]
    obtain ⟨a4_0, a4_1, a4_2, a4_3⟩ := a4; obtain ⟨a5_0, a5_1, a5_2, a5_3⟩ := a5; obtain ⟨a6_0, a6_1, a6_2, a6_3⟩ := a6; exact (gl51_6_0 (Tabs k) ρ K a1 a2 a3 ⟨a4_0, a4_1, a4_2, a4_3⟩ ⟨a5_0, a5_1, a5_2, a5_3⟩ ⟨a6_0, a6_1, a6_2, a6_3⟩).symm

theorem ul52_6_0 (k : Nat) (st : St sig) : (∀ ρ K, Rl52_6_0 (Tabs (k + 1)) ρ (seenV (PK 52 0 6 0) st) (seenM 0 (PK 52 0 6 0) st) st.dfs st.nt K = none) ∨ ∃ c, loopOf Try.prog 52 6 = some c ∧ ∀ ρ K, Rl52_6_0 (Tabs (k + 1)) ρ (seenV (PK 52 0 6 0) st) (seenM 0 (PK 52 0 6 0) st) st.dfs st.nt K = evK Try.prog lay (T (Tabs k)) (LT (Tabs k)) hints 52 0 c (parkE PK 52 0 6 .normal st) (loopNext (LT (Tabs k)) PK 52 0 6 K) := by
  rcases rl52_6_0 (seenV (PK 52 0 6 0) st) (seenM 0 (PK 52 0 6 0) st) st.dfs st.nt with h | ⟨a1, a2, a3, a4, a5, a6, a7, h1, h2, h3, h4⟩
  · exact .inl fun ρ K => h ..
  · refine .inr ⟨_, lbl52_6_0, fun ρ K => ?_⟩
    rw [show parkE PK 52 0 6 (.normal : Ex sig) st = canon ((PK 52 0 6 0).1.map (·.1)) (seenV (PK 52 0 6 0) st) (seenM 0 (PK 52 0 6 0) st) st.dfs st.nt from park_seen ..]
    rw [h1, h2, h3, h4]
    obtain ⟨a5_0, a5_1⟩ := a5; obtain ⟨a6_0, a6_1, a6_2, a6_3⟩ := a6; obtain ⟨a7_0, a7_1, a7_2, a7_3⟩ := a7; exact (gl52_6_0 (Tabs k) ρ K a1 a2 a3 a4 ⟨a5_0, a5_1⟩ ⟨a6_0, a6_1, a6_2, a6_3⟩ ⟨a7_0, a7_1, a7_2, a7_3⟩).symm

theorem ul52_11_0 (k : Nat) (st : St sig) : (∀ ρ K, Rl52_11_0 (Tabs (k + 1)) ρ (seenV (PK 52 0 11 0) st) (seenM 0 (PK 52 0 11 0) st) st.dfs st.nt K = none) ∨ ∃ c, loopOf Try.prog 52 11 = some c ∧ ∀ ρ K, Rl52_11_0 (Tabs (k + 1)) ρ (seenV (PK 52 0 11 0) st) (seenM 0 (PK 52 0 11 0) st) st.dfs st.nt K = evK Try.prog lay (T (Tabs k)) (LT (Tabs k)) hints 52 0 c (parkE PK 52 0 11 .normal st) (loopNext (LT (Tabs k)) PK 52 0 11 K) := by
  rcases rl52_11_0 (seenV (PK 52 0 11 0) st) (seenM 0 (PK 52 0 11 0) st) st.dfs st.nt with h | ⟨a1, a2, a3, a4, a5, h1, h2, h3, h4⟩
  · exact .inl fun ρ K => h ..
  · refine .inr ⟨_, lbl52_11_0, fun ρ K => ?_⟩
    rw [show parkE PK 52 0 11 (.normal : Ex sig) st = canon ((PK 52 0 11 0).1.map (·.1)) (seenV (PK 52 0 11 0) st) (seenM 0 (PK 52 0 11 0) st) st.dfs st.nt from park_seen ..]
    rw [h1, h2, h3, h4]
    obtain ⟨a3_0, a3_1⟩ := a3; obtain ⟨a4_0, a4_1, a4_2, a4_3⟩ := a4; obtain ⟨a5_0, a5_1, a5_2, a5_3⟩ := a5; exact (gl52_11_0 (Tabs k) ρ K a1 a2 ⟨a3_0, a3_1⟩ ⟨a4_0, a4_1, a4_2, a4_3⟩ ⟨a5_0, a5_1, a5_2, a5_3⟩).symm

theorem ul55_3_0 (k : Nat) (st : St sig) : (∀ ρ K, Rl55_3_0 (Tabs (k + 1)) ρ (seenV (PK 55 1 3 0) st) (seenM 1 (PK 55 1 3 0) st) st.dfs st.nt K = none) ∨ ∃ c, loopOf Try.prog 55 3 = some c ∧ ∀ ρ K, Rl55_3_0 (Tabs (k + 1)) ρ (seenV (PK 55 1 3 0) st) (seenM 1 (PK 55 1 3 0) st) st.dfs st.nt K = evK Try.prog lay (T (Tabs k)) (LT (Tabs k)) hints 55 1 c (parkE PK 55 1 3 .normal st) (loopNext (LT (Tabs k)) PK 55 1 3 K) := by
  rcases rl55_3_0 (seenV (PK 55 1 3 0) st) (seenM 1 (PK 55 1 3 0) st) st.dfs st.nt with h | ⟨a1, a2, a3, a4, a5, a6, a7, h1, h2, h3, h4⟩
  · exact .inl fun ρ K => h ..
  · refine .inr ⟨_, lbl55_3_0, fun ρ K => ?_⟩
    rw [show parkE PK 55 1 3 (.normal : Ex sig) st = canon ((PK 55 1 3 0).1.map (·.1)) (seenV (PK 55 1 3 0) st) (seenM 1 (PK 55 1 3 0) st) st.dfs st.nt from park_seen ..]
    rw [h1, h2, h3, h4]
    obtain ⟨a5_0, a5_1, a5_2, a5_3⟩ := a5; obtain ⟨a6_0, a6_1⟩ := a6; obtain ⟨a7_0, a7_1, a7_2, a7_3⟩ := a7; exact (gl55_3_0 (Tabs k) ρ K a1 a2 a3 a4 ⟨a5_0, a5_1, a5_2, a5_3⟩ ⟨a6_0, a6_1⟩ ⟨a7_0, a7_1, a7_2, a7_3⟩).symm

theorem ul56_2_0 (k : Nat) (st : St sig) : (∀ ρ K, Rl56_2_0 (Tabs (k + 1)) ρ (seenV (PK 56 0 2 0) st) (seenM 0 (PK 56 0 2 0) st) st.dfs st.nt K = none) ∨ ∃ c, loopOf Try.prog 56 2 = some c ∧ ∀ ρ K, Rl56_2_0 (Tabs (k + 1)) ρ (seenV (PK 56 0 2 0) st) (seenM 0 (PK 56 0 2 0) st) st.dfs st.nt K = evK Try.prog lay (T (Tabs k)) (LT (Tabs k)) hints 56 0 c (parkE PK 56 0 2 .normal st) (loopNext (LT (Tabs k)) PK 56 0 2 K) := by
  rcases rl56_2_0 (seenV (PK 56 0 2 0) st) (seenM 0 (PK 56 0 2 0) st) st.dfs st.nt with h | ⟨a1, a2, h1, h2, h3, h4⟩
  · exact .inl fun ρ K => h ..
  · refine .inr ⟨_, lbl56_2_0, fun ρ K => ?_⟩
    rw [show parkE PK 56 0 2 (.normal : Ex sig) st = canon ((PK 56 0 2 0).1.map (·.1)) (seenV (PK 56 0 2 0) st) (seenM 0 (PK 56 0 2 0) st) st.dfs st.nt from park_seen ..]
    rw [h1, h2, h3, h4]
    exact (gl56_2_0 (Tabs k) ρ K a1 a2).symm

theorem ul61_6_0 (k : Nat) (st : St sig) : (∀ ρ K, Rl61_6_0 (Tabs (k + 1)) ρ (seenV (PK 61 0 6 0) st) (seenM 0 (PK 61 0 6 0) st) st.dfs st.nt K = none) ∨ ∃ c, loopOf Try.prog 61 6 = some c ∧ ∀ ρ K, Rl61_6_0 (Tabs (k + 1)) ρ (seenV (PK 61 0 6 0) st) (seenM 0 (PK 61 0 6 0) st) st.dfs st.nt K = evK Try.prog lay (T (Tabs k)) (LT (Tabs k)) hints 61 0 c (parkE PK 61 0 6 .normal st) (loopNext (LT (Tabs k)) PK 61 0 6 K) := by
  rcases rl61_6_0 (seenV (PK 61 0 6 0) st) (seenM 0 (PK 61 0 6 0) st) st.dfs st.nt with h | ⟨a1, a2, a3, a4, a5, h1, h2, h3, h4⟩
  · exact .inl fun ρ K => h ..
  · refine .inr ⟨_, lbl61_6_0, fun ρ K => ?_⟩
    rw [show parkE PK 61 0 6 (.normal : Ex sig) st = canon ((PK 61 0 6 0).1.map (·.1)) (seenV (PK 61 0 6 0) st) (seenM 0 (PK 61 0 6 0) st) st.dfs st.nt from park_seen ..]
    rw [h1, h2, h3, h4]
    obtain ⟨a3_0, a3_1⟩ := a3; obtain ⟨a4_0, a4_1, a4_2, a4_3⟩ := a4; obtain ⟨a5_0, a5_1, a5_2, a5_3⟩ := a5; exact (gl61_6_0 (Tabs k) ρ K a1 a2 ⟨a3_0, a3_1⟩ ⟨a4_0, a4_1, a4_2, a4_3⟩ ⟨a5_0, a5_1, a5_2, a5_3⟩).symm

theorem ul61_11_0 (k : Nat) (st : St sig) : (∀ ρ K, Rl61_11_0 (Tabs (k + 1)) ρ (seenV (PK 61 0 11 0) st) (seenM 0 (PK 61 0 11 0) st) st.dfs st.nt K = none) ∨ ∃ c, loopOf Try.prog 61 11 = some c ∧ ∀ ρ K, Rl61_11_0 (Tabs (k + 1)) ρ (seenV (PK 61 0 11 0) st) (seenM 0 (PK 61 0 11 0) st) st.dfs st.nt K = evK Try.prog lay (T (Tabs k)) (LT (Tabs k)) hints 61 0 c (parkE PK 61 0 11 .normal st) (loopNext (LT (Tabs k)) PK 61 0 11 K) := by
  rcases rl61_11_0 (seenV (PK 61 0 11 0) st) (seenM 0 (PK 61 0 11 0) st) st.dfs st.nt with h | ⟨a1, a2, a3, a4, a5, h1, h2, h3, h4⟩
  · exact .inl fun ρ K => h ..
  · refine .inr ⟨_, lbl61_11_0, fun ρ K => ?_⟩
    rw [show parkE PK 61 0 11 (.normal : Ex sig) st = canon ((PK 61 0 11 0).1.map (·.1)) (seenV (PK 61 0 11 0) st) (seenM 0 (PK 61 0 11 0) st) st.dfs st.nt from park_seen ..]
    rw [h1, h2, h3, h4]
    obtain ⟨a3_0, a3_1⟩ := a3; obtain ⟨a4_0, a4_1, a4_2, a4_3⟩ := a4; obtain ⟨a5_0, a5_1, a5_2, a5_3⟩ := a5; exact (gl61_11_0 (Tabs k) ρ K a1 a2 ⟨a3_0, a3_1⟩ ⟨a4_0, a4_1, a4_2, a4_3⟩ ⟨a5_0, a5_1, a5_2, a5_3⟩).symm

theorem ul74_17_0 (k : Nat) (st : St sig) : (∀ ρ K, Rl74_17_0 (Tabs (k + 1)) ρ (seenV (PK 74 1 17 0) st) (seenM 1 (PK 74 1 17 0) st) st.dfs st.nt K = none) ∨ ∃ c, loopOf Try.prog 74 17 = some c ∧ ∀ ρ K, Rl74_17_0 (Tabs (k + 1)) ρ (seenV (PK 74 1 17 0) st) (seenM 1 (PK 74 1 17 0) st) st.dfs st.nt K = evK Try.prog lay (T (Tabs k)) (LT (Tabs k)) hints 74 1 c (parkE PK 74 1 17 .normal st) (loopNext (LT (Tabs k)) PK 74 1 17 K) := by
  rcases rl74_17_0 (seenV (PK 74 1 17 0) st) (seenM 1 (PK 74 1 17 0) st) st.dfs st.nt with h | ⟨a1, a2, a3, a4, a5, a6, h1, h2, h3, h4⟩
  · exact .inl fun ρ K => h ..
  · refine .inr ⟨_, lbl74_17_0, fun ρ K => ?_⟩
    rw [show parkE PK 74 1 17 (.normal : Ex sig) st = canon ((PK 74 1 17 0).1.map (·.1)) (seenV (PK 74 1 17 0) st) (seenM 1 (PK 74 1 17 0) st) st.dfs st.nt from park_seen ..]
    rw [h1, h2, h3, h4]
    obtain ⟨a6_0, a6_1, a6_2, a6_3⟩ := a6; exact (gl74_17_0 (Tabs k) ρ K a1 a2 a3 a4 a5 ⟨a6_0, a6_1, a6_2, a6_3⟩).symm

theorem ul75_3_0 (k : Nat) (st : St sig) : (∀ ρ K, Rl75_3_0 (Tabs (k + 1)) ρ (seenV (PK 75 0 3 0) st) (seenM 0 (PK 75 0 3 0) st) st.dfs st.nt K = none) ∨ ∃ c, loopOf Try.prog 75 3 = some c ∧ ∀ ρ K, Rl75_3_0 (Tabs (k + 1)) ρ (seenV (PK 75 0 3 0) st) (seenM 0 (PK 75 0 3 0) st) st.dfs st.nt K = evK Try.prog lay (T (Tabs k)) (LT (Tabs k)) hints 75 0 c (parkE PK 75 0 3 .normal st) (loopNext (LT (Tabs k)) PK 75 0 3 K) := by
  rcases rl75_3_0 (seenV (PK 75 0 3 0) st) (seenM 0 (PK 75 0 3 0) st) st.dfs st.nt with h | ⟨a1, a2, a3, a4, a5, a6, a7, h1, h2, h3, h4⟩
  · exact .inl fun ρ K => h ..
  · refine .inr ⟨_, lbl75_3_0, fun ρ K => ?_⟩
    rw [show parkE PK 75 0 3 (.normal : Ex sig) st = canon ((PK 75 0 3 0).1.map (·.1)) (seenV (PK 75 0 3 0) st) (seenM 0 (PK 75 0 3 0) st) st.dfs st.nt from park_seen ..]
    rw [h1, h2, h3, h4]
    obtain ⟨a5_0, a5_1, a5_2, a5_3⟩ := a5; obtain ⟨a6_0, a6_1, a6_2, a6_3⟩ := a6; obtain ⟨a7_0, a7_1, a7_2, a7_3⟩ := a7; exact (gl75_3_0 (Tabs k) ρ K a1 a2 a3 a4 ⟨a5_0, a5_1, a5_2, a5_3⟩ ⟨a6_0, a6_1, a6_2, a6_3⟩ ⟨a7_0, a7_1, a7_2, a7_3⟩).symm

theorem ul75_3_1 (k : Nat) (st : St sig) : (∀ ρ K, Rl75_3_1 (Tabs (k + 1)) ρ (seenV (PK 75 2 3 0) st) (seenM 2 (PK 75 2 3 0) st) st.dfs st.nt K = none) ∨ ∃ c, loopOf Try.prog 75 3 = some c ∧ ∀ ρ K, Rl75_3_1 (Tabs (k + 1)) ρ (seenV (PK 75 2 3 0) st) (seenM 2 (PK 75 2 3 0) st) st.dfs st.nt K = evK Try.prog lay (T (Tabs k)) (LT (Tabs k)) hints 75 2 c (parkE PK 75 2 3 .normal st) (loopNext (LT (Tabs k)) PK 75 2 3 K) := by
  rcases rl75_3_1 (seenV (PK 75 2 3 0) st) (seenM 2 (PK 75 2 3 0) st) st.dfs st.nt with h | ⟨a1, a2, a3, a4, a5, a6, a7, a8, a9, h1, h2, h3, h4⟩
  · exact .inl fun ρ K => h ..
  · refine .inr ⟨_, lbl75_3_1, fun ρ K => ?_⟩
    rw [show parkE PK 75 2 3 (.normal : Ex sig) st = canon ((PK 75 2 3 0).1.map (·.1)) (seenV (PK 75 2 3 0) st) (seenM 2 (PK 75 2 3 0) st) st.dfs st.nt from park_seen ..]
    rw [h1, h2, h3, h4]
    obtain ⟨a7_0, a7_1, a7_2, a7_3⟩ := a7; obtain ⟨a8_0, a8_1, a8_2, a8_3⟩ := a8; obtain ⟨a9_0, a9_1, a9_2, a9_3⟩ := a9; exact (gl75_3_1 (Tabs k) ρ K a1 a2 a3 a4 a5 a6 ⟨a7_0, a7_1, a7_2, a7_3⟩ ⟨a8_0, a8_1, a8_2, a8_3⟩ ⟨a9_0, a9_1, a9_2, a9_3⟩).symm

theorem ul78_6_0 (k : Nat) (st : St sig) : (∀ ρ K, Rl78_6_0 (Tabs (k + 1)) ρ (seenV (PK 78 0 6 0) st) (seenM 0 (PK 78 0 6 0) st) st.dfs st.nt K = none) ∨ ∃ c, loopOf Try.prog 78 6 = some c ∧ ∀ ρ K, Rl78_6_0 (Tabs (k + 1)) ρ (seenV (PK 78 0 6 0) st) (seenM 0 (PK 78 0 6 0) st) st.dfs st.nt K = evK Try.prog lay (T (Tabs k)) (LT (Tabs k)) hints 78 0 c (parkE PK 78 0 6 .normal st) (loopNext (LT (Tabs k)) PK 78 0 6 K) := by
  rcases rl78_6_0 (seenV (PK 78 0 6 0) st) (seenM 0 (PK 78 0 6 0) st) st.dfs st.nt with h | ⟨a1, a2, a3, a4, a5, a6, h1, h2, h3, h4⟩
  · exact .inl fun ρ K => h ..
  · refine .inr ⟨_, lbl78_6_0, fun ρ K => ?_⟩
    rw [show parkE PK 78 0 6 (.normal : Ex sig) st = canon ((PK 78 0 6 0).1.map (·.1)) (seenV (PK 78 0 6 0) st) (seenM 0 (PK 78 0 6 0) st) st.dfs st.nt from park_seen ..]
    rw [h1, h2, h3, h4]
    obtain ⟨a4_0, a4_1, a4_2, a4_3⟩ := a4; obtain ⟨a5_0, a5_1, a5_2, a5_3⟩ := a5; obtain ⟨a6_0, a6_1, a6_2, a6_3⟩ := a6; exact (gl78_6_0 (Tabs k) ρ K a1 a2 a3 ⟨a4_0, a4_1, a4_2, a4_3⟩ ⟨a5_0, a5_1, a5_2, a5_3⟩ ⟨a6_0, a6_1, a6_2, a6_3⟩).symm

theorem ul79_6_0 (k : Nat) (st : St sig) : (∀ ρ K, Rl79_6_0 (Tabs (k + 1)) ρ (seenV (PK 79 0 6 0) st) (seenM 0 (PK 79 0 6 0) st) st.dfs st.nt K = none) ∨ ∃ c, loopOf Try.prog 79 6 = some c ∧ ∀ ρ K, Rl79_6_0 (Tabs (k + 1)) ρ (seenV (PK 79 0 6 0) st) (seenM 0 (PK 79 0 6 0) st) st.dfs st.nt K = evK Try.prog lay (T (Tabs k)) (LT (Tabs k)) hints 79 0 c (parkE PK 79 0 6 .normal st) (loopNext (LT (Tabs k)) PK 79 0 6 K) := by
  rcases rl79_6_0 (seenV (PK 79 0 6 0) st) (seenM 0 (PK 79 0 6 0) st) st.dfs st.nt with h | ⟨a1, a2, a3, a4, a5, a6, a7, h1, h2, h3, h4⟩
  · exact .inl fun ρ K => h ..
  · refine .inr ⟨_, lbl79_6_0, fun ρ K => ?_⟩
    rw [show parkE PK 79 0 6 (.normal : Ex sig) st = canon ((PK 79 0 6 0).1.map (·.1)) (seenV (PK 79 0 6 0) st) (seenM 0 (PK 79 0 6 0) st) st.dfs st.nt from park_seen ..]
    rw [h1, h2, h3, h4]
    obtain ⟨a4_0, a4_1, a4_2, a4_3⟩ := a4; obtain ⟨a5_0, a5_1⟩ := a5; obtain ⟨a6_0, a6_1, a6_2, a6_3⟩ := a6; obtain ⟨a7_0, a7_1⟩ := a7; exact (gl79_6_0 (Tabs k) ρ K a1 a2 a3 ⟨a4_0, a4_1, a4_2, a4_3⟩ ⟨a5_0, a5_1⟩ ⟨a6_0, a6_1, a6_2, a6_3⟩ ⟨a7_0, a7_1⟩).symm

theorem ul82_2_0 (k : Nat) (st : St sig) : (∀ ρ K, Rl82_2_0 (Tabs (k + 1)) ρ (seenV (PK 82 0 2 0) st) (seenM 0 (PK 82 0 2 0) st) st.dfs st.nt K = none) ∨ ∃ c, loopOf Try.prog 82 2 = some c ∧ ∀ ρ K, Rl82_2_0 (Tabs (k + 1)) ρ (seenV (PK 82 0 2 0) st) (seenM 0 (PK 82 0 2 0) st) st.dfs st.nt K = evK Try.prog lay (T (Tabs k)) (LT (Tabs k)) hints 82 0 c (parkE PK 82 0 2 .normal st) (loopNext (LT (Tabs k)) PK 82 0 2 K) := by
  rcases rl82_2_0 (seenV (PK 82 0 2 0) st) (seenM 0 (PK 82 0 2 0) st) st.dfs st.nt with h | ⟨a1, a2, a3, h1, h2, h3, h4⟩
  · exact .inl fun ρ K => h ..
  · refine .inr ⟨_, lbl82_2_0, fun ρ K => ?_⟩
    rw [show parkE PK 82 0 2 (.normal : Ex sig) st = canon ((PK 82 0 2 0).1.map (·.1)) (seenV (PK 82 0 2 0) st) (seenM 0 (PK 82 0 2 0) st) st.dfs st.nt from park_seen ..]
    rw [h1, h2, h3, h4]
    exact (gl82_2_0 (Tabs k) ρ K a1 a2 a3).symm

theorem ul82_2_1 (k : Nat) (st : St sig) : (∀ ρ K, Rl82_2_1 (Tabs (k + 1)) ρ (seenV (PK 82 2 2 0) st) (seenM 2 (PK 82 2 2 0) st) st.dfs st.nt K = none) ∨ ∃ c, loopOf Try.prog 82 2 = some c ∧ ∀ ρ K, Rl82_2_1 (Tabs (k + 1)) ρ (seenV (PK 82 2 2 0) st) (seenM 2 (PK 82 2 2 0) st) st.dfs st.nt K = evK Try.prog lay (T (Tabs k)) (LT (Tabs k)) hints 82 2 c (parkE PK 82 2 2 .normal st) (loopNext (LT (Tabs k)) PK 82 2 2 K) := by
  rcases rl82_2_1 (seenV (PK 82 2 2 0) st) (seenM 2 (PK 82 2 2 0) st) st.dfs st.nt with h | ⟨a1, a2, a3, a4, h1, h2, h3, h4⟩
  · exact .inl fun ρ K => h ..
  · refine .inr ⟨_, lbl82_2_1, fun ρ K => ?_⟩
    rw [show parkE PK 82 2 2 (.normal : Ex sig) st = canon ((PK 82 2 2 0).1.map (·.1)) (seenV (PK 82 2 2 0) st) (seenM 2 (PK 82 2 2 0) st) st.dfs st.nt from park_seen ..]
    rw [h1, h2, h3, h4]
    exact (gl82_2_1 (Tabs k) ρ K a1 a2 a3 a4).symm

theorem ul83_2_0 (k : Nat) (st : St sig) : (∀ ρ K, Rl83_2_0 (Tabs (k + 1)) ρ (seenV (PK 83 0 2 0) st) (seenM 0 (PK 83 0 2 0) st) st.dfs st.nt K = none) ∨ ∃ c, loopOf Try.prog 83 2 = some c ∧ ∀ ρ K, Rl83_2_0 (Tabs (k + 1)) ρ (seenV (PK 83 0 2 0) st) (seenM 0 (PK 83 0 2 0) st) st.dfs st.nt K = evK Try.prog lay (T (Tabs k)) (LT (Tabs k)) hints 83 0 c (parkE PK 83 0 2 .normal st) (loopNext (LT (Tabs k)) PK 83 0 2 K) := by
  rcases rl83_2_0 (seenV (PK 83 0 2 0) st) (seenM 0 (PK 83 0 2 0) st) st.dfs st.nt with h | ⟨a1, a2, a3, h1, h2, h3, h4⟩
  · exact .inl fun ρ K => h ..
  · refine .inr ⟨_, lbl83_2_0, fun ρ K => ?_⟩
    rw [show parkE PK 83 0 2 (.normal : Ex sig) st = canon ((PK 83 0 2 0).1.map (·.1)) (seenV (PK 83 0 2 0) st) (seenM 0 (PK 83 0 2 0) st) st.dfs st.nt from park_seen ..]
    rw [h1, h2, h3, h4]
    exact (gl83_2_0 (Tabs k) ρ K a1 a2 a3).symm

theorem ul84_3_0 (k : Nat) (st : St sig) : (∀ ρ K, Rl84_3_0 (Tabs (k + 1)) ρ (seenV (PK 84 4 3 0) st) (seenM 4 (PK 84 4 3 0) st) st.dfs st.nt K = none) ∨ ∃ c, loopOf Try.prog 84 3 = some c ∧ ∀ ρ K, Rl84_3_0 (Tabs (k + 1)) ρ (seenV (PK 84 4 3 0) st) (seenM 4 (PK 84 4 3 0) st) st.dfs st.nt K = evK Try.prog lay (T (Tabs k)) (LT (Tabs k)) hints 84 4 c (parkE PK 84 4 3 .normal st) (loopNext (LT (Tabs k)) PK 84 4 3 K) := by
  rcases rl84_3_0 (seenV (PK 84 4 3 0) st) (seenM 4 (PK 84 4 3 0) st) st.dfs st.nt with h | ⟨a1, a2, a3, a4, a5, a6, a7, a8, a9, h1, h2, h3, h4⟩
  · exact .inl fun ρ K => h ..
  · refine .inr ⟨_, lbl84_3_0, fun ρ K => ?_⟩
    rw [show parkE PK 84 4 3 (.normal : Ex sig) st = canon ((PK 84 4 3 0).1.map (·.1)) (seenV (PK 84 4 3 0) st) (seenM 4 (PK 84 4 3 0) st) st.dfs st.nt from park_seen ..]
    rw [h1, h2, h3, h4]
    obtain ⟨a9_0, a9_1, a9_2, a9_3⟩ := a9; exact (gl84_3_0 (Tabs k) ρ K a1 a2 a3 a4 a5 a6 a7 a8 ⟨a9_0, a9_1, a9_2, a9_3⟩).symm

theorem ul87_2_0 (k : Nat) (st : St sig) : (∀ ρ K, Rl87_2_0 (Tabs (k + 1)) ρ (seenV (PK 87 0 2 0) st) (seenM 0 (PK 87 0 2 0) st) st.dfs st.nt K = none) ∨ ∃ c, loopOf Try.prog 87 2 = some c ∧ ∀ ρ K, Rl87_2_0 (Tabs (k + 1)) ρ (seenV (PK 87 0 2 0) st) (seenM 0 (PK 87 0 2 0) st) st.dfs st.nt K = evK Try.prog lay (T (Tabs k)) (LT (Tabs k)) hints 87 0 c (parkE PK 87 0 2 .normal st) (loopNext (LT (Tabs k)) PK 87 0 2 K) := by
  rcases rl87_2_0 (seenV (PK 87 0 2 0) st) (seenM 0 (PK 87 0 2 0) st) st.dfs st.nt with h | ⟨a1, a2, a3, h1, h2, h3, h4⟩
  · exact .inl fun ρ K => h ..
  · refine .inr ⟨_, lbl87_2_0, fun ρ K => ?_⟩
    rw [show parkE PK 87 0 2 (.normal : Ex sig) st = canon ((PK 87 0 2 0).1.map (·.1)) (seenV (PK 87 0 2 0) st) (seenM 0 (PK 87 0 2 0) st) st.dfs st.nt from park_seen ..]
    rw [h1, h2, h3, h4]
    obtain ⟨a2_0, a2_1, a2_2, a2_3⟩ := a2; obtain ⟨a3_0, a3_1, a3_2, a3_3⟩ := a3; exact (gl87_2_0 (Tabs k) ρ K a1 ⟨a2_0, a2_1, a2_2, a2_3⟩ ⟨a3_0, a3_1, a3_2, a3_3⟩).symm

theorem tL (k f np key : Nat) (st : St sig) : (∀ ρ K, LT (Tabs (k + 1)) ρ f np key st K = none) ∨ ∃ c, loopOf Try.prog f key = some c ∧ ∀ ρ K, LT (Tabs (k + 1)) ρ f np key st K = evK Try.prog lay (T (Tabs k)) (LT (Tabs k)) hints f np c (parkE PK f np key .normal st) (loopNext (LT (Tabs k)) PK f np key K) := by
  unfold LT
  cases hc : Nat.beq f 13 && (Nat.beq np 0 && Nat.beq key 4) with
  | true =>
    simp only [cond_true]; simp only [Bool.and_eq_true] at hc; rw [Nat.eq_of_beq_eq_true hc.1, Nat.eq_of_beq_eq_true hc.2.1, Nat.eq_of_beq_eq_true hc.2.2]
    exact ul13_4_0 k st
  | false =>
  simp only [cond_false]; clear hc
  cases hc : Nat.beq f 22 && (Nat.beq np 0 && Nat.beq key 4) with
  | true =>
    simp only [cond_true]; simp only [Bool.and_eq_true] at hc; rw [Nat.eq_of_beq_eq_true hc.1, Nat.eq_of_beq_eq_true hc.2.1, Nat.eq_of_beq_eq_true hc.2.2]
    exact ul22_4_0 k st
  | false =>
  simp only [cond_false]; clear hc
  cases hc : Nat.beq f 22 && (Nat.beq np 0 && Nat.beq key 10) with
  | true =>
    simp only [cond_true]; simp only [Bool.and_eq_true] at hc; rw [Nat.eq_of_beq_eq_true hc.1, Nat.eq_of_beq_eq_true hc.2.1, Nat.eq_of_beq_eq_true hc.2.2]
    exact ul22_10_0 k st
  | false =>
  simp only [cond_false]; clear hc
  cases hc : Nat.beq f 23 && (Nat.beq np 0 && Nat.beq key 2) with
  | true =>
    simp only [cond_true]; simp only [Bool.and_eq_true] at hc; rw [Nat.eq_of_beq_eq_true hc.1, Nat.eq_of_beq_eq_true hc.2.1, Nat.eq_of_beq_eq_true hc.2.2]
    exact ul23_2_0 k st
  | false =>
  simp only [cond_false]; clear hc
  cases hc : Nat.beq f 23 && (Nat.beq np 0 && Nat.beq key 23) with
  | true =>
    simp only [cond_true]; simp only [Bool.and_eq_true] at hc; rw [Nat.eq_of_beq_eq_true hc.1, Nat.eq_of_beq_eq_true hc.2.1, Nat.eq_of_beq_eq_true hc.2.2]
    exact ul23_23_0 k st
  | false =>
  simp only [cond_false]; clear hc
  cases hc : Nat.beq f 26 && (Nat.beq np 0 && Nat.beq key 4) with
  | true =>
    simp only [cond_true]; simp only [Bool.and_eq_true] at hc; rw [Nat.eq_of_beq_eq_true hc.1, Nat.eq_of_beq_eq_true hc.2.1, Nat.eq_of_beq_eq_true hc.2.2]
    exact ul26_4_0 k st
  | false =>
  simp only [cond_false]; clear hc
  cases hc : Nat.beq f 27 && (Nat.beq np 0 && Nat.beq key 4) with
  | true =>
    simp only [cond_true]; simp only [Bool.and_eq_true] at hc; rw [Nat.eq_of_beq_eq_true hc.1, Nat.eq_of_beq_eq_true hc.2.1, Nat.eq_of_beq_eq_true hc.2.2]
    exact ul27_4_0 k st
  | false =>
  simp only [cond_false]; clear hc
  cases hc : Nat.beq f 29 && (Nat.beq np 0 && Nat.beq key 9) with
  | true =>
    simp only [cond_true]; simp only [Bool.and_eq_true] at hc; rw [Nat.eq_of_beq_eq_true hc.1, Nat.eq_of_beq_eq_true hc.2.1, Nat.eq_of_beq_eq_true hc.2.2]
    exact ul29_9_0 k st
  | false =>
  simp only [cond_false]; clear hc
  cases hc : Nat.beq f 32 && (Nat.beq np 0 && Nat.beq key 6) with
  | true =>
    simp only [cond_true]; simp only [Bool.and_eq_true] at hc; rw [Nat.eq_of_beq_eq_true hc.1, Nat.eq_of_beq_eq_true hc.2.1, Nat.eq_of_beq_eq_true hc.2.2]
    exact ul32_6_0 k st
  | false =>
  simp only [cond_false]; clear hc
  cases hc : Nat.beq f 33 && (Nat.beq np 0 && Nat.beq key 4) with
  | true =>
    simp only [cond_true]; simp only [Bool.and_eq_true] at hc; rw [Nat.eq_of_beq_eq_true hc.1, Nat.eq_of_beq_eq_true hc.2.1, Nat.eq_of_beq_eq_true hc.2.2]
    exact ul33_4_0 k st
  | false =>
  simp only [cond_false]; clear hc
  cases hc : Nat.beq f 33 && (Nat.beq np 0 && Nat.beq key 10) with
  | true =>
    simp only [cond_true]; simp only [Bool.and_eq_true] at hc; rw [Nat.eq_of_beq_eq_true hc.1, Nat.eq_of_beq_eq_true hc.2.1, Nat.eq_of_beq_eq_true hc.2.2]
    exact ul33_10_0 k st
  | false =>
  simp only [cond_false]; clear hc
  cases hc : Nat.beq f 35 && (Nat.beq np 0 && Nat.beq key 4) with
  | true =>
    simp only [cond_true]; simp only [Bool.and_eq_true] at hc; rw [Nat.eq_of_beq_eq_true hc.1, Nat.eq_of_beq_eq_true hc.2.1, Nat.eq_of_beq_eq_true hc.2.2]
    exact ul35_4_0 k st
  | false =>
  simp only [cond_false]; clear hc
  cases hc : Nat.beq f 35 && (Nat.beq np 0 && Nat.beq key 10) with
  | true =>
    simp only [cond_true]; simp only [Bool.and_eq_true] at hc; rw [Nat.eq_of_beq_eq_true hc.1, Nat.eq_of_beq_eq_true hc.2.1, Nat.eq_of_beq_eq_true hc.2.2]
    exact ul35_10_0 k st
  | false =>
  simp only [cond_false]; clear hc
  cases hc : Nat.beq f 36 && (Nat.beq np 0 && Nat.beq key 2) with
  | true =>
    simp only [cond_true]; simp only [Bool.and_eq_true] at hc; rw [Nat.eq_of_beq_eq_true hc.1, Nat.eq_of_beq_eq_true hc.2.1, Nat.eq_of_beq_eq_true hc.2.2]
    exact ul36_2_0 k st
  | false =>
  simp only [cond_false]; clear hc
  cases hc : Nat.beq f 36 && (Nat.beq np 0 && Nat.beq key 8) with
  | true =>
    simp only [cond_true]; simp only [Bool.and_eq_true] at hc; rw [Nat.eq_of_beq_eq_true hc.1, Nat.eq_of_beq_eq_true hc.2.1, Nat.eq_of_beq_eq_true hc.2.2]
    exact ul36_8_0 k st
  | false =>
  simp only [cond_false]; clear hc
  cases hc : Nat.beq f 37 && (Nat.beq np 0 && Nat.beq key 6) with
  | true =>
    simp only [cond_true]; simp only [Bool.and_eq_true] at hc; rw [Nat.eq_of_beq_eq_true hc.1, Nat.eq_of_beq_eq_true hc.2.1, Nat.eq_of_beq_eq_true hc.2.2]
    exact ul37_6_0 k st
  | false =>
  simp only [cond_false]; clear hc
  cases hc : Nat.beq f 38 && (Nat.beq np 0 && Nat.beq key 5) with
  | true =>
    simp only [cond_true]; simp only [Bool.and_eq_true] at hc; rw [Nat.eq_of_beq_eq_true hc.1, Nat.eq_of_beq_eq_true hc.2.1, Nat.eq_of_beq_eq_true hc.2.2]
    exact ul38_5_0 k st
  | false =>
  simp only [cond_false]; clear hc
  cases hc : Nat.beq f 39 && (Nat.beq np 0 && Nat.beq key 4) with
  | true =>
    simp only [cond_true]; simp only [Bool.and_eq_true] at hc; rw [Nat.eq_of_beq_eq_true hc.1, Nat.eq_of_beq_eq_true hc.2.1, Nat.eq_of_beq_eq_true hc.2.2]
    exact ul39_4_0 k st
  | false =>
  simp only [cond_false]; clear hc
  cases hc : Nat.beq f 41 && (Nat.beq np 1 && Nat.beq key 6) with
  | true =>
    simp only [cond_true]; simp only [Bool.and_eq_true] at hc; rw [Nat.eq_of_beq_eq_true hc.1, Nat.eq_of_beq_eq_true hc.2.1, Nat.eq_of_beq_eq_true hc.2.2]
    exact ul41_6_0 k st
  | false =>
  simp only [cond_false]; clear hc
  cases hc : Nat.beq f 43 && (Nat.beq np 1 && Nat.beq key 7) with
  | true =>
    simp only [cond_true]; simp only [Bool.and_eq_true] at hc; rw [Nat.eq_of_beq_eq_true hc.1, Nat.eq_of_beq_eq_true hc.2.1, Nat.eq_of_beq_eq_true hc.2.2]
    exact ul43_7_0 k st
  | false =>
  simp only [cond_false]; clear hc
  cases hc : Nat.beq f 47 && (Nat.beq np 0 && Nat.beq key 3) with
  | true =>
    simp only [cond_true]; simp only [Bool.and_eq_true] at hc; rw [Nat.eq_of_beq_eq_true hc.1, Nat.eq_of_beq_eq_true hc.2.1, Nat.eq_of_beq_eq_true hc.2.2]
    exact ul47_3_0 k st
  | false =>
  simp only [cond_false]; clear hc
  cases hc : Nat.beq f 48 && (Nat.beq np 0 && Nat.beq key 18) with
  | true =>
    simp only [cond_true]; simp only [Bool.and_eq_true] at hc; rw [Nat.eq_of_beq_eq_true hc.1, Nat.eq_of_beq_eq_true hc.2.1, Nat.eq_of_beq_eq_true hc.2.2]
    exact ul48_18_0 k st
  | false =>
  simp only [cond_false]; clear hc
  cases hc : Nat.beq f 49 && (Nat.beq np 0 && Nat.beq key 5) with
  | true =>
    simp only [cond_true]; simp only [Bool.and_eq_true] at hc; rw [Nat.eq_of_beq_eq_true hc.1, Nat.eq_of_beq_eq_true hc.2.1, Nat.eq_of_beq_eq_true hc.2.2]
    exact ul49_5_0 k st
  | false =>
  simp only [cond_false]; clear hc
  cases hc : Nat.beq f 50 && (Nat.beq np 0 && Nat.beq key 4) with
  | true =>
    simp only [cond_true]; simp only [Bool.and_eq_true] at hc; rw [Nat.eq_of_beq_eq_true hc.1, Nat.eq_of_beq_eq_true hc.2.1, Nat.eq_of_beq_eq_true hc.2.2]
    exact ul50_4_0 k st
  | false =>
  simp only [cond_false]; clear hc
  cases hc : Nat.beq f 51 && (Nat.beq np 0 && Nat.beq key 6) with
  | true =>
    simp only [cond_true]; simp only [Bool.and_eq_true] at hc; rw [Nat.eq_of_beq_eq_true hc.1, Nat.eq_of_beq_eq_true hc.2.1, Nat.eq_of_beq_eq_true hc.2.2]
    exact ul51_6_0 k st
  | false =>
  simp only [cond_false]; clear hc
  cases hc : Nat.beq f 52 && (Nat.beq np 0 && Nat.beq key 6) with
  | true =>
    simp only [cond_true]; simp only [Bool.and_eq_true] at hc; rw [Nat.eq_of_beq_eq_true hc.1, Nat.eq_of_beq_eq_true hc.2.1, Nat.eq_of_beq_eq_true hc.2.2]
    exact ul52_6_0 k st
  | false =>
  simp only [cond_false]; clear hc
  cases hc : Nat.beq f 52 && (Nat.beq np 0 && Nat.beq key 11) with
  | true =>
    simp only [cond_true]; simp only [Bool.and_eq_true] at hc; rw [Nat.eq_of_beq_eq_true hc.1, Nat.eq_of_beq_eq_true hc.2.1, Nat.eq_of_beq_eq_true hc.2.2]
    exact ul52_11_0 k st
  | false =>
  simp only [cond_false]; clear hc
  cases hc : Nat.beq f 55 && (Nat.beq np 1 && Nat.beq key 3) with
  | true =>
    simp only [cond_true]; simp only [Bool.and_eq_true] at hc; rw [Nat.eq_of_beq_eq_true hc.1, Nat.eq_of_beq_eq_true hc.2.1, Nat.eq_of_beq_eq_true hc.2.2]
    exact ul55_3_0 k st
  | false =>
  simp only [cond_false]; clear hc
  cases hc : Nat.beq f 56 && (Nat.beq np 0 && Nat.beq key 2) with
  | true =>
    simp only [cond_true]; simp only [Bool.and_eq_true] at hc; rw [Nat.eq_of_beq_eq_true hc.1, Nat.eq_of_beq_eq_true hc.2.1, Nat.eq_of_beq_eq_true hc.2.2]
    exact ul56_2_0 k st
  | false =>
  simp only [cond_false]; clear hc
  cases hc : Nat.beq f 61 && (Nat.beq np 0 && Nat.beq key 6) with
  | true =>
    simp only [cond_true]; simp only [Bool.and_eq_true] at hc; rw [Nat.eq_of_beq_eq_true hc.1, Nat.eq_of_beq_eq_true hc.2.1, Nat.eq_of_beq_eq_true hc.2.2]
    exact ul61_6_0 k st
  | false =>
  simp only [cond_false]; clear hc
  cases hc : Nat.beq f 61 && (Nat.beq np 0 && Nat.beq key 11) with
  | true =>
    simp only [cond_true]; simp only [Bool.and_eq_true] at hc; rw [Nat.eq_of_beq_eq_true hc.1, Nat.eq_of_beq_eq_true hc.2.1, Nat.eq_of_beq_eq_true hc.2.2]
    exact ul61_11_0 k st
  | false =>
  simp only [cond_false]; clear hc
  cases hc : Nat.beq f 74 && (Nat.beq np 1 && Nat.beq key 17) with
  | true =>
    simp only [cond_true]; simp only [Bool.and_eq_true] at hc; rw [Nat.eq_of_beq_eq_true hc.1, Nat.eq_of_beq_eq_true hc.2.1, Nat.eq_of_beq_eq_true hc.2.2]
    exact ul74_17_0 k st
  | false =>
  simp only [cond_false]; clear hc
  cases hc : Nat.beq f 75 && (Nat.beq np 0 && Nat.beq key 3) with
  | true =>
    simp only [cond_true]; simp only [Bool.and_eq_true] at hc; rw [Nat.eq_of_beq_eq_true hc.1, Nat.eq_of_beq_eq_true hc.2.1, Nat.eq_of_beq_eq_true hc.2.2]
    exact ul75_3_0 k st
  | false =>
  simp only [cond_false]; clear hc
  cases hc : Nat.beq f 75 && (Nat.beq np 2 && Nat.beq key 3) with
  | true =>
    simp only [cond_true]; simp only [Bool.and_eq_true] at hc; rw [Nat.eq_of_beq_eq_true hc.1, Nat.eq_of_beq_eq_true hc.2.1, Nat.eq_of_beq_eq_true hc.2.2]
    exact ul75_3_1 k st
  | false =>
  simp only [cond_false]; clear hc
  cases hc : Nat.beq f 78 && (Nat.beq np 0 && Nat.beq key 6) with
  | true =>
    simp only [cond_true]; simp only [Bool.and_eq_true] at hc; rw [Nat.eq_of_beq_eq_true hc.1, Nat.eq_of_beq_eq_true hc.2.1, Nat.eq_of_beq_eq_true hc.2.2]
    exact ul78_6_0 k st
  | false =>
  simp only [cond_false]; clear hc
  cases hc : Nat.beq f 79 && (Nat.beq np 0 && Nat.beq key 6) with
  | true =>
    simp only [cond_true]; simp only [Bool.and_eq_true] at hc; rw [Nat.eq_of_beq_eq_true hc.1, Nat.eq_of_beq_eq_true hc.2.1, Nat.eq_of_beq_eq_true hc.2.2]
    exact ul79_6_0 k st
  | false =>
  simp only [cond_false]; clear hc
  cases hc : Nat.beq f 82 && (Nat.beq np 0 && Nat.beq key 2) with
  | true =>
    simp only [cond_true]; simp only [Bool.and_eq_true] at hc; rw [Nat.eq_of_beq_eq_true hc.1, Nat.eq_of_beq_eq_true hc.2.1, Nat.eq_of_beq_eq_true hc.2.2]
    exact ul82_2_0 k st
  | false =>
  simp only [cond_false]; clear hc
  cases hc : Nat.beq f 82 && (Nat.beq np 2 && Nat.beq key 2) with
  | true =>
    simp only [cond_true]; simp only [Bool.and_eq_true] at hc; rw [Nat.eq_of_beq_eq_true hc.1, Nat.eq_of_beq_eq_true hc.2.1, Nat.eq_of_beq_eq_true hc.2.2]
    exact ul82_2_1 k st
  | false =>
  simp only [cond_false]; clear hc
  cases hc : Nat.beq f 83 && (Nat.beq np 0 && Nat.beq key 2) with
  | true =>
    simp only [cond_true]; simp only [Bool.and_eq_true] at hc; rw [Nat.eq_of_beq_eq_true hc.1, Nat.eq_of_beq_eq_true hc.2.1, Nat.eq_of_beq_eq_true hc.2.2]
    exact ul83_2_0 k st
  | false =>
  simp only [cond_false]; clear hc
  cases hc : Nat.beq f 84 && (Nat.beq np 4 && Nat.beq key 3) with
  | true =>
    simp only [cond_true]; simp only [Bool.and_eq_true] at hc; rw [Nat.eq_of_beq_eq_true hc.1, Nat.eq_of_beq_eq_true hc.2.1, Nat.eq_of_beq_eq_true hc.2.2]
    exact ul84_3_0 k st
  | false =>
  simp only [cond_false]; clear hc
  cases hc : Nat.beq f 87 && (Nat.beq np 0 && Nat.beq key 2) with
  | true =>
    simp only [cond_true]; simp only [Bool.and_eq_true] at hc; rw [Nat.eq_of_beq_eq_true hc.1, Nat.eq_of_beq_eq_true hc.2.1, Nat.eq_of_beq_eq_true hc.2.2]
    exact ul87_2_0 k st
  | false =>
  simp only [cond_false]; clear hc
  first | exact .inl fun _ _ => rfl | exact .inl fun _ _ => trivial

theorem z3 (args : List (PV sig)) (m : Mem sig) : ∀ ρ K, T3 (Tabs 0) ρ args m K = none := by
  rcases rc3_0 args m with h | ⟨a1, a2, a3, a4, a5, a6, a7, a8, a9, a10, a11, rfl, rfl⟩
  · exact fun ρ K => h ..
  · exact fun ρ K => rfl

theorem z4 (args : List (PV sig)) (m : Mem sig) : ∀ ρ K, T4 (Tabs 0) ρ args m K = none := by
  rcases rc4_0 args m with h | ⟨a1, a2, a3, a4, a5, a6, a7, a8, a9, a10, a11, rfl, rfl⟩
  · exact fun ρ K => h ..
  · exact fun ρ K => rfl

theorem z5 (args : List (PV sig)) (m : Mem sig) : ∀ ρ K, T5 (Tabs 0) ρ args m K = none := by
  rcases rc5_0 args m with h | ⟨a1, a2, a3, a4, a5, a6, a7, a8, a9, a10, rfl, rfl⟩
  · exact fun ρ K => h ..
  · obtain ⟨a10_0, a10_1, a10_2, a10_3⟩ := a10; exact fun ρ K => rfl

theorem z6 (args : List (PV sig)) (m : Mem sig) : ∀ ρ K, T6 (Tabs 0) ρ args m K = none := by
  rcases rc6_0 args m with h | ⟨a1, a2, a3, a4, a5, a6, a7, a8, a9, a10, a11, a12, a13, a14, a15, a16, a17, a18, rfl, rfl⟩
  · exact fun ρ K => h ..
  · exact fun ρ K => rfl

theorem z7 (args : List (PV sig)) (m : Mem sig) : ∀ ρ K, T7 (Tabs 0) ρ args m K = none := by
  rcases rc7_0 args m with h | ⟨a1, a2, a3, a4, a5, a6, a7, a8, a9, a10, rfl, rfl⟩
  · exact fun ρ K => h ..
  · exact fun ρ K => rfl

theorem z8 (args : List (PV sig)) (m : Mem sig) : ∀ ρ K, T8 (Tabs 0) ρ args m K = none := by
  rcases rc8_0 args m with h | ⟨a1, a2, a3, rfl, rfl⟩
  · exact fun ρ K => h ..
  · obtain ⟨a1_0, a1_1, a1_2, a1_3⟩ := a1; obtain ⟨a3_0, a3_1⟩ := a3; exact fun ρ K => rfl

theorem z9 (args : List (PV sig)) (m : Mem sig) : ∀ ρ K, T9 (Tabs 0) ρ args m K = none := by
  rcases rc9_0 args m with h | ⟨a1, a2, a3, rfl, rfl⟩
  · exact fun ρ K => h ..
  · obtain ⟨a1_0, a1_1, a1_2, a1_3⟩ := a1; exact fun ρ K => rfl

theorem z10 (args : List (PV sig)) (m : Mem sig) : ∀ ρ K, T10 (Tabs 0) ρ args m K = none := by
  rcases rc10_0 args m with h | ⟨a1, a2, a3, rfl, rfl⟩
  · exact fun ρ K => h ..
  · obtain ⟨a3_0, a3_1⟩ := a3; exact fun ρ K => rfl

theorem z11 (args : List (PV sig)) (m : Mem sig) : ∀ ρ K, T11 (Tabs 0) ρ args m K = none := by
  rcases rc11_0 args m with h | ⟨a1, rfl, rfl⟩
  · exact fun ρ K => h ..
  · obtain ⟨a1_0, a1_1, a1_2, a1_3⟩ := a1; exact fun ρ K => rfl

theorem z12 (args : List (PV sig)) (m : Mem sig) : ∀ ρ K, T12 (Tabs 0) ρ args m K = none := by
  rcases rc12_0 args m with h | ⟨a1, a2, rfl, rfl⟩
  · exact fun ρ K => h ..
  · obtain ⟨a1_0, a1_1, a1_2, a1_3⟩ := a1; exact fun ρ K => rfl

theorem z13 (args : List (PV sig)) (m : Mem sig) : ∀ ρ K, T13 (Tabs 0) ρ args m K = none := by
  rcases rc13_0 args m with h | ⟨a1, a2, a3, rfl, rfl⟩
  · exact fun ρ K => h ..
  · obtain ⟨a1_0, a1_1, a1_2, a1_3⟩ := a1; obtain ⟨a3_0, a3_1⟩ := a3; exact fun ρ K => rfl

theorem z14 (args : List (PV sig)) (m : Mem sig) : ∀ ρ K, T14 (Tabs 0) ρ args m K = none := by
  rcases rc14_0 args m with h | ⟨a1, a2, a3, a4, rfl, rfl⟩
  · exact fun ρ K => h ..
  · obtain ⟨a1_0, a1_1, a1_2, a1_3⟩ := a1; obtain ⟨a3_0, a3_1, a3_2, a3_3⟩ := a3; obtain ⟨a4_0, a4_1⟩ := a4; exact fun ρ K => rfl

theorem z15 (args : List (PV sig)) (m : Mem sig) : ∀ ρ K, T15 (Tabs 0) ρ args m K = none := by
  rcases rc15_0 args m with h | ⟨a1, a2, a3, a4, rfl, rfl⟩
  · exact fun ρ K => h ..
  · obtain ⟨a1_0, a1_1, a1_2, a1_3⟩ := a1; obtain ⟨a3_0, a3_1, a3_2, a3_3⟩ := a3; obtain ⟨a4_0, a4_1⟩ := a4; exact fun ρ K => rfl

theorem z16 (args : List (PV sig)) (m : Mem sig) : ∀ ρ K, T16 (Tabs 0) ρ args m K = none := by
  rcases rc16_0 args m with h | ⟨a1, a2, a3, a4, rfl, rfl⟩
  · exact fun ρ K => h ..
  · obtain ⟨a1_0, a1_1, a1_2, a1_3⟩ := a1; obtain ⟨a3_0, a3_1, a3_2, a3_3⟩ := a3; exact fun ρ K => rfl

theorem z17 (args : List (PV sig)) (m : Mem sig) : ∀ ρ K, T17 (Tabs 0) ρ args m K = none := by
  rcases rc17_0 args m with h | ⟨rfl, rfl⟩
  · exact fun ρ K => h ..
  · exact fun ρ K => rfl

theorem z18 (args : List (PV sig)) (m : Mem sig) : ∀ ρ K, T18 (Tabs 0) ρ args m K = none := by
  rcases rc18_0 args m with h | ⟨a1, rfl, rfl⟩
  · exact fun ρ K => h ..
  · obtain ⟨a1_0, a1_1, a1_2, a1_3⟩ := a1; exact fun ρ K => rfl

theorem z19 (args : List (PV sig)) (m : Mem sig) : ∀ ρ K, T19 (Tabs 0) ρ args m K = none := by
  rcases rc19_0 args m with h | ⟨a1, rfl, rfl⟩
  · exact fun ρ K => h ..
  · obtain ⟨a1_0, a1_1⟩ := a1; exact fun ρ K => rfl

theorem z20 (args : List (PV sig)) (m : Mem sig) : ∀ ρ K, T20 (Tabs 0) ρ args m K = none := by
  rcases rc20_0 args m with h | ⟨a1, a2, rfl, rfl⟩
  · exact fun ρ K => h ..
  · obtain ⟨a1_0, a1_1, a1_2, a1_3⟩ := a1; exact fun ρ K => rfl

theorem z21 (args : List (PV sig)) (m : Mem sig) : ∀ ρ K, T21 (Tabs 0) ρ args m K = none := by
  rcases rc21_0 args m with h | ⟨a1, a2, a3, rfl, rfl⟩
  · exact fun ρ K => h ..
  · obtain ⟨a1_0, a1_1, a1_2, a1_3⟩ := a1; exact fun ρ K => rfl

theorem z22 (args : List (PV sig)) (m : Mem sig) : ∀ ρ K, T22 (Tabs 0) ρ args m K = none := by
  rcases rc22_0 args m with h | ⟨a1, a2, a3, a4, a5, a6, a7, a8, rfl, rfl⟩
  · exact fun ρ K => h ..
  · exact fun ρ K => rfl

theorem z23 (args : List (PV sig)) (m : Mem sig) : ∀ ρ K, T23 (Tabs 0) ρ args m K = none := by
  rcases rc23_0 args m with h | ⟨a1, a2, a3, a4, rfl, rfl⟩
  · exact fun ρ K => h ..
  · obtain ⟨a3_0, a3_1, a3_2, a3_3⟩ := a3; obtain ⟨a4_0, a4_1⟩ := a4; exact fun ρ K => rfl

theorem z24 (args : List (PV sig)) (m : Mem sig) : ∀ ρ K, T24 (Tabs 0) ρ args m K = none := by
  rcases rc24_0 args m with h | ⟨a1, a2, rfl, rfl⟩
  · exact fun ρ K => h ..
  · exact fun ρ K => rfl

theorem z25 (args : List (PV sig)) (m : Mem sig) : ∀ ρ K, T25 (Tabs 0) ρ args m K = none := by
  rcases rc25_0 args m with h | ⟨a1, a2, rfl, rfl⟩
  · exact fun ρ K => h ..
  · exact fun ρ K => rfl

theorem z26 (args : List (PV sig)) (m : Mem sig) : ∀ ρ K, T26 (Tabs 0) ρ args m K = none := by
  rcases rc26_0 args m with h | ⟨a1, a2, rfl, rfl⟩
  · exact fun ρ K => h ..
  · obtain ⟨a1_0, a1_1, a1_2, a1_3⟩ := a1; obtain ⟨a2_0, a2_1, a2_2, a2_3⟩ := a2; exact fun ρ K => rfl

theorem z27 (args : List (PV sig)) (m : Mem sig) : ∀ ρ K, T27 (Tabs 0) ρ args m K = none := by
  rcases rc27_0 args m with h | ⟨a1, a2, rfl, rfl⟩
  · exact fun ρ K => h ..
  · obtain ⟨a1_0, a1_1⟩ := a1; obtain ⟨a2_0, a2_1⟩ := a2; exact fun ρ K => rfl

theorem z28 (args : List (PV sig)) (m : Mem sig) : ∀ ρ K, T28 (Tabs 0) ρ args m K = none := by
  rcases rc28_0 args m with h | ⟨a1, a2, a3, rfl, rfl⟩
  · exact fun ρ K => h ..
  · obtain ⟨a3_0, a3_1⟩ := a3; exact fun ρ K => rfl

theorem z29 (args : List (PV sig)) (m : Mem sig) : ∀ ρ K, T29 (Tabs 0) ρ args m K = none := by
  rcases rc29_0 args m with h | ⟨a1, a2, a3, a4, rfl, rfl⟩
  · exact fun ρ K => h ..
  · obtain ⟨a1_0, a1_1, a1_2, a1_3⟩ := a1; exact fun ρ K => rfl

theorem z30 (args : List (PV sig)) (m : Mem sig) : ∀ ρ K, T30 (Tabs 0) ρ args m K = none := by
  rcases rc30_0 args m with h | ⟨a1, a2, a3, rfl, rfl⟩
  · exact fun ρ K => h ..
  · obtain ⟨a1_0, a1_1, a1_2, a1_3⟩ := a1; obtain ⟨a3_0, a3_1⟩ := a3; exact fun ρ K => rfl

theorem z31 (args : List (PV sig)) (m : Mem sig) : ∀ ρ K, T31 (Tabs 0) ρ args m K = none := by
  rcases rc31_0 args m with h | ⟨a1, a2, a3, rfl, rfl⟩
  · exact fun ρ K => h ..
  · obtain ⟨a1_0, a1_1, a1_2, a1_3⟩ := a1; obtain ⟨a3_0, a3_1⟩ := a3; exact fun ρ K => rfl

theorem z32 (args : List (PV sig)) (m : Mem sig) : ∀ ρ K, T32 (Tabs 0) ρ args m K = none := by
  rcases rc32_0 args m with h | ⟨a1, a2, a3, rfl, rfl⟩
  · exact fun ρ K => h ..
  · obtain ⟨a1_0, a1_1, a1_2, a1_3⟩ := a1; exact fun ρ K => rfl

theorem z33 (args : List (PV sig)) (m : Mem sig) : ∀ ρ K, T33 (Tabs 0) ρ args m K = none := by
  rcases rc33_0 args m with h | ⟨a1, a2, a3, rfl, rfl⟩
  · exact fun ρ K => h ..
  · obtain ⟨a1_0, a1_1, a1_2, a1_3⟩ := a1; exact fun ρ K => rfl

theorem z34 (args : List (PV sig)) (m : Mem sig) : ∀ ρ K, T34 (Tabs 0) ρ args m K = none := by
  rcases rc34_0 args m with h | ⟨a1, a2, a3, rfl, rfl⟩
  · exact fun ρ K => h ..
  · obtain ⟨a3_0, a3_1⟩ := a3; exact fun ρ K => rfl

theorem z35 (args : List (PV sig)) (m : Mem sig) : ∀ ρ K, T35 (Tabs 0) ρ args m K = none := by
  rcases rc35_0 args m with h | ⟨a1, rfl, rfl⟩
  · exact fun ρ K => h ..
  · obtain ⟨a1_0, a1_1, a1_2, a1_3⟩ := a1; exact fun ρ K => rfl

theorem z36 (args : List (PV sig)) (m : Mem sig) : ∀ ρ K, T36 (Tabs 0) ρ args m K = none := by
  rcases rc36_0 args m with h | ⟨a1, rfl, rfl⟩
  · exact fun ρ K => h ..
  · obtain ⟨a1_0, a1_1, a1_2, a1_3⟩ := a1; exact fun ρ K => rfl

theorem z37 (args : List (PV sig)) (m : Mem sig) : ∀ ρ K, T37 (Tabs 0) ρ args m K = none := by
  rcases rc37_0 args m with h | ⟨a1, a2, rfl, rfl⟩
  · exact fun ρ K => h ..
  · obtain ⟨a1_0, a1_1, a1_2, a1_3⟩ := a1; exact fun ρ K => rfl

theorem z38 (args : List (PV sig)) (m : Mem sig) : ∀ ρ K, T38 (Tabs 0) ρ args m K = none := by
  rcases rc38_0 args m with h | ⟨a1, a2, rfl, rfl⟩
  · exact fun ρ K => h ..
  · obtain ⟨a1_0, a1_1, a1_2, a1_3⟩ := a1; exact fun ρ K => rfl

theorem z39 (args : List (PV sig)) (m : Mem sig) : ∀ ρ K, T39 (Tabs 0) ρ args m K = none := by
  rcases rc39_0 args m with h | ⟨a1, a2, a3, rfl, rfl⟩
  · exact fun ρ K => h ..
  · exact fun ρ K => rfl

theorem z41 (args : List (PV sig)) (m : Mem sig) : ∀ ρ K, T41 (Tabs 0) ρ args m K = none := by
  rcases rc41_0 args m with h | ⟨a1, a2, a3, a4, a5, rfl, rfl⟩
  · exact fun ρ K => h ..
  · obtain ⟨a1_0, a1_1, a1_2, a1_3⟩ := a1; obtain ⟨a3_0, a3_1, a3_2, a3_3⟩ := a3; obtain ⟨a4_0, a4_1⟩ := a4; exact fun ρ K => rfl

theorem z42 (args : List (PV sig)) (m : Mem sig) : ∀ ρ K, T42 (Tabs 0) ρ args m K = none := by
  rcases rc42_0 args m with h | ⟨a1, rfl, rfl⟩
  · exact fun ρ K => h ..
  · exact fun ρ K => rfl

theorem z43 (args : List (PV sig)) (m : Mem sig) : ∀ ρ K, T43 (Tabs 0) ρ args m K = none := by
  rcases rc43_0 args m with h | ⟨a1, a2, a3, a4, a5, rfl, rfl⟩
  · exact fun ρ K => h ..
  · obtain ⟨a1_0, a1_1, a1_2, a1_3⟩ := a1; obtain ⟨a3_0, a3_1, a3_2, a3_3⟩ := a3; obtain ⟨a4_0, a4_1⟩ := a4; exact fun ρ K => rfl

theorem z44 (args : List (PV sig)) (m : Mem sig) : ∀ ρ K, T44 (Tabs 0) ρ args m K = none := by
  rcases rc44_0 args m with h | ⟨a1, a2, rfl, rfl⟩
  · exact fun ρ K => h ..
  · exact fun ρ K => rfl

theorem z45 (args : List (PV sig)) (m : Mem sig) : ∀ ρ K, T45 (Tabs 0) ρ args m K = none := by
  rcases rc45_0 args m with h | ⟨a1, a2, rfl, rfl⟩
  · exact fun ρ K => h ..
  · exact fun ρ K => rfl

theorem z46 (args : List (PV sig)) (m : Mem sig) : ∀ ρ K, T46 (Tabs 0) ρ args m K = none := by
  rcases rc46_0 args m with h | ⟨a1, rfl, rfl⟩
  · exact fun ρ K => h ..
  · obtain ⟨a1_0, a1_1, a1_2, a1_3⟩ := a1; exact fun ρ K => rfl

theorem z47 (args : List (PV sig)) (m : Mem sig) : ∀ ρ K, T47 (Tabs 0) ρ args m K = none := by
  rcases rc47_0 args m with h | ⟨a1, a2, rfl, rfl⟩
  · exact fun ρ K => h ..
  · obtain ⟨a1_0, a1_1, a1_2, a1_3⟩ := a1; exact fun ρ K => rfl

theorem z48 (args : List (PV sig)) (m : Mem sig) : ∀ ρ K, T48 (Tabs 0) ρ args m K = none := by
  rcases rc48_0 args m with h | ⟨a1, a2, rfl, rfl⟩
  · exact fun ρ K => h ..
  · obtain ⟨a1_0, a1_1, a1_2, a1_3⟩ := a1; exact fun ρ K => rfl

theorem z49 (args : List (PV sig)) (m : Mem sig) : ∀ ρ K, T49 (Tabs 0) ρ args m K = none := by
  rcases rc49_0 args m with h | ⟨a1, a2, rfl, rfl⟩
  · exact fun ρ K => h ..
  · obtain ⟨a1_0, a1_1⟩ := a1; exact fun ρ K => rfl

theorem z50 (args : List (PV sig)) (m : Mem sig) : ∀ ρ K, T50 (Tabs 0) ρ args m K = none := by
  rcases rc50_0 args m with h | ⟨a1, a2, a3, rfl, rfl⟩
  · exact fun ρ K => h ..
  · obtain ⟨a1_0, a1_1, a1_2, a1_3⟩ := a1; exact fun ρ K => rfl

theorem z51 (args : List (PV sig)) (m : Mem sig) : ∀ ρ K, T51 (Tabs 0) ρ args m K = none := by
  rcases rc51_0 args m with h | ⟨a1, a2, a3, rfl, rfl⟩
  · exact fun ρ K => h ..
  · obtain ⟨a1_0, a1_1, a1_2, a1_3⟩ := a1; exact fun ρ K => rfl

theorem z52 (args : List (PV sig)) (m : Mem sig) : ∀ ρ K, T52 (Tabs 0) ρ args m K = none := by
  rcases rc52_0 args m with h | ⟨a1, a2, a3, rfl, rfl⟩
  · exact fun ρ K => h ..
  · obtain ⟨a3_0, a3_1⟩ := a3; exact fun ρ K => rfl

theorem z53 (args : List (PV sig)) (m : Mem sig) : ∀ ρ K, T53 (Tabs 0) ρ args m K = none := by
  rcases rc53_0 args m with h | ⟨a1, rfl, rfl⟩
  · exact fun ρ K => h ..
  · obtain ⟨a1_0, a1_1, a1_2, a1_3⟩ := a1; exact fun ρ K => rfl

theorem z54 (args : List (PV sig)) (m : Mem sig) : ∀ ρ K, T54 (Tabs 0) ρ args m K = none := by
  rcases rc54_0 args m with h | ⟨a1, rfl, rfl⟩
  · exact fun ρ K => h ..
  · obtain ⟨a1_0, a1_1, a1_2, a1_3⟩ := a1; exact fun ρ K => rfl

theorem z55 (args : List (PV sig)) (m : Mem sig) : ∀ ρ K, T55 (Tabs 0) ρ args m K = none := by
  rcases rc55_0 args m with h | ⟨a1, a2, a3, a4, rfl, rfl⟩
  · exact fun ρ K => h ..
  · obtain ⟨a1_0, a1_1, a1_2, a1_3⟩ := a1; obtain ⟨a3_0, a3_1⟩ := a3; exact fun ρ K => rfl

theorem z56 (args : List (PV sig)) (m : Mem sig) : ∀ ρ K, T56 (Tabs 0) ρ args m K = none := by
  rcases rc56_0 args m with h | ⟨a1, rfl, rfl⟩
  · exact fun ρ K => h ..
  · exact fun ρ K => rfl

theorem z57 (args : List (PV sig)) (m : Mem sig) : ∀ ρ K, T57 (Tabs 0) ρ args m K = none := by
  rcases rc57_0 args m with h | ⟨a1, a2, a3, a4, rfl, rfl⟩
  · exact fun ρ K => h ..
  · obtain ⟨a1_0, a1_1, a1_2, a1_3⟩ := a1; obtain ⟨a3_0, a3_1⟩ := a3; exact fun ρ K => rfl

theorem z58 (args : List (PV sig)) (m : Mem sig) : ∀ ρ K, T58 (Tabs 0) ρ args m K = none := by
  rcases rc58_0 args m with h | ⟨a1, a2, rfl, rfl⟩
  · exact fun ρ K => h ..
  · obtain ⟨a1_0, a1_1, a1_2, a1_3⟩ := a1; exact fun ρ K => rfl

theorem z59 (args : List (PV sig)) (m : Mem sig) : ∀ ρ K, T59 (Tabs 0) ρ args m K = none := by
  rcases rc59_0 args m with h | ⟨a1, rfl, rfl⟩
  · exact fun ρ K => h ..
  · obtain ⟨a1_0, a1_1, a1_2, a1_3⟩ := a1; exact fun ρ K => rfl

theorem z60 (args : List (PV sig)) (m : Mem sig) : ∀ ρ K, T60 (Tabs 0) ρ args m K = none := by
  rcases rc60_0 args m with h | ⟨a1, a2, rfl, rfl⟩
  · exact fun ρ K => h ..
  · obtain ⟨a1_0, a1_1, a1_2, a1_3⟩ := a1; exact fun ρ K => rfl

theorem z61 (args : List (PV sig)) (m : Mem sig) : ∀ ρ K, T61 (Tabs 0) ρ args m K = none := by
  rcases rc61_0 args m with h | ⟨a1, a2, a3, rfl, rfl⟩
  · exact fun ρ K => h ..
  · obtain ⟨a3_0, a3_1⟩ := a3; exact fun ρ K => rfl

theorem z62 (args : List (PV sig)) (m : Mem sig) : ∀ ρ K, T62 (Tabs 0) ρ args m K = none := by
  rcases rc62_0 args m with h | ⟨a1, rfl, rfl⟩
  · exact fun ρ K => h ..
  · exact fun ρ K => rfl

theorem z63 (args : List (PV sig)) (m : Mem sig) : ∀ ρ K, T63 (Tabs 0) ρ args m K = none := by
  rcases rc63_0 args m with h | ⟨a1, rfl, rfl⟩
  · exact fun ρ K => h ..
  · obtain ⟨a1_0, a1_1, a1_2, a1_3⟩ := a1; exact fun ρ K => rfl

theorem z64 (args : List (PV sig)) (m : Mem sig) : ∀ ρ K, T64 (Tabs 0) ρ args m K = none := by
  rcases rc64_0 args m with h | ⟨a1, rfl, rfl⟩
  · exact fun ρ K => h ..
  · obtain ⟨a1_0, a1_1⟩ := a1; exact fun ρ K => rfl

theorem z65 (args : List (PV sig)) (m : Mem sig) : ∀ ρ K, T65 (Tabs 0) ρ args m K = none := by
  rcases rc65_0 args m with h | ⟨a1, a2, a3, rfl, rfl⟩
  · exact fun ρ K => h ..
  · obtain ⟨a1_0, a1_1, a1_2, a1_3⟩ := a1; obtain ⟨a2_0, a2_1, a2_2, a2_3⟩ := a2; exact fun ρ K => rfl

theorem z66 (args : List (PV sig)) (m : Mem sig) : ∀ ρ K, T66 (Tabs 0) ρ args m K = none := by
  unfold T66
  cases hc : Nat.beq (fnId (args.getD 1 .any)) 67 with
  | true =>
    simp only [cond_true]
    rcases rc66_0 args m with h | ⟨a1, rfl, rfl⟩
    · exact fun ρ K => h ..
    · exact fun ρ K => rfl
  | false =>
    simp only [cond_false]
    cases hc : Nat.beq (fnId (args.getD 1 .any)) 88 with
    | true =>
      simp only [cond_true]
      rcases rc66_1 args m with h | ⟨a1, a2, rfl, rfl⟩
      · exact fun ρ K => h ..
      · exact fun ρ K => rfl
    | false =>
      simp only [cond_false]
      first | exact fun _ _ => rfl | exact fun _ _ => trivial

theorem z67 (args : List (PV sig)) (m : Mem sig) : ∀ ρ K, T67 (Tabs 0) ρ args m K = none := by
  rcases rc67_0 args m with h | ⟨a1, rfl, rfl⟩
  · exact fun ρ K => h ..
  · obtain ⟨a1_0, a1_1⟩ := a1; exact fun ρ K => rfl

theorem z68 (args : List (PV sig)) (m : Mem sig) : ∀ ρ K, T68 (Tabs 0) ρ args m K = none := by
  rcases rc68_0 args m with h | ⟨a1, rfl, rfl⟩
  · exact fun ρ K => h ..
  · exact fun ρ K => rfl

theorem z69 (args : List (PV sig)) (m : Mem sig) : ∀ ρ K, T69 (Tabs 0) ρ args m K = none := by
  rcases rc69_0 args m with h | ⟨a1, rfl, rfl⟩
  · exact fun ρ K => h ..
  · exact fun ρ K => rfl

theorem z70 (args : List (PV sig)) (m : Mem sig) : ∀ ρ K, T70 (Tabs 0) ρ args m K = none := by
  rcases rc70_0 args m with h | ⟨a1, a2, rfl, rfl⟩
  · exact fun ρ K => h ..
  · obtain ⟨a1_0, a1_1, a1_2, a1_3⟩ := a1; exact fun ρ K => rfl

theorem z71 (args : List (PV sig)) (m : Mem sig) : ∀ ρ K, T71 (Tabs 0) ρ args m K = none := by
  rcases rc71_0 args m with h | ⟨a1, rfl, rfl⟩
  · exact fun ρ K => h ..
  · obtain ⟨a1_0, a1_1, a1_2, a1_3⟩ := a1; exact fun ρ K => rfl

theorem z72 (args : List (PV sig)) (m : Mem sig) : ∀ ρ K, T72 (Tabs 0) ρ args m K = none := by
  rcases rc72_0 args m with h | ⟨a1, a2, rfl, rfl⟩
  · exact fun ρ K => h ..
  · obtain ⟨a1_0, a1_1, a1_2, a1_3⟩ := a1; exact fun ρ K => rfl

theorem z73 (args : List (PV sig)) (m : Mem sig) : ∀ ρ K, T73 (Tabs 0) ρ args m K = none := by
  rcases rc73_0 args m with h | ⟨a1, rfl, rfl⟩
  · exact fun ρ K => h ..
  · obtain ⟨a1_0, a1_1, a1_2, a1_3⟩ := a1; exact fun ρ K => rfl

theorem z74 (args : List (PV sig)) (m : Mem sig) : ∀ ρ K, T74 (Tabs 0) ρ args m K = none := by
  rcases rc74_0 args m with h | ⟨a1, a2, a3, rfl, rfl⟩
  · exact fun ρ K => h ..
  · obtain ⟨a1_0, a1_1, a1_2, a1_3⟩ := a1; exact fun ρ K => rfl

theorem z75 (args : List (PV sig)) (m : Mem sig) : ∀ ρ K, T75 (Tabs 0) ρ args m K = none := by
  unfold T75
  cases hc : Nat.beq (fnId (args.getD 2 .any)) 76 with
  | true =>
    simp only [cond_true]
    rcases rc75_0 args m with h | ⟨a1, a2, rfl, rfl⟩
    · exact fun ρ K => h ..
    · obtain ⟨a1_0, a1_1, a1_2, a1_3⟩ := a1; exact fun ρ K => rfl
  | false =>
    simp only [cond_false]
    cases hc : Nat.beq (fnId (args.getD 2 .any)) 89 with
    | true =>
      simp only [cond_true]
      rcases rc75_1 args m with h | ⟨a1, a2, a3, a4, rfl, rfl⟩
      · exact fun ρ K => h ..
      · obtain ⟨a1_0, a1_1, a1_2, a1_3⟩ := a1; exact fun ρ K => rfl
    | false =>
      simp only [cond_false]
      first | exact fun _ _ => rfl | exact fun _ _ => trivial

theorem z76 (args : List (PV sig)) (m : Mem sig) : ∀ ρ K, T76 (Tabs 0) ρ args m K = none := by
  rcases rc76_0 args m with h | ⟨a1, a2, rfl, rfl⟩
  · exact fun ρ K => h ..
  · obtain ⟨a1_0, a1_1, a1_2, a1_3⟩ := a1; exact fun ρ K => rfl

theorem z77 (args : List (PV sig)) (m : Mem sig) : ∀ ρ K, T77 (Tabs 0) ρ args m K = none := by
  rcases rc77_0 args m with h | ⟨a1, a2, a3, rfl, rfl⟩
  · exact fun ρ K => h ..
  · obtain ⟨a1_0, a1_1, a1_2, a1_3⟩ := a1; exact fun ρ K => rfl

theorem z78 (args : List (PV sig)) (m : Mem sig) : ∀ ρ K, T78 (Tabs 0) ρ args m K = none := by
  rcases rc78_0 args m with h | ⟨a1, a2, a3, rfl, rfl⟩
  · exact fun ρ K => h ..
  · obtain ⟨a1_0, a1_1, a1_2, a1_3⟩ := a1; exact fun ρ K => rfl

theorem z79 (args : List (PV sig)) (m : Mem sig) : ∀ ρ K, T79 (Tabs 0) ρ args m K = none := by
  rcases rc79_0 args m with h | ⟨a1, rfl, rfl⟩
  · exact fun ρ K => h ..
  · obtain ⟨a1_0, a1_1, a1_2, a1_3⟩ := a1; exact fun ρ K => rfl

theorem z80 (args : List (PV sig)) (m : Mem sig) : ∀ ρ K, T80 (Tabs 0) ρ args m K = none := by
  rcases rc80_0 args m with h | ⟨a1, a2, rfl, rfl⟩
  · exact fun ρ K => h ..
  · obtain ⟨a1_0, a1_1⟩ := a1; exact fun ρ K => rfl

theorem z81 (args : List (PV sig)) (m : Mem sig) : ∀ ρ K, T81 (Tabs 0) ρ args m K = none := by
  rcases rc81_0 args m with h | ⟨a1, rfl, rfl⟩
  · exact fun ρ K => h ..
  · obtain ⟨a1_0, a1_1, a1_2, a1_3⟩ := a1; exact fun ρ K => rfl

theorem z82 (args : List (PV sig)) (m : Mem sig) : ∀ ρ K, T82 (Tabs 0) ρ args m K = none := by
  unfold T82
  cases hc : Nat.beq (fnId (args.getD 1 .any)) 67 with
  | true =>
    simp only [cond_true]
    rcases rc82_0 args m with h | ⟨a1, rfl, rfl⟩
    · exact fun ρ K => h ..
    · exact fun ρ K => rfl
  | false =>
    simp only [cond_false]
    cases hc : Nat.beq (fnId (args.getD 1 .any)) 88 with
    | true =>
      simp only [cond_true]
      rcases rc82_1 args m with h | ⟨a1, a2, rfl, rfl⟩
      · exact fun ρ K => h ..
      · exact fun ρ K => rfl
    | false =>
      simp only [cond_false]
      first | exact fun _ _ => rfl | exact fun _ _ => trivial

theorem z83 (args : List (PV sig)) (m : Mem sig) : ∀ ρ K, T83 (Tabs 0) ρ args m K = none := by
  rcases rc83_0 args m with h | ⟨a1, rfl, rfl⟩
  · exact fun ρ K => h ..
  · exact fun ρ K => rfl

theorem z84 (args : List (PV sig)) (m : Mem sig) : ∀ ρ K, T84 (Tabs 0) ρ args m K = none := by
  rcases rc84_0 args m with h | ⟨a1, a2, a3, a4, a5, a6, rfl, rfl⟩
  · exact fun ρ K => h ..
  · obtain ⟨a1_0, a1_1, a1_2, a1_3⟩ := a1; exact fun ρ K => rfl

theorem z85 (args : List (PV sig)) (m : Mem sig) : ∀ ρ K, T85 (Tabs 0) ρ args m K = none := by
  rcases rc85_0 args m with h | ⟨a1, a2, a3, a4, a5, a6, rfl, rfl⟩
  · exact fun ρ K => h ..
  · obtain ⟨a1_0, a1_1, a1_2, a1_3⟩ := a1; exact fun ρ K => rfl

theorem z86 (args : List (PV sig)) (m : Mem sig) : ∀ ρ K, T86 (Tabs 0) ρ args m K = none := by
  rcases rc86_0 args m with h | ⟨a1, a2, a3, rfl, rfl⟩
  · exact fun ρ K => h ..
  · obtain ⟨a1_0, a1_1, a1_2, a1_3⟩ := a1; exact fun ρ K => rfl

theorem z87 (args : List (PV sig)) (m : Mem sig) : ∀ ρ K, T87 (Tabs 0) ρ args m K = none := by
  rcases rc87_0 args m with h | ⟨a1, rfl, rfl⟩
  · exact fun ρ K => h ..
  · obtain ⟨a1_0, a1_1, a1_2, a1_3⟩ := a1; exact fun ρ K => rfl

theorem z88 (args : List (PV sig)) (m : Mem sig) : ∀ ρ K, T88 (Tabs 0) ρ args m K = none := by
  rcases rc88_0 args m with h | ⟨a1, a2, rfl, rfl⟩
  · exact fun ρ K => h ..
  · obtain ⟨a1_0, a1_1⟩ := a1; exact fun ρ K => rfl

theorem z89 (args : List (PV sig)) (m : Mem sig) : ∀ ρ K, T89 (Tabs 0) ρ args m K = none := by
  rcases rc89_0 args m with h | ⟨a1, a2, a3, a4, rfl, rfl⟩
  · exact fun ρ K => h ..
  · obtain ⟨a1_0, a1_1, a1_2, a1_3⟩ := a1; exact fun ρ K => rfl

theorem z0 (f : Nat) (args : List (PV sig)) (m : Mem sig) : ∀ ρ K, T (Tabs 0) ρ f args m K = none := by
  unfold T
  cases hc : Nat.beq f 3 with
  | true => simp only [cond_true]; exact z3 args m
  | false =>
  simp only [cond_false]; clear hc
  cases hc : Nat.beq f 4 with
  | true => simp only [cond_true]; exact z4 args m
  | false =>
  simp only [cond_false]; clear hc
  cases hc : Nat.beq f 5 with
  | true => simp only [cond_true]; exact z5 args m
  | false =>
  simp only [cond_false]; clear hc
  cases hc : Nat.beq f 6 with
  | true => simp only [cond_true]; exact z6 args m
  | false =>
  simp only [cond_false]; clear hc
  cases hc : Nat.beq f 7 with
  | true => simp only [cond_true]; exact z7 args m
  | false =>
  simp only [cond_false]; clear hc
  cases hc : Nat.beq f 8 with
  | true => simp only [cond_true]; exact z8 args m
  | false =>
  simp only [cond_false]; clear hc
  cases hc : Nat.beq f 9 with
  | true => simp only [cond_true]; exact z9 args m
  | false =>
  simp only [cond_false]; clear hc
  cases hc : Nat.beq f 10 with
  | true => simp only [cond_true]; exact z10 args m
  | false =>
  simp only [cond_false]; clear hc
  cases hc : Nat.beq f 11 with
  | true => simp only [cond_true]; exact z11 args m
  | false =>
  simp only [cond_false]; clear hc
  cases hc : Nat.beq f 12 with
  | true => simp only [cond_true]; exact z12 args m
  | false =>
  simp only [cond_false]; clear hc
  cases hc : Nat.beq f 13 with
  | true => simp only [cond_true]; exact z13 args m
  | false =>
  simp only [cond_false]; clear hc
  cases hc : Nat.beq f 14 with
  | true => simp only [cond_true]; exact z14 args m
  | false =>
  simp only [cond_false]; clear hc
  cases hc : Nat.beq f 15 with
  | true => simp only [cond_true]; exact z15 args m
  | false =>
  simp only [cond_false]; clear hc
  cases hc : Nat.beq f 16 with
  | true => simp only [cond_true]; exact z16 args m
  | false =>
  simp only [cond_false]; clear hc
  cases hc : Nat.beq f 17 with
  | true => simp only [cond_true]; exact z17 args m
  | false =>
  simp only [cond_false]; clear hc
  cases hc : Nat.beq f 18 with
  | true => simp only [cond_true]; exact z18 args m
  | false =>
  simp only [cond_false]; clear hc
  cases hc : Nat.beq f 19 with
  | true => simp only [cond_true]; exact z19 args m
  | false =>
  simp only [cond_false]; clear hc
  cases hc : Nat.beq f 20 with
  | true => simp only [cond_true]; exact z20 args m
  | false =>
  simp only [cond_false]; clear hc
  cases hc : Nat.beq f 21 with
  | true => simp only [cond_true]; exact z21 args m
  | false =>
  simp only [cond_false]; clear hc
  cases hc : Nat.beq f 22 with
  | true => simp only [cond_true]; exact z22 args m
  | false =>
  simp only [cond_false]; clear hc
  cases hc : Nat.beq f 23 with
  | true => simp only [cond_true]; exact z23 args m
  | false =>
  simp only [cond_false]; clear hc
  cases hc : Nat.beq f 24 with
  | true => simp only [cond_true]; exact z24 args m
  | false =>
  simp only [cond_false]; clear hc
  cases hc : Nat.beq f 25 with
  | true => simp only [cond_true]; exact z25 args m
  | false =>
  simp only [cond_false]; clear hc
  cases hc : Nat.beq f 26 with
  | true => simp only [cond_true]; exact z26 args m
  | false =>
  simp only [cond_false]; clear hc
  cases hc : Nat.beq f 27 with
  | true => simp only [cond_true]; exact z27 args m
  | false =>
  simp only [cond_false]; clear hc
  cases hc : Nat.beq f 28 with
  | true => simp only [cond_true]; exact z28 args m
  | false =>
  simp only [cond_false]; clear hc
  cases hc : Nat.beq f 29 with
  | true => simp only [cond_true]; exact z29 args m
  | false =>
  simp only [cond_false]; clear hc
  cases hc : Nat.beq f 30 with
  | true => simp only [cond_true]; exact z30 args m
  | false =>
  simp only [cond_false]; clear hc
  cases hc : Nat.beq f 31 with
  | true => simp only [cond_true]; exact z31 args m
  | false =>
  simp only [cond_false]; clear hc
  cases hc : Nat.beq f 32 with
  | true => simp only [cond_true]; exact z32 args m
  | false =>
  simp only [cond_false]; clear hc
  cases hc : Nat.beq f 33 with
  | true => simp only [cond_true]; exact z33 args m
  | false =>
  simp only [cond_false]; clear hc
  cases hc : Nat.beq f 34 with
  | true => simp only [cond_true]; exact z34 args m
  | false =>
  simp only [cond_false]; clear hc
  cases hc : Nat.beq f 35 with
  | true => simp only [cond_true]; exact z35 args m
  | false =>
  simp only [cond_false]; clear hc
  cases hc : Nat.beq f 36 with
  | true => simp only [cond_true]; exact z36 args m
  | false =>
  simp only [cond_false]; clear hc
  cases hc : Nat.beq f 37 with
  | true => simp only [cond_true]; exact z37 args m
  | false =>
  simp only [cond_false]; clear hc
  cases hc : Nat.beq f 38 with
  | true => simp only [cond_true]; exact z38 args m
  | false =>
  simp only [cond_false]; clear hc
  cases hc : Nat.beq f 39 with
  | true => simp only [cond_true]; exact z39 args m
  | false =>
  simp only [cond_false]; clear hc
  cases hc : Nat.beq f 41 with
  | true => simp only [cond_true]; exact z41 args m
  | false =>
  simp only [cond_false]; clear hc
  cases hc : Nat.beq f 42 with
  | true => simp only [cond_true]; exact z42 args m
  | false =>
  simp only [cond_false]; clear hc
  cases hc : Nat.beq f 43 with
  | true => simp only [cond_true]; exact z43 args m
  | false =>
  simp only [cond_false]; clear hc
  cases hc : Nat.beq f 44 with
  | true => simp only [cond_true]; exact z44 args m
  | false =>
  simp only [cond_false]; clear hc
  cases hc : Nat.beq f 45 with
  | true => simp only [cond_true]; exact z45 args m
  | false =>
  simp only [cond_false]; clear hc
  cases hc : Nat.beq f 46 with
  | true => simp only [cond_true]; exact z46 args m
  | false =>
  simp only [cond_false]; clear hc
  cases hc : Nat.beq f 47 with
  | true => simp only [cond_true]; exact z47 args m
  | false =>
  simp only [cond_false]; clear hc
  cases hc : Nat.beq f 48 with
  | true => simp only [cond_true]; exact z48 args m
  | false =>
  simp only [cond_false]; clear hc
  cases hc : Nat.beq f 49 with
  | true => simp only [cond_true]; exact z49 args m
  | false =>
  simp only [cond_false]; clear hc
  cases hc : Nat.beq f 50 with
  | true => simp only [cond_true]; exact z50 args m
  | false =>
  simp only [cond_false]; clear hc
  cases hc : Nat.beq f 51 with
  | true => simp only [cond_true]; exact z51 args m
  | false =>
  simp only [cond_false]; clear hc
  cases hc : Nat.beq f 52 with
  | true => simp only [cond_true]; exact z52 args m
  | false =>
  simp only [cond_false]; clear hc
  cases hc : Nat.beq f 53 with
  | true => simp only [cond_true]; exact z53 args m
  | false =>
  simp only [cond_false]; clear hc
  cases hc : Nat.beq f 54 with
  | true => simp only [cond_true]; exact z54 args m
  | false =>
  simp only [cond_false]; clear hc
  cases hc : Nat.beq f 55 with
  | true => simp only [cond_true]; exact z55 args m
  | false =>
  simp only [cond_false]; clear hc
  cases hc : Nat.beq f 56 with
  | true => simp only [cond_true]; exact z56 args m
  | false =>
  simp only [cond_false]; clear hc
  cases hc : Nat.beq f 57 with
  | true => simp only [cond_true]; exact z57 args m
  | false =>
  simp only [cond_false]; clear hc
  cases hc : Nat.beq f 58 with
  | true => simp only [cond_true]; exact z58 args m
  | false =>
  simp only [cond_false]; clear hc
  cases hc : Nat.beq f 59 with
  | true => simp only [cond_true]; exact z59 args m
  | false =>
  simp only [cond_false]; clear hc
  cases hc : Nat.beq f 60 with
  | true => simp only [cond_true]; exact z60 args m
  | false =>
  simp only [cond_false]; clear hc
  cases hc : Nat.beq f 61 with
  | true => simp only [cond_true]; exact z61 args m
  | false =>
  simp only [cond_false]; clear hc
  cases hc : Nat.beq f 62 with
  | true => simp only [cond_true]; exact z62 args m
  | false =>
  simp only [cond_false]; clear hc
  cases hc : Nat.beq f 63 with
  | true => simp only [cond_true]; exact z63 args m
  | false =>
  simp only [cond_false]; clear hc
  cases hc : Nat.beq f 64 with
  | true => simp only [cond_true]; exact z64 args m
  | false =>
  simp only [cond_false]; clear hc
  cases hc : Nat.beq f 65 with
  | true => simp only [cond_true]; exact z65 args m
  | false =>
  simp only [cond_false]; clear hc
  cases hc : Nat.beq f 66 with
  | true => simp only [cond_true]; exact z66 args m
  | false =>
  simp only [cond_false]; clear hc
  cases hc : Nat.beq f 67 with
  | true => simp only [cond_true]; exact z67 args m
  | false =>
  simp only [cond_false]; clear hc
  cases hc : Nat.beq f 68 with
  | true => simp only [cond_true]; exact z68 args m
  | false =>
  simp only [cond_false]; clear hc
  cases hc : Nat.beq f 69 with
  | true => simp only [cond_true]; exact z69 args m
  | false =>
  simp only [cond_false]; clear hc
  cases hc : Nat.beq f 70 with
  | true => simp only [cond_true]; exact z70 args m
  | false =>
  simp only [cond_false]; clear hc
  cases hc : Nat.beq f 71 with
  | true => simp only [cond_true]; exact z71 args m
  | false =>
  simp only [cond_false]; clear hc
  cases hc : Nat.beq f 72 with
  | true => simp only [cond_true]; exact z72 args m
  | false =>
  simp only [cond_false]; clear hc
  cases hc : Nat.beq f 73 with
  | true => simp only [cond_true]; exact z73 args m
  | false =>
  simp only [cond_false]; clear hc
  cases hc : Nat.beq f 74 with
  | true => simp only [cond_true]; exact z74 args m
  | false =>
  simp only [cond_false]; clear hc
  cases hc : Nat.beq f 75 with
  | true => simp only [cond_true]; exact z75 args m
  | false =>
  simp only [cond_false]; clear hc
  cases hc : Nat.beq f 76 with
  | true => simp only [cond_true]; exact z76 args m
  | false =>
  simp only [cond_false]; clear hc
  cases hc : Nat.beq f 77 with
  | true => simp only [cond_true]; exact z77 args m
  | false =>
  simp only [cond_false]; clear hc
  cases hc : Nat.beq f 78 with
  | true => simp only [cond_true]; exact z78 args m
  | false =>
  simp only [cond_false]; clear hc
  cases hc : Nat.beq f 79 with
  | true => simp only [cond_true]; exact z79 args m
  | false =>
  simp only [cond_false]; clear hc
  cases hc : Nat.beq f 80 with
  | true => simp only [cond_true]; exact z80 args m
  | false =>
  simp only [cond_false]; clear hc
  cases hc : Nat.beq f 81 with
  | true => simp only [cond_true]; exact z81 args m
  | false =>
  simp only [cond_false]; clear hc
  cases hc : Nat.beq f 82 with
  | true => simp only [cond_true]; exact z82 args m
  | false =>
  simp only [cond_false]; clear hc
  cases hc : Nat.beq f 83 with
  | true => simp only [cond_true]; exact z83 args m
  | false =>
  simp only [cond_false]; clear hc
  cases hc : Nat.beq f 84 with
  | true => simp only [cond_true]; exact z84 args m
  | false =>
  simp only [cond_false]; clear hc
  cases hc : Nat.beq f 85 with
  | true => simp only [cond_true]; exact z85 args m
  | false =>
  simp only [cond_false]; clear hc
  cases hc : Nat.beq f 86 with
  | true => simp only [cond_true]; exact z86 args m
  | false =>
  simp only [cond_false]; clear hc
  cases hc : Nat.beq f 87 with
  | true => simp only [cond_true]; exact z87 args m
  | false =>
  simp only [cond_false]; clear hc
  cases hc : Nat.beq f 88 with
  | true => simp only [cond_true]; exact z88 args m
  | false =>
  simp only [cond_false]; clear hc
  cases hc : Nat.beq f 89 with
  | true => simp only [cond_true]; exact z89 args m
  | false =>
  simp only [cond_false]; clear hc
  first | exact fun _ _ => rfl | exact fun _ _ => trivial

theorem zl13_4_0 (vs : List (PV sig)) (m : Mem sig) (ds : List (FuncId × List (PV sig))) (nt : Nat) : ∀ ρ K, Rl13_4_0 (Tabs 0) ρ vs m ds nt K = none := by
  rcases rl13_4_0 vs m ds nt with h | ⟨a1, a2, a3, a4, a5, rfl, rfl, rfl, rfl⟩
  · exact fun ρ K => h ..
  · obtain ⟨a4_0, a4_1, a4_2, a4_3⟩ := a4; obtain ⟨a5_0, a5_1⟩ := a5; exact fun ρ K => rfl

theorem zl22_4_0 (vs : List (PV sig)) (m : Mem sig) (ds : List (FuncId × List (PV sig))) (nt : Nat) : ∀ ρ K, Rl22_4_0 (Tabs 0) ρ vs m ds nt K = none := by
  rcases rl22_4_0 vs m ds nt with h | ⟨a1, a2, a3, a4, a5, a6, a7, a8, a9, a10, a11, rfl, rfl, rfl, rfl⟩
  · exact fun ρ K => h ..
  · exact fun ρ K => rfl

theorem zl22_10_0 (vs : List (PV sig)) (m : Mem sig) (ds : List (FuncId × List (PV sig))) (nt : Nat) : ∀ ρ K, Rl22_10_0 (Tabs 0) ρ vs m ds nt K = none := by
  rcases rl22_10_0 vs m ds nt with h | ⟨a1, a2, a3, a4, a5, a6, a7, a8, a9, a10, a11, rfl, rfl, rfl, rfl⟩
  · exact fun ρ K => h ..
  · exact fun ρ K => rfl

theorem zl23_2_0 (vs : List (PV sig)) (m : Mem sig) (ds : List (FuncId × List (PV sig))) (nt : Nat) : ∀ ρ K, Rl23_2_0 (Tabs 0) ρ vs m ds nt K = none := by
  rcases rl23_2_0 vs m ds nt with h | ⟨a1, a2, a3, a4, a5, a6, a7, rfl, rfl, rfl, rfl⟩
  · exact fun ρ K => h ..
  · obtain ⟨a6_0, a6_1, a6_2, a6_3⟩ := a6; obtain ⟨a7_0, a7_1⟩ := a7; exact fun ρ K => rfl

theorem zl23_23_0 (vs : List (PV sig)) (m : Mem sig) (ds : List (FuncId × List (PV sig))) (nt : Nat) : ∀ ρ K, Rl23_23_0 (Tabs 0) ρ vs m ds nt K = none := by
  rcases rl23_23_0 vs m ds nt with h | ⟨a1, a2, a3, a4, a5, a6, a7, rfl, rfl, rfl, rfl⟩
  · exact fun ρ K => h ..
  · obtain ⟨a5_0, a5_1, a5_2, a5_3⟩ := a5; obtain ⟨a6_0, a6_1⟩ := a6; obtain ⟨a7_0, a7_1⟩ := a7; exact fun ρ K => rfl

theorem zl26_4_0 (vs : List (PV sig)) (m : Mem sig) (ds : List (FuncId × List (PV sig))) (nt : Nat) : ∀ ρ K, Rl26_4_0 (Tabs 0) ρ vs m ds nt K = none := by
  rcases rl26_4_0 vs m ds nt with h | ⟨a1, a2, a3, rfl, rfl, rfl, rfl⟩
  · exact fun ρ K => h ..
  · obtain ⟨a2_0, a2_1, a2_2, a2_3⟩ := a2; obtain ⟨a3_0, a3_1, a3_2, a3_3⟩ := a3; exact fun ρ K => rfl

theorem zl27_4_0 (vs : List (PV sig)) (m : Mem sig) (ds : List (FuncId × List (PV sig))) (nt : Nat) : ∀ ρ K, Rl27_4_0 (Tabs 0) ρ vs m ds nt K = none := by
  rcases rl27_4_0 vs m ds nt with h | ⟨a1, a2, a3, rfl, rfl, rfl, rfl⟩
  · exact fun ρ K => h ..
  · obtain ⟨a2_0, a2_1⟩ := a2; obtain ⟨a3_0, a3_1⟩ := a3; exact fun ρ K => rfl

theorem zl29_9_0 (vs : List (PV sig)) (m : Mem sig) (ds : List (FuncId × List (PV sig))) (nt : Nat) : ∀ ρ K, Rl29_9_0 (Tabs 0) ρ vs m ds nt K = none := by
  rcases rl29_9_0 vs m ds nt with h | ⟨a1, a2, a3, a4, a5, a6, a7, a8, rfl, rfl, rfl, rfl⟩
  · exact fun ρ K => h ..
  · obtain ⟨a6_0, a6_1, a6_2, a6_3⟩ := a6; obtain ⟨a7_0, a7_1, a7_2, a7_3⟩ := a7; obtain ⟨a8_0, a8_1, a8_2, a8_3⟩ := a8; exact fun ρ K => rfl

theorem zl32_6_0 (vs : List (PV sig)) (m : Mem sig) (ds : List (FuncId × List (PV sig))) (nt : Nat) : ∀ ρ K, Rl32_6_0 (Tabs 0) ρ vs m ds nt K = none := by
  rcases rl32_6_0 vs m ds nt with h | ⟨a1, a2, a3, a4, a5, a6, a7, a8, a9, rfl, rfl, rfl, rfl⟩
  · exact fun ρ K => h ..
  · obtain ⟨a6_0, a6_1, a6_2, a6_3⟩ := a6; obtain ⟨a7_0, a7_1, a7_2, a7_3⟩ := a7; exact fun ρ K => rfl

theorem zl33_4_0 (vs : List (PV sig)) (m : Mem sig) (ds : List (FuncId × List (PV sig))) (nt : Nat) : ∀ ρ K, Rl33_4_0 (Tabs 0) ρ vs m ds nt K = none := by
  rcases rl33_4_0 vs m ds nt with h | ⟨a1, a2, a3, a4, a5, rfl, rfl, rfl, rfl⟩
  · exact fun ρ K => h ..
  · obtain ⟨a4_0, a4_1, a4_2, a4_3⟩ := a4; obtain ⟨a5_0, a5_1, a5_2, a5_3⟩ := a5; exact fun ρ K => rfl

theorem zl33_10_0 (vs : List (PV sig)) (m : Mem sig) (ds : List (FuncId × List (PV sig))) (nt : Nat) : ∀ ρ K, Rl33_10_0 (Tabs 0) ρ vs m ds nt K = none := by
  rcases rl33_10_0 vs m ds nt with h | ⟨a1, a2, a3, a4, a5, a6, rfl, rfl, rfl, rfl⟩
  · exact fun ρ K => h ..
  · obtain ⟨a4_0, a4_1, a4_2, a4_3⟩ := a4; obtain ⟨a5_0, a5_1, a5_2, a5_3⟩ := a5; exact fun ρ K => rfl

theorem zl35_4_0 (vs : List (PV sig)) (m : Mem sig) (ds : List (FuncId × List (PV sig))) (nt : Nat) : ∀ ρ K, Rl35_4_0 (Tabs 0) ρ vs m ds nt K = none := by
  rcases rl35_4_0 vs m ds nt with h | ⟨a1, a2, rfl, rfl, rfl, rfl⟩
  · exact fun ρ K => h ..
  · obtain ⟨a2_0, a2_1, a2_2, a2_3⟩ := a2; exact fun ρ K => rfl

theorem zl35_10_0 (vs : List (PV sig)) (m : Mem sig) (ds : List (FuncId × List (PV sig))) (nt : Nat) : ∀ ρ K, Rl35_10_0 (Tabs 0) ρ vs m ds nt K = none := by
  rcases rl35_10_0 vs m ds nt with h | ⟨a1, a2, a3, a4, a5, rfl, rfl, rfl, rfl⟩
  · exact fun ρ K => h ..
  · obtain ⟨a5_0, a5_1, a5_2, a5_3⟩ := a5; exact fun ρ K => rfl

theorem zl36_2_0 (vs : List (PV sig)) (m : Mem sig) (ds : List (FuncId × List (PV sig))) (nt : Nat) : ∀ ρ K, Rl36_2_0 (Tabs 0) ρ vs m ds nt K = none := by
  rcases rl36_2_0 vs m ds nt with h | ⟨a1, a2, rfl, rfl, rfl, rfl⟩
  · exact fun ρ K => h ..
  · obtain ⟨a2_0, a2_1, a2_2, a2_3⟩ := a2; exact fun ρ K => rfl

theorem zl36_8_0 (vs : List (PV sig)) (m : Mem sig) (ds : List (FuncId × List (PV sig))) (nt : Nat) : ∀ ρ K, Rl36_8_0 (Tabs 0) ρ vs m ds nt K = none := by
  rcases rl36_8_0 vs m ds nt with h | ⟨a1, a2, a3, rfl, rfl, rfl, rfl⟩
  · exact fun ρ K => h ..
  · obtain ⟨a3_0, a3_1, a3_2, a3_3⟩ := a3; exact fun ρ K => rfl

theorem zl37_6_0 (vs : List (PV sig)) (m : Mem sig) (ds : List (FuncId × List (PV sig))) (nt : Nat) : ∀ ρ K, Rl37_6_0 (Tabs 0) ρ vs m ds nt K = none := by
  rcases rl37_6_0 vs m ds nt with h | ⟨a1, a2, a3, a4, a5, a6, a7, rfl, rfl, rfl, rfl⟩
  · exact fun ρ K => h ..
  · obtain ⟨a4_0, a4_1, a4_2, a4_3⟩ := a4; obtain ⟨a5_0, a5_1, a5_2, a5_3⟩ := a5; exact fun ρ K => rfl

theorem zl38_5_0 (vs : List (PV sig)) (m : Mem sig) (ds : List (FuncId × List (PV sig))) (nt : Nat) : ∀ ρ K, Rl38_5_0 (Tabs 0) ρ vs m ds nt K = none := by
  rcases rl38_5_0 vs m ds nt with h | ⟨a1, a2, a3, a4, a5, rfl, rfl, rfl, rfl⟩
  · exact fun ρ K => h ..
  · obtain ⟨a3_0, a3_1, a3_2, a3_3⟩ := a3; obtain ⟨a4_0, a4_1, a4_2, a4_3⟩ := a4; exact fun ρ K => rfl

theorem zl39_4_0 (vs : List (PV sig)) (m : Mem sig) (ds : List (FuncId × List (PV sig))) (nt : Nat) : ∀ ρ K, Rl39_4_0 (Tabs 0) ρ vs m ds nt K = none := by
  rcases rl39_4_0 vs m ds nt with h | ⟨a1, a2, a3, a4, a5, rfl, rfl, rfl, rfl⟩
  · exact fun ρ K => h ..
  · exact fun ρ K => rfl

theorem zl41_6_0 (vs : List (PV sig)) (m : Mem sig) (ds : List (FuncId × List (PV sig))) (nt : Nat) : ∀ ρ K, Rl41_6_0 (Tabs 0) ρ vs m ds nt K = none := by
  rcases rl41_6_0 vs m ds nt with h | ⟨a1, a2, a3, a4, a5, a6, a7, a8, a9, a10, rfl, rfl, rfl, rfl⟩
  · exact fun ρ K => h ..
  · obtain ⟨a6_0, a6_1, a6_2, a6_3⟩ := a6; obtain ⟨a7_0, a7_1, a7_2, a7_3⟩ := a7; obtain ⟨a8_0, a8_1⟩ := a8; obtain ⟨a9_0, a9_1, a9_2, a9_3⟩ := a9; obtain ⟨a10_0, a10_1, a10_2, a10_3⟩ := a10; exact fun ρ K => rfl

theorem zl43_7_0 (vs : List (PV sig)) (m : Mem sig) (ds : List (FuncId × List (PV sig))) (nt : Nat) : ∀ ρ K, Rl43_7_0 (Tabs 0) ρ vs m ds nt K = none := by
  rcases rl43_7_0 vs m ds nt with h | ⟨a1, a2, a3, a4, a5, a6, a7, a8, rfl, rfl, rfl, rfl⟩
  · exact fun ρ K => h ..
  · obtain ⟨a4_0, a4_1, a4_2, a4_3⟩ := a4; obtain ⟨a5_0, a5_1, a5_2, a5_3⟩ := a5; obtain ⟨a6_0, a6_1⟩ := a6; obtain ⟨a7_0, a7_1, a7_2, a7_3⟩ := a7; obtain ⟨a8_0, a8_1, a8_2, a8_3⟩ := a8; exact fun ρ K => rfl

theorem zl47_3_0 (vs : List (PV sig)) (m : Mem sig) (ds : List (FuncId × List (PV sig))) (nt : Nat) : ∀ ρ K, Rl47_3_0 (Tabs 0) ρ vs m ds nt K = none := by
  rcases rl47_3_0 vs m ds nt with h | ⟨a1, a2, a3, a4, rfl, rfl, rfl, rfl⟩
  · exact fun ρ K => h ..
  · obtain ⟨a4_0, a4_1, a4_2, a4_3⟩ := a4; exact fun ρ K => rfl

theorem zl48_18_0 (vs : List (PV sig)) (m : Mem sig) (ds : List (FuncId × List (PV sig))) (nt : Nat) : ∀ ρ K, Rl48_18_0 (Tabs 0) ρ vs m ds nt K = none := by
  rcases rl48_18_0 vs m ds nt with h | ⟨a1, a2, a3, rfl, rfl, rfl, rfl⟩
  · exact fun ρ K => h ..
  · obtain ⟨a3_0, a3_1, a3_2, a3_3⟩ := a3; exact fun ρ K => rfl

theorem zl49_5_0 (vs : List (PV sig)) (m : Mem sig) (ds : List (FuncId × List (PV sig))) (nt : Nat) : ∀ ρ K, Rl49_5_0 (Tabs 0) ρ vs m ds nt K = none := by
  rcases rl49_5_0 vs m ds nt with h | ⟨a1, a2, a3, a4, rfl, rfl, rfl, rfl⟩
  · exact fun ρ K => h ..
  · obtain ⟨a4_0, a4_1⟩ := a4; exact fun ρ K => rfl

theorem zl50_4_0 (vs : List (PV sig)) (m : Mem sig) (ds : List (FuncId × List (PV sig))) (nt : Nat) : ∀ ρ K, Rl50_4_0 (Tabs 0) ρ vs m ds nt K = none := by
  rcases rl50_4_0 vs m ds nt with h | ⟨a1, a2, a3, a4, rfl, rfl, rfl, rfl⟩
  · exact fun ρ K => h ..
  · obtain ⟨a4_0, a4_1, a4_2, a4_3⟩ := a4; exact fun ρ K => rfl

theorem zl51_6_0 (vs : List (PV sig)) (m : Mem sig) (ds : List (FuncId × List (PV sig))) (nt : Nat) : ∀ ρ K, Rl51_6_0 (Tabs 0) ρ vs m ds nt K = none := by
  rcases rl51_6_0 vs m ds nt with h | ⟨a1, a2, a3, a4, a5, a6, rfl, rfl, rfl, rfl⟩
  · exact fun ρ K => h ..
  · obtain ⟨a4_0, a4_1, a4_2, a4_3⟩ := a4; obtain ⟨a5_0, a5_1, a5_2, a5_3⟩ := a5; obtain ⟨a6_0, a6_1, a6_2, a6_3⟩ := a6; exact fun ρ K => rfl

theorem zl52_6_0 (vs : List (PV sig)) (m : Mem sig) (ds : List (FuncId × List (PV sig))) (nt : Nat) : ∀ ρ K, Rl52_6_0 (Tabs 0) ρ vs m ds nt K = none := by
  rcases rl52_6_0 vs m ds nt with h | ⟨a1, a2, a3, a4, a5, a6, a7, rfl, rfl, rfl, rfl⟩
  · exact fun ρ K => h ..
  · obtain ⟨a5_0, a5_1⟩ := a5; obtain ⟨a6_0, a6_1, a6_2, a6_3⟩ := a6; obtain ⟨a7_0, a7_1, a7_2, a7_3⟩ := a7; exact fun ρ K => rfl

theorem zl52_11_0 (vs : List (PV sig)) (m : Mem sig) (ds : List (FuncId × List (PV sig))) (nt : Nat) : ∀ ρ K, Rl52_11_0 (Tabs 0) ρ vs m ds nt K = none := by
  rcases rl52_11_0 vs m ds nt with h | ⟨a1, a2, a3, a4, a5, rfl, rfl, rfl, rfl⟩
  · exact fun ρ K => h ..
  · obtain ⟨a3_0, a3_1⟩ := a3; obtain ⟨a4_0, a4_1, a4_2, a4_3⟩ := a4; obtain ⟨a5_0, a5_1, a5_2, a5_3⟩ := a5; exact fun ρ K => rfl

theorem zl55_3_0 (vs : List (PV sig)) (m : Mem sig) (ds : List (FuncId × List (PV sig))) (nt : Nat) : ∀ ρ K, Rl55_3_0 (Tabs 0) ρ vs m ds nt K = none := by
  rcases rl55_3_0 vs m ds nt with h | ⟨a1, a2, a3, a4, a5, a6, a7, rfl, rfl, rfl, rfl⟩
  · exact fun ρ K => h ..
  · obtain ⟨a5_0, a5_1, a5_2, a5_3⟩ := a5; obtain ⟨a6_0, a6_1⟩ := a6; obtain ⟨a7_0, a7_1, a7_2, a7_3⟩ := a7; exact fun ρ K => rfl

theorem zl56_2_0 (vs : List (PV sig)) (m : Mem sig) (ds : List (FuncId × List (PV sig))) (nt : Nat) : ∀ ρ K, Rl56_2_0 (Tabs 0) ρ vs m ds nt K = none := by
  rcases rl56_2_0 vs m ds nt with h | ⟨a1, a2, rfl, rfl, rfl, rfl⟩
  · exact fun ρ K => h ..
  · exact fun ρ K => rfl

theorem zl61_6_0 (vs : List (PV sig)) (m : Mem sig) (ds : List (FuncId × List (PV sig))) (nt : Nat) : ∀ ρ K, Rl61_6_0 (Tabs 0) ρ vs m ds nt K = none := by
  rcases rl61_6_0 vs m ds nt with h | ⟨a1, a2, a3, a4, a5, rfl, rfl, rfl, rfl⟩
  · exact fun ρ K => h ..
  · obtain ⟨a3_0, a3_1⟩ := a3; obtain ⟨a4_0, a4_1, a4_2, a4_3⟩ := a4; obtain ⟨a5_0, a5_1, a5_2, a5_3⟩ := a5; exact fun ρ K => rfl

theorem zl61_11_0 (vs : List (PV sig)) (m : Mem sig) (ds : List (FuncId × List (PV sig))) (nt : Nat) : ∀ ρ K, Rl61_11_0 (Tabs 0) ρ vs m ds nt K = none := by
  rcases rl61_11_0 vs m ds nt with h | ⟨a1, a2, a3, a4, a5, rfl, rfl, rfl, rfl⟩
  · exact fun ρ K => h ..
  · obtain ⟨a3_0, a3_1⟩ := a3; obtain ⟨a4_0, a4_1, a4_2, a4_3⟩ := a4; obtain ⟨a5_0, a5_1, a5_2, a5_3⟩ := a5; exact fun ρ K => rfl

theorem zl74_17_0 (vs : List (PV sig)) (m : Mem sig) (ds : List (FuncId × List (PV sig))) (nt : Nat) : ∀ ρ K, Rl74_17_0 (Tabs 0) ρ vs m ds nt K = none := by
  rcases rl74_17_0 vs m ds nt with h | ⟨a1, a2, a3, a4, a5, a6, rfl, rfl, rfl, rfl⟩
  · exact fun ρ K => h ..
  · obtain ⟨a6_0, a6_1, a6_2, a6_3⟩ := a6; exact fun ρ K => rfl

theorem zl75_3_0 (vs : List (PV sig)) (m : Mem sig) (ds : List (FuncId × List (PV sig))) (nt : Nat) : ∀ ρ K, Rl75_3_0 (Tabs 0) ρ vs m ds nt K = none := by
  rcases rl75_3_0 vs m ds nt with h | ⟨a1, a2, a3, a4, a5, a6, a7, rfl, rfl, rfl, rfl⟩
  · exact fun ρ K => h ..
  · obtain ⟨a5_0, a5_1, a5_2, a5_3⟩ := a5; obtain ⟨a6_0, a6_1, a6_2, a6_3⟩ := a6; obtain ⟨a7_0, a7_1, a7_2, a7_3⟩ := a7; exact fun ρ K => rfl

theorem zl75_3_1 (vs : List (PV sig)) (m : Mem sig) (ds : List (FuncId × List (PV sig))) (nt : Nat) : ∀ ρ K, Rl75_3_1 (Tabs 0) ρ vs m ds nt K = none := by
  rcases rl75_3_1 vs m ds nt with h | ⟨a1, a2, a3, a4, a5, a6, a7, a8, a9, rfl, rfl, rfl, rfl⟩
  · exact fun ρ K => h ..
  · obtain ⟨a7_0, a7_1, a7_2, a7_3⟩ := a7; obtain ⟨a8_0, a8_1, a8_2, a8_3⟩ := a8; obtain ⟨a9_0, a9_1, a9_2, a9_3⟩ := a9; exact fun ρ K => rfl

theorem zl78_6_0 (vs : List (PV sig)) (m : Mem sig) (ds : List (FuncId × List (PV sig))) (nt : Nat) : ∀ ρ K, Rl78_6_0 (Tabs 0) ρ vs m ds nt K = none := by
  rcases rl78_6_0 vs m ds nt with h | ⟨a1, a2, a3, a4, a5, a6, rfl, rfl, rfl, rfl⟩
  · exact fun ρ K => h ..
  · obtain ⟨a4_0, a4_1, a4_2, a4_3⟩ := a4; obtain ⟨a5_0, a5_1, a5_2, a5_3⟩ := a5; obtain ⟨a6_0, a6_1, a6_2, a6_3⟩ := a6; exact fun ρ K => rfl

theorem zl79_6_0 (vs : List (PV sig)) (m : Mem sig) (ds : List (FuncId × List (PV sig))) (nt : Nat) : ∀ ρ K, Rl79_6_0 (Tabs 0) ρ vs m ds nt K = none := by
  rcases rl79_6_0 vs m ds nt with h | ⟨a1, a2, a3, a4, a5, a6, a7, rfl, rfl, rfl, rfl⟩
  · exact fun ρ K => h ..
  · obtain ⟨a4_0, a4_1, a4_2, a4_3⟩ := a4; obtain ⟨a5_0, a5_1⟩ := a5; obtain ⟨a6_0, a6_1, a6_2, a6_3⟩ := a6; obtain ⟨a7_0, a7_1⟩ := a7; exact fun ρ K => rfl

theorem zl82_2_0 (vs : List (PV sig)) (m : Mem sig) (ds : List (FuncId × List (PV sig))) (nt : Nat) : ∀ ρ K, Rl82_2_0 (Tabs 0) ρ vs m ds nt K = none := by
  rcases rl82_2_0 vs m ds nt with h | ⟨a1, a2, a3, rfl, rfl, rfl, rfl⟩
  · exact fun ρ K => h ..
  · exact fun ρ K => rfl

theorem zl82_2_1 (vs : List (PV sig)) (m : Mem sig) (ds : List (FuncId × List (PV sig))) (nt : Nat) : ∀ ρ K, Rl82_2_1 (Tabs 0) ρ vs m ds nt K = none := by
  rcases rl82_2_1 vs m ds nt with h | ⟨a1, a2, a3, a4, rfl, rfl, rfl, rfl⟩
  · exact fun ρ K => h ..
  · exact fun ρ K => rfl

theorem zl83_2_0 (vs : List (PV sig)) (m : Mem sig) (ds : List (FuncId × List (PV sig))) (nt : Nat) : ∀ ρ K, Rl83_2_0 (Tabs 0) ρ vs m ds nt K = none := by
  rcases rl83_2_0 vs m ds nt with h | ⟨a1, a2, a3, rfl, rfl, rfl, rfl⟩
  · exact fun ρ K => h ..
  · exact fun ρ K => rfl

theorem zl84_3_0 (vs : List (PV sig)) (m : Mem sig) (ds : List (FuncId × List (PV sig))) (nt : Nat) : ∀ ρ K, Rl84_3_0 (Tabs 0) ρ vs m ds nt K = none := by
  rcases rl84_3_0 vs m ds nt with h | ⟨a1, a2, a3, a4, a5, a6, a7, a8, a9, rfl, rfl, rfl, rfl⟩
  · exact fun ρ K => h ..
  · obtain ⟨a9_0, a9_1, a9_2, a9_3⟩ := a9; exact fun ρ K => rfl

theorem zl87_2_0 (vs : List (PV sig)) (m : Mem sig) (ds : List (FuncId × List (PV sig))) (nt : Nat) : ∀ ρ K, Rl87_2_0 (Tabs 0) ρ vs m ds nt K = none := by
  rcases rl87_2_0 vs m ds nt with h | ⟨a1, a2, a3, rfl, rfl, rfl, rfl⟩
  · exact fun ρ K => h ..
  · obtain ⟨a2_0, a2_1, a2_2, a2_3⟩ := a2; obtain ⟨a3_0, a3_1, a3_2, a3_3⟩ := a3; exact fun ρ K => rfl

theorem zL (f np key : Nat) (st : St sig) : ∀ ρ K, LT (Tabs 0) ρ f np key st K = none := by
  unfold LT
  cases hc : Nat.beq f 13 && (Nat.beq np 0 && Nat.beq key 4) with
  | true => simp only [cond_true]; exact zl13_4_0 _ _ _ _
  | false =>
  simp only [cond_false]; clear hc
  cases hc : Nat.beq f 22 && (Nat.beq np 0 && Nat.beq key 4) with
  | true => simp only [cond_true]; exact zl22_4_0 _ _ _ _
  | false =>
  simp only [cond_false]; clear hc
  cases hc : Nat.beq f 22 && (Nat.beq np 0 && Nat.beq key 10) with
  | true => simp only [cond_true]; exact zl22_10_0 _ _ _ _
  | false =>
  simp only [cond_false]; clear hc
  cases hc : Nat.beq f 23 && (Nat.beq np 0 && Nat.beq key 2) with
  | true => simp only [cond_true]; exact zl23_2_0 _ _ _ _
  | false =>
  simp only [cond_false]; clear hc
  cases hc : Nat.beq f 23 && (Nat.beq np 0 && Nat.beq key 23) with
  | true => simp only [cond_true]; exact zl23_23_0 _ _ _ _
  | false =>
  simp only [cond_false]; clear hc
  cases hc : Nat.beq f 26 && (Nat.beq np 0 && Nat.beq key 4) with
  | true => simp only [cond_true]; exact zl26_4_0 _ _ _ _
  | false =>
  simp only [cond_false]; clear hc
  cases hc : Nat.beq f 27 && (Nat.beq np 0 && Nat.beq key 4) with
  | true => simp only [cond_true]; exact zl27_4_0 _ _ _ _
  | false =>
  simp only [cond_false]; clear hc
  cases hc : Nat.beq f 29 && (Nat.beq np 0 && Nat.beq key 9) with
  | true => simp only [cond_true]; exact zl29_9_0 _ _ _ _
  | false =>
  simp only [cond_false]; clear hc
  cases hc : Nat.beq f 32 && (Nat.beq np 0 && Nat.beq key 6) with
  | true => simp only [cond_true]; exact zl32_6_0 _ _ _ _
  | false =>
  simp only [cond_false]; clear hc
  cases hc : Nat.beq f 33 && (Nat.beq np 0 && Nat.beq key 4) with
  | true => simp only [cond_true]; exact zl33_4_0 _ _ _ _
  | false =>
  simp only [cond_false]; clear hc
  cases hc : Nat.beq f 33 && (Nat.beq np 0 && Nat.beq key 10) with
  | true => simp only [cond_true]; exact zl33_10_0 _ _ _ _
  | false =>
  simp only [cond_false]; clear hc
  cases hc : Nat.beq f 35 && (Nat.beq np 0 && Nat.beq key 4) with
  | true => simp only [cond_true]; exact zl35_4_0 _ _ _ _
  | false =>
  simp only [cond_false]; clear hc
  cases hc : Nat.beq f 35 && (Nat.beq np 0 && Nat.beq key 10) with
  | true => simp only [cond_true]; exact zl35_10_0 _ _ _ _
  | false =>
  simp only [cond_false]; clear hc
  cases hc : Nat.beq f 36 && (Nat.beq np 0 && Nat.beq key 2) with
  | true => simp only [cond_true]; exact zl36_2_0 _ _ _ _
  | false =>
  simp only [cond_false]; clear hc
  cases hc : Nat.beq f 36 && (Nat.beq np 0 && Nat.beq key 8) with
  | true => simp only [cond_true]; exact zl36_8_0 _ _ _ _
  | false =>
  simp only [cond_false]; clear hc
  cases hc : Nat.beq f 37 && (Nat.beq np 0 && Nat.beq key 6) with
  | true => simp only [cond_true]; exact zl37_6_0 _ _ _ _
  | false =>
  simp only [cond_false]; clear hc
  cases hc : Nat.beq f 38 && (Nat.beq np 0 && Nat.beq key 5) with
  | true => simp only [cond_true]; exact zl38_5_0 _ _ _ _
  | false =>
  simp only [cond_false]; clear hc
  cases hc : Nat.beq f 39 && (Nat.beq np 0 && Nat.beq key 4) with
  | true => simp only [cond_true]; exact zl39_4_0 _ _ _ _
  | false =>
  simp only [cond_false]; clear hc
  cases hc : Nat.beq f 41 && (Nat.beq np 1 && Nat.beq key 6) with
  | true => simp only [cond_true]; exact zl41_6_0 _ _ _ _
  | false =>
  simp only [cond_false]; clear hc
  cases hc : Nat.beq f 43 && (Nat.beq np 1 && Nat.beq key 7) with
  | true => simp only [cond_true]; exact zl43_7_0 _ _ _ _
  | false =>
  simp only [cond_false]; clear hc
  cases hc : Nat.beq f 47 && (Nat.beq np 0 && Nat.beq key 3) with
  | true => simp only [cond_true]; exact zl47_3_0 _ _ _ _
  | false =>
  simp only [cond_false]; clear hc
  cases hc : Nat.beq f 48 && (Nat.beq np 0 && Nat.beq key 18) with
  | true => simp only [cond_true]; exact zl48_18_0 _ _ _ _
  | false =>
  simp only [cond_false]; clear hc
  cases hc : Nat.beq f 49 && (Nat.beq np 0 && Nat.beq key 5) with
  | true => simp only [cond_true]; exact zl49_5_0 _ _ _ _
  | false =>
  simp only [cond_false]; clear hc
  cases hc : Nat.beq f 50 && (Nat.beq np 0 && Nat.beq key 4) with
  | true => simp only [cond_true]; exact zl50_4_0 _ _ _ _
  | false =>
  simp only [cond_false]; clear hc
  cases hc : Nat.beq f 51 && (Nat.beq np 0 && Nat.beq key 6) with
  | true => simp only [cond_true]; exact zl51_6_0 _ _ _ _
  | false =>
  simp only [cond_false]; clear hc
  cases hc : Nat.beq f 52 && (Nat.beq np 0 && Nat.beq key 6) with
  | true => simp only [cond_true]; exact zl52_6_0 _ _ _ _
  | false =>
  simp only [cond_false]; clear hc
  cases hc : Nat.beq f 52 && (Nat.beq np 0 && Nat.beq key 11) with
  | true => simp only [cond_true]; exact zl52_11_0 _ _ _ _
  | false =>
  simp only [cond_false]; clear hc
  cases hc : Nat.beq f 55 && (Nat.beq np 1 && Nat.beq key 3) with
  | true => simp only [cond_true]; exact zl55_3_0 _ _ _ _
  | false =>
  simp only [cond_false]; clear hc
  cases hc : Nat.beq f 56 && (Nat.beq np 0 && Nat.beq key 2) with
  | true => simp only [cond_true]; exact zl56_2_0 _ _ _ _
  | false =>
  simp only [cond_false]; clear hc
  cases hc : Nat.beq f 61 && (Nat.beq np 0 && Nat.beq key 6) with
  | true => simp only [cond_true]; exact zl61_6_0 _ _ _ _
  | false =>
  simp only [cond_false]; clear hc
  cases hc : Nat.beq f 61 && (Nat.beq np 0 && Nat.beq key 11) with
  | true => simp only [cond_true]; exact zl61_11_0 _ _ _ _
  | false =>
  simp only [cond_false]; clear hc
  cases hc : Nat.beq f 74 && (Nat.beq np 1 && Nat.beq key 17) with
  | true => simp only [cond_true]; exact zl74_17_0 _ _ _ _
  | false =>
  simp only [cond_false]; clear hc
  cases hc : Nat.beq f 75 && (Nat.beq np 0 && Nat.beq key 3) with
  | true => simp only [cond_true]; exact zl75_3_0 _ _ _ _
  | false =>
  simp only [cond_false]; clear hc
  cases hc : Nat.beq f 75 && (Nat.beq np 2 && Nat.beq key 3) with
  | true => simp only [cond_true]; exact zl75_3_1 _ _ _ _
  | false =>
  simp only [cond_false]; clear hc
  cases hc : Nat.beq f 78 && (Nat.beq np 0 && Nat.beq key 6) with
  | true => simp only [cond_true]; exact zl78_6_0 _ _ _ _
  | false =>
  simp only [cond_false]; clear hc
  cases hc : Nat.beq f 79 && (Nat.beq np 0 && Nat.beq key 6) with
  | true => simp only [cond_true]; exact zl79_6_0 _ _ _ _
  | false =>
  simp only [cond_false]; clear hc
  cases hc : Nat.beq f 82 && (Nat.beq np 0 && Nat.beq key 2) with
  | true => simp only [cond_true]; exact zl82_2_0 _ _ _ _
  | false =>
  simp only [cond_false]; clear hc
  cases hc : Nat.beq f 82 && (Nat.beq np 2 && Nat.beq key 2) with
  | true => simp only [cond_true]; exact zl82_2_1 _ _ _ _
  | false =>
  simp only [cond_false]; clear hc
  cases hc : Nat.beq f 83 && (Nat.beq np 0 && Nat.beq key 2) with
  | true => simp only [cond_true]; exact zl83_2_0 _ _ _ _
  | false =>
  simp only [cond_false]; clear hc
  cases hc : Nat.beq f 84 && (Nat.beq np 4 && Nat.beq key 3) with
  | true => simp only [cond_true]; exact zl84_3_0 _ _ _ _
  | false =>
  simp only [cond_false]; clear hc
  cases hc : Nat.beq f 87 && (Nat.beq np 0 && Nat.beq key 2) with
  | true => simp only [cond_true]; exact zl87_2_0 _ _ _ _
  | false =>
  simp only [cond_false]; clear hc
  first | exact fun _ _ => rfl | exact fun _ _ => trivial

theorem levels : Levels Try.prog lay hints dfT PK (fun k => T (Tabs k)) (fun k => LT (Tabs k)) where
  t0 ρ f args m K := z0 f args m ρ K
  l0 ρ f np key st K := zL f np key st ρ K
  t k f args m := (tT k f args m).imp id .inl
  l k f np key st := tL k f np key st

end Go.Proofs.Ytcgbfghdcjmaeaa.Ev
