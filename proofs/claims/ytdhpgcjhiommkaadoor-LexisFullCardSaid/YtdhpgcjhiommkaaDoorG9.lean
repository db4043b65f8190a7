/- This file proves that the tables of typed functions are sound; without any condition. -/
import Derived.Test.YtdhpgcjhiommkaaDoorU1
import Derived.Test.YtdhpgcjhiommkaaDoorG2
import Derived.Test.YtdhpgcjhiommkaaDoorG3
import Derived.Test.YtdhpgcjhiommkaaDoorG4
import Derived.Test.YtdhpgcjhiommkaaDoorG5
import Derived.Test.YtdhpgcjhiommkaaDoorG6
set_option linter.unusedVariables false
set_option linter.unusedSimpArgs false
namespace Go.Proofs.YtdhpgcjhiommkaaDoor.Ev

theorem t3 (k : Nat) (args : List (PV sig)) (m : Mem sig) : (∀ ρ K, T3 (Tabs (k + 1)) ρ args m K = none) ∨ (∀ ρ K, T3 (Tabs (k + 1)) ρ args m K = evF Tryd.prog lay (T (Tabs k)) (LT (Tabs k)) hints dfT 3 args m K) ∨ ∃ r, CallOk Tryd.prog lay 3 args m r ∧ ∀ ρ K, T3 (Tabs (k + 1)) ρ args m K = K r := by
  rcases rc3_0 args m with h | ⟨a1, rfl, rfl⟩
  · exact .inl fun ρ K => h ..
  · exact .inr (.inl fun ρ K => (gc3_0 (Tabs k) ρ K a1).symm)

theorem t4 (k : Nat) (args : List (PV sig)) (m : Mem sig) : (∀ ρ K, T4 (Tabs (k + 1)) ρ args m K = none) ∨ (∀ ρ K, T4 (Tabs (k + 1)) ρ args m K = evF Tryd.prog lay (T (Tabs k)) (LT (Tabs k)) hints dfT 4 args m K) ∨ ∃ r, CallOk Tryd.prog lay 4 args m r ∧ ∀ ρ K, T4 (Tabs (k + 1)) ρ args m K = K r := by
  rcases rc4_0 args m with h | ⟨a1, rfl, rfl⟩
  · exact .inl fun ρ K => h ..
  · exact .inr (.inl fun ρ K => (gc4_0 (Tabs k) ρ K a1).symm)

theorem t5 (k : Nat) (args : List (PV sig)) (m : Mem sig) : (∀ ρ K, T5 (Tabs (k + 1)) ρ args m K = none) ∨ (∀ ρ K, T5 (Tabs (k + 1)) ρ args m K = evF Tryd.prog lay (T (Tabs k)) (LT (Tabs k)) hints dfT 5 args m K) ∨ ∃ r, CallOk Tryd.prog lay 5 args m r ∧ ∀ ρ K, T5 (Tabs (k + 1)) ρ args m K = K r := by
  rcases rc5_0 args m with h | ⟨a1, rfl, rfl⟩
  · exact .inl fun ρ K => h ..
  · exact .inr (.inl fun ρ K => (gc5_0 (Tabs k) ρ K a1).symm)

theorem t6 (k : Nat) (args : List (PV sig)) (m : Mem sig) : (∀ ρ K, T6 (Tabs (k + 1)) ρ args m K = none) ∨ (∀ ρ K, T6 (Tabs (k + 1)) ρ args m K = evF Tryd.prog lay (T (Tabs k)) (LT (Tabs k)) hints dfT 6 args m K) ∨ ∃ r, CallOk Tryd.prog lay 6 args m r ∧ ∀ ρ K, T6 (Tabs (k + 1)) ρ args m K = K r := by
  rcases rc6_0 args m with h | ⟨a1, a2, a3, rfl, rfl⟩
  · exact .inl fun ρ K => h ..
  · exact .inr (.inl fun ρ K => (gc6_0 (Tabs k) ρ K a1 a2 a3).symm)

theorem t8 (k : Nat) (args : List (PV sig)) (m : Mem sig) : (∀ ρ K, T8 (Tabs (k + 1)) ρ args m K = none) ∨ (∀ ρ K, T8 (Tabs (k + 1)) ρ args m K = evF Tryd.prog lay (T (Tabs k)) (LT (Tabs k)) hints dfT 8 args m K) ∨ ∃ r, CallOk Tryd.prog lay 8 args m r ∧ ∀ ρ K, T8 (Tabs (k + 1)) ρ args m K = K r := by
  rcases rc8_0 args m with h | ⟨a1, rfl, rfl⟩
  · exact .inl fun ρ K => h ..
  · exact .inr (.inl fun ρ K => (gc8_0 (Tabs k) ρ K a1).symm)

theorem t9 (k : Nat) (args : List (PV sig)) (m : Mem sig) : (∀ ρ K, T9 (Tabs (k + 1)) ρ args m K = none) ∨ (∀ ρ K, T9 (Tabs (k + 1)) ρ args m K = evF Tryd.prog lay (T (Tabs k)) (LT (Tabs k)) hints dfT 9 args m K) ∨ ∃ r, CallOk Tryd.prog lay 9 args m r ∧ ∀ ρ K, T9 (Tabs (k + 1)) ρ args m K = K r := by
  rcases rc9_0 args m with h | ⟨a1, a2, rfl, rfl⟩
  · exact .inl fun ρ K => h ..
  · exact .inr (.inl fun ρ K => (gc9_0 (Tabs k) ρ K a1 a2).symm)

theorem t10 (k : Nat) (args : List (PV sig)) (m : Mem sig) : (∀ ρ K, T10 (Tabs (k + 1)) ρ args m K = none) ∨ (∀ ρ K, T10 (Tabs (k + 1)) ρ args m K = evF Tryd.prog lay (T (Tabs k)) (LT (Tabs k)) hints dfT 10 args m K) ∨ ∃ r, CallOk Tryd.prog lay 10 args m r ∧ ∀ ρ K, T10 (Tabs (k + 1)) ρ args m K = K r := by
  rcases rc10_0 args m with h | ⟨a1, a2, rfl, rfl⟩
  · exact .inl fun ρ K => h ..
  · exact .inr (.inl fun ρ K => (gc10_0 (Tabs k) ρ K a1 a2).symm)

theorem t11 (k : Nat) (args : List (PV sig)) (m : Mem sig) : (∀ ρ K, T11 (Tabs (k + 1)) ρ args m K = none) ∨ (∀ ρ K, T11 (Tabs (k + 1)) ρ args m K = evF Tryd.prog lay (T (Tabs k)) (LT (Tabs k)) hints dfT 11 args m K) ∨ ∃ r, CallOk Tryd.prog lay 11 args m r ∧ ∀ ρ K, T11 (Tabs (k + 1)) ρ args m K = K r := by
  rcases rc11_0 args m with h | ⟨a1, rfl, rfl⟩
  · exact .inl fun ρ K => h ..
  · exact .inr (.inl fun ρ K => (gc11_0 (Tabs k) ρ K a1).symm)

theorem t12 (k : Nat) (args : List (PV sig)) (m : Mem sig) : (∀ ρ K, T12 (Tabs (k + 1)) ρ args m K = none) ∨ (∀ ρ K, T12 (Tabs (k + 1)) ρ args m K = evF Tryd.prog lay (T (Tabs k)) (LT (Tabs k)) hints dfT 12 args m K) ∨ ∃ r, CallOk Tryd.prog lay 12 args m r ∧ ∀ ρ K, T12 (Tabs (k + 1)) ρ args m K = K r := by
  rcases rc12_0 args m with h | ⟨a1, rfl, rfl⟩
  · exact .inl fun ρ K => h ..
  · exact .inr (.inl fun ρ K => (gc12_0 (Tabs k) ρ K a1).symm)

theorem t13 (k : Nat) (args : List (PV sig)) (m : Mem sig) : (∀ ρ K, T13 (Tabs (k + 1)) ρ args m K = none) ∨ (∀ ρ K, T13 (Tabs (k + 1)) ρ args m K = evF Tryd.prog lay (T (Tabs k)) (LT (Tabs k)) hints dfT 13 args m K) ∨ ∃ r, CallOk Tryd.prog lay 13 args m r ∧ ∀ ρ K, T13 (Tabs (k + 1)) ρ args m K = K r := by
  rcases rc13_0 args m with h | ⟨a1, a2, a3, rfl, rfl⟩
  · exact .inl fun ρ K => h ..
  · exact .inr (.inl fun ρ K => (gc13_0 (Tabs k) ρ K a1 a2 a3).symm)

theorem t14 (k : Nat) (args : List (PV sig)) (m : Mem sig) : (∀ ρ K, T14 (Tabs (k + 1)) ρ args m K = none) ∨ (∀ ρ K, T14 (Tabs (k + 1)) ρ args m K = evF Tryd.prog lay (T (Tabs k)) (LT (Tabs k)) hints dfT 14 args m K) ∨ ∃ r, CallOk Tryd.prog lay 14 args m r ∧ ∀ ρ K, T14 (Tabs (k + 1)) ρ args m K = K r := by
  rcases rc14_0 args m with h | ⟨rfl, rfl⟩
  · exact .inl fun ρ K => h ..
  · exact .inr (.inl fun ρ K => (gc14_0 (Tabs k) ρ K).symm)

theorem t15 (k : Nat) (args : List (PV sig)) (m : Mem sig) : (∀ ρ K, T15 (Tabs (k + 1)) ρ args m K = none) ∨ (∀ ρ K, T15 (Tabs (k + 1)) ρ args m K = evF Tryd.prog lay (T (Tabs k)) (LT (Tabs k)) hints dfT 15 args m K) ∨ ∃ r, CallOk Tryd.prog lay 15 args m r ∧ ∀ ρ K, T15 (Tabs (k + 1)) ρ args m K = K r := by
  rcases rc15_0 args m with h | ⟨a1, rfl, rfl⟩
  · exact .inl fun ρ K => h ..
  · exact .inr (.inl fun ρ K => (gc15_0 (Tabs k) ρ K a1).symm)

theorem t16 (k : Nat) (args : List (PV sig)) (m : Mem sig) : (∀ ρ K, T16 (Tabs (k + 1)) ρ args m K = none) ∨ (∀ ρ K, T16 (Tabs (k + 1)) ρ args m K = evF Tryd.prog lay (T (Tabs k)) (LT (Tabs k)) hints dfT 16 args m K) ∨ ∃ r, CallOk Tryd.prog lay 16 args m r ∧ ∀ ρ K, T16 (Tabs (k + 1)) ρ args m K = K r := by
  rcases rc16_0 args m with h | ⟨a1, rfl, rfl⟩
  · exact .inl fun ρ K => h ..
  · exact .inr (.inl fun ρ K => (gc16_0 (Tabs k) ρ K a1).symm)

theorem t17 (k : Nat) (args : List (PV sig)) (m : Mem sig) : (∀ ρ K, T17 (Tabs (k + 1)) ρ args m K = none) ∨ (∀ ρ K, T17 (Tabs (k + 1)) ρ args m K = evF Tryd.prog lay (T (Tabs k)) (LT (Tabs k)) hints dfT 17 args m K) ∨ ∃ r, CallOk Tryd.prog lay 17 args m r ∧ ∀ ρ K, T17 (Tabs (k + 1)) ρ args m K = K r := by
  rcases rc17_0 args m with h | ⟨a1, rfl, rfl⟩
  · exact .inl fun ρ K => h ..
  · exact .inr (.inl fun ρ K => (gc17_0 (Tabs k) ρ K a1).symm)

theorem t18 (k : Nat) (args : List (PV sig)) (m : Mem sig) : (∀ ρ K, T18 (Tabs (k + 1)) ρ args m K = none) ∨ (∀ ρ K, T18 (Tabs (k + 1)) ρ args m K = evF Tryd.prog lay (T (Tabs k)) (LT (Tabs k)) hints dfT 18 args m K) ∨ ∃ r, CallOk Tryd.prog lay 18 args m r ∧ ∀ ρ K, T18 (Tabs (k + 1)) ρ args m K = K r := by
  rcases rc18_0 args m with h | ⟨a1, rfl, rfl⟩
  · exact .inl fun ρ K => h ..
  · exact .inr (.inl fun ρ K => (gc18_0 (Tabs k) ρ K a1).symm)

theorem t19 (k : Nat) (args : List (PV sig)) (m : Mem sig) : (∀ ρ K, T19 (Tabs (k + 1)) ρ args m K = none) ∨ (∀ ρ K, T19 (Tabs (k + 1)) ρ args m K = evF Tryd.prog lay (T (Tabs k)) (LT (Tabs k)) hints dfT 19 args m K) ∨ ∃ r, CallOk Tryd.prog lay 19 args m r ∧ ∀ ρ K, T19 (Tabs (k + 1)) ρ args m K = K r := by
  rcases rc19_0 args m with h | ⟨a1, rfl, rfl⟩
  · exact .inl fun ρ K => h ..
  · exact .inr (.inl fun ρ K => (gc19_0 (Tabs k) ρ K a1).symm)

theorem t20 (k : Nat) (args : List (PV sig)) (m : Mem sig) : (∀ ρ K, T20 (Tabs (k + 1)) ρ args m K = none) ∨ (∀ ρ K, T20 (Tabs (k + 1)) ρ args m K = evF Tryd.prog lay (T (Tabs k)) (LT (Tabs k)) hints dfT 20 args m K) ∨ ∃ r, CallOk Tryd.prog lay 20 args m r ∧ ∀ ρ K, T20 (Tabs (k + 1)) ρ args m K = K r := by
  rcases rc20_0 args m with h | ⟨a1, rfl, rfl⟩
  · exact .inl fun ρ K => h ..
  · exact .inr (.inl fun ρ K => (gc20_0 (Tabs k) ρ K a1).symm)

theorem t21 (k : Nat) (args : List (PV sig)) (m : Mem sig) : (∀ ρ K, T21 (Tabs (k + 1)) ρ args m K = none) ∨ (∀ ρ K, T21 (Tabs (k + 1)) ρ args m K = evF Tryd.prog lay (T (Tabs k)) (LT (Tabs k)) hints dfT 21 args m K) ∨ ∃ r, CallOk Tryd.prog lay 21 args m r ∧ ∀ ρ K, T21 (Tabs (k + 1)) ρ args m K = K r := by
  rcases rc21_0 args m with h | ⟨a1, a2, rfl, rfl⟩
  · exact .inl fun ρ K => h ..
  · exact .inr (.inl fun ρ K => (gc21_0 (Tabs k) ρ K a1 a2).symm)

theorem t22 (k : Nat) (args : List (PV sig)) (m : Mem sig) : (∀ ρ K, T22 (Tabs (k + 1)) ρ args m K = none) ∨ (∀ ρ K, T22 (Tabs (k + 1)) ρ args m K = evF Tryd.prog lay (T (Tabs k)) (LT (Tabs k)) hints dfT 22 args m K) ∨ ∃ r, CallOk Tryd.prog lay 22 args m r ∧ ∀ ρ K, T22 (Tabs (k + 1)) ρ args m K = K r := by
  rcases rc22_0 args m with h | ⟨a1, a2, rfl, rfl⟩
  · exact .inl fun ρ K => h ..
  · exact .inr (.inl fun ρ K => (gc22_0 (Tabs k) ρ K a1 a2).symm)

theorem t23 (k : Nat) (args : List (PV sig)) (m : Mem sig) : (∀ ρ K, T23 (Tabs (k + 1)) ρ args m K = none) ∨ (∀ ρ K, T23 (Tabs (k + 1)) ρ args m K = evF Tryd.prog lay (T (Tabs k)) (LT (Tabs k)) hints dfT 23 args m K) ∨ ∃ r, CallOk Tryd.prog lay 23 args m r ∧ ∀ ρ K, T23 (Tabs (k + 1)) ρ args m K = K r := by
  rcases rc23_0 args m with h | ⟨a1, a2, rfl, rfl⟩
  · exact .inl fun ρ K => h ..
  · exact .inr (.inl fun ρ K => (gc23_0 (Tabs k) ρ K a1 a2).symm)

theorem t24 (k : Nat) (args : List (PV sig)) (m : Mem sig) : (∀ ρ K, T24 (Tabs (k + 1)) ρ args m K = none) ∨ (∀ ρ K, T24 (Tabs (k + 1)) ρ args m K = evF Tryd.prog lay (T (Tabs k)) (LT (Tabs k)) hints dfT 24 args m K) ∨ ∃ r, CallOk Tryd.prog lay 24 args m r ∧ ∀ ρ K, T24 (Tabs (k + 1)) ρ args m K = K r := by
  rcases rc24_0 args m with h | ⟨a1, rfl, rfl⟩
  · exact .inl fun ρ K => h ..
  · exact .inr (.inl fun ρ K => (gc24_0 (Tabs k) ρ K a1).symm)

theorem t25 (k : Nat) (args : List (PV sig)) (m : Mem sig) : (∀ ρ K, T25 (Tabs (k + 1)) ρ args m K = none) ∨ (∀ ρ K, T25 (Tabs (k + 1)) ρ args m K = evF Tryd.prog lay (T (Tabs k)) (LT (Tabs k)) hints dfT 25 args m K) ∨ ∃ r, CallOk Tryd.prog lay 25 args m r ∧ ∀ ρ K, T25 (Tabs (k + 1)) ρ args m K = K r := by
  rcases rc25_0 args m with h | ⟨a1, a2, rfl, rfl⟩
  · exact .inl fun ρ K => h ..
  · exact .inr (.inl fun ρ K => (gc25_0 (Tabs k) ρ K a1 a2).symm)

theorem t26 (k : Nat) (args : List (PV sig)) (m : Mem sig) : (∀ ρ K, T26 (Tabs (k + 1)) ρ args m K = none) ∨ (∀ ρ K, T26 (Tabs (k + 1)) ρ args m K = evF Tryd.prog lay (T (Tabs k)) (LT (Tabs k)) hints dfT 26 args m K) ∨ ∃ r, CallOk Tryd.prog lay 26 args m r ∧ ∀ ρ K, T26 (Tabs (k + 1)) ρ args m K = K r := by
  rcases rc26_0 args m with h | ⟨a1, a2, rfl, rfl⟩
  · exact .inl fun ρ K => h ..
  · exact .inr (.inl fun ρ K => (gc26_0 (Tabs k) ρ K a1 a2).symm)

theorem t27 (k : Nat) (args : List (PV sig)) (m : Mem sig) : (∀ ρ K, T27 (Tabs (k + 1)) ρ args m K = none) ∨ (∀ ρ K, T27 (Tabs (k + 1)) ρ args m K = evF Tryd.prog lay (T (Tabs k)) (LT (Tabs k)) hints dfT 27 args m K) ∨ ∃ r, CallOk Tryd.prog lay 27 args m r ∧ ∀ ρ K, T27 (Tabs (k + 1)) ρ args m K = K r := by
  unfold T27
  cases hc : Nat.beq (fnId (args.getD 1 .any)) 28 with
  | true =>
    simp only [cond_true]
    rcases rc27_0 args m with h | ⟨a1, rfl, rfl⟩
    · exact .inl fun ρ K => h ..
    · exact .inr (.inl fun ρ K => (gc27_0 (Tabs k) ρ K a1).symm)
  | false =>
    simp only [cond_false]
    cases hc : Nat.beq (fnId (args.getD 1 .any)) 29 with
    | true =>
      simp only [cond_true]
      rcases rc27_1 args m with h | ⟨a1, rfl, rfl⟩
      · exact .inl fun ρ K => h ..
      · exact .inr (.inl fun ρ K => (gc27_1 (Tabs k) ρ K a1).symm)
    | false =>
      simp only [cond_false]
      first | exact .inl fun _ _ => rfl | exact .inl fun _ _ => trivial

theorem t28 (k : Nat) (args : List (PV sig)) (m : Mem sig) : (∀ ρ K, T28 (Tabs (k + 1)) ρ args m K = none) ∨ (∀ ρ K, T28 (Tabs (k + 1)) ρ args m K = evF Tryd.prog lay (T (Tabs k)) (LT (Tabs k)) hints dfT 28 args m K) ∨ ∃ r, CallOk Tryd.prog lay 28 args m r ∧ ∀ ρ K, T28 (Tabs (k + 1)) ρ args m K = K r := by
  rcases rc28_0 args m with h | ⟨a1, rfl, rfl⟩
  · exact .inl fun ρ K => h ..
  · exact .inr (.inl fun ρ K => (gc28_0 (Tabs k) ρ K a1).symm)

theorem t29 (k : Nat) (args : List (PV sig)) (m : Mem sig) : (∀ ρ K, T29 (Tabs (k + 1)) ρ args m K = none) ∨ (∀ ρ K, T29 (Tabs (k + 1)) ρ args m K = evF Tryd.prog lay (T (Tabs k)) (LT (Tabs k)) hints dfT 29 args m K) ∨ ∃ r, CallOk Tryd.prog lay 29 args m r ∧ ∀ ρ K, T29 (Tabs (k + 1)) ρ args m K = K r := by
  rcases rc29_0 args m with h | ⟨a1, rfl, rfl⟩
  · exact .inl fun ρ K => h ..
  · exact .inr (.inl fun ρ K => (gc29_0 (Tabs k) ρ K a1).symm)

theorem t30 (k : Nat) (args : List (PV sig)) (m : Mem sig) : (∀ ρ K, T30 (Tabs (k + 1)) ρ args m K = none) ∨ (∀ ρ K, T30 (Tabs (k + 1)) ρ args m K = evF Tryd.prog lay (T (Tabs k)) (LT (Tabs k)) hints dfT 30 args m K) ∨ ∃ r, CallOk Tryd.prog lay 30 args m r ∧ ∀ ρ K, T30 (Tabs (k + 1)) ρ args m K = K r := by
  rcases rc30_0 args m with h | ⟨a1, rfl, rfl⟩
  · exact .inl fun ρ K => h ..
  · exact .inr (.inl fun ρ K => (gc30_0 (Tabs k) ρ K a1).symm)

theorem t31 (k : Nat) (args : List (PV sig)) (m : Mem sig) : (∀ ρ K, T31 (Tabs (k + 1)) ρ args m K = none) ∨ (∀ ρ K, T31 (Tabs (k + 1)) ρ args m K = evF Tryd.prog lay (T (Tabs k)) (LT (Tabs k)) hints dfT 31 args m K) ∨ ∃ r, CallOk Tryd.prog lay 31 args m r ∧ ∀ ρ K, T31 (Tabs (k + 1)) ρ args m K = K r := by
  rcases rc31_0 args m with h | ⟨a1, rfl, rfl⟩
  · exact .inl fun ρ K => h ..
  · exact .inr (.inl fun ρ K => (gc31_0 (Tabs k) ρ K a1).symm)

theorem t32 (k : Nat) (args : List (PV sig)) (m : Mem sig) : (∀ ρ K, T32 (Tabs (k + 1)) ρ args m K = none) ∨ (∀ ρ K, T32 (Tabs (k + 1)) ρ args m K = evF Tryd.prog lay (T (Tabs k)) (LT (Tabs k)) hints dfT 32 args m K) ∨ ∃ r, CallOk Tryd.prog lay 32 args m r ∧ ∀ ρ K, T32 (Tabs (k + 1)) ρ args m K = K r := by
  rcases rc32_0 args m with h | ⟨a1, rfl, rfl⟩
  · exact .inl fun ρ K => h ..
  · obtain ⟨a1_0, a1_1, a1_2⟩ := a1; exact .inr (.inl fun ρ K => (gc32_0 (Tabs k) ρ K ⟨a1_0, a1_1, a1_2⟩).symm)

theorem t33 (k : Nat) (args : List (PV sig)) (m : Mem sig) : (∀ ρ K, T33 (Tabs (k + 1)) ρ args m K = none) ∨ (∀ ρ K, T33 (Tabs (k + 1)) ρ args m K = evF Tryd.prog lay (T (Tabs k)) (LT (Tabs k)) hints dfT 33 args m K) ∨ ∃ r, CallOk Tryd.prog lay 33 args m r ∧ ∀ ρ K, T33 (Tabs (k + 1)) ρ args m K = K r := by
  rcases rc33_0 args m with h | ⟨a1, a2, rfl, rfl⟩
  · exact .inl fun ρ K => h ..
  · exact (told33 a1 a2).imp (fun h ρ K => h ρ K) fun ⟨r, h1, h2⟩ => .inr ⟨r, h1, fun ρ K => h2 ρ K⟩

theorem t34 (k : Nat) (args : List (PV sig)) (m : Mem sig) : (∀ ρ K, T34 (Tabs (k + 1)) ρ args m K = none) ∨ (∀ ρ K, T34 (Tabs (k + 1)) ρ args m K = evF Tryd.prog lay (T (Tabs k)) (LT (Tabs k)) hints dfT 34 args m K) ∨ ∃ r, CallOk Tryd.prog lay 34 args m r ∧ ∀ ρ K, T34 (Tabs (k + 1)) ρ args m K = K r := by
  rcases rc34_0 args m with h | ⟨a1, rfl, rfl⟩
  · exact .inl fun ρ K => h ..
  · obtain ⟨a1_0, a1_1, a1_2⟩ := a1; exact .inr (.inl fun ρ K => (gc34_0 (Tabs k) ρ K ⟨a1_0, a1_1, a1_2⟩).symm)

theorem t35 (k : Nat) (args : List (PV sig)) (m : Mem sig) : (∀ ρ K, T35 (Tabs (k + 1)) ρ args m K = none) ∨ (∀ ρ K, T35 (Tabs (k + 1)) ρ args m K = evF Tryd.prog lay (T (Tabs k)) (LT (Tabs k)) hints dfT 35 args m K) ∨ ∃ r, CallOk Tryd.prog lay 35 args m r ∧ ∀ ρ K, T35 (Tabs (k + 1)) ρ args m K = K r := by
  rcases rc35_0 args m with h | ⟨a1, a2, rfl, rfl⟩
  · exact .inl fun ρ K => h ..
  · exact (told35 a1 a2).imp (fun h ρ K => h ρ K) fun ⟨r, h1, h2⟩ => .inr ⟨r, h1, fun ρ K => h2 ρ K⟩

theorem t36 (k : Nat) (args : List (PV sig)) (m : Mem sig) : (∀ ρ K, T36 (Tabs (k + 1)) ρ args m K = none) ∨ (∀ ρ K, T36 (Tabs (k + 1)) ρ args m K = evF Tryd.prog lay (T (Tabs k)) (LT (Tabs k)) hints dfT 36 args m K) ∨ ∃ r, CallOk Tryd.prog lay 36 args m r ∧ ∀ ρ K, T36 (Tabs (k + 1)) ρ args m K = K r := by
  rcases rc36_0 args m with h | ⟨a1, a2, rfl, rfl⟩
  · exact .inl fun ρ K => h ..
  · exact (told36 a1 a2).imp (fun h ρ K => h ρ K) fun ⟨r, h1, h2⟩ => .inr ⟨r, h1, fun ρ K => h2 ρ K⟩

theorem t37 (k : Nat) (args : List (PV sig)) (m : Mem sig) : (∀ ρ K, T37 (Tabs (k + 1)) ρ args m K = none) ∨ (∀ ρ K, T37 (Tabs (k + 1)) ρ args m K = evF Tryd.prog lay (T (Tabs k)) (LT (Tabs k)) hints dfT 37 args m K) ∨ ∃ r, CallOk Tryd.prog lay 37 args m r ∧ ∀ ρ K, T37 (Tabs (k + 1)) ρ args m K = K r := by
  rcases rc37_0 args m with h | ⟨a1, a2, a3, rfl, rfl⟩
  · exact .inl fun ρ K => h ..
  · exact .inr (.inl fun ρ K => (gc37_0 (Tabs k) ρ K a1 a2 a3).symm)

theorem t38 (k : Nat) (args : List (PV sig)) (m : Mem sig) : (∀ ρ K, T38 (Tabs (k + 1)) ρ args m K = none) ∨ (∀ ρ K, T38 (Tabs (k + 1)) ρ args m K = evF Tryd.prog lay (T (Tabs k)) (LT (Tabs k)) hints dfT 38 args m K) ∨ ∃ r, CallOk Tryd.prog lay 38 args m r ∧ ∀ ρ K, T38 (Tabs (k + 1)) ρ args m K = K r := by
  rcases rc38_0 args m with h | ⟨a1, a2, rfl, rfl⟩
  · exact .inl fun ρ K => h ..
  · exact (told38 a1 a2).imp (fun h ρ K => h ρ K) fun ⟨r, h1, h2⟩ => .inr ⟨r, h1, fun ρ K => h2 ρ K⟩

theorem t39 (k : Nat) (args : List (PV sig)) (m : Mem sig) : (∀ ρ K, T39 (Tabs (k + 1)) ρ args m K = none) ∨ (∀ ρ K, T39 (Tabs (k + 1)) ρ args m K = evF Tryd.prog lay (T (Tabs k)) (LT (Tabs k)) hints dfT 39 args m K) ∨ ∃ r, CallOk Tryd.prog lay 39 args m r ∧ ∀ ρ K, T39 (Tabs (k + 1)) ρ args m K = K r := by
  rcases rc39_0 args m with h | ⟨a1, a2, a3, rfl, rfl⟩
  · exact .inl fun ρ K => h ..
  · exact .inr (.inl fun ρ K => (gc39_0 (Tabs k) ρ K a1 a2 a3).symm)

theorem t40 (k : Nat) (args : List (PV sig)) (m : Mem sig) : (∀ ρ K, T40 (Tabs (k + 1)) ρ args m K = none) ∨ (∀ ρ K, T40 (Tabs (k + 1)) ρ args m K = evF Tryd.prog lay (T (Tabs k)) (LT (Tabs k)) hints dfT 40 args m K) ∨ ∃ r, CallOk Tryd.prog lay 40 args m r ∧ ∀ ρ K, T40 (Tabs (k + 1)) ρ args m K = K r := by
  rcases rc40_0 args m with h | ⟨a1, a2, rfl, rfl⟩
  · exact .inl fun ρ K => h ..
  · exact .inr (.inl fun ρ K => (gc40_0 (Tabs k) ρ K a1 a2).symm)

theorem t41 (k : Nat) (args : List (PV sig)) (m : Mem sig) : (∀ ρ K, T41 (Tabs (k + 1)) ρ args m K = none) ∨ (∀ ρ K, T41 (Tabs (k + 1)) ρ args m K = evF Tryd.prog lay (T (Tabs k)) (LT (Tabs k)) hints dfT 41 args m K) ∨ ∃ r, CallOk Tryd.prog lay 41 args m r ∧ ∀ ρ K, T41 (Tabs (k + 1)) ρ args m K = K r := by
  rcases rc41_0 args m with h | ⟨a1, a2, a3, rfl, rfl⟩
  · exact .inl fun ρ K => h ..
  · exact .inr (.inl fun ρ K => (gc41_0 (Tabs k) ρ K a1 a2 a3).symm)

theorem t42 (k : Nat) (args : List (PV sig)) (m : Mem sig) : (∀ ρ K, T42 (Tabs (k + 1)) ρ args m K = none) ∨ (∀ ρ K, T42 (Tabs (k + 1)) ρ args m K = evF Tryd.prog lay (T (Tabs k)) (LT (Tabs k)) hints dfT 42 args m K) ∨ ∃ r, CallOk Tryd.prog lay 42 args m r ∧ ∀ ρ K, T42 (Tabs (k + 1)) ρ args m K = K r := by
  rcases rc42_0 args m with h | ⟨a1, a2, rfl, rfl⟩
  · exact .inl fun ρ K => h ..
  · exact .inr (.inl fun ρ K => (gc42_0 (Tabs k) ρ K a1 a2).symm)

theorem t43 (k : Nat) (args : List (PV sig)) (m : Mem sig) : (∀ ρ K, T43 (Tabs (k + 1)) ρ args m K = none) ∨ (∀ ρ K, T43 (Tabs (k + 1)) ρ args m K = evF Tryd.prog lay (T (Tabs k)) (LT (Tabs k)) hints dfT 43 args m K) ∨ ∃ r, CallOk Tryd.prog lay 43 args m r ∧ ∀ ρ K, T43 (Tabs (k + 1)) ρ args m K = K r := by
  rcases rc43_0 args m with h | ⟨a1, rfl, rfl⟩
  · exact .inl fun ρ K => h ..
  · exact .inr (.inl fun ρ K => (gc43_0 (Tabs k) ρ K a1).symm)

theorem t44 (k : Nat) (args : List (PV sig)) (m : Mem sig) : (∀ ρ K, T44 (Tabs (k + 1)) ρ args m K = none) ∨ (∀ ρ K, T44 (Tabs (k + 1)) ρ args m K = evF Tryd.prog lay (T (Tabs k)) (LT (Tabs k)) hints dfT 44 args m K) ∨ ∃ r, CallOk Tryd.prog lay 44 args m r ∧ ∀ ρ K, T44 (Tabs (k + 1)) ρ args m K = K r := by
  rcases rc44_0 args m with h | ⟨a1, a2, rfl, rfl⟩
  · exact .inl fun ρ K => h ..
  · exact .inr (.inl fun ρ K => (gc44_0 (Tabs k) ρ K a1 a2).symm)

theorem t45 (k : Nat) (args : List (PV sig)) (m : Mem sig) : (∀ ρ K, T45 (Tabs (k + 1)) ρ args m K = none) ∨ (∀ ρ K, T45 (Tabs (k + 1)) ρ args m K = evF Tryd.prog lay (T (Tabs k)) (LT (Tabs k)) hints dfT 45 args m K) ∨ ∃ r, CallOk Tryd.prog lay 45 args m r ∧ ∀ ρ K, T45 (Tabs (k + 1)) ρ args m K = K r := by
  rcases rc45_0 args m with h | ⟨a1, rfl, rfl⟩
  · exact .inl fun ρ K => h ..
  · exact .inr (.inl fun ρ K => (gc45_0 (Tabs k) ρ K a1).symm)

theorem t46 (k : Nat) (args : List (PV sig)) (m : Mem sig) : (∀ ρ K, T46 (Tabs (k + 1)) ρ args m K = none) ∨ (∀ ρ K, T46 (Tabs (k + 1)) ρ args m K = evF Tryd.prog lay (T (Tabs k)) (LT (Tabs k)) hints dfT 46 args m K) ∨ ∃ r, CallOk Tryd.prog lay 46 args m r ∧ ∀ ρ K, T46 (Tabs (k + 1)) ρ args m K = K r := by
  rcases rc46_0 args m with h | ⟨a1, a2, rfl, rfl⟩
  · exact .inl fun ρ K => h ..
  · exact .inr (.inl fun ρ K => (gc46_0 (Tabs k) ρ K a1 a2).symm)

theorem t47 (k : Nat) (args : List (PV sig)) (m : Mem sig) : (∀ ρ K, T47 (Tabs (k + 1)) ρ args m K = none) ∨ (∀ ρ K, T47 (Tabs (k + 1)) ρ args m K = evF Tryd.prog lay (T (Tabs k)) (LT (Tabs k)) hints dfT 47 args m K) ∨ ∃ r, CallOk Tryd.prog lay 47 args m r ∧ ∀ ρ K, T47 (Tabs (k + 1)) ρ args m K = K r := by
  rcases rc47_0 args m with h | ⟨a1, a2, rfl, rfl⟩
  · exact .inl fun ρ K => h ..
  · exact .inr (.inl fun ρ K => (gc47_0 (Tabs k) ρ K a1 a2).symm)

theorem t48 (k : Nat) (args : List (PV sig)) (m : Mem sig) : (∀ ρ K, T48 (Tabs (k + 1)) ρ args m K = none) ∨ (∀ ρ K, T48 (Tabs (k + 1)) ρ args m K = evF Tryd.prog lay (T (Tabs k)) (LT (Tabs k)) hints dfT 48 args m K) ∨ ∃ r, CallOk Tryd.prog lay 48 args m r ∧ ∀ ρ K, T48 (Tabs (k + 1)) ρ args m K = K r := by
  rcases rc48_0 args m with h | ⟨a1, a2, rfl, rfl⟩
  · exact .inl fun ρ K => h ..
  · exact .inr (.inl fun ρ K => (gc48_0 (Tabs k) ρ K a1 a2).symm)

theorem t49 (k : Nat) (args : List (PV sig)) (m : Mem sig) : (∀ ρ K, T49 (Tabs (k + 1)) ρ args m K = none) ∨ (∀ ρ K, T49 (Tabs (k + 1)) ρ args m K = evF Tryd.prog lay (T (Tabs k)) (LT (Tabs k)) hints dfT 49 args m K) ∨ ∃ r, CallOk Tryd.prog lay 49 args m r ∧ ∀ ρ K, T49 (Tabs (k + 1)) ρ args m K = K r := by
  rcases rc49_0 args m with h | ⟨a1, a2, rfl, rfl⟩
  · exact .inl fun ρ K => h ..
  · exact .inr (.inl fun ρ K => (gc49_0 (Tabs k) ρ K a1 a2).symm)

theorem t50 (k : Nat) (args : List (PV sig)) (m : Mem sig) : (∀ ρ K, T50 (Tabs (k + 1)) ρ args m K = none) ∨ (∀ ρ K, T50 (Tabs (k + 1)) ρ args m K = evF Tryd.prog lay (T (Tabs k)) (LT (Tabs k)) hints dfT 50 args m K) ∨ ∃ r, CallOk Tryd.prog lay 50 args m r ∧ ∀ ρ K, T50 (Tabs (k + 1)) ρ args m K = K r := by
  rcases rc50_0 args m with h | ⟨a1, a2, a3, rfl, rfl⟩
  · exact .inl fun ρ K => h ..
  · exact .inr (.inl fun ρ K => (gc50_0 (Tabs k) ρ K a1 a2 a3).symm)

theorem t51 (k : Nat) (args : List (PV sig)) (m : Mem sig) : (∀ ρ K, T51 (Tabs (k + 1)) ρ args m K = none) ∨ (∀ ρ K, T51 (Tabs (k + 1)) ρ args m K = evF Tryd.prog lay (T (Tabs k)) (LT (Tabs k)) hints dfT 51 args m K) ∨ ∃ r, CallOk Tryd.prog lay 51 args m r ∧ ∀ ρ K, T51 (Tabs (k + 1)) ρ args m K = K r := by
  rcases rc51_0 args m with h | ⟨a1, a2, rfl, rfl⟩
  · exact .inl fun ρ K => h ..
  · exact .inr (.inl fun ρ K => (gc51_0 (Tabs k) ρ K a1 a2).symm)

theorem t52 (k : Nat) (args : List (PV sig)) (m : Mem sig) : (∀ ρ K, T52 (Tabs (k + 1)) ρ args m K = none) ∨ (∀ ρ K, T52 (Tabs (k + 1)) ρ args m K = evF Tryd.prog lay (T (Tabs k)) (LT (Tabs k)) hints dfT 52 args m K) ∨ ∃ r, CallOk Tryd.prog lay 52 args m r ∧ ∀ ρ K, T52 (Tabs (k + 1)) ρ args m K = K r := by
  rcases rc52_0 args m with h | ⟨a1, a2, rfl, rfl⟩
  · exact .inl fun ρ K => h ..
  · exact .inr (.inl fun ρ K => (gc52_0 (Tabs k) ρ K a1 a2).symm)

theorem t53 (k : Nat) (args : List (PV sig)) (m : Mem sig) : (∀ ρ K, T53 (Tabs (k + 1)) ρ args m K = none) ∨ (∀ ρ K, T53 (Tabs (k + 1)) ρ args m K = evF Tryd.prog lay (T (Tabs k)) (LT (Tabs k)) hints dfT 53 args m K) ∨ ∃ r, CallOk Tryd.prog lay 53 args m r ∧ ∀ ρ K, T53 (Tabs (k + 1)) ρ args m K = K r := by
  rcases rc53_0 args m with h | ⟨a1, rfl, rfl⟩
  · exact .inl fun ρ K => h ..
  · exact .inr (.inl fun ρ K => (gc53_0 (Tabs k) ρ K a1).symm)

theorem t54 (k : Nat) (args : List (PV sig)) (m : Mem sig) : (∀ ρ K, T54 (Tabs (k + 1)) ρ args m K = none) ∨ (∀ ρ K, T54 (Tabs (k + 1)) ρ args m K = evF Tryd.prog lay (T (Tabs k)) (LT (Tabs k)) hints dfT 54 args m K) ∨ ∃ r, CallOk Tryd.prog lay 54 args m r ∧ ∀ ρ K, T54 (Tabs (k + 1)) ρ args m K = K r := by
  rcases rc54_0 args m with h | ⟨a1, rfl, rfl⟩
  · exact .inl fun ρ K => h ..
  · exact .inr (.inl fun ρ K => (gc54_0 (Tabs k) ρ K a1).symm)

theorem t55 (k : Nat) (args : List (PV sig)) (m : Mem sig) : (∀ ρ K, T55 (Tabs (k + 1)) ρ args m K = none) ∨ (∀ ρ K, T55 (Tabs (k + 1)) ρ args m K = evF Tryd.prog lay (T (Tabs k)) (LT (Tabs k)) hints dfT 55 args m K) ∨ ∃ r, CallOk Tryd.prog lay 55 args m r ∧ ∀ ρ K, T55 (Tabs (k + 1)) ρ args m K = K r := by
  rcases rc55_0 args m with h | ⟨a1, a2, rfl, rfl⟩
  · exact .inl fun ρ K => h ..
  · exact .inr (.inl fun ρ K => (gc55_0 (Tabs k) ρ K a1 a2).symm)

theorem t56 (k : Nat) (args : List (PV sig)) (m : Mem sig) : (∀ ρ K, T56 (Tabs (k + 1)) ρ args m K = none) ∨ (∀ ρ K, T56 (Tabs (k + 1)) ρ args m K = evF Tryd.prog lay (T (Tabs k)) (LT (Tabs k)) hints dfT 56 args m K) ∨ ∃ r, CallOk Tryd.prog lay 56 args m r ∧ ∀ ρ K, T56 (Tabs (k + 1)) ρ args m K = K r := by
  rcases rc56_0 args m with h | ⟨a1, rfl, rfl⟩
  · exact .inl fun ρ K => h ..
  · exact .inr (.inl fun ρ K => (gc56_0 (Tabs k) ρ K a1).symm)

theorem t65 (k : Nat) (args : List (PV sig)) (m : Mem sig) : (∀ ρ K, T65 (Tabs (k + 1)) ρ args m K = none) ∨ (∀ ρ K, T65 (Tabs (k + 1)) ρ args m K = evF Tryd.prog lay (T (Tabs k)) (LT (Tabs k)) hints dfT 65 args m K) ∨ ∃ r, CallOk Tryd.prog lay 65 args m r ∧ ∀ ρ K, T65 (Tabs (k + 1)) ρ args m K = K r := by
  rcases rc65_0 args m with h | ⟨a1, rfl, rfl⟩
  · exact .inl fun ρ K => h ..
  · exact (told65 a1).imp (fun h ρ K => h ρ K) fun ⟨r, h1, h2⟩ => .inr ⟨r, h1, fun ρ K => h2 ρ K⟩

theorem t66 (k : Nat) (args : List (PV sig)) (m : Mem sig) : (∀ ρ K, T66 (Tabs (k + 1)) ρ args m K = none) ∨ (∀ ρ K, T66 (Tabs (k + 1)) ρ args m K = evF Tryd.prog lay (T (Tabs k)) (LT (Tabs k)) hints dfT 66 args m K) ∨ ∃ r, CallOk Tryd.prog lay 66 args m r ∧ ∀ ρ K, T66 (Tabs (k + 1)) ρ args m K = K r := by
  rcases rc66_0 args m with h | ⟨a1, rfl, rfl⟩
  · exact .inl fun ρ K => h ..
  · exact (told66 a1).imp (fun h ρ K => h ρ K) fun ⟨r, h1, h2⟩ => .inr ⟨r, h1, fun ρ K => h2 ρ K⟩

theorem t67 (k : Nat) (args : List (PV sig)) (m : Mem sig) : (∀ ρ K, T67 (Tabs (k + 1)) ρ args m K = none) ∨ (∀ ρ K, T67 (Tabs (k + 1)) ρ args m K = evF Tryd.prog lay (T (Tabs k)) (LT (Tabs k)) hints dfT 67 args m K) ∨ ∃ r, CallOk Tryd.prog lay 67 args m r ∧ ∀ ρ K, T67 (Tabs (k + 1)) ρ args m K = K r := by
  rcases rc67_0 args m with h | ⟨a1, rfl, rfl⟩
  · exact .inl fun ρ K => h ..
  · exact .inr (.inl fun ρ K => (gc67_0 (Tabs k) ρ K a1).symm)

theorem tT (k f : Nat) (args : List (PV sig)) (m : Mem sig) : (∀ ρ K, T (Tabs (k + 1)) ρ f args m K = none) ∨ (∀ ρ K, T (Tabs (k + 1)) ρ f args m K = evF Tryd.prog lay (T (Tabs k)) (LT (Tabs k)) hints dfT f args m K) ∨ ∃ r, CallOk Tryd.prog lay f args m r ∧ ∀ ρ K, T (Tabs (k + 1)) ρ f args m K = K r := by
  unfold T
  cases hc : Nat.beq f 3 with
  | true => simp only [cond_true]; rw [Nat.eq_of_beq_eq_true hc]; exact t3 k args m
  | false =>
  simp only [cond_false]; clear hc
  cases hc : Nat.beq f 4 with
  | true => simp only [cond_true]; rw [Nat.eq_of_beq_eq_true hc]; exact t4 k args m
  | false =>
  simp only [cond_false]; clear hc
  cases hc : Nat.beq f 5 with
  | true => simp only [cond_true]; rw [Nat.eq_of_beq_eq_true hc]; exact t5 k args m
  | false =>
  simp only [cond_false]; clear hc
  cases hc : Nat.beq f 6 with
  | true => simp only [cond_true]; rw [Nat.eq_of_beq_eq_true hc]; exact t6 k args m
  | false =>
  simp only [cond_false]; clear hc
  cases hc : Nat.beq f 8 with
  | true => simp only [cond_true]; rw [Nat.eq_of_beq_eq_true hc]; exact t8 k args m
  | false =>
  simp only [cond_false]; clear hc
  cases hc : Nat.beq f 9 with
  | true => simp only [cond_true]; rw [Nat.eq_of_beq_eq_true hc]; exact t9 k args m
  | false =>
  simp only [cond_false]; clear hc
  cases hc : Nat.beq f 10 with
  | true => simp only [cond_true]; rw [Nat.eq_of_beq_eq_true hc]; exact t10 k args m
  | false =>
  simp only [cond_false]; clear hc
  cases hc : Nat.beq f 11 with
  | true => simp only [cond_true]; rw [Nat.eq_of_beq_eq_true hc]; exact t11 k args m
  | false =>
  simp only [cond_false]; clear hc
  cases hc : Nat.beq f 12 with
  | true => simp only [cond_true]; rw [Nat.eq_of_beq_eq_true hc]; exact t12 k args m
  | false =>
  simp only [cond_false]; clear hc
  cases hc : Nat.beq f 13 with
  | true => simp only [cond_true]; rw [Nat.eq_of_beq_eq_true hc]; exact t13 k args m
  | false =>
  simp only [cond_false]; clear hc
  cases hc : Nat.beq f 14 with
  | true => simp only [cond_true]; rw [Nat.eq_of_beq_eq_true hc]; exact t14 k args m
  | false =>
  simp only [cond_false]; clear hc
  cases hc : Nat.beq f 15 with
  | true => simp only [cond_true]; rw [Nat.eq_of_beq_eq_true hc]; exact t15 k args m
  | false =>
  simp only [cond_false]; clear hc
  cases hc : Nat.beq f 16 with
  | true => simp only [cond_true]; rw [Nat.eq_of_beq_eq_true hc]; exact t16 k args m
  | false =>
  simp only [cond_false]; clear hc
  cases hc : Nat.beq f 17 with
  | true => simp only [cond_true]; rw [Nat.eq_of_beq_eq_true hc]; exact t17 k args m
  | false =>
  simp only [cond_false]; clear hc
  cases hc : Nat.beq f 18 with
  | true => simp only [cond_true]; rw [Nat.eq_of_beq_eq_true hc]; exact t18 k args m
  | false =>
  simp only [cond_false]; clear hc
  cases hc : Nat.beq f 19 with
  | true => simp only [cond_true]; rw [Nat.eq_of_beq_eq_true hc]; exact t19 k args m
  | false =>
  simp only [cond_false]; clear hc
  cases hc : Nat.beq f 20 with
  | true => simp only [cond_true]; rw [Nat.eq_of_beq_eq_true hc]; exact t20 k args m
  | false =>
  simp only [cond_false]; clear hc
  cases hc : Nat.beq f 21 with
  | true => simp only [cond_true]; rw [Nat.eq_of_beq_eq_true hc]; exact t21 k args m
  | false =>
  simp only [cond_false]; clear hc
  cases hc : Nat.beq f 22 with
  | true => simp only [cond_true]; rw [Nat.eq_of_beq_eq_true hc]; exact t22 k args m
  | false =>
  simp only [cond_false]; clear hc
  cases hc : Nat.beq f 23 with
  | true => simp only [cond_true]; rw [Nat.eq_of_beq_eq_true hc]; exact t23 k args m
  | false =>
  simp only [cond_false]; clear hc
  cases hc : Nat.beq f 24 with
  | true => simp only [cond_true]; rw [Nat.eq_of_beq_eq_true hc]; exact t24 k args m
  | false =>
  simp only [cond_false]; clear hc
  cases hc : Nat.beq f 25 with
  | true => simp only [cond_true]; rw [Nat.eq_of_beq_eq_true hc]; exact t25 k args m
  | false =>
  simp only [cond_false]; clear hc
  cases hc : Nat.beq f 26 with
  | true => simp only [cond_true]; rw [Nat.eq_of_beq_eq_true hc]; exact t26 k args m
  | false =>
  simp only [cond_false]; clear hc
  cases hc : Nat.beq f 27 with
  | true => simp only [cond_true]; rw [Nat.eq_of_beq_eq_true hc]; exact t27 k args m
  | false =>
  simp only [cond_false]; clear hc
  cases hc : Nat.beq f 28 with
  | true => simp only [cond_true]; rw [Nat.eq_of_beq_eq_true hc]; exact t28 k args m
  | false =>
  simp only [cond_false]; clear hc
  cases hc : Nat.beq f 29 with
  | true => simp only [cond_true]; rw [Nat.eq_of_beq_eq_true hc]; exact t29 k args m
  | false =>
  simp only [cond_false]; clear hc
  cases hc : Nat.beq f 30 with
  | true => simp only [cond_true]; rw [Nat.eq_of_beq_eq_true hc]; exact t30 k args m
  | false =>
  simp only [cond_false]; clear hc
  cases hc : Nat.beq f 31 with
  | true => simp only [cond_true]; rw [Nat.eq_of_beq_eq_true hc]; exact t31 k args m
  | false =>
  simp only [cond_false]; clear hc
  cases hc : Nat.beq f 32 with
  | true => simp only [cond_true]; rw [Nat.eq_of_beq_eq_true hc]; exact t32 k args m
  | false =>
  simp only [cond_false]; clear hc
  cases hc : Nat.beq f 33 with
  | true => simp only [cond_true]; rw [Nat.eq_of_beq_eq_true hc]; exact t33 k args m
  | false =>
  simp only [cond_false]; clear hc
  cases hc : Nat.beq f 34 with
  | true => simp only [cond_true]; rw [Nat.eq_of_beq_eq_true hc]; exact t34 k args m
  | false =>
  simp only [cond_false]; clear hc
  cases hc : Nat.beq f 35 with
  | true => simp only [cond_true]; rw [Nat.eq_of_beq_eq_true hc]; exact t35 k args m
  | false =>
  simp only [cond_false]; clear hc
  cases hc : Nat.beq f 36 with
  | true => simp only [cond_true]; rw [Nat.eq_of_beq_eq_true hc]; exact t36 k args m
  | false =>
  simp only [cond_false]; clear hc
  cases hc : Nat.beq f 37 with
  | true => simp only [cond_true]; rw [Nat.eq_of_beq_eq_true hc]; exact t37 k args m
  | false =>
  simp only [cond_false]; clear hc
  cases hc : Nat.beq f 38 with
  | true => simp only [cond_true]; rw [Nat.eq_of_beq_eq_true hc]; exact t38 k args m
  | false =>
  simp only [cond_false]; clear hc
  cases hc : Nat.beq f 39 with
  | true => simp only [cond_true]; rw [Nat.eq_of_beq_eq_true hc]; exact t39 k args m
  | false =>
  simp only [cond_false]; clear hc
  cases hc : Nat.beq f 40 with
  | true => simp only [cond_true]; rw [Nat.eq_of_beq_eq_true hc]; exact t40 k args m
  | false =>
  simp only [cond_false]; clear hc
  cases hc : Nat.beq f 41 with
  | true => simp only [cond_true]; rw [Nat.eq_of_beq_eq_true hc]; exact t41 k args m
  | false =>
  simp only [cond_false]; clear hc
  cases hc : Nat.beq f 42 with
  | true => simp only [cond_true]; rw [Nat.eq_of_beq_eq_true hc]; exact t42 k args m
  | false =>
  simp only [cond_false]; clear hc
  cases hc : Nat.beq f 43 with
  | true => simp only [cond_true]; rw [Nat.eq_of_beq_eq_true hc]; exact t43 k args m
  | false =>
  simp only [cond_false]; clear hc
  cases hc : Nat.beq f 44 with
  | true => simp only [cond_true]; rw [Nat.eq_of_beq_eq_true hc]; exact t44 k args m
  | false =>
  simp only [cond_false]; clear hc
  cases hc : Nat.beq f 45 with
  | true => simp only [cond_true]; rw [Nat.eq_of_beq_eq_true hc]; exact t45 k args m
  | false =>
  simp only [cond_false]; clear hc
  cases hc : Nat.beq f 46 with
  | true => simp only [cond_true]; rw [Nat.eq_of_beq_eq_true hc]; exact t46 k args m
  | false =>
  simp only [cond_false]; clear hc
  cases hc : Nat.beq f 47 with
  | true => simp only [cond_true]; rw [Nat.eq_of_beq_eq_true hc]; exact t47 k args m
  | false =>
  simp only [cond_false]; clear hc
  cases hc : Nat.beq f 48 with
  | true => simp only [cond_true]; rw [Nat.eq_of_beq_eq_true hc]; exact t48 k args m
  | false =>
  simp only [cond_false]; clear hc
  cases hc : Nat.beq f 49 with
  | true => simp only [cond_true]; rw [Nat.eq_of_beq_eq_true hc]; exact t49 k args m
  | false =>
  simp only [cond_false]; clear hc
  cases hc : Nat.beq f 50 with
  | true => simp only [cond_true]; rw [Nat.eq_of_beq_eq_true hc]; exact t50 k args m
  | false =>
  simp only [cond_false]; clear hc
  cases hc : Nat.beq f 51 with
  | true => simp only [cond_true]; rw [Nat.eq_of_beq_eq_true hc]; exact t51 k args m
  | false =>
  simp only [cond_false]; clear hc
  cases hc : Nat.beq f 52 with
  | true => simp only [cond_true]; rw [Nat.eq_of_beq_eq_true hc]; exact t52 k args m
  | false =>
  simp only [cond_false]; clear hc
  cases hc : Nat.beq f 53 with
  | true => simp only [cond_true]; rw [Nat.eq_of_beq_eq_true hc]; exact t53 k args m
  | false =>
  simp only [cond_false]; clear hc
  cases hc : Nat.beq f 54 with
  | true => simp only [cond_true]; rw [Nat.eq_of_beq_eq_true hc]; exact t54 k args m
  | false =>
  simp only [cond_false]; clear hc
  cases hc : Nat.beq f 55 with
  | true => simp only [cond_true]; rw [Nat.eq_of_beq_eq_true hc]; exact t55 k args m
  | false =>
  simp only [cond_false]; clear hc
  cases hc : Nat.beq f 56 with
  | true => simp only [cond_true]; rw [Nat.eq_of_beq_eq_true hc]; exact t56 k args m
  | false =>
  simp only [cond_false]; clear hc
  cases hc : Nat.beq f 65 with
  | true => simp only [cond_true]; rw [Nat.eq_of_beq_eq_true hc]; exact t65 k args m
  | false =>
  simp only [cond_false]; clear hc
  cases hc : Nat.beq f 66 with
  | true => simp only [cond_true]; rw [Nat.eq_of_beq_eq_true hc]; exact t66 k args m
  | false =>
  simp only [cond_false]; clear hc
  cases hc : Nat.beq f 67 with
  | true => simp only [cond_true]; rw [Nat.eq_of_beq_eq_true hc]; exact t67 k args m
  | false =>
  simp only [cond_false]; clear hc
  first | exact .inl fun _ _ => rfl | exact .inl fun _ _ => trivial

theorem lbl5_6_0 : loopOf Tryd.prog 5 6 = some (bodyOf Tryd.prog 5 6) := by kernel_rfl

theorem lbl6_11_0 : loopOf Tryd.prog 6 11 = some (bodyOf Tryd.prog 6 11) := by kernel_rfl

theorem lbl6_20_0 : loopOf Tryd.prog 6 20 = some (bodyOf Tryd.prog 6 20) := by kernel_rfl

theorem lbl8_9_0 : loopOf Tryd.prog 8 9 = some (bodyOf Tryd.prog 8 9) := by kernel_rfl

theorem lbl11_6_0 : loopOf Tryd.prog 11 6 = some (bodyOf Tryd.prog 11 6) := by kernel_rfl

theorem lbl12_5_0 : loopOf Tryd.prog 12 5 = some (bodyOf Tryd.prog 12 5) := by kernel_rfl

theorem lbl13_4_0 : loopOf Tryd.prog 13 4 = some (bodyOf Tryd.prog 13 4) := by kernel_rfl

theorem lbl19_3_0 : loopOf Tryd.prog 19 3 = some (bodyOf Tryd.prog 19 3) := by kernel_rfl

theorem lbl20_4_0 : loopOf Tryd.prog 20 4 = some (bodyOf Tryd.prog 20 4) := by kernel_rfl

theorem lbl22_5_0 : loopOf Tryd.prog 22 5 = some (bodyOf Tryd.prog 22 5) := by kernel_rfl

theorem lbl23_0_0 : loopOf Tryd.prog 23 0 = some (bodyOf Tryd.prog 23 0) := by kernel_rfl

theorem lbl25_1_0 : loopOf Tryd.prog 25 1 = some (bodyOf Tryd.prog 25 1) := by kernel_rfl

theorem lbl25_6_0 : loopOf Tryd.prog 25 6 = some (bodyOf Tryd.prog 25 6) := by kernel_rfl

theorem lbl27_4_0 : loopOf Tryd.prog 27 4 = some (bodyOf Tryd.prog 27 4) := by kernel_rfl

theorem lbl41_2_0 : loopOf Tryd.prog 41 2 = some (bodyOf Tryd.prog 41 2) := by kernel_rfl

theorem lbl52_1_0 : loopOf Tryd.prog 52 1 = some (bodyOf Tryd.prog 52 1) := by kernel_rfl

theorem lbl54_5_0 : loopOf Tryd.prog 54 5 = some (bodyOf Tryd.prog 54 5) := by kernel_rfl

theorem ul5_6_0 (k : Nat) (st : St sig) : (∀ ρ K, Rl5_6_0 (Tabs (k + 1)) ρ (seenV (PK 5 0 6 0) st) (seenM 0 (PK 5 0 6 0) st) st.dfs st.nt K = none) ∨ ∃ c, loopOf Tryd.prog 5 6 = some c ∧ ∀ ρ K, Rl5_6_0 (Tabs (k + 1)) ρ (seenV (PK 5 0 6 0) st) (seenM 0 (PK 5 0 6 0) st) st.dfs st.nt K = evK Tryd.prog lay (T (Tabs k)) (LT (Tabs k)) hints 5 0 c (parkE PK 5 0 6 .normal st) (loopNext (LT (Tabs k)) PK 5 0 6 K) := by
  rcases rl5_6_0 (seenV (PK 5 0 6 0) st) (seenM 0 (PK 5 0 6 0) st) st.dfs st.nt with h | ⟨a1, a2, a3, a4, a5, a6, a7, h1, h2, h3, h4⟩
  · exact .inl fun ρ K => h ..
  · refine .inr ⟨_, lbl5_6_0, fun ρ K => ?_⟩
    rw [show parkE PK 5 0 6 (.normal : Ex sig) st = canon ((PK 5 0 6 0).1.map (·.1)) (seenV (PK 5 0 6 0) st) (seenM 0 (PK 5 0 6 0) st) st.dfs st.nt from park_seen ..]
    rw [h1, h2, h3, h4]
    exact (gl5_6_0 (Tabs k) ρ K a1 a2 a3 a4 a5 a6 a7).symm

theorem ul6_11_0 (k : Nat) (st : St sig) : (∀ ρ K, Rl6_11_0 (Tabs (k + 1)) ρ (seenV (PK 6 0 11 0) st) (seenM 0 (PK 6 0 11 0) st) st.dfs st.nt K = none) ∨ ∃ c, loopOf Tryd.prog 6 11 = some c ∧ ∀ ρ K, Rl6_11_0 (Tabs (k + 1)) ρ (seenV (PK 6 0 11 0) st) (seenM 0 (PK 6 0 11 0) st) st.dfs st.nt K = evK Tryd.prog lay (T (Tabs k)) (LT (Tabs k)) hints 6 0 c (parkE PK 6 0 11 .normal st) (loopNext (LT (Tabs k)) PK 6 0 11 K) := by
  rcases rl6_11_0 (seenV (PK 6 0 11 0) st) (seenM 0 (PK 6 0 11 0) st) st.dfs st.nt with h | ⟨a1, a2, a3, a4, a5, a6, h1, h2, h3, h4⟩
  · exact .inl fun ρ K => h ..
  · refine .inr ⟨_, lbl6_11_0, fun ρ K => ?_⟩
    rw [show parkE PK 6 0 11 (.normal : Ex sig) st = canon ((PK 6 0 11 0).1.map (·.1)) (seenV (PK 6 0 11 0) st) (seenM 0 (PK 6 0 11 0) st) st.dfs st.nt from park_seen ..]
    rw [h1, h2, h3, h4]
    exact (gl6_11_0 (Tabs k) ρ K a1 a2 a3 a4 a5 a6).symm

theorem ul6_20_0 (k : Nat) (st : St sig) : (∀ ρ K, Rl6_20_0 (Tabs (k + 1)) ρ (seenV (PK 6 0 20 0) st) (seenM 0 (PK 6 0 20 0) st) st.dfs st.nt K = none) ∨ ∃ c, loopOf Tryd.prog 6 20 = some c ∧ ∀ ρ K, Rl6_20_0 (Tabs (k + 1)) ρ (seenV (PK 6 0 20 0) st) (seenM 0 (PK 6 0 20 0) st) st.dfs st.nt K = evK Tryd.prog lay (T (Tabs k)) (LT (Tabs k)) hints 6 0 c (parkE PK 6 0 20 .normal st) (loopNext (LT (Tabs k)) PK 6 0 20 K) := by
  rcases rl6_20_0 (seenV (PK 6 0 20 0) st) (seenM 0 (PK 6 0 20 0) st) st.dfs st.nt with h | ⟨a1, a2, a3, a4, a5, a6, h1, h2, h3, h4⟩
  · exact .inl fun ρ K => h ..
  · refine .inr ⟨_, lbl6_20_0, fun ρ K => ?_⟩
    rw [show parkE PK 6 0 20 (.normal : Ex sig) st = canon ((PK 6 0 20 0).1.map (·.1)) (seenV (PK 6 0 20 0) st) (seenM 0 (PK 6 0 20 0) st) st.dfs st.nt from park_seen ..]
    rw [h1, h2, h3, h4]
    exact (gl6_20_0 (Tabs k) ρ K a1 a2 a3 a4 a5 a6).symm

theorem ul8_9_0 (k : Nat) (st : St sig) : (∀ ρ K, Rl8_9_0 (Tabs (k + 1)) ρ (seenV (PK 8 0 9 0) st) (seenM 0 (PK 8 0 9 0) st) st.dfs st.nt K = none) ∨ ∃ c, loopOf Tryd.prog 8 9 = some c ∧ ∀ ρ K, Rl8_9_0 (Tabs (k + 1)) ρ (seenV (PK 8 0 9 0) st) (seenM 0 (PK 8 0 9 0) st) st.dfs st.nt K = evK Tryd.prog lay (T (Tabs k)) (LT (Tabs k)) hints 8 0 c (parkE PK 8 0 9 .normal st) (loopNext (LT (Tabs k)) PK 8 0 9 K) := by
  rcases rl8_9_0 (seenV (PK 8 0 9 0) st) (seenM 0 (PK 8 0 9 0) st) st.dfs st.nt with h | ⟨a1, a2, a3, a4, a5, h1, h2, h3, h4⟩
  · exact .inl fun ρ K => h ..
  · refine .inr ⟨_, lbl8_9_0, fun ρ K => ?_⟩
    rw [show parkE PK 8 0 9 (.normal : Ex sig) st = canon ((PK 8 0 9 0).1.map (·.1)) (seenV (PK 8 0 9 0) st) (seenM 0 (PK 8 0 9 0) st) st.dfs st.nt from park_seen ..]
    rw [h1, h2, h3, h4]
    exact (gl8_9_0 (Tabs k) ρ K a1 a2 a3 a4 a5).symm

theorem ul11_6_0 (k : Nat) (st : St sig) : (∀ ρ K, Rl11_6_0 (Tabs (k + 1)) ρ (seenV (PK 11 0 6 0) st) (seenM 0 (PK 11 0 6 0) st) st.dfs st.nt K = none) ∨ ∃ c, loopOf Tryd.prog 11 6 = some c ∧ ∀ ρ K, Rl11_6_0 (Tabs (k + 1)) ρ (seenV (PK 11 0 6 0) st) (seenM 0 (PK 11 0 6 0) st) st.dfs st.nt K = evK Tryd.prog lay (T (Tabs k)) (LT (Tabs k)) hints 11 0 c (parkE PK 11 0 6 .normal st) (loopNext (LT (Tabs k)) PK 11 0 6 K) := by
  rcases rl11_6_0 (seenV (PK 11 0 6 0) st) (seenM 0 (PK 11 0 6 0) st) st.dfs st.nt with h | ⟨a1, a2, a3, a4, h1, h2, h3, h4⟩
  · exact .inl fun ρ K => h ..
  · refine .inr ⟨_, lbl11_6_0, fun ρ K => ?_⟩
    rw [show parkE PK 11 0 6 (.normal : Ex sig) st = canon ((PK 11 0 6 0).1.map (·.1)) (seenV (PK 11 0 6 0) st) (seenM 0 (PK 11 0 6 0) st) st.dfs st.nt from park_seen ..]
    rw [h1, h2, h3, h4]
    exact (gl11_6_0 (Tabs k) ρ K a1 a2 a3 a4).symm

theorem ul12_5_0 (k : Nat) (st : St sig) : (∀ ρ K, Rl12_5_0 (Tabs (k + 1)) ρ (seenV (PK 12 0 5 0) st) (seenM 0 (PK 12 0 5 0) st) st.dfs st.nt K = none) ∨ ∃ c, loopOf Tryd.prog 12 5 = some c ∧ ∀ ρ K, Rl12_5_0 (Tabs (k + 1)) ρ (seenV (PK 12 0 5 0) st) (seenM 0 (PK 12 0 5 0) st) st.dfs st.nt K = evK Tryd.prog lay (T (Tabs k)) (LT (Tabs k)) hints 12 0 c (parkE PK 12 0 5 .normal st) (loopNext (LT (Tabs k)) PK 12 0 5 K) := by
  rcases rl12_5_0 (seenV (PK 12 0 5 0) st) (seenM 0 (PK 12 0 5 0) st) st.dfs st.nt with h | ⟨a1, a2, a3, h1, h2, h3, h4⟩
  · exact .inl fun ρ K => h ..
  · refine .inr ⟨_, lbl12_5_0, fun ρ K => ?_⟩
    rw [show parkE PK 12 0 5 (.normal : Ex sig) st = canon ((PK 12 0 5 0).1.map (·.1)) (seenV (PK 12 0 5 0) st) (seenM 0 (PK 12 0 5 0) st) st.dfs st.nt from park_seen ..]
    rw [h1, h2, h3, h4]
    exact (gl12_5_0 (Tabs k) ρ K a1 a2 a3).symm

theorem ul13_4_0 (k : Nat) (st : St sig) : (∀ ρ K, Rl13_4_0 (Tabs (k + 1)) ρ (seenV (PK 13 0 4 0) st) (seenM 0 (PK 13 0 4 0) st) st.dfs st.nt K = none) ∨ ∃ c, loopOf Tryd.prog 13 4 = some c ∧ ∀ ρ K, Rl13_4_0 (Tabs (k + 1)) ρ (seenV (PK 13 0 4 0) st) (seenM 0 (PK 13 0 4 0) st) st.dfs st.nt K = evK Tryd.prog lay (T (Tabs k)) (LT (Tabs k)) hints 13 0 c (parkE PK 13 0 4 .normal st) (loopNext (LT (Tabs k)) PK 13 0 4 K) := by
  rcases rl13_4_0 (seenV (PK 13 0 4 0) st) (seenM 0 (PK 13 0 4 0) st) st.dfs st.nt with h | ⟨a1, a2, a3, a4, a5, h1, h2, h3, h4⟩
  · exact .inl fun ρ K => h ..
  · refine .inr ⟨_, lbl13_4_0, fun ρ K => ?_⟩
    rw [show parkE PK 13 0 4 (.normal : Ex sig) st = canon ((PK 13 0 4 0).1.map (·.1)) (seenV (PK 13 0 4 0) st) (seenM 0 (PK 13 0 4 0) st) st.dfs st.nt from park_seen ..]
    rw [h1, h2, h3, h4]
    exact (gl13_4_0 (Tabs k) ρ K a1 a2 a3 a4 a5).symm

theorem ul19_3_0 (k : Nat) (st : St sig) : (∀ ρ K, Rl19_3_0 (Tabs (k + 1)) ρ (seenV (PK 19 0 3 0) st) (seenM 0 (PK 19 0 3 0) st) st.dfs st.nt K = none) ∨ ∃ c, loopOf Tryd.prog 19 3 = some c ∧ ∀ ρ K, Rl19_3_0 (Tabs (k + 1)) ρ (seenV (PK 19 0 3 0) st) (seenM 0 (PK 19 0 3 0) st) st.dfs st.nt K = evK Tryd.prog lay (T (Tabs k)) (LT (Tabs k)) hints 19 0 c (parkE PK 19 0 3 .normal st) (loopNext (LT (Tabs k)) PK 19 0 3 K) := by
  rcases rl19_3_0 (seenV (PK 19 0 3 0) st) (seenM 0 (PK 19 0 3 0) st) st.dfs st.nt with h | ⟨a1, a2, a3, a4, h1, h2, h3, h4⟩
  · exact .inl fun ρ K => h ..
  · refine .inr ⟨_, lbl19_3_0, fun ρ K => ?_⟩
    rw [show parkE PK 19 0 3 (.normal : Ex sig) st = canon ((PK 19 0 3 0).1.map (·.1)) (seenV (PK 19 0 3 0) st) (seenM 0 (PK 19 0 3 0) st) st.dfs st.nt from park_seen ..]
    rw [h1, h2, h3, h4]
    exact (gl19_3_0 (Tabs k) ρ K a1 a2 a3 a4).symm

theorem ul20_4_0 (k : Nat) (st : St sig) : (∀ ρ K, Rl20_4_0 (Tabs (k + 1)) ρ (seenV (PK 20 0 4 0) st) (seenM 0 (PK 20 0 4 0) st) st.dfs st.nt K = none) ∨ ∃ c, loopOf Tryd.prog 20 4 = some c ∧ ∀ ρ K, Rl20_4_0 (Tabs (k + 1)) ρ (seenV (PK 20 0 4 0) st) (seenM 0 (PK 20 0 4 0) st) st.dfs st.nt K = evK Tryd.prog lay (T (Tabs k)) (LT (Tabs k)) hints 20 0 c (parkE PK 20 0 4 .normal st) (loopNext (LT (Tabs k)) PK 20 0 4 K) := by
  rcases rl20_4_0 (seenV (PK 20 0 4 0) st) (seenM 0 (PK 20 0 4 0) st) st.dfs st.nt with h | ⟨a1, a2, a3, a4, a5, h1, h2, h3, h4⟩
  · exact .inl fun ρ K => h ..
  · refine .inr ⟨_, lbl20_4_0, fun ρ K => ?_⟩
    rw [show parkE PK 20 0 4 (.normal : Ex sig) st = canon ((PK 20 0 4 0).1.map (·.1)) (seenV (PK 20 0 4 0) st) (seenM 0 (PK 20 0 4 0) st) st.dfs st.nt from park_seen ..]
    rw [h1, h2, h3, h4]
    exact (gl20_4_0 (Tabs k) ρ K a1 a2 a3 a4 a5).symm

theorem ul22_5_0 (k : Nat) (st : St sig) : (∀ ρ K, Rl22_5_0 (Tabs (k + 1)) ρ (seenV (PK 22 0 5 0) st) (seenM 0 (PK 22 0 5 0) st) st.dfs st.nt K = none) ∨ ∃ c, loopOf Tryd.prog 22 5 = some c ∧ ∀ ρ K, Rl22_5_0 (Tabs (k + 1)) ρ (seenV (PK 22 0 5 0) st) (seenM 0 (PK 22 0 5 0) st) st.dfs st.nt K = evK Tryd.prog lay (T (Tabs k)) (LT (Tabs k)) hints 22 0 c (parkE PK 22 0 5 .normal st) (loopNext (LT (Tabs k)) PK 22 0 5 K) := by
  rcases rl22_5_0 (seenV (PK 22 0 5 0) st) (seenM 0 (PK 22 0 5 0) st) st.dfs st.nt with h | ⟨a1, a2, a3, a4, a5, h1, h2, h3, h4⟩
  · exact .inl fun ρ K => h ..
  · refine .inr ⟨_, lbl22_5_0, fun ρ K => ?_⟩
    rw [show parkE PK 22 0 5 (.normal : Ex sig) st = canon ((PK 22 0 5 0).1.map (·.1)) (seenV (PK 22 0 5 0) st) (seenM 0 (PK 22 0 5 0) st) st.dfs st.nt from park_seen ..]
    rw [h1, h2, h3, h4]
    exact (gl22_5_0 (Tabs k) ρ K a1 a2 a3 a4 a5).symm

theorem ul23_0_0 (k : Nat) (st : St sig) : (∀ ρ K, Rl23_0_0 (Tabs (k + 1)) ρ (seenV (PK 23 1 0 0) st) (seenM 1 (PK 23 1 0 0) st) st.dfs st.nt K = none) ∨ ∃ c, loopOf Tryd.prog 23 0 = some c ∧ ∀ ρ K, Rl23_0_0 (Tabs (k + 1)) ρ (seenV (PK 23 1 0 0) st) (seenM 1 (PK 23 1 0 0) st) st.dfs st.nt K = evK Tryd.prog lay (T (Tabs k)) (LT (Tabs k)) hints 23 1 c (parkE PK 23 1 0 .normal st) (loopNext (LT (Tabs k)) PK 23 1 0 K) := by
  rcases rl23_0_0 (seenV (PK 23 1 0 0) st) (seenM 1 (PK 23 1 0 0) st) st.dfs st.nt with h | ⟨a1, a2, h1, h2, h3, h4⟩
  · exact .inl fun ρ K => h ..
  · refine .inr ⟨_, lbl23_0_0, fun ρ K => ?_⟩
    rw [show parkE PK 23 1 0 (.normal : Ex sig) st = canon ((PK 23 1 0 0).1.map (·.1)) (seenV (PK 23 1 0 0) st) (seenM 1 (PK 23 1 0 0) st) st.dfs st.nt from park_seen ..]
    rw [h1, h2, h3, h4]
    exact (gl23_0_0 (Tabs k) ρ K a1 a2).symm

theorem ul25_1_0 (k : Nat) (st : St sig) : (∀ ρ K, Rl25_1_0 (Tabs (k + 1)) ρ (seenV (PK 25 0 1 0) st) (seenM 0 (PK 25 0 1 0) st) st.dfs st.nt K = none) ∨ ∃ c, loopOf Tryd.prog 25 1 = some c ∧ ∀ ρ K, Rl25_1_0 (Tabs (k + 1)) ρ (seenV (PK 25 0 1 0) st) (seenM 0 (PK 25 0 1 0) st) st.dfs st.nt K = evK Tryd.prog lay (T (Tabs k)) (LT (Tabs k)) hints 25 0 c (parkE PK 25 0 1 .normal st) (loopNext (LT (Tabs k)) PK 25 0 1 K) := by
  rcases rl25_1_0 (seenV (PK 25 0 1 0) st) (seenM 0 (PK 25 0 1 0) st) st.dfs st.nt with h | ⟨a1, a2, h1, h2, h3, h4⟩
  · exact .inl fun ρ K => h ..
  · refine .inr ⟨_, lbl25_1_0, fun ρ K => ?_⟩
    rw [show parkE PK 25 0 1 (.normal : Ex sig) st = canon ((PK 25 0 1 0).1.map (·.1)) (seenV (PK 25 0 1 0) st) (seenM 0 (PK 25 0 1 0) st) st.dfs st.nt from park_seen ..]
    rw [h1, h2, h3, h4]
    exact (gl25_1_0 (Tabs k) ρ K a1 a2).symm

theorem ul25_6_0 (k : Nat) (st : St sig) : (∀ ρ K, Rl25_6_0 (Tabs (k + 1)) ρ (seenV (PK 25 0 6 0) st) (seenM 0 (PK 25 0 6 0) st) st.dfs st.nt K = none) ∨ ∃ c, loopOf Tryd.prog 25 6 = some c ∧ ∀ ρ K, Rl25_6_0 (Tabs (k + 1)) ρ (seenV (PK 25 0 6 0) st) (seenM 0 (PK 25 0 6 0) st) st.dfs st.nt K = evK Tryd.prog lay (T (Tabs k)) (LT (Tabs k)) hints 25 0 c (parkE PK 25 0 6 .normal st) (loopNext (LT (Tabs k)) PK 25 0 6 K) := by
  rcases rl25_6_0 (seenV (PK 25 0 6 0) st) (seenM 0 (PK 25 0 6 0) st) st.dfs st.nt with h | ⟨a1, a2, h1, h2, h3, h4⟩
  · exact .inl fun ρ K => h ..
  · refine .inr ⟨_, lbl25_6_0, fun ρ K => ?_⟩
    rw [show parkE PK 25 0 6 (.normal : Ex sig) st = canon ((PK 25 0 6 0).1.map (·.1)) (seenV (PK 25 0 6 0) st) (seenM 0 (PK 25 0 6 0) st) st.dfs st.nt from park_seen ..]
    rw [h1, h2, h3, h4]
    exact (gl25_6_0 (Tabs k) ρ K a1 a2).symm

theorem ul27_4_0 (k : Nat) (st : St sig) : (∀ ρ K, Rl27_4_0 (Tabs (k + 1)) ρ (seenV (PK 27 0 4 0) st) (seenM 0 (PK 27 0 4 0) st) st.dfs st.nt K = none) ∨ ∃ c, loopOf Tryd.prog 27 4 = some c ∧ ∀ ρ K, Rl27_4_0 (Tabs (k + 1)) ρ (seenV (PK 27 0 4 0) st) (seenM 0 (PK 27 0 4 0) st) st.dfs st.nt K = evK Tryd.prog lay (T (Tabs k)) (LT (Tabs k)) hints 27 0 c (parkE PK 27 0 4 .normal st) (loopNext (LT (Tabs k)) PK 27 0 4 K) := by
  rcases rl27_4_0 (seenV (PK 27 0 4 0) st) (seenM 0 (PK 27 0 4 0) st) st.dfs st.nt with h | ⟨a1, a2, a3, h1, h2, h3, h4⟩
  · exact .inl fun ρ K => h ..
  · refine .inr ⟨_, lbl27_4_0, fun ρ K => ?_⟩
    rw [show parkE PK 27 0 4 (.normal : Ex sig) st = canon ((PK 27 0 4 0).1.map (·.1)) (seenV (PK 27 0 4 0) st) (seenM 0 (PK 27 0 4 0) st) st.dfs st.nt from park_seen ..]
    rw [h1, h2, h3, h4]
    exact (gl27_4_0 (Tabs k) ρ K a1 a2 a3).symm

theorem ul41_2_0 (k : Nat) (st : St sig) : (∀ ρ K, Rl41_2_0 (Tabs (k + 1)) ρ (seenV (PK 41 1 2 0) st) (seenM 1 (PK 41 1 2 0) st) st.dfs st.nt K = none) ∨ ∃ c, loopOf Tryd.prog 41 2 = some c ∧ ∀ ρ K, Rl41_2_0 (Tabs (k + 1)) ρ (seenV (PK 41 1 2 0) st) (seenM 1 (PK 41 1 2 0) st) st.dfs st.nt K = evK Tryd.prog lay (T (Tabs k)) (LT (Tabs k)) hints 41 1 c (parkE PK 41 1 2 .normal st) (loopNext (LT (Tabs k)) PK 41 1 2 K) := by
  rcases rl41_2_0 (seenV (PK 41 1 2 0) st) (seenM 1 (PK 41 1 2 0) st) st.dfs st.nt with h | ⟨a1, a2, a3, a4, h1, h2, h3, h4⟩
  · exact .inl fun ρ K => h ..
  · refine .inr ⟨_, lbl41_2_0, fun ρ K => ?_⟩
    rw [show parkE PK 41 1 2 (.normal : Ex sig) st = canon ((PK 41 1 2 0).1.map (·.1)) (seenV (PK 41 1 2 0) st) (seenM 1 (PK 41 1 2 0) st) st.dfs st.nt from park_seen ..]
    rw [h1, h2, h3, h4]
    exact (gl41_2_0 (Tabs k) ρ K a1 a2 a3 a4).symm

theorem ul52_1_0 (k : Nat) (st : St sig) : (∀ ρ K, Rl52_1_0 (Tabs (k + 1)) ρ (seenV (PK 52 0 1 0) st) (seenM 0 (PK 52 0 1 0) st) st.dfs st.nt K = none) ∨ ∃ c, loopOf Tryd.prog 52 1 = some c ∧ ∀ ρ K, Rl52_1_0 (Tabs (k + 1)) ρ (seenV (PK 52 0 1 0) st) (seenM 0 (PK 52 0 1 0) st) st.dfs st.nt K = evK Tryd.prog lay (T (Tabs k)) (LT (Tabs k)) hints 52 0 c (parkE PK 52 0 1 .normal st) (loopNext (LT (Tabs k)) PK 52 0 1 K) := by
  rcases rl52_1_0 (seenV (PK 52 0 1 0) st) (seenM 0 (PK 52 0 1 0) st) st.dfs st.nt with h | ⟨a1, a2, h1, h2, h3, h4⟩
  · exact .inl fun ρ K => h ..
  · refine .inr ⟨_, lbl52_1_0, fun ρ K => ?_⟩
    rw [show parkE PK 52 0 1 (.normal : Ex sig) st = canon ((PK 52 0 1 0).1.map (·.1)) (seenV (PK 52 0 1 0) st) (seenM 0 (PK 52 0 1 0) st) st.dfs st.nt from park_seen ..]
    rw [h1, h2, h3, h4]
    exact (gl52_1_0 (Tabs k) ρ K a1 a2).symm

theorem ul54_5_0 (k : Nat) (st : St sig) : (∀ ρ K, Rl54_5_0 (Tabs (k + 1)) ρ (seenV (PK 54 0 5 0) st) (seenM 0 (PK 54 0 5 0) st) st.dfs st.nt K = none) ∨ ∃ c, loopOf Tryd.prog 54 5 = some c ∧ ∀ ρ K, Rl54_5_0 (Tabs (k + 1)) ρ (seenV (PK 54 0 5 0) st) (seenM 0 (PK 54 0 5 0) st) st.dfs st.nt K = evK Tryd.prog lay (T (Tabs k)) (LT (Tabs k)) hints 54 0 c (parkE PK 54 0 5 .normal st) (loopNext (LT (Tabs k)) PK 54 0 5 K) := by
  rcases rl54_5_0 (seenV (PK 54 0 5 0) st) (seenM 0 (PK 54 0 5 0) st) st.dfs st.nt with h | ⟨a1, a2, a3, h1, h2, h3, h4⟩
  · exact .inl fun ρ K => h ..
  · refine .inr ⟨_, lbl54_5_0, fun ρ K => ?_⟩
    rw [show parkE PK 54 0 5 (.normal : Ex sig) st = canon ((PK 54 0 5 0).1.map (·.1)) (seenV (PK 54 0 5 0) st) (seenM 0 (PK 54 0 5 0) st) st.dfs st.nt from park_seen ..]
    rw [h1, h2, h3, h4]
    exact (gl54_5_0 (Tabs k) ρ K a1 a2 a3).symm

theorem tL (k f np key : Nat) (st : St sig) : (∀ ρ K, LT (Tabs (k + 1)) ρ f np key st K = none) ∨ ∃ c, loopOf Tryd.prog f key = some c ∧ ∀ ρ K, LT (Tabs (k + 1)) ρ f np key st K = evK Tryd.prog lay (T (Tabs k)) (LT (Tabs k)) hints f np c (parkE PK f np key .normal st) (loopNext (LT (Tabs k)) PK f np key K) := by
  unfold LT
  cases hc : Nat.beq f 5 && (Nat.beq np 0 && Nat.beq key 6) with
  | true =>
    simp only [cond_true]; simp only [Bool.and_eq_true] at hc; rw [Nat.eq_of_beq_eq_true hc.1, Nat.eq_of_beq_eq_true hc.2.1, Nat.eq_of_beq_eq_true hc.2.2]
    exact ul5_6_0 k st
  | false =>
  simp only [cond_false]; clear hc
  cases hc : Nat.beq f 6 && (Nat.beq np 0 && Nat.beq key 11) with
  | true =>
    simp only [cond_true]; simp only [Bool.and_eq_true] at hc; rw [Nat.eq_of_beq_eq_true hc.1, Nat.eq_of_beq_eq_true hc.2.1, Nat.eq_of_beq_eq_true hc.2.2]
    exact ul6_11_0 k st
  | false =>
  simp only [cond_false]; clear hc
  cases hc : Nat.beq f 6 && (Nat.beq np 0 && Nat.beq key 20) with
  | true =>
    simp only [cond_true]; simp only [Bool.and_eq_true] at hc; rw [Nat.eq_of_beq_eq_true hc.1, Nat.eq_of_beq_eq_true hc.2.1, Nat.eq_of_beq_eq_true hc.2.2]
    exact ul6_20_0 k st
  | false =>
  simp only [cond_false]; clear hc
  cases hc : Nat.beq f 8 && (Nat.beq np 0 && Nat.beq key 9) with
  | true =>
    simp only [cond_true]; simp only [Bool.and_eq_true] at hc; rw [Nat.eq_of_beq_eq_true hc.1, Nat.eq_of_beq_eq_true hc.2.1, Nat.eq_of_beq_eq_true hc.2.2]
    exact ul8_9_0 k st
  | false =>
  simp only [cond_false]; clear hc
  cases hc : Nat.beq f 11 && (Nat.beq np 0 && Nat.beq key 6) with
  | true =>
    simp only [cond_true]; simp only [Bool.and_eq_true] at hc; rw [Nat.eq_of_beq_eq_true hc.1, Nat.eq_of_beq_eq_true hc.2.1, Nat.eq_of_beq_eq_true hc.2.2]
    exact ul11_6_0 k st
  | false =>
  simp only [cond_false]; clear hc
  cases hc : Nat.beq f 12 && (Nat.beq np 0 && Nat.beq key 5) with
  | true =>
    simp only [cond_true]; simp only [Bool.and_eq_true] at hc; rw [Nat.eq_of_beq_eq_true hc.1, Nat.eq_of_beq_eq_true hc.2.1, Nat.eq_of_beq_eq_true hc.2.2]
    exact ul12_5_0 k st
  | false =>
  simp only [cond_false]; clear hc
  cases hc : Nat.beq f 13 && (Nat.beq np 0 && Nat.beq key 4) with
  | true =>
    simp only [cond_true]; simp only [Bool.and_eq_true] at hc; rw [Nat.eq_of_beq_eq_true hc.1, Nat.eq_of_beq_eq_true hc.2.1, Nat.eq_of_beq_eq_true hc.2.2]
    exact ul13_4_0 k st
  | false =>
  simp only [cond_false]; clear hc
  cases hc : Nat.beq f 19 && (Nat.beq np 0 && Nat.beq key 3) with
  | true =>
    simp only [cond_true]; simp only [Bool.and_eq_true] at hc; rw [Nat.eq_of_beq_eq_true hc.1, Nat.eq_of_beq_eq_true hc.2.1, Nat.eq_of_beq_eq_true hc.2.2]
    exact ul19_3_0 k st
  | false =>
  simp only [cond_false]; clear hc
  cases hc : Nat.beq f 20 && (Nat.beq np 0 && Nat.beq key 4) with
  | true =>
    simp only [cond_true]; simp only [Bool.and_eq_true] at hc; rw [Nat.eq_of_beq_eq_true hc.1, Nat.eq_of_beq_eq_true hc.2.1, Nat.eq_of_beq_eq_true hc.2.2]
    exact ul20_4_0 k st
  | false =>
  simp only [cond_false]; clear hc
  cases hc : Nat.beq f 22 && (Nat.beq np 0 && Nat.beq key 5) with
  | true =>
    simp only [cond_true]; simp only [Bool.and_eq_true] at hc; rw [Nat.eq_of_beq_eq_true hc.1, Nat.eq_of_beq_eq_true hc.2.1, Nat.eq_of_beq_eq_true hc.2.2]
    exact ul22_5_0 k st
  | false =>
  simp only [cond_false]; clear hc
  cases hc : Nat.beq f 23 && (Nat.beq np 1 && Nat.beq key 0) with
  | true =>
    simp only [cond_true]; simp only [Bool.and_eq_true] at hc; rw [Nat.eq_of_beq_eq_true hc.1, Nat.eq_of_beq_eq_true hc.2.1, Nat.eq_of_beq_eq_true hc.2.2]
    exact ul23_0_0 k st
  | false =>
  simp only [cond_false]; clear hc
  cases hc : Nat.beq f 25 && (Nat.beq np 0 && Nat.beq key 1) with
  | true =>
    simp only [cond_true]; simp only [Bool.and_eq_true] at hc; rw [Nat.eq_of_beq_eq_true hc.1, Nat.eq_of_beq_eq_true hc.2.1, Nat.eq_of_beq_eq_true hc.2.2]
    exact ul25_1_0 k st
  | false =>
  simp only [cond_false]; clear hc
  cases hc : Nat.beq f 25 && (Nat.beq np 0 && Nat.beq key 6) with
  | true =>
    simp only [cond_true]; simp only [Bool.and_eq_true] at hc; rw [Nat.eq_of_beq_eq_true hc.1, Nat.eq_of_beq_eq_true hc.2.1, Nat.eq_of_beq_eq_true hc.2.2]
    exact ul25_6_0 k st
  | false =>
  simp only [cond_false]; clear hc
  cases hc : Nat.beq f 27 && (Nat.beq np 0 && Nat.beq key 4) with
  | true =>
    simp only [cond_true]; simp only [Bool.and_eq_true] at hc; rw [Nat.eq_of_beq_eq_true hc.1, Nat.eq_of_beq_eq_true hc.2.1, Nat.eq_of_beq_eq_true hc.2.2]
    exact ul27_4_0 k st
  | false =>
  simp only [cond_false]; clear hc
  cases hc : Nat.beq f 41 && (Nat.beq np 1 && Nat.beq key 2) with
  | true =>
    simp only [cond_true]; simp only [Bool.and_eq_true] at hc; rw [Nat.eq_of_beq_eq_true hc.1, Nat.eq_of_beq_eq_true hc.2.1, Nat.eq_of_beq_eq_true hc.2.2]
    exact ul41_2_0 k st
  | false =>
  simp only [cond_false]; clear hc
  cases hc : Nat.beq f 52 && (Nat.beq np 0 && Nat.beq key 1) with
  | true =>
    simp only [cond_true]; simp only [Bool.and_eq_true] at hc; rw [Nat.eq_of_beq_eq_true hc.1, Nat.eq_of_beq_eq_true hc.2.1, Nat.eq_of_beq_eq_true hc.2.2]
    exact ul52_1_0 k st
  | false =>
  simp only [cond_false]; clear hc
  cases hc : Nat.beq f 54 && (Nat.beq np 0 && Nat.beq key 5) with
  | true =>
    simp only [cond_true]; simp only [Bool.and_eq_true] at hc; rw [Nat.eq_of_beq_eq_true hc.1, Nat.eq_of_beq_eq_true hc.2.1, Nat.eq_of_beq_eq_true hc.2.2]
    exact ul54_5_0 k st
  | false =>
  simp only [cond_false]; clear hc
  first | exact .inl fun _ _ => rfl | exact .inl fun _ _ => trivial

theorem z3 (args : List (PV sig)) (m : Mem sig) : ∀ ρ K, T3 (Tabs 0) ρ args m K = none := by
  rcases rc3_0 args m with h | ⟨a1, rfl, rfl⟩
  · exact fun ρ K => h ..
  · exact fun ρ K => rfl

theorem z4 (args : List (PV sig)) (m : Mem sig) : ∀ ρ K, T4 (Tabs 0) ρ args m K = none := by
  rcases rc4_0 args m with h | ⟨a1, rfl, rfl⟩
  · exact fun ρ K => h ..
  · exact fun ρ K => rfl

theorem z5 (args : List (PV sig)) (m : Mem sig) : ∀ ρ K, T5 (Tabs 0) ρ args m K = none := by
  rcases rc5_0 args m with h | ⟨a1, rfl, rfl⟩
  · exact fun ρ K => h ..
  · exact fun ρ K => rfl

theorem z6 (args : List (PV sig)) (m : Mem sig) : ∀ ρ K, T6 (Tabs 0) ρ args m K = none := by
  rcases rc6_0 args m with h | ⟨a1, a2, a3, rfl, rfl⟩
  · exact fun ρ K => h ..
  · exact fun ρ K => rfl

theorem z8 (args : List (PV sig)) (m : Mem sig) : ∀ ρ K, T8 (Tabs 0) ρ args m K = none := by
  rcases rc8_0 args m with h | ⟨a1, rfl, rfl⟩
  · exact fun ρ K => h ..
  · exact fun ρ K => rfl

theorem z9 (args : List (PV sig)) (m : Mem sig) : ∀ ρ K, T9 (Tabs 0) ρ args m K = none := by
  rcases rc9_0 args m with h | ⟨a1, a2, rfl, rfl⟩
  · exact fun ρ K => h ..
  · exact fun ρ K => rfl

theorem z10 (args : List (PV sig)) (m : Mem sig) : ∀ ρ K, T10 (Tabs 0) ρ args m K = none := by
  rcases rc10_0 args m with h | ⟨a1, a2, rfl, rfl⟩
  · exact fun ρ K => h ..
  · exact fun ρ K => rfl

theorem z11 (args : List (PV sig)) (m : Mem sig) : ∀ ρ K, T11 (Tabs 0) ρ args m K = none := by
  rcases rc11_0 args m with h | ⟨a1, rfl, rfl⟩
  · exact fun ρ K => h ..
  · exact fun ρ K => rfl

theorem z12 (args : List (PV sig)) (m : Mem sig) : ∀ ρ K, T12 (Tabs 0) ρ args m K = none := by
  rcases rc12_0 args m with h | ⟨a1, rfl, rfl⟩
  · exact fun ρ K => h ..
  · exact fun ρ K => rfl

theorem z13 (args : List (PV sig)) (m : Mem sig) : ∀ ρ K, T13 (Tabs 0) ρ args m K = none := by
  rcases rc13_0 args m with h | ⟨a1, a2, a3, rfl, rfl⟩
  · exact fun ρ K => h ..
  · exact fun ρ K => rfl

theorem z14 (args : List (PV sig)) (m : Mem sig) : ∀ ρ K, T14 (Tabs 0) ρ args m K = none := by
  rcases rc14_0 args m with h | ⟨rfl, rfl⟩
  · exact fun ρ K => h ..
  · exact fun ρ K => rfl

theorem z15 (args : List (PV sig)) (m : Mem sig) : ∀ ρ K, T15 (Tabs 0) ρ args m K = none := by
  rcases rc15_0 args m with h | ⟨a1, rfl, rfl⟩
  · exact fun ρ K => h ..
  · exact fun ρ K => rfl

theorem z16 (args : List (PV sig)) (m : Mem sig) : ∀ ρ K, T16 (Tabs 0) ρ args m K = none := by
  rcases rc16_0 args m with h | ⟨a1, rfl, rfl⟩
  · exact fun ρ K => h ..
  · exact fun ρ K => rfl

theorem z17 (args : List (PV sig)) (m : Mem sig) : ∀ ρ K, T17 (Tabs 0) ρ args m K = none := by
  rcases rc17_0 args m with h | ⟨a1, rfl, rfl⟩
  · exact fun ρ K => h ..
  · exact fun ρ K => rfl

theorem z18 (args : List (PV sig)) (m : Mem sig) : ∀ ρ K, T18 (Tabs 0) ρ args m K = none := by
  rcases rc18_0 args m with h | ⟨a1, rfl, rfl⟩
  · exact fun ρ K => h ..
  · exact fun ρ K => rfl

theorem z19 (args : List (PV sig)) (m : Mem sig) : ∀ ρ K, T19 (Tabs 0) ρ args m K = none := by
  rcases rc19_0 args m with h | ⟨a1, rfl, rfl⟩
  · exact fun ρ K => h ..
  · exact fun ρ K => rfl

theorem z20 (args : List (PV sig)) (m : Mem sig) : ∀ ρ K, T20 (Tabs 0) ρ args m K = none := by
  rcases rc20_0 args m with h | ⟨a1, rfl, rfl⟩
  · exact fun ρ K => h ..
  · exact fun ρ K => rfl

theorem z21 (args : List (PV sig)) (m : Mem sig) : ∀ ρ K, T21 (Tabs 0) ρ args m K = none := by
  rcases rc21_0 args m with h | ⟨a1, a2, rfl, rfl⟩
  · exact fun ρ K => h ..
  · exact fun ρ K => rfl

theorem z22 (args : List (PV sig)) (m : Mem sig) : ∀ ρ K, T22 (Tabs 0) ρ args m K = none := by
  rcases rc22_0 args m with h | ⟨a1, a2, rfl, rfl⟩
  · exact fun ρ K => h ..
  · exact fun ρ K => rfl

theorem z23 (args : List (PV sig)) (m : Mem sig) : ∀ ρ K, T23 (Tabs 0) ρ args m K = none := by
  rcases rc23_0 args m with h | ⟨a1, a2, rfl, rfl⟩
  · exact fun ρ K => h ..
  · exact fun ρ K => rfl

theorem z24 (args : List (PV sig)) (m : Mem sig) : ∀ ρ K, T24 (Tabs 0) ρ args m K = none := by
  rcases rc24_0 args m with h | ⟨a1, rfl, rfl⟩
  · exact fun ρ K => h ..
  · exact fun ρ K => rfl

theorem z25 (args : List (PV sig)) (m : Mem sig) : ∀ ρ K, T25 (Tabs 0) ρ args m K = none := by
  rcases rc25_0 args m with h | ⟨a1, a2, rfl, rfl⟩
  · exact fun ρ K => h ..
  · exact fun ρ K => rfl

theorem z26 (args : List (PV sig)) (m : Mem sig) : ∀ ρ K, T26 (Tabs 0) ρ args m K = none := by
  rcases rc26_0 args m with h | ⟨a1, a2, rfl, rfl⟩
  · exact fun ρ K => h ..
  · exact fun ρ K => rfl

theorem z27 (args : List (PV sig)) (m : Mem sig) : ∀ ρ K, T27 (Tabs 0) ρ args m K = none := by
  unfold T27
  cases hc : Nat.beq (fnId (args.getD 1 .any)) 28 with
  | true =>
    simp only [cond_true]
    rcases rc27_0 args m with h | ⟨a1, rfl, rfl⟩
    · exact fun ρ K => h ..
    · exact fun ρ K => rfl
  | false =>
    simp only [cond_false]
    cases hc : Nat.beq (fnId (args.getD 1 .any)) 29 with
    | true =>
      simp only [cond_true]
      rcases rc27_1 args m with h | ⟨a1, rfl, rfl⟩
      · exact fun ρ K => h ..
      · exact fun ρ K => rfl
    | false =>
      simp only [cond_false]
      first | exact fun _ _ => rfl | exact fun _ _ => trivial

theorem z28 (args : List (PV sig)) (m : Mem sig) : ∀ ρ K, T28 (Tabs 0) ρ args m K = none := by
  rcases rc28_0 args m with h | ⟨a1, rfl, rfl⟩
  · exact fun ρ K => h ..
  · exact fun ρ K => rfl

theorem z29 (args : List (PV sig)) (m : Mem sig) : ∀ ρ K, T29 (Tabs 0) ρ args m K = none := by
  rcases rc29_0 args m with h | ⟨a1, rfl, rfl⟩
  · exact fun ρ K => h ..
  · exact fun ρ K => rfl

theorem z30 (args : List (PV sig)) (m : Mem sig) : ∀ ρ K, T30 (Tabs 0) ρ args m K = none := by
  rcases rc30_0 args m with h | ⟨a1, rfl, rfl⟩
  · exact fun ρ K => h ..
  · exact fun ρ K => rfl

theorem z31 (args : List (PV sig)) (m : Mem sig) : ∀ ρ K, T31 (Tabs 0) ρ args m K = none := by
  rcases rc31_0 args m with h | ⟨a1, rfl, rfl⟩
  · exact fun ρ K => h ..
  · exact fun ρ K => rfl

theorem z32 (args : List (PV sig)) (m : Mem sig) : ∀ ρ K, T32 (Tabs 0) ρ args m K = none := by
  rcases rc32_0 args m with h | ⟨a1, rfl, rfl⟩
  · exact fun ρ K => h ..
  · obtain ⟨a1_0, a1_1, a1_2⟩ := a1; exact fun ρ K => rfl

theorem z33 (args : List (PV sig)) (m : Mem sig) : ∀ ρ K, T33 (Tabs 0) ρ args m K = none := by
  rcases rc33_0 args m with h | ⟨a1, a2, rfl, rfl⟩
  · exact fun ρ K => h ..
  · exact fun ρ K => rfl

theorem z34 (args : List (PV sig)) (m : Mem sig) : ∀ ρ K, T34 (Tabs 0) ρ args m K = none := by
  rcases rc34_0 args m with h | ⟨a1, rfl, rfl⟩
  · exact fun ρ K => h ..
  · obtain ⟨a1_0, a1_1, a1_2⟩ := a1; exact fun ρ K => rfl

theorem z35 (args : List (PV sig)) (m : Mem sig) : ∀ ρ K, T35 (Tabs 0) ρ args m K = none := by
  rcases rc35_0 args m with h | ⟨a1, a2, rfl, rfl⟩
  · exact fun ρ K => h ..
  · exact fun ρ K => rfl

theorem z36 (args : List (PV sig)) (m : Mem sig) : ∀ ρ K, T36 (Tabs 0) ρ args m K = none := by
  rcases rc36_0 args m with h | ⟨a1, a2, rfl, rfl⟩
  · exact fun ρ K => h ..
  · exact fun ρ K => rfl

theorem z37 (args : List (PV sig)) (m : Mem sig) : ∀ ρ K, T37 (Tabs 0) ρ args m K = none := by
  rcases rc37_0 args m with h | ⟨a1, a2, a3, rfl, rfl⟩
  · exact fun ρ K => h ..
  · exact fun ρ K => rfl

theorem z38 (args : List (PV sig)) (m : Mem sig) : ∀ ρ K, T38 (Tabs 0) ρ args m K = none := by
  rcases rc38_0 args m with h | ⟨a1, a2, rfl, rfl⟩
  · exact fun ρ K => h ..
  · exact fun ρ K => rfl

theorem z39 (args : List (PV sig)) (m : Mem sig) : ∀ ρ K, T39 (Tabs 0) ρ args m K = none := by
  rcases rc39_0 args m with h | ⟨a1, a2, a3, rfl, rfl⟩
  · exact fun ρ K => h ..
  · exact fun ρ K => rfl

theorem z40 (args : List (PV sig)) (m : Mem sig) : ∀ ρ K, T40 (Tabs 0) ρ args m K = none := by
  rcases rc40_0 args m with h | ⟨a1, a2, rfl, rfl⟩
  · exact fun ρ K => h ..
  · exact fun ρ K => rfl

theorem z41 (args : List (PV sig)) (m : Mem sig) : ∀ ρ K, T41 (Tabs 0) ρ args m K = none := by
  rcases rc41_0 args m with h | ⟨a1, a2, a3, rfl, rfl⟩
  · exact fun ρ K => h ..
  · exact fun ρ K => rfl

theorem z42 (args : List (PV sig)) (m : Mem sig) : ∀ ρ K, T42 (Tabs 0) ρ args m K = none := by
  rcases rc42_0 args m with h | ⟨a1, a2, rfl, rfl⟩
  · exact fun ρ K => h ..
  · exact fun ρ K => rfl

theorem z43 (args : List (PV sig)) (m : Mem sig) : ∀ ρ K, T43 (Tabs 0) ρ args m K = none := by
  rcases rc43_0 args m with h | ⟨a1, rfl, rfl⟩
  · exact fun ρ K => h ..
  · exact fun ρ K => rfl

theorem z44 (args : List (PV sig)) (m : Mem sig) : ∀ ρ K, T44 (Tabs 0) ρ args m K = none := by
  rcases rc44_0 args m with h | ⟨a1, a2, rfl, rfl⟩
  · exact fun ρ K => h ..
  · exact fun ρ K => rfl

theorem z45 (args : List (PV sig)) (m : Mem sig) : ∀ ρ K, T45 (Tabs 0) ρ args m K = none := by
  rcases rc45_0 args m with h | ⟨a1, rfl, rfl⟩
  · exact fun ρ K => h ..
  · exact fun ρ K => rfl

theorem z46 (args : List (PV sig)) (m : Mem sig) : ∀ ρ K, T46 (Tabs 0) ρ args m K = none := by
  rcases rc46_0 args m with h | ⟨a1, a2, rfl, rfl⟩
  · exact fun ρ K => h ..
  · exact fun ρ K => rfl

theorem z47 (args : List (PV sig)) (m : Mem sig) : ∀ ρ K, T47 (Tabs 0) ρ args m K = none := by
  rcases rc47_0 args m with h | ⟨a1, a2, rfl, rfl⟩
  · exact fun ρ K => h ..
  · exact fun ρ K => rfl

theorem z48 (args : List (PV sig)) (m : Mem sig) : ∀ ρ K, T48 (Tabs 0) ρ args m K = none := by
  rcases rc48_0 args m with h | ⟨a1, a2, rfl, rfl⟩
  · exact fun ρ K => h ..
  · exact fun ρ K => rfl

theorem z49 (args : List (PV sig)) (m : Mem sig) : ∀ ρ K, T49 (Tabs 0) ρ args m K = none := by
  rcases rc49_0 args m with h | ⟨a1, a2, rfl, rfl⟩
  · exact fun ρ K => h ..
  · exact fun ρ K => rfl

theorem z50 (args : List (PV sig)) (m : Mem sig) : ∀ ρ K, T50 (Tabs 0) ρ args m K = none := by
  rcases rc50_0 args m with h | ⟨a1, a2, a3, rfl, rfl⟩
  · exact fun ρ K => h ..
  · exact fun ρ K => rfl

theorem z51 (args : List (PV sig)) (m : Mem sig) : ∀ ρ K, T51 (Tabs 0) ρ args m K = none := by
  rcases rc51_0 args m with h | ⟨a1, a2, rfl, rfl⟩
  · exact fun ρ K => h ..
  · exact fun ρ K => rfl

theorem z52 (args : List (PV sig)) (m : Mem sig) : ∀ ρ K, T52 (Tabs 0) ρ args m K = none := by
  rcases rc52_0 args m with h | ⟨a1, a2, rfl, rfl⟩
  · exact fun ρ K => h ..
  · exact fun ρ K => rfl

theorem z53 (args : List (PV sig)) (m : Mem sig) : ∀ ρ K, T53 (Tabs 0) ρ args m K = none := by
  rcases rc53_0 args m with h | ⟨a1, rfl, rfl⟩
  · exact fun ρ K => h ..
  · exact fun ρ K => rfl

theorem z54 (args : List (PV sig)) (m : Mem sig) : ∀ ρ K, T54 (Tabs 0) ρ args m K = none := by
  rcases rc54_0 args m with h | ⟨a1, rfl, rfl⟩
  · exact fun ρ K => h ..
  · exact fun ρ K => rfl

theorem z55 (args : List (PV sig)) (m : Mem sig) : ∀ ρ K, T55 (Tabs 0) ρ args m K = none := by
  rcases rc55_0 args m with h | ⟨a1, a2, rfl, rfl⟩
  · exact fun ρ K => h ..
  · exact fun ρ K => rfl

theorem z56 (args : List (PV sig)) (m : Mem sig) : ∀ ρ K, T56 (Tabs 0) ρ args m K = none := by
  rcases rc56_0 args m with h | ⟨a1, rfl, rfl⟩
  · exact fun ρ K => h ..
  · exact fun ρ K => rfl

theorem z65 (args : List (PV sig)) (m : Mem sig) : ∀ ρ K, T65 (Tabs 0) ρ args m K = none := by
  rcases rc65_0 args m with h | ⟨a1, rfl, rfl⟩
  · exact fun ρ K => h ..
  · exact fun ρ K => rfl

theorem z66 (args : List (PV sig)) (m : Mem sig) : ∀ ρ K, T66 (Tabs 0) ρ args m K = none := by
  rcases rc66_0 args m with h | ⟨a1, rfl, rfl⟩
  · exact fun ρ K => h ..
  · exact fun ρ K => rfl

theorem z67 (args : List (PV sig)) (m : Mem sig) : ∀ ρ K, T67 (Tabs 0) ρ args m K = none := by
  rcases rc67_0 args m with h | ⟨a1, rfl, rfl⟩
  · exact fun ρ K => h ..
  · exact fun ρ K => rfl

theorem z0 (f : Nat) (args : List (PV sig)) (m : Mem sig) : ∀ ρ K, T (Tabs 0) ρ f args m K = none := by
  unfold T
  cases hc : Nat.beq f 3 with
  | true => simp only [cond_true]; exact z3 args m
  | false =>
  simp only [cond_false]; clear hc
  cases hc : Nat.beq f 4 with
  | true => simp only [cond_true]; exact z4 args m
  | false =>
  simp only [cond_false]; clear hc
  cases hc : Nat.beq f 5 with
  | true => simp only [cond_true]; exact z5 args m
  | false =>
  simp only [cond_false]; clear hc
  cases hc : Nat.beq f 6 with
  | true => simp only [cond_true]; exact z6 args m
  | false =>
  simp only [cond_false]; clear hc
  cases hc : Nat.beq f 8 with
  | true => simp only [cond_true]; exact z8 args m
  | false =>
  simp only [cond_false]; clear hc
  cases hc : Nat.beq f 9 with
  | true => simp only [cond_true]; exact z9 args m
  | false =>
  simp only [cond_false]; clear hc
  cases hc : Nat.beq f 10 with
  | true => simp only [cond_true]; exact z10 args m
  | false =>
  simp only [cond_false]; clear hc
  cases hc : Nat.beq f 11 with
  | true => simp only [cond_true]; exact z11 args m
  | false =>
  simp only [cond_false]; clear hc
  cases hc : Nat.beq f 12 with
  | true => simp only [cond_true]; exact z12 args m
  | false =>
  simp only [cond_false]; clear hc
  cases hc : Nat.beq f 13 with
  | true => simp only [cond_true]; exact z13 args m
  | false =>
  simp only [cond_false]; clear hc
  cases hc : Nat.beq f 14 with
  | true => simp only [cond_true]; exact z14 args m
  | false =>
  simp only [cond_false]; clear hc
  cases hc : Nat.beq f 15 with
  | true => simp only [cond_true]; exact z15 args m
  | false =>
  simp only [cond_false]; clear hc
  cases hc : Nat.beq f 16 with
  | true => simp only [cond_true]; exact z16 args m
  | false =>
  simp only [cond_false]; clear hc
  cases hc : Nat.beq f 17 with
  | true => simp only [cond_true]; exact z17 args m
  | false =>
  simp only [cond_false]; clear hc
  cases hc : Nat.beq f 18 with
  | true => simp only [cond_true]; exact z18 args m
  | false =>
  simp only [cond_false]; clear hc
  cases hc : Nat.beq f 19 with
  | true => simp only [cond_true]; exact z19 args m
  | false =>
  simp only [cond_false]; clear hc
  cases hc : Nat.beq f 20 with
  | true => simp only [cond_true]; exact z20 args m
  | false =>
  simp only [cond_false]; clear hc
  cases hc : Nat.beq f 21 with
  | true => simp only [cond_true]; exact z21 args m
  | false =>
  simp only [cond_false]; clear hc
  cases hc : Nat.beq f 22 with
  | true => simp only [cond_true]; exact z22 args m
  | false =>
  simp only [cond_false]; clear hc
  cases hc : Nat.beq f 23 with
  | true => simp only [cond_true]; exact z23 args m
  | false =>
  simp only [cond_false]; clear hc
  cases hc : Nat.beq f 24 with
  | true => simp only [cond_true]; exact z24 args m
  | false =>
  simp only [cond_false]; clear hc
  cases hc : Nat.beq f 25 with
  | true => simp only [cond_true]; exact z25 args m
  | false =>
  simp only [cond_false]; clear hc
  cases hc : Nat.beq f 26 with
  | true => simp only [cond_true]; exact z26 args m
  | false =>
  simp only [cond_false]; clear hc
  cases hc : Nat.beq f 27 with
  | true => simp only [cond_true]; exact z27 args m
  | false =>
  simp only [cond_false]; clear hc
  cases hc : Nat.beq f 28 with
  | true => simp only [cond_true]; exact z28 args m
  | false =>
  simp only [cond_false]; clear hc
  cases hc : Nat.beq f 29 with
  | true => simp only [cond_true]; exact z29 args m
  | false =>
  simp only [cond_false]; clear hc
  cases hc : Nat.beq f 30 with
  | true => simp only [cond_true]; exact z30 args m
  | false =>
  simp only [cond_false]; clear hc
  cases hc : Nat.beq f 31 with
  | true => simp only [cond_true]; exact z31 args m
  | false =>
  simp only [cond_false]; clear hc
  cases hc : Nat.beq f 32 with
  | true => simp only [cond_true]; exact z32 args m
  | false =>
  simp only [cond_false]; clear hc
  cases hc : Nat.beq f 33 with
  | true => simp only [cond_true]; exact z33 args m
  | false =>
  simp only [cond_false]; clear hc
  cases hc : Nat.beq f 34 with
  | true => simp only [cond_true]; exact z34 args m
  | false =>
  simp only [cond_false]; clear hc
  cases hc : Nat.beq f 35 with
  | true => simp only [cond_true]; exact z35 args m
  | false =>
  simp only [cond_false]; clear hc
  cases hc : Nat.beq f 36 with
  | true => simp only [cond_true]; exact z36 args m
  | false =>
  simp only [cond_false]; clear hc
  cases hc : Nat.beq f 37 with
  | true => simp only [cond_true]; exact z37 args m
  | false =>
  simp only [cond_false]; clear hc
  cases hc : Nat.beq f 38 with
  | true => simp only [cond_true]; exact z38 args m
  | false =>
  simp only [cond_false]; clear hc
  cases hc : Nat.beq f 39 with
  | true => simp only [cond_true]; exact z39 args m
  | false =>
  simp only [cond_false]; clear hc
  cases hc : Nat.beq f 40 with
  | true => simp only [cond_true]; exact z40 args m
  | false =>
  simp only [cond_false]; clear hc
  cases hc : Nat.beq f 41 with
  | true => simp only [cond_true]; exact z41 args m
  | false =>
  simp only [cond_false]; clear hc
  cases hc : Nat.beq f 42 with
  | true => simp only [cond_true]; exact z42 args m
  | false =>
  simp only [cond_false]; clear hc
  cases hc : Nat.beq f 43 with
  | true => simp only [cond_true]; exact z43 args m
  | false =>
  simp only [cond_false]; clear hc
  cases hc : Nat.beq f 44 with
  | true => simp only [cond_true]; exact z44 args m
  | false =>
  simp only [cond_false]; clear hc
  cases hc : Nat.beq f 45 with
  | true => simp only [cond_true]; exact z45 args m
  | false =>
  simp only [cond_false]; clear hc
  cases hc : Nat.beq f 46 with
  | true => simp only [cond_true]; exact z46 args m
  | false =>
  simp only [cond_false]; clear hc
  cases hc : Nat.beq f 47 with
  | true => simp only [cond_true]; exact z47 args m
  | false =>
  simp only [cond_false]; clear hc
  cases hc : Nat.beq f 48 with
  | true => simp only [cond_true]; exact z48 args m
  | false =>
  simp only [cond_false]; clear hc
  cases hc : Nat.beq f 49 with
  | true => simp only [cond_true]; exact z49 args m
  | false =>
  simp only [cond_false]; clear hc
  cases hc : Nat.beq f 50 with
  | true => simp only [cond_true]; exact z50 args m
  | false =>
  simp only [cond_false]; clear hc
  cases hc : Nat.beq f 51 with
  | true => simp only [cond_true]; exact z51 args m
  | false =>
  simp only [cond_false]; clear hc
  cases hc : Nat.beq f 52 with
  | true => simp only [cond_true]; exact z52 args m
  | false =>
  simp only [cond_false]; clear hc
  cases hc : Nat.beq f 53 with
  | true => simp only [cond_true]; exact z53 args m
  | false =>
  simp only [cond_false]; clear hc
  cases hc : Nat.beq f 54 with
  | true => simp only [cond_true]; exact z54 args m
  | false =>
  simp only [cond_false]; clear hc
  cases hc : Nat.beq f 55 with
  | true => simp only [cond_true]; exact z55 args m
  | false =>
  simp only [cond_false]; clear hc
  cases hc : Nat.beq f 56 with
  | true => simp only [cond_true]; exact z56 args m
  | false =>
  simp only [cond_false]; clear hc
  cases hc : Nat.beq f 65 with
  | true => simp only [cond_true]; exact z65 args m
  | false =>
  simp only [cond_false]; clear hc
  cases hc : Nat.beq f 66 with
  | true => simp only [cond_true]; exact z66 args m
  | false =>
  simp only [cond_false]; clear hc
  cases hc : Nat.beq f 67 with
  | true => simp only [cond_true]; exact z67 args m
  | false =>
  simp only [cond_false]; clear hc
  first | exact fun _ _ => rfl | exact fun _ _ => trivial

theorem zl5_6_0 (vs : List (PV sig)) (m : Mem sig) (ds : List (FuncId × List (PV sig))) (nt : Nat) : ∀ ρ K, Rl5_6_0 (Tabs 0) ρ vs m ds nt K = none := by
  rcases rl5_6_0 vs m ds nt with h | ⟨a1, a2, a3, a4, a5, a6, a7, rfl, rfl, rfl, rfl⟩
  · exact fun ρ K => h ..
  · exact fun ρ K => rfl

theorem zl6_11_0 (vs : List (PV sig)) (m : Mem sig) (ds : List (FuncId × List (PV sig))) (nt : Nat) : ∀ ρ K, Rl6_11_0 (Tabs 0) ρ vs m ds nt K = none := by
  rcases rl6_11_0 vs m ds nt with h | ⟨a1, a2, a3, a4, a5, a6, rfl, rfl, rfl, rfl⟩
  · exact fun ρ K => h ..
  · exact fun ρ K => rfl

theorem zl6_20_0 (vs : List (PV sig)) (m : Mem sig) (ds : List (FuncId × List (PV sig))) (nt : Nat) : ∀ ρ K, Rl6_20_0 (Tabs 0) ρ vs m ds nt K = none := by
  rcases rl6_20_0 vs m ds nt with h | ⟨a1, a2, a3, a4, a5, a6, rfl, rfl, rfl, rfl⟩
  · exact fun ρ K => h ..
  · exact fun ρ K => rfl

theorem zl8_9_0 (vs : List (PV sig)) (m : Mem sig) (ds : List (FuncId × List (PV sig))) (nt : Nat) : ∀ ρ K, Rl8_9_0 (Tabs 0) ρ vs m ds nt K = none := by
  rcases rl8_9_0 vs m ds nt with h | ⟨a1, a2, a3, a4, a5, rfl, rfl, rfl, rfl⟩
  · exact fun ρ K => h ..
  · exact fun ρ K => rfl

theorem zl11_6_0 (vs : List (PV sig)) (m : Mem sig) (ds : List (FuncId × List (PV sig))) (nt : Nat) : ∀ ρ K, Rl11_6_0 (Tabs 0) ρ vs m ds nt K = none := by
  rcases rl11_6_0 vs m ds nt with h | ⟨a1, a2, a3, a4, rfl, rfl, rfl, rfl⟩
  · exact fun ρ K => h ..
  · exact fun ρ K => rfl

theorem zl12_5_0 (vs : List (PV sig)) (m : Mem sig) (ds : List (FuncId × List (PV sig))) (nt : Nat) : ∀ ρ K, Rl12_5_0 (Tabs 0) ρ vs m ds nt K = none := by
  rcases rl12_5_0 vs m ds nt with h | ⟨a1, a2, a3, rfl, rfl, rfl, rfl⟩
  · exact fun ρ K => h ..
  · exact fun ρ K => rfl

theorem zl13_4_0 (vs : List (PV sig)) (m : Mem sig) (ds : List (FuncId × List (PV sig))) (nt : Nat) : ∀ ρ K, Rl13_4_0 (Tabs 0) ρ vs m ds nt K = none := by
  rcases rl13_4_0 vs m ds nt with h | ⟨a1, a2, a3, a4, a5, rfl, rfl, rfl, rfl⟩
  · exact fun ρ K => h ..
  · exact fun ρ K => rfl

theorem zl19_3_0 (vs : List (PV sig)) (m : Mem sig) (ds : List (FuncId × List (PV sig))) (nt : Nat) : ∀ ρ K, Rl19_3_0 (Tabs 0) ρ vs m ds nt K = none := by
  rcases rl19_3_0 vs m ds nt with h | ⟨a1, a2, a3, a4, rfl, rfl, rfl, rfl⟩
  · exact fun ρ K => h ..
  · exact fun ρ K => rfl

theorem zl20_4_0 (vs : List (PV sig)) (m : Mem sig) (ds : List (FuncId × List (PV sig))) (nt : Nat) : ∀ ρ K, Rl20_4_0 (Tabs 0) ρ vs m ds nt K = none := by
  rcases rl20_4_0 vs m ds nt with h | ⟨a1, a2, a3, a4, a5, rfl, rfl, rfl, rfl⟩
  · exact fun ρ K => h ..
  · exact fun ρ K => rfl

theorem zl22_5_0 (vs : List (PV sig)) (m : Mem sig) (ds : List (FuncId × List (PV sig))) (nt : Nat) : ∀ ρ K, Rl22_5_0 (Tabs 0) ρ vs m ds nt K = none := by
  rcases rl22_5_0 vs m ds nt with h | ⟨a1, a2, a3, a4, a5, rfl, rfl, rfl, rfl⟩
  · exact fun ρ K => h ..
  · exact fun ρ K => rfl

theorem zl23_0_0 (vs : List (PV sig)) (m : Mem sig) (ds : List (FuncId × List (PV sig))) (nt : Nat) : ∀ ρ K, Rl23_0_0 (Tabs 0) ρ vs m ds nt K = none := by
  rcases rl23_0_0 vs m ds nt with h | ⟨a1, a2, rfl, rfl, rfl, rfl⟩
  · exact fun ρ K => h ..
  · exact fun ρ K => rfl

theorem zl25_1_0 (vs : List (PV sig)) (m : Mem sig) (ds : List (FuncId × List (PV sig))) (nt : Nat) : ∀ ρ K, Rl25_1_0 (Tabs 0) ρ vs m ds nt K = none := by
  rcases rl25_1_0 vs m ds nt with h | ⟨a1, a2, rfl, rfl, rfl, rfl⟩
  · exact fun ρ K => h ..
  · exact fun ρ K => rfl

theorem zl25_6_0 (vs : List (PV sig)) (m : Mem sig) (ds : List (FuncId × List (PV sig))) (nt : Nat) : ∀ ρ K, Rl25_6_0 (Tabs 0) ρ vs m ds nt K = none := by
  rcases rl25_6_0 vs m ds nt with h | ⟨a1, a2, rfl, rfl, rfl, rfl⟩
  · exact fun ρ K => h ..
  · exact fun ρ K => rfl

theorem zl27_4_0 (vs : List (PV sig)) (m : Mem sig) (ds : List (FuncId × List (PV sig))) (nt : Nat) : ∀ ρ K, Rl27_4_0 (Tabs 0) ρ vs m ds nt K = none := by
  rcases rl27_4_0 vs m ds nt with h | ⟨a1, a2, a3, rfl, rfl, rfl, rfl⟩
  · exact fun ρ K => h ..
  · exact fun ρ K => rfl

theorem zl41_2_0 (vs : List (PV sig)) (m : Mem sig) (ds : List (FuncId × List (PV sig))) (nt : Nat) : ∀ ρ K, Rl41_2_0 (Tabs 0) ρ vs m ds nt K = none := by
  rcases rl41_2_0 vs m ds nt with h | ⟨a1, a2, a3, a4, rfl, rfl, rfl, rfl⟩
  · exact fun ρ K => h ..
  · exact fun ρ K => rfl

theorem zl52_1_0 (vs : List (PV sig)) (m : Mem sig) (ds : List (FuncId × List (PV sig))) (nt : Nat) : ∀ ρ K, Rl52_1_0 (Tabs 0) ρ vs m ds nt K = none := by
  rcases rl52_1_0 vs m ds nt with h | ⟨a1, a2, rfl, rfl, rfl, rfl⟩
  · exact fun ρ K => h ..
  · exact fun ρ K => rfl

theorem zl54_5_0 (vs : List (PV sig)) (m : Mem sig) (ds : List (FuncId × List (PV sig))) (nt : Nat) : ∀ ρ K, Rl54_5_0 (Tabs 0) ρ vs m ds nt K = none := by
  rcases rl54_5_0 vs m ds nt with h | ⟨a1, a2, a3, rfl, rfl, rfl, rfl⟩
  · exact fun ρ K => h ..
  · exact fun ρ K => rfl

theorem zL (f np key : Nat) (st : St sig) : ∀ ρ K, LT (Tabs 0) ρ f np key st K = none := by
  unfold LT
  cases hc : Nat.beq f 5 && (Nat.beq np 0 && Nat.beq key 6) with
  | true => simp only [cond_true]; exact zl5_6_0 _ _ _ _
  | false =>
  simp only [cond_false]; clear hc
  cases hc : Nat.beq f 6 && (Nat.beq np 0 && Nat.beq key 11) with
  | true => simp only [cond_true]; exact zl6_11_0 _ _ _ _
  | false =>
  simp only [cond_false]; clear hc
  cases hc : Nat.beq f 6 && (Nat.beq np 0 && Nat.beq key 20) with
  | true => simp only [cond_true]; exact zl6_20_0 _ _ _ _
  | false =>
  simp only [cond_false]; clear hc
  cases hc : Nat.beq f 8 && (Nat.beq np 0 && Nat.beq key 9) with
  | true => simp only [cond_true]; exact zl8_9_0 _ _ _ _
  | false =>
  simp only [cond_false]; clear hc
  cases hc : Nat.beq f 11 && (Nat.beq np 0 && Nat.beq key 6) with
  | true => simp only [cond_true]; exact zl11_6_0 _ _ _ _
  | false =>
  simp only [cond_false]; clear hc
  cases hc : Nat.beq f 12 && (Nat.beq np 0 && Nat.beq key 5) with
  | true => simp only [cond_true]; exact zl12_5_0 _ _ _ _
  | false =>
  simp only [cond_false]; clear hc
  cases hc : Nat.beq f 13 && (Nat.beq np 0 && Nat.beq key 4) with
  | true => simp only [cond_true]; exact zl13_4_0 _ _ _ _
  | false =>
  simp only [cond_false]; clear hc
  cases hc : Nat.beq f 19 && (Nat.beq np 0 && Nat.beq key 3) with
  | true => simp only [cond_true]; exact zl19_3_0 _ _ _ _
  | false =>
  simp only [cond_false]; clear hc
  cases hc : Nat.beq f 20 && (Nat.beq np 0 && Nat.beq key 4) with
  | true => simp only [cond_true]; exact zl20_4_0 _ _ _ _
  | false =>
  simp only [cond_false]; clear hc
  cases hc : Nat.beq f 22 && (Nat.beq np 0 && Nat.beq key 5) with
  | true => simp only [cond_true]; exact zl22_5_0 _ _ _ _
  | false =>
  simp only [cond_false]; clear hc
  cases hc : Nat.beq f 23 && (Nat.beq np 1 && Nat.beq key 0) with
  | true => simp only [cond_true]; exact zl23_0_0 _ _ _ _
  | false =>
  simp only [cond_false]; clear hc
  cases hc : Nat.beq f 25 && (Nat.beq np 0 && Nat.beq key 1) with
  | true => simp only [cond_true]; exact zl25_1_0 _ _ _ _
  | false =>
  simp only [cond_false]; clear hc
  cases hc : Nat.beq f 25 && (Nat.beq np 0 && Nat.beq key 6) with
  | true => simp only [cond_true]; exact zl25_6_0 _ _ _ _
  | false =>
  simp only [cond_false]; clear hc
  cases hc : Nat.beq f 27 && (Nat.beq np 0 && Nat.beq key 4) with
  | true => simp only [cond_true]; exact zl27_4_0 _ _ _ _
  | false =>
  simp only [cond_false]; clear hc
  cases hc : Nat.beq f 41 && (Nat.beq np 1 && Nat.beq key 2) with
  | true => simp only [cond_true]; exact zl41_2_0 _ _ _ _
  | false =>
  simp only [cond_false]; clear hc
  cases hc : Nat.beq f 52 && (Nat.beq np 0 && Nat.beq key 1) with
  | true => simp only [cond_true]; exact zl52_1_0 _ _ _ _
  | false =>
  simp only [cond_false]; clear hc
  cases hc : Nat.beq f 54 && (Nat.beq np 0 && Nat.beq key 5) with
  | true => simp only [cond_true]; exact zl54_5_0 _ _ _ _
  | false =>
  simp only [cond_false]; clear hc
  first | exact fun _ _ => rfl | exact fun _ _ => trivial

theorem levels : Levels Tryd.prog lay hints dfT PK (fun k => T (Tabs k)) (fun k => LT (Tabs k)) where
  t0 ρ f args m K := z0 f args m ρ K
  l0 ρ f np key st K := zL f np key st ρ K
  t k f args m := tT k f args m
  l k f np key st := tL k f np key st

end Go.Proofs.YtdhpgcjhiommkaaDoor.Ev
