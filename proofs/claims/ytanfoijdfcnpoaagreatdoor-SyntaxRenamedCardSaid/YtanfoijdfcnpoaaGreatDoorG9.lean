/- This file proves that the tables of typed functions are sound; without any condition. -/
import Derived.Test.YtanfoijdfcnpoaaGreatDoorD2
import Derived.Test.YtanfoijdfcnpoaaGreatDoorU2
import Derived.Test.YtanfoijdfcnpoaaGreatDoorG2
import Derived.Test.YtanfoijdfcnpoaaGreatDoorG3
import Derived.Test.YtanfoijdfcnpoaaGreatDoorG4
import Derived.Test.YtanfoijdfcnpoaaGreatDoorG5
import Derived.Test.YtanfoijdfcnpoaaGreatDoorG6
set_option maxRecDepth 8000
set_option linter.unusedVariables false
set_option linter.unusedSimpArgs false
namespace Go.Proofs.YtanfoijdfcnpoaaGreatDoor.Ev

/-- What is shown of a function at a level, and at the first one. -/
abbrev TQ (k f : Nat) (args : List (PV sig)) (m : Mem sig) (t : Nat → (ρ : Type) → (Res sig × Mem sig → Option ρ) → Option ρ) : Prop :=
  (∀ ρ K, t 0 ρ K = none) ∧ ((∀ ρ K, t (k + 1) ρ K = none) ∨ (∀ ρ K, t (k + 1) ρ K = evF Tryz.prog lay (T (Tabs k)) (LT (Tabs k)) hints dfT f args m K) ∨
    (Snd Tryz.prog lay (T (Tabs k)) (LT (Tabs k)) → (∀ ρ K, t (k + 1) ρ K = none) ∨ ∃ r, CallOk Tryz.prog lay f args m r ∧ ∀ ρ K, t (k + 1) ρ K = K r))

theorem dT {k f n : Nat} {args : List (PV sig)} {m : Mem sig} {A B : Nat → (ρ : Type) → (Res sig × Mem sig → Option ρ) → Option ρ} (h1 : TQ k n args m A) (h2 : TQ k f args m B) : TQ k f args m fun j ρ K => bif Nat.beq f n then A j ρ K else B j ρ K := by
  cases hc : Nat.beq f n with
  | true => rw [Nat.eq_of_beq_eq_true hc]; exact h1
  | false => exact h2

/-- What is shown of a loop. -/
abbrev UQ (k f np key : Nat) (st : St sig) (t : Nat → (ρ : Type) → (Ex sig → St sig → Option ρ) → Option ρ) : Prop :=
  (∀ ρ K, t 0 ρ K = none) ∧ ((∀ ρ K, t (k + 1) ρ K = none) ∨ ∃ c, loopOf Tryz.prog f key = some c ∧ ∀ ρ K, t (k + 1) ρ K = evK Tryz.prog lay (T (Tabs k)) (LT (Tabs k)) hints f np c (parkE PK f np key .normal st) (loopNext (LT (Tabs k)) PK f np key K))

theorem dL {k f np key f' np' key' : Nat} {st : St sig} {A B : Nat → (ρ : Type) → (Ex sig → St sig → Option ρ) → Option ρ} (h1 : UQ k f' np' key' st A) (h2 : UQ k f np key st B) : UQ k f np key st fun j ρ K => bif Nat.beq f f' && (Nat.beq np np' && Nat.beq key key') then A j ρ K else B j ρ K := by
  cases hc : Nat.beq f f' && (Nat.beq np np' && Nat.beq key key') with
  | true => simp only [Bool.and_eq_true] at hc; rw [Nat.eq_of_beq_eq_true hc.1, Nat.eq_of_beq_eq_true hc.2.1, Nat.eq_of_beq_eq_true hc.2.2]; exact h1
  | false => exact h2

theorem parkN (f np key : Nat) (st : St sig) : parkE PK f np key (.normal : Ex sig) st = canon ((PK f np key 0).1.map (·.1)) (seenV (PK f np key 0) st) (seenM np (PK f np key 0) st) st.dfs st.nt := park_seen ..

theorem t4 (k : Nat) (args : List (PV sig)) (m : Mem sig) : TQ k 4 args m fun j ρ K => T4 (Tabs j) ρ args m K := by
  rcases rc4_0 args m with h | ⟨a1, a2, a3, rfl, rfl⟩
  · exact ⟨fun _ _ => h .., .inl fun _ _ => h ..⟩
  · obtain ⟨a1_0, a1_1, a1_2⟩ := a1; exact ⟨fun _ _ => rfl, .inr (.inl fun ρ K => (gc4_0 (Tabs k) ρ K ⟨a1_0, a1_1, a1_2⟩ a2 a3).symm)⟩

theorem t5 (k : Nat) (args : List (PV sig)) (m : Mem sig) : TQ k 5 args m fun j ρ K => T5 (Tabs j) ρ args m K := by
  rcases rc5_0 args m with h | ⟨a1, a2, a3, rfl, rfl⟩
  · exact ⟨fun _ _ => h .., .inl fun _ _ => h ..⟩
  · obtain ⟨a1_0, a1_1, a1_2⟩ := a1; exact ⟨fun _ _ => rfl, .inr (.inl fun ρ K => (gc5_0 (Tabs k) ρ K ⟨a1_0, a1_1, a1_2⟩ a2 a3).symm)⟩

theorem t8 (k : Nat) (args : List (PV sig)) (m : Mem sig) : TQ k 8 args m fun j ρ K => T8 (Tabs j) ρ args m K := by
  rcases rc8_0 args m with h | ⟨a1, rfl, rfl⟩
  · exact ⟨fun _ _ => h .., .inl fun _ _ => h ..⟩
  · exact ⟨fun _ _ => rfl, .inr (.inl fun ρ K => (gc8_0 (Tabs k) ρ K a1).symm)⟩

theorem t10 (k : Nat) (args : List (PV sig)) (m : Mem sig) : TQ k 10 args m fun j ρ K => T10 (Tabs j) ρ args m K := by
  rcases rc10_0 args m with h | ⟨a1, a2, rfl, rfl⟩
  · exact ⟨fun _ _ => h .., .inl fun _ _ => h ..⟩
  · obtain ⟨a1_0, a1_1, a1_2⟩ := a1; obtain ⟨a2_0, a2_1, a2_2⟩ := a2; exact ⟨fun _ _ => rfl, .inr (.inl fun ρ K => (gc10_0 (Tabs k) ρ K ⟨a1_0, a1_1, a1_2⟩ ⟨a2_0, a2_1, a2_2⟩).symm)⟩

theorem t11 (k : Nat) (args : List (PV sig)) (m : Mem sig) : TQ k 11 args m fun j ρ K => T11 (Tabs j) ρ args m K := by
  rcases rc11_0 args m with h | ⟨rfl, rfl⟩
  · exact ⟨fun _ _ => h .., .inl fun _ _ => h ..⟩
  · exact ⟨fun _ _ => rfl, .inr (.inl fun ρ K => (gc11_0 (Tabs k) ρ K).symm)⟩

theorem t12 (k : Nat) (args : List (PV sig)) (m : Mem sig) : TQ k 12 args m fun j ρ K => T12 (Tabs j) ρ args m K := by
  rcases rc12_0 args m with h | ⟨a1, a2, a3, rfl, rfl⟩
  · exact ⟨fun _ _ => h .., .inl fun _ _ => h ..⟩
  · obtain ⟨a1_0, a1_1, a1_2⟩ := a1; exact ⟨fun _ _ => rfl, .inr (.inl fun ρ K => (gc12_0 (Tabs k) ρ K ⟨a1_0, a1_1, a1_2⟩ a2 a3).symm)⟩

theorem t13 (k : Nat) (args : List (PV sig)) (m : Mem sig) : TQ k 13 args m fun j ρ K => T13 (Tabs j) ρ args m K := by
  rcases rc13_0 args m with h | ⟨a1, rfl, rfl⟩
  · exact ⟨fun _ _ => h .., .inl fun _ _ => h ..⟩
  · obtain ⟨a1_0, a1_1, a1_2⟩ := a1; exact ⟨fun _ _ => rfl, .inr (.inl fun ρ K => (gc13_0 (Tabs k) ρ K ⟨a1_0, a1_1, a1_2⟩).symm)⟩

theorem t14 (k : Nat) (args : List (PV sig)) (m : Mem sig) : TQ k 14 args m fun j ρ K => T14 (Tabs j) ρ args m K := by
  rcases rc14_0 args m with h | ⟨a1, rfl, rfl⟩
  · exact ⟨fun _ _ => h .., .inl fun _ _ => h ..⟩
  · exact ⟨fun _ _ => rfl, .inr (.inl fun ρ K => (gc14_0 (Tabs k) ρ K a1).symm)⟩

theorem t15 (k : Nat) (args : List (PV sig)) (m : Mem sig) : TQ k 15 args m fun j ρ K => T15 (Tabs j) ρ args m K := by
  rcases rc15_0 args m with h | ⟨a1, a2, a3, rfl, rfl⟩
  · exact ⟨fun _ _ => h .., .inl fun _ _ => h ..⟩
  · obtain ⟨a1_0, a1_1, a1_2⟩ := a1; exact ⟨fun _ _ => rfl, .inr (.inl fun ρ K => (gc15_0 (Tabs k) ρ K ⟨a1_0, a1_1, a1_2⟩ a2 a3).symm)⟩

theorem t16 (k : Nat) (args : List (PV sig)) (m : Mem sig) : TQ k 16 args m fun j ρ K => T16 (Tabs j) ρ args m K := by
  rcases rc16_0 args m with h | ⟨a1, rfl, rfl⟩
  · exact ⟨fun _ _ => h .., .inl fun _ _ => h ..⟩
  · obtain ⟨a1_0, a1_1, a1_2⟩ := a1; exact ⟨fun _ _ => rfl, .inr (.inl fun ρ K => (gc16_0 (Tabs k) ρ K ⟨a1_0, a1_1, a1_2⟩).symm)⟩

theorem t17 (k : Nat) (args : List (PV sig)) (m : Mem sig) : TQ k 17 args m fun j ρ K => T17 (Tabs j) ρ args m K := by
  rcases rc17_0 args m with h | ⟨a1, a2, rfl, rfl⟩
  · exact ⟨fun _ _ => h .., .inl fun _ _ => h ..⟩
  · exact ⟨fun _ _ => rfl, .inr (.inl fun ρ K => (gc17_0 (Tabs k) ρ K a1 a2).symm)⟩

theorem t18 (k : Nat) (args : List (PV sig)) (m : Mem sig) : TQ k 18 args m fun j ρ K => T18 (Tabs j) ρ args m K := by
  rcases rc18_0 args m with h | ⟨a1, a2, rfl, rfl⟩
  · exact ⟨fun _ _ => h .., .inl fun _ _ => h ..⟩
  · exact ⟨fun _ _ => rfl, .inr (.inl fun ρ K => (gc18_0 (Tabs k) ρ K a1 a2).symm)⟩

theorem t19 (k : Nat) (args : List (PV sig)) (m : Mem sig) : TQ k 19 args m fun j ρ K => T19 (Tabs j) ρ args m K := by
  rcases rc19_0 args m with h | ⟨a1, a2, rfl, rfl⟩
  · exact ⟨fun _ _ => h .., .inl fun _ _ => h ..⟩
  · obtain ⟨a1_0, a1_1, a1_2⟩ := a1; exact ⟨fun _ _ => rfl, .inr (.inl fun ρ K => (gc19_0 (Tabs k) ρ K ⟨a1_0, a1_1, a1_2⟩ a2).symm)⟩

theorem t20 (k : Nat) (args : List (PV sig)) (m : Mem sig) : TQ k 20 args m fun j ρ K => T20 (Tabs j) ρ args m K := by
  rcases rc20_0 args m with h | ⟨a1, a2, rfl, rfl⟩
  · exact ⟨fun _ _ => h .., .inl fun _ _ => h ..⟩
  · obtain ⟨a1_0, a1_1, a1_2⟩ := a1; obtain ⟨a2_0, a2_1, a2_2⟩ := a2; exact ⟨fun _ _ => rfl, .inr (.inl fun ρ K => (gc20_0 (Tabs k) ρ K ⟨a1_0, a1_1, a1_2⟩ ⟨a2_0, a2_1, a2_2⟩).symm)⟩

theorem t28 (k : Nat) (args : List (PV sig)) (m : Mem sig) : TQ k 28 args m fun j ρ K => T28 (Tabs j) ρ args m K := by
  rcases rc28_0 args m with h | ⟨a1, rfl, rfl⟩
  · exact ⟨fun _ _ => h .., .inl fun _ _ => h ..⟩
  · exact ⟨fun _ _ => rfl, .inr (.inl fun ρ K => (gc28_0 (Tabs k) ρ K a1).symm)⟩

theorem t30 (k : Nat) (args : List (PV sig)) (m : Mem sig) : TQ k 30 args m fun j ρ K => T30 (Tabs j) ρ args m K := by
  rcases rc30_0 args m with h | ⟨a1, a2, rfl, rfl⟩
  · exact ⟨fun _ _ => h .., .inl fun _ _ => h ..⟩
  · exact ⟨fun _ _ => rfl, .inr (.inl fun ρ K => (gc30_0 (Tabs k) ρ K a1 a2).symm)⟩

theorem t31 (k : Nat) (args : List (PV sig)) (m : Mem sig) : TQ k 31 args m fun j ρ K => T31 (Tabs j) ρ args m K := by
  rcases rc31_0 args m with h | ⟨a1, a2, rfl, rfl⟩
  · exact ⟨fun _ _ => h .., .inl fun _ _ => h ..⟩
  · exact ⟨fun _ _ => rfl, .inr (.inl fun ρ K => (gc31_0 (Tabs k) ρ K a1 a2).symm)⟩

theorem t32 (k : Nat) (args : List (PV sig)) (m : Mem sig) : TQ k 32 args m fun j ρ K => T32 (Tabs j) ρ args m K := by
  rcases rc32_0 args m with h | ⟨a1, a2, rfl, rfl⟩
  · exact ⟨fun _ _ => h .., .inl fun _ _ => h ..⟩
  · exact ⟨fun _ _ => rfl, .inr (.inl fun ρ K => (gc32_0 (Tabs k) ρ K a1 a2).symm)⟩

theorem t33 (k : Nat) (args : List (PV sig)) (m : Mem sig) : TQ k 33 args m fun j ρ K => T33 (Tabs j) ρ args m K := by
  rcases rc33_0 args m with h | ⟨a1, rfl, rfl⟩
  · exact ⟨fun _ _ => h .., .inl fun _ _ => h ..⟩
  · obtain ⟨a1_0, a1_1, a1_2⟩ := a1; exact ⟨fun _ _ => rfl, .inr (.inl fun ρ K => (gc33_0 (Tabs k) ρ K ⟨a1_0, a1_1, a1_2⟩).symm)⟩

theorem t37 (k : Nat) (args : List (PV sig)) (m : Mem sig) : TQ k 37 args m fun j ρ K => T37 (Tabs j) ρ args m K := by
  rcases rc37_0 args m with h | ⟨a1, rfl, rfl⟩
  · exact ⟨fun _ _ => h .., .inl fun _ _ => h ..⟩
  · obtain ⟨a1_0, a1_1, a1_2⟩ := a1; exact ⟨fun _ _ => rfl, .inr (.inl fun ρ K => (gc37_0 (Tabs k) ρ K ⟨a1_0, a1_1, a1_2⟩).symm)⟩

theorem t38 (k : Nat) (args : List (PV sig)) (m : Mem sig) : TQ k 38 args m fun j ρ K => T38 (Tabs j) ρ args m K := by
  rcases rc38_0 args m with h | ⟨a1, rfl, rfl⟩
  · exact ⟨fun _ _ => h .., .inl fun _ _ => h ..⟩
  · exact ⟨fun _ _ => rfl, .inr (.inl fun ρ K => (gc38_0 (Tabs k) ρ K a1).symm)⟩

theorem t39 (k : Nat) (args : List (PV sig)) (m : Mem sig) : TQ k 39 args m fun j ρ K => T39 (Tabs j) ρ args m K := by
  rcases rc39_0 args m with h | ⟨a1, a2, rfl, rfl⟩
  · exact ⟨fun _ _ => h .., .inl fun _ _ => h ..⟩
  · obtain ⟨a1_0, a1_1, a1_2⟩ := a1; exact ⟨fun _ _ => rfl, .inr (.inl fun ρ K => (gc39_0 (Tabs k) ρ K ⟨a1_0, a1_1, a1_2⟩ a2).symm)⟩

theorem t40 (k : Nat) (args : List (PV sig)) (m : Mem sig) : TQ k 40 args m fun j ρ K => T40 (Tabs j) ρ args m K := by
  unfold T40
  cases hc : Nat.beq (modeId (args.getD 3 .any)) 4 with
  | true =>
    simp only [cond_true]
    rcases rc40_0 args m with h | ⟨a1, a2, a3, a4, a5, a6, rfl, rfl⟩
    · exact ⟨fun _ _ => h .., .inl fun _ _ => h ..⟩
    · obtain ⟨a1_0, a1_1, a1_2⟩ := a1; exact ⟨fun _ _ => rfl, .inr (.inl fun ρ K => (gc40_0 (Tabs k) ρ K ⟨a1_0, a1_1, a1_2⟩ a2 a3 a4 a5 a6).symm)⟩
  | false =>
    simp only [cond_false]
    cases hc : Nat.beq (modeId (args.getD 3 .any)) 5 with
    | true =>
      simp only [cond_true]
      rcases rc40_1 args m with h | ⟨a1, a2, a3, a4, a5, a6, a7, rfl, rfl⟩
      · exact ⟨fun _ _ => h .., .inl fun _ _ => h ..⟩
      · obtain ⟨a1_0, a1_1, a1_2⟩ := a1; exact ⟨fun _ _ => rfl, .inr (.inl fun ρ K => (gc40_1 (Tabs k) ρ K ⟨a1_0, a1_1, a1_2⟩ a2 a3 a4 a5 a6 a7).symm)⟩
    | false =>
      simp only [cond_false]
      exact ⟨fun _ _ => rfl, .inl fun _ _ => rfl⟩

theorem t41 (k : Nat) (args : List (PV sig)) (m : Mem sig) : TQ k 41 args m fun j ρ K => T41 (Tabs j) ρ args m K := by
  rcases rc41_0 args m with h | ⟨a1, rfl, rfl⟩
  · exact ⟨fun _ _ => h .., .inl fun _ _ => h ..⟩
  · obtain ⟨a1_0, a1_1, a1_2⟩ := a1; exact ⟨fun _ _ => rfl, .inr (.inl fun ρ K => (gc41_0 (Tabs k) ρ K ⟨a1_0, a1_1, a1_2⟩).symm)⟩

theorem t42 (k : Nat) (args : List (PV sig)) (m : Mem sig) : TQ k 42 args m fun j ρ K => T42 (Tabs j) ρ args m K := by
  rcases rc42_0 args m with h | ⟨a1, a2, rfl, rfl⟩
  · exact ⟨fun _ _ => h .., .inl fun _ _ => h ..⟩
  · obtain ⟨a1_0, a1_1, a1_2⟩ := a1; exact ⟨fun _ _ => rfl, .inr (.inl fun ρ K => (gc42_0 (Tabs k) ρ K ⟨a1_0, a1_1, a1_2⟩ a2).symm)⟩

theorem t43 (k : Nat) (args : List (PV sig)) (m : Mem sig) : TQ k 43 args m fun j ρ K => T43 (Tabs j) ρ args m K := by
  rcases rc43_0 args m with h | ⟨a1, a2, rfl, rfl⟩
  · exact ⟨fun _ _ => h .., .inl fun _ _ => h ..⟩
  · obtain ⟨a1_0, a1_1, a1_2⟩ := a1; exact ⟨fun _ _ => rfl, .inr (.inl fun ρ K => (gc43_0 (Tabs k) ρ K ⟨a1_0, a1_1, a1_2⟩ a2).symm)⟩

theorem t44 (k : Nat) (args : List (PV sig)) (m : Mem sig) : TQ k 44 args m fun j ρ K => T44 (Tabs j) ρ args m K := by
  rcases rc44_0 args m with h | ⟨a1, rfl, rfl⟩
  · exact ⟨fun _ _ => h .., .inl fun _ _ => h ..⟩
  · exact ⟨fun _ _ => rfl, .inr (.inl fun ρ K => (gc44_0 (Tabs k) ρ K a1).symm)⟩

theorem t45 (k : Nat) (args : List (PV sig)) (m : Mem sig) : TQ k 45 args m fun j ρ K => T45 (Tabs j) ρ args m K := by
  unfold T45
  cases hc : Nat.beq (modeId (args.getD 1 .any)) 2 with
  | true =>
    simp only [cond_true]
    rcases rc45_0 args m with h | ⟨a1, a2, rfl, rfl⟩
    · exact ⟨fun _ _ => h .., .inl fun _ _ => h ..⟩
    · obtain ⟨a1_0, a1_1, a1_2⟩ := a1; exact ⟨fun _ _ => rfl, .inr (.inl fun ρ K => (gc45_0 (Tabs k) ρ K ⟨a1_0, a1_1, a1_2⟩ a2).symm)⟩
  | false =>
    simp only [cond_false]
    cases hc : Nat.beq (modeId (args.getD 1 .any)) 3 with
    | true =>
      simp only [cond_true]
      rcases rc45_1 args m with h | ⟨a1, a2, rfl, rfl⟩
      · exact ⟨fun _ _ => h .., .inl fun _ _ => h ..⟩
      · obtain ⟨a1_0, a1_1, a1_2⟩ := a1; exact ⟨fun _ _ => rfl, .inr (.inl fun ρ K => (gc45_1 (Tabs k) ρ K ⟨a1_0, a1_1, a1_2⟩ a2).symm)⟩
    | false =>
      simp only [cond_false]
      exact ⟨fun _ _ => rfl, .inl fun _ _ => rfl⟩

theorem t46 (k : Nat) (args : List (PV sig)) (m : Mem sig) : TQ k 46 args m fun j ρ K => T46 (Tabs j) ρ args m K := by
  rcases rc46_0 args m with h | ⟨a1, a2, a3, a4, rfl, rfl⟩
  · exact ⟨fun _ _ => h .., .inl fun _ _ => h ..⟩
  · obtain ⟨a1_0, a1_1, a1_2⟩ := a1; exact ⟨fun _ _ => rfl, .inr (.inl fun ρ K => (gc46_0 (Tabs k) ρ K ⟨a1_0, a1_1, a1_2⟩ a2 a3 a4).symm)⟩

theorem t47 (k : Nat) (args : List (PV sig)) (m : Mem sig) : TQ k 47 args m fun j ρ K => T47 (Tabs j) ρ args m K := by
  rcases rc47_0 args m with h | ⟨a1, a2, a3, rfl, rfl⟩
  · exact ⟨fun _ _ => h .., .inl fun _ _ => h ..⟩
  · obtain ⟨a1_0, a1_1, a1_2⟩ := a1; exact ⟨fun _ _ => rfl, .inr (.inl fun ρ K => (gc47_0 (Tabs k) ρ K ⟨a1_0, a1_1, a1_2⟩ a2 a3).symm)⟩

theorem t48 (k : Nat) (args : List (PV sig)) (m : Mem sig) : TQ k 48 args m fun j ρ K => T48 (Tabs j) ρ args m K := by
  unfold T48
  cases hc : Nat.beq (modeId (args.getD 1 .any)) 2 && Nat.beq (modeId (args.getD 2 .any)) 2 with
  | true =>
    simp only [cond_true]
    rcases rc48_0 args m with h | ⟨a1, a2, a3, rfl, rfl⟩
    · exact ⟨fun _ _ => h .., .inl fun _ _ => h ..⟩
    · obtain ⟨a1_0, a1_1, a1_2⟩ := a1; exact ⟨fun _ _ => rfl, .inr (.inl fun ρ K => (gc48_0 (Tabs k) ρ K ⟨a1_0, a1_1, a1_2⟩ a2 a3).symm)⟩
  | false =>
    simp only [cond_false]
    cases hc : Nat.beq (modeId (args.getD 1 .any)) 1 && Nat.beq (modeId (args.getD 2 .any)) 3 with
    | true =>
      simp only [cond_true]
      rcases rc48_1 args m with h | ⟨a1, a2, a3, rfl, rfl⟩
      · exact ⟨fun _ _ => h .., .inl fun _ _ => h ..⟩
      · obtain ⟨a1_0, a1_1, a1_2⟩ := a1; exact ⟨fun _ _ => rfl, .inr (.inl fun ρ K => (gc48_1 (Tabs k) ρ K ⟨a1_0, a1_1, a1_2⟩ a2 a3).symm)⟩
    | false =>
      simp only [cond_false]
      cases hc : Nat.beq (modeId (args.getD 1 .any)) 3 && Nat.beq (modeId (args.getD 2 .any)) 3 with
      | true =>
        simp only [cond_true]
        rcases rc48_2 args m with h | ⟨a1, a2, a3, rfl, rfl⟩
        · exact ⟨fun _ _ => h .., .inl fun _ _ => h ..⟩
        · obtain ⟨a1_0, a1_1, a1_2⟩ := a1; exact ⟨fun _ _ => rfl, .inr (.inl fun ρ K => (gc48_2 (Tabs k) ρ K ⟨a1_0, a1_1, a1_2⟩ a2 a3).symm)⟩
      | false =>
        simp only [cond_false]
        cases hc : Nat.beq (modeId (args.getD 1 .any)) 1 && Nat.beq (modeId (args.getD 2 .any)) 2 with
        | true =>
          simp only [cond_true]
          rcases rc48_3 args m with h | ⟨a1, a2, a3, rfl, rfl⟩
          · exact ⟨fun _ _ => h .., .inl fun _ _ => h ..⟩
          · obtain ⟨a1_0, a1_1, a1_2⟩ := a1; exact ⟨fun _ _ => rfl, .inr (.inl fun ρ K => (gc48_3 (Tabs k) ρ K ⟨a1_0, a1_1, a1_2⟩ a2 a3).symm)⟩
        | false =>
          simp only [cond_false]
          exact ⟨fun _ _ => rfl, .inl fun _ _ => rfl⟩

theorem t49 (k : Nat) (args : List (PV sig)) (m : Mem sig) : TQ k 49 args m fun j ρ K => T49 (Tabs j) ρ args m K := by
  rcases rc49_0 args m with h | ⟨a1, a2, rfl, rfl⟩
  · exact ⟨fun _ _ => h .., .inl fun _ _ => h ..⟩
  · exact ⟨fun _ _ => rfl, .inr (.inl fun ρ K => (gc49_0 (Tabs k) ρ K a1 a2).symm)⟩

theorem t54 (k : Nat) (args : List (PV sig)) (m : Mem sig) : TQ k 54 args m fun j ρ K => T54 (Tabs j) ρ args m K := by
  rcases rc54_0 args m with h | ⟨a1, rfl, rfl⟩
  · exact ⟨fun _ _ => h .., .inl fun _ _ => h ..⟩
  · exact ⟨fun _ _ => rfl, .inr (.inl fun ρ K => (gc54_0 (Tabs k) ρ K a1).symm)⟩

theorem t57 (k : Nat) (args : List (PV sig)) (m : Mem sig) : TQ k 57 args m fun j ρ K => T57 (Tabs j) ρ args m K := by
  rcases rc57_0 args m with h | ⟨a1, a2, rfl, rfl⟩
  · exact ⟨fun _ _ => h .., .inl fun _ _ => h ..⟩
  · obtain ⟨a1_0, a1_1, a1_2⟩ := a1; exact ⟨fun _ _ => rfl, .inr (.inl fun ρ K => (gc57_0 (Tabs k) ρ K ⟨a1_0, a1_1, a1_2⟩ a2).symm)⟩

theorem t65 (k : Nat) (args : List (PV sig)) (m : Mem sig) : TQ k 65 args m fun j ρ K => T65 (Tabs j) ρ args m K := by
  rcases rc65_0 args m with h | ⟨a1, a2, rfl, rfl⟩
  · exact ⟨fun _ _ => h .., .inl fun _ _ => h ..⟩
  · exact ⟨fun _ _ => rfl, .inr (.inl fun ρ K => (gc65_0 (Tabs k) ρ K a1 a2).symm)⟩

theorem t66 (k : Nat) (args : List (PV sig)) (m : Mem sig) : TQ k 66 args m fun j ρ K => T66 (Tabs j) ρ args m K := by
  rcases rc66_0 args m with h | ⟨a1, rfl, rfl⟩
  · exact ⟨fun _ _ => h .., .inl fun _ _ => h ..⟩
  · exact ⟨fun _ _ => rfl, .inr (.inl fun ρ K => (gc66_0 (Tabs k) ρ K a1).symm)⟩

theorem t67 (k : Nat) (args : List (PV sig)) (m : Mem sig) : TQ k 67 args m fun j ρ K => T67 (Tabs j) ρ args m K := by
  rcases rc67_0 args m with h | ⟨a1, a2, a3, rfl, rfl⟩
  · exact ⟨fun _ _ => h .., .inl fun _ _ => h ..⟩
  · exact ⟨fun _ _ => rfl, .inr (.inl fun ρ K => (gc67_0 (Tabs k) ρ K a1 a2 a3).symm)⟩

theorem t68 (k : Nat) (args : List (PV sig)) (m : Mem sig) : TQ k 68 args m fun j ρ K => T68 (Tabs j) ρ args m K := by
  rcases rc68_0 args m with h | ⟨a1, a2, rfl, rfl⟩
  · exact ⟨fun _ _ => h .., .inl fun _ _ => h ..⟩
  · exact ⟨fun _ _ => rfl, .inr (.inl fun ρ K => (gc68_0 (Tabs k) ρ K a1 a2).symm)⟩

theorem t69 (k : Nat) (args : List (PV sig)) (m : Mem sig) : TQ k 69 args m fun j ρ K => T69 (Tabs j) ρ args m K := by
  rcases rc69_0 args m with h | ⟨a1, a2, rfl, rfl⟩
  · exact ⟨fun _ _ => h .., .inl fun _ _ => h ..⟩
  · exact ⟨fun _ _ => rfl, .inr (.inl fun ρ K => (gc69_0 (Tabs k) ρ K a1 a2).symm)⟩

theorem t70 (k : Nat) (args : List (PV sig)) (m : Mem sig) : TQ k 70 args m fun j ρ K => T70 (Tabs j) ρ args m K := by
  rcases rc70_0 args m with h | ⟨a1, a2, a3, rfl, rfl⟩
  · exact ⟨fun _ _ => h .., .inl fun _ _ => h ..⟩
  · obtain ⟨a1_0, a1_1, a1_2⟩ := a1; exact ⟨fun _ _ => rfl, .inr (.inl fun ρ K => (gc70_0 (Tabs k) ρ K ⟨a1_0, a1_1, a1_2⟩ a2 a3).symm)⟩

theorem t77 (k : Nat) (args : List (PV sig)) (m : Mem sig) : TQ k 77 args m fun j ρ K => T77 (Tabs j) ρ args m K := by
  rcases rc77_0 args m with h | ⟨a1, rfl, rfl⟩
  · exact ⟨fun _ _ => h .., .inl fun _ _ => h ..⟩
  · exact ⟨fun _ _ => rfl, .inr (.inl fun ρ K => (gc77_0 (Tabs k) ρ K a1).symm)⟩

theorem t78 (k : Nat) (args : List (PV sig)) (m : Mem sig) : TQ k 78 args m fun j ρ K => T78 (Tabs j) ρ args m K := by
  rcases rc78_0 args m with h | ⟨a1, a2, rfl, rfl⟩
  · exact ⟨fun _ _ => h .., .inl fun _ _ => h ..⟩
  · exact ⟨fun _ _ => rfl, .inr (.inl fun ρ K => (gc78_0 (Tabs k) ρ K a1 a2).symm)⟩

theorem t79 (k : Nat) (args : List (PV sig)) (m : Mem sig) : TQ k 79 args m fun j ρ K => T79 (Tabs j) ρ args m K := by
  rcases rc79_0 args m with h | ⟨a1, rfl, rfl⟩
  · exact ⟨fun _ _ => h .., .inl fun _ _ => h ..⟩
  · obtain ⟨a1_0, a1_1, a1_2⟩ := a1; exact ⟨fun _ _ => rfl, .inr (.inl fun ρ K => (gc79_0 (Tabs k) ρ K ⟨a1_0, a1_1, a1_2⟩).symm)⟩

theorem t80 (k : Nat) (args : List (PV sig)) (m : Mem sig) : TQ k 80 args m fun j ρ K => T80 (Tabs j) ρ args m K := by
  rcases rc80_0 args m with h | ⟨a1, rfl, rfl⟩
  · exact ⟨fun _ _ => h .., .inl fun _ _ => h ..⟩
  · exact ⟨fun _ _ => rfl, .inr (.inr fun _ => (told80 a1).imp (fun h ρ K => h ρ K) fun ⟨r, h1, h2⟩ => ⟨r, h1, fun ρ K => h2 ρ K⟩)⟩

theorem t81 (k : Nat) (args : List (PV sig)) (m : Mem sig) : TQ k 81 args m fun j ρ K => T81 (Tabs j) ρ args m K := by
  rcases rc81_0 args m with h | ⟨a1, a2, a3, a4, rfl, rfl⟩
  · exact ⟨fun _ _ => h .., .inl fun _ _ => h ..⟩
  · exact ⟨fun _ _ => rfl, .inr (.inl fun ρ K => (gc81_0 (Tabs k) ρ K a1 a2 a3 a4).symm)⟩

theorem t82 (k : Nat) (args : List (PV sig)) (m : Mem sig) : TQ k 82 args m fun j ρ K => T82 (Tabs j) ρ args m K := by
  rcases rc82_0 args m with h | ⟨a1, rfl, rfl⟩
  · exact ⟨fun _ _ => h .., .inl fun _ _ => h ..⟩
  · exact ⟨fun _ _ => rfl, .inr (.inl fun ρ K => (gc82_0 (Tabs k) ρ K a1).symm)⟩

theorem t83 (k : Nat) (args : List (PV sig)) (m : Mem sig) : TQ k 83 args m fun j ρ K => T83 (Tabs j) ρ args m K := by
  rcases rc83_0 args m with h | ⟨a1, a2, rfl, rfl⟩
  · exact ⟨fun _ _ => h .., .inl fun _ _ => h ..⟩
  · exact ⟨fun _ _ => rfl, .inr (.inl fun ρ K => (gc83_0 (Tabs k) ρ K a1 a2).symm)⟩

theorem t84 (k : Nat) (args : List (PV sig)) (m : Mem sig) : TQ k 84 args m fun j ρ K => T84 (Tabs j) ρ args m K := by
  rcases rc84_0 args m with h | ⟨a1, a2, rfl, rfl⟩
  · exact ⟨fun _ _ => h .., .inl fun _ _ => h ..⟩
  · exact ⟨fun _ _ => rfl, .inr (.inl fun ρ K => (gc84_0 (Tabs k) ρ K a1 a2).symm)⟩

theorem t85 (k : Nat) (args : List (PV sig)) (m : Mem sig) : TQ k 85 args m fun j ρ K => T85 (Tabs j) ρ args m K := by
  rcases rc85_0 args m with h | ⟨a1, rfl, rfl⟩
  · exact ⟨fun _ _ => h .., .inl fun _ _ => h ..⟩
  · obtain ⟨a1_0, a1_1, a1_2⟩ := a1; exact ⟨fun _ _ => rfl, .inr (.inl fun ρ K => (gc85_0 (Tabs k) ρ K ⟨a1_0, a1_1, a1_2⟩).symm)⟩

theorem t86 (k : Nat) (args : List (PV sig)) (m : Mem sig) : TQ k 86 args m fun j ρ K => T86 (Tabs j) ρ args m K := by
  rcases rc86_0 args m with h | ⟨a1, rfl, rfl⟩
  · exact ⟨fun _ _ => h .., .inl fun _ _ => h ..⟩
  · exact ⟨fun _ _ => rfl, .inr (.inl fun ρ K => (gc86_0 (Tabs k) ρ K a1).symm)⟩

theorem t92 (k : Nat) (args : List (PV sig)) (m : Mem sig) : TQ k 92 args m fun j ρ K => T92 (Tabs j) ρ args m K := by
  unfold T92
  cases hc : Nat.beq (fnId (args.getD 1 .any)) 93 with
  | true =>
    simp only [cond_true]
    rcases rc92_0 args m with h | ⟨a1, rfl, rfl⟩
    · exact ⟨fun _ _ => h .., .inl fun _ _ => h ..⟩
    · exact ⟨fun _ _ => rfl, .inr (.inl fun ρ K => (gc92_0 (Tabs k) ρ K a1).symm)⟩
  | false =>
    simp only [cond_false]
    cases hc : Nat.beq (fnId (args.getD 1 .any)) 107 with
    | true =>
      simp only [cond_true]
      rcases rc92_1 args m with h | ⟨a1, rfl, rfl⟩
      · exact ⟨fun _ _ => h .., .inl fun _ _ => h ..⟩
      · exact ⟨fun _ _ => rfl, .inr (.inl fun ρ K => (gc92_1 (Tabs k) ρ K a1).symm)⟩
    | false =>
      simp only [cond_false]
      exact ⟨fun _ _ => rfl, .inl fun _ _ => rfl⟩

theorem t93 (k : Nat) (args : List (PV sig)) (m : Mem sig) : TQ k 93 args m fun j ρ K => T93 (Tabs j) ρ args m K := by
  rcases rc93_0 args m with h | ⟨a1, rfl, rfl⟩
  · exact ⟨fun _ _ => h .., .inl fun _ _ => h ..⟩
  · exact ⟨fun _ _ => rfl, .inr (.inl fun ρ K => (gc93_0 (Tabs k) ρ K a1).symm)⟩

theorem t94 (k : Nat) (args : List (PV sig)) (m : Mem sig) : TQ k 94 args m fun j ρ K => T94 (Tabs j) ρ args m K := by
  rcases rc94_0 args m with h | ⟨a1, a2, rfl, rfl⟩
  · exact ⟨fun _ _ => h .., .inl fun _ _ => h ..⟩
  · exact ⟨fun _ _ => rfl, .inr (.inl fun ρ K => (gc94_0 (Tabs k) ρ K a1 a2).symm)⟩

theorem t95 (k : Nat) (args : List (PV sig)) (m : Mem sig) : TQ k 95 args m fun j ρ K => T95 (Tabs j) ρ args m K := by
  rcases rc95_0 args m with h | ⟨a1, rfl, rfl⟩
  · exact ⟨fun _ _ => h .., .inl fun _ _ => h ..⟩
  · exact ⟨fun _ _ => rfl, .inr (.inr fun _ => (told95 a1).imp (fun h ρ K => h ρ K) fun ⟨r, h1, h2⟩ => ⟨r, h1, fun ρ K => h2 ρ K⟩)⟩

theorem t97 (k : Nat) (args : List (PV sig)) (m : Mem sig) : TQ k 97 args m fun j ρ K => T97 (Tabs j) ρ args m K := by
  rcases rc97_0 args m with h | ⟨a1, rfl, rfl⟩
  · exact ⟨fun _ _ => h .., .inl fun _ _ => h ..⟩
  · exact ⟨fun _ _ => rfl, .inr (.inl fun ρ K => (gc97_0 (Tabs k) ρ K a1).symm)⟩

theorem t102 (k : Nat) (args : List (PV sig)) (m : Mem sig) : TQ k 102 args m fun j ρ K => T102 (Tabs j) ρ args m K := by
  rcases rc102_0 args m with h | ⟨a1, a2, a3, rfl, rfl⟩
  · exact ⟨fun _ _ => h .., .inl fun _ _ => h ..⟩
  · exact ⟨fun _ _ => rfl, .inr (.inl fun ρ K => (gc102_0 (Tabs k) ρ K a1 a2 a3).symm)⟩

theorem t103 (k : Nat) (args : List (PV sig)) (m : Mem sig) : TQ k 103 args m fun j ρ K => T103 (Tabs j) ρ args m K := by
  rcases rc103_0 args m with h | ⟨a1, a2, rfl, rfl⟩
  · exact ⟨fun _ _ => h .., .inl fun _ _ => h ..⟩
  · exact ⟨fun _ _ => rfl, .inr (.inr fun _ => (told103 a1 a2).imp (fun h ρ K => h ρ K) fun ⟨r, h1, h2⟩ => ⟨r, h1, fun ρ K => h2 ρ K⟩)⟩

theorem t104 (k : Nat) (args : List (PV sig)) (m : Mem sig) : TQ k 104 args m fun j ρ K => T104 (Tabs j) ρ args m K := by
  rcases rc104_0 args m with h | ⟨a1, a2, a3, rfl, rfl⟩
  · exact ⟨fun _ _ => h .., .inl fun _ _ => h ..⟩
  · exact ⟨fun _ _ => rfl, .inr (.inl fun ρ K => (gc104_0 (Tabs k) ρ K a1 a2 a3).symm)⟩

theorem t105 (k : Nat) (args : List (PV sig)) (m : Mem sig) : TQ k 105 args m fun j ρ K => T105 (Tabs j) ρ args m K := by
  rcases rc105_0 args m with h | ⟨a1, a2, rfl, rfl⟩
  · exact ⟨fun _ _ => h .., .inl fun _ _ => h ..⟩
  · exact ⟨fun _ _ => rfl, .inr (.inl fun ρ K => (gc105_0 (Tabs k) ρ K a1 a2).symm)⟩

theorem t106 (k : Nat) (args : List (PV sig)) (m : Mem sig) : TQ k 106 args m fun j ρ K => T106 (Tabs j) ρ args m K := by
  rcases rc106_0 args m with h | ⟨a1, a2, a3, rfl, rfl⟩
  · exact ⟨fun _ _ => h .., .inl fun _ _ => h ..⟩
  · exact ⟨fun _ _ => rfl, .inr (.inl fun ρ K => (gc106_0 (Tabs k) ρ K a1 a2 a3).symm)⟩

theorem t107 (k : Nat) (args : List (PV sig)) (m : Mem sig) : TQ k 107 args m fun j ρ K => T107 (Tabs j) ρ args m K := by
  rcases rc107_0 args m with h | ⟨a1, rfl, rfl⟩
  · exact ⟨fun _ _ => h .., .inl fun _ _ => h ..⟩
  · exact ⟨fun _ _ => rfl, .inr (.inl fun ρ K => (gc107_0 (Tabs k) ρ K a1).symm)⟩

theorem t108 (k : Nat) (args : List (PV sig)) (m : Mem sig) : TQ k 108 args m fun j ρ K => T108 (Tabs j) ρ args m K := by
  rcases rc108_0 args m with h | ⟨a1, a2, rfl, rfl⟩
  · exact ⟨fun _ _ => h .., .inl fun _ _ => h ..⟩
  · exact ⟨fun _ _ => rfl, .inr (.inl fun ρ K => (gc108_0 (Tabs k) ρ K a1 a2).symm)⟩

theorem t109 (k : Nat) (args : List (PV sig)) (m : Mem sig) : TQ k 109 args m fun j ρ K => T109 (Tabs j) ρ args m K := by
  rcases rc109_0 args m with h | ⟨a1, rfl, rfl⟩
  · exact ⟨fun _ _ => h .., .inl fun _ _ => h ..⟩
  · exact ⟨fun _ _ => rfl, .inr (.inl fun ρ K => (gc109_0 (Tabs k) ρ K a1).symm)⟩

theorem t110 (k : Nat) (args : List (PV sig)) (m : Mem sig) : TQ k 110 args m fun j ρ K => T110 (Tabs j) ρ args m K := by
  rcases rc110_0 args m with h | ⟨a1, a2, rfl, rfl⟩
  · exact ⟨fun _ _ => h .., .inl fun _ _ => h ..⟩
  · exact ⟨fun _ _ => rfl, .inr (.inl fun ρ K => (gc110_0 (Tabs k) ρ K a1 a2).symm)⟩

theorem t111 (k : Nat) (args : List (PV sig)) (m : Mem sig) : TQ k 111 args m fun j ρ K => T111 (Tabs j) ρ args m K := by
  rcases rc111_0 args m with h | ⟨a1, rfl, rfl⟩
  · exact ⟨fun _ _ => h .., .inl fun _ _ => h ..⟩
  · exact ⟨fun _ _ => rfl, .inr (.inl fun ρ K => (gc111_0 (Tabs k) ρ K a1).symm)⟩

theorem t112 (k : Nat) (args : List (PV sig)) (m : Mem sig) : TQ k 112 args m fun j ρ K => T112 (Tabs j) ρ args m K := by
  rcases rc112_0 args m with h | ⟨a1, a2, rfl, rfl⟩
  · exact ⟨fun _ _ => h .., .inl fun _ _ => h ..⟩
  · exact ⟨fun _ _ => rfl, .inr (.inl fun ρ K => (gc112_0 (Tabs k) ρ K a1 a2).symm)⟩

theorem t113 (k : Nat) (args : List (PV sig)) (m : Mem sig) : TQ k 113 args m fun j ρ K => T113 (Tabs j) ρ args m K := by
  rcases rc113_0 args m with h | ⟨a1, a2, rfl, rfl⟩
  · exact ⟨fun _ _ => h .., .inl fun _ _ => h ..⟩
  · exact ⟨fun _ _ => rfl, .inr (.inl fun ρ K => (gc113_0 (Tabs k) ρ K a1 a2).symm)⟩

theorem t114 (k : Nat) (args : List (PV sig)) (m : Mem sig) : TQ k 114 args m fun j ρ K => T114 (Tabs j) ρ args m K := by
  rcases rc114_0 args m with h | ⟨a1, a2, rfl, rfl⟩
  · exact ⟨fun _ _ => h .., .inl fun _ _ => h ..⟩
  · exact ⟨fun _ _ => rfl, .inr (.inl fun ρ K => (gc114_0 (Tabs k) ρ K a1 a2).symm)⟩

theorem t115 (k : Nat) (args : List (PV sig)) (m : Mem sig) : TQ k 115 args m fun j ρ K => T115 (Tabs j) ρ args m K := by
  rcases rc115_0 args m with h | ⟨a1, a2, rfl, rfl⟩
  · exact ⟨fun _ _ => h .., .inl fun _ _ => h ..⟩
  · exact ⟨fun _ _ => rfl, .inr (.inl fun ρ K => (gc115_0 (Tabs k) ρ K a1 a2).symm)⟩

theorem t116 (k : Nat) (args : List (PV sig)) (m : Mem sig) : TQ k 116 args m fun j ρ K => T116 (Tabs j) ρ args m K := by
  rcases rc116_0 args m with h | ⟨a1, a2, a3, rfl, rfl⟩
  · exact ⟨fun _ _ => h .., .inl fun _ _ => h ..⟩
  · exact ⟨fun _ _ => rfl, .inr (.inl fun ρ K => (gc116_0 (Tabs k) ρ K a1 a2 a3).symm)⟩

theorem t117 (k : Nat) (args : List (PV sig)) (m : Mem sig) : TQ k 117 args m fun j ρ K => T117 (Tabs j) ρ args m K := by
  rcases rc117_0 args m with h | ⟨a1, a2, rfl, rfl⟩
  · exact ⟨fun _ _ => h .., .inl fun _ _ => h ..⟩
  · exact ⟨fun _ _ => rfl, .inr (.inl fun ρ K => (gc117_0 (Tabs k) ρ K a1 a2).symm)⟩

theorem t118 (k : Nat) (args : List (PV sig)) (m : Mem sig) : TQ k 118 args m fun j ρ K => T118 (Tabs j) ρ args m K := by
  rcases rc118_0 args m with h | ⟨a1, a2, a3, rfl, rfl⟩
  · exact ⟨fun _ _ => h .., .inl fun _ _ => h ..⟩
  · exact ⟨fun _ _ => rfl, .inr (.inl fun ρ K => (gc118_0 (Tabs k) ρ K a1 a2 a3).symm)⟩

theorem t119 (k : Nat) (args : List (PV sig)) (m : Mem sig) : TQ k 119 args m fun j ρ K => T119 (Tabs j) ρ args m K := by
  rcases rc119_0 args m with h | ⟨a1, a2, rfl, rfl⟩
  · exact ⟨fun _ _ => h .., .inl fun _ _ => h ..⟩
  · exact ⟨fun _ _ => rfl, .inr (.inl fun ρ K => (gc119_0 (Tabs k) ρ K a1 a2).symm)⟩

theorem t120 (k : Nat) (args : List (PV sig)) (m : Mem sig) : TQ k 120 args m fun j ρ K => T120 (Tabs j) ρ args m K := by
  rcases rc120_0 args m with h | ⟨a1, a2, rfl, rfl⟩
  · exact ⟨fun _ _ => h .., .inl fun _ _ => h ..⟩
  · exact ⟨fun _ _ => rfl, .inr (.inl fun ρ K => (gc120_0 (Tabs k) ρ K a1 a2).symm)⟩

theorem t126 (k : Nat) (args : List (PV sig)) (m : Mem sig) : TQ k 126 args m fun j ρ K => T126 (Tabs j) ρ args m K := by
  rcases rc126_0 args m with h | ⟨a1, a2, rfl, rfl⟩
  · exact ⟨fun _ _ => h .., .inl fun _ _ => h ..⟩
  · exact ⟨fun _ _ => rfl, .inr (.inl fun ρ K => (gc126_0 (Tabs k) ρ K a1 a2).symm)⟩

theorem t127 (k : Nat) (args : List (PV sig)) (m : Mem sig) : TQ k 127 args m fun j ρ K => T127 (Tabs j) ρ args m K := by
  rcases rc127_0 args m with h | ⟨a1, rfl, rfl⟩
  · exact ⟨fun _ _ => h .., .inl fun _ _ => h ..⟩
  · exact ⟨fun _ _ => rfl, .inr (.inl fun ρ K => (gc127_0 (Tabs k) ρ K a1).symm)⟩

theorem t128 (k : Nat) (args : List (PV sig)) (m : Mem sig) : TQ k 128 args m fun j ρ K => T128 (Tabs j) ρ args m K := by
  unfold T128
  cases hc : Nat.beq (modeId (args.getD 1 .any)) 2 && Nat.beq (modeId (args.getD 2 .any)) 2 with
  | true =>
    simp only [cond_true]
    rcases rc128_0 args m with h | ⟨a1, a2, a3, rfl, rfl⟩
    · exact ⟨fun _ _ => h .., .inl fun _ _ => h ..⟩
    · obtain ⟨a1_0, a1_1, a1_2⟩ := a1; exact ⟨fun _ _ => rfl, .inr (.inl fun ρ K => (gc128_0 (Tabs k) ρ K ⟨a1_0, a1_1, a1_2⟩ a2 a3).symm)⟩
  | false =>
    simp only [cond_false]
    cases hc : Nat.beq (modeId (args.getD 1 .any)) 1 && Nat.beq (modeId (args.getD 2 .any)) 3 with
    | true =>
      simp only [cond_true]
      rcases rc128_1 args m with h | ⟨a1, a2, a3, rfl, rfl⟩
      · exact ⟨fun _ _ => h .., .inl fun _ _ => h ..⟩
      · obtain ⟨a1_0, a1_1, a1_2⟩ := a1; exact ⟨fun _ _ => rfl, .inr (.inl fun ρ K => (gc128_1 (Tabs k) ρ K ⟨a1_0, a1_1, a1_2⟩ a2 a3).symm)⟩
    | false =>
      simp only [cond_false]
      cases hc : Nat.beq (modeId (args.getD 1 .any)) 1 && Nat.beq (modeId (args.getD 2 .any)) 2 with
      | true =>
        simp only [cond_true]
        rcases rc128_2 args m with h | ⟨a1, a2, a3, rfl, rfl⟩
        · exact ⟨fun _ _ => h .., .inl fun _ _ => h ..⟩
        · obtain ⟨a1_0, a1_1, a1_2⟩ := a1; exact ⟨fun _ _ => rfl, .inr (.inl fun ρ K => (gc128_2 (Tabs k) ρ K ⟨a1_0, a1_1, a1_2⟩ a2 a3).symm)⟩
      | false =>
        simp only [cond_false]
        exact ⟨fun _ _ => rfl, .inl fun _ _ => rfl⟩

theorem t132 (k : Nat) (args : List (PV sig)) (m : Mem sig) : TQ k 132 args m fun j ρ K => T132 (Tabs j) ρ args m K := by
  rcases rc132_0 args m with h | ⟨a1, rfl, rfl⟩
  · exact ⟨fun _ _ => h .., .inl fun _ _ => h ..⟩
  · exact ⟨fun _ _ => rfl, .inr (.inl fun ρ K => (gc132_0 (Tabs k) ρ K a1).symm)⟩

theorem t133 (k : Nat) (args : List (PV sig)) (m : Mem sig) : TQ k 133 args m fun j ρ K => T133 (Tabs j) ρ args m K := by
  rcases rc133_0 args m with h | ⟨a1, a2, rfl, rfl⟩
  · exact ⟨fun _ _ => h .., .inl fun _ _ => h ..⟩
  · exact ⟨fun _ _ => rfl, .inr (.inl fun ρ K => (gc133_0 (Tabs k) ρ K a1 a2).symm)⟩

theorem t139 (k : Nat) (args : List (PV sig)) (m : Mem sig) : TQ k 139 args m fun j ρ K => T139 (Tabs j) ρ args m K := by
  rcases rc139_0 args m with h | ⟨a1, rfl, rfl⟩
  · exact ⟨fun _ _ => h .., .inl fun _ _ => h ..⟩
  · exact ⟨fun _ _ => rfl, .inr (.inr fun _ => (told139 a1).imp (fun h ρ K => h ρ K) fun ⟨r, h1, h2⟩ => ⟨r, h1, fun ρ K => h2 ρ K⟩)⟩

theorem t140 (k : Nat) (args : List (PV sig)) (m : Mem sig) : TQ k 140 args m fun j ρ K => T140 (Tabs j) ρ args m K := by
  rcases rc140_0 args m with h | ⟨a1, rfl, rfl⟩
  · exact ⟨fun _ _ => h .., .inl fun _ _ => h ..⟩
  · obtain ⟨a1_0, a1_1, a1_2⟩ := a1; exact ⟨fun _ _ => rfl, .inr (.inl fun ρ K => (gc140_0 (Tabs k) ρ K ⟨a1_0, a1_1, a1_2⟩).symm)⟩

theorem t141 (k : Nat) (args : List (PV sig)) (m : Mem sig) : TQ k 141 args m fun j ρ K => T141 (Tabs j) ρ args m K := by
  rcases rc141_0 args m with h | ⟨a1, a2, rfl, rfl⟩
  · exact ⟨fun _ _ => h .., .inl fun _ _ => h ..⟩
  · exact ⟨fun _ _ => rfl, .inr (.inl fun ρ K => (gc141_0 (Tabs k) ρ K a1 a2).symm)⟩

theorem tT (k f : Nat) (args : List (PV sig)) (m : Mem sig) : TQ k f args m fun j ρ K => T (Tabs j) ρ f args m K := by
  unfold T
  exact dT (t4 k args m) <|
    dT (t5 k args m) <|
    dT (t8 k args m) <|
    dT (t10 k args m) <|
    dT (t11 k args m) <|
    dT (t12 k args m) <|
    dT (t13 k args m) <|
    dT (t14 k args m) <|
    dT (t15 k args m) <|
    dT (t16 k args m) <|
    dT (t17 k args m) <|
    dT (t18 k args m) <|
    dT (t19 k args m) <|
    dT (t20 k args m) <|
    dT (t28 k args m) <|
    dT (t30 k args m) <|
    dT (t31 k args m) <|
    dT (t32 k args m) <|
    dT (t33 k args m) <|
    dT (t37 k args m) <|
    dT (t38 k args m) <|
    dT (t39 k args m) <|
    dT (t40 k args m) <|
    dT (t41 k args m) <|
    dT (t42 k args m) <|
    dT (t43 k args m) <|
    dT (t44 k args m) <|
    dT (t45 k args m) <|
    dT (t46 k args m) <|
    dT (t47 k args m) <|
    dT (t48 k args m) <|
    dT (t49 k args m) <|
    dT (t54 k args m) <|
    dT (t57 k args m) <|
    dT (t65 k args m) <|
    dT (t66 k args m) <|
    dT (t67 k args m) <|
    dT (t68 k args m) <|
    dT (t69 k args m) <|
    dT (t70 k args m) <|
    dT (t77 k args m) <|
    dT (t78 k args m) <|
    dT (t79 k args m) <|
    dT (t80 k args m) <|
    dT (t81 k args m) <|
    dT (t82 k args m) <|
    dT (t83 k args m) <|
    dT (t84 k args m) <|
    dT (t85 k args m) <|
    dT (t86 k args m) <|
    dT (t92 k args m) <|
    dT (t93 k args m) <|
    dT (t94 k args m) <|
    dT (t95 k args m) <|
    dT (t97 k args m) <|
    dT (t102 k args m) <|
    dT (t103 k args m) <|
    dT (t104 k args m) <|
    dT (t105 k args m) <|
    dT (t106 k args m) <|
    dT (t107 k args m) <|
    dT (t108 k args m) <|
    dT (t109 k args m) <|
    dT (t110 k args m) <|
    dT (t111 k args m) <|
    dT (t112 k args m) <|
    dT (t113 k args m) <|
    dT (t114 k args m) <|
    dT (t115 k args m) <|
    dT (t116 k args m) <|
    dT (t117 k args m) <|
    dT (t118 k args m) <|
    dT (t119 k args m) <|
    dT (t120 k args m) <|
    dT (t126 k args m) <|
    dT (t127 k args m) <|
    dT (t128 k args m) <|
    dT (t132 k args m) <|
    dT (t133 k args m) <|
    dT (t139 k args m) <|
    dT (t140 k args m) <|
    dT (t141 k args m) ⟨fun _ _ => rfl, .inl fun _ _ => rfl⟩

theorem ul5_10_0 (k : Nat) (st : St sig) : UQ k 5 0 10 st fun j ρ K => Rl5_10_0 (Tabs j) ρ (seenV (PK 5 0 10 0) st) (seenM 0 (PK 5 0 10 0) st) st.dfs st.nt K := by
  rcases rl5_10_0 (seenV (PK 5 0 10 0) st) (seenM 0 (PK 5 0 10 0) st) st.dfs st.nt with h | ⟨a1, a2, a3, a4, a5, a6, a7, a8, a9, a10, h1, h2, h3, h4⟩
  · exact ⟨fun _ _ => h .., .inl fun _ _ => h ..⟩
  · obtain ⟨a9_0, a9_1, a9_2⟩ := a9; obtain ⟨a10_0, a10_1, a10_2⟩ := a10; refine ⟨fun ρ K => by rw [h1, h2, h3, h4]; rfl, .inr ⟨bodyOf Tryz.prog 5 10, by kernel_rfl, fun ρ K => ?_⟩⟩
    rw [parkN, h1, h2, h3, h4]
    exact (gl5_10_0 (Tabs k) ρ K a1 a2 a3 a4 a5 a6 a7 a8 ⟨a9_0, a9_1, a9_2⟩ ⟨a10_0, a10_1, a10_2⟩).symm

theorem ul10_4_0 (k : Nat) (st : St sig) : UQ k 10 0 4 st fun j ρ K => Rl10_4_0 (Tabs j) ρ (seenV (PK 10 0 4 0) st) (seenM 0 (PK 10 0 4 0) st) st.dfs st.nt K := by
  rcases rl10_4_0 (seenV (PK 10 0 4 0) st) (seenM 0 (PK 10 0 4 0) st) st.dfs st.nt with h | ⟨a1, a2, a3, h1, h2, h3, h4⟩
  · exact ⟨fun _ _ => h .., .inl fun _ _ => h ..⟩
  · obtain ⟨a2_0, a2_1, a2_2⟩ := a2; obtain ⟨a3_0, a3_1, a3_2⟩ := a3; refine ⟨fun ρ K => by rw [h1, h2, h3, h4]; rfl, .inr ⟨bodyOf Tryz.prog 10 4, by kernel_rfl, fun ρ K => ?_⟩⟩
    rw [parkN, h1, h2, h3, h4]
    exact (gl10_4_0 (Tabs k) ρ K a1 ⟨a2_0, a2_1, a2_2⟩ ⟨a3_0, a3_1, a3_2⟩).symm

theorem ul17_2_0 (k : Nat) (st : St sig) : UQ k 17 0 2 st fun j ρ K => Rl17_2_0 (Tabs j) ρ (seenV (PK 17 0 2 0) st) (seenM 0 (PK 17 0 2 0) st) st.dfs st.nt K := by
  rcases rl17_2_0 (seenV (PK 17 0 2 0) st) (seenM 0 (PK 17 0 2 0) st) st.dfs st.nt with h | ⟨a1, a2, a3, a4, h1, h2, h3, h4⟩
  · exact ⟨fun _ _ => h .., .inl fun _ _ => h ..⟩
  · refine ⟨fun ρ K => by rw [h1, h2, h3, h4]; rfl, .inr ⟨bodyOf Tryz.prog 17 2, by kernel_rfl, fun ρ K => ?_⟩⟩
    rw [parkN, h1, h2, h3, h4]
    exact (gl17_2_0 (Tabs k) ρ K a1 a2 a3 a4).symm

theorem ul18_4_0 (k : Nat) (st : St sig) : UQ k 18 0 4 st fun j ρ K => Rl18_4_0 (Tabs j) ρ (seenV (PK 18 0 4 0) st) (seenM 0 (PK 18 0 4 0) st) st.dfs st.nt K := by
  rcases rl18_4_0 (seenV (PK 18 0 4 0) st) (seenM 0 (PK 18 0 4 0) st) st.dfs st.nt with h | ⟨a1, a2, a3, a4, h1, h2, h3, h4⟩
  · exact ⟨fun _ _ => h .., .inl fun _ _ => h ..⟩
  · refine ⟨fun ρ K => by rw [h1, h2, h3, h4]; rfl, .inr ⟨bodyOf Tryz.prog 18 4, by kernel_rfl, fun ρ K => ?_⟩⟩
    rw [parkN, h1, h2, h3, h4]
    exact (gl18_4_0 (Tabs k) ρ K a1 a2 a3 a4).symm

theorem ul19_4_0 (k : Nat) (st : St sig) : UQ k 19 0 4 st fun j ρ K => Rl19_4_0 (Tabs j) ρ (seenV (PK 19 0 4 0) st) (seenM 0 (PK 19 0 4 0) st) st.dfs st.nt K := by
  rcases rl19_4_0 (seenV (PK 19 0 4 0) st) (seenM 0 (PK 19 0 4 0) st) st.dfs st.nt with h | ⟨a1, a2, a3, a4, h1, h2, h3, h4⟩
  · exact ⟨fun _ _ => h .., .inl fun _ _ => h ..⟩
  · obtain ⟨a4_0, a4_1, a4_2⟩ := a4; refine ⟨fun ρ K => by rw [h1, h2, h3, h4]; rfl, .inr ⟨bodyOf Tryz.prog 19 4, by kernel_rfl, fun ρ K => ?_⟩⟩
    rw [parkN, h1, h2, h3, h4]
    exact (gl19_4_0 (Tabs k) ρ K a1 a2 a3 ⟨a4_0, a4_1, a4_2⟩).symm

theorem ul28_6_0 (k : Nat) (st : St sig) : UQ k 28 0 6 st fun j ρ K => Rl28_6_0 (Tabs j) ρ (seenV (PK 28 0 6 0) st) (seenM 0 (PK 28 0 6 0) st) st.dfs st.nt K := by
  rcases rl28_6_0 (seenV (PK 28 0 6 0) st) (seenM 0 (PK 28 0 6 0) st) st.dfs st.nt with h | ⟨a1, a2, a3, a4, h1, h2, h3, h4⟩
  · exact ⟨fun _ _ => h .., .inl fun _ _ => h ..⟩
  · refine ⟨fun ρ K => by rw [h1, h2, h3, h4]; rfl, .inr ⟨bodyOf Tryz.prog 28 6, by kernel_rfl, fun ρ K => ?_⟩⟩
    rw [parkN, h1, h2, h3, h4]
    exact (gl28_6_0 (Tabs k) ρ K a1 a2 a3 a4).symm

theorem ul30_4_0 (k : Nat) (st : St sig) : UQ k 30 1 4 st fun j ρ K => Rl30_4_0 (Tabs j) ρ (seenV (PK 30 1 4 0) st) (seenM 1 (PK 30 1 4 0) st) st.dfs st.nt K := by
  rcases rl30_4_0 (seenV (PK 30 1 4 0) st) (seenM 1 (PK 30 1 4 0) st) st.dfs st.nt with h | ⟨a1, a2, a3, a4, a5, h1, h2, h3, h4⟩
  · exact ⟨fun _ _ => h .., .inl fun _ _ => h ..⟩
  · obtain ⟨a4_0, a4_1, a4_2⟩ := a4; obtain ⟨a5_0, a5_1, a5_2⟩ := a5; refine ⟨fun ρ K => by rw [h1, h2, h3, h4]; rfl, .inr ⟨bodyOf Tryz.prog 30 4, by kernel_rfl, fun ρ K => ?_⟩⟩
    rw [parkN, h1, h2, h3, h4]
    exact (gl30_4_0 (Tabs k) ρ K a1 a2 a3 ⟨a4_0, a4_1, a4_2⟩ ⟨a5_0, a5_1, a5_2⟩).symm

theorem ul39_3_0 (k : Nat) (st : St sig) : UQ k 39 1 3 st fun j ρ K => Rl39_3_0 (Tabs j) ρ (seenV (PK 39 1 3 0) st) (seenM 1 (PK 39 1 3 0) st) st.dfs st.nt K := by
  rcases rl39_3_0 (seenV (PK 39 1 3 0) st) (seenM 1 (PK 39 1 3 0) st) st.dfs st.nt with h | ⟨a1, a2, a3, a4, h1, h2, h3, h4⟩
  · exact ⟨fun _ _ => h .., .inl fun _ _ => h ..⟩
  · refine ⟨fun ρ K => by rw [h1, h2, h3, h4]; rfl, .inr ⟨bodyOf Tryz.prog 39 3, by kernel_rfl, fun ρ K => ?_⟩⟩
    rw [parkN, h1, h2, h3, h4]
    exact (gl39_3_0 (Tabs k) ρ K a1 a2 a3 a4).symm

theorem ul40_23_0 (k : Nat) (st : St sig) : UQ k 40 2 23 st fun j ρ K => Rl40_23_0 (Tabs j) ρ (seenV (PK 40 2 23 0) st) (seenM 2 (PK 40 2 23 0) st) st.dfs st.nt K := by
  rcases rl40_23_0 (seenV (PK 40 2 23 0) st) (seenM 2 (PK 40 2 23 0) st) st.dfs st.nt with h | ⟨a1, a2, a3, a4, a5, a6, a7, a8, a9, a10, a11, h1, h2, h3, h4⟩
  · exact ⟨fun _ _ => h .., .inl fun _ _ => h ..⟩
  · obtain ⟨a9_0, a9_1, a9_2⟩ := a9; obtain ⟨a10_0, a10_1, a10_2⟩ := a10; obtain ⟨a11_0, a11_1, a11_2⟩ := a11; refine ⟨fun ρ K => by rw [h1, h2, h3, h4]; rfl, .inr ⟨bodyOf Tryz.prog 40 23, by kernel_rfl, fun ρ K => ?_⟩⟩
    rw [parkN, h1, h2, h3, h4]
    exact (gl40_23_0 (Tabs k) ρ K a1 a2 a3 a4 a5 a6 a7 a8 ⟨a9_0, a9_1, a9_2⟩ ⟨a10_0, a10_1, a10_2⟩ ⟨a11_0, a11_1, a11_2⟩).symm

theorem ul40_23_1 (k : Nat) (st : St sig) : UQ k 40 3 23 st fun j ρ K => Rl40_23_1 (Tabs j) ρ (seenV (PK 40 3 23 0) st) (seenM 3 (PK 40 3 23 0) st) st.dfs st.nt K := by
  rcases rl40_23_1 (seenV (PK 40 3 23 0) st) (seenM 3 (PK 40 3 23 0) st) st.dfs st.nt with h | ⟨a1, a2, a3, a4, a5, a6, a7, a8, a9, a10, a11, a12, h1, h2, h3, h4⟩
  · exact ⟨fun _ _ => h .., .inl fun _ _ => h ..⟩
  · obtain ⟨a10_0, a10_1, a10_2⟩ := a10; obtain ⟨a11_0, a11_1, a11_2⟩ := a11; obtain ⟨a12_0, a12_1, a12_2⟩ := a12; refine ⟨fun ρ K => by rw [h1, h2, h3, h4]; rfl, .inr ⟨bodyOf Tryz.prog 40 23, by kernel_rfl, fun ρ K => ?_⟩⟩
    rw [parkN, h1, h2, h3, h4]
    exact (gl40_23_1 (Tabs k) ρ K a1 a2 a3 a4 a5 a6 a7 a8 a9 ⟨a10_0, a10_1, a10_2⟩ ⟨a11_0, a11_1, a11_2⟩ ⟨a12_0, a12_1, a12_2⟩).symm

theorem ul41_3_0 (k : Nat) (st : St sig) : UQ k 41 0 3 st fun j ρ K => Rl41_3_0 (Tabs j) ρ (seenV (PK 41 0 3 0) st) (seenM 0 (PK 41 0 3 0) st) st.dfs st.nt K := by
  rcases rl41_3_0 (seenV (PK 41 0 3 0) st) (seenM 0 (PK 41 0 3 0) st) st.dfs st.nt with h | ⟨a1, a2, a3, a4, a5, a6, h1, h2, h3, h4⟩
  · exact ⟨fun _ _ => h .., .inl fun _ _ => h ..⟩
  · obtain ⟨a4_0, a4_1, a4_2⟩ := a4; obtain ⟨a5_0, a5_1, a5_2⟩ := a5; obtain ⟨a6_0, a6_1, a6_2⟩ := a6; refine ⟨fun ρ K => by rw [h1, h2, h3, h4]; rfl, .inr ⟨bodyOf Tryz.prog 41 3, by kernel_rfl, fun ρ K => ?_⟩⟩
    rw [parkN, h1, h2, h3, h4]
    exact (gl41_3_0 (Tabs k) ρ K a1 a2 a3 ⟨a4_0, a4_1, a4_2⟩ ⟨a5_0, a5_1, a5_2⟩ ⟨a6_0, a6_1, a6_2⟩).symm

theorem ul42_3_0 (k : Nat) (st : St sig) : UQ k 42 0 3 st fun j ρ K => Rl42_3_0 (Tabs j) ρ (seenV (PK 42 0 3 0) st) (seenM 0 (PK 42 0 3 0) st) st.dfs st.nt K := by
  rcases rl42_3_0 (seenV (PK 42 0 3 0) st) (seenM 0 (PK 42 0 3 0) st) st.dfs st.nt with h | ⟨a1, a2, a3, a4, h1, h2, h3, h4⟩
  · exact ⟨fun _ _ => h .., .inl fun _ _ => h ..⟩
  · obtain ⟨a4_0, a4_1, a4_2⟩ := a4; refine ⟨fun ρ K => by rw [h1, h2, h3, h4]; rfl, .inr ⟨bodyOf Tryz.prog 42 3, by kernel_rfl, fun ρ K => ?_⟩⟩
    rw [parkN, h1, h2, h3, h4]
    exact (gl42_3_0 (Tabs k) ρ K a1 a2 a3 ⟨a4_0, a4_1, a4_2⟩).symm

theorem ul43_18_0 (k : Nat) (st : St sig) : UQ k 43 0 18 st fun j ρ K => Rl43_18_0 (Tabs j) ρ (seenV (PK 43 0 18 0) st) (seenM 0 (PK 43 0 18 0) st) st.dfs st.nt K := by
  rcases rl43_18_0 (seenV (PK 43 0 18 0) st) (seenM 0 (PK 43 0 18 0) st) st.dfs st.nt with h | ⟨a1, a2, a3, h1, h2, h3, h4⟩
  · exact ⟨fun _ _ => h .., .inl fun _ _ => h ..⟩
  · obtain ⟨a3_0, a3_1, a3_2⟩ := a3; refine ⟨fun ρ K => by rw [h1, h2, h3, h4]; rfl, .inr ⟨bodyOf Tryz.prog 43 18, by kernel_rfl, fun ρ K => ?_⟩⟩
    rw [parkN, h1, h2, h3, h4]
    exact (gl43_18_0 (Tabs k) ρ K a1 a2 ⟨a3_0, a3_1, a3_2⟩).symm

theorem ul45_4_0 (k : Nat) (st : St sig) : UQ k 45 0 4 st fun j ρ K => Rl45_4_0 (Tabs j) ρ (seenV (PK 45 0 4 0) st) (seenM 0 (PK 45 0 4 0) st) st.dfs st.nt K := by
  rcases rl45_4_0 (seenV (PK 45 0 4 0) st) (seenM 0 (PK 45 0 4 0) st) st.dfs st.nt with h | ⟨a1, a2, a3, h1, h2, h3, h4⟩
  · exact ⟨fun _ _ => h .., .inl fun _ _ => h ..⟩
  · obtain ⟨a3_0, a3_1, a3_2⟩ := a3; refine ⟨fun ρ K => by rw [h1, h2, h3, h4]; rfl, .inr ⟨bodyOf Tryz.prog 45 4, by kernel_rfl, fun ρ K => ?_⟩⟩
    rw [parkN, h1, h2, h3, h4]
    exact (gl45_4_0 (Tabs k) ρ K a1 a2 ⟨a3_0, a3_1, a3_2⟩).symm

theorem ul46_9_0 (k : Nat) (st : St sig) : UQ k 46 0 9 st fun j ρ K => Rl46_9_0 (Tabs j) ρ (seenV (PK 46 0 9 0) st) (seenM 0 (PK 46 0 9 0) st) st.dfs st.nt K := by
  rcases rl46_9_0 (seenV (PK 46 0 9 0) st) (seenM 0 (PK 46 0 9 0) st) st.dfs st.nt with h | ⟨a1, a2, a3, a4, a5, a6, a7, a8, a9, a10, h1, h2, h3, h4⟩
  · exact ⟨fun _ _ => h .., .inl fun _ _ => h ..⟩
  · obtain ⟨a7_0, a7_1, a7_2⟩ := a7; obtain ⟨a8_0, a8_1, a8_2⟩ := a8; obtain ⟨a9_0, a9_1, a9_2⟩ := a9; obtain ⟨a10_0, a10_1, a10_2⟩ := a10; refine ⟨fun ρ K => by rw [h1, h2, h3, h4]; rfl, .inr ⟨bodyOf Tryz.prog 46 9, by kernel_rfl, fun ρ K => ?_⟩⟩
    rw [parkN, h1, h2, h3, h4]
    exact (gl46_9_0 (Tabs k) ρ K a1 a2 a3 a4 a5 a6 ⟨a7_0, a7_1, a7_2⟩ ⟨a8_0, a8_1, a8_2⟩ ⟨a9_0, a9_1, a9_2⟩ ⟨a10_0, a10_1, a10_2⟩).symm

theorem ul48_8_0 (k : Nat) (st : St sig) : UQ k 48 0 8 st fun j ρ K => Rl48_8_0 (Tabs j) ρ (seenV (PK 48 0 8 0) st) (seenM 0 (PK 48 0 8 0) st) st.dfs st.nt K := by
  rcases rl48_8_0 (seenV (PK 48 0 8 0) st) (seenM 0 (PK 48 0 8 0) st) st.dfs st.nt with h | ⟨a1, a2, a3, a4, a5, h1, h2, h3, h4⟩
  · exact ⟨fun _ _ => h .., .inl fun _ _ => h ..⟩
  · refine ⟨fun ρ K => by rw [h1, h2, h3, h4]; rfl, .inr ⟨bodyOf Tryz.prog 48 8, by kernel_rfl, fun ρ K => ?_⟩⟩
    rw [parkN, h1, h2, h3, h4]
    exact (gl48_8_0 (Tabs k) ρ K a1 a2 a3 a4 a5).symm

theorem ul49_4_0 (k : Nat) (st : St sig) : UQ k 49 0 4 st fun j ρ K => Rl49_4_0 (Tabs j) ρ (seenV (PK 49 0 4 0) st) (seenM 0 (PK 49 0 4 0) st) st.dfs st.nt K := by
  rcases rl49_4_0 (seenV (PK 49 0 4 0) st) (seenM 0 (PK 49 0 4 0) st) st.dfs st.nt with h | ⟨a1, a2, a3, a4, h1, h2, h3, h4⟩
  · exact ⟨fun _ _ => h .., .inl fun _ _ => h ..⟩
  · refine ⟨fun ρ K => by rw [h1, h2, h3, h4]; rfl, .inr ⟨bodyOf Tryz.prog 49 4, by kernel_rfl, fun ρ K => ?_⟩⟩
    rw [parkN, h1, h2, h3, h4]
    exact (gl49_4_0 (Tabs k) ρ K a1 a2 a3 a4).symm

theorem ul65_0_0 (k : Nat) (st : St sig) : UQ k 65 1 0 st fun j ρ K => Rl65_0_0 (Tabs j) ρ (seenV (PK 65 1 0 0) st) (seenM 1 (PK 65 1 0 0) st) st.dfs st.nt K := by
  rcases rl65_0_0 (seenV (PK 65 1 0 0) st) (seenM 1 (PK 65 1 0 0) st) st.dfs st.nt with h | ⟨a1, a2, h1, h2, h3, h4⟩
  · exact ⟨fun _ _ => h .., .inl fun _ _ => h ..⟩
  · refine ⟨fun ρ K => by rw [h1, h2, h3, h4]; rfl, .inr ⟨bodyOf Tryz.prog 65 0, by kernel_rfl, fun ρ K => ?_⟩⟩
    rw [parkN, h1, h2, h3, h4]
    exact (gl65_0_0 (Tabs k) ρ K a1 a2).symm

theorem ul69_2_0 (k : Nat) (st : St sig) : UQ k 69 1 2 st fun j ρ K => Rl69_2_0 (Tabs j) ρ (seenV (PK 69 1 2 0) st) (seenM 1 (PK 69 1 2 0) st) st.dfs st.nt K := by
  rcases rl69_2_0 (seenV (PK 69 1 2 0) st) (seenM 1 (PK 69 1 2 0) st) st.dfs st.nt with h | ⟨a1, a2, a3, a4, h1, h2, h3, h4⟩
  · exact ⟨fun _ _ => h .., .inl fun _ _ => h ..⟩
  · obtain ⟨a3_0, a3_1, a3_2⟩ := a3; obtain ⟨a4_0, a4_1, a4_2⟩ := a4; refine ⟨fun ρ K => by rw [h1, h2, h3, h4]; rfl, .inr ⟨bodyOf Tryz.prog 69 2, by kernel_rfl, fun ρ K => ?_⟩⟩
    rw [parkN, h1, h2, h3, h4]
    exact (gl69_2_0 (Tabs k) ρ K a1 a2 ⟨a3_0, a3_1, a3_2⟩ ⟨a4_0, a4_1, a4_2⟩).symm

theorem ul70_20_0 (k : Nat) (st : St sig) : UQ k 70 1 20 st fun j ρ K => Rl70_20_0 (Tabs j) ρ (seenV (PK 70 1 20 0) st) (seenM 1 (PK 70 1 20 0) st) st.dfs st.nt K := by
  rcases rl70_20_0 (seenV (PK 70 1 20 0) st) (seenM 1 (PK 70 1 20 0) st) st.dfs st.nt with h | ⟨a1, a2, a3, a4, a5, h1, h2, h3, h4⟩
  · exact ⟨fun _ _ => h .., .inl fun _ _ => h ..⟩
  · refine ⟨fun ρ K => by rw [h1, h2, h3, h4]; rfl, .inr ⟨bodyOf Tryz.prog 70 20, by kernel_rfl, fun ρ K => ?_⟩⟩
    rw [parkN, h1, h2, h3, h4]
    exact (gl70_20_0 (Tabs k) ρ K a1 a2 a3 a4 a5).symm

theorem ul81_1_0 (k : Nat) (st : St sig) : UQ k 81 2 1 st fun j ρ K => Rl81_1_0 (Tabs j) ρ (seenV (PK 81 2 1 0) st) (seenM 2 (PK 81 2 1 0) st) st.dfs st.nt K := by
  rcases rl81_1_0 (seenV (PK 81 2 1 0) st) (seenM 2 (PK 81 2 1 0) st) st.dfs st.nt with h | ⟨a1, a2, a3, a4, h1, h2, h3, h4⟩
  · exact ⟨fun _ _ => h .., .inl fun _ _ => h ..⟩
  · refine ⟨fun ρ K => by rw [h1, h2, h3, h4]; rfl, .inr ⟨bodyOf Tryz.prog 81 1, by kernel_rfl, fun ρ K => ?_⟩⟩
    rw [parkN, h1, h2, h3, h4]
    exact (gl81_1_0 (Tabs k) ρ K a1 a2 a3 a4).symm

theorem ul83_1_0 (k : Nat) (st : St sig) : UQ k 83 0 1 st fun j ρ K => Rl83_1_0 (Tabs j) ρ (seenV (PK 83 0 1 0) st) (seenM 0 (PK 83 0 1 0) st) st.dfs st.nt K := by
  rcases rl83_1_0 (seenV (PK 83 0 1 0) st) (seenM 0 (PK 83 0 1 0) st) st.dfs st.nt with h | ⟨a1, a2, h1, h2, h3, h4⟩
  · exact ⟨fun _ _ => h .., .inl fun _ _ => h ..⟩
  · refine ⟨fun ρ K => by rw [h1, h2, h3, h4]; rfl, .inr ⟨bodyOf Tryz.prog 83 1, by kernel_rfl, fun ρ K => ?_⟩⟩
    rw [parkN, h1, h2, h3, h4]
    exact (gl83_1_0 (Tabs k) ρ K a1 a2).symm

theorem ul84_2_0 (k : Nat) (st : St sig) : UQ k 84 0 2 st fun j ρ K => Rl84_2_0 (Tabs j) ρ (seenV (PK 84 0 2 0) st) (seenM 0 (PK 84 0 2 0) st) st.dfs st.nt K := by
  rcases rl84_2_0 (seenV (PK 84 0 2 0) st) (seenM 0 (PK 84 0 2 0) st) st.dfs st.nt with h | ⟨a1, a2, a3, a4, h1, h2, h3, h4⟩
  · exact ⟨fun _ _ => h .., .inl fun _ _ => h ..⟩
  · refine ⟨fun ρ K => by rw [h1, h2, h3, h4]; rfl, .inr ⟨bodyOf Tryz.prog 84 2, by kernel_rfl, fun ρ K => ?_⟩⟩
    rw [parkN, h1, h2, h3, h4]
    exact (gl84_2_0 (Tabs k) ρ K a1 a2 a3 a4).symm

theorem ul86_2_0 (k : Nat) (st : St sig) : UQ k 86 0 2 st fun j ρ K => Rl86_2_0 (Tabs j) ρ (seenV (PK 86 0 2 0) st) (seenM 0 (PK 86 0 2 0) st) st.dfs st.nt K := by
  rcases rl86_2_0 (seenV (PK 86 0 2 0) st) (seenM 0 (PK 86 0 2 0) st) st.dfs st.nt with h | ⟨a1, a2, h1, h2, h3, h4⟩
  · exact ⟨fun _ _ => h .., .inl fun _ _ => h ..⟩
  · refine ⟨fun ρ K => by rw [h1, h2, h3, h4]; rfl, .inr ⟨bodyOf Tryz.prog 86 2, by kernel_rfl, fun ρ K => ?_⟩⟩
    rw [parkN, h1, h2, h3, h4]
    exact (gl86_2_0 (Tabs k) ρ K a1 a2).symm

theorem ul92_4_0 (k : Nat) (st : St sig) : UQ k 92 0 4 st fun j ρ K => Rl92_4_0 (Tabs j) ρ (seenV (PK 92 0 4 0) st) (seenM 0 (PK 92 0 4 0) st) st.dfs st.nt K := by
  rcases rl92_4_0 (seenV (PK 92 0 4 0) st) (seenM 0 (PK 92 0 4 0) st) st.dfs st.nt with h | ⟨a1, a2, a3, h1, h2, h3, h4⟩
  · exact ⟨fun _ _ => h .., .inl fun _ _ => h ..⟩
  · refine ⟨fun ρ K => by rw [h1, h2, h3, h4]; rfl, .inr ⟨bodyOf Tryz.prog 92 4, by kernel_rfl, fun ρ K => ?_⟩⟩
    rw [parkN, h1, h2, h3, h4]
    exact (gl92_4_0 (Tabs k) ρ K a1 a2 a3).symm

theorem ul106_2_0 (k : Nat) (st : St sig) : UQ k 106 1 2 st fun j ρ K => Rl106_2_0 (Tabs j) ρ (seenV (PK 106 1 2 0) st) (seenM 1 (PK 106 1 2 0) st) st.dfs st.nt K := by
  rcases rl106_2_0 (seenV (PK 106 1 2 0) st) (seenM 1 (PK 106 1 2 0) st) st.dfs st.nt with h | ⟨a1, a2, a3, a4, h1, h2, h3, h4⟩
  · exact ⟨fun _ _ => h .., .inl fun _ _ => h ..⟩
  · refine ⟨fun ρ K => by rw [h1, h2, h3, h4]; rfl, .inr ⟨bodyOf Tryz.prog 106 2, by kernel_rfl, fun ρ K => ?_⟩⟩
    rw [parkN, h1, h2, h3, h4]
    exact (gl106_2_0 (Tabs k) ρ K a1 a2 a3 a4).symm

theorem ul126_2_0 (k : Nat) (st : St sig) : UQ k 126 0 2 st fun j ρ K => Rl126_2_0 (Tabs j) ρ (seenV (PK 126 0 2 0) st) (seenM 0 (PK 126 0 2 0) st) st.dfs st.nt K := by
  rcases rl126_2_0 (seenV (PK 126 0 2 0) st) (seenM 0 (PK 126 0 2 0) st) st.dfs st.nt with h | ⟨a1, a2, a3, a4, h1, h2, h3, h4⟩
  · exact ⟨fun _ _ => h .., .inl fun _ _ => h ..⟩
  · refine ⟨fun ρ K => by rw [h1, h2, h3, h4]; rfl, .inr ⟨bodyOf Tryz.prog 126 2, by kernel_rfl, fun ρ K => ?_⟩⟩
    rw [parkN, h1, h2, h3, h4]
    exact (gl126_2_0 (Tabs k) ρ K a1 a2 a3 a4).symm

theorem ul128_14_0 (k : Nat) (st : St sig) : UQ k 128 0 14 st fun j ρ K => Rl128_14_0 (Tabs j) ρ (seenV (PK 128 0 14 0) st) (seenM 0 (PK 128 0 14 0) st) st.dfs st.nt K := by
  rcases rl128_14_0 (seenV (PK 128 0 14 0) st) (seenM 0 (PK 128 0 14 0) st) st.dfs st.nt with h | ⟨a1, a2, a3, a4, h1, h2, h3, h4⟩
  · exact ⟨fun _ _ => h .., .inl fun _ _ => h ..⟩
  · obtain ⟨a4_0, a4_1, a4_2⟩ := a4; refine ⟨fun ρ K => by rw [h1, h2, h3, h4]; rfl, .inr ⟨bodyOf Tryz.prog 128 14, by kernel_rfl, fun ρ K => ?_⟩⟩
    rw [parkN, h1, h2, h3, h4]
    exact (gl128_14_0 (Tabs k) ρ K a1 a2 a3 ⟨a4_0, a4_1, a4_2⟩).symm

theorem ul133_2_0 (k : Nat) (st : St sig) : UQ k 133 0 2 st fun j ρ K => Rl133_2_0 (Tabs j) ρ (seenV (PK 133 0 2 0) st) (seenM 0 (PK 133 0 2 0) st) st.dfs st.nt K := by
  rcases rl133_2_0 (seenV (PK 133 0 2 0) st) (seenM 0 (PK 133 0 2 0) st) st.dfs st.nt with h | ⟨a1, a2, a3, a4, h1, h2, h3, h4⟩
  · exact ⟨fun _ _ => h .., .inl fun _ _ => h ..⟩
  · refine ⟨fun ρ K => by rw [h1, h2, h3, h4]; rfl, .inr ⟨bodyOf Tryz.prog 133 2, by kernel_rfl, fun ρ K => ?_⟩⟩
    rw [parkN, h1, h2, h3, h4]
    exact (gl133_2_0 (Tabs k) ρ K a1 a2 a3 a4).symm

theorem tL (k f np key : Nat) (st : St sig) : UQ k f np key st fun j ρ K => LT (Tabs j) ρ f np key st K := by
  unfold LT
  exact dL (ul5_10_0 k st) <|
    dL (ul10_4_0 k st) <|
    dL (ul17_2_0 k st) <|
    dL (ul18_4_0 k st) <|
    dL (ul19_4_0 k st) <|
    dL (ul28_6_0 k st) <|
    dL (ul30_4_0 k st) <|
    dL (ul39_3_0 k st) <|
    dL (ul40_23_0 k st) <|
    dL (ul40_23_1 k st) <|
    dL (ul41_3_0 k st) <|
    dL (ul42_3_0 k st) <|
    dL (ul43_18_0 k st) <|
    dL (ul45_4_0 k st) <|
    dL (ul46_9_0 k st) <|
    dL (ul48_8_0 k st) <|
    dL (ul49_4_0 k st) <|
    dL (ul65_0_0 k st) <|
    dL (ul69_2_0 k st) <|
    dL (ul70_20_0 k st) <|
    dL (ul81_1_0 k st) <|
    dL (ul83_1_0 k st) <|
    dL (ul84_2_0 k st) <|
    dL (ul86_2_0 k st) <|
    dL (ul92_4_0 k st) <|
    dL (ul106_2_0 k st) <|
    dL (ul126_2_0 k st) <|
    dL (ul128_14_0 k st) <|
    dL (ul133_2_0 k st) ⟨fun _ _ => rfl, .inl fun _ _ => rfl⟩

theorem levels : Levels Tryz.prog lay hints dfT PK (fun k => T (Tabs k)) (fun k => LT (Tabs k)) where
  t0 ρ f args m K := (tT 0 f args m).1 ρ K
  l0 ρ f np key st K := (tL 0 f np key st).1 ρ K
  t k f args m := (tT k f args m).2
  l k f np key st := (tL k f np key st).2

end Go.Proofs.YtanfoijdfcnpoaaGreatDoor.Ev
