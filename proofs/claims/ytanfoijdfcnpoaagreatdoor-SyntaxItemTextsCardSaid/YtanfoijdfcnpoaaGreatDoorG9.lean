/- This file proves that the tables of typed functions are sound; without any condition. -/
import Derived.Test.YtanfoijdfcnpoaaGreatDoorI4
import Derived.Test.YtanfoijdfcnpoaaGreatDoorU1J
import Derived.Test.YtanfoijdfcnpoaaGreatDoorG2
import Derived.Test.YtanfoijdfcnpoaaGreatDoorG3
import Derived.Test.YtanfoijdfcnpoaaGreatDoorG4
import Derived.Test.YtanfoijdfcnpoaaGreatDoorG5
import Derived.Test.YtanfoijdfcnpoaaGreatDoorG6
set_option maxRecDepth 8000
set_option linter.unusedVariables false
set_option linter.unusedSimpArgs false
namespace Go.Proofs.YtanfoijdfcnpoaaGreatDoor.Ev

/-- What is shown of a function at a level, and at the first one. -/
abbrev TQ (k f : Nat) (args : List (PV sig)) (m : Mem sig) (t : Nat → (ρ : Type) → (Res sig × Mem sig → Option ρ) → Option ρ) : Prop :=
  (∀ ρ K, t 0 ρ K = none) ∧ ((∀ ρ K, t (k + 1) ρ K = none) ∨ (∀ ρ K, t (k + 1) ρ K = evF Tryz.prog lay (T (Tabs k)) (LT (Tabs k)) hints dfT f args m K) ∨
    (Snd Tryz.prog lay (T (Tabs k)) (LT (Tabs k)) → (∀ ρ K, t (k + 1) ρ K = none) ∨ ∃ r, CallOk Tryz.prog lay f args m r ∧ ∀ ρ K, t (k + 1) ρ K = K r))

theorem dT {k f n : Nat} {args : List (PV sig)} {m : Mem sig} {A B : Nat → (ρ : Type) → (Res sig × Mem sig → Option ρ) → Option ρ} (h1 : TQ k n args m A) (h2 : TQ k f args m B) : TQ k f args m fun j ρ K => bif Nat.beq f n then A j ρ K else B j ρ K := by
  cases hc : Nat.beq f n with
  | true => rw [Nat.eq_of_beq_eq_true hc]; exact h1
  | false => exact h2

/-- What is shown of a loop. -/
abbrev UQ (k f np key : Nat) (st : St sig) (t : Nat → (ρ : Type) → (Ex sig → St sig → Option ρ) → Option ρ) : Prop :=
  (∀ ρ K, t 0 ρ K = none) ∧ ((∀ ρ K, t (k + 1) ρ K = none) ∨ ∃ c, loopOf Tryz.prog f key = some c ∧ ∀ ρ K, t (k + 1) ρ K = evK Tryz.prog lay (T (Tabs k)) (LT (Tabs k)) hints f np c (parkE PK f np key .normal st) (loopNext (LT (Tabs k)) PK f np key K))

theorem dL {k f np key f' np' key' : Nat} {st : St sig} {A B : Nat → (ρ : Type) → (Ex sig → St sig → Option ρ) → Option ρ} (h1 : UQ k f' np' key' st A) (h2 : UQ k f np key st B) : UQ k f np key st fun j ρ K => bif Nat.beq f f' && (Nat.beq np np' && Nat.beq key key') then A j ρ K else B j ρ K := by
  cases hc : Nat.beq f f' && (Nat.beq np np' && Nat.beq key key') with
  | true => simp only [Bool.and_eq_true] at hc; rw [Nat.eq_of_beq_eq_true hc.1, Nat.eq_of_beq_eq_true hc.2.1, Nat.eq_of_beq_eq_true hc.2.2]; exact h1
  | false => exact h2

theorem parkN (f np key : Nat) (st : St sig) : parkE PK f np key (.normal : Ex sig) st = canon ((PK f np key 0).1.map (·.1)) (seenV (PK f np key 0) st) (seenM np (PK f np key 0) st) st.dfs st.nt := park_seen ..

theorem t7 (k : Nat) (args : List (PV sig)) (m : Mem sig) : TQ k 7 args m fun j ρ K => T7 (Tabs j) ρ args m K := by
  rcases rc7_0 args m with h | ⟨a1, rfl, rfl⟩
  · exact ⟨fun _ _ => h .., .inl fun _ _ => h ..⟩
  · obtain ⟨a1_0, a1_1, ⟨a1_2, a1_3, a1_4⟩, a1_5⟩ := a1; exact ⟨fun _ _ => rfl, .inr (.inl fun ρ K => (gc7_0 (Tabs k) ρ K ⟨a1_0, a1_1, ⟨a1_2, a1_3, a1_4⟩, a1_5⟩).symm)⟩

theorem t8 (k : Nat) (args : List (PV sig)) (m : Mem sig) : TQ k 8 args m fun j ρ K => T8 (Tabs j) ρ args m K := by
  rcases rc8_0 args m with h | ⟨a1, rfl, rfl⟩
  · exact ⟨fun _ _ => h .., .inl fun _ _ => h ..⟩
  · exact ⟨fun _ _ => rfl, .inr (.inl fun ρ K => (gc8_0 (Tabs k) ρ K a1).symm)⟩

theorem t10 (k : Nat) (args : List (PV sig)) (m : Mem sig) : TQ k 10 args m fun j ρ K => T10 (Tabs j) ρ args m K := by
  rcases rc10_0 args m with h | ⟨a1, a2, rfl, rfl⟩
  · exact ⟨fun _ _ => h .., .inl fun _ _ => h ..⟩
  · obtain ⟨a1_0, a1_1, a1_2⟩ := a1; obtain ⟨a2_0, a2_1, a2_2⟩ := a2; exact ⟨fun _ _ => rfl, .inr (.inl fun ρ K => (gc10_0 (Tabs k) ρ K ⟨a1_0, a1_1, a1_2⟩ ⟨a2_0, a2_1, a2_2⟩).symm)⟩

theorem t11 (k : Nat) (args : List (PV sig)) (m : Mem sig) : TQ k 11 args m fun j ρ K => T11 (Tabs j) ρ args m K := by
  rcases rc11_0 args m with h | ⟨rfl, rfl⟩
  · exact ⟨fun _ _ => h .., .inl fun _ _ => h ..⟩
  · exact ⟨fun _ _ => rfl, .inr (.inl fun ρ K => (gc11_0 (Tabs k) ρ K).symm)⟩

theorem t13 (k : Nat) (args : List (PV sig)) (m : Mem sig) : TQ k 13 args m fun j ρ K => T13 (Tabs j) ρ args m K := by
  rcases rc13_0 args m with h | ⟨a1, rfl, rfl⟩
  · exact ⟨fun _ _ => h .., .inl fun _ _ => h ..⟩
  · obtain ⟨a1_0, a1_1, a1_2⟩ := a1; exact ⟨fun _ _ => rfl, .inr (.inl fun ρ K => (gc13_0 (Tabs k) ρ K ⟨a1_0, a1_1, a1_2⟩).symm)⟩

theorem t14 (k : Nat) (args : List (PV sig)) (m : Mem sig) : TQ k 14 args m fun j ρ K => T14 (Tabs j) ρ args m K := by
  rcases rc14_0 args m with h | ⟨a1, rfl, rfl⟩
  · exact ⟨fun _ _ => h .., .inl fun _ _ => h ..⟩
  · exact ⟨fun _ _ => rfl, .inr (.inl fun ρ K => (gc14_0 (Tabs k) ρ K a1).symm)⟩

theorem t21 (k : Nat) (args : List (PV sig)) (m : Mem sig) : TQ k 21 args m fun j ρ K => T21 (Tabs j) ρ args m K := by
  rcases rc21_0 args m with h | ⟨a1, rfl, rfl⟩
  · exact ⟨fun _ _ => h .., .inl fun _ _ => h ..⟩
  · exact ⟨fun _ _ => rfl, .inr (.inr fun hS => told21 k hS a1)⟩

theorem t23 (k : Nat) (args : List (PV sig)) (m : Mem sig) : TQ k 23 args m fun j ρ K => T23 (Tabs j) ρ args m K := by
  rcases rc23_0 args m with h | ⟨a1, a2, rfl, rfl⟩
  · exact ⟨fun _ _ => h .., .inl fun _ _ => h ..⟩
  · obtain ⟨a1_0, a1_1, ⟨a1_2, a1_3, a1_4⟩, a1_5⟩ := a1; obtain ⟨a2_0, a2_1, ⟨a2_2, a2_3, a2_4⟩, a2_5⟩ := a2; exact ⟨fun _ _ => rfl, .inr (.inl fun ρ K => (gc23_0 (Tabs k) ρ K ⟨a1_0, a1_1, ⟨a1_2, a1_3, a1_4⟩, a1_5⟩ ⟨a2_0, a2_1, ⟨a2_2, a2_3, a2_4⟩, a2_5⟩).symm)⟩

theorem t24 (k : Nat) (args : List (PV sig)) (m : Mem sig) : TQ k 24 args m fun j ρ K => T24 (Tabs j) ρ args m K := by
  rcases rc24_0 args m with h | ⟨a1, rfl, rfl⟩
  · exact ⟨fun _ _ => h .., .inl fun _ _ => h ..⟩
  · obtain ⟨a1_0, a1_1, ⟨a1_2, a1_3, a1_4⟩, a1_5⟩ := a1; exact ⟨fun _ _ => rfl, .inr (.inl fun ρ K => (gc24_0 (Tabs k) ρ K ⟨a1_0, a1_1, ⟨a1_2, a1_3, a1_4⟩, a1_5⟩).symm)⟩

theorem t25 (k : Nat) (args : List (PV sig)) (m : Mem sig) : TQ k 25 args m fun j ρ K => T25 (Tabs j) ρ args m K := by
  rcases rc25_0 args m with h | ⟨a1, rfl, rfl⟩
  · exact ⟨fun _ _ => h .., .inl fun _ _ => h ..⟩
  · obtain ⟨a1_0, a1_1, ⟨a1_2, a1_3, a1_4⟩, a1_5⟩ := a1; exact ⟨fun _ _ => rfl, .inr (.inl fun ρ K => (gc25_0 (Tabs k) ρ K ⟨a1_0, a1_1, ⟨a1_2, a1_3, a1_4⟩, a1_5⟩).symm)⟩

theorem t26 (k : Nat) (args : List (PV sig)) (m : Mem sig) : TQ k 26 args m fun j ρ K => T26 (Tabs j) ρ args m K := by
  rcases rc26_0 args m with h | ⟨a1, rfl, rfl⟩
  · exact ⟨fun _ _ => h .., .inl fun _ _ => h ..⟩
  · obtain ⟨a1_0, a1_1, ⟨a1_2, a1_3, a1_4⟩, a1_5⟩ := a1; exact ⟨fun _ _ => rfl, .inr (.inl fun ρ K => (gc26_0 (Tabs k) ρ K ⟨a1_0, a1_1, ⟨a1_2, a1_3, a1_4⟩, a1_5⟩).symm)⟩

theorem t27 (k : Nat) (args : List (PV sig)) (m : Mem sig) : TQ k 27 args m fun j ρ K => T27 (Tabs j) ρ args m K := by
  rcases rc27_0 args m with h | ⟨a1, rfl, rfl⟩
  · exact ⟨fun _ _ => h .., .inl fun _ _ => h ..⟩
  · obtain ⟨a1_0, a1_1, ⟨a1_2, a1_3, a1_4⟩, a1_5⟩ := a1; exact ⟨fun _ _ => rfl, .inr (.inl fun ρ K => (gc27_0 (Tabs k) ρ K ⟨a1_0, a1_1, ⟨a1_2, a1_3, a1_4⟩, a1_5⟩).symm)⟩

theorem t28 (k : Nat) (args : List (PV sig)) (m : Mem sig) : TQ k 28 args m fun j ρ K => T28 (Tabs j) ρ args m K := by
  rcases rc28_0 args m with h | ⟨a1, rfl, rfl⟩
  · exact ⟨fun _ _ => h .., .inl fun _ _ => h ..⟩
  · exact ⟨fun _ _ => rfl, .inr (.inl fun ρ K => (gc28_0 (Tabs k) ρ K a1).symm)⟩

theorem t30 (k : Nat) (args : List (PV sig)) (m : Mem sig) : TQ k 30 args m fun j ρ K => T30 (Tabs j) ρ args m K := by
  rcases rc30_0 args m with h | ⟨a1, a2, rfl, rfl⟩
  · exact ⟨fun _ _ => h .., .inl fun _ _ => h ..⟩
  · exact ⟨fun _ _ => rfl, .inr (.inl fun ρ K => (gc30_0 (Tabs k) ρ K a1 a2).symm)⟩

theorem t31 (k : Nat) (args : List (PV sig)) (m : Mem sig) : TQ k 31 args m fun j ρ K => T31 (Tabs j) ρ args m K := by
  rcases rc31_0 args m with h | ⟨a1, a2, rfl, rfl⟩
  · exact ⟨fun _ _ => h .., .inl fun _ _ => h ..⟩
  · exact ⟨fun _ _ => rfl, .inr (.inl fun ρ K => (gc31_0 (Tabs k) ρ K a1 a2).symm)⟩

theorem t32 (k : Nat) (args : List (PV sig)) (m : Mem sig) : TQ k 32 args m fun j ρ K => T32 (Tabs j) ρ args m K := by
  rcases rc32_0 args m with h | ⟨a1, a2, rfl, rfl⟩
  · exact ⟨fun _ _ => h .., .inl fun _ _ => h ..⟩
  · exact ⟨fun _ _ => rfl, .inr (.inl fun ρ K => (gc32_0 (Tabs k) ρ K a1 a2).symm)⟩

theorem t33 (k : Nat) (args : List (PV sig)) (m : Mem sig) : TQ k 33 args m fun j ρ K => T33 (Tabs j) ρ args m K := by
  rcases rc33_0 args m with h | ⟨a1, rfl, rfl⟩
  · exact ⟨fun _ _ => h .., .inl fun _ _ => h ..⟩
  · obtain ⟨a1_0, a1_1, a1_2⟩ := a1; exact ⟨fun _ _ => rfl, .inr (.inl fun ρ K => (gc33_0 (Tabs k) ρ K ⟨a1_0, a1_1, a1_2⟩).symm)⟩

theorem t37 (k : Nat) (args : List (PV sig)) (m : Mem sig) : TQ k 37 args m fun j ρ K => T37 (Tabs j) ρ args m K := by
  rcases rc37_0 args m with h | ⟨a1, rfl, rfl⟩
  · exact ⟨fun _ _ => h .., .inl fun _ _ => h ..⟩
  · obtain ⟨a1_0, a1_1, a1_2⟩ := a1; exact ⟨fun _ _ => rfl, .inr (.inl fun ρ K => (gc37_0 (Tabs k) ρ K ⟨a1_0, a1_1, a1_2⟩).symm)⟩

theorem t38 (k : Nat) (args : List (PV sig)) (m : Mem sig) : TQ k 38 args m fun j ρ K => T38 (Tabs j) ρ args m K := by
  rcases rc38_0 args m with h | ⟨a1, rfl, rfl⟩
  · exact ⟨fun _ _ => h .., .inl fun _ _ => h ..⟩
  · exact ⟨fun _ _ => rfl, .inr (.inl fun ρ K => (gc38_0 (Tabs k) ρ K a1).symm)⟩

theorem t42 (k : Nat) (args : List (PV sig)) (m : Mem sig) : TQ k 42 args m fun j ρ K => T42 (Tabs j) ρ args m K := by
  rcases rc42_0 args m with h | ⟨a1, a2, rfl, rfl⟩
  · exact ⟨fun _ _ => h .., .inl fun _ _ => h ..⟩
  · obtain ⟨a1_0, a1_1, a1_2⟩ := a1; exact ⟨fun _ _ => rfl, .inr (.inl fun ρ K => (gc42_0 (Tabs k) ρ K ⟨a1_0, a1_1, a1_2⟩ a2).symm)⟩

theorem t43 (k : Nat) (args : List (PV sig)) (m : Mem sig) : TQ k 43 args m fun j ρ K => T43 (Tabs j) ρ args m K := by
  rcases rc43_0 args m with h | ⟨a1, a2, rfl, rfl⟩
  · exact ⟨fun _ _ => h .., .inl fun _ _ => h ..⟩
  · obtain ⟨a1_0, a1_1, a1_2⟩ := a1; exact ⟨fun _ _ => rfl, .inr (.inl fun ρ K => (gc43_0 (Tabs k) ρ K ⟨a1_0, a1_1, a1_2⟩ a2).symm)⟩

theorem t44 (k : Nat) (args : List (PV sig)) (m : Mem sig) : TQ k 44 args m fun j ρ K => T44 (Tabs j) ρ args m K := by
  rcases rc44_0 args m with h | ⟨a1, rfl, rfl⟩
  · exact ⟨fun _ _ => h .., .inl fun _ _ => h ..⟩
  · exact ⟨fun _ _ => rfl, .inr (.inl fun ρ K => (gc44_0 (Tabs k) ρ K a1).symm)⟩

theorem t51 (k : Nat) (args : List (PV sig)) (m : Mem sig) : TQ k 51 args m fun j ρ K => T51 (Tabs j) ρ args m K := by
  rcases rc51_0 args m with h | ⟨a1, a2, rfl, rfl⟩
  · exact ⟨fun _ _ => h .., .inl fun _ _ => h ..⟩
  · exact ⟨fun _ _ => rfl, .inr (.inl fun ρ K => (gc51_0 (Tabs k) ρ K a1 a2).symm)⟩

theorem t53 (k : Nat) (args : List (PV sig)) (m : Mem sig) : TQ k 53 args m fun j ρ K => T53 (Tabs j) ρ args m K := by
  rcases rc53_0 args m with h | ⟨a1, a2, rfl, rfl⟩
  · exact ⟨fun _ _ => h .., .inl fun _ _ => h ..⟩
  · obtain ⟨a1_0, a1_1, a1_2, a1_3, ⟨a1_4, a1_5, a1_6⟩, a1_7⟩ := a1; obtain ⟨a2_0, a2_1, a2_2, a2_3, ⟨a2_4, a2_5, a2_6⟩, a2_7⟩ := a2; exact ⟨fun _ _ => rfl, .inr (.inl fun ρ K => (gc53_0 (Tabs k) ρ K ⟨a1_0, a1_1, a1_2, a1_3, ⟨a1_4, a1_5, a1_6⟩, a1_7⟩ ⟨a2_0, a2_1, a2_2, a2_3, ⟨a2_4, a2_5, a2_6⟩, a2_7⟩).symm)⟩

theorem t54 (k : Nat) (args : List (PV sig)) (m : Mem sig) : TQ k 54 args m fun j ρ K => T54 (Tabs j) ρ args m K := by
  rcases rc54_0 args m with h | ⟨a1, rfl, rfl⟩
  · exact ⟨fun _ _ => h .., .inl fun _ _ => h ..⟩
  · exact ⟨fun _ _ => rfl, .inr (.inl fun ρ K => (gc54_0 (Tabs k) ρ K a1).symm)⟩

theorem t55 (k : Nat) (args : List (PV sig)) (m : Mem sig) : TQ k 55 args m fun j ρ K => T55 (Tabs j) ρ args m K := by
  rcases rc55_0 args m with h | ⟨a1, rfl, rfl⟩
  · exact ⟨fun _ _ => h .., .inl fun _ _ => h ..⟩
  · obtain ⟨a1_0, a1_1, a1_2⟩ := a1; exact ⟨fun _ _ => rfl, .inr (.inl fun ρ K => (gc55_0 (Tabs k) ρ K ⟨a1_0, a1_1, a1_2⟩).symm)⟩

theorem t56 (k : Nat) (args : List (PV sig)) (m : Mem sig) : TQ k 56 args m fun j ρ K => T56 (Tabs j) ρ args m K := by
  rcases rc56_0 args m with h | ⟨a1, a2, a3, rfl, rfl⟩
  · exact ⟨fun _ _ => h .., .inl fun _ _ => h ..⟩
  · obtain ⟨a1_0, a1_1, a1_2, a1_3, ⟨a1_4, a1_5, a1_6⟩, a1_7⟩ := a1; exact ⟨fun _ _ => rfl, .inr (.inl fun ρ K => (gc56_0 (Tabs k) ρ K ⟨a1_0, a1_1, a1_2, a1_3, ⟨a1_4, a1_5, a1_6⟩, a1_7⟩ a2 a3).symm)⟩

theorem t57 (k : Nat) (args : List (PV sig)) (m : Mem sig) : TQ k 57 args m fun j ρ K => T57 (Tabs j) ρ args m K := by
  rcases rc57_0 args m with h | ⟨a1, a2, rfl, rfl⟩
  · exact ⟨fun _ _ => h .., .inl fun _ _ => h ..⟩
  · obtain ⟨a1_0, a1_1, a1_2⟩ := a1; exact ⟨fun _ _ => rfl, .inr (.inl fun ρ K => (gc57_0 (Tabs k) ρ K ⟨a1_0, a1_1, a1_2⟩ a2).symm)⟩

theorem t58 (k : Nat) (args : List (PV sig)) (m : Mem sig) : TQ k 58 args m fun j ρ K => T58 (Tabs j) ρ args m K := by
  rcases rc58_0 args m with h | ⟨a1, rfl, rfl⟩
  · exact ⟨fun _ _ => h .., .inl fun _ _ => h ..⟩
  · exact ⟨fun _ _ => rfl, .inr (.inl fun ρ K => (gc58_0 (Tabs k) ρ K a1).symm)⟩

theorem t59 (k : Nat) (args : List (PV sig)) (m : Mem sig) : TQ k 59 args m fun j ρ K => T59 (Tabs j) ρ args m K := by
  rcases rc59_0 args m with h | ⟨a1, rfl, rfl⟩
  · exact ⟨fun _ _ => h .., .inl fun _ _ => h ..⟩
  · exact ⟨fun _ _ => rfl, .inr (.inl fun ρ K => (gc59_0 (Tabs k) ρ K a1).symm)⟩

theorem t60 (k : Nat) (args : List (PV sig)) (m : Mem sig) : TQ k 60 args m fun j ρ K => T60 (Tabs j) ρ args m K := by
  rcases rc60_0 args m with h | ⟨a1, rfl, rfl⟩
  · exact ⟨fun _ _ => h .., .inl fun _ _ => h ..⟩
  · obtain ⟨a1_0, a1_1, a1_2⟩ := a1; exact ⟨fun _ _ => rfl, .inr (.inl fun ρ K => (gc60_0 (Tabs k) ρ K ⟨a1_0, a1_1, a1_2⟩).symm)⟩

theorem t61 (k : Nat) (args : List (PV sig)) (m : Mem sig) : TQ k 61 args m fun j ρ K => T61 (Tabs j) ρ args m K := by
  rcases rc61_0 args m with h | ⟨a1, a2, rfl, rfl⟩
  · exact ⟨fun _ _ => h .., .inl fun _ _ => h ..⟩
  · exact ⟨fun _ _ => rfl, .inr (.inl fun ρ K => (gc61_0 (Tabs k) ρ K a1 a2).symm)⟩

theorem t62 (k : Nat) (args : List (PV sig)) (m : Mem sig) : TQ k 62 args m fun j ρ K => T62 (Tabs j) ρ args m K := by
  rcases rc62_0 args m with h | ⟨a1, a2, rfl, rfl⟩
  · exact ⟨fun _ _ => h .., .inl fun _ _ => h ..⟩
  · obtain ⟨a1_0, a1_1, a1_2, a1_3, ⟨a1_4, a1_5, a1_6⟩, a1_7⟩ := a1; exact ⟨fun _ _ => rfl, .inr (.inl fun ρ K => (gc62_0 (Tabs k) ρ K ⟨a1_0, a1_1, a1_2, a1_3, ⟨a1_4, a1_5, a1_6⟩, a1_7⟩ a2).symm)⟩

theorem t63 (k : Nat) (args : List (PV sig)) (m : Mem sig) : TQ k 63 args m fun j ρ K => T63 (Tabs j) ρ args m K := by
  rcases rc63_0 args m with h | ⟨a1, rfl, rfl⟩
  · exact ⟨fun _ _ => h .., .inl fun _ _ => h ..⟩
  · obtain ⟨a1_0, a1_1, a1_2⟩ := a1; exact ⟨fun _ _ => rfl, .inr (.inl fun ρ K => (gc63_0 (Tabs k) ρ K ⟨a1_0, a1_1, a1_2⟩).symm)⟩

theorem t64 (k : Nat) (args : List (PV sig)) (m : Mem sig) : TQ k 64 args m fun j ρ K => T64 (Tabs j) ρ args m K := by
  rcases rc64_0 args m with h | ⟨a1, rfl, rfl⟩
  · exact ⟨fun _ _ => h .., .inl fun _ _ => h ..⟩
  · obtain ⟨a1_0, a1_1, a1_2, a1_3, ⟨a1_4, a1_5, a1_6⟩, a1_7⟩ := a1; exact ⟨fun _ _ => rfl, .inr (.inl fun ρ K => (gc64_0 (Tabs k) ρ K ⟨a1_0, a1_1, a1_2, a1_3, ⟨a1_4, a1_5, a1_6⟩, a1_7⟩).symm)⟩

theorem t65 (k : Nat) (args : List (PV sig)) (m : Mem sig) : TQ k 65 args m fun j ρ K => T65 (Tabs j) ρ args m K := by
  rcases rc65_0 args m with h | ⟨a1, a2, rfl, rfl⟩
  · exact ⟨fun _ _ => h .., .inl fun _ _ => h ..⟩
  · exact ⟨fun _ _ => rfl, .inr (.inl fun ρ K => (gc65_0 (Tabs k) ρ K a1 a2).symm)⟩

theorem t66 (k : Nat) (args : List (PV sig)) (m : Mem sig) : TQ k 66 args m fun j ρ K => T66 (Tabs j) ρ args m K := by
  rcases rc66_0 args m with h | ⟨a1, rfl, rfl⟩
  · exact ⟨fun _ _ => h .., .inl fun _ _ => h ..⟩
  · exact ⟨fun _ _ => rfl, .inr (.inl fun ρ K => (gc66_0 (Tabs k) ρ K a1).symm)⟩

theorem t67 (k : Nat) (args : List (PV sig)) (m : Mem sig) : TQ k 67 args m fun j ρ K => T67 (Tabs j) ρ args m K := by
  rcases rc67_0 args m with h | ⟨a1, a2, a3, rfl, rfl⟩
  · exact ⟨fun _ _ => h .., .inl fun _ _ => h ..⟩
  · exact ⟨fun _ _ => rfl, .inr (.inl fun ρ K => (gc67_0 (Tabs k) ρ K a1 a2 a3).symm)⟩

theorem t68 (k : Nat) (args : List (PV sig)) (m : Mem sig) : TQ k 68 args m fun j ρ K => T68 (Tabs j) ρ args m K := by
  rcases rc68_0 args m with h | ⟨a1, a2, rfl, rfl⟩
  · exact ⟨fun _ _ => h .., .inl fun _ _ => h ..⟩
  · exact ⟨fun _ _ => rfl, .inr (.inl fun ρ K => (gc68_0 (Tabs k) ρ K a1 a2).symm)⟩

theorem t69 (k : Nat) (args : List (PV sig)) (m : Mem sig) : TQ k 69 args m fun j ρ K => T69 (Tabs j) ρ args m K := by
  rcases rc69_0 args m with h | ⟨a1, a2, rfl, rfl⟩
  · exact ⟨fun _ _ => h .., .inl fun _ _ => h ..⟩
  · exact ⟨fun _ _ => rfl, .inr (.inl fun ρ K => (gc69_0 (Tabs k) ρ K a1 a2).symm)⟩

theorem t70 (k : Nat) (args : List (PV sig)) (m : Mem sig) : TQ k 70 args m fun j ρ K => T70 (Tabs j) ρ args m K := by
  rcases rc70_0 args m with h | ⟨a1, a2, a3, rfl, rfl⟩
  · exact ⟨fun _ _ => h .., .inl fun _ _ => h ..⟩
  · obtain ⟨a1_0, a1_1, a1_2⟩ := a1; exact ⟨fun _ _ => rfl, .inr (.inl fun ρ K => (gc70_0 (Tabs k) ρ K ⟨a1_0, a1_1, a1_2⟩ a2 a3).symm)⟩

theorem t77 (k : Nat) (args : List (PV sig)) (m : Mem sig) : TQ k 77 args m fun j ρ K => T77 (Tabs j) ρ args m K := by
  rcases rc77_0 args m with h | ⟨a1, rfl, rfl⟩
  · exact ⟨fun _ _ => h .., .inl fun _ _ => h ..⟩
  · exact ⟨fun _ _ => rfl, .inr (.inl fun ρ K => (gc77_0 (Tabs k) ρ K a1).symm)⟩

theorem t78 (k : Nat) (args : List (PV sig)) (m : Mem sig) : TQ k 78 args m fun j ρ K => T78 (Tabs j) ρ args m K := by
  rcases rc78_0 args m with h | ⟨a1, a2, rfl, rfl⟩
  · exact ⟨fun _ _ => h .., .inl fun _ _ => h ..⟩
  · exact ⟨fun _ _ => rfl, .inr (.inl fun ρ K => (gc78_0 (Tabs k) ρ K a1 a2).symm)⟩

theorem t82 (k : Nat) (args : List (PV sig)) (m : Mem sig) : TQ k 82 args m fun j ρ K => T82 (Tabs j) ρ args m K := by
  rcases rc82_0 args m with h | ⟨a1, rfl, rfl⟩
  · exact ⟨fun _ _ => h .., .inl fun _ _ => h ..⟩
  · exact ⟨fun _ _ => rfl, .inr (.inl fun ρ K => (gc82_0 (Tabs k) ρ K a1).symm)⟩

theorem t83 (k : Nat) (args : List (PV sig)) (m : Mem sig) : TQ k 83 args m fun j ρ K => T83 (Tabs j) ρ args m K := by
  rcases rc83_0 args m with h | ⟨a1, a2, rfl, rfl⟩
  · exact ⟨fun _ _ => h .., .inl fun _ _ => h ..⟩
  · exact ⟨fun _ _ => rfl, .inr (.inl fun ρ K => (gc83_0 (Tabs k) ρ K a1 a2).symm)⟩

theorem t86 (k : Nat) (args : List (PV sig)) (m : Mem sig) : TQ k 86 args m fun j ρ K => T86 (Tabs j) ρ args m K := by
  rcases rc86_0 args m with h | ⟨a1, rfl, rfl⟩
  · exact ⟨fun _ _ => h .., .inl fun _ _ => h ..⟩
  · exact ⟨fun _ _ => rfl, .inr (.inl fun ρ K => (gc86_0 (Tabs k) ρ K a1).symm)⟩

theorem t88 (k : Nat) (args : List (PV sig)) (m : Mem sig) : TQ k 88 args m fun j ρ K => T88 (Tabs j) ρ args m K := by
  rcases rc88_0 args m with h | ⟨a1, a2, rfl, rfl⟩
  · exact ⟨fun _ _ => h .., .inl fun _ _ => h ..⟩
  · exact ⟨fun _ _ => rfl, .inr (.inl fun ρ K => (gc88_0 (Tabs k) ρ K a1 a2).symm)⟩

theorem t92 (k : Nat) (args : List (PV sig)) (m : Mem sig) : TQ k 92 args m fun j ρ K => T92 (Tabs j) ρ args m K := by
  unfold T92
  cases hc : Nat.beq (fnId (args.getD 1 .any)) 93 with
  | true =>
    simp only [cond_true]
    rcases rc92_0 args m with h | ⟨a1, rfl, rfl⟩
    · exact ⟨fun _ _ => h .., .inl fun _ _ => h ..⟩
    · exact ⟨fun _ _ => rfl, .inr (.inl fun ρ K => (gc92_0 (Tabs k) ρ K a1).symm)⟩
  | false =>
    simp only [cond_false]
    cases hc : Nat.beq (fnId (args.getD 1 .any)) 107 with
    | true =>
      simp only [cond_true]
      rcases rc92_1 args m with h | ⟨a1, rfl, rfl⟩
      · exact ⟨fun _ _ => h .., .inl fun _ _ => h ..⟩
      · exact ⟨fun _ _ => rfl, .inr (.inl fun ρ K => (gc92_1 (Tabs k) ρ K a1).symm)⟩
    | false =>
      simp only [cond_false]
      exact ⟨fun _ _ => rfl, .inl fun _ _ => rfl⟩

theorem t93 (k : Nat) (args : List (PV sig)) (m : Mem sig) : TQ k 93 args m fun j ρ K => T93 (Tabs j) ρ args m K := by
  rcases rc93_0 args m with h | ⟨a1, rfl, rfl⟩
  · exact ⟨fun _ _ => h .., .inl fun _ _ => h ..⟩
  · exact ⟨fun _ _ => rfl, .inr (.inl fun ρ K => (gc93_0 (Tabs k) ρ K a1).symm)⟩

theorem t94 (k : Nat) (args : List (PV sig)) (m : Mem sig) : TQ k 94 args m fun j ρ K => T94 (Tabs j) ρ args m K := by
  rcases rc94_0 args m with h | ⟨a1, a2, rfl, rfl⟩
  · exact ⟨fun _ _ => h .., .inl fun _ _ => h ..⟩
  · exact ⟨fun _ _ => rfl, .inr (.inl fun ρ K => (gc94_0 (Tabs k) ρ K a1 a2).symm)⟩

theorem t95 (k : Nat) (args : List (PV sig)) (m : Mem sig) : TQ k 95 args m fun j ρ K => T95 (Tabs j) ρ args m K := by
  rcases rc95_0 args m with h | ⟨a1, rfl, rfl⟩
  · exact ⟨fun _ _ => h .., .inl fun _ _ => h ..⟩
  · exact ⟨fun _ _ => rfl, .inr (.inr fun _ => (told95 a1).imp (fun h ρ K => h ρ K) fun ⟨r, h1, h2⟩ => ⟨r, h1, fun ρ K => h2 ρ K⟩)⟩

theorem t96 (k : Nat) (args : List (PV sig)) (m : Mem sig) : TQ k 96 args m fun j ρ K => T96 (Tabs j) ρ args m K := by
  rcases rc96_0 args m with h | ⟨a1, a2, rfl, rfl⟩
  · exact ⟨fun _ _ => h .., .inl fun _ _ => h ..⟩
  · exact ⟨fun _ _ => rfl, .inr (.inr fun _ => (told96 a1 a2).imp (fun h ρ K => h ρ K) fun ⟨r, h1, h2⟩ => ⟨r, h1, fun ρ K => h2 ρ K⟩)⟩

theorem t97 (k : Nat) (args : List (PV sig)) (m : Mem sig) : TQ k 97 args m fun j ρ K => T97 (Tabs j) ρ args m K := by
  rcases rc97_0 args m with h | ⟨a1, rfl, rfl⟩
  · exact ⟨fun _ _ => h .., .inl fun _ _ => h ..⟩
  · exact ⟨fun _ _ => rfl, .inr (.inl fun ρ K => (gc97_0 (Tabs k) ρ K a1).symm)⟩

theorem t98 (k : Nat) (args : List (PV sig)) (m : Mem sig) : TQ k 98 args m fun j ρ K => T98 (Tabs j) ρ args m K := by
  rcases rc98_0 args m with h | ⟨a1, a2, rfl, rfl⟩
  · exact ⟨fun _ _ => h .., .inl fun _ _ => h ..⟩
  · exact ⟨fun _ _ => rfl, .inr (.inl fun ρ K => (gc98_0 (Tabs k) ρ K a1 a2).symm)⟩

theorem t99 (k : Nat) (args : List (PV sig)) (m : Mem sig) : TQ k 99 args m fun j ρ K => T99 (Tabs j) ρ args m K := by
  rcases rc99_0 args m with h | ⟨a1, a2, rfl, rfl⟩
  · exact ⟨fun _ _ => h .., .inl fun _ _ => h ..⟩
  · exact ⟨fun _ _ => rfl, .inr (.inl fun ρ K => (gc99_0 (Tabs k) ρ K a1 a2).symm)⟩

theorem t100 (k : Nat) (args : List (PV sig)) (m : Mem sig) : TQ k 100 args m fun j ρ K => T100 (Tabs j) ρ args m K := by
  rcases rc100_0 args m with h | ⟨a1, rfl, rfl⟩
  · exact ⟨fun _ _ => h .., .inl fun _ _ => h ..⟩
  · obtain ⟨a1_0, a1_1, a1_2⟩ := a1; exact ⟨fun _ _ => rfl, .inr (.inl fun ρ K => (gc100_0 (Tabs k) ρ K ⟨a1_0, a1_1, a1_2⟩).symm)⟩

theorem t101 (k : Nat) (args : List (PV sig)) (m : Mem sig) : TQ k 101 args m fun j ρ K => T101 (Tabs j) ρ args m K := by
  rcases rc101_0 args m with h | ⟨a1, rfl, rfl⟩
  · exact ⟨fun _ _ => h .., .inl fun _ _ => h ..⟩
  · exact ⟨fun _ _ => rfl, .inr (.inl fun ρ K => (gc101_0 (Tabs k) ρ K a1).symm)⟩

theorem t102 (k : Nat) (args : List (PV sig)) (m : Mem sig) : TQ k 102 args m fun j ρ K => T102 (Tabs j) ρ args m K := by
  rcases rc102_0 args m with h | ⟨a1, a2, a3, rfl, rfl⟩
  · exact ⟨fun _ _ => h .., .inl fun _ _ => h ..⟩
  · exact ⟨fun _ _ => rfl, .inr (.inl fun ρ K => (gc102_0 (Tabs k) ρ K a1 a2 a3).symm)⟩

theorem t103 (k : Nat) (args : List (PV sig)) (m : Mem sig) : TQ k 103 args m fun j ρ K => T103 (Tabs j) ρ args m K := by
  rcases rc103_0 args m with h | ⟨a1, a2, rfl, rfl⟩
  · exact ⟨fun _ _ => h .., .inl fun _ _ => h ..⟩
  · exact ⟨fun _ _ => rfl, .inr (.inr fun _ => (told103 a1 a2).imp (fun h ρ K => h ρ K) fun ⟨r, h1, h2⟩ => ⟨r, h1, fun ρ K => h2 ρ K⟩)⟩

theorem t104 (k : Nat) (args : List (PV sig)) (m : Mem sig) : TQ k 104 args m fun j ρ K => T104 (Tabs j) ρ args m K := by
  rcases rc104_0 args m with h | ⟨a1, a2, a3, rfl, rfl⟩
  · exact ⟨fun _ _ => h .., .inl fun _ _ => h ..⟩
  · exact ⟨fun _ _ => rfl, .inr (.inl fun ρ K => (gc104_0 (Tabs k) ρ K a1 a2 a3).symm)⟩

theorem t105 (k : Nat) (args : List (PV sig)) (m : Mem sig) : TQ k 105 args m fun j ρ K => T105 (Tabs j) ρ args m K := by
  rcases rc105_0 args m with h | ⟨a1, a2, rfl, rfl⟩
  · exact ⟨fun _ _ => h .., .inl fun _ _ => h ..⟩
  · exact ⟨fun _ _ => rfl, .inr (.inl fun ρ K => (gc105_0 (Tabs k) ρ K a1 a2).symm)⟩

theorem t106 (k : Nat) (args : List (PV sig)) (m : Mem sig) : TQ k 106 args m fun j ρ K => T106 (Tabs j) ρ args m K := by
  rcases rc106_0 args m with h | ⟨a1, a2, a3, rfl, rfl⟩
  · exact ⟨fun _ _ => h .., .inl fun _ _ => h ..⟩
  · exact ⟨fun _ _ => rfl, .inr (.inl fun ρ K => (gc106_0 (Tabs k) ρ K a1 a2 a3).symm)⟩

theorem t107 (k : Nat) (args : List (PV sig)) (m : Mem sig) : TQ k 107 args m fun j ρ K => T107 (Tabs j) ρ args m K := by
  rcases rc107_0 args m with h | ⟨a1, rfl, rfl⟩
  · exact ⟨fun _ _ => h .., .inl fun _ _ => h ..⟩
  · exact ⟨fun _ _ => rfl, .inr (.inl fun ρ K => (gc107_0 (Tabs k) ρ K a1).symm)⟩

theorem t108 (k : Nat) (args : List (PV sig)) (m : Mem sig) : TQ k 108 args m fun j ρ K => T108 (Tabs j) ρ args m K := by
  rcases rc108_0 args m with h | ⟨a1, a2, rfl, rfl⟩
  · exact ⟨fun _ _ => h .., .inl fun _ _ => h ..⟩
  · exact ⟨fun _ _ => rfl, .inr (.inl fun ρ K => (gc108_0 (Tabs k) ρ K a1 a2).symm)⟩

theorem t109 (k : Nat) (args : List (PV sig)) (m : Mem sig) : TQ k 109 args m fun j ρ K => T109 (Tabs j) ρ args m K := by
  rcases rc109_0 args m with h | ⟨a1, rfl, rfl⟩
  · exact ⟨fun _ _ => h .., .inl fun _ _ => h ..⟩
  · exact ⟨fun _ _ => rfl, .inr (.inl fun ρ K => (gc109_0 (Tabs k) ρ K a1).symm)⟩

theorem t110 (k : Nat) (args : List (PV sig)) (m : Mem sig) : TQ k 110 args m fun j ρ K => T110 (Tabs j) ρ args m K := by
  rcases rc110_0 args m with h | ⟨a1, a2, rfl, rfl⟩
  · exact ⟨fun _ _ => h .., .inl fun _ _ => h ..⟩
  · exact ⟨fun _ _ => rfl, .inr (.inl fun ρ K => (gc110_0 (Tabs k) ρ K a1 a2).symm)⟩

theorem t111 (k : Nat) (args : List (PV sig)) (m : Mem sig) : TQ k 111 args m fun j ρ K => T111 (Tabs j) ρ args m K := by
  rcases rc111_0 args m with h | ⟨a1, rfl, rfl⟩
  · exact ⟨fun _ _ => h .., .inl fun _ _ => h ..⟩
  · exact ⟨fun _ _ => rfl, .inr (.inl fun ρ K => (gc111_0 (Tabs k) ρ K a1).symm)⟩

theorem t112 (k : Nat) (args : List (PV sig)) (m : Mem sig) : TQ k 112 args m fun j ρ K => T112 (Tabs j) ρ args m K := by
  rcases rc112_0 args m with h | ⟨a1, a2, rfl, rfl⟩
  · exact ⟨fun _ _ => h .., .inl fun _ _ => h ..⟩
  · exact ⟨fun _ _ => rfl, .inr (.inl fun ρ K => (gc112_0 (Tabs k) ρ K a1 a2).symm)⟩

theorem t113 (k : Nat) (args : List (PV sig)) (m : Mem sig) : TQ k 113 args m fun j ρ K => T113 (Tabs j) ρ args m K := by
  rcases rc113_0 args m with h | ⟨a1, a2, rfl, rfl⟩
  · exact ⟨fun _ _ => h .., .inl fun _ _ => h ..⟩
  · exact ⟨fun _ _ => rfl, .inr (.inl fun ρ K => (gc113_0 (Tabs k) ρ K a1 a2).symm)⟩

theorem t114 (k : Nat) (args : List (PV sig)) (m : Mem sig) : TQ k 114 args m fun j ρ K => T114 (Tabs j) ρ args m K := by
  rcases rc114_0 args m with h | ⟨a1, a2, rfl, rfl⟩
  · exact ⟨fun _ _ => h .., .inl fun _ _ => h ..⟩
  · exact ⟨fun _ _ => rfl, .inr (.inl fun ρ K => (gc114_0 (Tabs k) ρ K a1 a2).symm)⟩

theorem t115 (k : Nat) (args : List (PV sig)) (m : Mem sig) : TQ k 115 args m fun j ρ K => T115 (Tabs j) ρ args m K := by
  rcases rc115_0 args m with h | ⟨a1, a2, rfl, rfl⟩
  · exact ⟨fun _ _ => h .., .inl fun _ _ => h ..⟩
  · exact ⟨fun _ _ => rfl, .inr (.inl fun ρ K => (gc115_0 (Tabs k) ρ K a1 a2).symm)⟩

theorem t116 (k : Nat) (args : List (PV sig)) (m : Mem sig) : TQ k 116 args m fun j ρ K => T116 (Tabs j) ρ args m K := by
  rcases rc116_0 args m with h | ⟨a1, a2, a3, rfl, rfl⟩
  · exact ⟨fun _ _ => h .., .inl fun _ _ => h ..⟩
  · exact ⟨fun _ _ => rfl, .inr (.inl fun ρ K => (gc116_0 (Tabs k) ρ K a1 a2 a3).symm)⟩

theorem t117 (k : Nat) (args : List (PV sig)) (m : Mem sig) : TQ k 117 args m fun j ρ K => T117 (Tabs j) ρ args m K := by
  rcases rc117_0 args m with h | ⟨a1, a2, rfl, rfl⟩
  · exact ⟨fun _ _ => h .., .inl fun _ _ => h ..⟩
  · exact ⟨fun _ _ => rfl, .inr (.inl fun ρ K => (gc117_0 (Tabs k) ρ K a1 a2).symm)⟩

theorem t118 (k : Nat) (args : List (PV sig)) (m : Mem sig) : TQ k 118 args m fun j ρ K => T118 (Tabs j) ρ args m K := by
  rcases rc118_0 args m with h | ⟨a1, a2, a3, rfl, rfl⟩
  · exact ⟨fun _ _ => h .., .inl fun _ _ => h ..⟩
  · exact ⟨fun _ _ => rfl, .inr (.inl fun ρ K => (gc118_0 (Tabs k) ρ K a1 a2 a3).symm)⟩

theorem t119 (k : Nat) (args : List (PV sig)) (m : Mem sig) : TQ k 119 args m fun j ρ K => T119 (Tabs j) ρ args m K := by
  rcases rc119_0 args m with h | ⟨a1, a2, rfl, rfl⟩
  · exact ⟨fun _ _ => h .., .inl fun _ _ => h ..⟩
  · exact ⟨fun _ _ => rfl, .inr (.inl fun ρ K => (gc119_0 (Tabs k) ρ K a1 a2).symm)⟩

theorem t120 (k : Nat) (args : List (PV sig)) (m : Mem sig) : TQ k 120 args m fun j ρ K => T120 (Tabs j) ρ args m K := by
  rcases rc120_0 args m with h | ⟨a1, a2, rfl, rfl⟩
  · exact ⟨fun _ _ => h .., .inl fun _ _ => h ..⟩
  · exact ⟨fun _ _ => rfl, .inr (.inl fun ρ K => (gc120_0 (Tabs k) ρ K a1 a2).symm)⟩

theorem t126 (k : Nat) (args : List (PV sig)) (m : Mem sig) : TQ k 126 args m fun j ρ K => T126 (Tabs j) ρ args m K := by
  rcases rc126_0 args m with h | ⟨a1, a2, rfl, rfl⟩
  · exact ⟨fun _ _ => h .., .inl fun _ _ => h ..⟩
  · exact ⟨fun _ _ => rfl, .inr (.inl fun ρ K => (gc126_0 (Tabs k) ρ K a1 a2).symm)⟩

theorem t127 (k : Nat) (args : List (PV sig)) (m : Mem sig) : TQ k 127 args m fun j ρ K => T127 (Tabs j) ρ args m K := by
  rcases rc127_0 args m with h | ⟨a1, rfl, rfl⟩
  · exact ⟨fun _ _ => h .., .inl fun _ _ => h ..⟩
  · exact ⟨fun _ _ => rfl, .inr (.inl fun ρ K => (gc127_0 (Tabs k) ρ K a1).symm)⟩

theorem t129 (k : Nat) (args : List (PV sig)) (m : Mem sig) : TQ k 129 args m fun j ρ K => T129 (Tabs j) ρ args m K := by
  rcases rc129_0 args m with h | ⟨a1, a2, a3, rfl, rfl⟩
  · exact ⟨fun _ _ => h .., .inl fun _ _ => h ..⟩
  · exact ⟨fun _ _ => rfl, .inr (.inl fun ρ K => (gc129_0 (Tabs k) ρ K a1 a2 a3).symm)⟩

theorem t132 (k : Nat) (args : List (PV sig)) (m : Mem sig) : TQ k 132 args m fun j ρ K => T132 (Tabs j) ρ args m K := by
  rcases rc132_0 args m with h | ⟨a1, rfl, rfl⟩
  · exact ⟨fun _ _ => h .., .inl fun _ _ => h ..⟩
  · exact ⟨fun _ _ => rfl, .inr (.inl fun ρ K => (gc132_0 (Tabs k) ρ K a1).symm)⟩

theorem t133 (k : Nat) (args : List (PV sig)) (m : Mem sig) : TQ k 133 args m fun j ρ K => T133 (Tabs j) ρ args m K := by
  rcases rc133_0 args m with h | ⟨a1, a2, rfl, rfl⟩
  · exact ⟨fun _ _ => h .., .inl fun _ _ => h ..⟩
  · exact ⟨fun _ _ => rfl, .inr (.inl fun ρ K => (gc133_0 (Tabs k) ρ K a1 a2).symm)⟩

theorem t139 (k : Nat) (args : List (PV sig)) (m : Mem sig) : TQ k 139 args m fun j ρ K => T139 (Tabs j) ρ args m K := by
  rcases rc139_0 args m with h | ⟨a1, rfl, rfl⟩
  · exact ⟨fun _ _ => h .., .inl fun _ _ => h ..⟩
  · exact ⟨fun _ _ => rfl, .inr (.inr fun _ => (told139 a1).imp (fun h ρ K => h ρ K) fun ⟨r, h1, h2⟩ => ⟨r, h1, fun ρ K => h2 ρ K⟩)⟩

theorem t140 (k : Nat) (args : List (PV sig)) (m : Mem sig) : TQ k 140 args m fun j ρ K => T140 (Tabs j) ρ args m K := by
  rcases rc140_0 args m with h | ⟨a1, rfl, rfl⟩
  · exact ⟨fun _ _ => h .., .inl fun _ _ => h ..⟩
  · obtain ⟨a1_0, a1_1, a1_2⟩ := a1; exact ⟨fun _ _ => rfl, .inr (.inl fun ρ K => (gc140_0 (Tabs k) ρ K ⟨a1_0, a1_1, a1_2⟩).symm)⟩

theorem t141 (k : Nat) (args : List (PV sig)) (m : Mem sig) : TQ k 141 args m fun j ρ K => T141 (Tabs j) ρ args m K := by
  rcases rc141_0 args m with h | ⟨a1, a2, rfl, rfl⟩
  · exact ⟨fun _ _ => h .., .inl fun _ _ => h ..⟩
  · exact ⟨fun _ _ => rfl, .inr (.inl fun ρ K => (gc141_0 (Tabs k) ρ K a1 a2).symm)⟩

theorem t142 (k : Nat) (args : List (PV sig)) (m : Mem sig) : TQ k 142 args m fun j ρ K => T142 (Tabs j) ρ args m K := by
  rcases rc142_0 args m with h | ⟨a1, a2, rfl, rfl⟩
  · exact ⟨fun _ _ => h .., .inl fun _ _ => h ..⟩
  · exact ⟨fun _ _ => rfl, .inr (.inl fun ρ K => (gc142_0 (Tabs k) ρ K a1 a2).symm)⟩

theorem t150 (k : Nat) (args : List (PV sig)) (m : Mem sig) : TQ k 150 args m fun j ρ K => T150 (Tabs j) ρ args m K := by
  rcases rc150_0 args m with h | ⟨a1, a2, a3, rfl, rfl⟩
  · exact ⟨fun _ _ => h .., .inl fun _ _ => h ..⟩
  · exact ⟨fun _ _ => rfl, .inr (.inl fun ρ K => (gc150_0 (Tabs k) ρ K a1 a2 a3).symm)⟩

theorem tT (k f : Nat) (args : List (PV sig)) (m : Mem sig) : TQ k f args m fun j ρ K => T (Tabs j) ρ f args m K := by
  unfold T
  exact dT (t7 k args m) <|
    dT (t8 k args m) <|
    dT (t10 k args m) <|
    dT (t11 k args m) <|
    dT (t13 k args m) <|
    dT (t14 k args m) <|
    dT (t21 k args m) <|
    dT (t23 k args m) <|
    dT (t24 k args m) <|
    dT (t25 k args m) <|
    dT (t26 k args m) <|
    dT (t27 k args m) <|
    dT (t28 k args m) <|
    dT (t30 k args m) <|
    dT (t31 k args m) <|
    dT (t32 k args m) <|
    dT (t33 k args m) <|
    dT (t37 k args m) <|
    dT (t38 k args m) <|
    dT (t42 k args m) <|
    dT (t43 k args m) <|
    dT (t44 k args m) <|
    dT (t51 k args m) <|
    dT (t53 k args m) <|
    dT (t54 k args m) <|
    dT (t55 k args m) <|
    dT (t56 k args m) <|
    dT (t57 k args m) <|
    dT (t58 k args m) <|
    dT (t59 k args m) <|
    dT (t60 k args m) <|
    dT (t61 k args m) <|
    dT (t62 k args m) <|
    dT (t63 k args m) <|
    dT (t64 k args m) <|
    dT (t65 k args m) <|
    dT (t66 k args m) <|
    dT (t67 k args m) <|
    dT (t68 k args m) <|
    dT (t69 k args m) <|
    dT (t70 k args m) <|
    dT (t77 k args m) <|
    dT (t78 k args m) <|
    dT (t82 k args m) <|
    dT (t83 k args m) <|
    dT (t86 k args m) <|
    dT (t88 k args m) <|
    dT (t92 k args m) <|
    dT (t93 k args m) <|
    dT (t94 k args m) <|
    dT (t95 k args m) <|
    dT (t96 k args m) <|
    dT (t97 k args m) <|
    dT (t98 k args m) <|
    dT (t99 k args m) <|
    dT (t100 k args m) <|
    dT (t101 k args m) <|
    dT (t102 k args m) <|
    dT (t103 k args m) <|
    dT (t104 k args m) <|
    dT (t105 k args m) <|
    dT (t106 k args m) <|
    dT (t107 k args m) <|
    dT (t108 k args m) <|
    dT (t109 k args m) <|
    dT (t110 k args m) <|
    dT (t111 k args m) <|
    dT (t112 k args m) <|
    dT (t113 k args m) <|
    dT (t114 k args m) <|
    dT (t115 k args m) <|
    dT (t116 k args m) <|
    dT (t117 k args m) <|
    dT (t118 k args m) <|
    dT (t119 k args m) <|
    dT (t120 k args m) <|
    dT (t126 k args m) <|
    dT (t127 k args m) <|
    dT (t129 k args m) <|
    dT (t132 k args m) <|
    dT (t133 k args m) <|
    dT (t139 k args m) <|
    dT (t140 k args m) <|
    dT (t141 k args m) <|
    dT (t142 k args m) <|
    dT (t150 k args m) ⟨fun _ _ => rfl, .inl fun _ _ => rfl⟩

theorem ul10_4_0 (k : Nat) (st : St sig) : UQ k 10 0 4 st fun j ρ K => Rl10_4_0 (Tabs j) ρ (seenV (PK 10 0 4 0) st) (seenM 0 (PK 10 0 4 0) st) st.dfs st.nt K := by
  rcases rl10_4_0 (seenV (PK 10 0 4 0) st) (seenM 0 (PK 10 0 4 0) st) st.dfs st.nt with h | ⟨a1, a2, a3, h1, h2, h3, h4⟩
  · exact ⟨fun _ _ => h .., .inl fun _ _ => h ..⟩
  · obtain ⟨a2_0, a2_1, a2_2⟩ := a2; obtain ⟨a3_0, a3_1, a3_2⟩ := a3; refine ⟨fun ρ K => by rw [h1, h2, h3, h4]; rfl, .inr ⟨bodyOf Tryz.prog 10 4, by kernel_rfl, fun ρ K => ?_⟩⟩
    rw [parkN, h1, h2, h3, h4]
    exact (gl10_4_0 (Tabs k) ρ K a1 ⟨a2_0, a2_1, a2_2⟩ ⟨a3_0, a3_1, a3_2⟩).symm

theorem ul21_11_0 (k : Nat) (st : St sig) : UQ k 21 0 11 st fun j ρ K => Rl21_11_0 (Tabs j) ρ (seenV (PK 21 0 11 0) st) (seenM 0 (PK 21 0 11 0) st) st.dfs st.nt K := by
  rcases rl21_11_0 (seenV (PK 21 0 11 0) st) (seenM 0 (PK 21 0 11 0) st) st.dfs st.nt with h | ⟨a1, a2, a3, a4, a5, a6, mk, h1, h2, h3, h4⟩
  · exact ⟨fun _ _ => h .., .inl fun _ _ => h ..⟩
  · refine ⟨fun ρ K => by rw [h1, h2, h3, h4]; rfl, .inr ⟨bodyOf Tryz.prog 21 11, by kernel_rfl, fun ρ K => ?_⟩⟩
    rw [parkN, h1, h2, h3, h4]
    exact (gl21_11_0 (Tabs k) ρ K a1 a2 a3 a4 a5 a6 mk).symm

theorem ul23_4_0 (k : Nat) (st : St sig) : UQ k 23 0 4 st fun j ρ K => Rl23_4_0 (Tabs j) ρ (seenV (PK 23 0 4 0) st) (seenM 0 (PK 23 0 4 0) st) st.dfs st.nt K := by
  rcases rl23_4_0 (seenV (PK 23 0 4 0) st) (seenM 0 (PK 23 0 4 0) st) st.dfs st.nt with h | ⟨a1, a2, a3, h1, h2, h3, h4⟩
  · exact ⟨fun _ _ => h .., .inl fun _ _ => h ..⟩
  · obtain ⟨a2_0, a2_1, ⟨a2_2, a2_3, a2_4⟩, a2_5⟩ := a2; obtain ⟨a3_0, a3_1, ⟨a3_2, a3_3, a3_4⟩, a3_5⟩ := a3; refine ⟨fun ρ K => by rw [h1, h2, h3, h4]; rfl, .inr ⟨bodyOf Tryz.prog 23 4, by kernel_rfl, fun ρ K => ?_⟩⟩
    rw [parkN, h1, h2, h3, h4]
    exact (gl23_4_0 (Tabs k) ρ K a1 ⟨a2_0, a2_1, ⟨a2_2, a2_3, a2_4⟩, a2_5⟩ ⟨a3_0, a3_1, ⟨a3_2, a3_3, a3_4⟩, a3_5⟩).symm

theorem ul24_9_0 (k : Nat) (st : St sig) : UQ k 24 0 9 st fun j ρ K => Rl24_9_0 (Tabs j) ρ (seenV (PK 24 0 9 0) st) (seenM 0 (PK 24 0 9 0) st) st.dfs st.nt K := by
  rcases rl24_9_0 (seenV (PK 24 0 9 0) st) (seenM 0 (PK 24 0 9 0) st) st.dfs st.nt with h | ⟨a1, a2, a3, a4, a5, h1, h2, h3, h4⟩
  · exact ⟨fun _ _ => h .., .inl fun _ _ => h ..⟩
  · obtain ⟨a4_0, a4_1, ⟨a4_2, a4_3, a4_4⟩, a4_5⟩ := a4; refine ⟨fun ρ K => by rw [h1, h2, h3, h4]; rfl, .inr ⟨bodyOf Tryz.prog 24 9, by kernel_rfl, fun ρ K => ?_⟩⟩
    rw [parkN, h1, h2, h3, h4]
    exact (gl24_9_0 (Tabs k) ρ K a1 a2 a3 ⟨a4_0, a4_1, ⟨a4_2, a4_3, a4_4⟩, a4_5⟩ a5).symm

theorem ul26_6_0 (k : Nat) (st : St sig) : UQ k 26 0 6 st fun j ρ K => Rl26_6_0 (Tabs j) ρ (seenV (PK 26 0 6 0) st) (seenM 0 (PK 26 0 6 0) st) st.dfs st.nt K := by
  rcases rl26_6_0 (seenV (PK 26 0 6 0) st) (seenM 0 (PK 26 0 6 0) st) st.dfs st.nt with h | ⟨a1, a2, h1, h2, h3, h4⟩
  · exact ⟨fun _ _ => h .., .inl fun _ _ => h ..⟩
  · obtain ⟨a2_0, a2_1, ⟨a2_2, a2_3, a2_4⟩, a2_5⟩ := a2; refine ⟨fun ρ K => by rw [h1, h2, h3, h4]; rfl, .inr ⟨bodyOf Tryz.prog 26 6, by kernel_rfl, fun ρ K => ?_⟩⟩
    rw [parkN, h1, h2, h3, h4]
    exact (gl26_6_0 (Tabs k) ρ K a1 ⟨a2_0, a2_1, ⟨a2_2, a2_3, a2_4⟩, a2_5⟩).symm

theorem ul27_5_0 (k : Nat) (st : St sig) : UQ k 27 0 5 st fun j ρ K => Rl27_5_0 (Tabs j) ρ (seenV (PK 27 0 5 0) st) (seenM 0 (PK 27 0 5 0) st) st.dfs st.nt K := by
  rcases rl27_5_0 (seenV (PK 27 0 5 0) st) (seenM 0 (PK 27 0 5 0) st) st.dfs st.nt with h | ⟨a1, a2, a3, a4, h1, h2, h3, h4⟩
  · exact ⟨fun _ _ => h .., .inl fun _ _ => h ..⟩
  · refine ⟨fun ρ K => by rw [h1, h2, h3, h4]; rfl, .inr ⟨bodyOf Tryz.prog 27 5, by kernel_rfl, fun ρ K => ?_⟩⟩
    rw [parkN, h1, h2, h3, h4]
    exact (gl27_5_0 (Tabs k) ρ K a1 a2 a3 a4).symm

theorem ul28_6_0 (k : Nat) (st : St sig) : UQ k 28 0 6 st fun j ρ K => Rl28_6_0 (Tabs j) ρ (seenV (PK 28 0 6 0) st) (seenM 0 (PK 28 0 6 0) st) st.dfs st.nt K := by
  rcases rl28_6_0 (seenV (PK 28 0 6 0) st) (seenM 0 (PK 28 0 6 0) st) st.dfs st.nt with h | ⟨a1, a2, a3, a4, h1, h2, h3, h4⟩
  · exact ⟨fun _ _ => h .., .inl fun _ _ => h ..⟩
  · refine ⟨fun ρ K => by rw [h1, h2, h3, h4]; rfl, .inr ⟨bodyOf Tryz.prog 28 6, by kernel_rfl, fun ρ K => ?_⟩⟩
    rw [parkN, h1, h2, h3, h4]
    exact (gl28_6_0 (Tabs k) ρ K a1 a2 a3 a4).symm

theorem ul30_4_0 (k : Nat) (st : St sig) : UQ k 30 1 4 st fun j ρ K => Rl30_4_0 (Tabs j) ρ (seenV (PK 30 1 4 0) st) (seenM 1 (PK 30 1 4 0) st) st.dfs st.nt K := by
  rcases rl30_4_0 (seenV (PK 30 1 4 0) st) (seenM 1 (PK 30 1 4 0) st) st.dfs st.nt with h | ⟨a1, a2, a3, a4, a5, h1, h2, h3, h4⟩
  · exact ⟨fun _ _ => h .., .inl fun _ _ => h ..⟩
  · obtain ⟨a4_0, a4_1, a4_2⟩ := a4; obtain ⟨a5_0, a5_1, a5_2⟩ := a5; refine ⟨fun ρ K => by rw [h1, h2, h3, h4]; rfl, .inr ⟨bodyOf Tryz.prog 30 4, by kernel_rfl, fun ρ K => ?_⟩⟩
    rw [parkN, h1, h2, h3, h4]
    exact (gl30_4_0 (Tabs k) ρ K a1 a2 a3 ⟨a4_0, a4_1, a4_2⟩ ⟨a5_0, a5_1, a5_2⟩).symm

theorem ul42_3_0 (k : Nat) (st : St sig) : UQ k 42 0 3 st fun j ρ K => Rl42_3_0 (Tabs j) ρ (seenV (PK 42 0 3 0) st) (seenM 0 (PK 42 0 3 0) st) st.dfs st.nt K := by
  rcases rl42_3_0 (seenV (PK 42 0 3 0) st) (seenM 0 (PK 42 0 3 0) st) st.dfs st.nt with h | ⟨a1, a2, a3, a4, h1, h2, h3, h4⟩
  · exact ⟨fun _ _ => h .., .inl fun _ _ => h ..⟩
  · obtain ⟨a4_0, a4_1, a4_2⟩ := a4; refine ⟨fun ρ K => by rw [h1, h2, h3, h4]; rfl, .inr ⟨bodyOf Tryz.prog 42 3, by kernel_rfl, fun ρ K => ?_⟩⟩
    rw [parkN, h1, h2, h3, h4]
    exact (gl42_3_0 (Tabs k) ρ K a1 a2 a3 ⟨a4_0, a4_1, a4_2⟩).symm

theorem ul43_18_0 (k : Nat) (st : St sig) : UQ k 43 0 18 st fun j ρ K => Rl43_18_0 (Tabs j) ρ (seenV (PK 43 0 18 0) st) (seenM 0 (PK 43 0 18 0) st) st.dfs st.nt K := by
  rcases rl43_18_0 (seenV (PK 43 0 18 0) st) (seenM 0 (PK 43 0 18 0) st) st.dfs st.nt with h | ⟨a1, a2, a3, h1, h2, h3, h4⟩
  · exact ⟨fun _ _ => h .., .inl fun _ _ => h ..⟩
  · obtain ⟨a3_0, a3_1, a3_2⟩ := a3; refine ⟨fun ρ K => by rw [h1, h2, h3, h4]; rfl, .inr ⟨bodyOf Tryz.prog 43 18, by kernel_rfl, fun ρ K => ?_⟩⟩
    rw [parkN, h1, h2, h3, h4]
    exact (gl43_18_0 (Tabs k) ρ K a1 a2 ⟨a3_0, a3_1, a3_2⟩).symm

theorem ul53_4_0 (k : Nat) (st : St sig) : UQ k 53 0 4 st fun j ρ K => Rl53_4_0 (Tabs j) ρ (seenV (PK 53 0 4 0) st) (seenM 0 (PK 53 0 4 0) st) st.dfs st.nt K := by
  rcases rl53_4_0 (seenV (PK 53 0 4 0) st) (seenM 0 (PK 53 0 4 0) st) st.dfs st.nt with h | ⟨a1, a2, a3, h1, h2, h3, h4⟩
  · exact ⟨fun _ _ => h .., .inl fun _ _ => h ..⟩
  · obtain ⟨a2_0, a2_1, a2_2, a2_3, ⟨a2_4, a2_5, a2_6⟩, a2_7⟩ := a2; obtain ⟨a3_0, a3_1, a3_2, a3_3, ⟨a3_4, a3_5, a3_6⟩, a3_7⟩ := a3; refine ⟨fun ρ K => by rw [h1, h2, h3, h4]; rfl, .inr ⟨bodyOf Tryz.prog 53 4, by kernel_rfl, fun ρ K => ?_⟩⟩
    rw [parkN, h1, h2, h3, h4]
    exact (gl53_4_0 (Tabs k) ρ K a1 ⟨a2_0, a2_1, a2_2, a2_3, ⟨a2_4, a2_5, a2_6⟩, a2_7⟩ ⟨a3_0, a3_1, a3_2, a3_3, ⟨a3_4, a3_5, a3_6⟩, a3_7⟩).symm

theorem ul56_32_0 (k : Nat) (st : St sig) : UQ k 56 1 32 st fun j ρ K => Rl56_32_0 (Tabs j) ρ (seenV (PK 56 1 32 0) st) (seenM 1 (PK 56 1 32 0) st) st.dfs st.nt K := by
  rcases rl56_32_0 (seenV (PK 56 1 32 0) st) (seenM 1 (PK 56 1 32 0) st) st.dfs st.nt with h | ⟨a1, a2, a3, a4, a5, a6, a7, h1, h2, h3, h4⟩
  · exact ⟨fun _ _ => h .., .inl fun _ _ => h ..⟩
  · obtain ⟨a6_0, a6_1, a6_2, a6_3, ⟨a6_4, a6_5, a6_6⟩, a6_7⟩ := a6; obtain ⟨a7_0, a7_1, a7_2, a7_3, ⟨a7_4, a7_5, a7_6⟩, a7_7⟩ := a7; refine ⟨fun ρ K => by rw [h1, h2, h3, h4]; rfl, .inr ⟨bodyOf Tryz.prog 56 32, by kernel_rfl, fun ρ K => ?_⟩⟩
    rw [parkN, h1, h2, h3, h4]
    exact (gl56_32_0 (Tabs k) ρ K a1 a2 a3 a4 a5 ⟨a6_0, a6_1, a6_2, a6_3, ⟨a6_4, a6_5, a6_6⟩, a6_7⟩ ⟨a7_0, a7_1, a7_2, a7_3, ⟨a7_4, a7_5, a7_6⟩, a7_7⟩).symm

theorem ul58_3_0 (k : Nat) (st : St sig) : UQ k 58 0 3 st fun j ρ K => Rl58_3_0 (Tabs j) ρ (seenV (PK 58 0 3 0) st) (seenM 0 (PK 58 0 3 0) st) st.dfs st.nt K := by
  rcases rl58_3_0 (seenV (PK 58 0 3 0) st) (seenM 0 (PK 58 0 3 0) st) st.dfs st.nt with h | ⟨a1, a2, a3, a4, h1, h2, h3, h4⟩
  · exact ⟨fun _ _ => h .., .inl fun _ _ => h ..⟩
  · refine ⟨fun ρ K => by rw [h1, h2, h3, h4]; rfl, .inr ⟨bodyOf Tryz.prog 58 3, by kernel_rfl, fun ρ K => ?_⟩⟩
    rw [parkN, h1, h2, h3, h4]
    exact (gl58_3_0 (Tabs k) ρ K a1 a2 a3 a4).symm

theorem ul61_3_0 (k : Nat) (st : St sig) : UQ k 61 0 3 st fun j ρ K => Rl61_3_0 (Tabs j) ρ (seenV (PK 61 0 3 0) st) (seenM 0 (PK 61 0 3 0) st) st.dfs st.nt K := by
  rcases rl61_3_0 (seenV (PK 61 0 3 0) st) (seenM 0 (PK 61 0 3 0) st) st.dfs st.nt with h | ⟨a1, a2, a3, a4, h1, h2, h3, h4⟩
  · exact ⟨fun _ _ => h .., .inl fun _ _ => h ..⟩
  · refine ⟨fun ρ K => by rw [h1, h2, h3, h4]; rfl, .inr ⟨bodyOf Tryz.prog 61 3, by kernel_rfl, fun ρ K => ?_⟩⟩
    rw [parkN, h1, h2, h3, h4]
    exact (gl61_3_0 (Tabs k) ρ K a1 a2 a3 a4).symm

theorem ul62_23_0 (k : Nat) (st : St sig) : UQ k 62 0 23 st fun j ρ K => Rl62_23_0 (Tabs j) ρ (seenV (PK 62 0 23 0) st) (seenM 0 (PK 62 0 23 0) st) st.dfs st.nt K := by
  rcases rl62_23_0 (seenV (PK 62 0 23 0) st) (seenM 0 (PK 62 0 23 0) st) st.dfs st.nt with h | ⟨a1, a2, a3, a4, h1, h2, h3, h4⟩
  · exact ⟨fun _ _ => h .., .inl fun _ _ => h ..⟩
  · obtain ⟨a4_0, a4_1, a4_2, a4_3, ⟨a4_4, a4_5, a4_6⟩, a4_7⟩ := a4; refine ⟨fun ρ K => by rw [h1, h2, h3, h4]; rfl, .inr ⟨bodyOf Tryz.prog 62 23, by kernel_rfl, fun ρ K => ?_⟩⟩
    rw [parkN, h1, h2, h3, h4]
    exact (gl62_23_0 (Tabs k) ρ K a1 a2 a3 ⟨a4_0, a4_1, a4_2, a4_3, ⟨a4_4, a4_5, a4_6⟩, a4_7⟩).symm

theorem ul65_0_0 (k : Nat) (st : St sig) : UQ k 65 1 0 st fun j ρ K => Rl65_0_0 (Tabs j) ρ (seenV (PK 65 1 0 0) st) (seenM 1 (PK 65 1 0 0) st) st.dfs st.nt K := by
  rcases rl65_0_0 (seenV (PK 65 1 0 0) st) (seenM 1 (PK 65 1 0 0) st) st.dfs st.nt with h | ⟨a1, a2, h1, h2, h3, h4⟩
  · exact ⟨fun _ _ => h .., .inl fun _ _ => h ..⟩
  · refine ⟨fun ρ K => by rw [h1, h2, h3, h4]; rfl, .inr ⟨bodyOf Tryz.prog 65 0, by kernel_rfl, fun ρ K => ?_⟩⟩
    rw [parkN, h1, h2, h3, h4]
    exact (gl65_0_0 (Tabs k) ρ K a1 a2).symm

theorem ul69_2_0 (k : Nat) (st : St sig) : UQ k 69 1 2 st fun j ρ K => Rl69_2_0 (Tabs j) ρ (seenV (PK 69 1 2 0) st) (seenM 1 (PK 69 1 2 0) st) st.dfs st.nt K := by
  rcases rl69_2_0 (seenV (PK 69 1 2 0) st) (seenM 1 (PK 69 1 2 0) st) st.dfs st.nt with h | ⟨a1, a2, a3, a4, h1, h2, h3, h4⟩
  · exact ⟨fun _ _ => h .., .inl fun _ _ => h ..⟩
  · obtain ⟨a3_0, a3_1, a3_2⟩ := a3; obtain ⟨a4_0, a4_1, a4_2⟩ := a4; refine ⟨fun ρ K => by rw [h1, h2, h3, h4]; rfl, .inr ⟨bodyOf Tryz.prog 69 2, by kernel_rfl, fun ρ K => ?_⟩⟩
    rw [parkN, h1, h2, h3, h4]
    exact (gl69_2_0 (Tabs k) ρ K a1 a2 ⟨a3_0, a3_1, a3_2⟩ ⟨a4_0, a4_1, a4_2⟩).symm

theorem ul70_20_0 (k : Nat) (st : St sig) : UQ k 70 1 20 st fun j ρ K => Rl70_20_0 (Tabs j) ρ (seenV (PK 70 1 20 0) st) (seenM 1 (PK 70 1 20 0) st) st.dfs st.nt K := by
  rcases rl70_20_0 (seenV (PK 70 1 20 0) st) (seenM 1 (PK 70 1 20 0) st) st.dfs st.nt with h | ⟨a1, a2, a3, a4, a5, h1, h2, h3, h4⟩
  · exact ⟨fun _ _ => h .., .inl fun _ _ => h ..⟩
  · refine ⟨fun ρ K => by rw [h1, h2, h3, h4]; rfl, .inr ⟨bodyOf Tryz.prog 70 20, by kernel_rfl, fun ρ K => ?_⟩⟩
    rw [parkN, h1, h2, h3, h4]
    exact (gl70_20_0 (Tabs k) ρ K a1 a2 a3 a4 a5).symm

theorem ul83_1_0 (k : Nat) (st : St sig) : UQ k 83 0 1 st fun j ρ K => Rl83_1_0 (Tabs j) ρ (seenV (PK 83 0 1 0) st) (seenM 0 (PK 83 0 1 0) st) st.dfs st.nt K := by
  rcases rl83_1_0 (seenV (PK 83 0 1 0) st) (seenM 0 (PK 83 0 1 0) st) st.dfs st.nt with h | ⟨a1, a2, h1, h2, h3, h4⟩
  · exact ⟨fun _ _ => h .., .inl fun _ _ => h ..⟩
  · refine ⟨fun ρ K => by rw [h1, h2, h3, h4]; rfl, .inr ⟨bodyOf Tryz.prog 83 1, by kernel_rfl, fun ρ K => ?_⟩⟩
    rw [parkN, h1, h2, h3, h4]
    exact (gl83_1_0 (Tabs k) ρ K a1 a2).symm

theorem ul86_2_0 (k : Nat) (st : St sig) : UQ k 86 0 2 st fun j ρ K => Rl86_2_0 (Tabs j) ρ (seenV (PK 86 0 2 0) st) (seenM 0 (PK 86 0 2 0) st) st.dfs st.nt K := by
  rcases rl86_2_0 (seenV (PK 86 0 2 0) st) (seenM 0 (PK 86 0 2 0) st) st.dfs st.nt with h | ⟨a1, a2, h1, h2, h3, h4⟩
  · exact ⟨fun _ _ => h .., .inl fun _ _ => h ..⟩
  · refine ⟨fun ρ K => by rw [h1, h2, h3, h4]; rfl, .inr ⟨bodyOf Tryz.prog 86 2, by kernel_rfl, fun ρ K => ?_⟩⟩
    rw [parkN, h1, h2, h3, h4]
    exact (gl86_2_0 (Tabs k) ρ K a1 a2).symm

theorem ul92_4_0 (k : Nat) (st : St sig) : UQ k 92 0 4 st fun j ρ K => Rl92_4_0 (Tabs j) ρ (seenV (PK 92 0 4 0) st) (seenM 0 (PK 92 0 4 0) st) st.dfs st.nt K := by
  rcases rl92_4_0 (seenV (PK 92 0 4 0) st) (seenM 0 (PK 92 0 4 0) st) st.dfs st.nt with h | ⟨a1, a2, a3, h1, h2, h3, h4⟩
  · exact ⟨fun _ _ => h .., .inl fun _ _ => h ..⟩
  · refine ⟨fun ρ K => by rw [h1, h2, h3, h4]; rfl, .inr ⟨bodyOf Tryz.prog 92 4, by kernel_rfl, fun ρ K => ?_⟩⟩
    rw [parkN, h1, h2, h3, h4]
    exact (gl92_4_0 (Tabs k) ρ K a1 a2 a3).symm

theorem ul98_2_0 (k : Nat) (st : St sig) : UQ k 98 0 2 st fun j ρ K => Rl98_2_0 (Tabs j) ρ (seenV (PK 98 0 2 0) st) (seenM 0 (PK 98 0 2 0) st) st.dfs st.nt K := by
  rcases rl98_2_0 (seenV (PK 98 0 2 0) st) (seenM 0 (PK 98 0 2 0) st) st.dfs st.nt with h | ⟨a1, a2, a3, a4, h1, h2, h3, h4⟩
  · exact ⟨fun _ _ => h .., .inl fun _ _ => h ..⟩
  · refine ⟨fun ρ K => by rw [h1, h2, h3, h4]; rfl, .inr ⟨bodyOf Tryz.prog 98 2, by kernel_rfl, fun ρ K => ?_⟩⟩
    rw [parkN, h1, h2, h3, h4]
    exact (gl98_2_0 (Tabs k) ρ K a1 a2 a3 a4).symm

theorem ul101_3_0 (k : Nat) (st : St sig) : UQ k 101 0 3 st fun j ρ K => Rl101_3_0 (Tabs j) ρ (seenV (PK 101 0 3 0) st) (seenM 0 (PK 101 0 3 0) st) st.dfs st.nt K := by
  rcases rl101_3_0 (seenV (PK 101 0 3 0) st) (seenM 0 (PK 101 0 3 0) st) st.dfs st.nt with h | ⟨a1, a2, a3, a4, h1, h2, h3, h4⟩
  · exact ⟨fun _ _ => h .., .inl fun _ _ => h ..⟩
  · refine ⟨fun ρ K => by rw [h1, h2, h3, h4]; rfl, .inr ⟨bodyOf Tryz.prog 101 3, by kernel_rfl, fun ρ K => ?_⟩⟩
    rw [parkN, h1, h2, h3, h4]
    exact (gl101_3_0 (Tabs k) ρ K a1 a2 a3 a4).symm

theorem ul106_2_0 (k : Nat) (st : St sig) : UQ k 106 1 2 st fun j ρ K => Rl106_2_0 (Tabs j) ρ (seenV (PK 106 1 2 0) st) (seenM 1 (PK 106 1 2 0) st) st.dfs st.nt K := by
  rcases rl106_2_0 (seenV (PK 106 1 2 0) st) (seenM 1 (PK 106 1 2 0) st) st.dfs st.nt with h | ⟨a1, a2, a3, a4, h1, h2, h3, h4⟩
  · exact ⟨fun _ _ => h .., .inl fun _ _ => h ..⟩
  · refine ⟨fun ρ K => by rw [h1, h2, h3, h4]; rfl, .inr ⟨bodyOf Tryz.prog 106 2, by kernel_rfl, fun ρ K => ?_⟩⟩
    rw [parkN, h1, h2, h3, h4]
    exact (gl106_2_0 (Tabs k) ρ K a1 a2 a3 a4).symm

theorem ul126_2_0 (k : Nat) (st : St sig) : UQ k 126 0 2 st fun j ρ K => Rl126_2_0 (Tabs j) ρ (seenV (PK 126 0 2 0) st) (seenM 0 (PK 126 0 2 0) st) st.dfs st.nt K := by
  rcases rl126_2_0 (seenV (PK 126 0 2 0) st) (seenM 0 (PK 126 0 2 0) st) st.dfs st.nt with h | ⟨a1, a2, a3, a4, h1, h2, h3, h4⟩
  · exact ⟨fun _ _ => h .., .inl fun _ _ => h ..⟩
  · refine ⟨fun ρ K => by rw [h1, h2, h3, h4]; rfl, .inr ⟨bodyOf Tryz.prog 126 2, by kernel_rfl, fun ρ K => ?_⟩⟩
    rw [parkN, h1, h2, h3, h4]
    exact (gl126_2_0 (Tabs k) ρ K a1 a2 a3 a4).symm

theorem ul129_2_0 (k : Nat) (st : St sig) : UQ k 129 1 2 st fun j ρ K => Rl129_2_0 (Tabs j) ρ (seenV (PK 129 1 2 0) st) (seenM 1 (PK 129 1 2 0) st) st.dfs st.nt K := by
  rcases rl129_2_0 (seenV (PK 129 1 2 0) st) (seenM 1 (PK 129 1 2 0) st) st.dfs st.nt with h | ⟨a1, a2, a3, a4, h1, h2, h3, h4⟩
  · exact ⟨fun _ _ => h .., .inl fun _ _ => h ..⟩
  · refine ⟨fun ρ K => by rw [h1, h2, h3, h4]; rfl, .inr ⟨bodyOf Tryz.prog 129 2, by kernel_rfl, fun ρ K => ?_⟩⟩
    rw [parkN, h1, h2, h3, h4]
    exact (gl129_2_0 (Tabs k) ρ K a1 a2 a3 a4).symm

theorem ul133_2_0 (k : Nat) (st : St sig) : UQ k 133 0 2 st fun j ρ K => Rl133_2_0 (Tabs j) ρ (seenV (PK 133 0 2 0) st) (seenM 0 (PK 133 0 2 0) st) st.dfs st.nt K := by
  rcases rl133_2_0 (seenV (PK 133 0 2 0) st) (seenM 0 (PK 133 0 2 0) st) st.dfs st.nt with h | ⟨a1, a2, a3, a4, h1, h2, h3, h4⟩
  · exact ⟨fun _ _ => h .., .inl fun _ _ => h ..⟩
  · refine ⟨fun ρ K => by rw [h1, h2, h3, h4]; rfl, .inr ⟨bodyOf Tryz.prog 133 2, by kernel_rfl, fun ρ K => ?_⟩⟩
    rw [parkN, h1, h2, h3, h4]
    exact (gl133_2_0 (Tabs k) ρ K a1 a2 a3 a4).symm

theorem tL (k f np key : Nat) (st : St sig) : UQ k f np key st fun j ρ K => LT (Tabs j) ρ f np key st K := by
  unfold LT
  exact dL (ul10_4_0 k st) <|
    dL (ul21_11_0 k st) <|
    dL (ul23_4_0 k st) <|
    dL (ul24_9_0 k st) <|
    dL (ul26_6_0 k st) <|
    dL (ul27_5_0 k st) <|
    dL (ul28_6_0 k st) <|
    dL (ul30_4_0 k st) <|
    dL (ul42_3_0 k st) <|
    dL (ul43_18_0 k st) <|
    dL (ul53_4_0 k st) <|
    dL (ul56_32_0 k st) <|
    dL (ul58_3_0 k st) <|
    dL (ul61_3_0 k st) <|
    dL (ul62_23_0 k st) <|
    dL (ul65_0_0 k st) <|
    dL (ul69_2_0 k st) <|
    dL (ul70_20_0 k st) <|
    dL (ul83_1_0 k st) <|
    dL (ul86_2_0 k st) <|
    dL (ul92_4_0 k st) <|
    dL (ul98_2_0 k st) <|
    dL (ul101_3_0 k st) <|
    dL (ul106_2_0 k st) <|
    dL (ul126_2_0 k st) <|
    dL (ul129_2_0 k st) <|
    dL (ul133_2_0 k st) ⟨fun _ _ => rfl, .inl fun _ _ => rfl⟩

theorem levels : Levels Tryz.prog lay hints dfT PK (fun k => T (Tabs k)) (fun k => LT (Tabs k)) where
  t0 ρ f args m K := (tT 0 f args m).1 ρ K
  l0 ρ f np key st K := (tL 0 f np key st).1 ρ K
  t k f args m := (tT k f args m).2
  l k f np key st := (tL k f np key st).2

end Go.Proofs.YtanfoijdfcnpoaaGreatDoor.Ev
