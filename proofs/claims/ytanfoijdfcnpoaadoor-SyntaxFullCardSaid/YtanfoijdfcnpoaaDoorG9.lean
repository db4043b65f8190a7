/- This file proves that the tables of typed functions are sound; without any condition. -/
import Derived.Test.YtanfoijdfcnpoaaDoorI4
import Derived.Test.YtanfoijdfcnpoaaDoorU2
import Derived.Test.YtanfoijdfcnpoaaDoorG2
import Derived.Test.YtanfoijdfcnpoaaDoorG3
import Derived.Test.YtanfoijdfcnpoaaDoorG4
import Derived.Test.YtanfoijdfcnpoaaDoorG5
import Derived.Test.YtanfoijdfcnpoaaDoorG6
set_option maxRecDepth 8000
set_option linter.unusedVariables false
set_option linter.unusedSimpArgs false
namespace Go.Proofs.YtanfoijdfcnpoaaDoor.Ev

/-- What is shown of a function at a level, and at the first one. -/
abbrev TQ (k f : Nat) (args : List (PV sig)) (m : Mem sig) (t : Nat → (ρ : Type) → (Res sig × Mem sig → Option ρ) → Option ρ) : Prop :=
  (∀ ρ K, t 0 ρ K = none) ∧ ((∀ ρ K, t (k + 1) ρ K = none) ∨ (∀ ρ K, t (k + 1) ρ K = evF Tryd.prog lay (T (Tabs k)) (LT (Tabs k)) hints dfT f args m K) ∨
    (Snd Tryd.prog lay (T (Tabs k)) (LT (Tabs k)) → (∀ ρ K, t (k + 1) ρ K = none) ∨ ∃ r, CallOk Tryd.prog lay f args m r ∧ ∀ ρ K, t (k + 1) ρ K = K r))

theorem dT {k f n : Nat} {args : List (PV sig)} {m : Mem sig} {A B : Nat → (ρ : Type) → (Res sig × Mem sig → Option ρ) → Option ρ} (h1 : TQ k n args m A) (h2 : TQ k f args m B) : TQ k f args m fun j ρ K => bif Nat.beq f n then A j ρ K else B j ρ K := by
  cases hc : Nat.beq f n with
  | true => rw [Nat.eq_of_beq_eq_true hc]; exact h1
  | false => exact h2

/-- What is shown of a loop. -/
abbrev UQ (k f np key : Nat) (st : St sig) (t : Nat → (ρ : Type) → (Ex sig → St sig → Option ρ) → Option ρ) : Prop :=
  (∀ ρ K, t 0 ρ K = none) ∧ ((∀ ρ K, t (k + 1) ρ K = none) ∨ ∃ c, loopOf Tryd.prog f key = some c ∧ ∀ ρ K, t (k + 1) ρ K = evK Tryd.prog lay (T (Tabs k)) (LT (Tabs k)) hints f np c (parkE PK f np key .normal st) (loopNext (LT (Tabs k)) PK f np key K))

theorem dL {k f np key f' np' key' : Nat} {st : St sig} {A B : Nat → (ρ : Type) → (Ex sig → St sig → Option ρ) → Option ρ} (h1 : UQ k f' np' key' st A) (h2 : UQ k f np key st B) : UQ k f np key st fun j ρ K => bif Nat.beq f f' && (Nat.beq np np' && Nat.beq key key') then A j ρ K else B j ρ K := by
  cases hc : Nat.beq f f' && (Nat.beq np np' && Nat.beq key key') with
  | true => simp only [Bool.and_eq_true] at hc; rw [Nat.eq_of_beq_eq_true hc.1, Nat.eq_of_beq_eq_true hc.2.1, Nat.eq_of_beq_eq_true hc.2.2]; exact h1
  | false => exact h2

theorem parkN (f np key : Nat) (st : St sig) : parkE PK f np key (.normal : Ex sig) st = canon ((PK f np key 0).1.map (·.1)) (seenV (PK f np key 0) st) (seenM np (PK f np key 0) st) st.dfs st.nt := park_seen ..

theorem t3 (k : Nat) (args : List (PV sig)) (m : Mem sig) : TQ k 3 args m fun j ρ K => T3 (Tabs j) ρ args m K := by
  rcases rc3_0 args m with h | ⟨a1, rfl, rfl⟩
  · exact ⟨fun _ _ => h .., .inl fun _ _ => h ..⟩
  · obtain ⟨a1_0, a1_1, a1_2⟩ := a1; exact ⟨fun _ _ => rfl, .inr (.inl fun ρ K => (gc3_0 (Tabs k) ρ K ⟨a1_0, a1_1, a1_2⟩).symm)⟩

theorem t8 (k : Nat) (args : List (PV sig)) (m : Mem sig) : TQ k 8 args m fun j ρ K => T8 (Tabs j) ρ args m K := by
  rcases rc8_0 args m with h | ⟨a1, rfl, rfl⟩
  · exact ⟨fun _ _ => h .., .inl fun _ _ => h ..⟩
  · exact ⟨fun _ _ => rfl, .inr (.inl fun ρ K => (gc8_0 (Tabs k) ρ K a1).symm)⟩

theorem t9 (k : Nat) (args : List (PV sig)) (m : Mem sig) : TQ k 9 args m fun j ρ K => T9 (Tabs j) ρ args m K := by
  rcases rc9_0 args m with h | ⟨a1, rfl, rfl⟩
  · exact ⟨fun _ _ => h .., .inl fun _ _ => h ..⟩
  · obtain ⟨a1_0, a1_1, a1_2⟩ := a1; exact ⟨fun _ _ => rfl, .inr (.inl fun ρ K => (gc9_0 (Tabs k) ρ K ⟨a1_0, a1_1, a1_2⟩).symm)⟩

theorem t10 (k : Nat) (args : List (PV sig)) (m : Mem sig) : TQ k 10 args m fun j ρ K => T10 (Tabs j) ρ args m K := by
  rcases rc10_0 args m with h | ⟨a1, rfl, rfl⟩
  · exact ⟨fun _ _ => h .., .inl fun _ _ => h ..⟩
  · obtain ⟨a1_0, a1_1, a1_2⟩ := a1; exact ⟨fun _ _ => rfl, .inr (.inl fun ρ K => (gc10_0 (Tabs k) ρ K ⟨a1_0, a1_1, a1_2⟩).symm)⟩

theorem t11 (k : Nat) (args : List (PV sig)) (m : Mem sig) : TQ k 11 args m fun j ρ K => T11 (Tabs j) ρ args m K := by
  rcases rc11_0 args m with h | ⟨a1, rfl, rfl⟩
  · exact ⟨fun _ _ => h .., .inl fun _ _ => h ..⟩
  · obtain ⟨a1_0, a1_1, a1_2⟩ := a1; exact ⟨fun _ _ => rfl, .inr (.inl fun ρ K => (gc11_0 (Tabs k) ρ K ⟨a1_0, a1_1, a1_2⟩).symm)⟩

theorem t12 (k : Nat) (args : List (PV sig)) (m : Mem sig) : TQ k 12 args m fun j ρ K => T12 (Tabs j) ρ args m K := by
  rcases rc12_0 args m with h | ⟨rfl, rfl⟩
  · exact ⟨fun _ _ => h .., .inl fun _ _ => h ..⟩
  · exact ⟨fun _ _ => rfl, .inr (.inl fun ρ K => (gc12_0 (Tabs k) ρ K).symm)⟩

theorem t13 (k : Nat) (args : List (PV sig)) (m : Mem sig) : TQ k 13 args m fun j ρ K => T13 (Tabs j) ρ args m K := by
  rcases rc13_0 args m with h | ⟨a1, rfl, rfl⟩
  · exact ⟨fun _ _ => h .., .inl fun _ _ => h ..⟩
  · obtain ⟨a1_0, a1_1, a1_2⟩ := a1; exact ⟨fun _ _ => rfl, .inr (.inl fun ρ K => (gc13_0 (Tabs k) ρ K ⟨a1_0, a1_1, a1_2⟩).symm)⟩

theorem t14 (k : Nat) (args : List (PV sig)) (m : Mem sig) : TQ k 14 args m fun j ρ K => T14 (Tabs j) ρ args m K := by
  rcases rc14_0 args m with h | ⟨a1, rfl, rfl⟩
  · exact ⟨fun _ _ => h .., .inl fun _ _ => h ..⟩
  · exact ⟨fun _ _ => rfl, .inr (.inl fun ρ K => (gc14_0 (Tabs k) ρ K a1).symm)⟩

theorem t15 (k : Nat) (args : List (PV sig)) (m : Mem sig) : TQ k 15 args m fun j ρ K => T15 (Tabs j) ρ args m K := by
  rcases rc15_0 args m with h | ⟨a1, a2, rfl, rfl⟩
  · exact ⟨fun _ _ => h .., .inl fun _ _ => h ..⟩
  · obtain ⟨a1_0, a1_1, a1_2⟩ := a1; obtain ⟨a2_0, a2_1, a2_2⟩ := a2; exact ⟨fun _ _ => rfl, .inr (.inl fun ρ K => (gc15_0 (Tabs k) ρ K ⟨a1_0, a1_1, a1_2⟩ ⟨a2_0, a2_1, a2_2⟩).symm)⟩

theorem t20 (k : Nat) (args : List (PV sig)) (m : Mem sig) : TQ k 20 args m fun j ρ K => T20 (Tabs j) ρ args m K := by
  rcases rc20_0 args m with h | ⟨a1, rfl, rfl⟩
  · exact ⟨fun _ _ => h .., .inl fun _ _ => h ..⟩
  · exact ⟨fun _ _ => rfl, .inr (.inr fun hS => told20 k hS a1)⟩

theorem t22 (k : Nat) (args : List (PV sig)) (m : Mem sig) : TQ k 22 args m fun j ρ K => T22 (Tabs j) ρ args m K := by
  rcases rc22_0 args m with h | ⟨a1, a2, a3, rfl, rfl⟩
  · exact ⟨fun _ _ => h .., .inl fun _ _ => h ..⟩
  · obtain ⟨a1_0, a1_1, a1_2⟩ := a1; exact ⟨fun _ _ => rfl, .inr (.inl fun ρ K => (gc22_0 (Tabs k) ρ K ⟨a1_0, a1_1, a1_2⟩ a2 a3).symm)⟩

theorem t23 (k : Nat) (args : List (PV sig)) (m : Mem sig) : TQ k 23 args m fun j ρ K => T23 (Tabs j) ρ args m K := by
  rcases rc23_0 args m with h | ⟨a1, a2, rfl, rfl⟩
  · exact ⟨fun _ _ => h .., .inl fun _ _ => h ..⟩
  · obtain ⟨a1_0, a1_1, a1_2⟩ := a1; exact ⟨fun _ _ => rfl, .inr (.inl fun ρ K => (gc23_0 (Tabs k) ρ K ⟨a1_0, a1_1, a1_2⟩ a2).symm)⟩

theorem t24 (k : Nat) (args : List (PV sig)) (m : Mem sig) : TQ k 24 args m fun j ρ K => T24 (Tabs j) ρ args m K := by
  rcases rc24_0 args m with h | ⟨a1, a2, rfl, rfl⟩
  · exact ⟨fun _ _ => h .., .inl fun _ _ => h ..⟩
  · obtain ⟨a1_0, a1_1, a1_2⟩ := a1; exact ⟨fun _ _ => rfl, .inr (.inl fun ρ K => (gc24_0 (Tabs k) ρ K ⟨a1_0, a1_1, a1_2⟩ a2).symm)⟩

theorem t25 (k : Nat) (args : List (PV sig)) (m : Mem sig) : TQ k 25 args m fun j ρ K => T25 (Tabs j) ρ args m K := by
  rcases rc25_0 args m with h | ⟨a1, a2, rfl, rfl⟩
  · exact ⟨fun _ _ => h .., .inl fun _ _ => h ..⟩
  · obtain ⟨a1_0, a1_1, a1_2⟩ := a1; exact ⟨fun _ _ => rfl, .inr (.inl fun ρ K => (gc25_0 (Tabs k) ρ K ⟨a1_0, a1_1, a1_2⟩ a2).symm)⟩

theorem t26 (k : Nat) (args : List (PV sig)) (m : Mem sig) : TQ k 26 args m fun j ρ K => T26 (Tabs j) ρ args m K := by
  rcases rc26_0 args m with h | ⟨a1, a2, rfl, rfl⟩
  · exact ⟨fun _ _ => h .., .inl fun _ _ => h ..⟩
  · exact ⟨fun _ _ => rfl, .inr (.inl fun ρ K => (gc26_0 (Tabs k) ρ K a1 a2).symm)⟩

theorem t27 (k : Nat) (args : List (PV sig)) (m : Mem sig) : TQ k 27 args m fun j ρ K => T27 (Tabs j) ρ args m K := by
  rcases rc27_0 args m with h | ⟨a1, rfl, rfl⟩
  · exact ⟨fun _ _ => h .., .inl fun _ _ => h ..⟩
  · obtain ⟨a1_0, a1_1, a1_2⟩ := a1; exact ⟨fun _ _ => rfl, .inr (.inl fun ρ K => (gc27_0 (Tabs k) ρ K ⟨a1_0, a1_1, a1_2⟩).symm)⟩

theorem t28 (k : Nat) (args : List (PV sig)) (m : Mem sig) : TQ k 28 args m fun j ρ K => T28 (Tabs j) ρ args m K := by
  rcases rc28_0 args m with h | ⟨a1, rfl, rfl⟩
  · exact ⟨fun _ _ => h .., .inl fun _ _ => h ..⟩
  · exact ⟨fun _ _ => rfl, .inr (.inl fun ρ K => (gc28_0 (Tabs k) ρ K a1).symm)⟩

theorem t30 (k : Nat) (args : List (PV sig)) (m : Mem sig) : TQ k 30 args m fun j ρ K => T30 (Tabs j) ρ args m K := by
  rcases rc30_0 args m with h | ⟨a1, a2, rfl, rfl⟩
  · exact ⟨fun _ _ => h .., .inl fun _ _ => h ..⟩
  · exact ⟨fun _ _ => rfl, .inr (.inl fun ρ K => (gc30_0 (Tabs k) ρ K a1 a2).symm)⟩

theorem t31 (k : Nat) (args : List (PV sig)) (m : Mem sig) : TQ k 31 args m fun j ρ K => T31 (Tabs j) ρ args m K := by
  rcases rc31_0 args m with h | ⟨a1, a2, rfl, rfl⟩
  · exact ⟨fun _ _ => h .., .inl fun _ _ => h ..⟩
  · exact ⟨fun _ _ => rfl, .inr (.inl fun ρ K => (gc31_0 (Tabs k) ρ K a1 a2).symm)⟩

theorem t32 (k : Nat) (args : List (PV sig)) (m : Mem sig) : TQ k 32 args m fun j ρ K => T32 (Tabs j) ρ args m K := by
  rcases rc32_0 args m with h | ⟨a1, a2, rfl, rfl⟩
  · exact ⟨fun _ _ => h .., .inl fun _ _ => h ..⟩
  · exact ⟨fun _ _ => rfl, .inr (.inl fun ρ K => (gc32_0 (Tabs k) ρ K a1 a2).symm)⟩

theorem t37 (k : Nat) (args : List (PV sig)) (m : Mem sig) : TQ k 37 args m fun j ρ K => T37 (Tabs j) ρ args m K := by
  rcases rc37_0 args m with h | ⟨a1, a2, rfl, rfl⟩
  · exact ⟨fun _ _ => h .., .inl fun _ _ => h ..⟩
  · exact ⟨fun _ _ => rfl, .inr (.inl fun ρ K => (gc37_0 (Tabs k) ρ K a1 a2).symm)⟩

theorem t38 (k : Nat) (args : List (PV sig)) (m : Mem sig) : TQ k 38 args m fun j ρ K => T38 (Tabs j) ρ args m K := by
  rcases rc38_0 args m with h | ⟨a1, rfl, rfl⟩
  · exact ⟨fun _ _ => h .., .inl fun _ _ => h ..⟩
  · obtain ⟨a1_0, a1_1, ⟨a1_2, a1_3, a1_4⟩, a1_5⟩ := a1; exact ⟨fun _ _ => rfl, .inr (.inl fun ρ K => (gc38_0 (Tabs k) ρ K ⟨a1_0, a1_1, ⟨a1_2, a1_3, a1_4⟩, a1_5⟩).symm)⟩

theorem t40 (k : Nat) (args : List (PV sig)) (m : Mem sig) : TQ k 40 args m fun j ρ K => T40 (Tabs j) ρ args m K := by
  rcases rc40_0 args m with h | ⟨a1, rfl, rfl⟩
  · exact ⟨fun _ _ => h .., .inl fun _ _ => h ..⟩
  · exact ⟨fun _ _ => rfl, .inr (.inl fun ρ K => (gc40_0 (Tabs k) ρ K a1).symm)⟩

theorem t41 (k : Nat) (args : List (PV sig)) (m : Mem sig) : TQ k 41 args m fun j ρ K => T41 (Tabs j) ρ args m K := by
  rcases rc41_0 args m with h | ⟨a1, a2, rfl, rfl⟩
  · exact ⟨fun _ _ => h .., .inl fun _ _ => h ..⟩
  · exact ⟨fun _ _ => rfl, .inr (.inl fun ρ K => (gc41_0 (Tabs k) ρ K a1 a2).symm)⟩

theorem t42 (k : Nat) (args : List (PV sig)) (m : Mem sig) : TQ k 42 args m fun j ρ K => T42 (Tabs j) ρ args m K := by
  rcases rc42_0 args m with h | ⟨a1, rfl, rfl⟩
  · exact ⟨fun _ _ => h .., .inl fun _ _ => h ..⟩
  · exact ⟨fun _ _ => rfl, .inr (.inl fun ρ K => (gc42_0 (Tabs k) ρ K a1).symm)⟩

theorem t43 (k : Nat) (args : List (PV sig)) (m : Mem sig) : TQ k 43 args m fun j ρ K => T43 (Tabs j) ρ args m K := by
  rcases rc43_0 args m with h | ⟨a1, a2, rfl, rfl⟩
  · exact ⟨fun _ _ => h .., .inl fun _ _ => h ..⟩
  · exact ⟨fun _ _ => rfl, .inr (.inl fun ρ K => (gc43_0 (Tabs k) ρ K a1 a2).symm)⟩

theorem t44 (k : Nat) (args : List (PV sig)) (m : Mem sig) : TQ k 44 args m fun j ρ K => T44 (Tabs j) ρ args m K := by
  rcases rc44_0 args m with h | ⟨a1, rfl, rfl⟩
  · exact ⟨fun _ _ => h .., .inl fun _ _ => h ..⟩
  · exact ⟨fun _ _ => rfl, .inr (.inl fun ρ K => (gc44_0 (Tabs k) ρ K a1).symm)⟩

theorem t45 (k : Nat) (args : List (PV sig)) (m : Mem sig) : TQ k 45 args m fun j ρ K => T45 (Tabs j) ρ args m K := by
  rcases rc45_0 args m with h | ⟨a1, a2, a3, rfl, rfl⟩
  · exact ⟨fun _ _ => h .., .inl fun _ _ => h ..⟩
  · exact ⟨fun _ _ => rfl, .inr (.inl fun ρ K => (gc45_0 (Tabs k) ρ K a1 a2 a3).symm)⟩

theorem t46 (k : Nat) (args : List (PV sig)) (m : Mem sig) : TQ k 46 args m fun j ρ K => T46 (Tabs j) ρ args m K := by
  rcases rc46_0 args m with h | ⟨a1, a2, rfl, rfl⟩
  · exact ⟨fun _ _ => h .., .inl fun _ _ => h ..⟩
  · exact ⟨fun _ _ => rfl, .inr (.inl fun ρ K => (gc46_0 (Tabs k) ρ K a1 a2).symm)⟩

theorem t47 (k : Nat) (args : List (PV sig)) (m : Mem sig) : TQ k 47 args m fun j ρ K => T47 (Tabs j) ρ args m K := by
  rcases rc47_0 args m with h | ⟨a1, a2, rfl, rfl⟩
  · exact ⟨fun _ _ => h .., .inl fun _ _ => h ..⟩
  · exact ⟨fun _ _ => rfl, .inr (.inl fun ρ K => (gc47_0 (Tabs k) ρ K a1 a2).symm)⟩

theorem t48 (k : Nat) (args : List (PV sig)) (m : Mem sig) : TQ k 48 args m fun j ρ K => T48 (Tabs j) ρ args m K := by
  rcases rc48_0 args m with h | ⟨a1, a2, rfl, rfl⟩
  · exact ⟨fun _ _ => h .., .inl fun _ _ => h ..⟩
  · exact ⟨fun _ _ => rfl, .inr (.inl fun ρ K => (gc48_0 (Tabs k) ρ K a1 a2).symm)⟩

theorem t53 (k : Nat) (args : List (PV sig)) (m : Mem sig) : TQ k 53 args m fun j ρ K => T53 (Tabs j) ρ args m K := by
  rcases rc53_0 args m with h | ⟨a1, a2, rfl, rfl⟩
  · exact ⟨fun _ _ => h .., .inl fun _ _ => h ..⟩
  · exact ⟨fun _ _ => rfl, .inr (.inl fun ρ K => (gc53_0 (Tabs k) ρ K a1 a2).symm)⟩

theorem t54 (k : Nat) (args : List (PV sig)) (m : Mem sig) : TQ k 54 args m fun j ρ K => T54 (Tabs j) ρ args m K := by
  rcases rc54_0 args m with h | ⟨a1, rfl, rfl⟩
  · exact ⟨fun _ _ => h .., .inl fun _ _ => h ..⟩
  · exact ⟨fun _ _ => rfl, .inr (.inl fun ρ K => (gc54_0 (Tabs k) ρ K a1).symm)⟩

theorem t55 (k : Nat) (args : List (PV sig)) (m : Mem sig) : TQ k 55 args m fun j ρ K => T55 (Tabs j) ρ args m K := by
  rcases rc55_0 args m with h | ⟨a1, rfl, rfl⟩
  · exact ⟨fun _ _ => h .., .inl fun _ _ => h ..⟩
  · obtain ⟨a1_0, a1_1, a1_2⟩ := a1; exact ⟨fun _ _ => rfl, .inr (.inl fun ρ K => (gc55_0 (Tabs k) ρ K ⟨a1_0, a1_1, a1_2⟩).symm)⟩

theorem t56 (k : Nat) (args : List (PV sig)) (m : Mem sig) : TQ k 56 args m fun j ρ K => T56 (Tabs j) ρ args m K := by
  rcases rc56_0 args m with h | ⟨a1, a2, a3, rfl, rfl⟩
  · exact ⟨fun _ _ => h .., .inl fun _ _ => h ..⟩
  · obtain ⟨a1_0, a1_1, a1_2, a1_3, ⟨a1_4, a1_5, a1_6⟩, a1_7⟩ := a1; exact ⟨fun _ _ => rfl, .inr (.inl fun ρ K => (gc56_0 (Tabs k) ρ K ⟨a1_0, a1_1, a1_2, a1_3, ⟨a1_4, a1_5, a1_6⟩, a1_7⟩ a2 a3).symm)⟩

theorem t57 (k : Nat) (args : List (PV sig)) (m : Mem sig) : TQ k 57 args m fun j ρ K => T57 (Tabs j) ρ args m K := by
  rcases rc57_0 args m with h | ⟨a1, rfl, rfl⟩
  · exact ⟨fun _ _ => h .., .inl fun _ _ => h ..⟩
  · exact ⟨fun _ _ => rfl, .inr (.inl fun ρ K => (gc57_0 (Tabs k) ρ K a1).symm)⟩

theorem t58 (k : Nat) (args : List (PV sig)) (m : Mem sig) : TQ k 58 args m fun j ρ K => T58 (Tabs j) ρ args m K := by
  rcases rc58_0 args m with h | ⟨a1, a2, rfl, rfl⟩
  · exact ⟨fun _ _ => h .., .inl fun _ _ => h ..⟩
  · exact ⟨fun _ _ => rfl, .inr (.inl fun ρ K => (gc58_0 (Tabs k) ρ K a1 a2).symm)⟩

theorem t59 (k : Nat) (args : List (PV sig)) (m : Mem sig) : TQ k 59 args m fun j ρ K => T59 (Tabs j) ρ args m K := by
  rcases rc59_0 args m with h | ⟨a1, rfl, rfl⟩
  · exact ⟨fun _ _ => h .., .inl fun _ _ => h ..⟩
  · exact ⟨fun _ _ => rfl, .inr (.inl fun ρ K => (gc59_0 (Tabs k) ρ K a1).symm)⟩

theorem t60 (k : Nat) (args : List (PV sig)) (m : Mem sig) : TQ k 60 args m fun j ρ K => T60 (Tabs j) ρ args m K := by
  rcases rc60_0 args m with h | ⟨a1, a2, a3, rfl, rfl⟩
  · exact ⟨fun _ _ => h .., .inl fun _ _ => h ..⟩
  · exact ⟨fun _ _ => rfl, .inr (.inl fun ρ K => (gc60_0 (Tabs k) ρ K a1 a2 a3).symm)⟩

theorem t61 (k : Nat) (args : List (PV sig)) (m : Mem sig) : TQ k 61 args m fun j ρ K => T61 (Tabs j) ρ args m K := by
  rcases rc61_0 args m with h | ⟨a1, a2, rfl, rfl⟩
  · exact ⟨fun _ _ => h .., .inl fun _ _ => h ..⟩
  · exact ⟨fun _ _ => rfl, .inr (.inr fun _ => (told61 a1 a2).imp (fun h ρ K => h ρ K) fun ⟨r, h1, h2⟩ => ⟨r, h1, fun ρ K => h2 ρ K⟩)⟩

theorem t62 (k : Nat) (args : List (PV sig)) (m : Mem sig) : TQ k 62 args m fun j ρ K => T62 (Tabs j) ρ args m K := by
  rcases rc62_0 args m with h | ⟨a1, a2, a3, rfl, rfl⟩
  · exact ⟨fun _ _ => h .., .inl fun _ _ => h ..⟩
  · exact ⟨fun _ _ => rfl, .inr (.inl fun ρ K => (gc62_0 (Tabs k) ρ K a1 a2 a3).symm)⟩

theorem t63 (k : Nat) (args : List (PV sig)) (m : Mem sig) : TQ k 63 args m fun j ρ K => T63 (Tabs j) ρ args m K := by
  rcases rc63_0 args m with h | ⟨a1, rfl, rfl⟩
  · exact ⟨fun _ _ => h .., .inl fun _ _ => h ..⟩
  · exact ⟨fun _ _ => rfl, .inr (.inl fun ρ K => (gc63_0 (Tabs k) ρ K a1).symm)⟩

theorem t64 (k : Nat) (args : List (PV sig)) (m : Mem sig) : TQ k 64 args m fun j ρ K => T64 (Tabs j) ρ args m K := by
  rcases rc64_0 args m with h | ⟨a1, a2, rfl, rfl⟩
  · exact ⟨fun _ _ => h .., .inl fun _ _ => h ..⟩
  · exact ⟨fun _ _ => rfl, .inr (.inl fun ρ K => (gc64_0 (Tabs k) ρ K a1 a2).symm)⟩

theorem t65 (k : Nat) (args : List (PV sig)) (m : Mem sig) : TQ k 65 args m fun j ρ K => T65 (Tabs j) ρ args m K := by
  rcases rc65_0 args m with h | ⟨a1, a2, a3, rfl, rfl⟩
  · exact ⟨fun _ _ => h .., .inl fun _ _ => h ..⟩
  · exact ⟨fun _ _ => rfl, .inr (.inl fun ρ K => (gc65_0 (Tabs k) ρ K a1 a2 a3).symm)⟩

theorem t66 (k : Nat) (args : List (PV sig)) (m : Mem sig) : TQ k 66 args m fun j ρ K => T66 (Tabs j) ρ args m K := by
  rcases rc66_0 args m with h | ⟨a1, rfl, rfl⟩
  · exact ⟨fun _ _ => h .., .inl fun _ _ => h ..⟩
  · exact ⟨fun _ _ => rfl, .inr (.inl fun ρ K => (gc66_0 (Tabs k) ρ K a1).symm)⟩

theorem t67 (k : Nat) (args : List (PV sig)) (m : Mem sig) : TQ k 67 args m fun j ρ K => T67 (Tabs j) ρ args m K := by
  rcases rc67_0 args m with h | ⟨a1, a2, rfl, rfl⟩
  · exact ⟨fun _ _ => h .., .inl fun _ _ => h ..⟩
  · exact ⟨fun _ _ => rfl, .inr (.inl fun ρ K => (gc67_0 (Tabs k) ρ K a1 a2).symm)⟩

theorem t68 (k : Nat) (args : List (PV sig)) (m : Mem sig) : TQ k 68 args m fun j ρ K => T68 (Tabs j) ρ args m K := by
  rcases rc68_0 args m with h | ⟨a1, rfl, rfl⟩
  · exact ⟨fun _ _ => h .., .inl fun _ _ => h ..⟩
  · exact ⟨fun _ _ => rfl, .inr (.inl fun ρ K => (gc68_0 (Tabs k) ρ K a1).symm)⟩

theorem t69 (k : Nat) (args : List (PV sig)) (m : Mem sig) : TQ k 69 args m fun j ρ K => T69 (Tabs j) ρ args m K := by
  rcases rc69_0 args m with h | ⟨a1, a2, rfl, rfl⟩
  · exact ⟨fun _ _ => h .., .inl fun _ _ => h ..⟩
  · exact ⟨fun _ _ => rfl, .inr (.inl fun ρ K => (gc69_0 (Tabs k) ρ K a1 a2).symm)⟩

theorem t70 (k : Nat) (args : List (PV sig)) (m : Mem sig) : TQ k 70 args m fun j ρ K => T70 (Tabs j) ρ args m K := by
  rcases rc70_0 args m with h | ⟨a1, rfl, rfl⟩
  · exact ⟨fun _ _ => h .., .inl fun _ _ => h ..⟩
  · exact ⟨fun _ _ => rfl, .inr (.inl fun ρ K => (gc70_0 (Tabs k) ρ K a1).symm)⟩

theorem t71 (k : Nat) (args : List (PV sig)) (m : Mem sig) : TQ k 71 args m fun j ρ K => T71 (Tabs j) ρ args m K := by
  rcases rc71_0 args m with h | ⟨a1, a2, rfl, rfl⟩
  · exact ⟨fun _ _ => h .., .inl fun _ _ => h ..⟩
  · exact ⟨fun _ _ => rfl, .inr (.inl fun ρ K => (gc71_0 (Tabs k) ρ K a1 a2).symm)⟩

theorem t72 (k : Nat) (args : List (PV sig)) (m : Mem sig) : TQ k 72 args m fun j ρ K => T72 (Tabs j) ρ args m K := by
  rcases rc72_0 args m with h | ⟨a1, a2, rfl, rfl⟩
  · exact ⟨fun _ _ => h .., .inl fun _ _ => h ..⟩
  · exact ⟨fun _ _ => rfl, .inr (.inl fun ρ K => (gc72_0 (Tabs k) ρ K a1 a2).symm)⟩

theorem t73 (k : Nat) (args : List (PV sig)) (m : Mem sig) : TQ k 73 args m fun j ρ K => T73 (Tabs j) ρ args m K := by
  rcases rc73_0 args m with h | ⟨a1, a2, rfl, rfl⟩
  · exact ⟨fun _ _ => h .., .inl fun _ _ => h ..⟩
  · exact ⟨fun _ _ => rfl, .inr (.inl fun ρ K => (gc73_0 (Tabs k) ρ K a1 a2).symm)⟩

theorem t74 (k : Nat) (args : List (PV sig)) (m : Mem sig) : TQ k 74 args m fun j ρ K => T74 (Tabs j) ρ args m K := by
  rcases rc74_0 args m with h | ⟨a1, a2, rfl, rfl⟩
  · exact ⟨fun _ _ => h .., .inl fun _ _ => h ..⟩
  · exact ⟨fun _ _ => rfl, .inr (.inl fun ρ K => (gc74_0 (Tabs k) ρ K a1 a2).symm)⟩

theorem t75 (k : Nat) (args : List (PV sig)) (m : Mem sig) : TQ k 75 args m fun j ρ K => T75 (Tabs j) ρ args m K := by
  rcases rc75_0 args m with h | ⟨a1, a2, a3, rfl, rfl⟩
  · exact ⟨fun _ _ => h .., .inl fun _ _ => h ..⟩
  · exact ⟨fun _ _ => rfl, .inr (.inl fun ρ K => (gc75_0 (Tabs k) ρ K a1 a2 a3).symm)⟩

theorem t76 (k : Nat) (args : List (PV sig)) (m : Mem sig) : TQ k 76 args m fun j ρ K => T76 (Tabs j) ρ args m K := by
  rcases rc76_0 args m with h | ⟨a1, a2, rfl, rfl⟩
  · exact ⟨fun _ _ => h .., .inl fun _ _ => h ..⟩
  · exact ⟨fun _ _ => rfl, .inr (.inl fun ρ K => (gc76_0 (Tabs k) ρ K a1 a2).symm)⟩

theorem t77 (k : Nat) (args : List (PV sig)) (m : Mem sig) : TQ k 77 args m fun j ρ K => T77 (Tabs j) ρ args m K := by
  rcases rc77_0 args m with h | ⟨a1, a2, a3, rfl, rfl⟩
  · exact ⟨fun _ _ => h .., .inl fun _ _ => h ..⟩
  · exact ⟨fun _ _ => rfl, .inr (.inl fun ρ K => (gc77_0 (Tabs k) ρ K a1 a2 a3).symm)⟩

theorem t78 (k : Nat) (args : List (PV sig)) (m : Mem sig) : TQ k 78 args m fun j ρ K => T78 (Tabs j) ρ args m K := by
  rcases rc78_0 args m with h | ⟨a1, a2, rfl, rfl⟩
  · exact ⟨fun _ _ => h .., .inl fun _ _ => h ..⟩
  · exact ⟨fun _ _ => rfl, .inr (.inl fun ρ K => (gc78_0 (Tabs k) ρ K a1 a2).symm)⟩

theorem t79 (k : Nat) (args : List (PV sig)) (m : Mem sig) : TQ k 79 args m fun j ρ K => T79 (Tabs j) ρ args m K := by
  rcases rc79_0 args m with h | ⟨a1, a2, rfl, rfl⟩
  · exact ⟨fun _ _ => h .., .inl fun _ _ => h ..⟩
  · exact ⟨fun _ _ => rfl, .inr (.inl fun ρ K => (gc79_0 (Tabs k) ρ K a1 a2).symm)⟩

theorem t80 (k : Nat) (args : List (PV sig)) (m : Mem sig) : TQ k 80 args m fun j ρ K => T80 (Tabs j) ρ args m K := by
  rcases rc80_0 args m with h | ⟨a1, a2, rfl, rfl⟩
  · exact ⟨fun _ _ => h .., .inl fun _ _ => h ..⟩
  · exact ⟨fun _ _ => rfl, .inr (.inl fun ρ K => (gc80_0 (Tabs k) ρ K a1 a2).symm)⟩

theorem t81 (k : Nat) (args : List (PV sig)) (m : Mem sig) : TQ k 81 args m fun j ρ K => T81 (Tabs j) ρ args m K := by
  rcases rc81_0 args m with h | ⟨a1, a2, a3, rfl, rfl⟩
  · exact ⟨fun _ _ => h .., .inl fun _ _ => h ..⟩
  · exact ⟨fun _ _ => rfl, .inr (.inl fun ρ K => (gc81_0 (Tabs k) ρ K a1 a2 a3).symm)⟩

theorem t82 (k : Nat) (args : List (PV sig)) (m : Mem sig) : TQ k 82 args m fun j ρ K => T82 (Tabs j) ρ args m K := by
  unfold T82
  cases hc : Nat.beq (fnId (args.getD 1 .any)) 63 with
  | true =>
    simp only [cond_true]
    rcases rc82_0 args m with h | ⟨a1, rfl, rfl⟩
    · exact ⟨fun _ _ => h .., .inl fun _ _ => h ..⟩
    · exact ⟨fun _ _ => rfl, .inr (.inl fun ρ K => (gc82_0 (Tabs k) ρ K a1).symm)⟩
  | false =>
    simp only [cond_false]
    cases hc : Nat.beq (fnId (args.getD 1 .any)) 66 with
    | true =>
      simp only [cond_true]
      rcases rc82_1 args m with h | ⟨a1, rfl, rfl⟩
      · exact ⟨fun _ _ => h .., .inl fun _ _ => h ..⟩
      · exact ⟨fun _ _ => rfl, .inr (.inl fun ρ K => (gc82_1 (Tabs k) ρ K a1).symm)⟩
    | false =>
      simp only [cond_false]
      exact ⟨fun _ _ => rfl, .inl fun _ _ => rfl⟩

theorem t83 (k : Nat) (args : List (PV sig)) (m : Mem sig) : TQ k 83 args m fun j ρ K => T83 (Tabs j) ρ args m K := by
  rcases rc83_0 args m with h | ⟨a1, rfl, rfl⟩
  · exact ⟨fun _ _ => h .., .inl fun _ _ => h ..⟩
  · exact ⟨fun _ _ => rfl, .inr (.inl fun ρ K => (gc83_0 (Tabs k) ρ K a1).symm)⟩

theorem t84 (k : Nat) (args : List (PV sig)) (m : Mem sig) : TQ k 84 args m fun j ρ K => T84 (Tabs j) ρ args m K := by
  rcases rc84_0 args m with h | ⟨a1, a2, rfl, rfl⟩
  · exact ⟨fun _ _ => h .., .inl fun _ _ => h ..⟩
  · exact ⟨fun _ _ => rfl, .inr (.inl fun ρ K => (gc84_0 (Tabs k) ρ K a1 a2).symm)⟩

theorem t86 (k : Nat) (args : List (PV sig)) (m : Mem sig) : TQ k 86 args m fun j ρ K => T86 (Tabs j) ρ args m K := by
  rcases rc86_0 args m with h | ⟨a1, rfl, rfl⟩
  · exact ⟨fun _ _ => h .., .inl fun _ _ => h ..⟩
  · exact ⟨fun _ _ => rfl, .inr (.inl fun ρ K => (gc86_0 (Tabs k) ρ K a1).symm)⟩

theorem t87 (k : Nat) (args : List (PV sig)) (m : Mem sig) : TQ k 87 args m fun j ρ K => T87 (Tabs j) ρ args m K := by
  rcases rc87_0 args m with h | ⟨a1, rfl, rfl⟩
  · exact ⟨fun _ _ => h .., .inl fun _ _ => h ..⟩
  · exact ⟨fun _ _ => rfl, .inr (.inr fun _ => (told87 a1).imp (fun h ρ K => h ρ K) fun ⟨r, h1, h2⟩ => ⟨r, h1, fun ρ K => h2 ρ K⟩)⟩

theorem t88 (k : Nat) (args : List (PV sig)) (m : Mem sig) : TQ k 88 args m fun j ρ K => T88 (Tabs j) ρ args m K := by
  rcases rc88_0 args m with h | ⟨a1, rfl, rfl⟩
  · exact ⟨fun _ _ => h .., .inl fun _ _ => h ..⟩
  · exact ⟨fun _ _ => rfl, .inr (.inr fun _ => (told88 a1).imp (fun h ρ K => h ρ K) fun ⟨r, h1, h2⟩ => ⟨r, h1, fun ρ K => h2 ρ K⟩)⟩

theorem t89 (k : Nat) (args : List (PV sig)) (m : Mem sig) : TQ k 89 args m fun j ρ K => T89 (Tabs j) ρ args m K := by
  rcases rc89_0 args m with h | ⟨a1, rfl, rfl⟩
  · exact ⟨fun _ _ => h .., .inl fun _ _ => h ..⟩
  · obtain ⟨a1_0, a1_1, a1_2⟩ := a1; exact ⟨fun _ _ => rfl, .inr (.inl fun ρ K => (gc89_0 (Tabs k) ρ K ⟨a1_0, a1_1, a1_2⟩).symm)⟩

theorem t90 (k : Nat) (args : List (PV sig)) (m : Mem sig) : TQ k 90 args m fun j ρ K => T90 (Tabs j) ρ args m K := by
  rcases rc90_0 args m with h | ⟨a1, a2, rfl, rfl⟩
  · exact ⟨fun _ _ => h .., .inl fun _ _ => h ..⟩
  · exact ⟨fun _ _ => rfl, .inr (.inl fun ρ K => (gc90_0 (Tabs k) ρ K a1 a2).symm)⟩

theorem t91 (k : Nat) (args : List (PV sig)) (m : Mem sig) : TQ k 91 args m fun j ρ K => T91 (Tabs j) ρ args m K := by
  rcases rc91_0 args m with h | ⟨a1, a2, rfl, rfl⟩
  · exact ⟨fun _ _ => h .., .inl fun _ _ => h ..⟩
  · exact ⟨fun _ _ => rfl, .inr (.inl fun ρ K => (gc91_0 (Tabs k) ρ K a1 a2).symm)⟩

theorem t92 (k : Nat) (args : List (PV sig)) (m : Mem sig) : TQ k 92 args m fun j ρ K => T92 (Tabs j) ρ args m K := by
  rcases rc92_0 args m with h | ⟨a1, rfl, rfl⟩
  · exact ⟨fun _ _ => h .., .inl fun _ _ => h ..⟩
  · exact ⟨fun _ _ => rfl, .inr (.inl fun ρ K => (gc92_0 (Tabs k) ρ K a1).symm)⟩

theorem t93 (k : Nat) (args : List (PV sig)) (m : Mem sig) : TQ k 93 args m fun j ρ K => T93 (Tabs j) ρ args m K := by
  rcases rc93_0 args m with h | ⟨a1, rfl, rfl⟩
  · exact ⟨fun _ _ => h .., .inl fun _ _ => h ..⟩
  · exact ⟨fun _ _ => rfl, .inr (.inl fun ρ K => (gc93_0 (Tabs k) ρ K a1).symm)⟩

theorem t98 (k : Nat) (args : List (PV sig)) (m : Mem sig) : TQ k 98 args m fun j ρ K => T98 (Tabs j) ρ args m K := by
  rcases rc98_0 args m with h | ⟨a1, a2, a3, rfl, rfl⟩
  · exact ⟨fun _ _ => h .., .inl fun _ _ => h ..⟩
  · exact ⟨fun _ _ => rfl, .inr (.inl fun ρ K => (gc98_0 (Tabs k) ρ K a1 a2 a3).symm)⟩

theorem tT (k f : Nat) (args : List (PV sig)) (m : Mem sig) : TQ k f args m fun j ρ K => T (Tabs j) ρ f args m K := by
  unfold T
  exact dT (t3 k args m) <|
    dT (t8 k args m) <|
    dT (t9 k args m) <|
    dT (t10 k args m) <|
    dT (t11 k args m) <|
    dT (t12 k args m) <|
    dT (t13 k args m) <|
    dT (t14 k args m) <|
    dT (t15 k args m) <|
    dT (t20 k args m) <|
    dT (t22 k args m) <|
    dT (t23 k args m) <|
    dT (t24 k args m) <|
    dT (t25 k args m) <|
    dT (t26 k args m) <|
    dT (t27 k args m) <|
    dT (t28 k args m) <|
    dT (t30 k args m) <|
    dT (t31 k args m) <|
    dT (t32 k args m) <|
    dT (t37 k args m) <|
    dT (t38 k args m) <|
    dT (t40 k args m) <|
    dT (t41 k args m) <|
    dT (t42 k args m) <|
    dT (t43 k args m) <|
    dT (t44 k args m) <|
    dT (t45 k args m) <|
    dT (t46 k args m) <|
    dT (t47 k args m) <|
    dT (t48 k args m) <|
    dT (t53 k args m) <|
    dT (t54 k args m) <|
    dT (t55 k args m) <|
    dT (t56 k args m) <|
    dT (t57 k args m) <|
    dT (t58 k args m) <|
    dT (t59 k args m) <|
    dT (t60 k args m) <|
    dT (t61 k args m) <|
    dT (t62 k args m) <|
    dT (t63 k args m) <|
    dT (t64 k args m) <|
    dT (t65 k args m) <|
    dT (t66 k args m) <|
    dT (t67 k args m) <|
    dT (t68 k args m) <|
    dT (t69 k args m) <|
    dT (t70 k args m) <|
    dT (t71 k args m) <|
    dT (t72 k args m) <|
    dT (t73 k args m) <|
    dT (t74 k args m) <|
    dT (t75 k args m) <|
    dT (t76 k args m) <|
    dT (t77 k args m) <|
    dT (t78 k args m) <|
    dT (t79 k args m) <|
    dT (t80 k args m) <|
    dT (t81 k args m) <|
    dT (t82 k args m) <|
    dT (t83 k args m) <|
    dT (t84 k args m) <|
    dT (t86 k args m) <|
    dT (t87 k args m) <|
    dT (t88 k args m) <|
    dT (t89 k args m) <|
    dT (t90 k args m) <|
    dT (t91 k args m) <|
    dT (t92 k args m) <|
    dT (t93 k args m) <|
    dT (t98 k args m) ⟨fun _ _ => rfl, .inl fun _ _ => rfl⟩

theorem ul8_4_0 (k : Nat) (st : St sig) : UQ k 8 0 4 st fun j ρ K => Rl8_4_0 (Tabs j) ρ (seenV (PK 8 0 4 0) st) (seenM 0 (PK 8 0 4 0) st) st.dfs st.nt K := by
  rcases rl8_4_0 (seenV (PK 8 0 4 0) st) (seenM 0 (PK 8 0 4 0) st) st.dfs st.nt with h | ⟨a1, a2, a3, a4, h1, h2, h3, h4⟩
  · exact ⟨fun _ _ => h .., .inl fun _ _ => h ..⟩
  · obtain ⟨a4_0, a4_1, a4_2⟩ := a4; refine ⟨fun ρ K => by rw [h1, h2, h3, h4]; rfl, .inr ⟨bodyOf Tryd.prog 8 4, by kernel_rfl, fun ρ K => ?_⟩⟩
    rw [parkN, h1, h2, h3, h4]
    exact (gl8_4_0 (Tabs k) ρ K a1 a2 a3 ⟨a4_0, a4_1, a4_2⟩).symm

theorem ul8_9_0 (k : Nat) (st : St sig) : UQ k 8 0 9 st fun j ρ K => Rl8_9_0 (Tabs j) ρ (seenV (PK 8 0 9 0) st) (seenM 0 (PK 8 0 9 0) st) st.dfs st.nt K := by
  rcases rl8_9_0 (seenV (PK 8 0 9 0) st) (seenM 0 (PK 8 0 9 0) st) st.dfs st.nt with h | ⟨a1, a2, a3, a4, h1, h2, h3, h4⟩
  · exact ⟨fun _ _ => h .., .inl fun _ _ => h ..⟩
  · obtain ⟨a3_0, a3_1, a3_2⟩ := a3; obtain ⟨a4_0, a4_1, a4_2⟩ := a4; refine ⟨fun ρ K => by rw [h1, h2, h3, h4]; rfl, .inr ⟨bodyOf Tryd.prog 8 9, by kernel_rfl, fun ρ K => ?_⟩⟩
    rw [parkN, h1, h2, h3, h4]
    exact (gl8_9_0 (Tabs k) ρ K a1 a2 ⟨a3_0, a3_1, a3_2⟩ ⟨a4_0, a4_1, a4_2⟩).symm

theorem ul8_16_0 (k : Nat) (st : St sig) : UQ k 8 0 16 st fun j ρ K => Rl8_16_0 (Tabs j) ρ (seenV (PK 8 0 16 0) st) (seenM 0 (PK 8 0 16 0) st) st.dfs st.nt K := by
  rcases rl8_16_0 (seenV (PK 8 0 16 0) st) (seenM 0 (PK 8 0 16 0) st) st.dfs st.nt with h | ⟨a1, a2, a3, a4, a5, a6, a7, a8, h1, h2, h3, h4⟩
  · exact ⟨fun _ _ => h .., .inl fun _ _ => h ..⟩
  · obtain ⟨a6_0, a6_1, a6_2⟩ := a6; obtain ⟨a7_0, a7_1, a7_2⟩ := a7; obtain ⟨a8_0, a8_1, a8_2⟩ := a8; refine ⟨fun ρ K => by rw [h1, h2, h3, h4]; rfl, .inr ⟨bodyOf Tryd.prog 8 16, by kernel_rfl, fun ρ K => ?_⟩⟩
    rw [parkN, h1, h2, h3, h4]
    exact (gl8_16_0 (Tabs k) ρ K a1 a2 a3 a4 a5 ⟨a6_0, a6_1, a6_2⟩ ⟨a7_0, a7_1, a7_2⟩ ⟨a8_0, a8_1, a8_2⟩).symm

theorem ul8_22_0 (k : Nat) (st : St sig) : UQ k 8 0 22 st fun j ρ K => Rl8_22_0 (Tabs j) ρ (seenV (PK 8 0 22 0) st) (seenM 0 (PK 8 0 22 0) st) st.dfs st.nt K := by
  rcases rl8_22_0 (seenV (PK 8 0 22 0) st) (seenM 0 (PK 8 0 22 0) st) st.dfs st.nt with h | ⟨a1, a2, a3, a4, a5, a6, a7, h1, h2, h3, h4⟩
  · exact ⟨fun _ _ => h .., .inl fun _ _ => h ..⟩
  · obtain ⟨a5_0, a5_1, a5_2⟩ := a5; obtain ⟨a6_0, a6_1, a6_2⟩ := a6; obtain ⟨a7_0, a7_1, a7_2⟩ := a7; refine ⟨fun ρ K => by rw [h1, h2, h3, h4]; rfl, .inr ⟨bodyOf Tryd.prog 8 22, by kernel_rfl, fun ρ K => ?_⟩⟩
    rw [parkN, h1, h2, h3, h4]
    exact (gl8_22_0 (Tabs k) ρ K a1 a2 a3 a4 ⟨a5_0, a5_1, a5_2⟩ ⟨a6_0, a6_1, a6_2⟩ ⟨a7_0, a7_1, a7_2⟩).symm

theorem ul8_27_0 (k : Nat) (st : St sig) : UQ k 8 0 27 st fun j ρ K => Rl8_27_0 (Tabs j) ρ (seenV (PK 8 0 27 0) st) (seenM 0 (PK 8 0 27 0) st) st.dfs st.nt K := by
  rcases rl8_27_0 (seenV (PK 8 0 27 0) st) (seenM 0 (PK 8 0 27 0) st) st.dfs st.nt with h | ⟨a1, a2, a3, a4, a5, a6, a7, h1, h2, h3, h4⟩
  · exact ⟨fun _ _ => h .., .inl fun _ _ => h ..⟩
  · obtain ⟨a5_0, a5_1, a5_2⟩ := a5; obtain ⟨a6_0, a6_1, a6_2⟩ := a6; obtain ⟨a7_0, a7_1, a7_2⟩ := a7; refine ⟨fun ρ K => by rw [h1, h2, h3, h4]; rfl, .inr ⟨bodyOf Tryd.prog 8 27, by kernel_rfl, fun ρ K => ?_⟩⟩
    rw [parkN, h1, h2, h3, h4]
    exact (gl8_27_0 (Tabs k) ρ K a1 a2 a3 a4 ⟨a5_0, a5_1, a5_2⟩ ⟨a6_0, a6_1, a6_2⟩ ⟨a7_0, a7_1, a7_2⟩).symm

theorem ul8_33_0 (k : Nat) (st : St sig) : UQ k 8 0 33 st fun j ρ K => Rl8_33_0 (Tabs j) ρ (seenV (PK 8 0 33 0) st) (seenM 0 (PK 8 0 33 0) st) st.dfs st.nt K := by
  rcases rl8_33_0 (seenV (PK 8 0 33 0) st) (seenM 0 (PK 8 0 33 0) st) st.dfs st.nt with h | ⟨a1, a2, a3, a4, a5, a6, a7, a8, h1, h2, h3, h4⟩
  · exact ⟨fun _ _ => h .., .inl fun _ _ => h ..⟩
  · obtain ⟨a6_0, a6_1, a6_2⟩ := a6; obtain ⟨a7_0, a7_1, a7_2⟩ := a7; obtain ⟨a8_0, a8_1, a8_2⟩ := a8; refine ⟨fun ρ K => by rw [h1, h2, h3, h4]; rfl, .inr ⟨bodyOf Tryd.prog 8 33, by kernel_rfl, fun ρ K => ?_⟩⟩
    rw [parkN, h1, h2, h3, h4]
    exact (gl8_33_0 (Tabs k) ρ K a1 a2 a3 a4 a5 ⟨a6_0, a6_1, a6_2⟩ ⟨a7_0, a7_1, a7_2⟩ ⟨a8_0, a8_1, a8_2⟩).symm

theorem ul15_4_0 (k : Nat) (st : St sig) : UQ k 15 0 4 st fun j ρ K => Rl15_4_0 (Tabs j) ρ (seenV (PK 15 0 4 0) st) (seenM 0 (PK 15 0 4 0) st) st.dfs st.nt K := by
  rcases rl15_4_0 (seenV (PK 15 0 4 0) st) (seenM 0 (PK 15 0 4 0) st) st.dfs st.nt with h | ⟨a1, a2, a3, h1, h2, h3, h4⟩
  · exact ⟨fun _ _ => h .., .inl fun _ _ => h ..⟩
  · obtain ⟨a2_0, a2_1, a2_2⟩ := a2; obtain ⟨a3_0, a3_1, a3_2⟩ := a3; refine ⟨fun ρ K => by rw [h1, h2, h3, h4]; rfl, .inr ⟨bodyOf Tryd.prog 15 4, by kernel_rfl, fun ρ K => ?_⟩⟩
    rw [parkN, h1, h2, h3, h4]
    exact (gl15_4_0 (Tabs k) ρ K a1 ⟨a2_0, a2_1, a2_2⟩ ⟨a3_0, a3_1, a3_2⟩).symm

theorem ul20_11_0 (k : Nat) (st : St sig) : UQ k 20 0 11 st fun j ρ K => Rl20_11_0 (Tabs j) ρ (seenV (PK 20 0 11 0) st) (seenM 0 (PK 20 0 11 0) st) st.dfs st.nt K := by
  rcases rl20_11_0 (seenV (PK 20 0 11 0) st) (seenM 0 (PK 20 0 11 0) st) st.dfs st.nt with h | ⟨a1, a2, a3, a4, a5, a6, mk, h1, h2, h3, h4⟩
  · exact ⟨fun _ _ => h .., .inl fun _ _ => h ..⟩
  · refine ⟨fun ρ K => by rw [h1, h2, h3, h4]; rfl, .inr ⟨bodyOf Tryd.prog 20 11, by kernel_rfl, fun ρ K => ?_⟩⟩
    rw [parkN, h1, h2, h3, h4]
    exact (gl20_11_0 (Tabs k) ρ K a1 a2 a3 a4 a5 a6 mk).symm

theorem ul22_20_0 (k : Nat) (st : St sig) : UQ k 22 1 20 st fun j ρ K => Rl22_20_0 (Tabs j) ρ (seenV (PK 22 1 20 0) st) (seenM 1 (PK 22 1 20 0) st) st.dfs st.nt K := by
  rcases rl22_20_0 (seenV (PK 22 1 20 0) st) (seenM 1 (PK 22 1 20 0) st) st.dfs st.nt with h | ⟨a1, a2, a3, a4, a5, h1, h2, h3, h4⟩
  · exact ⟨fun _ _ => h .., .inl fun _ _ => h ..⟩
  · refine ⟨fun ρ K => by rw [h1, h2, h3, h4]; rfl, .inr ⟨bodyOf Tryd.prog 22 20, by kernel_rfl, fun ρ K => ?_⟩⟩
    rw [parkN, h1, h2, h3, h4]
    exact (gl22_20_0 (Tabs k) ρ K a1 a2 a3 a4 a5).symm

theorem ul24_3_0 (k : Nat) (st : St sig) : UQ k 24 0 3 st fun j ρ K => Rl24_3_0 (Tabs j) ρ (seenV (PK 24 0 3 0) st) (seenM 0 (PK 24 0 3 0) st) st.dfs st.nt K := by
  rcases rl24_3_0 (seenV (PK 24 0 3 0) st) (seenM 0 (PK 24 0 3 0) st) st.dfs st.nt with h | ⟨a1, a2, a3, a4, h1, h2, h3, h4⟩
  · exact ⟨fun _ _ => h .., .inl fun _ _ => h ..⟩
  · obtain ⟨a4_0, a4_1, a4_2⟩ := a4; refine ⟨fun ρ K => by rw [h1, h2, h3, h4]; rfl, .inr ⟨bodyOf Tryd.prog 24 3, by kernel_rfl, fun ρ K => ?_⟩⟩
    rw [parkN, h1, h2, h3, h4]
    exact (gl24_3_0 (Tabs k) ρ K a1 a2 a3 ⟨a4_0, a4_1, a4_2⟩).symm

theorem ul25_18_0 (k : Nat) (st : St sig) : UQ k 25 0 18 st fun j ρ K => Rl25_18_0 (Tabs j) ρ (seenV (PK 25 0 18 0) st) (seenM 0 (PK 25 0 18 0) st) st.dfs st.nt K := by
  rcases rl25_18_0 (seenV (PK 25 0 18 0) st) (seenM 0 (PK 25 0 18 0) st) st.dfs st.nt with h | ⟨a1, a2, a3, h1, h2, h3, h4⟩
  · exact ⟨fun _ _ => h .., .inl fun _ _ => h ..⟩
  · obtain ⟨a3_0, a3_1, a3_2⟩ := a3; refine ⟨fun ρ K => by rw [h1, h2, h3, h4]; rfl, .inr ⟨bodyOf Tryd.prog 25 18, by kernel_rfl, fun ρ K => ?_⟩⟩
    rw [parkN, h1, h2, h3, h4]
    exact (gl25_18_0 (Tabs k) ρ K a1 a2 ⟨a3_0, a3_1, a3_2⟩).symm

theorem ul28_6_0 (k : Nat) (st : St sig) : UQ k 28 0 6 st fun j ρ K => Rl28_6_0 (Tabs j) ρ (seenV (PK 28 0 6 0) st) (seenM 0 (PK 28 0 6 0) st) st.dfs st.nt K := by
  rcases rl28_6_0 (seenV (PK 28 0 6 0) st) (seenM 0 (PK 28 0 6 0) st) st.dfs st.nt with h | ⟨a1, a2, a3, a4, h1, h2, h3, h4⟩
  · exact ⟨fun _ _ => h .., .inl fun _ _ => h ..⟩
  · refine ⟨fun ρ K => by rw [h1, h2, h3, h4]; rfl, .inr ⟨bodyOf Tryd.prog 28 6, by kernel_rfl, fun ρ K => ?_⟩⟩
    rw [parkN, h1, h2, h3, h4]
    exact (gl28_6_0 (Tabs k) ρ K a1 a2 a3 a4).symm

theorem ul30_4_0 (k : Nat) (st : St sig) : UQ k 30 1 4 st fun j ρ K => Rl30_4_0 (Tabs j) ρ (seenV (PK 30 1 4 0) st) (seenM 1 (PK 30 1 4 0) st) st.dfs st.nt K := by
  rcases rl30_4_0 (seenV (PK 30 1 4 0) st) (seenM 1 (PK 30 1 4 0) st) st.dfs st.nt with h | ⟨a1, a2, a3, a4, a5, h1, h2, h3, h4⟩
  · exact ⟨fun _ _ => h .., .inl fun _ _ => h ..⟩
  · obtain ⟨a4_0, a4_1, a4_2⟩ := a4; obtain ⟨a5_0, a5_1, a5_2⟩ := a5; refine ⟨fun ρ K => by rw [h1, h2, h3, h4]; rfl, .inr ⟨bodyOf Tryd.prog 30 4, by kernel_rfl, fun ρ K => ?_⟩⟩
    rw [parkN, h1, h2, h3, h4]
    exact (gl30_4_0 (Tabs k) ρ K a1 a2 a3 ⟨a4_0, a4_1, a4_2⟩ ⟨a5_0, a5_1, a5_2⟩).symm

theorem ul38_9_0 (k : Nat) (st : St sig) : UQ k 38 0 9 st fun j ρ K => Rl38_9_0 (Tabs j) ρ (seenV (PK 38 0 9 0) st) (seenM 0 (PK 38 0 9 0) st) st.dfs st.nt K := by
  rcases rl38_9_0 (seenV (PK 38 0 9 0) st) (seenM 0 (PK 38 0 9 0) st) st.dfs st.nt with h | ⟨a1, a2, a3, a4, a5, h1, h2, h3, h4⟩
  · exact ⟨fun _ _ => h .., .inl fun _ _ => h ..⟩
  · obtain ⟨a4_0, a4_1, ⟨a4_2, a4_3, a4_4⟩, a4_5⟩ := a4; refine ⟨fun ρ K => by rw [h1, h2, h3, h4]; rfl, .inr ⟨bodyOf Tryd.prog 38 9, by kernel_rfl, fun ρ K => ?_⟩⟩
    rw [parkN, h1, h2, h3, h4]
    exact (gl38_9_0 (Tabs k) ρ K a1 a2 a3 ⟨a4_0, a4_1, ⟨a4_2, a4_3, a4_4⟩, a4_5⟩ a5).symm

theorem ul43_0_0 (k : Nat) (st : St sig) : UQ k 43 1 0 st fun j ρ K => Rl43_0_0 (Tabs j) ρ (seenV (PK 43 1 0 0) st) (seenM 1 (PK 43 1 0 0) st) st.dfs st.nt K := by
  rcases rl43_0_0 (seenV (PK 43 1 0 0) st) (seenM 1 (PK 43 1 0 0) st) st.dfs st.nt with h | ⟨a1, a2, h1, h2, h3, h4⟩
  · exact ⟨fun _ _ => h .., .inl fun _ _ => h ..⟩
  · refine ⟨fun ρ K => by rw [h1, h2, h3, h4]; rfl, .inr ⟨bodyOf Tryd.prog 43 0, by kernel_rfl, fun ρ K => ?_⟩⟩
    rw [parkN, h1, h2, h3, h4]
    exact (gl43_0_0 (Tabs k) ρ K a1 a2).symm

theorem ul47_2_0 (k : Nat) (st : St sig) : UQ k 47 1 2 st fun j ρ K => Rl47_2_0 (Tabs j) ρ (seenV (PK 47 1 2 0) st) (seenM 1 (PK 47 1 2 0) st) st.dfs st.nt K := by
  rcases rl47_2_0 (seenV (PK 47 1 2 0) st) (seenM 1 (PK 47 1 2 0) st) st.dfs st.nt with h | ⟨a1, a2, a3, a4, h1, h2, h3, h4⟩
  · exact ⟨fun _ _ => h .., .inl fun _ _ => h ..⟩
  · obtain ⟨a3_0, a3_1, a3_2⟩ := a3; obtain ⟨a4_0, a4_1, a4_2⟩ := a4; refine ⟨fun ρ K => by rw [h1, h2, h3, h4]; rfl, .inr ⟨bodyOf Tryd.prog 47 2, by kernel_rfl, fun ρ K => ?_⟩⟩
    rw [parkN, h1, h2, h3, h4]
    exact (gl47_2_0 (Tabs k) ρ K a1 a2 ⟨a3_0, a3_1, a3_2⟩ ⟨a4_0, a4_1, a4_2⟩).symm

theorem ul56_32_0 (k : Nat) (st : St sig) : UQ k 56 1 32 st fun j ρ K => Rl56_32_0 (Tabs j) ρ (seenV (PK 56 1 32 0) st) (seenM 1 (PK 56 1 32 0) st) st.dfs st.nt K := by
  rcases rl56_32_0 (seenV (PK 56 1 32 0) st) (seenM 1 (PK 56 1 32 0) st) st.dfs st.nt with h | ⟨a1, a2, a3, a4, a5, a6, a7, h1, h2, h3, h4⟩
  · exact ⟨fun _ _ => h .., .inl fun _ _ => h ..⟩
  · obtain ⟨a6_0, a6_1, a6_2, a6_3, ⟨a6_4, a6_5, a6_6⟩, a6_7⟩ := a6; obtain ⟨a7_0, a7_1, a7_2, a7_3, ⟨a7_4, a7_5, a7_6⟩, a7_7⟩ := a7; refine ⟨fun ρ K => by rw [h1, h2, h3, h4]; rfl, .inr ⟨bodyOf Tryd.prog 56 32, by kernel_rfl, fun ρ K => ?_⟩⟩
    rw [parkN, h1, h2, h3, h4]
    exact (gl56_32_0 (Tabs k) ρ K a1 a2 a3 a4 a5 ⟨a6_0, a6_1, a6_2, a6_3, ⟨a6_4, a6_5, a6_6⟩, a6_7⟩ ⟨a7_0, a7_1, a7_2, a7_3, ⟨a7_4, a7_5, a7_6⟩, a7_7⟩).symm

theorem ul58_2_0 (k : Nat) (st : St sig) : UQ k 58 0 2 st fun j ρ K => Rl58_2_0 (Tabs j) ρ (seenV (PK 58 0 2 0) st) (seenM 0 (PK 58 0 2 0) st) st.dfs st.nt K := by
  rcases rl58_2_0 (seenV (PK 58 0 2 0) st) (seenM 0 (PK 58 0 2 0) st) st.dfs st.nt with h | ⟨a1, a2, a3, a4, h1, h2, h3, h4⟩
  · exact ⟨fun _ _ => h .., .inl fun _ _ => h ..⟩
  · refine ⟨fun ρ K => by rw [h1, h2, h3, h4]; rfl, .inr ⟨bodyOf Tryd.prog 58 2, by kernel_rfl, fun ρ K => ?_⟩⟩
    rw [parkN, h1, h2, h3, h4]
    exact (gl58_2_0 (Tabs k) ρ K a1 a2 a3 a4).symm

theorem ul65_2_0 (k : Nat) (st : St sig) : UQ k 65 1 2 st fun j ρ K => Rl65_2_0 (Tabs j) ρ (seenV (PK 65 1 2 0) st) (seenM 1 (PK 65 1 2 0) st) st.dfs st.nt K := by
  rcases rl65_2_0 (seenV (PK 65 1 2 0) st) (seenM 1 (PK 65 1 2 0) st) st.dfs st.nt with h | ⟨a1, a2, a3, a4, h1, h2, h3, h4⟩
  · exact ⟨fun _ _ => h .., .inl fun _ _ => h ..⟩
  · refine ⟨fun ρ K => by rw [h1, h2, h3, h4]; rfl, .inr ⟨bodyOf Tryd.prog 65 2, by kernel_rfl, fun ρ K => ?_⟩⟩
    rw [parkN, h1, h2, h3, h4]
    exact (gl65_2_0 (Tabs k) ρ K a1 a2 a3 a4).symm

theorem ul80_2_0 (k : Nat) (st : St sig) : UQ k 80 0 2 st fun j ρ K => Rl80_2_0 (Tabs j) ρ (seenV (PK 80 0 2 0) st) (seenM 0 (PK 80 0 2 0) st) st.dfs st.nt K := by
  rcases rl80_2_0 (seenV (PK 80 0 2 0) st) (seenM 0 (PK 80 0 2 0) st) st.dfs st.nt with h | ⟨a1, a2, a3, a4, h1, h2, h3, h4⟩
  · exact ⟨fun _ _ => h .., .inl fun _ _ => h ..⟩
  · refine ⟨fun ρ K => by rw [h1, h2, h3, h4]; rfl, .inr ⟨bodyOf Tryd.prog 80 2, by kernel_rfl, fun ρ K => ?_⟩⟩
    rw [parkN, h1, h2, h3, h4]
    exact (gl80_2_0 (Tabs k) ρ K a1 a2 a3 a4).symm

theorem ul81_2_0 (k : Nat) (st : St sig) : UQ k 81 1 2 st fun j ρ K => Rl81_2_0 (Tabs j) ρ (seenV (PK 81 1 2 0) st) (seenM 1 (PK 81 1 2 0) st) st.dfs st.nt K := by
  rcases rl81_2_0 (seenV (PK 81 1 2 0) st) (seenM 1 (PK 81 1 2 0) st) st.dfs st.nt with h | ⟨a1, a2, a3, a4, h1, h2, h3, h4⟩
  · exact ⟨fun _ _ => h .., .inl fun _ _ => h ..⟩
  · refine ⟨fun ρ K => by rw [h1, h2, h3, h4]; rfl, .inr ⟨bodyOf Tryd.prog 81 2, by kernel_rfl, fun ρ K => ?_⟩⟩
    rw [parkN, h1, h2, h3, h4]
    exact (gl81_2_0 (Tabs k) ρ K a1 a2 a3 a4).symm

theorem ul82_4_0 (k : Nat) (st : St sig) : UQ k 82 0 4 st fun j ρ K => Rl82_4_0 (Tabs j) ρ (seenV (PK 82 0 4 0) st) (seenM 0 (PK 82 0 4 0) st) st.dfs st.nt K := by
  rcases rl82_4_0 (seenV (PK 82 0 4 0) st) (seenM 0 (PK 82 0 4 0) st) st.dfs st.nt with h | ⟨a1, a2, a3, h1, h2, h3, h4⟩
  · exact ⟨fun _ _ => h .., .inl fun _ _ => h ..⟩
  · refine ⟨fun ρ K => by rw [h1, h2, h3, h4]; rfl, .inr ⟨bodyOf Tryd.prog 82 4, by kernel_rfl, fun ρ K => ?_⟩⟩
    rw [parkN, h1, h2, h3, h4]
    exact (gl82_4_0 (Tabs k) ρ K a1 a2 a3).symm

theorem ul84_1_0 (k : Nat) (st : St sig) : UQ k 84 0 1 st fun j ρ K => Rl84_1_0 (Tabs j) ρ (seenV (PK 84 0 1 0) st) (seenM 0 (PK 84 0 1 0) st) st.dfs st.nt K := by
  rcases rl84_1_0 (seenV (PK 84 0 1 0) st) (seenM 0 (PK 84 0 1 0) st) st.dfs st.nt with h | ⟨a1, a2, h1, h2, h3, h4⟩
  · exact ⟨fun _ _ => h .., .inl fun _ _ => h ..⟩
  · refine ⟨fun ρ K => by rw [h1, h2, h3, h4]; rfl, .inr ⟨bodyOf Tryd.prog 84 1, by kernel_rfl, fun ρ K => ?_⟩⟩
    rw [parkN, h1, h2, h3, h4]
    exact (gl84_1_0 (Tabs k) ρ K a1 a2).symm

theorem tL (k f np key : Nat) (st : St sig) : UQ k f np key st fun j ρ K => LT (Tabs j) ρ f np key st K := by
  unfold LT
  exact dL (ul8_4_0 k st) <|
    dL (ul8_9_0 k st) <|
    dL (ul8_16_0 k st) <|
    dL (ul8_22_0 k st) <|
    dL (ul8_27_0 k st) <|
    dL (ul8_33_0 k st) <|
    dL (ul15_4_0 k st) <|
    dL (ul20_11_0 k st) <|
    dL (ul22_20_0 k st) <|
    dL (ul24_3_0 k st) <|
    dL (ul25_18_0 k st) <|
    dL (ul28_6_0 k st) <|
    dL (ul30_4_0 k st) <|
    dL (ul38_9_0 k st) <|
    dL (ul43_0_0 k st) <|
    dL (ul47_2_0 k st) <|
    dL (ul56_32_0 k st) <|
    dL (ul58_2_0 k st) <|
    dL (ul65_2_0 k st) <|
    dL (ul80_2_0 k st) <|
    dL (ul81_2_0 k st) <|
    dL (ul82_4_0 k st) <|
    dL (ul84_1_0 k st) ⟨fun _ _ => rfl, .inl fun _ _ => rfl⟩

theorem levels : Levels Tryd.prog lay hints dfT PK (fun k => T (Tabs k)) (fun k => LT (Tabs k)) where
  t0 ρ f args m K := (tT 0 f args m).1 ρ K
  l0 ρ f np key st K := (tL 0 f np key st).1 ρ K
  t k f args m := (tT k f args m).2
  l k f np key st := (tL k f np key st).2

end Go.Proofs.YtanfoijdfcnpoaaDoor.Ev
