/- This file proves what the typed functions of layer 4 compute: small simple types, what is allowed, what is the same, the examples; without any condition. -/
import Derived.Test.YtcgbfghdcjmaeaaP5
set_option linter.unusedVariables false
set_option linter.unusedSimpArgs false
namespace Go.Proofs.Ytcgbfghdcjmaeaa.Ev

/-! ### The program's 'small' -/

theorem s80l : ∀ (post pre l : List Sm) (i n : Int), l = pre ++ post → i = (pre.length : Int) → i ≤ n → 0 ≤ n → n ≤ 600 →
    (∀ x ∈ post, ∀ n : Int, 0 ≤ n → n ≤ 600 → ∃ b n', n < n' ∧ n' ≤ 601 ∧ (b = true ↔ n + x.size ≤ 600 ∧ ConOk x) ∧ (b = true → n' = n + x.size) ∧ Evt fun k => ∀ ρ K, (Tabs k).c80_0 ρ x n K = K b n') →
    ∃ b n' j, n ≤ n' ∧ n' ≤ 601 ∧ 0 ≤ j ∧ (b = true ↔ n + ssizeL post ≤ 600 ∧ ConOkL post) ∧ (b = true → n' = n + ssizeL post) ∧
      Evt fun k => ∀ ρ K0 K1, (Tabs k).l82_2_1 ρ l (l.length : Int) i n K0 K1 = cond b (K0 n') (K1 j n') := by
  intro post
  induction post with
  | nil =>
    intro pre l i n hl hi hin h0 h1 _
    refine ⟨true, n, 0, by omega, by omega, by omega, by simp [ssizeL, ConOkL]; omega, by simp [ssizeL], Evt.step0 fun k ρ K0 K1 => ?_⟩
    show Gl82_2_1 (Tabs k) ρ _ _ _ _ K0 K1 = _
    simp only [Gl82_2_1, endL hl hi, cond_false, cond_true]
  | cons x r ih =>
    intro pre l i n hl hi hin h0 h1 hx
    obtain ⟨m1, m2, m3⟩ := midSm hl hi
    obtain ⟨b, n1, g1, g2, g3, g4, g5⟩ := hx x (List.mem_cons_self ..) n h0 h1
    have h88 : Evt fun k => ∀ ρ K, (Tabs k).c88_0 ρ x n K = K (!b) n1 := by
      refine g5.step fun k hk ρ K => ?_
      show Gc88_0 (Tabs k) ρ _ _ K = _
      simp only [Gc88_0, Sm.eta, hk]
    cases b with
    | false =>
      refine ⟨false, n1, i, by omega, g2, by omega, ?_, by simp, h88.step fun k hk ρ K0 K1 => ?_⟩
      · constructor
        · intro h; cases h
        · rintro ⟨a, b⟩
          simp only [ssizeL, ConOkL] at a b
          have := g3.2 ⟨by omega, b.1⟩
          cases this
      · show Gl82_2_1 (Tabs k) ρ _ _ _ _ K0 K1 = _
        simp only [Gl82_2_1, m1, m2, m3, cond_true, Bool.and_true, Sm.eta, hk, Bool.not_false, cond_false]
    | true =>
      have e1 := g4 rfl
      have e2 := g3.1 rfl
      obtain ⟨b2, n2, j, f1, f2, f3, f4, f5, f6⟩ := ih (pre ++ [x]) l (i + 1) n1 (nextL hl) (nextI hi) (by omega) (by omega) (by omega) (fun y hy => hx y (List.mem_cons_of_mem _ hy))
      refine ⟨b2, n2, j, by omega, f2, f3, ?_, ?_, (h88.and f6).step fun k hk ρ K0 K1 => ?_⟩
      · rw [f4]; simp only [ssizeL, ConOkL]
        constructor
        · rintro ⟨a, b⟩; exact ⟨by omega, e2.2, b⟩
        · rintro ⟨a, _, b⟩; exact ⟨by omega, b⟩
      · intro h; rw [f5 h]; simp only [ssizeL]; omega
      · show Gl82_2_1 (Tabs k) ρ _ _ _ _ K0 K1 = _
        simp only [Gl82_2_1, m1, m2, m3, cond_true, Bool.and_true, Sm.eta, hk.1, Bool.not_true, cond_false, W_id (show -9223372036854775808 ≤ i + 1 by omega) (by omega), hk.2]

theorem s80 (s : Sm) : ∀ n : Int, 0 ≤ n → n ≤ 600 → ∃ b n', n < n' ∧ n' ≤ 601 ∧ (b = true ↔ n + s.size ≤ 600 ∧ ConOk s) ∧ (b = true → n' = n + s.size) ∧ Evt fun k => ∀ ρ K, (Tabs k).c80_0 ρ s n K = K b n' := by
  refine Sm.ind (p := fun s => ∀ n : Int, 0 ≤ n → n ≤ 600 → ∃ b n', n < n' ∧ n' ≤ 601 ∧ (b = true ↔ n + s.size ≤ 600 ∧ ConOk s) ∧ (b = true → n' = n + s.size) ∧ Evt fun k => ∀ ρ K, (Tabs k).c80_0 ρ s n K = K b n') ?_ s
  intro args con ih n h0 h1
  have hw := W_id (show -9223372036854775808 ≤ n + 1 by omega) (by omega)
  by_cases c1 : n + 1 > 600
  · refine ⟨false, n + 1, by omega, by omega, ?_, by simp, Evt.step0 fun k ρ K => ?_⟩
    · constructor
      · intro h; cases h
      · rintro ⟨a, _⟩; simp only [Sm.size] at a; omega
    · show Gc80_0 (Tabs k) ρ _ _ K = _
      simp only [Gc80_0, hw, c1, decide_true, cond_true]
  by_cases c2 : con < 0
  · refine ⟨false, n + 1, by omega, by omega, ?_, by simp, Evt.step0 fun k ρ K => ?_⟩
    · constructor
      · intro h; cases h
      · rintro ⟨_, a⟩; simp only [ConOk] at a; omega
    · show Gc80_0 (Tabs k) ρ _ _ K = _
      simp only [Gc80_0, hw, c1, c2, decide_true, decide_false, cond_true, cond_false]
  by_cases c3 : con > 9999
  · refine ⟨false, n + 1, by omega, by omega, ?_, by simp, Evt.step0 fun k ρ K => ?_⟩
    · constructor
      · intro h; cases h
      · rintro ⟨_, a⟩; simp only [ConOk] at a; omega
    · show Gc80_0 (Tabs k) ρ _ _ K = _
      simp only [Gc80_0, hw, c1, c2, c3, decide_true, decide_false, cond_true, cond_false]
  obtain ⟨b, n', j, f1, f2, f3, f4, f5, f6⟩ := s80l args [] args 0 (n + 1) rfl rfl (by omega) (by omega) (by omega) ih
  have h66 : Evt fun k => ∀ ρ K, (Tabs k).c66_1 ρ args (n + 1) K = K (!b) n' := by
    have h82 : Evt fun k => ∀ ρ K, (Tabs k).c82_1 ρ args (n + 1) K = cond b (K (-1) n') (K j n') := by
      refine f6.step fun k hk ρ K => ?_
      show Gc82_1 (Tabs k) ρ _ _ K = _
      simp only [Gc82_1, hk]
    refine h82.step fun k hk ρ K => ?_
    show Gc66_1 (Tabs k) ρ _ _ K = _
    simp only [Gc66_1, hk]
    cases b with
    | true => rfl
    | false => simp [f3]
  refine ⟨b, n', by omega, f2, ?_, ?_, h66.step fun k hk ρ K => ?_⟩
  · rw [f4]; simp only [Sm.size, ConOk]
    constructor
    · rintro ⟨a, b⟩; exact ⟨by omega, by omega, b⟩
    · rintro ⟨a, _, b⟩; exact ⟨by omega, b⟩
  · intro h; rw [f5 h]; simp only [Sm.size]; omega
  · show Gc80_0 (Tabs k) ρ _ _ K = _
    simp only [Gc80_0, hw, c1, c2, c3, decide_false, cond_false, hk, Bool.not_not]

theorem s64 (s : Sm) : Evt fun k => ∀ ρ K, (Tabs k).c64_0 ρ s K = K (smB s) := by
  obtain ⟨b, n', _, _, h, _, hk⟩ := s80 s 0 (by omega) (by omega)
  refine hk.step fun k hk ρ K => ?_
  show Gc64_0 (Tabs k) ρ _ K = _
  simp only [Gc64_0, Sm.eta, hk]
  congr 1
  rw [Bool.eq_iff_iff, h, smB_iff]
  unfold Small
  exact ⟨fun h => ⟨by have := h.1; omega, h.2⟩, fun h => ⟨by have := h.1; omega, h.2⟩⟩

theorem s66l : ∀ (post pre l : List Sm) (i : Int), l = pre ++ post → i = (pre.length : Int) → l.length ≤ 2000 → ∃ j : Int, 0 ≤ j ∧
    Evt fun k => ∀ ρ K0 K1, (Tabs k).l82_2_0 ρ l (l.length : Int) i K0 K1 = cond (post.all smB) K0 (K1 j) := by
  intro post
  induction post with
  | nil =>
    intro pre l i hl hi _
    refine ⟨0, by omega, Evt.step0 fun k ρ K0 K1 => ?_⟩
    show Gl82_2_0 (Tabs k) ρ _ _ _ K0 K1 = _
    simp only [Gl82_2_0, endL hl hi, cond_false, List.all_nil, cond_true]
  | cons x r ih =>
    intro pre l i hl hi hlen
    obtain ⟨m1, m2, m3⟩ := midSm hl hi
    have hlen2 := lenL hl hi
    have h67 : Evt fun k => ∀ ρ K, (Tabs k).c67_0 ρ x K = K (!(smB x)) := by
      refine (s64 x).step fun k hk ρ K => ?_
      show Gc67_0 (Tabs k) ρ _ K = _
      simp only [Gc67_0, Sm.eta, hk]
    cases hb : smB x with
    | false =>
      refine ⟨i, by omega, h67.step fun k hk ρ K0 K1 => ?_⟩
      show Gl82_2_0 (Tabs k) ρ _ _ _ K0 K1 = _
      simp only [Gl82_2_0, m1, m2, m3, cond_true, Bool.and_true, Sm.eta, hk, hb, Bool.not_false, List.all_cons, Bool.false_and, cond_false]
    | true =>
      obtain ⟨j, hj, h⟩ := ih (pre ++ [x]) l (i + 1) (nextL hl) (nextI hi) hlen
      refine ⟨j, hj, (h67.and h).step fun k hk ρ K0 K1 => ?_⟩
      show Gl82_2_0 (Tabs k) ρ _ _ _ K0 K1 = _
      simp only [Gl82_2_0, m1, m2, m3, cond_true, Bool.and_true, Sm.eta, hk.1, hb, Bool.not_true, cond_false, W_id (show -9223372036854775808 ≤ i + 1 by omega) (by omega), hk.2, List.all_cons, Bool.true_and]

theorem s66 (l : List Sm) (h : l.length ≤ 2000) : Evt fun k => ∀ ρ K, (Tabs k).c66_0 ρ l K = K (!(l.all smB)) := by
  obtain ⟨j, hj, hk⟩ := s66l l [] l 0 rfl rfl h
  have h82 : Evt fun k => ∀ ρ K, (Tabs k).c82_0 ρ l K = cond (l.all smB) (K (-1)) (K j) := by
    refine hk.step fun k hk ρ K => ?_
    show Gc82_0 (Tabs k) ρ _ K = _
    simp only [Gc82_0, hk]
  refine h82.step fun k hk ρ K => ?_
  show Gc66_0 (Tabs k) ρ _ K = _
  simp only [Gc66_0, hk]
  cases l.all smB with
  | true => rfl
  | false => simp [hj]

def numB (n : Int) : Bool := decide (0 ≤ n) && decide (n ≤ 9999)

theorem s68l : ∀ (post pre l : List Int) (i : Int), l = pre ++ post → i = (pre.length : Int) → l.length ≤ 2000 → ∃ j : Int, 0 ≤ j ∧
    Evt fun k => ∀ ρ K0 K1, (Tabs k).l83_2_0 ρ l (l.length : Int) i K0 K1 = cond (post.all numB) K0 (K1 j) := by
  intro post
  induction post with
  | nil =>
    intro pre l i hl hi _
    refine ⟨0, by omega, Evt.step0 fun k ρ K0 K1 => ?_⟩
    show Gl83_2_0 (Tabs k) ρ _ _ _ K0 K1 = _
    simp only [Gl83_2_0, endL hl hi, cond_false, List.all_nil, cond_true]
  | cons x r ih =>
    intro pre l i hl hi hlen
    obtain ⟨m1, m2, m3⟩ := midInt hl hi
    have hlen2 := lenL hl hi
    have h69 : Evt fun k => ∀ ρ K, (Tabs k).c69_0 ρ x K = K (!(numB x)) := by
      refine Evt.step0 fun k ρ K => ?_
      show Gc69_0 (Tabs k) ρ _ K = _
      unfold Gc69_0 numB
      by_cases c1 : x < 0
      · have : ¬ 0 ≤ x := by omega
        simp [c1, this]
      · have c0 : 0 ≤ x := by omega
        by_cases c2 : x > 9999
        · have : ¬ x ≤ 9999 := by omega
          simp [c1, c0, c2, this]
        · have : x ≤ 9999 := by omega
          simp [c1, c0, c2, this]
    cases hb : numB x with
    | false =>
      refine ⟨i, by omega, h69.step fun k hk ρ K0 K1 => ?_⟩
      show Gl83_2_0 (Tabs k) ρ _ _ _ K0 K1 = _
      simp only [Gl83_2_0, m1, m2, m3, cond_true, Bool.and_true, hk, hb, Bool.not_false, List.all_cons, Bool.false_and, cond_false]
    | true =>
      obtain ⟨j, hj, h⟩ := ih (pre ++ [x]) l (i + 1) (nextL hl) (nextI hi) hlen
      refine ⟨j, hj, (h69.and h).step fun k hk ρ K0 K1 => ?_⟩
      show Gl83_2_0 (Tabs k) ρ _ _ _ K0 K1 = _
      simp only [Gl83_2_0, m1, m2, m3, cond_true, Bool.and_true, hk.1, hb, Bool.not_true, cond_false, W_id (show -9223372036854775808 ≤ i + 1 by omega) (by omega), hk.2, List.all_cons, Bool.true_and]

theorem s68 (l : List Int) (h : l.length ≤ 2000) : Evt fun k => ∀ ρ K, (Tabs k).c68_0 ρ l K = K (!(l.all numB)) := by
  obtain ⟨j, hj, hk⟩ := s68l l [] l 0 rfl rfl h
  have h83 : Evt fun k => ∀ ρ K, (Tabs k).c83_0 ρ l K = cond (l.all numB) (K (-1)) (K j) := by
    refine hk.step fun k hk ρ K => ?_
    show Gc83_0 (Tabs k) ρ _ K = _
    simp only [Gc83_0, hk]
  refine h83.step fun k hk ρ K => ?_
  show Gc68_0 (Tabs k) ρ _ K = _
  simp only [Gc68_0, hk]
  cases l.all numB with
  | true => rfl
  | false => simp [hj]

theorem s39l (a1 : List Sm) (a2 : List Int) : ∀ (post pre l : List Tm) (i : Int), l = pre ++ post → i = (pre.length : Int) → l.length ≤ 2000 →
    Evt fun k => ∀ ρ K0 K1, (Tabs k).l39_4_0 ρ a1 a2 l (l.length : Int) i K0 K1 = cond (post.all prB) (K0 a1 a2) (K1 false) := by
  intro post
  induction post with
  | nil =>
    intro pre l i hl hi _
    refine Evt.step0 fun k ρ K0 K1 => ?_
    show Gl39_4_0 (Tabs k) ρ _ _ _ _ _ K0 K1 = _
    simp only [Gl39_4_0, endL hl hi, cond_false, List.all_nil, cond_true]
  | cons x r ih =>
    intro pre l i hl hi hlen
    obtain ⟨m1, m2, m3⟩ := midTm hl hi
    have hlen2 := lenL hl hi
    by_cases hp : Proper x
    · refine ((s53 x).and (ih (pre ++ [x]) l (i + 1) (nextL hl) (nextI hi) hlen)).step fun k hk ρ K0 K1 => ?_
      show Gl39_4_0 (Tabs k) ρ _ _ _ _ _ K0 K1 = _
      simp only [Gl39_4_0, m1, m2, m3, cond_true, Bool.and_true, Tm.eta, hk.1, chk_ok hp, show ((0 : Int) != 0) = false by rfl, cond_false, W_id (show -9223372036854775808 ≤ i + 1 by omega) (by omega), hk.2, List.all_cons, prB_ok hp, Bool.true_and]
    · refine (s53 x).step fun k hk ρ K0 K1 => ?_
      show Gl39_4_0 (Tabs k) ρ _ _ _ _ _ K0 K1 = _
      simp only [Gl39_4_0, m1, m2, m3, cond_true, Bool.and_true, Tm.eta, hk, chk_no hp, show ((2 : Int) != 0) = true by rfl, List.all_cons, prB_no hp, Bool.false_and, cond_false]

noncomputable def goodB (l : List Tm) (ss : List Sm) (ns : List Int) : Bool := decide (l.length ≤ 601) && (l.all prB && (ss.all smB && ns.all numB))

theorem s39 (l : List Tm) (ss : List Sm) (ns : List Int) (h1 : ss.length ≤ 2000) (h2 : ns.length ≤ 2000) : Evt fun k => ∀ ρ K, (Tabs k).c39_0 ρ l ss ns K = K (goodB l ss ns) := by
  by_cases c : l.length ≤ 601
  · refine ((s39l ss ns l [] l 0 rfl rfl (by omega)).and ((s66 ss h1).and (s68 ns h2))).step fun k hk ρ K => ?_
    show Gc39_0 (Tabs k) ρ _ _ _ K = _
    have : ¬ (l.length : Int) > 601 := by omega
    simp only [Gc39_0, this, decide_false, cond_false, hk.1, hk.2.1, hk.2.2, Bool.not_not, goodB, c, decide_true, Bool.true_and]
    cases l.all prB <;> cases ss.all smB <;> simp
  · refine Evt.step0 fun k ρ K => ?_
    show Gc39_0 (Tabs k) ρ _ _ _ K = _
    have : (l.length : Int) > 601 := by omega
    simp only [Gc39_0, this, decide_true, cond_true, goodB, c, decide_false, Bool.false_and]

/-! ### The reference's -/

theorem s49 (s : Sm) : ∀ most : Int, 0 ≤ most → most ≤ 600 → ∃ r : Int, (r = -1 ∨ 1 ≤ r) ∧ r ≤ most + 1 ∧ (0 ≤ r ∧ r ≤ most ↔ (s.size : Int) ≤ most ∧ ConOk s) ∧ (0 ≤ r → r ≤ most → r = s.size) ∧ (r = -1 → ¬ ConOk s) ∧
    Evt fun k => ∀ ρ K, (Tabs k).c49_0 ρ s most K = K r := by
  refine Sm.ind (p := fun s => ∀ most : Int, 0 ≤ most → most ≤ 600 → ∃ r : Int, (r = -1 ∨ 1 ≤ r) ∧ r ≤ most + 1 ∧ (0 ≤ r ∧ r ≤ most ↔ (s.size : Int) ≤ most ∧ ConOk s) ∧ (0 ≤ r → r ≤ most → r = s.size) ∧ (r = -1 → ¬ ConOk s) ∧
    Evt fun k => ∀ ρ K, (Tabs k).c49_0 ρ s most K = K r) ?_ s
  intro args con ih most h0 h1
  have loop : ∀ (post pre l : List Sm) (i n : Int), l = pre ++ post → i = (pre.length : Int) → i < n → 1 ≤ n → n ≤ most + 1 →
      (∀ x ∈ post, ∀ most : Int, 0 ≤ most → most ≤ 600 → ∃ r : Int, (r = -1 ∨ 1 ≤ r) ∧ r ≤ most + 1 ∧ (0 ≤ r ∧ r ≤ most ↔ (x.size : Int) ≤ most ∧ ConOk x) ∧ (0 ≤ r → r ≤ most → r = x.size) ∧ (r = -1 → ¬ ConOk x) ∧ Evt fun k => ∀ ρ K, (Tabs k).c49_0 ρ x most K = K r) →
      ∃ o : Option Int, (match o with | none => ¬ ConOkL post | some n' => 1 ≤ n' ∧ n' ≤ most + 1 ∧ (n' ≤ most ↔ n + ssizeL post ≤ most ∧ ConOkL post) ∧ (n' ≤ most → n' = n + ssizeL post)) ∧
        Evt fun k => ∀ ρ K0 K1, (Tabs k).l49_5_0 ρ most n i ⟨l, con⟩ K0 K1 = match o with | none => K0 (-1) | some n' => K1 most n' := by
    intro post
    induction post with
    | nil =>
      intro pre l i n hl hi hin hn hn1 _
      refine ⟨some n, ⟨hn, hn1, by simp [ssizeL, ConOkL], by simp [ssizeL]⟩, Evt.step0 fun k ρ K0 K1 => ?_⟩
      show Gl49_5_0 (Tabs k) ρ _ _ _ _ K0 K1 = _
      simp only [Gl49_5_0, endL hl hi, cond_false]
    | cons x r ihl =>
      intro pre l i n hl hi hin hn hn1 hx
      obtain ⟨m1, m2, m3⟩ := midSm hl hi
      have hpos := x.size_pos
      by_cases hm : n ≤ most
      · obtain ⟨q, q1, q2, q3, q4, q5, q6⟩ := hx x (List.mem_cons_self ..) (most - n) (by omega) (by omega)
        by_cases hq : q = -1
        · refine ⟨none, fun h => q5 hq (by simp only [ConOkL] at h; exact h.1), q6.step fun k hk ρ K0 K1 => ?_⟩
          show Gl49_5_0 (Tabs k) ρ _ _ _ _ K0 K1 = _
          simp only [Gl49_5_0, m1, m2, m3, hm, decide_true, cond_true, Bool.and_true, Sm.eta, W_id (show -9223372036854775808 ≤ most - n by omega) (by omega), hk, hq, show decide ((-1 : Int) < 0) = true by rfl]
        · have hq1 : 1 ≤ q := by omega
          obtain ⟨o, ho, hev⟩ := ihl (pre ++ [x]) l (i + 1) (n + q) (nextL hl) (nextI hi) (by omega) (by omega) (by omega) (fun y hy => hx y (List.mem_cons_of_mem _ hy))
          have hqn : ¬ q < 0 := by omega
          refine ⟨o, ?_, (q6.and hev).step fun k hk ρ K0 K1 => ?_⟩
          · cases o with
            | none => intro h; simp only [ConOkL] at h; exact ho h.2
            | some n' =>
              obtain ⟨o1, o2, o3, o4⟩ := ho
              refine ⟨o1, o2, ?_, ?_⟩
              · rw [o3]; simp only [ssizeL, ConOkL]
                constructor
                · rintro ⟨a, b⟩
                  have := q3.1 ⟨by omega, by omega⟩
                  have := q4 (by omega) (by omega)
                  exact ⟨by omega, by have := q3.1 ⟨by omega, by omega⟩; exact this.2, b⟩
                · rintro ⟨a, b, c⟩
                  have h' := q3.2 ⟨by omega, b⟩
                  have := q4 h'.1 h'.2
                  exact ⟨by omega, c⟩
              · intro h
                have h1 := o4 h
                have h2 := o3.1 h
                have := q4 (by omega) (by omega)
                simp only [ssizeL]; omega
          · show Gl49_5_0 (Tabs k) ρ _ _ _ _ K0 K1 = _
            simp only [Gl49_5_0, m1, m2, m3, hm, decide_true, cond_true, Bool.and_true, Sm.eta, W_id (show -9223372036854775808 ≤ most - n by omega) (by omega), hk.1, hqn, decide_false, cond_false, W_id (show -9223372036854775808 ≤ n + q by omega) (by omega), W_id (show -9223372036854775808 ≤ i + 1 by omega) (by omega), hk.2]
      · refine ⟨some n, ⟨hn, hn1, ?_, fun h => absurd h hm⟩, Evt.step0 fun k ρ K0 K1 => ?_⟩
        · constructor
          · intro h; exact absurd h hm
          · rintro ⟨a, _⟩; omega
        · show Gl49_5_0 (Tabs k) ρ _ _ _ _ K0 K1 = _
          simp only [Gl49_5_0, m2, hm, decide_false, cond_true, cond_false]
  by_cases c1 : con < 0
  · refine ⟨-1, .inl rfl, by omega, ?_, by omega, fun _ h => ?_, Evt.step0 fun k ρ K => ?_⟩
    · simp only [ConOk]; omega
    · simp only [ConOk] at h; omega
    · show Gc49_0 (Tabs k) ρ _ _ K = _
      simp only [Gc49_0, c1, decide_true, cond_true]
  by_cases c2 : con > 9999
  · refine ⟨-1, .inl rfl, by omega, ?_, by omega, fun _ h => ?_, Evt.step0 fun k ρ K => ?_⟩
    · simp only [ConOk]; omega
    · simp only [ConOk] at h; omega
    · show Gc49_0 (Tabs k) ρ _ _ K = _
      simp only [Gc49_0, c1, c2, decide_true, decide_false, cond_true, cond_false]
  obtain ⟨o, ho, hev⟩ := loop args [] args 0 1 rfl rfl (by omega) (by omega) (by omega) ih
  cases o with
  | none =>
    refine ⟨-1, .inl rfl, by omega, ?_, by omega, fun _ h => ho (by simp only [ConOk] at h; exact h.2), hev.step fun k hk ρ K => ?_⟩
    · constructor
      · intro h; omega
      · rintro ⟨_, h⟩; simp only [ConOk] at h; exact absurd h.2 ho
    · show Gc49_0 (Tabs k) ρ _ _ K = _
      simp only [Gc49_0, c1, c2, decide_false, cond_false, Sm.eta, hk]
  | some n' =>
    obtain ⟨o1, o2, o3, o4⟩ := ho
    refine ⟨n', .inr o1, o2, ?_, ?_, by omega, hev.step fun k hk ρ K => ?_⟩
    · have : (0 ≤ n' ∧ n' ≤ most) ↔ n' ≤ most := ⟨fun h => h.2, fun h => ⟨by omega, h⟩⟩
      rw [this, o3]; simp only [Sm.size, ConOk]
      constructor
      · rintro ⟨a, b⟩; exact ⟨by omega, by omega, b⟩
      · rintro ⟨a, _, b⟩; exact ⟨by omega, b⟩
    · intro _ h; rw [o4 h]; simp only [Sm.size]; omega
    · show Gc49_0 (Tabs k) ρ _ _ K = _
      have : min2 n' (most + 1) = n' := by rw [min2_eq]; omega
      simp only [Gc49_0, c1, c2, decide_false, cond_false, Sm.eta, hk, W_id (show -9223372036854775808 ≤ most + 1 by omega) (by omega), this]

theorem s19 (s : Sm) : Evt fun k => ∀ ρ K, (Tabs k).c19_0 ρ s K = K (smB s) := by
  obtain ⟨r, q1, q2, q3, q4, q5, hk⟩ := s49 s 600 (by omega) (by omega)
  refine hk.step fun k hk ρ K => ?_
  show Gc19_0 (Tabs k) ρ _ K = _
  have e : smB s = (decide (r ≥ 1) && decide (r ≤ 600)) := by
    rw [Bool.eq_iff_iff, smB_iff]
    simp only [Bool.and_eq_true, decide_eq_true_eq]
    unfold Small
    constructor
    · rintro ⟨a, b⟩; have := q3.2 ⟨by omega, b⟩; omega
    · rintro ⟨a, b⟩; have := q3.1 ⟨by omega, b⟩; exact ⟨by omega, this.2⟩
  rw [e]
  simp only [Gc19_0, Sm.eta, hk]
  by_cases h : r ≥ 1
  · simp [h]
  · simp [h]

theorem s42 (n : Int) : Evt fun k => ∀ ρ K, (Tabs k).c42_0 ρ n K = K (numB n) := by
  refine Evt.step0 fun k ρ K => ?_
  show Gc42_0 (Tabs k) ρ _ K = _
  unfold Gc42_0 numB
  by_cases h : 0 ≤ n
  · have : n ≥ 0 := h
    simp [this]
  · have : ¬ n ≥ 0 := h
    simp [this] <;> omega

theorem s56l : ∀ (post pre l : List Tm) (i : Int), l = pre ++ post → i = (pre.length : Int) → l.length ≤ 600 →
    Evt fun k => ∀ ρ K0 K1, (Tabs k).l56_2_0 ρ l i K0 K1 = cond (post.all prB) (K1 l) (K0 false) := by
  intro post
  induction post with
  | nil =>
    intro pre l i hl hi _
    refine Evt.step0 fun k ρ K0 K1 => ?_
    show Gl56_2_0 (Tabs k) ρ _ _ K0 K1 = _
    simp only [Gl56_2_0, endL hl hi, cond_false, List.all_nil, cond_true]
  | cons x r ih =>
    intro pre l i hl hi hlen
    obtain ⟨m1, m2, m3⟩ := midTm hl hi
    have hlen2 := lenL hl hi
    have hd : decide ((l.length : Int) ≤ 600) = true := decide_eq_true (by omega)
    refine ((s18 x).and (ih (pre ++ [x]) l (i + 1) (nextL hl) (nextI hi) hlen)).step fun k hk ρ K0 K1 => ?_
    show Gl56_2_0 (Tabs k) ρ _ _ K0 K1 = _
    simp only [Gl56_2_0, m1, m2, m3, hd, cond_true, Bool.and_true, Tm.eta, hk.1, W_id (show -9223372036854775808 ≤ i + 1 by omega) (by omega), hk.2, List.all_cons]
    cases prB x <;> rfl

noncomputable def listB (l : List Tm) : Bool := decide (l.length ≤ 600) && l.all prB

theorem s56 (l : List Tm) : Evt fun k => ∀ ρ K, (Tabs k).c56_0 ρ l K = K (listB l) := by
  by_cases c : l.length ≤ 600
  · refine (s56l l [] l 0 rfl rfl c).step fun k hk ρ K => ?_
    show Gc56_0 (Tabs k) ρ _ K = _
    have hd : decide ((l.length : Int) ≤ 600) = true := decide_eq_true (by omega)
    simp only [Gc56_0, hk, hd, listB, c, decide_true, Bool.true_and]
    cases l.all prB <;> rfl
  · have h : Evt fun k => ∀ ρ K0 K1, (Tabs k).l56_2_0 ρ l 0 K0 K1 = K1 l := by
      refine Evt.step0 fun k ρ K0 K1 => ?_
      show Gl56_2_0 (Tabs k) ρ _ _ K0 K1 = _
      have hd : decide ((l.length : Int) ≤ 600) = false := decide_eq_false (by omega)
      have hd2 : decide ((0 : Int) < (l.length : Int)) = true := decide_eq_true (by omega)
      simp only [Gl56_2_0, hd, hd2, cond_true, cond_false]
    refine h.step fun k hk ρ K => ?_
    show Gc56_0 (Tabs k) ρ _ K = _
    have hd : decide ((l.length : Int) ≤ 600) = false := decide_eq_false (by omega)
    simp only [Gc56_0, hk, hd, listB, c, decide_false, Bool.false_and]

/-! ### The same -/

noncomputable def eqT (a b : Tm) : Bool := by classical exact decide (a = b)
theorem eqT_iff {a b : Tm} : eqT a b = true ↔ a = b := by simp [eqT]

theorem s26 (a : Tm) : ∀ b : Tm, a.size ≤ 2000 → Evt fun k => ∀ ρ K, (Tabs k).c26_0 ρ a b K = K (eqT a b) := by
  refine Tm.ind (p := fun a => ∀ b : Tm, a.size ≤ 2000 → Evt fun k => ∀ ρ K, (Tabs k).c26_0 ρ a b K = K (eqT a b)) ?_ a
  intro op head nn args ih b hsz
  obtain ⟨op', head', nn', args'⟩ := b
  simp only [Tm.size] at hsz
  have loop : ∀ (post post' pre pre' l l' : List Tm) (i : Int), l = pre ++ post → l' = pre' ++ post' → pre.length = pre'.length → post.length = post'.length → i = (pre.length : Int) → sizeL l ≤ 2000 →
      (∀ x ∈ post, ∀ b : Tm, x.size ≤ 2000 → Evt fun k => ∀ ρ K, (Tabs k).c26_0 ρ x b K = K (eqT x b)) →
      ∃ r : Bool, (r = true ↔ post = post') ∧ Evt fun k => ∀ ρ K0 K1, (Tabs k).l26_4_0 ρ i ⟨op, head, nn, l⟩ ⟨op', head', nn', l'⟩ K0 K1 = cond r K1 (K0 false) := by
    intro post
    induction post with
    | nil =>
      intro post' pre pre' l l' i hl hl' hpp hll hi _ _
      refine ⟨true, ?_, Evt.step0 fun k ρ K0 K1 => ?_⟩
      · cases post' with
        | nil => simp
        | cons _ _ => simp at hll
      · show Gl26_4_0 (Tabs k) ρ _ _ _ K0 K1 = _
        simp only [Gl26_4_0, endL hl hi, cond_false, cond_true]
    | cons x r ihl =>
      intro post' pre pre' l l' i hl hl' hpp hll hi hs hx
      cases post' with
      | nil => simp at hll
      | cons y r' =>
      obtain ⟨m1, m2, m3⟩ := midTm hl hi
      obtain ⟨n1, n2, n3⟩ := midTm hl' (i := i) (by rw [hi, hpp])
      have hlen := lenL hl hi
      have hsz : sizeL l = sizeL pre + (x.size + sizeL r) := by rw [hl, sizeL_append]; rfl
      have hl2 := sizeL_len l
      simp only [List.length_cons] at hlen hll
      have g1 := hx x (List.mem_cons_self ..) y (by omega)
      obtain ⟨q, q1, q2⟩ := ihl r' (pre ++ [x]) (pre' ++ [y]) l l' (i + 1) (nextL hl) (nextL hl') (by simp [hpp]) (by omega) (nextI hi) hs (fun y hy => hx y (List.mem_cons_of_mem _ hy))
      refine ⟨eqT x y && q, ?_, (g1.and q2).step fun k hk ρ K0 K1 => ?_⟩
      · rw [Bool.and_eq_true, eqT_iff, q1, List.cons.injEq]
      · show Gl26_4_0 (Tabs k) ρ _ _ _ K0 K1 = _
        simp only [Gl26_4_0, m1, m2, m3, n1, n2, n3, cond_true, Bool.and_true, Tm.eta, hk.1, W_id (show -9223372036854775808 ≤ i + 1 by omega) (by omega), hk.2]
        cases eqT x y <;> rfl
  have no : (⟨op, head, nn, args⟩ : Tm) ≠ ⟨op', head', nn', args'⟩ → eqT ⟨op, head, nn, args⟩ ⟨op', head', nn', args'⟩ = false := fun h => by
    cases hb : eqT ⟨op, head, nn, args⟩ ⟨op', head', nn', args'⟩ with
    | false => rfl
    | true => exact absurd (eqT_iff.1 hb) h
  by_cases c : op = op' ∧ head = head' ∧ nn = nn' ∧ args.length = args'.length
  · obtain ⟨rfl, rfl, rfl, c4⟩ := c
    obtain ⟨r, q1, q2⟩ := loop args args' [] [] args args' 0 rfl rfl rfl c4 rfl (by omega) ih
    refine q2.step fun k hk ρ K => ?_
    show Gc26_0 (Tabs k) ρ _ _ K = _
    have e : eqT ⟨op, head, nn, args⟩ ⟨op, head, nn, args'⟩ = r := by
      rw [Bool.eq_iff_iff, eqT_iff, q1]; simp
    rw [e]
    simp only [Gc26_0, bne_self_eq_false, cond_false, Tm.eta, hk, c4]
    cases r <;> rfl
  · refine Evt.step0 fun k ρ K => ?_
    show Gc26_0 (Tabs k) ρ _ _ K = _
    rw [no (by simp only [ne_eq, Tm.mk.injEq]; rintro ⟨a, b, d, e⟩; exact c ⟨a, b, d, by rw [e]⟩)]
    simp only [Gc26_0, Bool.cond_eq_ite]
    repeat' split
    all_goals first
      | rfl
      | (exfalso; simp only [bne_iff_ne, ne_eq, Decidable.not_not] at *; omega)

theorem s16 {a : Tm} (b : Tm) (h : a.size ≤ 2000) (e f : Int) : Evt fun k => ∀ ρ K, (Tabs k).c16_0 ρ a e b f K = K (eqT a b && (e == f)) := by
  refine (s26 a b h).step fun k hk ρ K => ?_
  show Gc16_0 (Tabs k) ρ _ _ _ _ K = _
  simp only [Gc16_0, Tm.eta, hk]
  cases eqT a b <;> rfl

/-- The examples come out. -/
theorem awake_ok : Evt fun k => ∀ ρ K, (Tabs k).c17_0 ρ K = K true := Evt.of_add 80 fun k ρ K => by kernel_rfl

end Go.Proofs.Ytcgbfghdcjmaeaa.Ev
