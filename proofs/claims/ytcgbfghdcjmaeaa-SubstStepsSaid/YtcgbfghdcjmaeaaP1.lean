/- This file proves what the typed functions of layer 4 compute on terms (proper, kept, copies, shifts); without any condition. -/
import Derived.Test.YtcgbfghdcjmaeaaP0
set_option linter.unusedVariables false
set_option linter.unusedSimpArgs false
namespace Go.Proofs.Ytcgbfghdcjmaeaa.Ev

/-- The loop of 'proper', over the Args that are left. -/
theorem s74l (d : Int) (hd0 : 0 ≤ d) (hd : d ≤ 41) : ∀ (post pre : List Tm) (op head nn : Int) (ok : Bool) (n : Int), 1 ≤ n → n ≤ 600 → (pre.length : Int) ≤ n →
    (∀ x ∈ post, ∀ n : Int, 0 ≤ n → n ≤ 600 → ∃ b n', n < n' ∧ n' ≤ 601 ∧ (b = true ↔ n + x.size ≤ 600 ∧ Form x (d + 1)) ∧ (b = true → n' = n + x.size) ∧ Evt fun k => ∀ ρ K, (Tabs k).c74_0 ρ x (d + 1) n K = K b n') →
    ∃ b n', n ≤ n' ∧ n' ≤ 601 ∧ (b = true ↔ ok = true ∧ n + sizeL post ≤ 600 ∧ FormL post (d + 1)) ∧ (b = true → n' = n + sizeL post) ∧
      Evt fun k => ∀ ρ K, (Tabs k).l74_17_0 ρ d ((pre ++ post).length : Int) ok (pre.length : Int) n ⟨op, head, nn, pre ++ post⟩ K = K b n' := by
  intro post
  induction post with
  | nil =>
    intro pre op head nn ok n h1 h2 h3 _
    refine ⟨ok, n, by omega, by omega, by simp [sizeL, FormL]; omega, by simp [sizeL], Evt.step0 fun k ρ K => ?_⟩
    show Gl74_17_0 (Tabs k) ρ _ _ _ _ _ _ K = _
    simp [Gl74_17_0]
  | cons x r ih =>
    intro pre op head nn ok n h1 h2 h3 hx
    cases ok with
    | false =>
      refine ⟨false, n, by omega, by omega, by simp, by simp, Evt.step0 fun k ρ K => ?_⟩
      show Gl74_17_0 (Tabs k) ρ _ _ _ _ _ _ K = _
      unfold Gl74_17_0
      cases decide ((pre.length : Int) < ((pre ++ x :: r).length : Int)) <;> rfl
    | true =>
      obtain ⟨b, n1, g1, g2, g3, g4, g5⟩ := hx x (List.mem_cons_self ..) n (by omega) (by omega)
      have key : ∀ {b2 : Bool} {n2 : Int}, (Evt fun k => ∀ ρ K, (Tabs k).l74_17_0 ρ d ((pre ++ x :: r).length : Int) b ((pre.length : Int) + 1) n1 ⟨op, head, nn, pre ++ x :: r⟩ K = K b2 n2) →
          Evt fun k => ∀ ρ K, (Tabs k).l74_17_0 ρ d ((pre ++ x :: r).length : Int) true (pre.length : Int) n ⟨op, head, nn, pre ++ x :: r⟩ K = K b2 n2 := by
        intro b2 n2 h
        refine (g5.and h).step fun k hk ρ K => ?_
        show Gl74_17_0 (Tabs k) ρ _ _ _ _ _ _ K = _
        have c1 : (pre.length : Int) < ((pre ++ x :: r).length : Int) := by simp; omega
        have c2 : (0 : Int) ≤ (pre.length : Int) := by omega
        simp only [Gl74_17_0, c1, c2, decide_true, Bool.and_true, cond_true, rdTm pre x r, Tm.eta, W_id (show -9223372036854775808 ≤ d + 1 by omega) (by omega), hk.1, W_id (show -9223372036854775808 ≤ (pre.length : Int) + 1 by omega) (by omega), hk.2]
      by_cases hb : b = true
      · have e1 := g4 hb
        have e2 := g3.1 hb
        obtain ⟨b2, n2, f1, f2, f3, f4, f5⟩ := ih (pre ++ [x]) op head nn b n1 (by omega) (by omega) (by simp; omega) (fun y hy => hx y (List.mem_cons_of_mem _ hy))
        simp only [List.append_assoc, List.singleton_append, List.length_append, List.length_cons, List.length_nil, Nat.zero_add] at f5
        refine ⟨b2, n2, by omega, f2, ?_, ?_, key ?_⟩
        · rw [f3, e1, hb]; simp only [sizeL, FormL, true_and]
          constructor
          · rintro ⟨a, b⟩; exact ⟨by omega, e2.2, b⟩
          · rintro ⟨a, _, b⟩; exact ⟨by omega, b⟩
        · intro h; rw [f4 h, e1]; simp only [sizeL]; omega
        · simpa using f5
      · have hb' : b = false := by simpa using hb
        refine ⟨false, n1, by omega, g2, ?_, by simp, key ?_⟩
        · constructor
          · intro h; cases h
          · rintro ⟨_, h1, h2⟩
            simp only [sizeL, FormL] at h1 h2
            exact absurd (g3.2 ⟨by omega, h2.1⟩) hb
        · rw [hb']
          refine Evt.step0 fun k ρ K => ?_
          show Gl74_17_0 (Tabs k) ρ _ _ _ _ _ _ K = _
          unfold Gl74_17_0
          cases decide ((pre.length : Int) + 1 < ((pre ++ x :: r).length : Int)) <;> rfl

theorem s74 (t : Tm) : ∀ d n : Int, 0 ≤ d → d ≤ 41 → 0 ≤ n → n ≤ 600 →
    ∃ b n', n < n' ∧ n' ≤ 601 ∧ (b = true ↔ n + t.size ≤ 600 ∧ Form t d) ∧ (b = true → n' = n + t.size) ∧ Evt fun k => ∀ ρ K, (Tabs k).c74_0 ρ t d n K = K b n' := by
  refine Tm.ind (p := fun t => ∀ d n : Int, 0 ≤ d → d ≤ 41 → 0 ≤ n → n ≤ 600 →
    ∃ b n', n < n' ∧ n' ≤ 601 ∧ (b = true ↔ n + t.size ≤ 600 ∧ Form t d) ∧ (b = true → n' = n + t.size) ∧ Evt fun k => ∀ ρ K, (Tabs k).c74_0 ρ t d n K = K b n') ?_ t
  intro op head nn args ih d n h0 h1 h2 h3
  have hW := W_id (show -9223372036854775808 ≤ n + 1 by omega) (by omega)
  by_cases c1 : n + 1 > 600
  · refine ⟨false, n + 1, by omega, by omega, ?_, by simp, Evt.step0 fun k ρ K => ?_⟩
    · constructor
      · intro h; cases h
      · rintro ⟨a, _⟩; simp only [Tm.size] at a; omega
    · show Gc74_0 (Tabs k) ρ _ _ _ K = _
      simp only [Gc74_0, hW, c1, decide_true, cond_true]
  by_cases c2 : d > 40
  · refine ⟨false, n + 1, by omega, by omega, ?_, by simp, Evt.step0 fun k ρ K => ?_⟩
    · constructor
      · intro h; cases h
      · rintro ⟨_, b⟩; simp only [Form] at b; omega
    · show Gc74_0 (Tabs k) ρ _ _ _ K = _
      simp only [Gc74_0, hW, c1, c2, decide_true, cond_true, decide_false, cond_false]
  have loop : ∀ ok : Bool, (ok = true ↔ nodeOk op head nn args.length) → ∃ b n', n < n' ∧ n' ≤ 601 ∧ (b = true ↔ n + (⟨op, head, nn, args⟩ : Tm).size ≤ 600 ∧ Form ⟨op, head, nn, args⟩ d) ∧ (b = true → n' = n + (⟨op, head, nn, args⟩ : Tm).size) ∧
      Evt fun k => ∀ ρ K, (Tabs k).l74_17_0 ρ d (args.length : Int) ok 0 (n + 1) ⟨op, head, nn, args⟩ K = K b n' := by
    intro ok hok
    obtain ⟨b, n', f1, f2, f3, f4, f5⟩ := s74l d h0 h1 args [] op head nn ok (n + 1) (by omega) (by omega) (by simp; omega) (fun x hx n => ih x hx (d + 1) n (by omega) (by omega))
    refine ⟨b, n', by omega, f2, ?_, ?_, f5⟩
    · rw [f3, hok]; simp only [Tm.size, Form]
      constructor
      · rintro ⟨a, b, c⟩; exact ⟨by omega, by omega, a, c⟩
      · rintro ⟨a, b, c, d⟩; exact ⟨c, by omega, d⟩
    · intro h; rw [f4 h]; simp only [Tm.size]; omega
  by_cases c3 : op = 1 ∨ op = 2 ∨ op = 3 ∨ op = 4
  · obtain ⟨b, n', f1, f2, f3, f4, f5⟩ := loop (decide (nodeOk op head nn args.length)) (by simp)
    refine ⟨b, n', f1, f2, f3, f4, f5.step fun k hk ρ K => ?_⟩
    show Gc74_0 (Tabs k) ρ _ _ _ K = _
    rw [← hk ρ K]
    have e : ∀ (a b : Bool), a = b → (Tabs k).l74_17_0 ρ d (args.length : Int) a 0 (n + 1) ⟨op, head, nn, args⟩ K = (Tabs k).l74_17_0 ρ d (args.length : Int) b 0 (n + 1) ⟨op, head, nn, args⟩ K := fun a b h => by rw [h]
    simp only [Gc74_0, hW, c1, c2, decide_false, cond_false]
    simp only [Bool.cond_eq_ite]
    repeat' split
    all_goals first
      | (refine e _ _ (Bool.eq_iff_iff.2 ?_); clear e hk f5 f4 f3 loop ih; simp only [decide_eq_true_eq, beq_iff_eq, Bool.false_eq_true, false_iff, iff_false] at *; simp only [nodeOk]; first | omega | (constructor <;> intro hh <;> omega))
      | (exfalso; clear e hk f5 f4 f3 loop ih; simp only [decide_eq_true_eq, beq_iff_eq] at *; omega)
  · refine ⟨false, n + 1, by omega, by omega, ?_, by simp, Evt.step0 fun k ρ K => ?_⟩
    · constructor
      · intro h; cases h
      · rintro ⟨_, b⟩; simp only [Form, nodeOk] at b; omega
    · show Gc74_0 (Tabs k) ρ _ _ _ K = _
      have d1 : (op == 1) = false := by simp; omega
      have d2 : (op == 2) = false := by simp; omega
      have d3 : (op == 3) = false := by simp; omega
      have d4 : (op == 4) = false := by simp; omega
      simp only [Gc74_0, hW, c1, c2, d1, d2, d3, d4, decide_false, cond_false]
      cases head == 0 <;> rfl

/-- 'Check': 0 or 2. -/
noncomputable def chk (t : Tm) : Int := by
  classical exact if Proper t then 0 else 2

theorem chk_ok {t : Tm} (h : Proper t) : chk t = 0 := by simp [chk, h]
theorem chk_no {t : Tm} (h : ¬ Proper t) : chk t = 2 := by simp [chk, h]

theorem s53 (t : Tm) : Evt fun k => ∀ ρ K, (Tabs k).c53_0 ρ t K = K (chk t) := by
  obtain ⟨b, n', _, _, h, _, hk⟩ := s74 t 1 0 (by omega) (by omega) (by omega) (by omega)
  refine hk.step fun k hk ρ K => ?_
  show Gc53_0 (Tabs k) ρ _ K = _
  simp only [Gc53_0, Tm.eta, hk]
  by_cases hp : Proper t
  · rw [chk_ok hp, h.2 ⟨by have := hp.1; omega, hp.2⟩]; rfl
  · have : b = false := by
      cases b with
      | false => rfl
      | true => exact absurd ⟨by have := (h.1 rfl).1; omega, (h.1 rfl).2⟩ hp
    rw [chk_no hp, this]; rfl

end Go.Proofs.Ytcgbfghdcjmaeaa.Ev
