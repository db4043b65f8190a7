/- This file proves what Subst of the program and of the reference return: the same; without any condition. -/
import Derived.Test.YtcgbfghdcjmaeaaP6
set_option linter.unusedVariables false
set_option linter.unusedSimpArgs false
namespace Go.Proofs.Ytcgbfghdcjmaeaa.Ev

theorem goodB_iff {l : List Tm} {ss : List Sm} {ns : List Int} : goodB l ss ns = true ↔ l.length ≤ 601 ∧ (∀ x ∈ l, Proper x) ∧ (∀ s ∈ ss, Small s) ∧ ∀ n ∈ ns, 0 ≤ n ∧ n ≤ 9999 := by
  simp only [goodB, Bool.and_eq_true, decide_eq_true_eq, List.all_eq_true, prB_iff, smB_iff, numB]

theorem tm0_size : tm0.size ≤ 600 := by simp [tm0, Tm.size, sizeL]

/-- What Subst of the program returns. -/
theorem s14 (t : Tm) (n : Int) (s : Tm) (a : Sm) : Evt fun k => ∀ ρ K, (Tabs k).c14_0 ρ t n s a K =
    cond (goodB [t, s] [a] [n]) (match put 20000 t n s a 0 with | (.error e, _) => K tm0 e | (.ok u, _) => K u 0) (K tm0 2) := by
  cases hg : goodB [t, s] [a] [n] with
  | false =>
    refine (s39 [t, s] [a] [n] (by simp) (by simp)).step fun k hk ρ K => ?_
    show Gc14_0 (Tabs k) ρ _ _ _ _ K = _
    simp only [Gc14_0, Tm.eta, Sm.eta, hk, hg, Bool.not_false, cond_true, cond_false, tm0]
  | true =>
    have h := goodB_iff.1 hg
    have ht : Proper t := h.2.1 t (by simp)
    have hs : Proper s := h.2.1 s (by simp)
    have hn := h.2.2.2 n (by simp)
    refine ((s39 [t, s] [a] [n] (by simp) (by simp)).and (s41 20000 t n s a 0 (by omega) (by omega) (by omega) ht hs hn.1 (by have := ht.1; omega))).step fun k hk ρ K => ?_
    show Gc14_0 (Tabs k) ρ _ _ _ _ K = _
    simp only [Gc14_0, Tm.eta, Sm.eta, hk.1, hg, Bool.not_true, cond_true, cond_false, hk.2]
    cases put 20000 t n s a 0 with
    | mk r c => cases r <;> rfl

/-- What Subst of the reference returns. -/
theorem s15 (t : Tm) (n : Int) (s : Tm) (a : Sm) : Evt fun k => ∀ ρ K, (Tabs k).c15_0 ρ t n s a K =
    cond (goodB [t, s] [a] [n]) (match put 20000 t n s a 0 with | (.error e, _) => K tm0 e | (.ok u, _) => K u 0) (K tm0 2) := by
  have base := (s18 t).and ((s42 n).and ((s18 s).and (s19 a)))
  have hB : goodB [t, s] [a] [n] = (prB t && (numB n && (prB s && smB a))) := by
    rw [Bool.eq_iff_iff]; simp [goodB]
    constructor
    · rintro ⟨⟨a, b⟩, c, d⟩; exact ⟨a, d, b, c⟩
    · rintro ⟨a, d, b, c⟩; exact ⟨⟨a, b⟩, c, d⟩
  cases hg : goodB [t, s] [a] [n] with
  | false =>
    refine base.step fun k hk ρ K => ?_
    show Gc15_0 (Tabs k) ρ _ _ _ _ K = _
    rw [hB] at hg
    simp only [Gc15_0, Tm.eta, Sm.eta, hk.1, hk.2.1, hk.2.2.1, hk.2.2.2]
    revert hg
    cases prB t <;> cases numB n <;> cases prB s <;> cases smB a <;> simp [tm0]
  | true =>
    have h := goodB_iff.1 hg
    have ht : Proper t := h.2.1 t (by simp)
    have hs : Proper s := h.2.1 s (by simp)
    have hn := h.2.2.2 n (by simp)
    refine (base.and (s43 20000 t n s a 0 (by omega) (by omega) (by omega) ht hs hn.1 (by have := ht.1; omega))).step fun k hk ρ K => ?_
    show Gc15_0 (Tabs k) ρ _ _ _ _ K = _
    rw [hB] at hg
    simp only [Bool.and_eq_true] at hg
    simp only [Gc15_0, Tm.eta, Sm.eta, hk.1.1, hk.1.2.1, hk.1.2.2.1, hk.1.2.2.2, hg.1, hg.2.1, hg.2.2.1, hg.2.2.2, Bool.not_true, cond_false, hk.2, cond_true]
    cases put 20000 t n s a 0 with
    | mk r c => cases r <;> rfl

theorem put_size {t : Tm} {n : Int} {s : Tm} {a : Sm} {u : Tm} {c : Int} (hs : Proper s) (h : put 20000 t n s a 0 = (.ok u, c)) : u.size ≤ 600 := by
  have := fine_put 20000 t n s a 0 hs (by omega)
  rw [h] at this
  exact this.1.1

/-- What Subst returns. -/
noncomputable def sub (t : Tm) (n : Int) (s : Tm) (a : Sm) : Tm × Int :=
  cond (goodB [t, s] [a] [n]) (match put 20000 t n s a 0 with | (.error e, _) => (tm0, e) | (.ok u, _) => (u, 0)) (tm0, 2)

theorem s14' (t : Tm) (n : Int) (s : Tm) (a : Sm) : Evt fun k => ∀ ρ K, (Tabs k).c14_0 ρ t n s a K = K (sub t n s a).1 (sub t n s a).2 := by
  refine (s14 t n s a).mono fun k hk ρ K => ?_
  rw [hk]; unfold sub
  cases goodB [t, s] [a] [n] with
  | false => rfl
  | true =>
    simp only [cond_true]
    generalize put 20000 t n s a 0 = q
    rcases q with ⟨e | u, c⟩ <;> rfl

theorem sub_ok {t : Tm} {n : Int} {s : Tm} {a : Sm} (h : (sub t n s a).2 = 0) : Proper (sub t n s a).1 ∧ ∃ c, put 20000 t n s a 0 = (.ok (sub t n s a).1, c) := by
  unfold sub at h ⊢
  cases hg : goodB [t, s] [a] [n] with
  | false => rw [hg] at h; simp at h
  | true =>
    rw [hg] at h
    have hs : Proper s := (goodB_iff.1 hg).2.1 s (by simp)
    have hf := fine_put 20000 t n s a 0 hs (by omega)
    simp only [cond_true] at h ⊢
    revert h hf
    generalize put 20000 t n s a 0 = q
    rcases q with ⟨e | u, c⟩
    · intro h hf
      rcases hf.1 with h' | h' <;> (simp only at h; omega)
    · intro h hf
      exact ⟨hf.1, c, rfl⟩

theorem sub_size (t : Tm) (n : Int) (s : Tm) (a : Sm) : (sub t n s a).1.size ≤ 600 := by
  by_cases h : (sub t n s a).2 = 0
  · exact (sub_ok h).1.1
  · unfold sub at h ⊢
    cases hg : goodB [t, s] [a] [n] with
    | false => exact tm0_size
    | true =>
      rw [hg] at h
      simp only [cond_true] at h ⊢
      revert h
      generalize put 20000 t n s a 0 = q
      rcases q with ⟨e | u, c⟩
      · intro _; exact tm0_size
      · intro h; exact absurd rfl h

/-- An error of a substitution at what is allowed. -/
theorem sub_err {t : Tm} {n : Int} {s : Tm} {a : Sm} (ht : Proper t) (hs : Proper s) (ha : Small a) (hn : 0 ≤ n ∧ n ≤ 9999) (h : (sub t n s a).2 ≠ 0) : ∃ c, put 20000 t n s a 0 = (.error (sub t n s a).2, c) := by
  have hg : goodB [t, s] [a] [n] = true := goodB_iff.2 ⟨by simp, by simp [ht, hs], by simp [ha], by simp; omega⟩
  unfold sub at h ⊢
  rw [hg] at h ⊢
  simp only [cond_true] at h ⊢
  revert h
  generalize put 20000 t n s a 0 = q
  rcases q with ⟨e | u, c⟩
  · intro h; exact ⟨c, rfl⟩
  · intro h; exact absurd rfl h

end Go.Proofs.Ytcgbfghdcjmaeaa.Ev
