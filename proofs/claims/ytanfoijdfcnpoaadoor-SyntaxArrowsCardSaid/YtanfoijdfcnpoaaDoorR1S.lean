/- This file proves what the program's Same does, and what SyntaxSame answers; without any condition. -/
import Derived.Test.YtanfoijdfcnpoaaDoorR1
set_option linter.unusedVariables false
set_option linter.unusedSimpArgs false
namespace Go.Proofs.YtanfoijdfcnpoaaDoor.Ev

theorem same_loop : ∀ (r r' pre pre' : List Rw), (∀ x ∈ r, ∀ y, Evt fun k => ∀ (ρ : Type) K, (Tabs k).c16_0 ρ x y K = K (eqRw x y)) → pre.length = pre'.length → r.length = r'.length → (pre ++ r).length ≤ 140737488351232 →
    Evt fun k => ∀ (ρ : Type) k0 k1, (Tabs k).l33_4_0 ρ (pre' ++ r') (pre ++ r) ((pre ++ r).length : Int) (pre.length : Int) k0 k1 = cond (eqRwL r r') k1 (k0 false)
  | [], r', pre, pre', _, hp, hr, _ => by
    cases r' with
    | cons _ _ => cases hr
    | nil =>
      refine Evt.step0 fun k ρ k0 k1 => ?_
      show Gl33_4_0 (Tabs k) ρ _ _ _ _ _ _ = _
      have e : decide ((pre.length : Int) < ((pre ++ []).length : Int)) = false := by simp
      simp only [Gl33_4_0, e, cond_false, eqRwL, cond_true]
  | x :: r, r', pre, pre', ih, hp, hr, hs => by
    cases r' with
    | nil => cases hr
    | cons y r' =>
      have hl : pre ++ x :: r = (pre ++ [x]) ++ r := by simp
      have hl' : pre' ++ y :: r' = (pre' ++ [y]) ++ r' := by simp
      have h2 := same_loop r r' (pre ++ [x]) (pre' ++ [y]) (fun z hz => ih z (List.mem_cons_of_mem _ hz)) (by simp [hp]) (by simpa using hr) (by rw [← hl]; exact hs)
      rw [← hl, ← hl'] at h2
      refine ((ih x (List.mem_cons_self ..) y).and h2).step fun k hk ρ k0 k1 => ?_
      obtain ⟨hk1, hk2⟩ := hk
      show Gl33_4_0 (Tabs k) ρ _ _ _ _ _ _ = _
      have hlen : pre.length < (pre ++ x :: r).length := by simp
      have e1 : decide ((pre.length : Int) < ((pre ++ x :: r).length : Int)) = true := by simp; omega
      have e2 : decide ((0 : Int) ≤ (pre.length : Int)) = true := by simp
      have e3 : decide ((pre.length : Int) < ((pre' ++ y :: r').length : Int)) = true := by rw [hp]; simp; omega
      have e4 : IntKind.wrap .i64 ((pre.length : Int) + 1) = ((pre ++ [x]).length : Int) := by
        rw [W_id (by omega) (by omega)]; simp
      have e5 : rdEl lay Key.raw (pre' ++ y :: r') (pre.length : Int) = y := by rw [hp]; exact rdRw ..
      simp only [Gl33_4_0, e1, e2, e3, Bool.and_self, cond_true, rdRw, e5, Rw.eta, hk1, e4, hk2, eqRwL]
      cases eqRw x y <;> simp

theorem s_same (a : Rw) : ∀ b, a.Ok → Evt fun k => ∀ (ρ : Type) K, (Tabs k).c16_0 ρ a b K = K (eqRw a b) := by
  induction a using Rw.ind with
  | h o n l ih =>
    rintro ⟨o', n', l'⟩ hok
    have hlen : l.length * 48 ≤ 140737488351232 := hok.len
    have key : Evt fun k => ∀ (ρ : Type) K, (Tabs k).c33_0 ρ l l' K = K (eqRwL l l') := by
      by_cases hl : l.length = l'.length
      · refine (same_loop l l' [] [] (fun x hx y => ih x hx y (hok.mem x hx)) rfl hl (by simp; omega)).step fun k hk ρ K => ?_
        show Gc33_0 (Tabs k) ρ _ _ _ = _
        have e : (((List.length l : Nat) : Int) != ((List.length l' : Nat) : Int)) = false := by simp [hl]
        have hk' := hk ρ (fun r3 => K r3) (K true)
        simp only [List.nil_append, List.length_nil] at hk'
        simp only [Gc33_0, e, cond_false]
        refine Eq.trans hk' ?_
        cases eqRwL l l' <;> rfl
      · refine Evt.step0 fun k ρ K => ?_
        show Gc33_0 (Tabs k) ρ _ _ _ = _
        have e : (((List.length l : Nat) : Int) != ((List.length l' : Nat) : Int)) = true := by simp; omega
        simp only [Gc33_0, e, cond_true, eqRwL_len hl]
    refine key.step fun k hk ρ K => ?_
    show Gc16_0 (Tabs k) ρ _ _ _ = _
    simp only [Gc16_0, eqRw]
    cases (o == o') <;> cases strEq n n' <;> simp [hk]

theorem same_law (a b : Rw) (ha : a.Ok) (hb : b.Ok) : Evt fun k => ∀ (ρ : Type) K, (Tabs k).c4_0 ρ a b K = K true := by
  refine ((s_same a b ha).and ((s_rsame a b ha).and ((s_same b a hb).and ((s_same a a ha).and awake_ok)))).step fun k hk ρ K => ?_
  obtain ⟨h1, h2, h3, h4, h5⟩ := hk
  show Gc4_0 (Tabs k) ρ _ _ _ = _
  simp only [Gc4_0, Rw.eta, h1, h2, h3, h4, h5, eqRw_comm b a, eqRw_refl, beq_self_eq_true, cond_true]

end Go.Proofs.YtanfoijdfcnpoaaDoor.Ev
