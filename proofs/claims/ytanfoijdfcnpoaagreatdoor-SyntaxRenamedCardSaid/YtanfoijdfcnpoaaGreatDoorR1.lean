/- This file proves what the reference's Same does, and that awake answers true; without any condition. -/
import Derived.Test.YtanfoijdfcnpoaaGreatDoorR0
import Derived.Test.YtanfoijdfcnpoaaGreatDoorW1
set_option linter.unusedVariables false
set_option linter.unusedSimpArgs false
namespace Go.Proofs.YtanfoijdfcnpoaaGreatDoor.Ev

theorem awake_ok : Evt fun k => ∀ (ρ : Type) K, (Tabs k).c11_0 ρ K = K true := Evt.of_add 100 fun k ρ K => awake_k k ρ K

theorem rsame_loop (a b : Rw) : ∀ (r r' pre pre' : List Rw), a.args = pre ++ r → b.args = pre' ++ r' → (∀ x ∈ r, ∀ y, Evt fun k => ∀ (ρ : Type) K, (Tabs k).c10_0 ρ x y K = K (eqRw x y)) → pre.length = pre'.length → r.length = r'.length → a.args.length ≤ 140737488351232 →
    Evt fun k => ∀ (ρ : Type) k0 k1, (Tabs k).l10_4_0 ρ (pre.length : Int) a b k0 k1 = cond (eqRwL r r') k1 (k0 false)
  | [], r', pre, pre', ha, hb, _, hp, hr, _ => by
    cases r' with
    | cons _ _ => cases hr
    | nil =>
      refine Evt.step0 fun k ρ k0 k1 => ?_
      show Gl10_4_0 (Tabs k) ρ _ _ _ _ _ = _
      have e : decide ((pre.length : Int) < ((a.args).length : Int)) = false := by simp [ha]
      simp only [Gl10_4_0, e, cond_false, eqRwL, cond_true]
  | x :: r, r', pre, pre', ha, hb, ih, hp, hr, hs => by
    cases r' with
    | nil => cases hr
    | cons y r' =>
      have h2 := rsame_loop a b r r' (pre ++ [x]) (pre' ++ [y]) (by simp [ha]) (by simp [hb]) (fun z hz => ih z (List.mem_cons_of_mem _ hz)) (by simp [hp]) (by simpa using hr) hs
      refine ((ih x (List.mem_cons_self ..) y).and h2).step fun k hk ρ k0 k1 => ?_
      obtain ⟨hk1, hk2⟩ := hk
      show Gl10_4_0 (Tabs k) ρ _ _ _ _ _ = _
      have hlen : pre.length < a.args.length := by simp [ha]
      have e1 : decide ((pre.length : Int) < ((a.args).length : Int)) = true := by simp; omega
      have e2 : decide ((0 : Int) ≤ (pre.length : Int)) = true := by simp
      have e3 : decide ((pre.length : Int) < ((b.args).length : Int)) = true := by rw [hp]; simp [hb]; omega
      have e4 : IntKind.wrap .i64 ((pre.length : Int) + 1) = ((pre ++ [x]).length : Int) := by
        rw [W_id (by omega) (by omega)]; simp
      have e5 : rdEl lay Key.raw b.args (pre.length : Int) = y := by rw [hp, hb]; exact rdRw ..
      have e6 : rdEl lay Key.raw a.args (pre.length : Int) = x := by rw [ha]; exact rdRw ..
      simp only [Gl10_4_0, e1, e2, e3, Bool.and_self, cond_true, e6, e5, Rw.eta, hk1, e4, hk2, eqRwL]
      cases eqRw x y <;> simp

theorem s_rsame (a : Rw) : ∀ b, a.Ok → Evt fun k => ∀ (ρ : Type) K, (Tabs k).c10_0 ρ a b K = K (eqRw a b) := by
  induction a using Rw.ind with
  | h o n l ih =>
    rintro ⟨o', n', l'⟩ hok
    have hlen : l.length * 48 ≤ 140737488351232 := hok.len
    by_cases hl : l.length = l'.length
    · refine (rsame_loop ⟨o, n, l⟩ ⟨o', n', l'⟩ l l' [] [] rfl rfl (fun x hx y => ih x hx y (hok.mem x hx)) rfl hl (by show l.length ≤ _; omega)).step fun k hk ρ K => ?_
      show Gc10_0 (Tabs k) ρ _ _ _ = _
      have e : (((List.length l : Nat) : Int) != ((List.length l' : Nat) : Int)) = false := by simp [hl]
      have hk' := hk ρ (fun r3 => K r3) (K true)
      simp only [List.length_nil] at hk'
      simp only [Gc10_0, e, eqRw, bne]
      cases (o == o') <;> cases strEq n n' <;> simp [hl]
      refine Eq.trans hk' ?_
      cases eqRwL l l' <;> rfl
    · refine Evt.step0 fun k ρ K => ?_
      show Gc10_0 (Tabs k) ρ _ _ _ = _
      have e : (((List.length l : Nat) : Int) == ((List.length l' : Nat) : Int)) = false := by simp; omega
      simp only [Gc10_0, e, eqRw, bne, eqRwL_len hl]
      cases (o == o') <;> cases strEq n n' <;> simp

end Go.Proofs.YtanfoijdfcnpoaaGreatDoor.Ev
