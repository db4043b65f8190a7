/- This file proves that strings.Join answers what the evaluator is told; without any condition. -/
import Derived.Test.YtanfoijdfcnpoaaGreatDoorU0J
import Derived.Test.YtanfoijdfcnpoaaGreatDoorU1
set_option linter.unusedVariables false
namespace Go.Proofs.YtanfoijdfcnpoaaGreatDoor.Ev
open Go.RowKit

theorem ok_join (l : List ByteArray) (t : ByteArray) (hN : l.length ≤ 140737488355328) (hlen : (Lib.join (l.map (·.data.toList)) t.data.toList).length ≤ 140737488355328) :
    CallOk Tryz.prog lay 96 [.d (.sl Key.str l), .d (.str t)] [] (.ret (.d (.str ⟨(Lib.join (l.map (·.data.toList)) t.data.toList).toArray⟩)), []) := by
  refine told_ok (enters fit1 96 (n := fnOf Tryz.prog 96) (c := textOf Tryz.prog 96) (by kernel_rfl) (by kernel_rfl)) (fun g vs w hm hr => ?_) (by simp)
  obtain ⟨v, u, rfl, hv, hu⟩ := prels2 hr
  cases hu.d_str
  simp only [PRel] at hv
  have none : ∀ a c, l = [] → Calls Tryz.prog 96 #[.slice a 0 c, .string t] w fun e w' => ∃ v, e = .returned v ∧ PRel lay g.β g.G (.d (.str ⟨(Lib.join (l.map (·.data.toList)) t.data.toList).toArray⟩)) v ∧ Below w.heap.size w w' := by
    intro a c hl
    subst hl
    refine (Tryz.join_none a c t w).mono fun e w' ⟨he, hw⟩ => ⟨_, he, ?_, ?_⟩
    · exact okStr
    · subst hw; exact Below.refl _ _
  rcases hv.sl_inv with ⟨hl, rfl⟩ | ⟨hl, a, c, rfl⟩ | ⟨b, o, c, rfl, hc, hcells⟩
  · exact none _ _ hl
  · exact none _ _ hl
  · by_cases hl : l = []
    · subst hl; exact none _ _ rfl
    · have hb : b < w.heap.size := by
        cases l with
        | nil => exact absurd rfl hl
        | cons x r =>
          obtain ⟨u, hu, _⟩ := hcells 0 x rfl 0 (.str x) rfl
          exact hm.G_lt hu
      refine (Tryz.join b o c l t w (fun j x hx => ?_) hb hN hc hlen).mono fun e w' ⟨he, hw⟩ => ⟨_, he, okStr, hw⟩
      obtain ⟨u, hu, hr⟩ := hcells j x hx 0 (.str x) rfl
      cases hr
      have : o + j * lay.sz Key.str + 0 = o + j := by show o + j * 1 + 0 = o + j; omega
      rw [this] at hu
      exact hm.gs _ _ _ hu


theorem told96 (l : List ByteArray) (t : ByteArray) : (∀ ρ (K : Res sig × Mem sig → Option ρ), toldJoin l t (fun x => K (.ret (.d (.str x)), [])) = none) ∨
    ∃ r, CallOk Tryz.prog lay 96 [.d (.sl Key.str l), .d (.str t)] [] r ∧ ∀ ρ (K : Res sig × Mem sig → Option ρ), toldJoin l t (fun x => K (.ret (.d (.str x)), [])) = K r := by
  unfold toldJoin
  by_cases h0 : l.length ≤ 140737488355328 <;> by_cases h1 : (Lib.join (l.map (·.data.toList)) t.data.toList).length ≤ 140737488355328 <;> simp only [h0, h1, decide_true, decide_false, Bool.and_true, Bool.and_false, cond_true, cond_false]
  · exact .inr ⟨_, ok_join l t h0 h1, fun _ _ => rfl⟩
  all_goals exact .inl fun _ _ => trivial

end Go.Proofs.YtanfoijdfcnpoaaGreatDoor.Ev
