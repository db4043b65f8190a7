/- This file proves what SyntaxExprs answers; without any condition. -/
import Derived.Test.YtanfoijdfcnpoaaGreatDoorR6
import Derived.Test.YtanfoijdfcnpoaaGreatDoorR1
set_option linter.unusedVariables false
set_option linter.unusedSimpArgs false
namespace Go.Proofs.YtanfoijdfcnpoaaGreatDoor.Ev

theorem exprP_ok (l : List UInt8) : (exprP l).1.Ok := by
  unfold exprP
  cases h0 : ((toks l).2.2 == 0) with
  | false => exact ok0 tNo_size
  | true =>
    obtain ⟨g0, hlen, hok⟩ := toks_good l (eq_of_beq h0)
    cases hr : pr (4 * (toks l).1.length + 3) .expr (toks l).1 with
    | none => exact ok0 tNo_size
    | some res =>
      cases res with
      | err ts => exact ok0 tNo_size
      | ok x c ts =>
        have := pr_ok _ _ _ _ _ _ hr g0 trivial hok
        simp only [cond_true]
        cases kindT ts == 7 with
        | false => exact ok0 tNo_size
        | true =>
          cases wellB x with
          | false => exact ok0 tNo_size
          | true => exact this

theorem exprs_law (s : ByteArray) : Evt fun k => ∀ (ρ : Type) K, (Tabs k).c3_0 ρ s K = K true := by
  rw [mk_of s]
  generalize s.data.toList = l
  refine ((s_expr l).and ((s_rexpr l).and ((s_rsame _ (exprP l).1 (exprP_ok l)).and awake_ok))).step fun k ⟨h1, h2, h3, h4⟩ ρ K => ?_
  rw [show (Tabs (k + 1)).c3_0 = Gc3_0 (Tabs k) from rfl]
  simp only [Gc3_0, h1, h2, Rw.eta, h3, eqRw_refl, beq_self_eq_true, cond_true, h4]

end Go.Proofs.YtanfoijdfcnpoaaGreatDoor.Ev
