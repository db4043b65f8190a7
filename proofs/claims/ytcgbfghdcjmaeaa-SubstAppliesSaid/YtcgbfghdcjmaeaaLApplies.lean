/- This file proves that SubstApplies returns true for every input; without any condition. -/
import Derived.Test.YtcgbfghdcjmaeaaP10
import Derived.Test.YtcgbfghdcjmaeaaA4
import Derived.Test.YtcgbfghdcjmaeaaRows
set_option linter.unusedVariables false
set_option linter.unusedSimpArgs false
namespace Go.Proofs.Ytcgbfghdcjmaeaa.Ev
open Go.Proofs Go.ChangeShapes Go.WideShapes Go.ChangeAt Go.RowKit

theorem appR_size (t : Tm) (l : List Tm) (a : Sm) : (appR t l a).1.size ≤ 600 := by
  unfold appR
  cases hb : (prB t && (listB l && smB a)) with
  | false => exact tm0_size
  | true =>
    simp only [Bool.and_eq_true, prB_iff, listB_iff] at hb
    exact (fine_ret (fine_appL (p := fun b x a c => put 20000 b 0 x a c) (fun b x a c _ hx hc => fine_put' hx hc) l t a.args 0 hb.2.1.2 hb.1 (by omega))).1

theorem applies_law (t : Tm) (l : List Tm) (s : Sm) (hl : l.length * 48 ≤ 140737488351232) : Evt fun k => ∀ ρ K, (Tabs k).c8_0 ρ t l s K = K true := by
  have hsz := appR_size t l s
  have e : decide ((List.length ([] : List Tm) + List.length l) * 48 ≤ 140737488355328) = true := by simp only [decide_eq_true_eq, List.length_nil]; omega
  refine ((s30 t l s).and ((s31 t l s).and ((s16 (appR t l s).1 (by omega : (appR t l s).1.size ≤ 2000) (appR t l s).2 (appR t l s).2).and awake_ok))).step fun k hk ρ K => ?_
  rw [show (Tabs (k + 1)).c8_0 = Gc8_0 (Tabs k) from rfl]
  simp only [Gc8_0, e, cond_true, Tm.eta, Sm.eta, List.nil_append, hk.1, hk.2.1, hk.2.2.1, eqT_iff.2 rfl, beq_self_eq_true, Bool.and_true, hk.2.2.2]

theorem applies_main (pvs : List (PV sig)) (h : Alls (Arg Try.prog lay) Try.f8.params.toList pvs) : ∃ m, CallOk Try.prog lay 8 pvs [] (.ret (.d (.bool true)), m) := by
  rw [Try.params8] at h
  obtain ⟨p0, r0, rfl, h0, h⟩ := alls_cons h
  obtain ⟨p1, r1, rfl, h1, h⟩ := alls_cons h
  obtain ⟨p2, r2, rfl, h2, h⟩ := alls_cons h
  cases alls_nil h
  obtain ⟨⟨t0, t1, t2, t3⟩, rfl⟩ := arg_tm h0
  obtain ⟨l, rfl, h_l⟩ := arg_tms h1
  obtain ⟨⟨s0, s1⟩, rfl⟩ := arg_sm h2
  obtain ⟨k, hk⟩ := (applies_law (⟨t0, t1, t2, t3⟩ : Tm) l (⟨s0, s1⟩ : Sm) h_l).get
  exact ⟨[], of_levels levels fit dok (k := k) (Eq.trans (by kernel_rfl) (hk (Res sig × Mem sig) fun b => some (Res.ret (.d (.bool b)), [])))⟩

theorem applies_lifted (os : Os) (started : os.Started) (H : Type) (enc : TypeId × Value → H) :
    ReturnsInHanded {} Try.checked os 8 .any (Rows.substAppliesSpec.pre6 enc Try.prog Try.f8 Rows.substAppliesRow.domain false) (Rows.substAppliesSpec.post enc Try.prog Try.f8 false true false false) :=
  law_lifted (C := Try.checked) (tb := 4) rfl os started ownT laidT fit reads4 (by kernel_rfl) Try.func8 (c := textOf Try.prog 8) (by kernel_rfl) rfl H enc (by kernel_rfl) (by kernel_rfl) (by kernel_rfl)
    (fun ds h => by
      rw [Try.params8] at h
      match ds, h with
      | [d0, d1, d2], _ => rfl)
    (ChangeSpec.witness6 (enc := enc) (C := Try.checked) false ⟨#[], #[.agg #[.int .i64 0, .int .i64 0, .int .i64 0, .slice none 0 0], .slice none 0 0, .agg #[.slice none 0 0, .int .i64 0]], []⟩ 8 (by kernel_rfl) (by kernel_rfl) (by kernel_rfl) (by kernel_rfl))
    applies_main

theorem applies_over : Rows.substAppliesRow.holds Try.pinned (OpenSpec.ofChange Rows.substAppliesSpec) :=
  OpenClaim.holds_of_wide 8 Try.f8 rfl rfl rfl rfl rfl rfl rfl ⟨rfl, rfl, rfl, rfl, rfl⟩ rfl rfl rfl rfl rfl (by kernel_rfl) Try.func8 (by kernel_rfl)
    (of_decide_eq_true (by kernel_rfl)) (by unfold Func.isWrapper; first | (rw [if_pos (by decide +kernel)]; kernel_rfl) | (rw [if_neg (by decide +kernel)]; exact ⟨rfl, rfl⟩))
    (fun os started H enc _ => applies_lifted os started H enc)

end Go.Proofs.Ytcgbfghdcjmaeaa.Ev

namespace Go.Proofs.Ytcgbfghdcjmaeaa

/-- The statement. -/
theorem substApplies_holds : Rows.SubstAppliesSaid := Ev.applies_over
#print axioms substApplies_holds

end Go.Proofs.Ytcgbfghdcjmaeaa
