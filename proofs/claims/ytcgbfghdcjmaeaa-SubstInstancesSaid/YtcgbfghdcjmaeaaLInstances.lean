/- This file proves that SubstInstances returns true for every input; without any condition. -/
import Derived.Test.YtcgbfghdcjmaeaaP10
import Derived.Test.YtcgbfghdcjmaeaaA4
import Derived.Test.YtcgbfghdcjmaeaaRows
set_option linter.unusedVariables false
set_option linter.unusedSimpArgs false
namespace Go.Proofs.Ytcgbfghdcjmaeaa.Ev
open Go.Proofs Go.ChangeShapes Go.WideShapes Go.ChangeAt Go.RowKit

theorem instances_law (t : Tm) (l : List Tm) (hl : l.length * 48 ≤ 140737488351232) : Evt fun k => ∀ ρ K, (Tabs k).c12_0 ρ t l K = K true := by
  have hsz := insR_size t l
  have e : decide ((List.length ([] : List Tm) + List.length l) * 48 ≤ 140737488355328) = true := by simp only [decide_eq_true_eq, List.length_nil]; omega
  refine ((s37 t l).and ((s38 t l).and ((s16 (insR t l).1 (by omega : (insR t l).1.size ≤ 2000) (insR t l).2 (insR t l).2).and awake_ok))).step fun k hk ρ K => ?_
  rw [show (Tabs (k + 1)).c12_0 = Gc12_0 (Tabs k) from rfl]
  simp only [Gc12_0, e, cond_true, Tm.eta, Sm.eta, List.nil_append, hk.1, hk.2.1, hk.2.2.1, eqT_iff.2 rfl, beq_self_eq_true, Bool.and_true, hk.2.2.2]

theorem instances_main (pvs : List (PV sig)) (h : Alls (Arg Try.prog lay) Try.f12.params.toList pvs) : ∃ m, CallOk Try.prog lay 12 pvs [] (.ret (.d (.bool true)), m) := by
  rw [Try.params12] at h
  obtain ⟨p0, r0, rfl, h0, h⟩ := alls_cons h
  obtain ⟨p1, r1, rfl, h1, h⟩ := alls_cons h
  cases alls_nil h
  obtain ⟨⟨t0, t1, t2, t3⟩, rfl⟩ := arg_tm h0
  obtain ⟨l, rfl, h_l⟩ := arg_tms h1
  obtain ⟨k, hk⟩ := (instances_law (⟨t0, t1, t2, t3⟩ : Tm) l h_l).get
  exact ⟨[], of_levels levels fit dok (k := k) (Eq.trans (by kernel_rfl) (hk (Res sig × Mem sig) fun b => some (Res.ret (.d (.bool b)), [])))⟩

theorem instances_lifted (os : Os) (started : os.Started) (H : Type) (enc : TypeId × Value → H) :
    ReturnsInHanded {} Try.checked os 12 .any (Rows.substInstancesSpec.pre6 enc Try.prog Try.f12 Rows.substInstancesRow.domain false) (Rows.substInstancesSpec.post enc Try.prog Try.f12 false true false false) :=
  law_lifted (C := Try.checked) (tb := 4) rfl os started ownT laidT fit reads4 (by kernel_rfl) Try.func12 (c := textOf Try.prog 12) (by kernel_rfl) rfl H enc (by kernel_rfl) (by kernel_rfl) (by kernel_rfl)
    (fun ds h => by
      rw [Try.params12] at h
      match ds, h with
      | [d0, d1], _ => rfl)
    (ChangeSpec.witness6 (enc := enc) (C := Try.checked) false ⟨#[], #[.agg #[.int .i64 0, .int .i64 0, .int .i64 0, .slice none 0 0], .slice none 0 0], []⟩ 8 (by kernel_rfl) (by kernel_rfl) (by kernel_rfl) (by kernel_rfl))
    instances_main

theorem instances_over : Rows.substInstancesRow.holds Try.pinned (OpenSpec.ofChange Rows.substInstancesSpec) :=
  OpenClaim.holds_of_wide 12 Try.f12 rfl rfl rfl rfl rfl rfl rfl ⟨rfl, rfl, rfl, rfl, rfl⟩ rfl rfl rfl rfl rfl (by kernel_rfl) Try.func12 (by kernel_rfl)
    (of_decide_eq_true (by kernel_rfl)) (by unfold Func.isWrapper; first | (rw [if_pos (by decide +kernel)]; kernel_rfl) | (rw [if_neg (by decide +kernel)]; exact ⟨rfl, rfl⟩))
    (fun os started H enc _ => instances_lifted os started H enc)

end Go.Proofs.Ytcgbfghdcjmaeaa.Ev

namespace Go.Proofs.Ytcgbfghdcjmaeaa

/-- The statement. -/
theorem substInstances_holds : Rows.SubstInstancesSaid := Ev.instances_over
#print axioms substInstances_holds

end Go.Proofs.Ytcgbfghdcjmaeaa
