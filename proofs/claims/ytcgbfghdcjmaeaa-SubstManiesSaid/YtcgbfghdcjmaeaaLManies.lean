/- This file proves that SubstManies returns true for every input; without any condition. -/
import Derived.Test.YtcgbfghdcjmaeaaP10
import Derived.Test.YtcgbfghdcjmaeaaA4
import Derived.Test.YtcgbfghdcjmaeaaRows
set_option linter.unusedVariables false
set_option linter.unusedSimpArgs false
namespace Go.Proofs.Ytcgbfghdcjmaeaa.Ev
open Go.Proofs Go.ChangeShapes Go.WideShapes Go.ChangeAt Go.RowKit

theorem manR_size (t : Tm) (l : List Tm) (ss : List Sm) : (manR t l ss).1.size ≤ 600 := by
  unfold manR
  cases hb : (prB t && (listB l && (decide (l.length = ss.length) && ss.all smB))) with
  | false => exact tm0_size
  | true =>
    simp only [Bool.and_eq_true, prB_iff, listB_iff] at hb
    exact (fine_ret (fine_manyL l ss t 0 hb.1 hb.2.1.2 (by omega))).1

theorem manies_law (t : Tm) (l : List Tm) (s : List Sm) (hl : l.length * 48 ≤ 140737488351232) (hs : s.length * 32 ≤ 140737488351232) : Evt fun k => ∀ ρ K, (Tabs k).c9_0 ρ t l s K = K true := by
  have hsz := manR_size t l s
  have e : decide ((List.length ([] : List Tm) + List.length l) * 48 ≤ 140737488355328) = true := by simp only [decide_eq_true_eq, List.length_nil]; omega
  have e' : decide ((List.length ([] : List Sm) + List.length s) * 32 ≤ 140737488355328) = true := by simp only [decide_eq_true_eq, List.length_nil]; omega
  refine ((s32 t l s).and ((s33 t l s).and ((s16 (manR t l s).1 (by omega : (manR t l s).1.size ≤ 2000) (manR t l s).2 (manR t l s).2).and awake_ok))).step fun k hk ρ K => ?_
  rw [show (Tabs (k + 1)).c9_0 = Gc9_0 (Tabs k) from rfl]
  simp only [Gc9_0, e, e', cond_true, Tm.eta, Sm.eta, List.nil_append, hk.1, hk.2.1, hk.2.2.1, eqT_iff.2 rfl, beq_self_eq_true, Bool.and_true, hk.2.2.2]

theorem manies_main (pvs : List (PV sig)) (h : Alls (Arg Try.prog lay) Try.f9.params.toList pvs) : ∃ m, CallOk Try.prog lay 9 pvs [] (.ret (.d (.bool true)), m) := by
  rw [Try.params9] at h
  obtain ⟨p0, r0, rfl, h0, h⟩ := alls_cons h
  obtain ⟨p1, r1, rfl, h1, h⟩ := alls_cons h
  obtain ⟨p2, r2, rfl, h2, h⟩ := alls_cons h
  cases alls_nil h
  obtain ⟨⟨t0, t1, t2, t3⟩, rfl⟩ := arg_tm h0
  obtain ⟨l, rfl, h_l⟩ := arg_tms h1
  obtain ⟨s, rfl, h_s⟩ := arg_sms h2
  obtain ⟨k, hk⟩ := (manies_law (⟨t0, t1, t2, t3⟩ : Tm) l s h_l h_s).get
  exact ⟨[], of_levels levels fit dok (k := k) (Eq.trans (by kernel_rfl) (hk (Res sig × Mem sig) fun b => some (Res.ret (.d (.bool b)), [])))⟩

theorem manies_lifted (os : Os) (started : os.Started) (H : Type) (enc : TypeId × Value → H) :
    ReturnsInHanded {} Try.checked os 9 .any (Rows.substManiesSpec.pre6 enc Try.prog Try.f9 Rows.substManiesRow.domain false) (Rows.substManiesSpec.post enc Try.prog Try.f9 false true false false) :=
  law_lifted (C := Try.checked) (tb := 4) rfl os started ownT laidT fit reads4 (by kernel_rfl) Try.func9 (c := textOf Try.prog 9) (by kernel_rfl) rfl H enc (by kernel_rfl) (by kernel_rfl) (by kernel_rfl)
    (fun ds h => by
      rw [Try.params9] at h
      match ds, h with
      | [d0, d1, d2], _ => rfl)
    (ChangeSpec.witness6 (enc := enc) (C := Try.checked) false ⟨#[], #[.agg #[.int .i64 0, .int .i64 0, .int .i64 0, .slice none 0 0], .slice none 0 0, .slice none 0 0], []⟩ 8 (by kernel_rfl) (by kernel_rfl) (by kernel_rfl) (by kernel_rfl))
    manies_main

theorem manies_over : Rows.substManiesRow.holds Try.pinned (OpenSpec.ofChange Rows.substManiesSpec) :=
  OpenClaim.holds_of_wide 9 Try.f9 rfl rfl rfl rfl rfl rfl rfl ⟨rfl, rfl, rfl, rfl, rfl⟩ rfl rfl rfl rfl rfl (by kernel_rfl) Try.func9 (by kernel_rfl)
    (of_decide_eq_true (by kernel_rfl)) (by unfold Func.isWrapper; first | (rw [if_pos (by decide +kernel)]; kernel_rfl) | (rw [if_neg (by decide +kernel)]; exact ⟨rfl, rfl⟩))
    (fun os started H enc _ => manies_lifted os started H enc)

end Go.Proofs.Ytcgbfghdcjmaeaa.Ev

namespace Go.Proofs.Ytcgbfghdcjmaeaa

/-- The statement. -/
theorem substManies_holds : Rows.SubstManiesSaid := Ev.manies_over
#print axioms substManies_holds

end Go.Proofs.Ytcgbfghdcjmaeaa
