/- This file proves that SubstLongs returns true for every input; without any condition. -/
import Derived.Test.YtcgbfghdcjmaeaaP9
import Derived.Test.YtcgbfghdcjmaeaaA4
import Derived.Test.YtcgbfghdcjmaeaaRows
set_option linter.unusedVariables false
set_option linter.unusedSimpArgs false
namespace Go.Proofs.Ytcgbfghdcjmaeaa.Ev
open Go.Proofs Go.ChangeShapes Go.WideShapes Go.ChangeAt Go.RowKit

theorem longs_law (h n : Int) (s : Sm) : Evt fun k => ∀ ρ K, (Tabs k).c10_0 ρ h n s K = K true := by
  have hsz := lngR_size h n s
  have g1 := (s28 h n s).and ((s34 h n s).and ((s16 (lngR h n s).1 (by omega : (lngR h n s).1.size ≤ 2000) (lngR h n s).2 (lngR h n s).2).and awake_ok))
  have e1 : eqT (lngR h n s).1 (lngR h n s).1 = true := eqT_iff.2 rfl
  by_cases hz : (lngR h n s).2 = 0
  · have hP : Proper (lngR h n s).1 ∧ (lngR h n s).1 = lng h n s ∧ 0 ≤ n ∧ Small s := by
      unfold lngR at hz ⊢
      split at hz
      · rename_i hc
        split at hz
        · rename_i hp
          rw [if_pos hc, if_pos hp]
          exact ⟨hp, rfl, hc.2.2.1.1, hc.2.2.2⟩
        · simp at hz
      · simp at hz
    have g2 := s35 600 (lngR h n s).1 hP.1.1 hP.1
    have hs : shp 600 (lngR h n s).1 = some (h, n) := by rw [hP.2.1]; exact shp_lng 600 s h n hP.2.2.2.1 hP.2.2.1
    rw [hs] at g2
    rw [hz] at g1
    refine (g1.and g2).step fun k hk ρ K => ?_
    rw [show (Tabs (k + 1)).c10_0 = Gc10_0 (Tabs k) from rfl]
    simp only [Gc10_0, Sm.eta, Tm.eta, hk.1.1, hk.1.2.1, hk.1.2.2.1, e1, beq_self_eq_true, Bool.and_true, Bool.not_true, cond_false, hz, bne_self_eq_false, hk.2, shr, cond_true, hk.1.2.2.2]
  · refine g1.step fun k hk ρ K => ?_
    rw [show (Tabs (k + 1)).c10_0 = Gc10_0 (Tabs k) from rfl]
    simp only [Gc10_0, Sm.eta, Tm.eta, hk.1, hk.2.1, hk.2.2.1, e1, beq_self_eq_true, Bool.and_true, Bool.not_true, cond_false, show ((lngR h n s).2 != 0) = true by simp [hz], cond_true, hk.2.2.2]

theorem longs_main (pvs : List (PV sig)) (h : Alls (Arg Try.prog lay) Try.f10.params.toList pvs) : ∃ m, CallOk Try.prog lay 10 pvs [] (.ret (.d (.bool true)), m) := by
  rw [Try.params10] at h
  obtain ⟨p0, r0, rfl, h0, h⟩ := alls_cons h
  obtain ⟨p1, r1, rfl, h1, h⟩ := alls_cons h
  obtain ⟨p2, r2, rfl, h2, h⟩ := alls_cons h
  cases alls_nil h
  obtain ⟨hd, rfl⟩ := arg_int h0
  obtain ⟨n, rfl⟩ := arg_int h1
  obtain ⟨⟨s0, s1⟩, rfl⟩ := arg_sm h2
  obtain ⟨k, hk⟩ := (longs_law hd n (⟨s0, s1⟩ : Sm)).get
  exact ⟨[], of_levels levels fit dok (k := k) (Eq.trans (by kernel_rfl) (hk (Res sig × Mem sig) fun b => some (Res.ret (.d (.bool b)), [])))⟩

theorem longs_lifted (os : Os) (started : os.Started) (H : Type) (enc : TypeId × Value → H) :
    ReturnsInHanded {} Try.checked os 10 .any (Rows.substLongsSpec.pre6 enc Try.prog Try.f10 Rows.substLongsRow.domain false) (Rows.substLongsSpec.post enc Try.prog Try.f10 false true false false) :=
  law_lifted (C := Try.checked) (tb := 4) rfl os started ownT laidT fit reads4 (by kernel_rfl) Try.func10 (c := textOf Try.prog 10) (by kernel_rfl) rfl H enc (by kernel_rfl) (by kernel_rfl) (by kernel_rfl)
    (fun ds h => by
      rw [Try.params10] at h
      match ds, h with
      | [d0, d1, d2], _ => rfl)
    (ChangeSpec.witness6 (enc := enc) (C := Try.checked) false ⟨#[], #[.int .i64 0, .int .i64 0, .agg #[.slice none 0 0, .int .i64 0]], []⟩ 8 (by kernel_rfl) (by kernel_rfl) (by kernel_rfl) (by kernel_rfl))
    longs_main

theorem longs_over : Rows.substLongsRow.holds Try.pinned (OpenSpec.ofChange Rows.substLongsSpec) :=
  OpenClaim.holds_of_wide 10 Try.f10 rfl rfl rfl rfl rfl rfl rfl ⟨rfl, rfl, rfl, rfl, rfl⟩ rfl rfl rfl rfl rfl (by kernel_rfl) Try.func10 (by kernel_rfl)
    (of_decide_eq_true (by kernel_rfl)) (by unfold Func.isWrapper; first | (rw [if_pos (by decide +kernel)]; kernel_rfl) | (rw [if_neg (by decide +kernel)]; exact ⟨rfl, rfl⟩))
    (fun os started H enc _ => longs_lifted os started H enc)

end Go.Proofs.Ytcgbfghdcjmaeaa.Ev

namespace Go.Proofs.Ytcgbfghdcjmaeaa

/-- The statement. -/
theorem substLongs_holds : Rows.SubstLongsSaid := Ev.longs_over
#print axioms substLongs_holds

end Go.Proofs.Ytcgbfghdcjmaeaa
