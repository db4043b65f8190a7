/- This file proves that SubstShorts returns true for every input; without any condition. -/
import Derived.Test.YtcgbfghdcjmaeaaP9
import Derived.Test.YtcgbfghdcjmaeaaA4
import Derived.Test.YtcgbfghdcjmaeaaRows
set_option linter.unusedVariables false
set_option linter.unusedSimpArgs false
namespace Go.Proofs.Ytcgbfghdcjmaeaa.Ev
open Go.Proofs Go.ChangeShapes Go.WideShapes Go.ChangeAt Go.RowKit

theorem shorts_law (t : Tm) : Evt fun k => ∀ ρ K, (Tabs k).c11_0 ρ t K = K true := by
  by_cases ht : Proper t
  · have hsz := ht.1
    have g1 := s35 600 t hsz ht
    obtain ⟨h, n, b, hb, g2⟩ := s36 600 t hsz ht
    refine ((s18 t).and (awake_ok.and (g1.and g2))).step fun k hk ρ K => ?_
    rw [show (Tabs (k + 1)).c11_0 = Gc11_0 (Tabs k) from rfl]
    simp only [Gc11_0, Tm.eta, hk.1, prB_ok ht, Bool.not_true, cond_false, hk.2.2.1, hk.2.2.2, hk.2.1]
    cases hs : shp 600 t with
    | none => rw [hs] at hb; simp only at hb; subst hb; rfl
    | some q => rw [hs] at hb; obtain ⟨rfl, rfl⟩ := hb; simp [shr]
  · refine ((s18 t).and (awake_ok.and (s35_no ht))).step fun k hk ρ K => ?_
    rw [show (Tabs (k + 1)).c11_0 = Gc11_0 (Tabs k) from rfl]
    simp only [Gc11_0, Tm.eta, hk.1, prB_no ht, Bool.not_false, cond_true, hk.2.2, hk.2.1]
    rfl

theorem shorts_main (pvs : List (PV sig)) (h : Alls (Arg Try.prog lay) Try.f11.params.toList pvs) : ∃ m, CallOk Try.prog lay 11 pvs [] (.ret (.d (.bool true)), m) := by
  rw [Try.params11] at h
  obtain ⟨p0, r0, rfl, h0, h⟩ := alls_cons h
  cases alls_nil h
  obtain ⟨⟨t0, t1, t2, t3⟩, rfl⟩ := arg_tm h0
  obtain ⟨k, hk⟩ := (shorts_law (⟨t0, t1, t2, t3⟩ : Tm)).get
  exact ⟨[], of_levels levels fit dok (k := k) (Eq.trans (by kernel_rfl) (hk (Res sig × Mem sig) fun b => some (Res.ret (.d (.bool b)), [])))⟩

theorem shorts_lifted (os : Os) (started : os.Started) (H : Type) (enc : TypeId × Value → H) :
    ReturnsInHanded {} Try.checked os 11 .any (Rows.substShortsSpec.pre6 enc Try.prog Try.f11 Rows.substShortsRow.domain false) (Rows.substShortsSpec.post enc Try.prog Try.f11 false true false false) :=
  law_lifted (C := Try.checked) (tb := 4) rfl os started ownT laidT fit reads4 (by kernel_rfl) Try.func11 (c := textOf Try.prog 11) (by kernel_rfl) rfl H enc (by kernel_rfl) (by kernel_rfl) (by kernel_rfl)
    (fun ds h => by
      rw [Try.params11] at h
      match ds, h with
      | [d0], _ => rfl)
    (ChangeSpec.witness6 (enc := enc) (C := Try.checked) false ⟨#[], #[.agg #[.int .i64 0, .int .i64 0, .int .i64 0, .slice none 0 0]], []⟩ 8 (by kernel_rfl) (by kernel_rfl) (by kernel_rfl) (by kernel_rfl))
    shorts_main

theorem shorts_over : Rows.substShortsRow.holds Try.pinned (OpenSpec.ofChange Rows.substShortsSpec) :=
  OpenClaim.holds_of_wide 11 Try.f11 rfl rfl rfl rfl rfl rfl rfl ⟨rfl, rfl, rfl, rfl, rfl⟩ rfl rfl rfl rfl rfl (by kernel_rfl) Try.func11 (by kernel_rfl)
    (of_decide_eq_true (by kernel_rfl)) (by unfold Func.isWrapper; first | (rw [if_pos (by decide +kernel)]; kernel_rfl) | (rw [if_neg (by decide +kernel)]; exact ⟨rfl, rfl⟩))
    (fun os started H enc _ => shorts_lifted os started H enc)

end Go.Proofs.Ytcgbfghdcjmaeaa.Ev

namespace Go.Proofs.Ytcgbfghdcjmaeaa

/-- The statement. -/
theorem substShorts_holds : Rows.SubstShortsSaid := Ev.shorts_over
#print axioms substShorts_holds

end Go.Proofs.Ytcgbfghdcjmaeaa
