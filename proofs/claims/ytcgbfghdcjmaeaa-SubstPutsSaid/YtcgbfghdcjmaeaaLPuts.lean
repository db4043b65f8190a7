/- This file proves that SubstPuts returns true for every input; without any condition. -/
import Derived.Test.YtcgbfghdcjmaeaaP7
import Derived.Test.YtcgbfghdcjmaeaaA4
import Derived.Test.YtcgbfghdcjmaeaaRows
set_option linter.unusedVariables false
set_option linter.unusedSimpArgs false
namespace Go.Proofs.Ytcgbfghdcjmaeaa.Ev
open Go.Proofs Go.ChangeShapes Go.WideShapes Go.ChangeAt Go.RowKit

theorem puts_law (t : Tm) (n : Int) (s : Tm) (a : Sm) : Evt fun k => ∀ ρ K, (Tabs k).c3_0 ρ t.op t.head t.n t.args n s.op s.head s.n s.args a.args a.con K = K true := by
  obtain ⟨u, e, hu, h1, h2⟩ : ∃ u e, u.size ≤ 600 ∧ (Evt fun k => ∀ ρ K, (Tabs k).c14_0 ρ t n s a K = K u e) ∧ Evt fun k => ∀ ρ K, (Tabs k).c15_0 ρ t n s a K = K u e := by
    have h1 := s14 t n s a
    have h2 := s15 t n s a
    cases hg : goodB [t, s] [a] [n] with
    | false => rw [hg] at h1 h2; exact ⟨tm0, 2, tm0_size, h1, h2⟩
    | true =>
      rw [hg] at h1 h2
      have hs : Proper s := (goodB_iff.1 hg).2.1 s (by simp)
      cases hp : put 20000 t n s a 0 with
      | mk r c =>
        rw [hp] at h1 h2
        cases r with
        | error e => exact ⟨tm0, e, tm0_size, h1, h2⟩
        | ok u => exact ⟨u, 0, put_size hs hp, h1, h2⟩
  refine (h1.and (h2.and ((s16 u (by omega : u.size ≤ 2000) e e).and awake_ok))).step fun k hk ρ K => ?_
  show Gc3_0 (Tabs k) ρ _ _ _ _ _ _ _ _ _ _ _ K = _
  have e1 : eqT u u = true := eqT_iff.2 rfl
  simp only [Gc3_0, Tm.eta, Sm.eta, hk.1, hk.2.1, hk.2.2.1, e1, beq_self_eq_true, Bool.and_true, cond_true, hk.2.2.2]

theorem puts_main (pvs : List (PV sig)) (h : Alls (Arg Try.prog lay) Try.f3.params.toList pvs) : ∃ m, CallOk Try.prog lay 3 pvs [] (.ret (.d (.bool true)), m) := by
  rw [Try.params3] at h
  obtain ⟨p0, r0, rfl, h0, h⟩ := alls_cons h
  cases alls_nil h
  obtain ⟨t, n, s, a, rfl⟩ := arg_put h0
  obtain ⟨k, hk⟩ := (puts_law t n s a).get
  exact ⟨[], of_levels levels fit dok (k := k) (Eq.trans (by kernel_rfl) (hk (Res sig × Mem sig) fun b => some (Res.ret (.d (.bool b)), [])))⟩

theorem puts_lifted (os : Os) (started : os.Started) (H : Type) (enc : TypeId × Value → H) :
    ReturnsInHanded {} Try.checked os 3 .any (Rows.substPutsSpec.pre6 enc Try.prog Try.f3 Rows.substPutsRow.domain false) (Rows.substPutsSpec.post enc Try.prog Try.f3 false true false false) :=
  law_lifted (C := Try.checked) (tb := 4) rfl os started ownT laidT fit reads4 (by kernel_rfl) Try.func3 (c := textOf Try.prog 3) (by kernel_rfl) rfl H enc (by kernel_rfl) (by kernel_rfl) (by kernel_rfl)
    (fun ds h => by
      rw [Try.params3] at h
      match ds, h with
      | [d0], _ => rfl)
    (ChangeSpec.witness6 (enc := enc) (C := Try.checked) false ⟨#[], #[.agg #[.int .i64 0, .int .i64 0, .int .i64 0, .slice none 0 0, .int .i64 0, .int .i64 0, .int .i64 0, .int .i64 0, .slice none 0 0, .slice none 0 0, .int .i64 0]], []⟩ 8 (by kernel_rfl) (by kernel_rfl) (by kernel_rfl) (by kernel_rfl))
    puts_main

theorem puts_over : Rows.substPutsRow.holds Try.pinned (OpenSpec.ofChange Rows.substPutsSpec) :=
  OpenClaim.holds_of_wide 3 Try.f3 rfl rfl rfl rfl rfl rfl rfl ⟨rfl, rfl, rfl, rfl, rfl⟩ rfl rfl rfl rfl rfl (by kernel_rfl) Try.func3 (by kernel_rfl)
    (of_decide_eq_true (by kernel_rfl)) (by unfold Func.isWrapper; first | (rw [if_pos (by decide +kernel)]; kernel_rfl) | (rw [if_neg (by decide +kernel)]; exact ⟨rfl, rfl⟩))
    (fun os started H enc _ => puts_lifted os started H enc)

end Go.Proofs.Ytcgbfghdcjmaeaa.Ev

namespace Go.Proofs.Ytcgbfghdcjmaeaa

/-- The statement. -/
theorem substPuts_holds : Rows.SubstPutsSaid := Ev.puts_over
#print axioms substPuts_holds

end Go.Proofs.Ytcgbfghdcjmaeaa
