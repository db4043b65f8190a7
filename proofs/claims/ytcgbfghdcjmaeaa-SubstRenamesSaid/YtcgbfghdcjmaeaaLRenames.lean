/- This file proves that SubstRenames returns true for every input; without any condition. -/
import Derived.Test.YtcgbfghdcjmaeaaP9
import Derived.Test.YtcgbfghdcjmaeaaA4
import Derived.Test.YtcgbfghdcjmaeaaRows
set_option linter.unusedVariables false
set_option linter.unusedSimpArgs false
namespace Go.Proofs.Ytcgbfghdcjmaeaa.Ev
open Go.Proofs Go.ChangeShapes Go.WideShapes Go.ChangeAt Go.RowKit

theorem renames_law (cs ctx : List Sm) (t : Tm) (s : Sm) (n0 m0 : Int) : Evt fun k => ∀ ρ K, (Tabs k).c7_0 ρ cs ctx t.op t.head t.n t.args s.args s.con n0 m0 K = K true := by
  have base := (s22 cs ctx t s).and awake_ok
  cases hr : rightB cs ctx t s with
  | false =>
    refine base.step fun k hk ρ K => ?_
    rw [show (Tabs (k + 1)).c7_0 = Gc7_0 (Tabs k) from rfl]
    simp only [Gc7_0, hk.1, hr, Bool.not_false, cond_true, hk.2]
  | true =>
    have R := rightB_iff.1 hr
    by_cases h2 : (ctx.length : Int) < 2
    · refine base.step fun k hk ρ K => ?_
      rw [show (Tabs (k + 1)).c7_0 = Gc7_0 (Tabs k) from rfl]
      simp only [Gc7_0, hk.1, hr, Bool.not_true, cond_false, h2, decide_true, cond_true, hk.2]
    have hc20 := R.ctx20
    have hwl := W_id (show -9223372036854775808 ≤ (ctx.length : Int) - 1 by omega) (by omega)
    have hul : IntKind.wrap .u64 ((ctx.length : Int) - 1) = (ctx.length : Int) - 1 := u64_id (by omega) (by omega)
    have hm0 := mod_range m0 (m := (ctx.length : Int) - 1) (by omega)
    obtain ⟨m', hm'⟩ : ∃ m', m' = Int.tmod (IntKind.wrap .u64 m0) ((ctx.length : Int) - 1) := ⟨_, rfl⟩
    rw [← hm'] at hm0
    have hwm' := W_id (show -9223372036854775808 ≤ m' by omega) (by omega)
    obtain ⟨m, hm⟩ : ∃ m, m = 1 + m' := ⟨_, rfl⟩
    have hwm : IntKind.wrap .i64 (1 + m') = m := by rw [W_id (by omega) (by omega)]; exact hm.symm
    have hum : IntKind.wrap .u64 m = m := u64_id (by omega) (by omega)
    have hn0 := mod_range n0 (m := m) (by omega)
    obtain ⟨n, hn⟩ : ∃ n, n = Int.tmod (IntKind.wrap .u64 n0) m := ⟨_, rfl⟩
    rw [← hn] at hn0
    have hwn := W_id (show -9223372036854775808 ≤ n by omega) (by omega)
    have hin : IntKind.wrap .i64 ((ctx.length : Int) - 1 - n) = (ctx.length : Int) - 1 - n := W_id (by omega) (by omega)
    have him : IntKind.wrap .i64 ((ctx.length : Int) - 1 - m) = (ctx.length : Int) - 1 - m := W_id (by omega) (by omega)
    have hmn : IntKind.wrap .i64 (m - n) = m - n := W_id (by omega) (by omega)
    have hmn1 : IntKind.wrap .i64 (m - n - 1) = m - n - 1 := W_id (by omega) (by omega)
    have hm1 : IntKind.wrap .i64 (m - 1) = m - 1 := W_id (by omega) (by omega)
    obtain ⟨a, ha⟩ : ∃ a, ctx[ctx.length - 1 - n.toNat]? = some a := ⟨_, List.getElem?_eq_getElem (by omega)⟩
    obtain ⟨b, hb⟩ : ∃ b, ctx[ctx.length - 1 - m.toNat]? = some b := ⟨_, List.getElem?_eq_getElem (by omega)⟩
    have hra : rdEl lay Key.sm ctx ((ctx.length : Int) - 1 - n) = a := rdSm_get (by rw [show ((ctx.length : Int) - 1 - n).toNat = ctx.length - 1 - n.toNat by omega]; exact ha)
    have hrb : rdEl lay Key.sm ctx ((ctx.length : Int) - 1 - m) = b := rdSm_get (by rw [show ((ctx.length : Int) - 1 - m).toNat = ctx.length - 1 - m.toNat by omega]; exact hb)
    have e1 : decide ((0 : Int) ≤ (ctx.length : Int) - 1 - n) = true := decide_eq_true (by omega)
    have e2 : decide ((ctx.length : Int) - 1 - n < (ctx.length : Int)) = true := decide_eq_true (by omega)
    have e3 : decide ((0 : Int) ≤ (ctx.length : Int) - 1 - m) = true := decide_eq_true (by omega)
    have e4 : decide ((ctx.length : Int) - 1 - m < (ctx.length : Int)) = true := decide_eq_true (by omega)
    have e5 : ((ctx.length : Int) - 1 == 0) = false := by rw [beq_eq_false_iff_ne]; omega
    have e6 : (m == 0) = false := by rw [beq_eq_false_iff_ne]; omega
    have hsma : Small a := R.ctxs a (List.mem_of_getElem? ha)
    have hasz := hsma.1
    have g27 := s27 a b (by omega)
    have g28 := s28 1 (m - n - 1) a
    have g14 := s14' t n (lngR 1 (m - n - 1) a).1 a
    have htsz := R.pr.1
    have g29 := s29 n (m - 1) (by omega) (by omega) R.fit 0 1 (by omega) (by omega) R.pr.2
    rw [Int.add_zero] at g29
    have g26 := s26 (sub t n (lngR 1 (m - n - 1) a).1 a).1 (rn (reF n (m - 1 - n)) t) (by have := sub_size t n (lngR 1 (m - n - 1) a).1 a; omega)
    have hR1 : Proper (lng 1 (m - n - 1) a) → lngR 1 (m - n - 1) a = (lng 1 (m - n - 1) a, 0) := fun hp => by
      unfold lngR
      rw [if_pos ⟨by omega, by omega, by omega, hsma⟩, if_pos hp]
    have hR0 : ¬ Proper (lng 1 (m - n - 1) a) → lngR 1 (m - n - 1) a = (tm0, 5) := fun hp => by
      unfold lngR
      rw [if_pos ⟨by omega, by omega, by omega, hsma⟩, if_neg hp]
    refine (base.and (g27.and (g28.and (g14.and (g29.and g26))))).step fun k hk ρ K => ?_
    obtain ⟨⟨k1, k2⟩, k3, k4, k5, k6, k7⟩ := hk
    rw [show (Tabs (k + 1)).c7_0 = Gc7_0 (Tabs k) from rfl]
    simp only [Gc7_0, k1, hr, Bool.not_true, cond_false, h2, decide_false, Tm.eta, Sm.eta, hwl, hul, ← hm', hwm', hwm, hum, ← hn, hwn, hin, him, hmn, hmn1, hm1, e1, e2, e3, e4, e5, e6, Bool.and_true, cond_true, hra, hrb, k3, k4, k5, k6, k7, k2]
    cases hab : eqS a b with
    | false => rfl
    | true =>
    have hab' := eqS_iff.1 hab
    subst hab'
    simp only [Bool.not_true, cond_false]
    by_cases hp : Proper (lng 1 (m - n - 1) a)
    rotate_left
    · rw [hR0 hp]; rfl
    rw [hR1 hp]
    simp only [bne_self_eq_false, cond_false]
    have hsplit := rev_split ctx n.toNat a (by omega) ha
    have hlen1 : ((ctx.reverse.take n.toNat).length : Int) = n := by simp only [List.length_take, List.length_reverse]; omega
    have hja : (ctx.reverse.drop (n.toNat + 1))[(m - n - 1).toNat]? = some a := by
      rw [List.getElem?_drop, show n.toNat + 1 + (m - n - 1).toNat = m.toNat by omega, List.getElem?_reverse (by omega)]
      exact hb
    have hfit := R.fit
    rw [hsplit] at hfit
    by_cases he : (sub t n (lng 1 (m - n - 1) a) a).2 = 0
    · obtain ⟨_, c, hc⟩ := sub_ok he
      have := put_renames (cons := cs) (Γ1 := ctx.reverse.take n.toNat) (Γ2 := ctx.reverse.drop (n.toNat + 1)) (by omega : 0 ≤ m - n - 1) hja hfit (by rw [hlen1]; exact hc)
      rw [hlen1, show m - n - 1 = m - 1 - n by omega] at this
      rw [show m - n - 1 = m - 1 - n by omega] at he ⊢
      simp only [he, bne_self_eq_false, cond_false, eqT_iff.2 this, cond_true]
    · obtain ⟨c, hc⟩ := sub_err R.pr hp hsma (by omega) he
      have hput := put_fit (cons := cs) (Γ2 := ctx.reverse.drop (n.toNat + 1)) 20000 (ctx.reverse.take n.toNat) t (lng 1 (m - n - 1) a) a s.args s.con 0 hfit (lng_fit a _ _ (by omega) hja)
      rw [hlen1, hc] at hput
      simp only at hput
      simp only [hput, show ((5 : Int) != 0) = true by rfl, cond_true, beq_self_eq_true]

theorem renames_main (pvs : List (PV sig)) (h : Alls (Arg Try.prog lay) Try.f7.params.toList pvs) : ∃ m, CallOk Try.prog lay 7 pvs [] (.ret (.d (.bool true)), m) := by
  rw [Try.params7] at h
  obtain ⟨p0, r0, rfl, h0, h⟩ := alls_cons h
  obtain ⟨p1, r1, rfl, h1, h⟩ := alls_cons h
  obtain ⟨p2, r2, rfl, h2, h⟩ := alls_cons h
  cases alls_nil h
  obtain ⟨cs, ctx, t, s, rfl⟩ := arg_typed h0
  obtain ⟨n, rfl⟩ := arg_int h1
  obtain ⟨m, rfl⟩ := arg_int h2
  obtain ⟨k, hk⟩ := (renames_law cs ctx t s n m).get
  exact ⟨[], of_levels levels fit dok (k := k) (Eq.trans (by kernel_rfl) (hk (Res sig × Mem sig) fun b => some (Res.ret (.d (.bool b)), [])))⟩

theorem renames_lifted (os : Os) (started : os.Started) (H : Type) (enc : TypeId × Value → H) :
    ReturnsInHanded {} Try.checked os 7 .any (Rows.substRenamesSpec.pre6 enc Try.prog Try.f7 Rows.substRenamesRow.domain false) (Rows.substRenamesSpec.post enc Try.prog Try.f7 false true false false) :=
  law_lifted (C := Try.checked) (tb := 4) rfl os started ownT laidT fit reads4 (by kernel_rfl) Try.func7 (c := textOf Try.prog 7) (by kernel_rfl) rfl H enc (by kernel_rfl) (by kernel_rfl) (by kernel_rfl)
    (fun ds h => by
      rw [Try.params7] at h
      match ds, h with
      | [d0, d1, d2], _ => rfl)
    (ChangeSpec.witness6 (enc := enc) (C := Try.checked) false ⟨#[], #[.agg #[.slice none 0 0, .slice none 0 0, .int .i64 0, .int .i64 0, .int .i64 0, .slice none 0 0, .slice none 0 0, .int .i64 0], .int .i64 0, .int .i64 0], []⟩ 8 (by kernel_rfl) (by kernel_rfl) (by kernel_rfl) (by kernel_rfl))
    renames_main

theorem renames_over : Rows.substRenamesRow.holds Try.pinned (OpenSpec.ofChange Rows.substRenamesSpec) :=
  OpenClaim.holds_of_wide 7 Try.f7 rfl rfl rfl rfl rfl rfl rfl ⟨rfl, rfl, rfl, rfl, rfl⟩ rfl rfl rfl rfl rfl (by kernel_rfl) Try.func7 (by kernel_rfl)
    (of_decide_eq_true (by kernel_rfl)) (by unfold Func.isWrapper; first | (rw [if_pos (by decide +kernel)]; kernel_rfl) | (rw [if_neg (by decide +kernel)]; exact ⟨rfl, rfl⟩))
    (fun os started H enc _ => renames_lifted os started H enc)

end Go.Proofs.Ytcgbfghdcjmaeaa.Ev

namespace Go.Proofs.Ytcgbfghdcjmaeaa

/-- The statement. -/
theorem substRenames_holds : Rows.SubstRenamesSaid := Ev.renames_over
#print axioms substRenames_holds

end Go.Proofs.Ytcgbfghdcjmaeaa
