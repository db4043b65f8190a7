/- This file proves that SubstTyped returns true for every input; without any condition. -/
import Derived.Test.YtcgbfghdcjmaeaaP8
import Derived.Test.YtcgbfghdcjmaeaaA4
import Derived.Test.YtcgbfghdcjmaeaaRows
set_option linter.unusedVariables false
set_option linter.unusedSimpArgs false
namespace Go.Proofs.Ytcgbfghdcjmaeaa.Ev
open Go.Proofs Go.ChangeShapes Go.WideShapes Go.ChangeAt Go.RowKit

theorem typed_law (cs ctx : List Sm) (t : Tm) (s : Sm) (n0 : Int) (u : Tm) : Evt fun k => ∀ ρ K, (Tabs k).c5_0 ρ cs ctx t.op t.head t.n t.args s.args s.con n0 u K = K true := by
  have base := (s22 cs ctx t s).and awake_ok
  cases hr : rightB cs ctx t s with
  | false =>
    refine base.step fun k hk ρ K => ?_
    rw [show (Tabs (k + 1)).c5_0 = Gc5_0 (Tabs k) from rfl]
    simp only [Gc5_0, hk.1, hr, Bool.not_false, cond_true, hk.2]
  | true =>
    have R := rightB_iff.1 hr
    by_cases h0 : ctx.length = 0
    · refine base.step fun k hk ρ K => ?_
      rw [show (Tabs (k + 1)).c5_0 = Gc5_0 (Tabs k) from rfl]
      have e : ((ctx.length : Int) == 0) = true := by simp [h0]
      simp only [Gc5_0, hk.1, hr, Bool.not_true, cond_false, e, cond_true, hk.2]
    have e0 : ((ctx.length : Int) == 0) = false := by rw [beq_eq_false_iff_ne]; omega
    by_cases hu : Proper u
    rotate_left
    · refine (base.and (s18 u)).step fun k hk ρ K => ?_
      rw [show (Tabs (k + 1)).c5_0 = Gc5_0 (Tabs k) from rfl]
      simp only [Gc5_0, hk.1.1, hr, Bool.not_true, cond_false, e0, Tm.eta, hk.2, prB_no hu, Bool.not_false, cond_true, hk.1.2]
    have hc20 := R.ctx20
    have hu64 : IntKind.wrap .u64 (ctx.length : Int) = ctx.length := u64_id (by omega) (by omega)
    obtain ⟨n, hn⟩ : ∃ n, n = Int.tmod (IntKind.wrap .u64 n0) (ctx.length : Int) := ⟨_, rfl⟩
    have hnr := mod_range n0 (m := (ctx.length : Int)) (by omega)
    rw [← hn] at hnr
    have hwn := W_id (show -9223372036854775808 ≤ n by omega) (by omega)
    have hwi : IntKind.wrap .i64 (IntKind.wrap .i64 ((ctx.length : Int) - 1) - n) = (ctx.length : Int) - 1 - n := by
      rw [W_id (show -9223372036854775808 ≤ (ctx.length : Int) - 1 by omega) (by omega), W_id (by omega) (by omega)]
    obtain ⟨a, ha⟩ : ∃ a, ctx[ctx.length - 1 - n.toNat]? = some a := ⟨_, List.getElem?_eq_getElem (by omega)⟩
    have hrd : rdEl lay Key.sm ctx ((ctx.length : Int) - 1 - n) = a := rdSm_get (by rw [show ((ctx.length : Int) - 1 - n).toNat = ctx.length - 1 - n.toNat by omega]; exact ha)
    have e1 : decide ((0 : Int) ≤ (ctx.length : Int) - 1 - n) = true := decide_eq_true (by omega)
    have e2 : decide ((ctx.length : Int) - 1 - n < (ctx.length : Int)) = true := decide_eq_true (by omega)
    have hsm : Small a := R.ctxs a (List.mem_of_getElem? ha)
    have husz := hu.1
    have g24 := s24 ctx n hnr.1 hnr.2 (by omega)
    have g23 := s23 cs u.size u (ctx.take (ctx.length - 1 - n.toNat)) a 1 (Nat.le_refl _) husz (by simp only [List.length_take]; omega) hu.2
    have base2 := (base.and (s18 u)).and (g24.and g23)
    have head : ∀ k, ((((∀ ρ K, (Tabs k).c22_0 ρ cs ctx t.op t.head t.n t.args s.args s.con K = K (rightB cs ctx t s)) ∧ (∀ ρ K, (Tabs k).c17_0 ρ K = K true)) ∧ (∀ ρ K, (Tabs k).c18_0 ρ u K = K (prB u))) ∧
        ((∀ ρ K, (Tabs k).c24_0 ρ ctx n K = K (ctx.take (ctx.length - 1 - n.toNat))) ∧ (∀ ρ K, (Tabs k).c23_0 ρ cs (ctx.take (ctx.length - 1 - n.toNat)) u a K = K (fitB cs (ctx.take (ctx.length - 1 - n.toNat)) u a)))) →
        ∀ ρ K, Gc5_0 (Tabs k) ρ cs ctx t.op t.head t.n t.args s.args s.con n0 u K = cond (!(fitB cs (ctx.take (ctx.length - 1 - n.toNat)) u a)) (K true)
          ((Tabs k).c14_0 ρ t n u a (fun r19 r20 => cond (r20 != 0) (cond (r20 == 5) (K true) (K false)) ((Tabs k).c25_0 ρ ctx n (fun r22 => (Tabs k).c23_0 ρ cs r22 r19 s (fun r23 => cond r23 (K true) (K false)))))) := by
      intro k hk ρ K
      simp only [Gc5_0, hk.1.1.1, hr, Bool.not_true, cond_false, e0, Tm.eta, hk.1.2, prB_ok hu, hu64, ← hn, hwn, hwi, e1, e2, Bool.and_true, cond_true, hk.2.1, hrd, Sm.eta, hk.2.2, hk.1.1.2]
    cases hf : fitB cs (ctx.take (ctx.length - 1 - n.toNat)) u a with
    | false =>
      refine base2.step fun k hk ρ K => ?_
      rw [show (Tabs (k + 1)).c5_0 = Gc5_0 (Tabs k) from rfl, head k hk, hf]; rfl
    | true =>
      have hfu := fitB_iff.1 hf
      rw [rev_before ctx n.toNat (by omega)] at hfu
      have hsplit := rev_split ctx n.toNat a (by omega) ha
      have hlen1 : ((ctx.reverse.take n.toNat).length : Int) = n := by simp only [List.length_take, List.length_reverse]; omega
      have hfit := R.fit
      rw [hsplit] at hfit
      have hput := put_fit (cons := cs) (Γ2 := ctx.reverse.drop (n.toNat + 1)) 20000 (ctx.reverse.take n.toNat) t u a s.args s.con 0 hfit hfu
      rw [hlen1] at hput
      have g14 := s14' t n u a
      by_cases he : (sub t n u a).2 = 0
      · obtain ⟨hp, c, hc⟩ := sub_ok he
        rw [hc] at hput
        have hpsz := hp.1
        have g25 := s25 ctx n hnr.1 hnr.2 (by omega)
        have g23' := s23 cs (sub t n u a).1.size (sub t n u a).1 (ctx.take (ctx.length - 1 - n.toNat) ++ ctx.drop (ctx.length - n.toNat)) s 1 (Nat.le_refl _) hpsz (by simp only [List.length_append, List.length_take, List.length_drop]; omega) hp.2
        have hlast : fitB cs (ctx.take (ctx.length - 1 - n.toNat) ++ ctx.drop (ctx.length - n.toNat)) (sub t n u a).1 s = true := by
          rw [fitB_iff, rev_without ctx n.toNat (by omega)]
          exact hput
        refine (base2.and (g14.and (g25.and g23'))).step fun k hk ρ K => ?_
        rw [show (Tabs (k + 1)).c5_0 = Gc5_0 (Tabs k) from rfl, head k hk.1, hf]
        simp only [Bool.not_true, cond_false, hk.2.1, he, bne_self_eq_false, hk.2.2.1, hk.2.2.2, hlast, cond_true]
      · obtain ⟨c, hc⟩ := sub_err R.pr hu hsm (by omega) he
        rw [hc] at hput
        simp only at hput
        refine (base2.and g14).step fun k hk ρ K => ?_
        rw [show (Tabs (k + 1)).c5_0 = Gc5_0 (Tabs k) from rfl, head k hk.1, hf]
        simp only [Bool.not_true, cond_false, hk.2, hput, show ((5 : Int) != 0) = true by rfl, cond_true, beq_self_eq_true]

theorem typed_main (pvs : List (PV sig)) (h : Alls (Arg Try.prog lay) Try.f5.params.toList pvs) : ∃ m, CallOk Try.prog lay 5 pvs [] (.ret (.d (.bool true)), m) := by
  rw [Try.params5] at h
  obtain ⟨p0, r0, rfl, h0, h⟩ := alls_cons h
  obtain ⟨p1, r1, rfl, h1, h⟩ := alls_cons h
  obtain ⟨p2, r2, rfl, h2, h⟩ := alls_cons h
  cases alls_nil h
  obtain ⟨cs, ctx, t, s, rfl⟩ := arg_typed h0
  obtain ⟨n, rfl⟩ := arg_int h1
  obtain ⟨⟨u0, u1, u2, u3⟩, rfl⟩ := arg_tm h2
  obtain ⟨k, hk⟩ := (typed_law cs ctx t s n (⟨u0, u1, u2, u3⟩ : Tm)).get
  exact ⟨[], of_levels levels fit dok (k := k) (Eq.trans (by kernel_rfl) (hk (Res sig × Mem sig) fun b => some (Res.ret (.d (.bool b)), [])))⟩

theorem typed_lifted (os : Os) (started : os.Started) (H : Type) (enc : TypeId × Value → H) :
    ReturnsInHanded {} Try.checked os 5 .any (Rows.substTypedSpec.pre6 enc Try.prog Try.f5 Rows.substTypedRow.domain false) (Rows.substTypedSpec.post enc Try.prog Try.f5 false true false false) :=
  law_lifted (C := Try.checked) (tb := 4) rfl os started ownT laidT fit reads4 (by kernel_rfl) Try.func5 (c := textOf Try.prog 5) (by kernel_rfl) rfl H enc (by kernel_rfl) (by kernel_rfl) (by kernel_rfl)
    (fun ds h => by
      rw [Try.params5] at h
      match ds, h with
      | [d0, d1, d2], _ => rfl)
    (ChangeSpec.witness6 (enc := enc) (C := Try.checked) false ⟨#[], #[.agg #[.slice none 0 0, .slice none 0 0, .int .i64 0, .int .i64 0, .int .i64 0, .slice none 0 0, .slice none 0 0, .int .i64 0], .int .i64 0, .agg #[.int .i64 0, .int .i64 0, .int .i64 0, .slice none 0 0]], []⟩ 8 (by kernel_rfl) (by kernel_rfl) (by kernel_rfl) (by kernel_rfl))
    typed_main

theorem typed_over : Rows.substTypedRow.holds Try.pinned (OpenSpec.ofChange Rows.substTypedSpec) :=
  OpenClaim.holds_of_wide 5 Try.f5 rfl rfl rfl rfl rfl rfl rfl ⟨rfl, rfl, rfl, rfl, rfl⟩ rfl rfl rfl rfl rfl (by kernel_rfl) Try.func5 (by kernel_rfl)
    (of_decide_eq_true (by kernel_rfl)) (by unfold Func.isWrapper; first | (rw [if_pos (by decide +kernel)]; kernel_rfl) | (rw [if_neg (by decide +kernel)]; exact ⟨rfl, rfl⟩))
    (fun os started H enc _ => typed_lifted os started H enc)

end Go.Proofs.Ytcgbfghdcjmaeaa.Ev

namespace Go.Proofs.Ytcgbfghdcjmaeaa

/-- The statement. -/
theorem substTyped_holds : Rows.SubstTypedSaid := Ev.typed_over
#print axioms substTyped_holds

end Go.Proofs.Ytcgbfghdcjmaeaa
