/- This file proves that LexisBlank returns true for every input, where the variables that the row lists hold what it lists; without any other condition. -/
import Derived.Test.YtdhpgcjhiommkaaDoorV17
import Derived.Test.YtdhpgcjhiommkaaDoorA1
import Derived.Test.YtdhpgcjhiommkaaDoorCards
import Derived.Test.YtdhpgcjhiommkaaDoorTie
import Derived.SevenTiedAt
set_option linter.unusedVariables false
set_option linter.unusedSimpArgs false
namespace Go.Proofs.YtdhpgcjhiommkaaDoor.Ev
open Go.Proofs Go.ChangeShapes Go.WideShapes Go.ChangeAt Go.RowKit

theorem blank_main (pvs : List (PV sig)) (h : Alls (Arg Tryd.prog lay) Tryd.f6.params.toList pvs) : ∃ m, CallOk Tryd.prog lay 6 pvs [] (.ret (.d (.bool true)), m) := by
  rw [Tryd.params6] at h
  obtain ⟨p0, r0, rfl, h0, h⟩ := alls_cons h
  obtain ⟨p1, r1, rfl, h1, h⟩ := alls_cons h
  obtain ⟨p2, r2, rfl, h2, h⟩ := alls_cons h
  cases alls_nil h
  obtain ⟨s, rfl, h_s⟩ := arg_str h0
  obtain ⟨n, rfl⟩ := arg_int h1
  obtain ⟨t, rfl, h_t⟩ := arg_str h2
  obtain ⟨k, hk⟩ := (blank_law s n t h_s h_t).get
  exact ⟨[], of_levels levels fit1 dok (k := k) (Eq.trans (by kernel_rfl) (hk (Res sig × Mem sig) fun b => some (Res.ret (.d (.bool b)), [])))⟩

theorem blank_lifted (os : Os) (started : os.Started) (H : Type) (enc : TypeId × Value → H) :
    ReturnsInHanded {} Tryd.checked os 6 .any (fun w args => (Rows.lexisBlankSpec.pre enc Tryd.prog Tryd.f6 Rows.lexisBlankRow.domain false w args ∧ laidMet Tryd.prog Rows.lexisBlankRow.laid w) ∧ sizedMet enc Tryd.prog Tryd.f6 (OpenSpec.ofChange Rows.lexisBlankSpec) false w args) (Rows.lexisBlankSpec.post enc Tryd.prog Tryd.f6 false true false false) :=
  law_liftedL (C := Tryd.checked) (tb := 4) rfl os started ownT laidT fit1 reads1 (by kernel_rfl) Tryd.func6 (c := textOf Tryd.prog 6) (by kernel_rfl) rfl H enc (by kernel_rfl) (by kernel_rfl) (by kernel_rfl)
    (fun ds h => by
      rw [Tryd.params6] at h
      match ds, h with
      | [d0, d1, d2], _ => rfl)
    (ChangeSpec.witness_at (enc := enc) (C := Tryd.checked) (os := os) (X := fun w _ => laidMet Tryd.prog Rows.lexisBlankRow.laid w) false (laidWorld os) #[.string ⟨#[]⟩, .int .i64 0, .string ⟨#[]⟩] 8 rfl (by kernel_rfl) (by kernel_rfl) (by kernel_rfl) (by kernel_rfl) (by kernel_rfl) (laidWorld_met os _))
    blank_main laid_fix

theorem blank_over : Rows.lexisBlankRow.holds Tryd.pinned (OpenSpec.ofChange Rows.lexisBlankSpec) :=
  OpenClaim.holds_of_wide 6 Tryd.f6 rfl rfl rfl rfl rfl rfl rfl ⟨rfl, rfl, rfl, rfl, rfl⟩ rfl rfl rfl rfl rfl (by kernel_rfl) Tryd.func6 (by kernel_rfl)
    (of_decide_eq_true (by kernel_rfl)) (by unfold Func.isWrapper; first | (rw [if_pos (by decide +kernel)]; kernel_rfl) | (rw [if_neg (by decide +kernel)]; exact ⟨rfl, rfl⟩))
    (fun os started H enc _ => blank_lifted os started H enc)

end Go.Proofs.YtdhpgcjhiommkaaDoor.Ev

namespace Go.Proofs.YtdhpgcjhiommkaaDoor
open Go

/-- The card. -/
theorem lexisBlank_card_holds : Rows.LexisBlankCardSaid :=
  Claim7.holds_tied_plain_at .later [] [.data, .data, .data, .sentinel, .sentinel] true (true, "ca9923f5d9fd0e3f651ca9a53fdd26d32858761c58f202b646c61cf3254ef90d") true
    Ev.blank_over (fun _ h => by cases h) (by kernel_rfl) (fun _ h => by cases h) lexisBlank_row_tie rfl ⟨rfl, rfl⟩ (by kernel_rfl) rfl
    (fun f fn hf hfn => by
      obtain rfl : f = 6 := Option.some.inj ((show Tryd.prog.funcNamed "truss/trusslaw01.LexisBlank" = some 6 by kernel_rfl).symm.trans hf) |>.symm
      obtain rfl : fn = Tryd.f6 := (Option.some.inj (Tryd.func6.symm.trans hfn)).symm
      exact ⟨by kernel_rfl, fun j t ht => by
        rw [Tryd.params6] at ht
        have hm : t ∈ [9, 3, 9] := by simpa using Array.mem_of_getElem? ht
        have hall : ([9, 3, 9].all fun u => !Tryd.prog.wantsStandIn u) = true := by kernel_rfl
        exact (show Tryd.prog.wantsStandIn t = false by simpa using List.all_eq_true.1 hall t hm)⟩)
    (by kernel_rfl)
#print axioms lexisBlank_card_holds

end Go.Proofs.YtdhpgcjhiommkaaDoor
