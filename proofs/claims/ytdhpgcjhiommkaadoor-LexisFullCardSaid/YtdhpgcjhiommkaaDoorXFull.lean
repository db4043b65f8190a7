/- This file proves that LexisFull returns true for every input, where the variables that the row lists hold what it lists; without any other condition. -/
import Derived.Test.YtdhpgcjhiommkaaDoorZ3
import Derived.Test.YtdhpgcjhiommkaaDoorA1
import Derived.Test.YtdhpgcjhiommkaaDoorCards
import Derived.Test.YtdhpgcjhiommkaaDoorTie
import Derived.SevenTiedAt
set_option linter.unusedVariables false
set_option linter.unusedSimpArgs false
namespace Go.Proofs.YtdhpgcjhiommkaaDoor.Ev
open Go.Proofs Go.ChangeShapes Go.WideShapes Go.ChangeAt Go.RowKit

theorem full_main (pvs : List (PV sig)) (h : Alls (Arg Tryd.prog lay) Tryd.f7.params.toList pvs) : ∃ m, CallOk Tryd.prog lay 7 pvs [] (.ret (.d (.bool true)), m) := by
  rw [Tryd.params7] at h
  obtain ⟨p0, r0, rfl, h0, h⟩ := alls_cons h
  cases alls_nil h
  obtain ⟨n, rfl⟩ := arg_int h0
  exact ⟨[], full_ok n⟩

theorem full_lifted (os : Os) (started : os.Started) (H : Type) (enc : TypeId × Value → H) :
    ReturnsInHanded {} Tryd.checked os 7 .any (fun w args => (Rows.lexisFullSpec.pre enc Tryd.prog Tryd.f7 Rows.lexisFullRow.domain false w args ∧ laidMet Tryd.prog Rows.lexisFullRow.laid w) ∧ sizedMet enc Tryd.prog Tryd.f7 (OpenSpec.ofChange Rows.lexisFullSpec) false w args) (Rows.lexisFullSpec.post enc Tryd.prog Tryd.f7 false true false false) :=
  law_liftedL (C := Tryd.checked) (tb := 4) rfl os started ownT laidT fit1 reads1 (by kernel_rfl) Tryd.func7 (c := textOf Tryd.prog 7) (by kernel_rfl) rfl H enc (by kernel_rfl) (by kernel_rfl) (by kernel_rfl)
    (fun ds h => by
      rw [Tryd.params7] at h
      match ds, h with
      | [d0], _ => rfl)
    (ChangeSpec.witness_at (enc := enc) (C := Tryd.checked) (os := os) (X := fun w _ => laidMet Tryd.prog Rows.lexisFullRow.laid w) false (laidWorld os) #[.int .i64 0] 8 rfl (by kernel_rfl) (by kernel_rfl) (by kernel_rfl) (by kernel_rfl) (by kernel_rfl) (laidWorld_met os _))
    full_main laid_fix

theorem full_over : Rows.lexisFullRow.holds Tryd.pinned (OpenSpec.ofChange Rows.lexisFullSpec) :=
  OpenClaim.holds_of_wide 7 Tryd.f7 rfl rfl rfl rfl rfl rfl rfl ⟨rfl, rfl, rfl, rfl, rfl⟩ rfl rfl rfl rfl rfl (by kernel_rfl) Tryd.func7 (by kernel_rfl)
    (of_decide_eq_true (by kernel_rfl)) (by unfold Func.isWrapper; first | (rw [if_pos (by decide +kernel)]; kernel_rfl) | (rw [if_neg (by decide +kernel)]; exact ⟨rfl, rfl⟩))
    (fun os started H enc _ => full_lifted os started H enc)

end Go.Proofs.YtdhpgcjhiommkaaDoor.Ev

namespace Go.Proofs.YtdhpgcjhiommkaaDoor
open Go

/-- The card. -/
theorem lexisFull_card_holds : Rows.LexisFullCardSaid :=
  Claim7.holds_tied_plain_at .later [] [.data, .data, .data, .sentinel, .sentinel] true (true, "ca9923f5d9fd0e3f651ca9a53fdd26d32858761c58f202b646c61cf3254ef90d") true
    Ev.full_over (fun _ h => by cases h) (by kernel_rfl) (fun _ h => by cases h) lexisFull_row_tie rfl ⟨rfl, rfl⟩ (by kernel_rfl) rfl
    (fun f fn hf hfn => by
      obtain rfl : f = 7 := Option.some.inj ((show Tryd.prog.funcNamed "truss/trusslaw01.LexisFull" = some 7 by kernel_rfl).symm.trans hf) |>.symm
      obtain rfl : fn = Tryd.f7 := (Option.some.inj (Tryd.func7.symm.trans hfn)).symm
      exact ⟨by kernel_rfl, fun j t ht => by
        rw [Tryd.params7] at ht
        have hm : t ∈ [3] := by simpa using Array.mem_of_getElem? ht
        have hall : ([3].all fun u => !Tryd.prog.wantsStandIn u) = true := by kernel_rfl
        exact (show Tryd.prog.wantsStandIn t = false by simpa using List.all_eq_true.1 hall t hm)⟩)
    (by kernel_rfl)
#print axioms lexisFull_card_holds

end Go.Proofs.YtdhpgcjhiommkaaDoor
