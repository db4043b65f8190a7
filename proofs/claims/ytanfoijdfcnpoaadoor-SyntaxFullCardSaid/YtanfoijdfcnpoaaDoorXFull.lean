/- This file proves that SyntaxFull returns true for every input, where the variables that the row lists hold what it lists; without any other condition. -/
import Derived.Test.YtanfoijdfcnpoaaDoorM0
import Derived.Test.YtanfoijdfcnpoaaDoorA2
import Derived.Test.YtanfoijdfcnpoaaDoorCards
import Derived.Test.YtanfoijdfcnpoaaDoorTie
import Derived.SevenTiedAt
set_option linter.unusedVariables false
set_option linter.unusedSimpArgs false
namespace Go.Proofs.YtanfoijdfcnpoaaDoor.Ev
open Go.Proofs Go.ChangeShapes Go.WideShapes Go.ChangeAt Go.RowKit

theorem full_main (pvs : List (PV sig)) (h : Alls (Arg Tryd.prog lay) Tryd.f8.params.toList pvs) : ∃ m, CallOk Tryd.prog lay 8 pvs [] (.ret (.d (.bool true)), m) := by
  rw [Tryd.params8] at h
  obtain ⟨p0, r0, rfl, h0, h⟩ := alls_cons h
  cases alls_nil h
  obtain ⟨n, rfl⟩ := arg_int h0
  obtain ⟨k, hk⟩ := (full_law n).get
  exact ⟨[], of_levels levels fit1 dok (k := k) (Eq.trans (by kernel_rfl) (hk (Res sig × Mem sig) fun b => some (Res.ret (.d (.bool b)), [])))⟩

theorem full_lifted (os : Os) (started : os.Started) (H : Type) (enc : TypeId × Value → H) :
    ReturnsInHanded {} Tryd.checked os 8 .any (fun w args => (Rows.syntaxFullSpec.pre enc Tryd.prog Tryd.f8 Rows.syntaxFullRow.domain false w args ∧ laidMet Tryd.prog Rows.syntaxFullRow.laid w) ∧ sizedMet enc Tryd.prog Tryd.f8 (OpenSpec.ofChange Rows.syntaxFullSpec) false w args) (Rows.syntaxFullSpec.post enc Tryd.prog Tryd.f8 false true false false) :=
  law_liftedL (C := Tryd.checked) (tb := 4) rfl os started ownT laidT fit1 reads1 (by kernel_rfl) Tryd.func8 (c := textOf Tryd.prog 8) (by kernel_rfl) rfl H enc (by kernel_rfl) (by kernel_rfl) (by kernel_rfl)
    (fun ds h => by
      rw [Tryd.params8] at h
      match ds, h with
      | [d0], _ => rfl)
    (ChangeSpec.witness_at (enc := enc) (C := Tryd.checked) (os := os) (X := fun w _ => laidMet Tryd.prog Rows.syntaxFullRow.laid w) false (laidWorld os) #[.int .i64 0] 8 rfl (by kernel_rfl) (by kernel_rfl) (by kernel_rfl) (by kernel_rfl) (by kernel_rfl) (laidWorld_met os _))
    full_main laid_fix

theorem full_over : Rows.syntaxFullRow.holds Tryd.pinned (OpenSpec.ofChange Rows.syntaxFullSpec) :=
  OpenClaim.holds_of_wide 8 Tryd.f8 rfl rfl rfl rfl rfl rfl rfl ⟨rfl, rfl, rfl, rfl, rfl⟩ rfl rfl rfl rfl rfl (by kernel_rfl) Tryd.func8 (by kernel_rfl)
    (of_decide_eq_true (by kernel_rfl)) (by unfold Func.isWrapper; first | (rw [if_pos (by decide +kernel)]; kernel_rfl) | (rw [if_neg (by decide +kernel)]; exact ⟨rfl, rfl⟩))
    (fun os started H enc _ => full_lifted os started H enc)

end Go.Proofs.YtanfoijdfcnpoaaDoor.Ev

namespace Go.Proofs.YtanfoijdfcnpoaaDoor
open Go

/-- The card. -/
theorem syntaxFull_card_holds : Rows.SyntaxFullCardSaid :=
  Claim7.holds_tied_plain_at .later [] [.data, .data, .data, .sentinel, .sentinel] true (true, "a38621a4325b11cf38d88e2dd0a076578d7b3ca4d1a6dfb2182c0a34891db103") true
    Ev.full_over (fun _ h => by cases h) (by kernel_rfl) (fun _ h => by cases h) syntaxFull_row_tie rfl ⟨rfl, rfl⟩ (by kernel_rfl) rfl
    (fun f fn hf hfn => by
      obtain rfl : f = 8 := Option.some.inj ((show Tryd.prog.funcNamed "truss/trusslaw02.SyntaxFull" = some 8 by kernel_rfl).symm.trans hf) |>.symm
      obtain rfl : fn = Tryd.f8 := (Option.some.inj (Tryd.func8.symm.trans hfn)).symm
      exact ⟨by kernel_rfl, fun j t ht => by
        rw [Tryd.params8] at ht
        have hm : t ∈ [3] := by simpa using Array.mem_of_getElem? ht
        have hall : ([3].all fun u => !Tryd.prog.wantsStandIn u) = true := by kernel_rfl
        exact (show Tryd.prog.wantsStandIn t = false by simpa using List.all_eq_true.1 hall t hm)⟩)
    (by kernel_rfl)
#print axioms syntaxFull_card_holds

end Go.Proofs.YtanfoijdfcnpoaaDoor
