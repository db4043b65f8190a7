/- This file proves that SyntaxItemTexts returns true for every input, where the variables that the row lists hold what it lists; without any other condition. -/
import Derived.Test.YtanfoijdfcnpoaaGreatDoorLT
import Derived.Test.YtanfoijdfcnpoaaGreatDoorA3
import Derived.Test.YtanfoijdfcnpoaaGreatDoorCards
import Derived.Test.YtanfoijdfcnpoaaGreatDoorTie
import Derived.SevenTiedAt
set_option linter.unusedVariables false
set_option linter.unusedSimpArgs false
namespace Go.Proofs.YtanfoijdfcnpoaaGreatDoor.Ev
open Go.Proofs Go.ChangeShapes Go.WideShapes Go.ChangeAt Go.RowKit

theorem itemTexts_main (pvs : List (PV sig)) (h : Alls (Arg Tryz.prog lay) Tryz.f7.params.toList pvs) : ∃ m, CallOk Tryz.prog lay 7 pvs [] (.ret (.d (.bool true)), m) := by
  rw [Tryz.params7] at h
  obtain ⟨p0, r0, rfl, h0, h⟩ := alls_cons h
  cases alls_nil h
  obtain ⟨x, rfl, h_x⟩ := arg_item h0
  obtain ⟨k, hk⟩ := (itemtexts_law x h_x).get
  obtain ⟨x0, x1, ⟨x2, x3, x4⟩, x5⟩ := x
  exact ⟨[], of_levels levels fit1 dok (k := k) (Eq.trans (by kernel_rfl) (hk (Res sig × Mem sig) fun b => some (Res.ret (.d (.bool b)), [])))⟩

theorem itemTexts_lifted (os : Os) (started : os.Started) (H : Type) (enc : TypeId × Value → H) :
    ReturnsInHanded {} Tryz.checked os 7 .any (fun w args => (Rows.syntaxItemTextsSpec.pre enc Tryz.prog Tryz.f7 Rows.syntaxItemTextsRow.domain false w args ∧ laidMet Tryz.prog Rows.syntaxItemTextsRow.laid w) ∧ sizedMet enc Tryz.prog Tryz.f7 (OpenSpec.ofChange Rows.syntaxItemTextsSpec) false w args) (Rows.syntaxItemTextsSpec.post enc Tryz.prog Tryz.f7 false true false false) :=
  law_liftedL (C := Tryz.checked) (tb := 4) rfl os started ownT laidT fit1 reads1 (by kernel_rfl) Tryz.func7 (c := textOf Tryz.prog 7) (by kernel_rfl) rfl H enc (by kernel_rfl) (by kernel_rfl) (by kernel_rfl)
    (fun ds h => by
      rw [Tryz.params7] at h
      match ds, h with
      | [d0], _ => rfl)
    (ChangeSpec.witness_at (enc := enc) (C := Tryz.checked) (os := os) (X := fun w _ => laidMet Tryz.prog Rows.syntaxItemTextsRow.laid w) false (laidWorld os) #[.agg #[.string ⟨#[]⟩, .string ⟨#[]⟩, .int .i64 0, .string ⟨#[]⟩, .slice none 0 0, .slice none 0 0]] 8 rfl (by kernel_rfl) (by kernel_rfl) (by kernel_rfl) (by kernel_rfl) (by kernel_rfl) (laidWorld_met os _))
    itemTexts_main laid_fix

theorem itemTexts_over : Rows.syntaxItemTextsRow.holds Tryz.pinned (OpenSpec.ofChange Rows.syntaxItemTextsSpec) :=
  OpenClaim.holds_of_wide 7 Tryz.f7 rfl rfl rfl rfl rfl rfl rfl ⟨rfl, rfl, rfl, rfl, rfl⟩ rfl rfl rfl rfl rfl (by kernel_rfl) Tryz.func7 (by kernel_rfl)
    (of_decide_eq_true (by kernel_rfl)) (by unfold Func.isWrapper; first | (rw [if_pos (by decide +kernel)]; kernel_rfl) | (rw [if_neg (by decide +kernel)]; exact ⟨rfl, rfl⟩))
    (fun os started H enc _ => itemTexts_lifted os started H enc)

end Go.Proofs.YtanfoijdfcnpoaaGreatDoor.Ev

namespace Go.Proofs.YtanfoijdfcnpoaaGreatDoor
open Go

/-- The card. -/
theorem syntaxItemTexts_card_holds : Rows.SyntaxItemTextsCardSaid :=
  Claim7.holds_tied_plain_at .later [] [.data, .data, .data, .sentinel, .sentinel] true (true, "c74fadada6852c5abb66b27d7433c133580b4dda3f91bb28eadd26636f13c909") true
    Ev.itemTexts_over (fun _ h => by cases h) (by kernel_rfl) (fun _ h => by cases h) syntaxItemTexts_row_tie rfl ⟨rfl, rfl⟩ (by kernel_rfl) rfl
    (fun f fn hf hfn => by
      obtain rfl : f = 7 := Option.some.inj ((show Tryz.prog.funcNamed "truss/trusslaw02.SyntaxItemTexts" = some 7 by kernel_rfl).symm.trans hf) |>.symm
      obtain rfl : fn = Tryz.f7 := (Option.some.inj (Tryz.func7.symm.trans hfn)).symm
      exact ⟨by kernel_rfl, fun j t ht => by
        rw [Tryz.params7] at ht
        have hm : t ∈ [52] := by simpa using Array.mem_of_getElem? ht
        have hall : ([52].all fun u => !Tryz.prog.wantsStandIn u) = true := by kernel_rfl
        exact (show Tryz.prog.wantsStandIn t = false by simpa using List.all_eq_true.1 hall t hm)⟩)
    (by kernel_rfl)
#print axioms syntaxItemTexts_card_holds

end Go.Proofs.YtanfoijdfcnpoaaGreatDoor
