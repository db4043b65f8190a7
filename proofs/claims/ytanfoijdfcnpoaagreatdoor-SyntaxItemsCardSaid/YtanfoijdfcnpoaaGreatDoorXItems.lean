/- This file proves that SyntaxItems returns true for every input, where the variables that the row lists hold what it lists; without any other condition. -/
import Derived.Test.YtanfoijdfcnpoaaGreatDoorJA
import Derived.Test.YtanfoijdfcnpoaaGreatDoorA2
import Derived.Test.YtanfoijdfcnpoaaGreatDoorCards
import Derived.Test.YtanfoijdfcnpoaaGreatDoorTie
import Derived.SevenTiedAt
set_option linter.unusedVariables false
set_option linter.unusedSimpArgs false
namespace Go.Proofs.YtanfoijdfcnpoaaGreatDoor.Ev
open Go.Proofs Go.ChangeShapes Go.WideShapes Go.ChangeAt Go.RowKit

theorem items_main (pvs : List (PV sig)) (h : Alls (Arg Tryz.prog lay) Tryz.f6.params.toList pvs) : ∃ m, CallOk Tryz.prog lay 6 pvs [] (.ret (.d (.bool true)), m) := by
  rw [Tryz.params6] at h
  obtain ⟨p0, r0, rfl, h0, h⟩ := alls_cons h
  cases alls_nil h
  obtain ⟨s, rfl, h_s⟩ := arg_str h0
  obtain ⟨k, hk⟩ := (items_law s).get
  exact ⟨[], of_levels levels fit1 dok (k := k) (Eq.trans (by kernel_rfl) (hk (Res sig × Mem sig) fun b => some (Res.ret (.d (.bool b)), [])))⟩

theorem items_lifted (os : Os) (started : os.Started) (H : Type) (enc : TypeId × Value → H) :
    ReturnsInHanded {} Tryz.checked os 6 .any (fun w args => (Rows.syntaxItemsSpec.pre enc Tryz.prog Tryz.f6 Rows.syntaxItemsRow.domain false w args ∧ laidMet Tryz.prog Rows.syntaxItemsRow.laid w) ∧ sizedMet enc Tryz.prog Tryz.f6 (OpenSpec.ofChange Rows.syntaxItemsSpec) false w args) (Rows.syntaxItemsSpec.post enc Tryz.prog Tryz.f6 false true false false) :=
  law_liftedL (C := Tryz.checked) (tb := 4) rfl os started ownT laidT fit1 reads1 (by kernel_rfl) Tryz.func6 (c := textOf Tryz.prog 6) (by kernel_rfl) rfl H enc (by kernel_rfl) (by kernel_rfl) (by kernel_rfl)
    (fun ds h => by
      rw [Tryz.params6] at h
      match ds, h with
      | [d0], _ => rfl)
    (ChangeSpec.witness_at (enc := enc) (C := Tryz.checked) (os := os) (X := fun w _ => laidMet Tryz.prog Rows.syntaxItemsRow.laid w) false (laidWorld os) #[.string ⟨#[]⟩] 8 rfl (by kernel_rfl) (by kernel_rfl) (by kernel_rfl) (by kernel_rfl) (by kernel_rfl) (laidWorld_met os _))
    items_main laid_fix

theorem items_over : Rows.syntaxItemsRow.holds Tryz.pinned (OpenSpec.ofChange Rows.syntaxItemsSpec) :=
  OpenClaim.holds_of_wide 6 Tryz.f6 rfl rfl rfl rfl rfl rfl rfl ⟨rfl, rfl, rfl, rfl, rfl⟩ rfl rfl rfl rfl rfl (by kernel_rfl) Tryz.func6 (by kernel_rfl)
    (of_decide_eq_true (by kernel_rfl)) (by unfold Func.isWrapper; first | (rw [if_pos (by decide +kernel)]; kernel_rfl) | (rw [if_neg (by decide +kernel)]; exact ⟨rfl, rfl⟩))
    (fun os started H enc _ => items_lifted os started H enc)

end Go.Proofs.YtanfoijdfcnpoaaGreatDoor.Ev

namespace Go.Proofs.YtanfoijdfcnpoaaGreatDoor
open Go

/-- The card. -/
theorem syntaxItems_card_holds : Rows.SyntaxItemsCardSaid :=
  Claim7.holds_tied_plain_at .later [] [.data, .data, .data, .sentinel, .sentinel] true (true, "c74fadada6852c5abb66b27d7433c133580b4dda3f91bb28eadd26636f13c909") true
    Ev.items_over (fun _ h => by cases h) (by kernel_rfl) (fun _ h => by cases h) syntaxItems_row_tie rfl ⟨rfl, rfl⟩ (by kernel_rfl) rfl
    (fun f fn hf hfn => by
      obtain rfl : f = 6 := Option.some.inj ((show Tryz.prog.funcNamed "truss/trusslaw02.SyntaxItems" = some 6 by kernel_rfl).symm.trans hf) |>.symm
      obtain rfl : fn = Tryz.f6 := (Option.some.inj (Tryz.func6.symm.trans hfn)).symm
      exact ⟨by kernel_rfl, fun j t ht => by
        rw [Tryz.params6] at ht
        have hm : t ∈ [9] := by simpa using Array.mem_of_getElem? ht
        have hall : ([9].all fun u => !Tryz.prog.wantsStandIn u) = true := by kernel_rfl
        exact (show Tryz.prog.wantsStandIn t = false by simpa using List.all_eq_true.1 hall t hm)⟩)
    (by kernel_rfl)
#print axioms syntaxItems_card_holds

end Go.Proofs.YtanfoijdfcnpoaaGreatDoor
