/- This file proves that SyntaxExprs returns true for every input, where the variables that the row lists hold what it lists; without any other condition. -/
import Derived.Test.YtanfoijdfcnpoaaGreatDoorR7
import Derived.Test.YtanfoijdfcnpoaaGreatDoorA2
import Derived.Test.YtanfoijdfcnpoaaGreatDoorCards
import Derived.Test.YtanfoijdfcnpoaaGreatDoorTie
import Derived.SevenTiedAt
set_option linter.unusedVariables false
set_option linter.unusedSimpArgs false
namespace Go.Proofs.YtanfoijdfcnpoaaGreatDoor.Ev
open Go.Proofs Go.ChangeShapes Go.WideShapes Go.ChangeAt Go.RowKit

theorem exprs_main (pvs : List (PV sig)) (h : Alls (Arg Tryz.prog lay) Tryz.f3.params.toList pvs) : ∃ m, CallOk Tryz.prog lay 3 pvs [] (.ret (.d (.bool true)), m) := by
  rw [Tryz.params3] at h
  obtain ⟨p0, r0, rfl, h0, h⟩ := alls_cons h
  cases alls_nil h
  obtain ⟨s, rfl, h_s⟩ := arg_str h0
  obtain ⟨k, hk⟩ := (exprs_law s).get
  exact ⟨[], of_levels levels fit1 dok (k := k) (Eq.trans (by kernel_rfl) (hk (Res sig × Mem sig) fun b => some (Res.ret (.d (.bool b)), [])))⟩

theorem exprs_lifted (os : Os) (started : os.Started) (H : Type) (enc : TypeId × Value → H) :
    ReturnsInHanded {} Tryz.checked os 3 .any (fun w args => (Rows.syntaxExprsSpec.pre enc Tryz.prog Tryz.f3 Rows.syntaxExprsRow.domain false w args ∧ laidMet Tryz.prog Rows.syntaxExprsRow.laid w) ∧ sizedMet enc Tryz.prog Tryz.f3 (OpenSpec.ofChange Rows.syntaxExprsSpec) false w args) (Rows.syntaxExprsSpec.post enc Tryz.prog Tryz.f3 false true false false) :=
  law_liftedL (C := Tryz.checked) (tb := 4) rfl os started ownT laidT fit1 reads1 (by kernel_rfl) Tryz.func3 (c := textOf Tryz.prog 3) (by kernel_rfl) rfl H enc (by kernel_rfl) (by kernel_rfl) (by kernel_rfl)
    (fun ds h => by
      rw [Tryz.params3] at h
      match ds, h with
      | [d0], _ => rfl)
    (ChangeSpec.witness_at (enc := enc) (C := Tryz.checked) (os := os) (X := fun w _ => laidMet Tryz.prog Rows.syntaxExprsRow.laid w) false (laidWorld os) #[.string ⟨#[]⟩] 8 rfl (by kernel_rfl) (by kernel_rfl) (by kernel_rfl) (by kernel_rfl) (by kernel_rfl) (laidWorld_met os _))
    exprs_main laid_fix

theorem exprs_over : Rows.syntaxExprsRow.holds Tryz.pinned (OpenSpec.ofChange Rows.syntaxExprsSpec) :=
  OpenClaim.holds_of_wide 3 Tryz.f3 rfl rfl rfl rfl rfl rfl rfl ⟨rfl, rfl, rfl, rfl, rfl⟩ rfl rfl rfl rfl rfl (by kernel_rfl) Tryz.func3 (by kernel_rfl)
    (of_decide_eq_true (by kernel_rfl)) (by unfold Func.isWrapper; first | (rw [if_pos (by decide +kernel)]; kernel_rfl) | (rw [if_neg (by decide +kernel)]; exact ⟨rfl, rfl⟩))
    (fun os started H enc _ => exprs_lifted os started H enc)

end Go.Proofs.YtanfoijdfcnpoaaGreatDoor.Ev

namespace Go.Proofs.YtanfoijdfcnpoaaGreatDoor
open Go

/-- The card. -/
theorem syntaxExprs_card_holds : Rows.SyntaxExprsCardSaid :=
  Claim7.holds_tied_plain_at .later [] [.data, .data, .data, .sentinel, .sentinel] true (true, "c74fadada6852c5abb66b27d7433c133580b4dda3f91bb28eadd26636f13c909") true
    Ev.exprs_over (fun _ h => by cases h) (by kernel_rfl) (fun _ h => by cases h) syntaxExprs_row_tie rfl ⟨rfl, rfl⟩ (by kernel_rfl) rfl
    (fun f fn hf hfn => by
      obtain rfl : f = 3 := Option.some.inj ((show Tryz.prog.funcNamed "truss/trusslaw02.SyntaxExprs" = some 3 by kernel_rfl).symm.trans hf) |>.symm
      obtain rfl : fn = Tryz.f3 := (Option.some.inj (Tryz.func3.symm.trans hfn)).symm
      exact ⟨by kernel_rfl, fun j t ht => by
        rw [Tryz.params3] at ht
        have hm : t ∈ [9] := by simpa using Array.mem_of_getElem? ht
        have hall : ([9].all fun u => !Tryz.prog.wantsStandIn u) = true := by kernel_rfl
        exact (show Tryz.prog.wantsStandIn t = false by simpa using List.all_eq_true.1 hall t hm)⟩)
    (by kernel_rfl)
#print axioms syntaxExprs_card_holds

end Go.Proofs.YtanfoijdfcnpoaaGreatDoor
