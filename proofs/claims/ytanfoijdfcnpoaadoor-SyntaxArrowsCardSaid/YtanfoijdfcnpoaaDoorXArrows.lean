/- This file proves that SyntaxArrows returns true for every input, where the variables that the row lists hold what it lists; without any other condition. -/
import Derived.Test.YtanfoijdfcnpoaaDoorR13
import Derived.Test.YtanfoijdfcnpoaaDoorA2
import Derived.Test.YtanfoijdfcnpoaaDoorCards
import Derived.Test.YtanfoijdfcnpoaaDoorTie
import Derived.SevenTiedAt
set_option linter.unusedVariables false
set_option linter.unusedSimpArgs false
namespace Go.Proofs.YtanfoijdfcnpoaaDoor.Ev
open Go.Proofs Go.ChangeShapes Go.WideShapes Go.ChangeAt Go.RowKit

theorem arrows_main (pvs : List (PV sig)) (h : Alls (Arg Tryd.prog lay) Tryd.f5.params.toList pvs) : ∃ m, CallOk Tryd.prog lay 5 pvs [] (.ret (.d (.bool true)), m) := by
  rw [Tryd.params5] at h
  obtain ⟨p0, r0, rfl, h0, h⟩ := alls_cons h
  obtain ⟨p1, r1, rfl, h1, h⟩ := alls_cons h
  obtain ⟨p2, r2, rfl, h2, h⟩ := alls_cons h
  cases alls_nil h
  obtain ⟨a, rfl, h_a⟩ := arg_raw h0
  obtain ⟨b, rfl, h_b⟩ := arg_raw h1
  obtain ⟨c, rfl, h_c⟩ := arg_raw h2
  obtain ⟨k, hk⟩ := (arrows_law a b c h_a h_b h_c).get
  obtain ⟨a0, a1, a2⟩ := a
  obtain ⟨b0, b1, b2⟩ := b
  obtain ⟨c0, c1, c2⟩ := c
  exact ⟨[], of_levels levels fit1 dok (k := k) (Eq.trans (by kernel_rfl) (hk (Res sig × Mem sig) fun b => some (Res.ret (.d (.bool b)), [])))⟩

theorem arrows_lifted (os : Os) (started : os.Started) (H : Type) (enc : TypeId × Value → H) :
    ReturnsInHanded {} Tryd.checked os 5 .any (fun w args => (Rows.syntaxArrowsSpec.pre enc Tryd.prog Tryd.f5 Rows.syntaxArrowsRow.domain false w args ∧ laidMet Tryd.prog Rows.syntaxArrowsRow.laid w) ∧ sizedMet enc Tryd.prog Tryd.f5 (OpenSpec.ofChange Rows.syntaxArrowsSpec) false w args) (Rows.syntaxArrowsSpec.post enc Tryd.prog Tryd.f5 false true false false) :=
  law_liftedL (C := Tryd.checked) (tb := 4) rfl os started ownT laidT fit1 reads1 (by kernel_rfl) Tryd.func5 (c := textOf Tryd.prog 5) (by kernel_rfl) rfl H enc (by kernel_rfl) (by kernel_rfl) (by kernel_rfl)
    (fun ds h => by
      rw [Tryd.params5] at h
      match ds, h with
      | [d0, d1, d2], _ => rfl)
    (ChangeSpec.witness_at (enc := enc) (C := Tryd.checked) (os := os) (X := fun w _ => laidMet Tryd.prog Rows.syntaxArrowsRow.laid w) false (laidWorld os) #[.agg #[.int .i64 0, .string ⟨#[]⟩, .slice none 0 0], .agg #[.int .i64 0, .string ⟨#[]⟩, .slice none 0 0], .agg #[.int .i64 0, .string ⟨#[]⟩, .slice none 0 0]] 8 rfl (by kernel_rfl) (by kernel_rfl) (by kernel_rfl) (by kernel_rfl) (by kernel_rfl) (laidWorld_met os _))
    arrows_main laid_fix

theorem arrows_over : Rows.syntaxArrowsRow.holds Tryd.pinned (OpenSpec.ofChange Rows.syntaxArrowsSpec) :=
  OpenClaim.holds_of_wide 5 Tryd.f5 rfl rfl rfl rfl rfl rfl rfl ⟨rfl, rfl, rfl, rfl, rfl⟩ rfl rfl rfl rfl rfl (by kernel_rfl) Tryd.func5 (by kernel_rfl)
    (of_decide_eq_true (by kernel_rfl)) (by unfold Func.isWrapper; first | (rw [if_pos (by decide +kernel)]; kernel_rfl) | (rw [if_neg (by decide +kernel)]; exact ⟨rfl, rfl⟩))
    (fun os started H enc _ => arrows_lifted os started H enc)

end Go.Proofs.YtanfoijdfcnpoaaDoor.Ev

namespace Go.Proofs.YtanfoijdfcnpoaaDoor
open Go

/-- The card. -/
theorem syntaxArrows_card_holds : Rows.SyntaxArrowsCardSaid :=
  Claim7.holds_tied_plain_at .later [] [.data, .data, .data, .sentinel, .sentinel] true (true, "a38621a4325b11cf38d88e2dd0a076578d7b3ca4d1a6dfb2182c0a34891db103") true
    Ev.arrows_over (fun _ h => by cases h) (by kernel_rfl) (fun _ h => by cases h) syntaxArrows_row_tie rfl ⟨rfl, rfl⟩ (by kernel_rfl) rfl
    (fun f fn hf hfn => by
      obtain rfl : f = 5 := Option.some.inj ((show Tryd.prog.funcNamed "truss/trusslaw02.SyntaxArrows" = some 5 by kernel_rfl).symm.trans hf) |>.symm
      obtain rfl : fn = Tryd.f5 := (Option.some.inj (Tryd.func5.symm.trans hfn)).symm
      exact ⟨by kernel_rfl, fun j t ht => by
        rw [Tryd.params5] at ht
        have hm : t ∈ [24, 24, 24] := by simpa using Array.mem_of_getElem? ht
        have hall : ([24, 24, 24].all fun u => !Tryd.prog.wantsStandIn u) = true := by kernel_rfl
        exact (show Tryd.prog.wantsStandIn t = false by simpa using List.all_eq_true.1 hall t hm)⟩)
    (by kernel_rfl)
#print axioms syntaxArrows_card_holds

end Go.Proofs.YtanfoijdfcnpoaaDoor
