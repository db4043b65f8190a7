/- This file proves that SyntaxTexts returns true for every input, where the variables that the row lists hold what it lists; without any other condition. -/
import Derived.Test.YtanfoijdfcnpoaaDoorR13
import Derived.Test.YtanfoijdfcnpoaaDoorA2
import Derived.Test.YtanfoijdfcnpoaaDoorCards
import Derived.Test.YtanfoijdfcnpoaaDoorTie
import Derived.SevenTiedAt
set_option linter.unusedVariables false
set_option linter.unusedSimpArgs false
namespace Go.Proofs.YtanfoijdfcnpoaaDoor.Ev
open Go.Proofs Go.ChangeShapes Go.WideShapes Go.ChangeAt Go.RowKit

theorem texts_main (pvs : List (PV sig)) (h : Alls (Arg Tryd.prog lay) Tryd.f3.params.toList pvs) : ∃ m, CallOk Tryd.prog lay 3 pvs [] (.ret (.d (.bool true)), m) := by
  rw [Tryd.params3] at h
  obtain ⟨p0, r0, rfl, h0, h⟩ := alls_cons h
  cases alls_nil h
  obtain ⟨r, rfl, h_r⟩ := arg_raw h0
  obtain ⟨k, hk⟩ := (texts_law r h_r).get
  obtain ⟨r0, r1, r2⟩ := r
  exact ⟨[], of_levels levels fit1 dok (k := k) (Eq.trans (by kernel_rfl) (hk (Res sig × Mem sig) fun b => some (Res.ret (.d (.bool b)), [])))⟩

theorem texts_lifted (os : Os) (started : os.Started) (H : Type) (enc : TypeId × Value → H) :
    ReturnsInHanded {} Tryd.checked os 3 .any (fun w args => (Rows.syntaxTextsSpec.pre enc Tryd.prog Tryd.f3 Rows.syntaxTextsRow.domain false w args ∧ laidMet Tryd.prog Rows.syntaxTextsRow.laid w) ∧ sizedMet enc Tryd.prog Tryd.f3 (OpenSpec.ofChange Rows.syntaxTextsSpec) false w args) (Rows.syntaxTextsSpec.post enc Tryd.prog Tryd.f3 false true false false) :=
  law_liftedL (C := Tryd.checked) (tb := 4) rfl os started ownT laidT fit1 reads1 (by kernel_rfl) Tryd.func3 (c := textOf Tryd.prog 3) (by kernel_rfl) rfl H enc (by kernel_rfl) (by kernel_rfl) (by kernel_rfl)
    (fun ds h => by
      rw [Tryd.params3] at h
      match ds, h with
      | [d0], _ => rfl)
    (ChangeSpec.witness_at (enc := enc) (C := Tryd.checked) (os := os) (X := fun w _ => laidMet Tryd.prog Rows.syntaxTextsRow.laid w) false (laidWorld os) #[.agg #[.int .i64 0, .string ⟨#[]⟩, .slice none 0 0]] 8 rfl (by kernel_rfl) (by kernel_rfl) (by kernel_rfl) (by kernel_rfl) (by kernel_rfl) (laidWorld_met os _))
    texts_main laid_fix

theorem texts_over : Rows.syntaxTextsRow.holds Tryd.pinned (OpenSpec.ofChange Rows.syntaxTextsSpec) :=
  OpenClaim.holds_of_wide 3 Tryd.f3 rfl rfl rfl rfl rfl rfl rfl ⟨rfl, rfl, rfl, rfl, rfl⟩ rfl rfl rfl rfl rfl (by kernel_rfl) Tryd.func3 (by kernel_rfl)
    (of_decide_eq_true (by kernel_rfl)) (by unfold Func.isWrapper; first | (rw [if_pos (by decide +kernel)]; kernel_rfl) | (rw [if_neg (by decide +kernel)]; exact ⟨rfl, rfl⟩))
    (fun os started H enc _ => texts_lifted os started H enc)

end Go.Proofs.YtanfoijdfcnpoaaDoor.Ev

namespace Go.Proofs.YtanfoijdfcnpoaaDoor
open Go

/-- The card. -/
theorem syntaxTexts_card_holds : Rows.SyntaxTextsCardSaid :=
  Claim7.holds_tied_plain_at .later [] [.data, .data, .data, .sentinel, .sentinel] true (true, "a38621a4325b11cf38d88e2dd0a076578d7b3ca4d1a6dfb2182c0a34891db103") true
    Ev.texts_over (fun _ h => by cases h) (by kernel_rfl) (fun _ h => by cases h) syntaxTexts_row_tie rfl ⟨rfl, rfl⟩ (by kernel_rfl) rfl
    (fun f fn hf hfn => by
      obtain rfl : f = 3 := Option.some.inj ((show Tryd.prog.funcNamed "truss/trusslaw02.SyntaxTexts" = some 3 by kernel_rfl).symm.trans hf) |>.symm
      obtain rfl : fn = Tryd.f3 := (Option.some.inj (Tryd.func3.symm.trans hfn)).symm
      exact ⟨by kernel_rfl, fun j t ht => by
        rw [Tryd.params3] at ht
        have hm : t ∈ [24] := by simpa using Array.mem_of_getElem? ht
        have hall : ([24].all fun u => !Tryd.prog.wantsStandIn u) = true := by kernel_rfl
        exact (show Tryd.prog.wantsStandIn t = false by simpa using List.all_eq_true.1 hall t hm)⟩)
    (by kernel_rfl)
#print axioms syntaxTexts_card_holds

end Go.Proofs.YtanfoijdfcnpoaaDoor
