/- This file proves that SyntaxParts returns true for every input, where the variables that the row lists hold what it lists; without any other condition. -/
import Derived.Test.YtanfoijdfcnpoaaDoorKA
import Derived.Test.YtanfoijdfcnpoaaDoorA2
import Derived.Test.YtanfoijdfcnpoaaDoorCards
import Derived.Test.YtanfoijdfcnpoaaDoorTie
import Derived.SevenTiedAt
set_option linter.unusedVariables false
set_option linter.unusedSimpArgs false
namespace Go.Proofs.YtanfoijdfcnpoaaDoor.Ev
open Go.Proofs Go.ChangeShapes Go.WideShapes Go.ChangeAt Go.RowKit

theorem parts_main (pvs : List (PV sig)) (h : Alls (Arg Tryd.prog lay) Tryd.f7.params.toList pvs) : ∃ m, CallOk Tryd.prog lay 7 pvs [] (.ret (.d (.bool true)), m) := by
  rw [Tryd.params7] at h
  obtain ⟨p0, r0, rfl, h0, h⟩ := alls_cons h
  obtain ⟨p1, r1, rfl, h1, h⟩ := alls_cons h
  cases alls_nil h
  obtain ⟨a, rfl, h_a⟩ := arg_str h0
  obtain ⟨b, rfl, h_b⟩ := arg_str h1
  obtain ⟨k, hk⟩ := (parts_law a b h_a h_b).get
  exact ⟨[], of_levels levels fit1 dok (k := k) (Eq.trans (by kernel_rfl) (hk (Res sig × Mem sig) fun b => some (Res.ret (.d (.bool b)), [])))⟩

theorem parts_lifted (os : Os) (started : os.Started) (H : Type) (enc : TypeId × Value → H) :
    ReturnsInHanded {} Tryd.checked os 7 .any (fun w args => (Rows.syntaxPartsSpec.pre enc Tryd.prog Tryd.f7 Rows.syntaxPartsRow.domain false w args ∧ laidMet Tryd.prog Rows.syntaxPartsRow.laid w) ∧ sizedMet enc Tryd.prog Tryd.f7 (OpenSpec.ofChange Rows.syntaxPartsSpec) false w args) (Rows.syntaxPartsSpec.post enc Tryd.prog Tryd.f7 false true false false) :=
  law_liftedL (C := Tryd.checked) (tb := 4) rfl os started ownT laidT fit1 reads1 (by kernel_rfl) Tryd.func7 (c := textOf Tryd.prog 7) (by kernel_rfl) rfl H enc (by kernel_rfl) (by kernel_rfl) (by kernel_rfl)
    (fun ds h => by
      rw [Tryd.params7] at h
      match ds, h with
      | [d0, d1], _ => rfl)
    (ChangeSpec.witness_at (enc := enc) (C := Tryd.checked) (os := os) (X := fun w _ => laidMet Tryd.prog Rows.syntaxPartsRow.laid w) false (laidWorld os) #[.string ⟨#[]⟩, .string ⟨#[]⟩] 8 rfl (by kernel_rfl) (by kernel_rfl) (by kernel_rfl) (by kernel_rfl) (by kernel_rfl) (laidWorld_met os _))
    parts_main laid_fix

theorem parts_over : Rows.syntaxPartsRow.holds Tryd.pinned (OpenSpec.ofChange Rows.syntaxPartsSpec) :=
  OpenClaim.holds_of_wide 7 Tryd.f7 rfl rfl rfl rfl rfl rfl rfl ⟨rfl, rfl, rfl, rfl, rfl⟩ rfl rfl rfl rfl rfl (by kernel_rfl) Tryd.func7 (by kernel_rfl)
    (of_decide_eq_true (by kernel_rfl)) (by unfold Func.isWrapper; first | (rw [if_pos (by decide +kernel)]; kernel_rfl) | (rw [if_neg (by decide +kernel)]; exact ⟨rfl, rfl⟩))
    (fun os started H enc _ => parts_lifted os started H enc)

end Go.Proofs.YtanfoijdfcnpoaaDoor.Ev

namespace Go.Proofs.YtanfoijdfcnpoaaDoor
open Go

/-- The card. -/
theorem syntaxParts_card_holds : Rows.SyntaxPartsCardSaid :=
  Claim7.holds_tied_plain_at .later [] [.data, .data, .data, .sentinel, .sentinel] true (true, "a38621a4325b11cf38d88e2dd0a076578d7b3ca4d1a6dfb2182c0a34891db103") true
    Ev.parts_over (fun _ h => by cases h) (by kernel_rfl) (fun _ h => by cases h) syntaxParts_row_tie rfl ⟨rfl, rfl⟩ (by kernel_rfl) rfl
    (fun f fn hf hfn => by
      obtain rfl : f = 7 := Option.some.inj ((show Tryd.prog.funcNamed "truss/trusslaw02.SyntaxParts" = some 7 by kernel_rfl).symm.trans hf) |>.symm
      obtain rfl : fn = Tryd.f7 := (Option.some.inj (Tryd.func7.symm.trans hfn)).symm
      exact ⟨by kernel_rfl, fun j t ht => by
        rw [Tryd.params7] at ht
        have hm : t ∈ [9, 9] := by simpa using Array.mem_of_getElem? ht
        have hall : ([9, 9].all fun u => !Tryd.prog.wantsStandIn u) = true := by kernel_rfl
        exact (show Tryd.prog.wantsStandIn t = false by simpa using List.all_eq_true.1 hall t hm)⟩)
    (by kernel_rfl)
#print axioms syntaxParts_card_holds

end Go.Proofs.YtanfoijdfcnpoaaDoor
