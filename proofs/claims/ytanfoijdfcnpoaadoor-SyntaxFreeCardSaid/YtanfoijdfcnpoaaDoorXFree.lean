/- This file proves that SyntaxFree returns true for every input, where the variables that the row lists hold what it lists; without any other condition. -/
import Derived.Test.YtanfoijdfcnpoaaDoorF1
import Derived.Test.YtanfoijdfcnpoaaDoorA2
import Derived.Test.YtanfoijdfcnpoaaDoorCards
import Derived.Test.YtanfoijdfcnpoaaDoorTie
import Derived.SevenTiedAt
set_option linter.unusedVariables false
set_option linter.unusedSimpArgs false
namespace Go.Proofs.YtanfoijdfcnpoaaDoor.Ev
open Go.Proofs Go.ChangeShapes Go.WideShapes Go.ChangeAt Go.RowKit

theorem free_main (pvs : List (PV sig)) (h : Alls (Arg Tryd.prog lay) Tryd.f6.params.toList pvs) : ∃ m, CallOk Tryd.prog lay 6 pvs [] (.ret (.d (.bool true)), m) := by
  rw [Tryd.params6] at h
  obtain ⟨p0, r0, rfl, h0, h⟩ := alls_cons h
  cases alls_nil h
  obtain ⟨r, rfl, h_r⟩ := arg_raw h0
  obtain ⟨k, hk⟩ := (free_law r h_r).get
  obtain ⟨r0, r1, r2⟩ := r
  exact ⟨[], of_levels levels fit1 dok (k := k) (Eq.trans (by kernel_rfl) (hk (Res sig × Mem sig) fun b => some (Res.ret (.d (.bool b)), [])))⟩

theorem free_lifted (os : Os) (started : os.Started) (H : Type) (enc : TypeId × Value → H) :
    ReturnsInHanded {} Tryd.checked os 6 .any (fun w args => (Rows.syntaxFreeSpec.pre enc Tryd.prog Tryd.f6 Rows.syntaxFreeRow.domain false w args ∧ laidMet Tryd.prog Rows.syntaxFreeRow.laid w) ∧ sizedMet enc Tryd.prog Tryd.f6 (OpenSpec.ofChange Rows.syntaxFreeSpec) false w args) (Rows.syntaxFreeSpec.post enc Tryd.prog Tryd.f6 false true false false) :=
  law_liftedL (C := Tryd.checked) (tb := 4) rfl os started ownT laidT fit1 reads1 (by kernel_rfl) Tryd.func6 (c := textOf Tryd.prog 6) (by kernel_rfl) rfl H enc (by kernel_rfl) (by kernel_rfl) (by kernel_rfl)
    (fun ds h => by
      rw [Tryd.params6] at h
      match ds, h with
      | [d0], _ => rfl)
    (ChangeSpec.witness_at (enc := enc) (C := Tryd.checked) (os := os) (X := fun w _ => laidMet Tryd.prog Rows.syntaxFreeRow.laid w) false (laidWorld os) #[.agg #[.int .i64 0, .string ⟨#[]⟩, .slice none 0 0]] 8 rfl (by kernel_rfl) (by kernel_rfl) (by kernel_rfl) (by kernel_rfl) (by kernel_rfl) (laidWorld_met os _))
    free_main laid_fix

theorem free_over : Rows.syntaxFreeRow.holds Tryd.pinned (OpenSpec.ofChange Rows.syntaxFreeSpec) :=
  OpenClaim.holds_of_wide 6 Tryd.f6 rfl rfl rfl rfl rfl rfl rfl ⟨rfl, rfl, rfl, rfl, rfl⟩ rfl rfl rfl rfl rfl (by kernel_rfl) Tryd.func6 (by kernel_rfl)
    (of_decide_eq_true (by kernel_rfl)) (by unfold Func.isWrapper; first | (rw [if_pos (by decide +kernel)]; kernel_rfl) | (rw [if_neg (by decide +kernel)]; exact ⟨rfl, rfl⟩))
    (fun os started H enc _ => free_lifted os started H enc)

end Go.Proofs.YtanfoijdfcnpoaaDoor.Ev

namespace Go.Proofs.YtanfoijdfcnpoaaDoor
open Go

/-- The card. -/
theorem syntaxFree_card_holds : Rows.SyntaxFreeCardSaid :=
  Claim7.holds_tied_plain_at .later [] [.data, .data, .data, .sentinel, .sentinel] true (true, "a38621a4325b11cf38d88e2dd0a076578d7b3ca4d1a6dfb2182c0a34891db103") true
    Ev.free_over (fun _ h => by cases h) (by kernel_rfl) (fun _ h => by cases h) syntaxFree_row_tie rfl ⟨rfl, rfl⟩ (by kernel_rfl) rfl
    (fun f fn hf hfn => by
      obtain rfl : f = 6 := Option.some.inj ((show Tryd.prog.funcNamed "truss/trusslaw02.SyntaxFree" = some 6 by kernel_rfl).symm.trans hf) |>.symm
      obtain rfl : fn = Tryd.f6 := (Option.some.inj (Tryd.func6.symm.trans hfn)).symm
      exact ⟨by kernel_rfl, fun j t ht => by
        rw [Tryd.params6] at ht
        have hm : t ∈ [24] := by simpa using Array.mem_of_getElem? ht
        have hall : ([24].all fun u => !Tryd.prog.wantsStandIn u) = true := by kernel_rfl
        exact (show Tryd.prog.wantsStandIn t = false by simpa using List.all_eq_true.1 hall t hm)⟩)
    (by kernel_rfl)
#print axioms syntaxFree_card_holds

end Go.Proofs.YtanfoijdfcnpoaaDoor
