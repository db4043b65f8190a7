/- This file proves that SyntaxRenamed returns true for every input, where the variables that the row lists hold what it lists; without any other condition. -/
import Derived.Test.YtanfoijdfcnpoaaGreatDoorN6
import Derived.Test.YtanfoijdfcnpoaaGreatDoorA2
import Derived.Test.YtanfoijdfcnpoaaGreatDoorCards
import Derived.Test.YtanfoijdfcnpoaaGreatDoorTie
import Derived.SevenTiedAt
set_option linter.unusedVariables false
set_option linter.unusedSimpArgs false
namespace Go.Proofs.YtanfoijdfcnpoaaGreatDoor.Ev
open Go.Proofs Go.ChangeShapes Go.WideShapes Go.ChangeAt Go.RowKit

theorem renamed_main (pvs : List (PV sig)) (h : Alls (Arg Tryz.prog lay) Tryz.f5.params.toList pvs) : ∃ m, CallOk Tryz.prog lay 5 pvs [] (.ret (.d (.bool true)), m) := by
  rw [Tryz.params5] at h
  obtain ⟨p0, r0, rfl, h0, h⟩ := alls_cons h
  obtain ⟨p1, r1, rfl, h1, h⟩ := alls_cons h
  obtain ⟨p2, r2, rfl, h2, h⟩ := alls_cons h
  cases alls_nil h
  obtain ⟨r, rfl, h_r⟩ := arg_raw h0
  obtain ⟨f, rfl, h_f⟩ := arg_str h1
  obtain ⟨t, rfl, h_t⟩ := arg_str h2
  obtain ⟨k, hk⟩ := (renamed_law r f t h_r).get
  obtain ⟨r0, r1, r2⟩ := r
  exact ⟨[], of_levels levels fit1 dok (k := k) (Eq.trans (by kernel_rfl) (hk (Res sig × Mem sig) fun b => some (Res.ret (.d (.bool b)), [])))⟩

theorem renamed_lifted (os : Os) (started : os.Started) (H : Type) (enc : TypeId × Value → H) :
    ReturnsInHanded {} Tryz.checked os 5 .any (fun w args => (Rows.syntaxRenamedSpec.pre enc Tryz.prog Tryz.f5 Rows.syntaxRenamedRow.domain false w args ∧ laidMet Tryz.prog Rows.syntaxRenamedRow.laid w) ∧ sizedMet enc Tryz.prog Tryz.f5 (OpenSpec.ofChange Rows.syntaxRenamedSpec) false w args) (Rows.syntaxRenamedSpec.post enc Tryz.prog Tryz.f5 false true false false) :=
  law_liftedL (C := Tryz.checked) (tb := 4) rfl os started ownT laidT fit1 reads1 (by kernel_rfl) Tryz.func5 (c := textOf Tryz.prog 5) (by kernel_rfl) rfl H enc (by kernel_rfl) (by kernel_rfl) (by kernel_rfl)
    (fun ds h => by
      rw [Tryz.params5] at h
      match ds, h with
      | [d0, d1, d2], _ => rfl)
    (ChangeSpec.witness_at (enc := enc) (C := Tryz.checked) (os := os) (X := fun w _ => laidMet Tryz.prog Rows.syntaxRenamedRow.laid w) false (laidWorld os) #[.agg #[.int .i64 0, .string ⟨#[]⟩, .slice none 0 0], .string ⟨#[]⟩, .string ⟨#[]⟩] 8 rfl (by kernel_rfl) (by kernel_rfl) (by kernel_rfl) (by kernel_rfl) (by kernel_rfl) (laidWorld_met os _))
    renamed_main laid_fix

theorem renamed_over : Rows.syntaxRenamedRow.holds Tryz.pinned (OpenSpec.ofChange Rows.syntaxRenamedSpec) :=
  OpenClaim.holds_of_wide 5 Tryz.f5 rfl rfl rfl rfl rfl rfl rfl ⟨rfl, rfl, rfl, rfl, rfl⟩ rfl rfl rfl rfl rfl (by kernel_rfl) Tryz.func5 (by kernel_rfl)
    (of_decide_eq_true (by kernel_rfl)) (by unfold Func.isWrapper; first | (rw [if_pos (by decide +kernel)]; kernel_rfl) | (rw [if_neg (by decide +kernel)]; exact ⟨rfl, rfl⟩))
    (fun os started H enc _ => renamed_lifted os started H enc)

end Go.Proofs.YtanfoijdfcnpoaaGreatDoor.Ev

namespace Go.Proofs.YtanfoijdfcnpoaaGreatDoor
open Go

/-- The card. -/
theorem syntaxRenamed_card_holds : Rows.SyntaxRenamedCardSaid :=
  Claim7.holds_tied_plain_at .later [] [.data, .data, .data, .sentinel, .sentinel] true (true, "c74fadada6852c5abb66b27d7433c133580b4dda3f91bb28eadd26636f13c909") true
    Ev.renamed_over (fun _ h => by cases h) (by kernel_rfl) (fun _ h => by cases h) syntaxRenamed_row_tie rfl ⟨rfl, rfl⟩ (by kernel_rfl) rfl
    (fun f fn hf hfn => by
      obtain rfl : f = 5 := Option.some.inj ((show Tryz.prog.funcNamed "truss/trusslaw02.SyntaxRenamed" = some 5 by kernel_rfl).symm.trans hf) |>.symm
      obtain rfl : fn = Tryz.f5 := (Option.some.inj (Tryz.func5.symm.trans hfn)).symm
      exact ⟨by kernel_rfl, fun j t ht => by
        rw [Tryz.params5] at ht
        have hm : t ∈ [24, 9, 9] := by simpa using Array.mem_of_getElem? ht
        have hall : ([24, 9, 9].all fun u => !Tryz.prog.wantsStandIn u) = true := by kernel_rfl
        exact (show Tryz.prog.wantsStandIn t = false by simpa using List.all_eq_true.1 hall t hm)⟩)
    (by kernel_rfl)
#print axioms syntaxRenamed_card_holds

end Go.Proofs.YtanfoijdfcnpoaaGreatDoor
