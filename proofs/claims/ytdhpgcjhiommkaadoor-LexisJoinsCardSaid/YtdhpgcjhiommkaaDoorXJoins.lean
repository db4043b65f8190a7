/- This file proves that LexisJoins returns true for every input, where the variables that the row lists hold what it lists; without any other condition. -/
import Derived.Test.YtdhpgcjhiommkaaDoorV14
import Derived.Test.YtdhpgcjhiommkaaDoorA1
import Derived.Test.YtdhpgcjhiommkaaDoorCards
import Derived.Test.YtdhpgcjhiommkaaDoorTie
import Derived.SevenTiedAt
set_option linter.unusedVariables false
set_option linter.unusedSimpArgs false
namespace Go.Proofs.YtdhpgcjhiommkaaDoor.Ev
open Go.Proofs Go.ChangeShapes Go.WideShapes Go.ChangeAt Go.RowKit

theorem joins_main (pvs : List (PV sig)) (h : Alls (Arg Tryd.prog lay) Tryd.f8.params.toList pvs) : ∃ m, CallOk Tryd.prog lay 8 pvs [] (.ret (.d (.bool true)), m) := by
  rw [Tryd.params8] at h
  obtain ⟨p0, r0, rfl, h0, h⟩ := alls_cons h
  cases alls_nil h
  obtain ⟨l, rfl, h_l⟩ := arg_toks h0
  obtain ⟨k, hk⟩ := (joins_law l h_l).get
  exact ⟨[], of_levels levels fit1 dok (k := k) (Eq.trans (by kernel_rfl) (hk (Res sig × Mem sig) fun b => some (Res.ret (.d (.bool b)), [])))⟩

theorem joins_lifted (os : Os) (started : os.Started) (H : Type) (enc : TypeId × Value → H) :
    ReturnsInHanded {} Tryd.checked os 8 .any (fun w args => (Rows.lexisJoinsSpec.pre enc Tryd.prog Tryd.f8 Rows.lexisJoinsRow.domain false w args ∧ laidMet Tryd.prog Rows.lexisJoinsRow.laid w) ∧ sizedMet enc Tryd.prog Tryd.f8 (OpenSpec.ofChange Rows.lexisJoinsSpec) false w args) (Rows.lexisJoinsSpec.post enc Tryd.prog Tryd.f8 false true false false) :=
  law_liftedL (C := Tryd.checked) (tb := 4) rfl os started ownT laidT fit1 reads1 (by kernel_rfl) Tryd.func8 (c := textOf Tryd.prog 8) (by kernel_rfl) rfl H enc (by kernel_rfl) (by kernel_rfl) (by kernel_rfl)
    (fun ds h => by
      rw [Tryd.params8] at h
      match ds, h with
      | [d0], _ => rfl)
    (ChangeSpec.witness_at (enc := enc) (C := Tryd.checked) (os := os) (X := fun w _ => laidMet Tryd.prog Rows.lexisJoinsRow.laid w) false (laidWorld os) #[.slice none 0 0] 8 rfl (by kernel_rfl) (by kernel_rfl) (by kernel_rfl) (by kernel_rfl) (by kernel_rfl) (laidWorld_met os _))
    joins_main laid_fix

theorem joins_over : Rows.lexisJoinsRow.holds Tryd.pinned (OpenSpec.ofChange Rows.lexisJoinsSpec) :=
  OpenClaim.holds_of_wide 8 Tryd.f8 rfl rfl rfl rfl rfl rfl rfl ⟨rfl, rfl, rfl, rfl, rfl⟩ rfl rfl rfl rfl rfl (by kernel_rfl) Tryd.func8 (by kernel_rfl)
    (of_decide_eq_true (by kernel_rfl)) (by unfold Func.isWrapper; first | (rw [if_pos (by decide +kernel)]; kernel_rfl) | (rw [if_neg (by decide +kernel)]; exact ⟨rfl, rfl⟩))
    (fun os started H enc _ => joins_lifted os started H enc)

end Go.Proofs.YtdhpgcjhiommkaaDoor.Ev

namespace Go.Proofs.YtdhpgcjhiommkaaDoor
open Go

/-- The card. -/
theorem lexisJoins_card_holds : Rows.LexisJoinsCardSaid :=
  Claim7.holds_tied_plain_at .later [] [.data, .data, .data, .sentinel, .sentinel] true (true, "ca9923f5d9fd0e3f651ca9a53fdd26d32858761c58f202b646c61cf3254ef90d") true
    Ev.joins_over (fun _ h => by cases h) (by kernel_rfl) (fun _ h => by cases h) lexisJoins_row_tie rfl ⟨rfl, rfl⟩ (by kernel_rfl) rfl
    (fun f fn hf hfn => by
      obtain rfl : f = 8 := Option.some.inj ((show Tryd.prog.funcNamed "truss/trusslaw01.LexisJoins" = some 8 by kernel_rfl).symm.trans hf) |>.symm
      obtain rfl : fn = Tryd.f8 := (Option.some.inj (Tryd.func8.symm.trans hfn)).symm
      exact ⟨by kernel_rfl, fun j t ht => by
        rw [Tryd.params8] at ht
        have hm : t ∈ [22] := by simpa using Array.mem_of_getElem? ht
        have hall : ([22].all fun u => !Tryd.prog.wantsStandIn u) = true := by kernel_rfl
        exact (show Tryd.prog.wantsStandIn t = false by simpa using List.all_eq_true.1 hall t hm)⟩)
    (by kernel_rfl)
#print axioms lexisJoins_card_holds

end Go.Proofs.YtdhpgcjhiommkaaDoor
