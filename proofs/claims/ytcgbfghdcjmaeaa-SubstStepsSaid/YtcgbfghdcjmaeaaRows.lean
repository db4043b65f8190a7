/-
  NARROWER THAN 'FOR EVERY INPUT', by the rows' own cells (each row's printed sentence says how): SubstPuts: loops · SubstAway: loops · SubstTyped: loops · SubstCommutes: loops · SubstRenames: loops · SubstApplies: loops · SubstManies: loops · SubstLongs: loops · SubstShorts: loops · SubstInstances: loops · SubstSteps: loops.
  DERIVED. THE GIVEN ROWS OF THIS SEAT. 11 by the template 'for every input the law returns true; each argument reads behind the call as it read before'; 0 by the template 'total and deterministic' (their statements: YtcgbfghdcjmaeaaTotals.lean).
  GIVEN WITH THE SEED: the statements are not yours to turn. If you find one false, say at which input.
  Laid BY PROGRAM, IN A SANDBOX (cutbox-rows.mjs): the forced cells as the released guide's own fill.sh prints them over the translation cc91a73039a56779… (all of the seat's roots in one cut). By AI agents, Wed Nov 11 2026. No macro, syntax, notation, axiom, sorry.
-/
import Derived.Test.YtcgbfghdcjmaeaaChecked
import GoSem.Claim
import GoSem.ClaimJoined
import GoSem.ClaimMapViews
import Derived.JoinedTies
import Derived.KernelRfl
namespace Go.Proofs.Ytcgbfghdcjmaeaa
/- THE CELL 'sum', in the pinned program and in every row, IS THE sha256 OF THE DUMP (.gsa) THAT YtcgbfghdcjmaeaaProg.lean LOADS. Nothing in Lean hashes anything: it is a label: what it is worth is what the hold of that sum in a sandbox is worth. -/
noncomputable def Try.pinned : Pinned := { name := "ytcgbfghdcjmaeaa", sum := "cc91a73039a56779ffd2bc493aa55af3f248fe8bc2d752cfbec3f87298448c8d", checked := Try.checked }
namespace Rows
def none {H : Type} : Left H := { results := [], args := [] }

/-- 'trusslaw04.SubstPuts': WHATEVER THE INPUT: true; the input reads as it did. -/
def substPutsSpec : ChangeSpec := { name := "substPuts", fn := fun _ => fun
  | [d] => { results := [.lit (.bool true)], args := [d] }
  | _ => none }
def substPutsRow : OpenClaim := { program := "ytcgbfghdcjmaeaa", sum := "cc91a73039a56779ffd2bc493aa55af3f248fe8bc2d752cfbec3f87298448c8d", func := "truss/trusslaw04.SubstPuts", spec := "substPuts", unfollowed := true, recurses := true, loops := true, apart := false }
def SubstPutsSaid : Prop := substPutsRow.holds Try.pinned (OpenSpec.ofChange substPutsSpec)

/-- ITS FALSE NEIGHBOUR: 'it returns false'. Refute it at one input. -/
def substPutsWrong : ChangeSpec := { name := "substPuts", fn := fun _ => fun
  | [d] => { results := [.lit (.bool false)], args := [d] }
  | _ => none }
def SubstPutsWrongFalsely : Prop := substPutsRow.holds Try.pinned (OpenSpec.ofChange substPutsWrong)

/-- 'trusslaw04.SubstAway': WHATEVER THE INPUT: true; the input reads as it did. -/
def substAwaySpec : ChangeSpec := { name := "substAway", fn := fun _ => fun
  | [d] => { results := [.lit (.bool true)], args := [d] }
  | _ => none }
def substAwayRow : OpenClaim := { program := "ytcgbfghdcjmaeaa", sum := "cc91a73039a56779ffd2bc493aa55af3f248fe8bc2d752cfbec3f87298448c8d", func := "truss/trusslaw04.SubstAway", spec := "substAway", unfollowed := true, recurses := true, loops := true, apart := false }
def SubstAwaySaid : Prop := substAwayRow.holds Try.pinned (OpenSpec.ofChange substAwaySpec)

/-- ITS FALSE NEIGHBOUR: 'it returns false'. Refute it at one input. -/
def substAwayWrong : ChangeSpec := { name := "substAway", fn := fun _ => fun
  | [d] => { results := [.lit (.bool false)], args := [d] }
  | _ => none }
def SubstAwayWrongFalsely : Prop := substAwayRow.holds Try.pinned (OpenSpec.ofChange substAwayWrong)

/-- 'trusslaw04.SubstTyped': WHATEVER THE INPUT: true; the input reads as it did. -/
def substTypedSpec : ChangeSpec := { name := "substTyped", fn := fun _ => fun
  | [d1, d2, d3] => { results := [.lit (.bool true)], args := [d1, d2, d3] }
  | _ => none }
def substTypedRow : OpenClaim := { program := "ytcgbfghdcjmaeaa", sum := "cc91a73039a56779ffd2bc493aa55af3f248fe8bc2d752cfbec3f87298448c8d", func := "truss/trusslaw04.SubstTyped", spec := "substTyped", unfollowed := true, recurses := true, loops := true, apart := false }
def SubstTypedSaid : Prop := substTypedRow.holds Try.pinned (OpenSpec.ofChange substTypedSpec)

/-- ITS FALSE NEIGHBOUR: 'it returns false'. Refute it at one input. -/
def substTypedWrong : ChangeSpec := { name := "substTyped", fn := fun _ => fun
  | [d1, d2, d3] => { results := [.lit (.bool false)], args := [d1, d2, d3] }
  | _ => none }
def SubstTypedWrongFalsely : Prop := substTypedRow.holds Try.pinned (OpenSpec.ofChange substTypedWrong)

/-- 'trusslaw04.SubstCommutes': WHATEVER THE INPUT: true; the input reads as it did. -/
def substCommutesSpec : ChangeSpec := { name := "substCommutes", fn := fun _ => fun
  | [d1, d2] => { results := [.lit (.bool true)], args := [d1, d2] }
  | _ => none }
def substCommutesRow : OpenClaim := { program := "ytcgbfghdcjmaeaa", sum := "cc91a73039a56779ffd2bc493aa55af3f248fe8bc2d752cfbec3f87298448c8d", func := "truss/trusslaw04.SubstCommutes", spec := "substCommutes", unfollowed := true, recurses := true, loops := true, apart := false }
def SubstCommutesSaid : Prop := substCommutesRow.holds Try.pinned (OpenSpec.ofChange substCommutesSpec)

/-- ITS FALSE NEIGHBOUR: 'it returns false'. Refute it at one input. -/
def substCommutesWrong : ChangeSpec := { name := "substCommutes", fn := fun _ => fun
  | [d1, d2] => { results := [.lit (.bool false)], args := [d1, d2] }
  | _ => none }
def SubstCommutesWrongFalsely : Prop := substCommutesRow.holds Try.pinned (OpenSpec.ofChange substCommutesWrong)

/-- 'trusslaw04.SubstRenames': WHATEVER THE INPUT: true; the input reads as it did. -/
def substRenamesSpec : ChangeSpec := { name := "substRenames", fn := fun _ => fun
  | [d1, d2, d3] => { results := [.lit (.bool true)], args := [d1, d2, d3] }
  | _ => none }
def substRenamesRow : OpenClaim := { program := "ytcgbfghdcjmaeaa", sum := "cc91a73039a56779ffd2bc493aa55af3f248fe8bc2d752cfbec3f87298448c8d", func := "truss/trusslaw04.SubstRenames", spec := "substRenames", unfollowed := true, recurses := true, loops := true, apart := false }
def SubstRenamesSaid : Prop := substRenamesRow.holds Try.pinned (OpenSpec.ofChange substRenamesSpec)

/-- ITS FALSE NEIGHBOUR: 'it returns false'. Refute it at one input. -/
def substRenamesWrong : ChangeSpec := { name := "substRenames", fn := fun _ => fun
  | [d1, d2, d3] => { results := [.lit (.bool false)], args := [d1, d2, d3] }
  | _ => none }
def SubstRenamesWrongFalsely : Prop := substRenamesRow.holds Try.pinned (OpenSpec.ofChange substRenamesWrong)

/-- 'trusslaw04.SubstApplies': WHATEVER THE INPUT: true; the input reads as it did. -/
def substAppliesSpec : ChangeSpec := { name := "substApplies", fn := fun _ => fun
  | [d1, d2, d3] => { results := [.lit (.bool true)], args := [d1, d2, d3] }
  | _ => none }
def substAppliesRow : OpenClaim := { program := "ytcgbfghdcjmaeaa", sum := "cc91a73039a56779ffd2bc493aa55af3f248fe8bc2d752cfbec3f87298448c8d", func := "truss/trusslaw04.SubstApplies", spec := "substApplies", unfollowed := true, recurses := true, loops := true, apart := false }
def SubstAppliesSaid : Prop := substAppliesRow.holds Try.pinned (OpenSpec.ofChange substAppliesSpec)

/-- ITS FALSE NEIGHBOUR: 'it returns false'. Refute it at one input. -/
def substAppliesWrong : ChangeSpec := { name := "substApplies", fn := fun _ => fun
  | [d1, d2, d3] => { results := [.lit (.bool false)], args := [d1, d2, d3] }
  | _ => none }
def SubstAppliesWrongFalsely : Prop := substAppliesRow.holds Try.pinned (OpenSpec.ofChange substAppliesWrong)

/-- 'trusslaw04.SubstManies': WHATEVER THE INPUT: true; the input reads as it did. -/
def substManiesSpec : ChangeSpec := { name := "substManies", fn := fun _ => fun
  | [d1, d2, d3] => { results := [.lit (.bool true)], args := [d1, d2, d3] }
  | _ => none }
def substManiesRow : OpenClaim := { program := "ytcgbfghdcjmaeaa", sum := "cc91a73039a56779ffd2bc493aa55af3f248fe8bc2d752cfbec3f87298448c8d", func := "truss/trusslaw04.SubstManies", spec := "substManies", unfollowed := true, recurses := true, loops := true, apart := false }
def SubstManiesSaid : Prop := substManiesRow.holds Try.pinned (OpenSpec.ofChange substManiesSpec)

/-- ITS FALSE NEIGHBOUR: 'it returns false'. Refute it at one input. -/
def substManiesWrong : ChangeSpec := { name := "substManies", fn := fun _ => fun
  | [d1, d2, d3] => { results := [.lit (.bool false)], args := [d1, d2, d3] }
  | _ => none }
def SubstManiesWrongFalsely : Prop := substManiesRow.holds Try.pinned (OpenSpec.ofChange substManiesWrong)

/-- 'trusslaw04.SubstLongs': WHATEVER THE INPUT: true; the input reads as it did. -/
def substLongsSpec : ChangeSpec := { name := "substLongs", fn := fun _ => fun
  | [d1, d2, d3] => { results := [.lit (.bool true)], args := [d1, d2, d3] }
  | _ => none }
def substLongsRow : OpenClaim := { program := "ytcgbfghdcjmaeaa", sum := "cc91a73039a56779ffd2bc493aa55af3f248fe8bc2d752cfbec3f87298448c8d", func := "truss/trusslaw04.SubstLongs", spec := "substLongs", unfollowed := true, recurses := true, loops := true, apart := false }
def SubstLongsSaid : Prop := substLongsRow.holds Try.pinned (OpenSpec.ofChange substLongsSpec)

/-- ITS FALSE NEIGHBOUR: 'it returns false'. Refute it at one input. -/
def substLongsWrong : ChangeSpec := { name := "substLongs", fn := fun _ => fun
  | [d1, d2, d3] => { results := [.lit (.bool false)], args := [d1, d2, d3] }
  | _ => none }
def SubstLongsWrongFalsely : Prop := substLongsRow.holds Try.pinned (OpenSpec.ofChange substLongsWrong)

/-- 'trusslaw04.SubstShorts': WHATEVER THE INPUT: true; the input reads as it did. -/
def substShortsSpec : ChangeSpec := { name := "substShorts", fn := fun _ => fun
  | [d] => { results := [.lit (.bool true)], args := [d] }
  | _ => none }
def substShortsRow : OpenClaim := { program := "ytcgbfghdcjmaeaa", sum := "cc91a73039a56779ffd2bc493aa55af3f248fe8bc2d752cfbec3f87298448c8d", func := "truss/trusslaw04.SubstShorts", spec := "substShorts", unfollowed := true, recurses := true, loops := true, apart := false }
def SubstShortsSaid : Prop := substShortsRow.holds Try.pinned (OpenSpec.ofChange substShortsSpec)

/-- ITS FALSE NEIGHBOUR: 'it returns false'. Refute it at one input. -/
def substShortsWrong : ChangeSpec := { name := "substShorts", fn := fun _ => fun
  | [d] => { results := [.lit (.bool false)], args := [d] }
  | _ => none }
def SubstShortsWrongFalsely : Prop := substShortsRow.holds Try.pinned (OpenSpec.ofChange substShortsWrong)

/-- 'trusslaw04.SubstInstances': WHATEVER THE INPUT: true; the input reads as it did. -/
def substInstancesSpec : ChangeSpec := { name := "substInstances", fn := fun _ => fun
  | [d1, d2] => { results := [.lit (.bool true)], args := [d1, d2] }
  | _ => none }
def substInstancesRow : OpenClaim := { program := "ytcgbfghdcjmaeaa", sum := "cc91a73039a56779ffd2bc493aa55af3f248fe8bc2d752cfbec3f87298448c8d", func := "truss/trusslaw04.SubstInstances", spec := "substInstances", unfollowed := true, recurses := true, loops := true, apart := false }
def SubstInstancesSaid : Prop := substInstancesRow.holds Try.pinned (OpenSpec.ofChange substInstancesSpec)

/-- ITS FALSE NEIGHBOUR: 'it returns false'. Refute it at one input. -/
def substInstancesWrong : ChangeSpec := { name := "substInstances", fn := fun _ => fun
  | [d1, d2] => { results := [.lit (.bool false)], args := [d1, d2] }
  | _ => none }
def SubstInstancesWrongFalsely : Prop := substInstancesRow.holds Try.pinned (OpenSpec.ofChange substInstancesWrong)

/-- 'trusslaw04.SubstSteps': WHATEVER THE INPUT: true; the input reads as it did. -/
def substStepsSpec : ChangeSpec := { name := "substSteps", fn := fun _ => fun
  | [d1, d2, d3] => { results := [.lit (.bool true)], args := [d1, d2, d3] }
  | _ => none }
def substStepsRow : OpenClaim := { program := "ytcgbfghdcjmaeaa", sum := "cc91a73039a56779ffd2bc493aa55af3f248fe8bc2d752cfbec3f87298448c8d", func := "truss/trusslaw04.SubstSteps", spec := "substSteps", unfollowed := true, recurses := true, loops := true, apart := false }
def SubstStepsSaid : Prop := substStepsRow.holds Try.pinned (OpenSpec.ofChange substStepsSpec)

/-- ITS FALSE NEIGHBOUR: 'it returns false'. Refute it at one input. -/
def substStepsWrong : ChangeSpec := { name := "substSteps", fn := fun _ => fun
  | [d1, d2, d3] => { results := [.lit (.bool false)], args := [d1, d2, d3] }
  | _ => none }
def SubstStepsWrongFalsely : Prop := substStepsRow.holds Try.pinned (OpenSpec.ofChange substStepsWrong)

/- THE SECOND FORM. 'bulk': how many values and letters a reading holds, each counted each time it is reached (what is shared counts as often as it is met; a slice's spare places count too). A statement '..UptoSaid' is the law's where the arguments, and the package variables that the reading takes, are together of bulk at most 1048576: NARROWER than '..Said'. Prove '..Said' where nothing that the law and all that it calls make is longer than what came in: it says more and counts as full. Else prove '..UptoSaid'. A law counts once. -/
mutual
def uptoBulk {H : Type} : DataW H → Nat
  | .lit (.string bytes) => bytes.length + 1
  | .lit _ => 1
  | .nil => 1
  | .ptr d => uptoBulk d + 1
  | .slice elems spare => uptoBulkAll elems + uptoBulkAll spare + 1
  | .agg parts => uptoBulkAll parts + 1
  | .iface _ d => uptoBulk d + 1
  | .map entries => uptoBulkEntries entries + 1
  | .held _ => 1
def uptoBulkAll {H : Type} : List (DataW H) → Nat
  | [] => 0
  | d :: r => uptoBulk d + uptoBulkAll r
def uptoBulkEntries {H : Type} : List (Lit × DataW H) → Nat
  | [] => 0
  | x :: r => uptoBulkEntry x + uptoBulkEntries r
def uptoBulkEntry {H : Type} : Lit × DataW H → Nat
  | (.string bytes, d) => bytes.length + uptoBulk d + 1
  | (_, d) => uptoBulk d + 1
 end
def uptoSmall : (H : Type) → List (DataW H) → Bool := fun _ ds => decide (uptoBulkAll ds ≤ 1048576)
def OpenSpec.upto (s : _root_.Go.ChangeSpec) : _root_.Go.OpenSpec := { _root_.Go.OpenSpec.ofChange s with cond := some uptoSmall }

/-- 'trusslaw04.SubstPuts', WHERE WHAT IT READS IS OF BULK AT MOST 1048576: true; the input reads as it did. -/
def substPutsUptoRow : OpenClaim := { program := "ytcgbfghdcjmaeaa", sum := "cc91a73039a56779ffd2bc493aa55af3f248fe8bc2d752cfbec3f87298448c8d", func := "truss/trusslaw04.SubstPuts", spec := "substPuts", unfollowed := true, recurses := true, loops := true, apart := false, narrowed := true }
def SubstPutsUptoSaid : Prop := substPutsUptoRow.holds Try.pinned (OpenSpec.upto substPutsSpec)

/-- 'trusslaw04.SubstAway', WHERE WHAT IT READS IS OF BULK AT MOST 1048576: true; the input reads as it did. -/
def substAwayUptoRow : OpenClaim := { program := "ytcgbfghdcjmaeaa", sum := "cc91a73039a56779ffd2bc493aa55af3f248fe8bc2d752cfbec3f87298448c8d", func := "truss/trusslaw04.SubstAway", spec := "substAway", unfollowed := true, recurses := true, loops := true, apart := false, narrowed := true }
def SubstAwayUptoSaid : Prop := substAwayUptoRow.holds Try.pinned (OpenSpec.upto substAwaySpec)

/-- 'trusslaw04.SubstTyped', WHERE WHAT IT READS IS OF BULK AT MOST 1048576: true; the input reads as it did. -/
def substTypedUptoRow : OpenClaim := { program := "ytcgbfghdcjmaeaa", sum := "cc91a73039a56779ffd2bc493aa55af3f248fe8bc2d752cfbec3f87298448c8d", func := "truss/trusslaw04.SubstTyped", spec := "substTyped", unfollowed := true, recurses := true, loops := true, apart := false, narrowed := true }
def SubstTypedUptoSaid : Prop := substTypedUptoRow.holds Try.pinned (OpenSpec.upto substTypedSpec)

/-- 'trusslaw04.SubstCommutes', WHERE WHAT IT READS IS OF BULK AT MOST 1048576: true; the input reads as it did. -/
def substCommutesUptoRow : OpenClaim := { program := "ytcgbfghdcjmaeaa", sum := "cc91a73039a56779ffd2bc493aa55af3f248fe8bc2d752cfbec3f87298448c8d", func := "truss/trusslaw04.SubstCommutes", spec := "substCommutes", unfollowed := true, recurses := true, loops := true, apart := false, narrowed := true }
def SubstCommutesUptoSaid : Prop := substCommutesUptoRow.holds Try.pinned (OpenSpec.upto substCommutesSpec)

/-- 'trusslaw04.SubstRenames', WHERE WHAT IT READS IS OF BULK AT MOST 1048576: true; the input reads as it did. -/
def substRenamesUptoRow : OpenClaim := { program := "ytcgbfghdcjmaeaa", sum := "cc91a73039a56779ffd2bc493aa55af3f248fe8bc2d752cfbec3f87298448c8d", func := "truss/trusslaw04.SubstRenames", spec := "substRenames", unfollowed := true, recurses := true, loops := true, apart := false, narrowed := true }
def SubstRenamesUptoSaid : Prop := substRenamesUptoRow.holds Try.pinned (OpenSpec.upto substRenamesSpec)

/-- 'trusslaw04.SubstApplies', WHERE WHAT IT READS IS OF BULK AT MOST 1048576: true; the input reads as it did. -/
def substAppliesUptoRow : OpenClaim := { program := "ytcgbfghdcjmaeaa", sum := "cc91a73039a56779ffd2bc493aa55af3f248fe8bc2d752cfbec3f87298448c8d", func := "truss/trusslaw04.SubstApplies", spec := "substApplies", unfollowed := true, recurses := true, loops := true, apart := false, narrowed := true }
def SubstAppliesUptoSaid : Prop := substAppliesUptoRow.holds Try.pinned (OpenSpec.upto substAppliesSpec)

/-- 'trusslaw04.SubstManies', WHERE WHAT IT READS IS OF BULK AT MOST 1048576: true; the input reads as it did. -/
def substManiesUptoRow : OpenClaim := { program := "ytcgbfghdcjmaeaa", sum := "cc91a73039a56779ffd2bc493aa55af3f248fe8bc2d752cfbec3f87298448c8d", func := "truss/trusslaw04.SubstManies", spec := "substManies", unfollowed := true, recurses := true, loops := true, apart := false, narrowed := true }
def SubstManiesUptoSaid : Prop := substManiesUptoRow.holds Try.pinned (OpenSpec.upto substManiesSpec)

/-- 'trusslaw04.SubstLongs', WHERE WHAT IT READS IS OF BULK AT MOST 1048576: true; the input reads as it did. -/
def substLongsUptoRow : OpenClaim := { program := "ytcgbfghdcjmaeaa", sum := "cc91a73039a56779ffd2bc493aa55af3f248fe8bc2d752cfbec3f87298448c8d", func := "truss/trusslaw04.SubstLongs", spec := "substLongs", unfollowed := true, recurses := true, loops := true, apart := false, narrowed := true }
def SubstLongsUptoSaid : Prop := substLongsUptoRow.holds Try.pinned (OpenSpec.upto substLongsSpec)

/-- 'trusslaw04.SubstShorts', WHERE WHAT IT READS IS OF BULK AT MOST 1048576: true; the input reads as it did. -/
def substShortsUptoRow : OpenClaim := { program := "ytcgbfghdcjmaeaa", sum := "cc91a73039a56779ffd2bc493aa55af3f248fe8bc2d752cfbec3f87298448c8d", func := "truss/trusslaw04.SubstShorts", spec := "substShorts", unfollowed := true, recurses := true, loops := true, apart := false, narrowed := true }
def SubstShortsUptoSaid : Prop := substShortsUptoRow.holds Try.pinned (OpenSpec.upto substShortsSpec)

/-- 'trusslaw04.SubstInstances', WHERE WHAT IT READS IS OF BULK AT MOST 1048576: true; the input reads as it did. -/
def substInstancesUptoRow : OpenClaim := { program := "ytcgbfghdcjmaeaa", sum := "cc91a73039a56779ffd2bc493aa55af3f248fe8bc2d752cfbec3f87298448c8d", func := "truss/trusslaw04.SubstInstances", spec := "substInstances", unfollowed := true, recurses := true, loops := true, apart := false, narrowed := true }
def SubstInstancesUptoSaid : Prop := substInstancesUptoRow.holds Try.pinned (OpenSpec.upto substInstancesSpec)

/-- 'trusslaw04.SubstSteps', WHERE WHAT IT READS IS OF BULK AT MOST 1048576: true; the input reads as it did. -/
def substStepsUptoRow : OpenClaim := { program := "ytcgbfghdcjmaeaa", sum := "cc91a73039a56779ffd2bc493aa55af3f248fe8bc2d752cfbec3f87298448c8d", func := "truss/trusslaw04.SubstSteps", spec := "substSteps", unfollowed := true, recurses := true, loops := true, apart := false, narrowed := true }
def SubstStepsUptoSaid : Prop := substStepsUptoRow.holds Try.pinned (OpenSpec.upto substStepsSpec)

end Rows
end Go.Proofs.Ytcgbfghdcjmaeaa
