/- This file proves what the deferred function of layer 2's readers does; without any condition. -/
import Derived.Test.YtanfoijdfcnpoaaGreatDoorG1
import Derived.Test.YtanfoijdfcnpoaaGreatDoorU1
set_option linter.unusedVariables false
set_option maxRecDepth 8000
namespace Go.Proofs.YtanfoijdfcnpoaaGreatDoor.Ev

def call0 : CallT sig := fun _ _ _ _ _ => none
def loop0 : LoopT sig := fun _ _ _ _ _ _ => none
instance : Natural call0 := ⟨fun _ _ _ _ _ => rfl⟩
instance : NaturalL loop0 := ⟨fun _ _ _ _ _ _ => rfl⟩

noncomputable def afterC (a b : PV sig) (u : Option (PV sig)) : Option (Ex sig × St sig) := afterD Tryz.prog lay call0 loop0 hints 29 7 [.ptr 0 0, .ptr 1 0] [some [a], some [b]] (recovered u)
noncomputable def endC (a b : PV sig) (u : Option (PV sig)) : St sig := stateOf (afterC a b u)

theorem caught_ok (a b : PV sig) (u : Option (PV sig)) (m' : Mem sig) (hk : afterC a b u = some (.normal, endC a b u)) (hds : (endC a b u).dfs = [])
    (hm' : (endC a b u).mem.take 2 = m') (hcut : maxL (ptrsMem m') ≤ 2) (hup : ∀ k l, recovered u ≠ .own k l)
    {g : Gh} {vs : List Value} {w : World} {md : FrameMode} (hm : MemInv lay g [some [a], some [b]] w) (ha : PRels lay g.β g.G [.ptr 0 0, .ptr 1 0] vs) (hu : ModeRel lay g u md) :
    (callFunc 29 vs.toArray).run Tryz.prog w = .ok (.enter 29 vs.toArray) w ∧
    CallsD Tryz.prog 29 vs.toArray md w fun e md' w' => ∃ v, e = .returned v ∧ ∃ g', Fr g w g' w' ∧ MemInv lay g' m' w' ∧ ModeRel lay g' none (settle md') := by
  have := deferred_ok (L := lay) (call := call0) (LT := loop0) (H := hints) (f := 29) (fn := fnOf Tryz.prog 29) (c := textOf Tryz.prog 29) (d := 7) (args := [.ptr 0 0, .ptr 1 0]) (m := [some [a], some [b]]) (u := u) (e := .normal) (st' := endC a b u)
    fit1 (fun f args m r h => by cases h) (by kernel_rfl) (by kernel_rfl) (by kernel_rfl) (by kernel_rfl) (of_decide_eq_true (by kernel_rfl))
    (fun key st r c _ h => by cases h) (of_decide_eq_true (by kernel_rfl)) hk (.inl rfl) hds (by show maxL (ptrsMem ((endC a b u).mem.take 2)) ≤ 2; rw [hm']; exact hcut) hm ha
    (fun p hp k l => by
      simp only [List.mem_cons, List.not_mem_nil, or_false] at hp
      rcases hp with rfl | rfl <;> simp) hu hup
  rwa [show ([some [a], some [b]] : Mem sig).length = 2 from rfl, hm'] at this

abbrev iP (n : Int) : PV sig := .d (.int .i64 n)
theorem caught_none (a b : Int) : afterC (iP a) (iP b) none = some (.normal, endC (iP a) (iP b) none) := by kernel_rfl
theorem caught_some (a b : Int) (x y : Int) : afterC (iP a) (iP b) (some (.iface 114 (.agg [.d (.int .i64 x), .d (.int .i64 y)]))) = some (.normal, endC (iP a) (iP b) (some (.iface 114 (.agg [.d (.int .i64 x), .d (.int .i64 y)])))) := by kernel_rfl

theorem dok : DOk Tryz.prog lay dfT := by
  intro f args m u u' m' h g vs w md hm ha hu
  unfold dfT at h
  cases hf : Nat.beq f 29 with
  | false => rw [hf] at h; cases h
  | true =>
    have := Nat.eq_of_beq_eq_true hf
    subst this
    rw [hf] at h
    simp only [cond_true] at h
    unfold caughtD at h
    split at h
    · rename_i a b
      split at h
      · cases h
        exact caught_ok (iP a) (iP b) none _ (caught_none a b) (by kernel_rfl) (by kernel_rfl) hm.closed (by simp [recovered]) hm ha hu
      · rename_i x y
        cases h
        exact caught_ok (iP a) (iP b) _ _ (caught_some a b x y) (by kernel_rfl) (by kernel_rfl) (of_decide_eq_true (by kernel_rfl)) (by simp [recovered]) hm ha hu
      · cases h
    · cases h

end Go.Proofs.YtanfoijdfcnpoaaGreatDoor.Ev
