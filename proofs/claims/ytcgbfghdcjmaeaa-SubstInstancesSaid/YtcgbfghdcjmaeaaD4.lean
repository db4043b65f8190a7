/- This file proves the tables of layer 4's typed functions sound; without any condition. -/
import Derived.Test.YtcgbfghdcjmaeaaG9
import Derived.Test.YtcgbfghdcjmaeaaEvN
set_option linter.unusedVariables false
namespace Go.Proofs.Ytcgbfghdcjmaeaa.Ev

theorem fit : Fit Try.prog where
  mixed := by kernel_rfl
  named := by kernel_rfl
  loops := by kernel_rfl

def call0 : CallT sig := fun _ _ _ _ _ => none
def loop0 : LoopT sig := fun _ _ _ _ _ _ => none
instance : Natural call0 := ⟨fun _ _ _ _ _ => rfl⟩
instance : NaturalL loop0 := ⟨fun _ _ _ _ _ _ => rfl⟩

noncomputable def after40 (a b c d e : PV sig) (u : Option (PV sig)) : Option (Ex sig × St sig) := afterD Try.prog lay call0 loop0 hints 40 7 [.ptr 0 0, .ptr 1 0] [some [a, b, c, d], some [e]] (recovered u)
noncomputable def end40 (a b c d e : PV sig) (u : Option (PV sig)) : St sig := stateOf (after40 a b c d e u)

theorem caught_ok (a b c d e : PV sig) (u : Option (PV sig)) (m' : Mem sig) (hk : after40 a b c d e u = some (.normal, end40 a b c d e u)) (hds : (end40 a b c d e u).dfs = [])
    (hm' : (end40 a b c d e u).mem.take 2 = m') (hcut : maxL (ptrsMem m') ≤ 2) (hup : ∀ k l, recovered u ≠ .own k l)
    {g : Gh} {vs : List Value} {w : World} {md : FrameMode} (hm : MemInv lay g [some [a, b, c, d], some [e]] w) (ha : PRels lay g.β g.G [.ptr 0 0, .ptr 1 0] vs) (hu : ModeRel lay g u md) :
    (callFunc 40 vs.toArray).run Try.prog w = .ok (.enter 40 vs.toArray) w ∧
    CallsD Try.prog 40 vs.toArray md w fun e md' w' => ∃ v, e = .returned v ∧ ∃ g', Fr g w g' w' ∧ MemInv lay g' m' w' ∧ ModeRel lay g' none (settle md') := by
  have := deferred_ok (L := lay) (call := call0) (LT := loop0) (H := hints) (f := 40) (fn := fnOf Try.prog 40) (c := textOf Try.prog 40) (d := 7) (args := [.ptr 0 0, .ptr 1 0]) (m := [some [a, b, c, d], some [e]]) (u := u) (e := .normal) (st' := end40 a b c d e u)
    fit (fun f args m r h => by cases h) (by kernel_rfl) (by kernel_rfl) (by kernel_rfl) (by kernel_rfl) (of_decide_eq_true (by kernel_rfl))
    (fun key st r c _ h => by cases h) (of_decide_eq_true (by kernel_rfl)) hk (.inl rfl) hds (by show maxL (ptrsMem ((end40 a b c d e u).mem.take 2)) ≤ 2; rw [hm']; exact hcut) hm ha
    (fun p hp k l => by
      simp only [List.mem_cons, List.not_mem_nil, or_false] at hp
      rcases hp with rfl | rfl <;> simp) hu hup
  rwa [show ([some [a, b, c, d], some [e]] : Mem sig).length = 2 from rfl, hm'] at this

theorem caught_none (a b c d e : PV sig) : after40 a b c d e none = some (.normal, end40 a b c d e none) := by kernel_rfl
theorem caught_some (a b c d e : PV sig) (x : Int) : after40 a b c d e (some (.iface 104 (.agg [.d (.int .i64 x)]))) = some (.normal, end40 a b c d e (some (.iface 104 (.agg [.d (.int .i64 x)])))) := by kernel_rfl

theorem dok : DOk Try.prog lay dfT := by
  intro f args m u u' m' h g vs w md hm ha hu
  unfold dfT at h
  cases hf : Nat.beq f 40 with
  | false => rw [hf] at h; cases h
  | true =>
    have := Nat.eq_of_beq_eq_true hf
    subst this
    rw [hf] at h
    simp only [cond_true] at h
    unfold caughtD at h
    split at h
    · rename_i a b c d e
      split at h
      · cases h
        exact caught_ok a b c d e none _ (caught_none a b c d e) (by kernel_rfl) (by kernel_rfl) hm.closed (by simp [recovered]) hm ha hu
      · rename_i x
        cases h
        exact caught_ok a b c d e _ _ (caught_some a b c d e x) (by kernel_rfl) (by kernel_rfl) (of_decide_eq_true (by kernel_rfl)) (by simp [recovered]) hm ha hu
      · cases h
    · cases h

end Go.Proofs.Ytcgbfghdcjmaeaa.Ev
