/- This file proves what the deferred function of layer 2's readers does; without any condition. -/
import Derived.Test.YtanfoijdfcnpoaaGreatDoorG1
import Derived.Test.YtanfoijdfcnpoaaGreatDoorU1
set_option linter.unusedVariables false
set_option maxRecDepth 8000
namespace Go.Proofs.YtanfoijdfcnpoaaGreatDoor.Ev

def call0 : CallT sig := fun _ _ _ _ _ => none
def loop0 : LoopT sig := fun _ _ _ _ _ _ => none
instance : Natural call0 := ⟨fun _ _ _ _ _ => rfl⟩
instance : NaturalL loop0 := ⟨fun _ _ _ _ _ _ => rfl⟩

noncomputable def afterC (a b : PV sig) (u : Option (PV sig)) : Option (Ex sig × St sig) := afterD Tryz.prog lay call0 loop0 hints 29 7 [.ptr 0 0, .ptr 1 0] [some [a], some [b]] (recovered u)
noncomputable def endC (a b : PV sig) (u : Option (PV sig)) : St sig := stateOf (afterC a b u)

theorem caught_ok (a b : PV sig) (u : Option (PV sig)) (m' : Mem sig) (hk : afterC a b u = some (.normal, endC a b u)) (hds : (endC a b u).dfs = [])
    (hm' : (endC a b u).mem.take 2 = m') (hcut : maxL (ptrsMem m') ≤ 2) (hup : ∀ k l, recovered u ≠ .own k l)
    {g : Gh} {vs : List Value} {w : World} {md : FrameMode} (hm : MemInv lay g [some [a], some [b]] w) (ha : PRels lay g.β g.G [.ptr 0 0, .ptr 1 0] vs) (hu : ModeRel lay g u md) :
    (callFunc 29 vs.toArray).run Tryz.prog w = .ok (.enter 29 vs.toArray) w ∧
    CallsD Tryz.prog 29 vs.toArray md w fun e md' w' => ∃ v, e = .returned v ∧ ∃ g', Fr g w g' w' ∧ MemInv lay g' m' w' ∧ ModeRel lay g' none (settle md') := by
  have := deferred_ok (L := lay) (call := call0) (LT := loop0) (H := hints) (f := 29) (fn := fnOf Tryz.prog 29) (c := textOf Tryz.prog 29) (d := 7) (args := [.ptr 0 0, .ptr 1 0]) (m := [some [a], some [b]]) (u := u) (e := .normal) (st' := endC a b u)
    fit1 (fun f args m r h => by cases h) (by kernel_rfl) (by kernel_rfl) (by kernel_rfl) (by kernel_rfl) (of_decide_eq_true (by kernel_rfl))
    (fun key st r c _ h => by cases h) (of_decide_eq_true (by kernel_rfl)) hk (.inl rfl) hds (by show maxL (ptrsMem ((endC a b u).mem.take 2)) ≤ 2; rw [hm']; exact hcut) hm ha
    (fun p hp k l => by
      simp only [List.mem_cons, List.not_mem_nil, or_false] at hp
      rcases hp with rfl | rfl <;> simp) hu hup
  rwa [show ([some [a], some [b]] : Mem sig).length = 2 from rfl, hm'] at this

theorem caught_none (a b : PV sig) : afterC a b none = some (.normal, endC a b none) := by kernel_rfl
theorem caught_some (a b : PV sig) (x y : Int) : afterC a b (some (.iface 114 (.agg [.d (.int .i64 x), .d (.int .i64 y)]))) = some (.normal, endC a b (some (.iface 114 (.agg [.d (.int .i64 x), .d (.int .i64 y)])))) := by kernel_rfl

noncomputable def c50 : Code := textOf Tryz.prog 50
def sqA : Code → Code | .seq a _ => a | c => c
def sqB : Code → Code | .seq _ b => b | c => c
def cnA : Code → Code | .cond _ a _ => a | c => c
noncomputable def R50 : Code := sqA c50
noncomputable def S50 : Code := cnA (sqB c50)
theorem sh50 : c50 = .seq R50 (.cond (.tmp 3) S50 .skip) := by kernel_rfl
noncomputable def st50 (e : Int) (p : PV sig) : St sig := startE (fnOf Tryz.prog 50) [.ptr 0 0, .ptr 1 0] [some [.d (.int .i64 e)], some [p]]
noncomputable def stR (e : Int) (p : PV sig) : St sig := stateOf (evK Tryz.prog lay call0 loop0 hints 50 2 R50 (st50 e p) fun e s => some (e, s))
noncomputable def stS (e : Int) (p : PV sig) : St sig := stateOf (evK Tryz.prog lay call0 loop0 hints 50 2 S50 (stR e p) fun e s => some (e, s))
theorem ev50 (e : Int) (p : PV sig) : evK Tryz.prog lay call0 loop0 hints 50 2 R50 (st50 e p) (fun e s => some (e, s)) = some (.normal, stR e p) := by kernel_rfl
theorem ev50' (e : Int) (p : PV sig) : evK Tryz.prog lay call0 loop0 hints 50 2 S50 (stR e p) (fun e s => some (e, s)) = some (.normal, stS e p) := by kernel_rfl
theorem stR3 (e : Int) (p : PV sig) : (stR e p).slots 3 = .d (.bool (e != 0)) := by kernel_rfl
theorem stRm (e : Int) (p : PV sig) : modesM [[], [.norm]] (stR e p).mem = [some [.d (.int .i64 e)], some [p.norm]] := by kernel_rfl
theorem stSm (e : Int) (p : PV sig) : modesM [[], [.norm]] (stS e p).mem = [some [.d (.int .i64 e)], some [.d (.sl Key.item [])]] := by kernel_rfl

/-- An error, no items. -/
theorem shut_ok (e : Int) (p : PV sig) (l : List It) (hp : p.norm = .d (.sl Key.item l)) {g : Gh} {vs : List Value} {w : World} {md : FrameMode}
    (hm : MemInv lay g [some [.d (.int .i64 e)], some [p]] w) (ha : PRels lay g.β g.G [.ptr 0 0, .ptr 1 0] vs) (hu : ModeRel lay g none md) :
    (callFunc 50 vs.toArray).run Tryz.prog w = .ok (.enter 50 vs.toArray) w ∧
    CallsD Tryz.prog 50 vs.toArray md w fun e' md' w' => ∃ v, e' = .returned v ∧ ∃ g', Fr g w g' w' ∧ MemInv lay g' [some [.d (.int .i64 e)], some [.d (.sl Key.item (cond (e == 0) l []))]] w' ∧ ModeRel lay g' none (settle md') := by
  have hf : Tryz.prog.funcs[50]? = some (fnOf Tryz.prog 50) := by kernel_rfl
  have hb : (fnOf Tryz.prog 50).body = some c50 := by kernel_rfl
  have hmd : md = .returning := hu
  refine ⟨run_enter fit1 hf hb _ _, ?_⟩
  refine (callsD_of_wp (R := fun e' w' => ∃ v, e' = .returned v ∧ ∃ g', Fr g w g' w' ∧ MemInv lay g' [some [.d (.int .i64 e)], some [.d (.sl Key.item (cond (e == 0) l []))]] w') hf hb ?_).mono fun e' md' w' h => ?_
  · have hI0 : Inv lay g (st50 e p) { tmps := vs.toArray ++ Array.replicate ((fnOf Tryz.prog 50).ntmps - vs.toArray.size) undef, defers := [] } w :=
      startE_inv hm ha.length (by show 2 ≤ (fnOf Tryz.prog 50).ntmps; rw [show (fnOf Tryz.prog 50).ntmps = 4 from by kernel_rfl]; omega) fun i q hq => by
        obtain ⟨v, hv, hrel⟩ := ha.get hq
        refine ⟨v, hv, hrel, ?_⟩
        match i, hq with
        | 0, hq => cases hq; trivial
        | 1, hq => cases hq; trivial
    rw [sh50]
    refine wp_seq (wp_mono (evK_sound fit1.mixed (fun f args m r h => by cases h) (fun key st r c _ h => by cases h) (by rw [show loopsOf R50 = [] from by kernel_rfl]; intro _ h; cases h) hI0 (ev50 e p)) fun x a1 w1 hx => ?_)
    obtain ⟨g1, hF1, rfl, hI1⟩ := hx
    have hs := (hI1.slot 3).1
    rw [stR3] at hs
    have h3 : a1.eval (.tmp 3) = .bool (e != 0) := by
      simp only [PRel] at hs
      cases hsh : a1.tmps.getD 3 undef <;> rw [hsh] at hs <;> cases hs
      exact hsh
    have nodef : ∀ {st : St sig} {g2 : Gh} {a2 : Act} {w2 : World}, st.dfs = [] → Inv lay g2 st a2 w2 → a2.defers = [] := by
      intro st g2 a2 w2 h0 hI
      have := hI.dfs
      rw [h0] at this
      generalize a2.defers = ds at this
      cases this; rfl
    have hres : ∀ (tm : Array Value) (w2 : World), (results (fnOf Tryz.prog 50) tm).run Tryz.prog w2 = .ok (.tuple #[]) w2 := by
      intro tm w2
      have : (fnOf Tryz.prog 50).results = #[] := by kernel_rfl
      simp [results, this]
    show (Code.cond (.tmp 3) S50 .skip).wp Tryz.prog _ a1 w1
    by_cases he : e = 0
    · refine wp_cond_false (by rw [h3, he]; rfl) (wp_skip ?_)
      refine ⟨nodef (by kernel_rfl) hI1, _, hres _ _, _, rfl, g1, FrN.toFr (m := [some [.d (.int .i64 e)], some [p]]) hF1 hm, ?_⟩
      have := hI1.mem.modes [[], [.norm]]
      rw [stRm, hp] at this
      rw [he] at this ⊢
      exact this
    · refine wp_cond_true (by rw [h3]; simp [he]) ?_
      refine wp_mono (evK_sound fit1.mixed (fun f args m r h => by cases h) (fun key st r c _ h => by cases h) (by rw [show loopsOf S50 = [] from by kernel_rfl]; intro _ h; cases h) hI1 (ev50' e p)) fun x a2 w2 hx => ?_
      obtain ⟨g2, hF2, rfl, hI2⟩ := hx
      refine ⟨nodef (by kernel_rfl) hI2, _, hres _ _, _, rfl, g2, FrN.toFr (m := [some [.d (.int .i64 e)], some [p]]) (hF1.trans hF2) hm, ?_⟩
      have := hI2.mem.modes [[], [.norm]]
      rw [stSm] at this
      rw [show (e == 0) = false from by simp [he]]
      exact this
  · obtain ⟨rfl, v, rfl, g', h1, h2⟩ := h
    refine ⟨v, rfl, g', h1, h2, ?_⟩
    rw [hmd]; rfl

theorem dok : DOk Tryz.prog lay dfT := by
  intro f args m u u' m' h g vs w md hm ha hu
  unfold dfT at h
  cases hf : Nat.beq f 29 with
  | false =>
    rw [hf] at h
    simp only [cond_false] at h
    cases hf2 : Nat.beq f 50 with
    | false => rw [hf2] at h; cases h
    | true =>
      have := Nat.eq_of_beq_eq_true hf2
      subst this
      rw [hf2] at h
      simp only [cond_true] at h
      unfold shutD at h
      split at h
      · rename_i e p
        split at h
        · rename_i l hl
          cases h
          exact shut_ok e p l hl hm ha hu
        · cases h
      · cases h
  | true =>
    have := Nat.eq_of_beq_eq_true hf
    subst this
    rw [hf] at h
    simp only [cond_true] at h
    unfold caughtD at h
    split at h
    · rename_i a b
      split at h
      · cases h
        exact caught_ok a b none _ (caught_none a b) (by kernel_rfl) (by kernel_rfl) hm.closed (by simp [recovered]) hm ha hu
      · rename_i x y
        cases h
        exact caught_ok a b _ _ (caught_some a b x y) (by kernel_rfl) (by kernel_rfl) (of_decide_eq_true (by kernel_rfl)) (by simp [recovered]) hm ha hu
      · cases h
    · cases h

end Go.Proofs.YtanfoijdfcnpoaaGreatDoor.Ev
