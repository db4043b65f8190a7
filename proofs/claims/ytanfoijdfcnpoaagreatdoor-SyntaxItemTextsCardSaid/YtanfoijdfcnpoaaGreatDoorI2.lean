/- This file proves what the function over which Items ranges does with the rounds of the range; without any condition. -/
import Derived.Test.YtanfoijdfcnpoaaGreatDoorI1
import Derived.LoopNIn
set_option linter.unusedVariables false
set_option linter.unusedSimpArgs false
set_option maxRecDepth 8000
set_option maxHeartbeats 400000
namespace Go.Proofs.YtanfoijdfcnpoaaGreatDoor.Ev
open Go.RowKit

def fakeC (q : Res sig × Mem sig) : CallT sig := fun _ _ _ _ K => K q

def st87 (lb : Nat) (r : List It) (a b : Int) (l : List Tok) (n : Int) : St sig := { slots := slotsOf [(0, .fn (.yield lb) [] []), (1, .ptr 4 0)], mem := m5 (.own Key.item r) a b l n, dfs := [], nt := 13, rb := 5 }
abbrev tk87 : Nat → Bool := hints.take 87 0
abbrev fl87 : Nat → Bool := hints.full 87 0
noncomputable def ops5 (C : CallT sig) {ρ : Type} (ls : List Nat) (st : St sig) (K : Ex sig → St sig → Option ρ) : Option ρ := opsK Tryz.prog lay C tk87 fl87 (rgO RL) ls st K
noncomputable def st5 (lb : Nat) (r : List It) (a b : Int) (l : List Tok) (n : Int) (t : Tok) (l1 : List Tok) (n1 : Int) : St sig := stateOf (ops5 (fakeC (encNow (t, l1, n1))) [0, 1, 2, 3, 4] (st87 lb r a b l n) fun e s => some (e, s))
theorem ev04 (C : Tab) {ρ : Type} (K : Ex sig → St sig → Option ρ) (lb : Nat) (r : List It) (a b : Int) (l : List Tok) (n : Int) :
    ops5 (T C) [0, 1, 2, 3, 4] (st87 lb r a b l n) K = C.c31_0 ρ l n fun t l1 n1 => K .normal (st5 lb r a b l n t l1 n1) := by kernel_rfl
theorem st5_7 (lb : Nat) (r : List It) (a b : Int) (l : List Tok) (n : Int) (t : Tok) (l1 : List Tok) (n1 : Int) : (st5 lb r a b l n t l1 n1).slots 7 = .d (.bool (t.kind != 7)) := by kernel_rfl
theorem st5_m (lb : Nat) (r : List It) (a b : Int) (l : List Tok) (n : Int) (t : Tok) (l1 : List Tok) (n1 : Int) : (st5 lb r a b l n t l1 n1).mem = m5 (.own Key.item r) a b l1 n1 := by kernel_rfl

/-- The same state, the guard known. -/
noncomputable def st5b (lb : Nat) (r : List It) (a b : Int) (l : List Tok) (n : Int) (t : Tok) (l1 : List Tok) (n1 : Int) (v : Bool) : St sig := { st5 lb r a b l n t l1 n1 with slots := upd (st5 lb r a b l n t l1 n1).slots 7 (.d (.bool v)) }
theorem st5b_eq {lb : Nat} {r : List It} {a b : Int} {l : List Tok} {n : Int} {t : Tok} {l1 : List Tok} {n1 : Int} {v : Bool} (h : (t.kind != 7) = v) : st5b lb r a b l n t l1 n1 v = st5 lb r a b l n t l1 n1 := by
  unfold st5b
  rw [← h, ← st5_7 lb r a b l n t l1 n1]
  rw [show upd (st5 lb r a b l n t l1 n1).slots 7 ((st5 lb r a b l n t l1 n1).slots 7) = (st5 lb r a b l n t l1 n1).slots from by
    funext i
    by_cases e : i = 7
    · subst e; rw [upd_same]
    · rw [upd_other _ _ e]]

noncomputable def st9e (lb : Nat) (r : List It) (a b : Int) (l : List Tok) (n : Int) (t : Tok) (l1 : List Tok) (n1 : Int) : St sig := stateOf (ops5 call0 [5, 6, 7, 8, 9] (st5b lb r a b l n t l1 n1 false) fun e s => some (e, s))
theorem ev59 (C : Tab) {ρ : Type} (K : Ex sig → St sig → Option ρ) (lb : Nat) (r : List It) (a b : Int) (l : List Tok) (n : Int) (t : Tok) (l1 : List Tok) (n1 : Int) :
    ops5 (T C) [5, 6, 7, 8, 9] (st5b lb r a b l n t l1 n1 false) K = K .normal (st9e lb r a b l n t l1 n1) := by kernel_rfl
theorem st9e_12 (lb : Nat) (r : List It) (a b : Int) (l : List Tok) (n : Int) (t : Tok) (l1 : List Tok) (n1 : Int) : (st9e lb r a b l n t l1 n1).slots 12 = .d (.bool false) := by kernel_rfl
theorem st9e_m (lb : Nat) (r : List It) (a b : Int) (l : List Tok) (n : Int) (t : Tok) (l1 : List Tok) (n1 : Int) : (st9e lb r a b l n t l1 n1).mem = m5 (.own Key.item r) a b l1 n1 := by kernel_rfl
theorem st9e_d (lb : Nat) (r : List It) (a b : Int) (l : List Tok) (n : Int) (t : Tok) (l1 : List Tok) (n1 : Int) : (st9e lb r a b l n t l1 n1).dfs = [] := by kernel_rfl

noncomputable def st8 (lb : Nat) (r : List It) (a b : Int) (l : List Tok) (n : Int) (t : Tok) (l1 : List Tok) (n1 : Int) (q : (It × List Tok × Int) ⊕ (Int × Int × List Tok × Int)) : St sig := stateOf (ops5 (fakeC (encItem q)) [5, 6, 7] (st5b lb r a b l n t l1 n1 true) fun e s => some (e, s))
theorem ev57 (C : Tab) {ρ : Type} (K : Ex sig → St sig → Option ρ) (lb : Nat) (r : List It) (a b : Int) (l : List Tok) (n : Int) (t : Tok) (l1 : List Tok) (n1 : Int) :
    ops5 (T C) [5, 6, 7] (st5b lb r a b l n t l1 n1 true) K = C.c88_0 ρ l1 n1 (fun x l2 n2 => K .normal (st8 lb r a b l n t l1 n1 (.inl (x, l2, n2)))) (fun p e l2 n2 => K (.pan (failP p e)) (st8 lb r a b l n t l1 n1 (.inr (p, e, l2, n2)))) := by kernel_rfl
section
variable (lb : Nat) (r : List It) (a b : Int) (l : List Tok) (n : Int) (t : Tok) (l1 : List Tok) (n1 : Int) (x : It) (p e : Int) (l2 : List Tok) (n2 : Int)
theorem st8_0 : (st8 lb r a b l n t l1 n1 (.inl (x, l2, n2))).slots 0 = .fn (.yield lb) [] [] := by kernel_rfl
theorem st8_1 : (st8 lb r a b l n t l1 n1 (.inl (x, l2, n2))).slots 1 = .ptr 4 0 := by kernel_rfl
theorem st8_7 : (st8 lb r a b l n t l1 n1 (.inl (x, l2, n2))).slots 7 = .d (.bool true) := by kernel_rfl
theorem st8_8 : (st8 lb r a b l n t l1 n1 (.inl (x, l2, n2))).slots 8 = .fn (.yield lb) [] [] := by kernel_rfl
theorem st8_10 : (st8 lb r a b l n t l1 n1 (.inl (x, l2, n2))).slots 10 = itP x := by kernel_rfl
theorem st8_m : (st8 lb r a b l n t l1 n1 (.inl (x, l2, n2))).mem = m5 (.own Key.item r) a b l2 n2 := by kernel_rfl
theorem st8_d : (st8 lb r a b l n t l1 n1 (.inl (x, l2, n2))).dfs = [] := by kernel_rfl
theorem st8_n : (st8 lb r a b l n t l1 n1 (.inl (x, l2, n2))).nt = 13 := by kernel_rfl
theorem st8_m' : (st8 lb r a b l n t l1 n1 (.inr (p, e, l2, n2))).mem = m5 (.own Key.item r) a b l2 n2 := by kernel_rfl
theorem st8_d' : (st8 lb r a b l n t l1 n1 (.inr (p, e, l2, n2))).dfs = [] := by kernel_rfl
end

theorem st5b_m (lb : Nat) (r : List It) (a b : Int) (l : List Tok) (n : Int) (t : Tok) (l1 : List Tok) (n1 : Int) (v : Bool) : (st5b lb r a b l n t l1 n1 v).mem = m5 (.own Key.item r) a b l1 n1 := by kernel_rfl

attribute [local irreducible] st5 st5b st8 st9e

theorem nodefs {st : St sig} {g : Gh} {a : Act} (h0 : st.dfs = []) (hd : DfRels lay g.β g.G st.dfs a.defers) : a.defers = [] := by
  rw [h0] at hd
  generalize a.defers = ds at hd
  cases hd; rfl

/-- What the rounds come to: the items, or a panic behind some of them. -/
def Out87 (out : List It ⊕ (List It × Int × Int)) (a b : Int) (g0 : Gh) (w0 : World) (x : Exit) (a' : Act) (w' : World) : Prop :=
  a'.defers = [] ∧ ∃ g' l' n', FrN 5 g0 w0 g' w' ∧ match out with
    | .inl r => x = .exit 0 ∧ MemInv lay g' (m5 (.own Key.item r) a b l' n') w'
    | .inr (r, p, e) => ∃ v, x = .panic [{ v, recovered := false }] ∧ PRel lay g'.β g'.G (failP p e) v ∧ MemInv lay g' (m5 (.own Key.item r) a b l' n') w'

noncomputable def B87 : Code := .seq (.seq RL (.cond (.tmp 12) .skip (.exit 0))) (.block 1 .skip)

/-- The frame of the function that is ranged over. -/
structure Fr87 (lb : Nat) (g : Gh) (a : Act) : Prop where
  size : a.tmps.size = 13
  dfs : a.defers = []
  fn : a.tmps.getD 0 undef = .func (.yield lb) #[] #[]
  ptr : PRel lay g.β g.G (.ptr 4 0) (a.tmps.getD 1 undef)

/-- The loop's record. -/
structure Rec21 (rc : Loop) : Prop where
  state : rc.state = .ready
  pending : rc.pending = none
  size : rc.tmps.size = 45
  params : rc.params = #[26]
  assign : rc.assign = RA
  body : rc.body = RB

theorem run_pickT {P : Program} {o : Oper} {x y z : Operand} (ho : o.op = .pick x y z) {a : Act} {w : World} {v : Value} (hx : a.eval x = .bool true) (hy : a.eval y = v) : (execOp a.eval o).run P w = .ok (.value v) w := by
  simp [execOp, ho, hx, hy, asBool]

theorem srel_rel {g : Gh} {pos : Pos} {p : PV sig} {v : Value} (h : SRel lay g pos p v) : PRel lay g.β g.G p v := h.1

theorem ptr_mono {np c o : Nat} {g g' : Gh} {w w' : World} {v : Value} (hc : c < np) (hF : FrN np g w g' w') (h : PRel lay g.β g.G (.ptr c o) v) : PRel lay g'.β g'.G (.ptr c o) v := by
  simp only [PRel] at h ⊢
  obtain ⟨b, h1, h2⟩ := h
  exact ⟨b, hF.βmono c b hc h1, h2⟩

noncomputable def op8 : Oper := ((rgO RL)[8]?).getD default
noncomputable def op9 : Oper := ((rgO RL)[9]?).getD default
theorem at8 : (rgO RL)[8]? = some op8 := by kernel_rfl
theorem at9 : (rgO RL)[9]? = some op9 := by kernel_rfl
def callO : Op → Option Call | .call c => some c | _ => none
theorem callO_eq {o : Op} {c : Call} (h : callO o = some c) : o = .call c := by
  cases o <;> simp [callO] at h
  rw [h]
theorem call8 : ∃ c, callO op8.op = some c ∧ c.callee = .value (.tmp 8) ∧ c.args = #[.tmp 10] := by
  obtain ⟨c, hc⟩ := Option.isSome_iff_exists.1 (show (callO op8.op).isSome = true by kernel_rfl)
  have h1 : (callO op8.op).map (fun c => c.callee) = some (.value (.tmp 8)) := by kernel_rfl
  have h2 : (callO op8.op).map (fun c => c.args) = some #[.tmp 10] := by kernel_rfl
  rw [hc] at h1 h2
  exact ⟨c, hc, Option.some.inj h1, Option.some.inj h2⟩

theorem run_yieldOp {P : Program} {o : Oper} {c : Call} (ho : o.op = .call c) (hc : c.callee = .value (.tmp 8)) (ha : c.args = #[.tmp 10]) {a : Act} {w : World} {lb : Nat} (h8 : a.eval (.tmp 8) = .func (.yield lb) #[] #[]) {x : Next}
    (hy : (Instr.yield lb #[a.eval (.tmp 10)]).run P w = .ok x w) : (execOp a.eval o).run P w = .ok x w := by
  have hres : (resolve a.eval c o.type).run P w = .ok { target := .fn (.yield lb) #[], args := #[a.eval (.tmp 10)] } w := by
    simp only [resolve, hc, ha, h8]
    simp [go_sem, h8]
  have hinv : (invoke (.fn (.yield lb) #[]) #[a.eval (.tmp 10)]).run P w = .ok x w := by
    simp only [invoke]
    simpa [go_sem] using hy
  simp only [execOp, ho, Sem.run_bind, hres, Result.andThen_ok, hinv]

theorem slot_bool {st : St sig} {g : Gh} {a : Act} {w : World} {i : Nat} {v : Bool} (h : Inv lay g st a w) (hs : st.slots i = .d (.bool v)) : a.tmps.getD i undef = .bool v := by
  have h1 := (h.slot i).1
  rw [hs] at h1
  simp only [PRel] at h1
  cases hsh : a.tmps.getD i undef <;> rw [hsh] at h1 <;> cases h1
  rfl

theorem slot_rel {st : St sig} {g : Gh} {a : Act} {w : World} {i : Nat} {p : PV sig} (h : Inv lay g st a w) (hs : st.slots i = p) : PRel lay g.β g.G p (a.tmps.getD i undef) := by
  have h1 := (h.slot i).1
  rwa [hs] at h1

theorem slot_yield {st : St sig} {g : Gh} {a : Act} {w : World} {i lb : Nat} (h : Inv lay g st a w) (hs : st.slots i = .fn (.yield lb) [] []) : a.tmps.getD i undef = .func (.yield lb) #[] #[] := by
  have hv := slot_rel h hs
  generalize a.tmps.getD i undef = v at hv
  simp only [PRel] at hv
  obtain ⟨va, vb, rfl, h1, h2⟩ := hv
  cases va with
  | cons _ _ => simp only [PRels] at h1
  | nil =>
    cases vb with
    | cons _ _ => simp only [PRels] at h2
    | nil => rfl

theorem mem_at {st : St sig} {g : Gh} {a : Act} {w : World} {m : Mem sig} (h : Inv lay g st a w) (hs : st.mem = m) : MemInv lay g m w := hs ▸ h.mem
theorem dfs_at {st : St sig} {g : Gh} {a : Act} {w : World} (h : Inv lay g st a w) (hs : st.dfs = []) : a.defers = [] := nodefs hs h.dfs

section
variable {lb : Nat} {r : List It} {a b : Int} {l : List Tok} {n : Int} {t : Tok} {l1 : List Tok} {n1 : Int} {x : It} {l2 : List Tok} {n2 : Int} {g : Gh} {a3 : Act} {w : World}
theorem end_facts (h : Inv lay g (st9e lb r a b l n t l1 n1) a3 w) : a3.eval (.tmp 12) = .bool false ∧ a3.defers = [] ∧ MemInv lay g (m5 (.own Key.item r) a b l1 n1) w :=
  ⟨slot_bool h (st9e_12 ..), dfs_at h (st9e_d ..), mem_at h (st9e_m ..)⟩

structure ItemSt (lb : Nat) (r : List It) (a b : Int) (x : It) (l2 : List Tok) (n2 : Int) (g : Gh) (a3 : Act) (w : World) : Prop where
  size : a3.tmps.size = 13
  dfs : a3.defers = []
  s0 : a3.tmps.getD 0 undef = .func (.yield lb) #[] #[]
  s1 : PRel lay g.β g.G (.ptr 4 0) (a3.tmps.getD 1 undef)
  s7 : a3.tmps.getD 7 undef = .bool true
  s8 : a3.tmps.getD 8 undef = .func (.yield lb) #[] #[]
  s10 : PRel lay g.β g.G (itP x) (a3.tmps.getD 10 undef)
  mem : MemInv lay g (m5 (.own Key.item r) a b l2 n2) w
  yld : yielded (rgO RL) a3.tmps 4 = some true

theorem item_facts (h : Inv lay g (st8 lb r a b l n t l1 n1 (.inl (x, l2, n2))) a3 w) : ItemSt lb r a b x l2 n2 g a3 w where
  size := h.size.trans (st8_n ..)
  dfs := dfs_at h (st8_d ..)
  s0 := slot_yield h (st8_0 ..)
  s1 := slot_rel h (st8_1 ..)
  s7 := slot_bool h (st8_7 ..)
  s8 := slot_yield h (st8_8 ..)
  s10 := slot_rel h (st8_10 ..)
  mem := mem_at h (st8_m ..)
  yld := yielded_bool h (ops := rgO RL) (j := 4) (t := 7) (by kernel_rfl) (b := true) (st8_7 ..)
end

/-- The round: what follows when an item has been read. -/
theorem round_step {n' : Nat} {lb : Nat} {r : List It} {a b : Int} {x : It} {l2 : List Tok} {n2 : Int} {g3 : Gh} {a3 : Act} {w3 : World} (hi : ItemSt lb r a b x l2 n2 g3 a3 w3) (hlen : (r.length + 1) * 104 ≤ 140737488355328) {rc : Loop} (hrc : Rec21 rc) (hfix : lay.fixB lb = false)
    (hL3 : w3.heap[lb]? = some (.loop rc)) (h2 : PRel lay g3.β g3.G (.ptr 0 0) (rc.tmps.getD 2 undef)) {Q : Exit → Act → World → Prop}
    (hQ : ∀ g4 a5 w4, FrN 5 g3 w3 g4 w4 → MemInv lay g4 (m5 (.own Key.item (r ++ [x])) a b l2 n2) w4 → Fr87 lb g4 a5 → a5.eval (.tmp 12) = .bool true → Q .normal a5 w4) :
    wpOpsIn (FR none) n' Tryz.prog (rgO RL) Q [8, 9] a3 w3 := by
  have hw8 : Region.wanted op8 (yielded (rgO RL) a3.tmps) = true := by
    simp [Region.wanted, show op8.guard = some (4, true) from by kernel_rfl, hi.yld]
  simp only [wpOpsIn, at8]
  rw [if_pos hw8]
  refine ⟨fun _ _ => trivial, ?_⟩
  have hy := run_yield (P := Tryz.prog) (args := #[a3.eval (.tmp 10)]) hL3 (by rw [hrc.params]; rfl)
  rw [hrc.assign, hrc.body, hrc.params, show ((#[26] : Array Tmp).zip #[a3.eval (.tmp 10)]).foldl (fun tmps (t, a) => tmps.setIfInBounds t a) rc.tmps = rc.tmps.setIfInBounds 26 (a3.eval (.tmp 10)) from by simp] at hy
  have hrun : (op8.semAt (FR none).round a3.eval).run Tryz.prog w3 = .ok (.round lb rc.fn (rc.tmps.setIfInBounds 26 (a3.eval (.tmp 10))) RA RB) w3 := by
    rw [show (FR none).round = none from rfl, Oper.semAt_none]
    obtain ⟨c8, k1, k2, k3⟩ := call8
    exact run_yieldOp (callO_eq k1) k2 k3 hi.s8 hy
  rw [hrun, Oper.uponIn_round]
  refine ⟨fun e => by simp [Fence.wide] at e, ?_⟩
  refine (round_ok (n' := n' - 1) hlen hi.mem hrc.size h2 hi.s10 hL3 hrc.state hrc.pending hfix).mono fun e4 w4 ⟨he4, g4, hF4, hM4⟩ => ?_
  subst he4
  show wpOpsIn (FR none) n' Tryz.prog (rgO RL) Q [9] (a3.put op8.dst (.bool true)) w4
  rw [show op8.dst = some 11 from by kernel_rfl]
  generalize hq1 : a3.put (some 11) (.bool true) = a4
  have z4 : a4.tmps.size = 13 := by rw [← hq1, size_put]; exact hi.size
  have v4 : ∀ i, a4.tmps.getD i undef = if i = 11 then .bool true else a3.tmps.getD i undef := fun i => by rw [← hq1]; exact getD_put (by rw [hi.size]; omega) i
  simp only [wpOpsIn, at9]
  rw [if_pos (show Region.wanted op9 (yielded (rgO RL) a4.tmps) = true by simp [Region.wanted, show op9.guard = none from by kernel_rfl])]
  refine ⟨fun _ _ => trivial, ?_⟩
  have hrun9 : (op9.semAt (FR none).round a4.eval).run Tryz.prog w4 = .ok (.value (.bool true)) w4 := by
    rw [show (FR none).round = none from rfl, Oper.semAt_none]
    have h7 : a4.eval (.tmp 7) = .bool true := (v4 7).trans hi.s7
    have h11 : a4.eval (.tmp 11) = .bool true := v4 11
    exact run_pickT (show op9.op = .pick (.tmp 7) (.tmp 11) (.const (.bool false)) by kernel_rfl) h7 h11
  rw [hrun9, Oper.uponIn_value]
  show Q .normal (a4.put op9.dst (.bool true)) w4
  rw [show op9.dst = some 12 from by kernel_rfl]
  generalize hq2 : a4.put (some 12) (.bool true) = a5
  have v5 : ∀ i, a5.tmps.getD i undef = if i = 12 then .bool true else a4.tmps.getD i undef := fun i => by rw [← hq2]; exact getD_put (by rw [z4]; omega) i
  refine hQ g4 a5 w4 hF4 hM4 ⟨by rw [← hq2, size_put]; exact z4, ?_, ?_, ?_⟩ (v5 12)
  · rw [← hq2, defers_put, ← hq1, defers_put]; exact hi.dfs
  · rw [v5, if_neg (by decide), v4, if_neg (by decide)]; exact hi.s0
  · rw [v5, if_neg (by decide), v4, if_neg (by decide)]; exact ptr_mono (c := 4) (by omega) hF4 hi.s1

theorem all_rounds {k : Nat} (hS : Snd Tryz.prog lay (T (Tabs k)) (LT (Tabs k))) {lb : Nat} {rc : Loop} (hrc : Rec21 rc) (hfix : lay.fixB lb = false) {a b : Int} :
    ∀ (f : Nat) (l : List Tok) (n : Int) (r : List It) (out : List It ⊕ (List It × Int × Int)), rngI (Tabs k) _ f l n r (fun r => some (.inl r)) (fun r p e => some (.inr (r, p, e))) = some out →
      ∀ (g0 : Gh) (w0 : World) (g : Gh) (a1 : Act) (w : World), FrN 5 g0 w0 g w → MemInv lay g (m5 (.own Key.item r) a b l n) w → Fr87 lb g a1 → w.heap[lb]? = some (.loop rc) → PRel lay g.β g.G (.ptr 0 0) (rc.tmps.getD 2 undef) →
        Code.roundsIn Fence.wide 0 Tryz.prog B87 (Out87 out a b g0 w0) f a1 w
  | 0, l, n, r, out, h => by cases h
  | f + 1, l, n, r, out, h => by
    intro g0 w0 g a1 w hF hM hfr hL h2
    rw [rngI] at h
    obtain ⟨t, l1, n1, hnow, h⟩ := now_inv hS h
    haveI := hS.nat
    have nl : ∀ rc : Loop, NoCells (.loop rc) := fun rc cs ty fr e => by cases e
    have hI : Inv lay g (st87 lb r a b l n) a1 w := by
      refine ⟨hfr.size, fun i => ?_, hM, by rw [hfr.dfs]; exact .nil⟩
      show SRel lay g (.slot i) (slotsOf [(0, .fn (.yield lb) [] []), (1, .ptr 4 0)] i) (a1.tmps.getD i undef)
      by_cases e0 : i = 0
      · subst e0
        refine ⟨?_, trivial⟩
        show PRel lay g.β g.G (.fn (.yield lb) [] []) _
        simp only [PRel]
        exact ⟨[], [], hfr.fn, by simp only [PRels], by simp only [PRels]⟩
      by_cases e1 : i = 1
      · subst e1
        exact ⟨hfr.ptr, trivial⟩
      simp only [slotsOf]
      rw [upd_other _ _ e0, upd_other _ _ e1]
      exact ⟨by simp only [PRel], trivial⟩
    rw [roundsIn_succ]
    unfold B87
    refine wpIn_seq (wpIn_seq ?_)
    rw [shRL]
    refine wpIn_region ?_
    rw [szRL]
    show wpOpsIn (FR none) 0 Tryz.prog (rgO RL) _ ([0, 1, 2, 3, 4] ++ [5, 6, 7, 8, 9]) a1 w
    have h04 : opsK Tryz.prog lay (T (Tabs k)) tk87 fl87 (rgO RL) [0, 1, 2, 3, 4] (st87 lb r a b l n) (fun e s => some (e, s)) = some (.normal, st5 lb r a b l n t l1 n1) := (ev04 (Tabs k) (fun e s => some (e, s)) lb r a b l n).trans (hnow _ _)
    refine opsIn_then (.inl rfl) (fun _ _ => ExOk.noOut) ?_ (fun ch a w hx => by obtain ⟨g', _, hx, _⟩ := hx; cases hx) _ _ _ (opsK_sound (np := 5) hS.call hI h04)
    rintro a2 w2 ⟨g2, hF2, _, hI2⟩
    cases hk : t.kind == 7 with
    | true =>
      -- the end
      rw [hk, cond_true] at h
      cases h
      have hv : (t.kind != 7) = false := by simp [bne, hk]
      rw [← st5b_eq hv] at hI2
      have h59 : opsK Tryz.prog lay (T (Tabs k)) tk87 fl87 (rgO RL) [5, 6, 7, 8, 9] (st5b lb r a b l n t l1 n1 false) (fun e s => some (e, s)) = some (.normal, st9e lb r a b l n t l1 n1) := ev59 (Tabs k) (fun e s => some (e, s)) lb r a b l n t l1 n1
      refine opsIn_all (.inl rfl) (fun _ _ => ExOk.noOut) ?_ (fun ch a w hx => by obtain ⟨g', _, hx, _⟩ := hx; cases hx) _ _ _ (opsK_sound (np := 5) hS.call hI2 h59)
      rintro a3 w3 ⟨g3, hF3, _, hI3⟩
      obtain ⟨h12, hd3, hM3⟩ := end_facts hI3
      show (Code.cond (.tmp 12) .skip (.exit 0)).wpIn Fence.wide 0 Tryz.prog _ a3 w3
      exact wpIn_cond_false h12 (wpIn_exit ⟨hd3, g3, l1, n1, (hF.trans hF2).trans hF3, rfl, hM3⟩)
    | false =>
      rw [hk, cond_false] at h
      have hv : (t.kind != 7) = true := by simp [bne, hk]
      rw [← st5b_eq hv] at hI2
      rcases item_inv hS h with ⟨x, l2, n2, hitem, h⟩ | ⟨p, e, l2, n2, hitem, h⟩
      · -- an item
        have hlen : (r.length + 1) * 104 ≤ 140737488355328 := by
          refine Decidable.byContradiction fun hlen => ?_
          rw [decide_eq_false hlen] at h; cases h
        rw [decide_eq_true hlen, cond_true] at h
        have h57 : opsK Tryz.prog lay (T (Tabs k)) tk87 fl87 (rgO RL) [5, 6, 7] (st5b lb r a b l n t l1 n1 true) (fun e s => some (e, s)) = some (.normal, st8 lb r a b l n t l1 n1 (.inl (x, l2, n2))) := (ev57 (Tabs k) (fun e s => some (e, s)) lb r a b l n t l1 n1).trans (hitem _ _ _)
        show wpOpsIn (FR none) 0 Tryz.prog (rgO RL) _ ([5, 6, 7] ++ [8, 9]) a2 w2
        refine opsIn_then (.inl rfl) (fun _ _ => ExOk.noOut) ?_ (fun ch a w hx => by obtain ⟨g', _, hx, _⟩ := hx; cases hx) _ _ _ (opsK_sound (np := 5) hS.call hI2 h57)
        rintro a3 w3 ⟨g3, hF3, _, hI3⟩
        have hL2 := hF2.noCell hM hL (nl _)
        have hL3 := hF3.noCell (mem_at hI2 (st5b_m ..)) hL2 (nl _)
        refine round_step (item_facts hI3) hlen hrc hfix hL3 (ptr_mono (c := 0) (by omega) hF3 (ptr_mono (c := 0) (by omega) hF2 h2)) fun g4 a5 w4 hF4 hM4 hfr4 h12 => ?_
        show (Code.cond (.tmp 12) .skip (.exit 0)).wpIn Fence.wide 0 Tryz.prog _ a5 w4
        refine wpIn_cond_true h12 (wpIn_skip ?_)
        show (Code.block 1 .skip).wpIn Fence.wide 0 Tryz.prog _ a5 w4
        refine wpIn_block (wpIn_skip ?_)
        show Code.roundsIn Fence.wide 0 Tryz.prog B87 (Out87 out a b g0 w0) f a5 w4
        exact all_rounds hS hrc hfix f l2 n2 (r ++ [x]) out h _ _ _ _ _ (((hF.trans hF2).trans hF3).trans hF4) hM4 hfr4 (hF4.noCell (item_facts hI3).mem hL3 (nl _)) (ptr_mono (c := 0) (by omega) hF4 (ptr_mono (c := 0) (by omega) hF3 (ptr_mono (c := 0) (by omega) hF2 h2)))
      · -- a panic
        cases h
        have h57 : opsK Tryz.prog lay (T (Tabs k)) tk87 fl87 (rgO RL) [5, 6, 7] (st5b lb r a b l n t l1 n1 true) (fun e s => some (e, s)) = some (.pan (failP p e), st8 lb r a b l n t l1 n1 (.inr (p, e, l2, n2))) := (ev57 (Tabs k) (fun e s => some (e, s)) lb r a b l n t l1 n1).trans (hitem _ _ _)
        show wpOpsIn (FR none) 0 Tryz.prog (rgO RL) _ ([5, 6, 7] ++ [8, 9]) a2 w2
        refine opsIn_then (.inl rfl) (fun _ _ => ExOk.noOut) (fun a w hx => by obtain ⟨g', _, v, hx, _⟩ := hx; cases hx) ?_ _ _ _ (opsK_sound (np := 5) hS.call hI2 h57)
        rintro ch a3 w3 ⟨g3, hF3, v, hx, hp, hM3, hD3, _⟩
        rw [st8_m'] at hM3
        cases hx
        exact ⟨nodefs (st8_d' ..) hD3, g3, l2, n2, (hF.trans hF2).trans hF3, v, rfl, hp, hM3⟩

end Go.Proofs.YtanfoijdfcnpoaaGreatDoor.Ev
