/- This file proves what the range of Items over the reader's items does: item by item, up to the end or to a panic; without any condition. -/
import Derived.Test.YtanfoijdfcnpoaaGreatDoorI0
import Derived.Test.YtanfoijdfcnpoaaGreatDoorGR
import Derived.Test.YtanfoijdfcnpoaaGreatDoorD2
set_option linter.unusedVariables false
set_option linter.unusedSimpArgs false
set_option maxRecDepth 8000
namespace Go.Proofs.YtanfoijdfcnpoaaGreatDoor.Ev
open Go.RowKit

/-! ### Typed answers taken apart -/

theorem cps_inv {A B : Type} {c : ∀ ρ : Type, (A → Option ρ) → Option ρ} {enc : A → B} {D : Option B} (hinj : ∀ a b, enc a = enc b → a = b)
    (h : ∀ (ρ : Type) (K : B → Option ρ), c ρ (fun a => K (enc a)) = D.bind K) {ρ : Type} {K : A → Option ρ} {out : ρ} (hk : c ρ K = some out) :
    ∃ a, (∀ (ρ' : Type) (K' : A → Option ρ'), c ρ' K' = K' a) ∧ K a = some out := by
  classical
  have fac : ∀ (ρ' : Type) (K' : A → Option ρ'), c ρ' K' = D.bind fun b => if h : ∃ a, enc a = b then K' h.choose else none := fun ρ' K' => by
    rw [← h]
    congr 1; funext a
    have he : ∃ a', enc a' = enc a := ⟨a, rfl⟩
    rw [dif_pos he, hinj _ _ he.choose_spec]
  cases D with
  | none => rw [fac] at hk; cases hk
  | some b =>
    rw [fac] at hk
    simp only [Option.bind_some] at hk
    split at hk
    · rename_i hb
      refine ⟨hb.choose, fun ρ' K' => ?_, hk⟩
      rw [fac]; simp only [Option.bind_some]; rw [dif_pos hb]
    · cases hk

abbrev tokP (t : Tok) : PV sig := .agg [.d (.int .i64 t.kind), .d (.str t.text), .d (.int .i64 t.at_)]
abbrev itP (x : It) : PV sig := .agg [.d (.str x.word), .d (.str x.name), .d (.int .i64 x.raw.op), .d (.str x.raw.name), .d (.sl Key.raw x.raw.args), .d (.sl Key.part x.parts)]
abbrev failP (a e : Int) : PV sig := .iface 114 (.agg [.d (.int .i64 a), .d (.int .i64 e)])
abbrev rdM (l : List Tok) (n : Int) : Mem sig := [some [.d (.sl Key.tok l), .d (.int .i64 n)]]

def encNow (q : Tok × List Tok × Int) : Res sig × Mem sig := (.ret (tokP q.1), rdM q.2.1 q.2.2)
def encItem : (It × List Tok × Int) ⊕ (Int × Int × List Tok × Int) → Res sig × Mem sig
  | .inl q => (.ret (itP q.1), rdM q.2.1 q.2.2)
  | .inr q => (.pan (failP q.1 q.2.1), rdM q.2.2.1 q.2.2.2)

theorem encNow_inj : ∀ a b, encNow a = encNow b → a = b := by
  rintro ⟨⟨k, t, p⟩, l, n⟩ ⟨⟨k', t', p'⟩, l', n'⟩ h
  cases h; rfl
theorem encItem_inj : ∀ a b, encItem a = encItem b → a = b := by
  rintro (⟨⟨w, m, ⟨o, rn, ra⟩, ps⟩, l, n⟩ | ⟨a, e, l, n⟩) (⟨⟨w', m', ⟨o', rn', ra'⟩, ps'⟩, l', n'⟩ | ⟨a', e', l', n'⟩) h
  · cases h; rfl
  · cases h
  · cases h
  · cases h; rfl

section
variable {k : Nat} (hS : Snd Tryz.prog lay (T (Tabs k)) (LT (Tabs k)))
include hS

theorem now_inv {l : List Tok} {n : Int} {ρ : Type} {K : Tok → List Tok → Int → Option ρ} {out : ρ} (h : (Tabs k).c31_0 ρ l n K = some out) :
    ∃ t l1 n1, (∀ (ρ' : Type) (K' : Tok → List Tok → Int → Option ρ'), (Tabs k).c31_0 ρ' l n K' = K' t l1 n1) ∧ K t l1 n1 = some out := by
  obtain ⟨⟨t, l1, n1⟩, h1, h2⟩ := cps_inv (c := fun ρ K => (Tabs k).c31_0 ρ l n fun t l1 n1 => K (t, l1, n1)) (enc := encNow) encNow_inj
    (fun ρ K => (show _ = T (Tabs k) ρ 31 [.ptr 0 0] (rdM l n) K by kernel_rfl).trans (hS.nat.nat ρ 31 [.ptr 0 0] (rdM l n) K)) (K := fun q => K q.1 q.2.1 q.2.2) h
  exact ⟨t, l1, n1, fun ρ' K' => h1 ρ' fun q => K' q.1 q.2.1 q.2.2, h2⟩

theorem item_inv {l : List Tok} {n : Int} {ρ : Type} {K : It → List Tok → Int → Option ρ} {K2 : Int → Int → List Tok → Int → Option ρ} {out : ρ} (h : (Tabs k).c88_0 ρ l n K K2 = some out) :
    (∃ x l2 n2, (∀ (ρ' : Type) K' K2', (Tabs k).c88_0 ρ' l n K' K2' = K' x l2 n2) ∧ K x l2 n2 = some out) ∨
    (∃ a e l2 n2, (∀ (ρ' : Type) K' K2', (Tabs k).c88_0 ρ' l n K' K2' = K2' a e l2 n2) ∧ K2 a e l2 n2 = some out) := by
  obtain ⟨q, h1, h2⟩ := cps_inv (c := fun ρ K => (Tabs k).c88_0 ρ l n (fun x l2 n2 => K (.inl (x, l2, n2))) (fun a e l2 n2 => K (.inr (a, e, l2, n2)))) (enc := encItem) encItem_inj
    (fun ρ K => (show _ = T (Tabs k) ρ 88 [.ptr 0 0] (rdM l n) K by kernel_rfl).trans (hS.nat.nat ρ 88 [.ptr 0 0] (rdM l n) K))
    (K := fun q => match q with | .inl q => K q.1 q.2.1 q.2.2 | .inr q => K2 q.1 q.2.1 q.2.2.1 q.2.2.2) h
  rcases q with ⟨x, l2, n2⟩ | ⟨a, e, l2, n2⟩
  · exact .inl ⟨x, l2, n2, fun ρ' K' K2' => h1 ρ' fun q => match q with | .inl q => K' q.1 q.2.1 q.2.2 | .inr q => K2' q.1 q.2.1 q.2.2.1 q.2.2.2, h2⟩
  · exact .inr ⟨a, e, l2, n2, fun ρ' K' K2' => h1 ρ' fun q => match q with | .inl q => K' q.1 q.2.1 q.2.2 | .inr q => K2' q.1 q.2.1 q.2.2.1 q.2.2.2, h2⟩

end

/-! ### The codes by their places -/

def blkC : Code → Code | .block _ b => b | c => c
def lopC : Code → Code | .loop b => b | c => c
def rfA : Code → Code | .rangeFunc _ _ a _ => a | c => c
def rfB : Code → Code | .rangeFunc _ _ _ b => b | c => c
def rgO : Code → Array Oper | .region _ ops _ => ops | _ => #[]

noncomputable def c21 : Code := textOf Tryz.prog 21
noncomputable def X6 : Code := sqB (sqB (sqB (sqB (sqB (sqB c21)))))
noncomputable def B0 : Code := sqB (sqA X6)
noncomputable def RA : Code := rfA (blkC B0)
noncomputable def RB : Code := rfB (blkC B0)
noncomputable def RB1 : Code := blkC RB
theorem shB0 : B0 = .block 0 (.rangeFunc (.tmp 25) #[26] RA RB) := by kernel_rfl
theorem shRA : RA = .region 8 (rgO RA) false := by kernel_rfl
theorem shRB : RB = .block 1 RB1 := by kernel_rfl
theorem shRB1 : RB1 = .region 9 (rgO RB1) false := by kernel_rfl
noncomputable def c87 : Code := textOf Tryz.prog 87
noncomputable def RL : Code := sqA (sqA (lopC (blkC c87)))
theorem shc87 : c87 = .block 0 (.loop (.seq (.seq RL (.cond (.tmp 12) .skip (.exit 0))) (.block 1 .skip))) := by kernel_rfl
theorem shRL : RL = .region 0 (rgO RL) false := by kernel_rfl
theorem szRL : (rgO RL).size = 10 := by kernel_rfl

/-- The cells: items, at, e, the reader, the reader's variable. -/
abbrev m5 (p : PV sig) (a b : Int) (l : List Tok) (n : Int) : Mem sig := [some [p], some [.d (.int .i64 a)], some [.d (.int .i64 b)], some [.d (.sl Key.tok l), .d (.int .i64 n)], some [.ptr 3 0]]

/-! ### One round -/

def stP (r : List It) (a b : Int) (l : List Tok) (n : Int) (x : It) : St sig := { slots := slotsOf [(2, .ptr 0 0), (26, itP x)], mem := m5 (.own Key.item r) a b l n, dfs := [], nt := 45, rb := 0 }
noncomputable def stRA (r : List It) (a b : Int) (l : List Tok) (n : Int) (x : It) : St sig := stateOf (evK Tryz.prog lay call0 loop0 hints 21 5 RA (stP r a b l n x) fun e s => some (e, s))
theorem evRA (r : List It) (a b : Int) (l : List Tok) (n : Int) (x : It) : evK Tryz.prog lay call0 loop0 hints 21 5 (.region 8 (rgO RA) false) (stP r a b l n x) (fun e s => some (e, s)) = some (.normal, stRA r a b l n x) := by kernel_rfl
def seeM (e : Ex sig) (s : St sig) : Option (Mem sig) := match e, s.dfs with | .normal, [] => some s.mem | _, _ => none
theorem evRB (r : List It) (a b : Int) (l : List Tok) (n : Int) (w nm : ByteArray) (op : Int) (rn : ByteArray) (ra : List Rw) (ps : List Pt) :
    evK Tryz.prog lay call0 loop0 hints 21 5 (.region 9 (rgO RB1) false) (stRA r a b l n ⟨w, nm, ⟨op, rn, ra⟩, ps⟩) seeM =
      cond (decide ((r.length + 1) * 104 ≤ 140737488355328)) (some (m5 (.own Key.item (r ++ [⟨w, nm, ⟨op, rn, ra⟩, ps⟩])) a b l n ++ [some [.d (.str w), .d (.str nm), .d (.int .i64 op), .d (.str rn), .d (.sl Key.raw ra), .d (.sl Key.part ps)]])) none := by kernel_rfl

theorem round_ok {n' : Nat} {r : List It} {a b : Int} {l : List Tok} {n : Int} {x : It} (hlen : (r.length + 1) * 104 ≤ 140737488355328) {g : Gh} {w : World} (hM : MemInv lay g (m5 (.own Key.item r) a b l n) w)
    {tm : Array Value} (htm : tm.size = 45) (h2 : PRel lay g.β g.G (.ptr 0 0) (tm.getD 2 undef)) {xv : Value} (hx : PRel lay g.β g.G (itP x) xv) {lb : Nat} {fn : FuncId} {rc : Loop} (hL : w.heap[lb]? = some (.loop rc)) (hready : rc.state = .ready) (hpend : rc.pending = none) (hfix : lay.fixB lb = false) :
    RoundIn Fence.wide n' Tryz.prog lb fn (tm.setIfInBounds 26 xv) RA RB w fun e w' => e = .returned (.bool true) ∧ ∃ g', FrN 5 g w g' w' ∧ MemInv lay g' (m5 (.own Key.item (r ++ [x])) a b l n) w' := by
  have nl : ∀ rc : Loop, NoCells (.loop rc) := fun rc cs ty fr e => by cases e
  have hI : Inv lay g (stP r a b l n x) { tmps := tm.setIfInBounds 26 xv, defers := [] } w := by
    refine ⟨by simp [stP, htm], fun i => ?_, hM, .nil⟩
    show SRel lay g (.slot i) (slotsOf [(2, .ptr 0 0), (26, itP x)] i) ((tm.setIfInBounds 26 xv).getD i undef)
    by_cases e2 : i = 2
    · subst e2
      refine ⟨?_, trivial⟩
      show PRel lay g.β g.G (.ptr 0 0) _
      rw [show (tm.setIfInBounds 26 xv).getD 2 undef = tm.getD 2 undef from by simp [Array.getD_eq_getD_getElem?, Array.getElem?_setIfInBounds]]
      exact h2
    by_cases e26 : i = 26
    · subst e26
      refine ⟨?_, trivial⟩
      show PRel lay g.β g.G (itP x) _
      rw [show (tm.setIfInBounds 26 xv).getD 26 undef = xv from by simp [Array.getD_eq_getD_getElem?, Array.getElem?_setIfInBounds, htm]]
      exact hx
    simp only [slotsOf]
    rw [upd_other _ _ e2, upd_other _ _ e26]
    exact ⟨by simp only [PRel], trivial⟩
  refine roundIn_of_wpIn (F := Fence.wide) trivial ?_
  rw [shRA]
  refine regionIn (ro := some lb) (call := call0) (fun f args m r h => by cases h) (.inr (noDefer_spec (by kernel_rfl))) hI (evRA r a b l n x) fun e1 a1 w1 hx1 => ?_
  obtain ⟨g1, hF1, rfl, hI1⟩ := hx1
  have hL1 : w1.heap[lb]? = some (.loop rc) := hF1.noCell hM hL (nl _)
  refine ⟨_, run_beginRound hL1 hready, ?_⟩
  have hI2 : Inv lay g1 (stRA r a b l n x) a1 (w1.putObj lb (.loop { rc with state := .busy })) := ⟨hI1.size, hI1.slot, hI1.mem.putO hL1 (nl _) hfix _, hI1.dfs⟩
  obtain ⟨xw, xn, ⟨xo, xr, xa⟩, xp⟩ := x
  have hev := evRB r a b l n xw xn xo xr xa xp
  rw [decide_eq_true hlen, cond_true, evK_cps] at hev
  obtain ⟨⟨e2, s2⟩, hq, hs⟩ := Option.bind_eq_some_iff.1 hev
  have hend : e2 = .normal ∧ s2.dfs = [] ∧ s2.mem = m5 (.own Key.item (r ++ [⟨xw, xn, ⟨xo, xr, xa⟩, xp⟩])) a b l n ++ [some [.d (.str xw), .d (.str xn), .d (.int .i64 xo), .d (.str xr), .d (.sl Key.raw xa), .d (.sl Key.part xp)]] := by
    revert hs
    show seeM e2 s2 = _ → _
    unfold seeM
    split
    · rename_i hd
      intro h
      exact ⟨rfl, hd, Option.some.inj h⟩
    · intro h; cases h
  obtain ⟨rfl, hd2, hm2⟩ := hend
  rw [shRB]
  refine wpIn_block ?_
  rw [shRB1]
  refine regionIn (ro := some lb) (call := call0) (fun f args m r h => by cases h) (.inr (noDefer_spec (by kernel_rfl))) hI2 hq fun e3 a3 w3 hx3 => ?_
  obtain ⟨g3, hF3, rfl, hI3⟩ := hx3
  have hL3 : w3.heap[lb]? = some (.loop { rc with state := .busy }) := hF3.noCell hI2.mem (World.putObj_heap_same (Array.getElem?_eq_some_iff.1 hL1).1) (nl _)
  refine ⟨_, _, run_endRound none hL3, rfl, g3.cut 5, ?_, ?_⟩
  · have hrc : ({ ({ rc with state := .busy } : Loop) with state := (if (none : Option Code).isNone then .ready else .done), pending := none } : Loop) = rc := by
      obtain ⟨s, p, f, t, ps, asg, bd, df⟩ := rc
      simp at hready hpend
      subst hready; subst hpend
      rfl
    rw [hrc]
    have := hF1.around (o1 := .loop { rc with state := .busy }) hM hL (nl _) hF3
    exact this.trans (FrN.cut (Nat.le_refl _))
  · have h4 := hI3.mem
    rw [hm2] at h4
    have h5 := (h4.putO hL3 (nl _) hfix (.loop { ({ rc with state := .busy } : Loop) with state := (if (none : Option Code).isNone then .ready else .done), pending := none })).cut (n := 5) (of_decide_eq_true (by kernel_rfl))
    exact h5

end Go.Proofs.YtanfoijdfcnpoaaGreatDoor.Ev
