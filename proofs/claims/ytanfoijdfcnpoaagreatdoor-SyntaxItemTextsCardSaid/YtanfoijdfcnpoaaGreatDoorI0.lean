/- This file proves how the evaluator's soundness passes over to the frames of a round of a range over a function, and to a function that leaves with the mark of such a range; without any condition. -/
import Derived.Test.YtanfoijdfcnpoaaGreatDoorEvK
import Derived.RangeFuncLeaves
import Derived.RangeFuncKeeps
set_option linter.unusedVariables false
namespace Go.Proofs.YtanfoijdfcnpoaaGreatDoor.Ev
open Go.RowKit

section
variable {P : Program}

/-- Every function, any depth, a plain frame or one of a round. -/
abbrev FR (ro : Option Nat) : Fence := { Fence.wide with round := ro }

theorem opIn_of {ro : Option Nat} {n : Nat} {o : Oper} {a : Act} {w : World} {next next' : Act → World → Prop} {Q Q' : Exit → Act → World → Prop} (hd : ro = none ∨ ∀ c, o.op ≠ .defer c)
    (hn : ∀ a w, next a w → next' a w) (hp : ∀ ch a w, Q (.panic ch) a w → Q' (.panic ch) a w) (ho : ∀ a w, ¬ Q .outgrown a w) (h : o.wp P a w next Q) : o.wpIn (FR ro) n P a w next' Q' := by
  refine ⟨fun _ _ => trivial, ?_⟩
  have hs : o.semAt ro a.eval = execOp a.eval o := by
    rcases hd with rfl | hd
    · rfl
    · unfold Oper.semAt
      split
      · rename_i c hc
        exact absurd hc (hd _)
      · rfl
  show Oper.uponIn (FR ro) n P o a next' Q' ((o.semAt ro a.eval).run P w)
  rw [hs]
  unfold Oper.wp at h
  generalize (execOp a.eval o).run P w = r at h
  cases r with
  | ok x w' =>
    cases x <;> simp only [Oper.upon] at h
    case value v => exact hn _ _ h
    case skip => exact hn _ _ h
    case defer d => exact hn _ _ h
    case enter f args =>
      refine ⟨fun e => by simp [Fence.wide] at e, ?_⟩
      have h1 : CallsIn Fence.wide (n - 1) P f args w' _ := callsIn_wide.2 h
      refine CallsIn.mono (F := FR ro) h1 fun e w'' he => ?_
      cases e with
      | returned v => exact hn _ _ he
      | panicked ch => exact hp _ _ _ he
      | outgrown => obtain ⟨a0, w0, hq⟩ := he; exact absurd hq (ho _ _)
    case row row args =>
      refine ⟨fun e => by simp [Fence.wide] at e, fun c cs _ => ?_⟩
      obtain ⟨v, w'', h1, h2⟩ := h c cs
      exact ⟨v, w'', hn _ _ h1, stepsIn_wide.2 h2⟩
  | halt x w' =>
    cases x <;> simp only [Oper.upon] at h
    case panic v => exact hp _ _ _ h

/-- Operations that the evaluator walks, and then others. -/
theorem opsIn_then {ro : Option Nat} {n : Nat} {ops : Array Oper} {Q1 Q : Exit → Act → World → Prop} {l2 : List Nat} (hd : ro = none ∨ ∀ o ∈ ops, ∀ c, o.op ≠ .defer c) (hout : ∀ a w, ¬ Q1 .outgrown a w)
    (hn : ∀ a w, Q1 .normal a w → wpOpsIn (FR ro) n P ops Q l2 a w) (hp : ∀ ch a w, Q1 (.panic ch) a w → Q (.panic ch) a w) : ∀ (l1 : List Nat) (a : Act) (w : World), wpOps P ops Q1 l1 a w → wpOpsIn (FR ro) n P ops Q (l1 ++ l2) a w
  | [], a, w, h => hn a w h
  | i :: r, a, w, h => by
    have ih := opsIn_then hd hout hn hp r
    simp only [wpOps] at h
    simp only [List.cons_append, wpOpsIn]
    cases ho : ops[i]? with
    | none =>
      simp only [ho] at h ⊢
      exact ih a w h
    | some o =>
      simp only [ho] at h ⊢
      split at h
      · rename_i hw
        rw [if_pos hw]
        rcases h with h | ⟨_, a0, w0, hq⟩
        · exact opIn_of (hd.imp (fun h => h) fun h => h o (Array.mem_of_getElem? ho)) ih hp hout h
        · exact absurd hq (hout _ _)
      · rename_i hw
        rw [if_neg hw]
        exact ⟨fun _ _ => trivial, ih _ w h⟩

theorem opsIn_all {ro : Option Nat} {n : Nat} {ops : Array Oper} {Q1 Q : Exit → Act → World → Prop} (hd : ro = none ∨ ∀ o ∈ ops, ∀ c, o.op ≠ .defer c) (hout : ∀ a w, ¬ Q1 .outgrown a w)
    (hn : ∀ a w, Q1 .normal a w → Q .normal a w) (hp : ∀ ch a w, Q1 (.panic ch) a w → Q (.panic ch) a w) (l : List Nat) (a : Act) (w : World) (h : wpOps P ops Q1 l a w) : wpOpsIn (FR ro) n P ops Q l a w := by
  have := opsIn_then (n := n) (l2 := []) hd hout (Q := Q) (fun a w h => by simp only [wpOpsIn]; exact hn a w h) hp l a w h
  simpa using this

/-! ### The mark -/

/-- How a frame leaves: by its deferred calls, or by a mark first. -/
def LeavesK (P : Program) (fn : Func) (tmps : Array Value) (R : Ending → World → Prop) (ds : List Deferred) (u : FrameMode) (w : World) : Prop :=
  Leaves P fn tmps R ds u w ∨ ∃ r d ds' w', ds = d :: ds' ∧ d.target = .collected r ∧ u ≠ .run ∧ (Instr.takeDeferred r).run P w = .ok [] w' ∧ Leaves P fn tmps R ds' u w'

theorem leaves_stepsK {fn : Func} {tmps : Array Value} {R : Ending → World → Prop} (ds : List Deferred) (u : FrameMode) (w : World) (fr : Frame)
    (cs : List Frame) (hu : fr.mode = u) (hd : fr.defers = ds) (ht : fr.tmps = tmps) (hf : P.funcs[fr.fn]? = some fn) (hk : fr.kind = .normal) (h : LeavesK P fn tmps R ds u w) :
    ∃ e w' fr', R e w' ∧ Comes P (lone fr cs w) (lone fr' cs w') e ∧ fr'.fn = fr.fn ∧ fr'.leaving P w' e := by
  rcases h with h | ⟨r, d, ds', w', rfl, htar, hrun, htake, h⟩
  · exact leaves_steps ds u w fr cs hu hd ht hf hk h
  · have h1 := step_collected (cs := cs) (hu ▸ hrun) hd htar htake
    obtain ⟨e, w'', fr', hR, hs, hfn, hl⟩ := leaves_steps ds' u w' { fr with defers := [] ++ ds' } cs hu rfl ht hf hk h
    exact ⟨e, w'', fr', hR, Comes.of_steps (.one h1) hs, hfn, hl⟩

def bodyPostK (P : Program) (fn : Func) (R : Ending → World → Prop) : Exit → Act → World → Prop
  | .normal, a, w | .ret, a, w => LeavesK P fn a.tmps R a.defers .returning w
  | .panic chain, a, w => LeavesK P fn a.tmps R a.defers (.panicking chain) w
  | .outgrown, _, w => R .outgrown w
  | _, _, _ => False

theorem calls_of_wp_mark {f : FuncId} {fn : Func} {c : Code} {args : Array Value} {w : World} {R : Ending → World → Prop}
    (hf : P.funcs[f]? = some fn) (hb : fn.body = some c)
    (h : c.wp P (bodyPostK P fn R) { tmps := args ++ Array.replicate (fn.ntmps - args.size) undef, defers := [] } w) : Calls P f args w R := by
  intro cs
  let b : Frame := { (default : Frame) with fn := f, kind := .normal }
  have henter : Frame.enter P f args .normal =
      b.at { tmps := args ++ Array.replicate (fn.ntmps - args.size) undef, defers := [] } [.code c] := by
    simp [Frame.enter, Frame.at, hf, hb, b]
  obtain ⟨e, a', w', hq, harr⟩ := h b [] cs
  rw [← henter] at harr
  cases e with
  | normal =>
    obtain ⟨e', w'', fr', hR, hs, hfn, hl⟩ := leaves_stepsK a'.defers .returning w' { b.at a' [] with mode := .returning } cs rfl rfl rfl hf rfl hq
    exact ⟨e', w'', fr', hR, Comes.of_steps (Steps.trans harr (.one step_end)) hs, hfn, hl⟩
  | ret =>
    obtain ⟨todo, hs₀⟩ := harr
    obtain ⟨e', w'', fr', hR, hs, hfn, hl⟩ := leaves_stepsK a'.defers .returning w' { b.at a' todo with mode := .returning } cs rfl rfl rfl hf rfl hq
    exact ⟨e', w'', fr', hR, Comes.of_steps hs₀ hs, hfn, hl⟩
  | panic chain =>
    obtain ⟨todo, hs₀⟩ := harr
    obtain ⟨e', w'', fr', hR, hs, hfn, hl⟩ := leaves_stepsK a'.defers (.panicking chain) w' { b.at a' todo with mode := .panicking chain } cs rfl rfl rfl hf rfl hq
    exact ⟨e', w'', fr', hR, Comes.of_steps hs₀ hs, hfn, hl⟩
  | exit id => exact hq.elim
  | goto l => exact hq.elim
  | outgrown => exact ⟨.outgrown, w', b, hq, harr.resolve_left (by simp [b]), rfl, trivial⟩

end

section
variable {S : Sig} {P : Program} {L : Lay S} {call : CallT S} {ρ : Type}

/-- Codes one after the other. -/
def evL (P : Program) (L : Lay S) (call : CallT S) (LT : LoopT S) (H : Hints) (f np : Nat) : List Code → St S → (Ex S → St S → Option ρ) → Option ρ
  | [], st, K => K .normal st
  | c :: r, st, K => evK P L call LT H f np c st fun e st => match e with | .normal => evL P L call LT H f np r st K | e => K e st

theorem evL_cps [Natural call] {LT : LoopT S} [NaturalL LT] {H : Hints} {f np : Nat} : ∀ {cs : List Code} {ρ : Type} {st : St S} {K : Ex S → St S → Option ρ},
    evL P L call LT H f np cs st K = (evL P L call LT H f np cs st fun e s => some (e, s)).bind fun q => K q.1 q.2
  | [], _, st, K => rfl
  | c :: r, _, st, K => by
    simp only [evL]
    conv => lhs; rw [evK_cps]
    conv => rhs; rw [evK_cps]
    cases evK P L call LT H f np c st fun e s => some (e, s) with
    | none => rfl
    | some q =>
      obtain ⟨e, s⟩ := q
      simp only [Option.bind_some]
      cases e <;> first | exact evL_cps | rfl

theorem evL_sound (hm : P.follows .mixedOrders = true) [Natural call] (hcall : ∀ f args m r, dir call f args m = some r → CallOk P L f args m r) {LT : LoopT S} [NaturalL LT] {H : Hints} {f np : Nat}
    (hloop : ∀ key st r c, loopOf P f key = some c → dirL LT f np key st = some r → LoopOk P L np c st r) {X : Code} {Q : Exit → Act → World → Prop} :
    ∀ {cs : List Code} {g : Gh} {st : St S} {a : Act} {w : World} {e : Ex S} {st' : St S}, (∀ c ∈ cs, ∀ c' ∈ loopsOf c, ∀ key, headOf c' = some key → loopOf P f key = some c') →
      Inv L g st a w → evL P L call LT H f np cs st (fun e s => some (e, s)) = some (e, st') → (∀ x a' w', ExOk L np g w e st' x a' w' → Exit.then (X.wp P Q) Q x a' w') → (cs.foldr Code.seq X).wp P Q a w
  | [], g, st, a, w, e, st', _, h, hk, hX => by
    simp only [evL, Option.some.injEq, Prod.mk.injEq] at hk
    obtain ⟨rfl, rfl⟩ := hk
    exact hX .normal a w ⟨g, (Fr.refl g w).toN, rfl, h⟩
  | c :: r, g, st, a, w, e, st', hl, h, hk, hX => by
    simp only [evL] at hk
    rw [evK_cps] at hk
    obtain ⟨⟨e1, st1⟩, h1, h2⟩ := Option.bind_eq_some_iff.1 hk
    refine wp_seq (wp_mono (evK_sound hm hcall hloop (hl c (by simp)) h h1) fun x a1 w1 hx => ?_)
    cases e1 with
    | normal =>
      simp only at h2
      obtain ⟨g1, hF, rfl, hI⟩ := hx
      exact evL_sound hm hcall hloop (fun c' hc' => hl c' (by simp [hc'])) hI h2 fun x a' w' hx => hX x a' w' (hx.trans hF)
    | ret =>
      simp only [Option.some.injEq, Prod.mk.injEq] at h2
      obtain ⟨rfl, rfl⟩ := h2
      obtain ⟨g1, hF, rfl, hI⟩ := hx
      exact hX .ret a1 w1 ⟨g1, hF, rfl, hI⟩
    | exit id =>
      simp only [Option.some.injEq, Prod.mk.injEq] at h2
      obtain ⟨rfl, rfl⟩ := h2
      obtain ⟨g1, hF, rfl, hI⟩ := hx
      exact hX (.exit id) a1 w1 ⟨g1, hF, rfl, hI⟩
    | pan p =>
      simp only [Option.some.injEq, Prod.mk.injEq] at h2
      obtain ⟨rfl, rfl⟩ := h2
      obtain ⟨g1, hF, v, rfl, hr⟩ := hx
      exact hX (.panic _) a1 w1 ⟨g1, hF, v, rfl, hr⟩

theorem ExOk.noOut {np : Nat} {g : Gh} {w0 : World} {e : Ex S} {st' : St S} {a : Act} {w : World} : ¬ ExOk L np g w0 e st' .outgrown a w := by
  rintro ⟨g', hF, h⟩
  cases e with
  | normal => cases h.1
  | exit id => cases h.1
  | ret => cases h.1
  | pan p => obtain ⟨v, hx, _⟩ := h; cases hx

/-- An object that is no row of cells is laid. -/
theorem MemInv.allocO {g : Gh} {m : Mem S} {w : World} (h : MemInv L g m w) (o : Obj) : MemInv L g m (w.alloc o) := h.of_heap fun b hb => alloc_heap w o b hb

/-- An object that is no row of cells. -/
def NoCells (o : Obj) : Prop := ∀ cs ty fr, o ≠ .cells cs ty fr

theorem MemInv.noCell {g : Gh} {m : Mem S} {w : World} (h : MemInv L g m w) {b : Nat} {o : Obj} (hb : w.heap[b]? = some o) (ho : NoCells o) : (∀ c, g.β c ≠ some b) ∧ g.ω b = none ∧ ∀ i, g.G b i = none := by
  refine ⟨fun c hc => ?_, ?_, fun i => ?_⟩
  · obtain ⟨ps, hps⟩ := h.dom c b hc
    obtain ⟨b', vs, ty, h1, h2, _⟩ := h.cell c ps hps
    rw [hc] at h1; cases h1
    rw [hb] at h2; cases h2
    exact ho _ _ _ rfl
  · cases hr : g.ω b with
    | none => rfl
    | some r =>
      obtain ⟨_, ⟨cs, ty, h2, _⟩, _⟩ := h.rt b r hr
      rw [hb] at h2; cases h2
      exact absurd rfl (ho _ _ _)
  · cases hG : g.G b i with
    | none => rfl
    | some v =>
      have := h.gs b i v hG
      unfold World.cell? at this
      simp only [hb] at this
      cases o <;> simp at this
      exact absurd rfl (ho _ _ _)

/-- It stays, as far as the ghost goes. -/
theorem FrN.noCell {np : Nat} {g g' : Gh} {m : Mem S} {w w' : World} (hF : FrN np g w g' w') (h : MemInv L g m w) {b : Nat} {o : Obj} (hb : w.heap[b]? = some o) (ho : NoCells o) : w'.heap[b]? = some o := by
  obtain ⟨h1, h2, _⟩ := h.noCell hb ho
  exact ((hF.keep b (Array.getElem?_eq_some_iff.1 hb).1 h1 h2).1).trans hb

/-- It is put otherwise. -/
theorem MemInv.putO {g : Gh} {m : Mem S} {w : World} (h : MemInv L g m w) {b : Nat} {o : Obj} (hb : w.heap[b]? = some o) (ho : NoCells o) (hfix : L.fixB b = false) (o' : Obj) : MemInv L g m (w.putObj b o') := by
  obtain ⟨n1, n2, n3⟩ := h.noCell hb ho
  have other : ∀ b', b' ≠ b → (w.putObj b o').heap[b']? = w.heap[b']? := fun b' hb' => World.putObj_heap_other hb'
  refine ⟨fun c ps hc => ?_, h.dom, h.inj, h.βG, fun b' i v hv => ?_, fun b' r hr => ?_, fun b' hb' => ?_⟩
  · obtain ⟨b', vs, ty, h1, h2, h3, h4⟩ := h.cell c ps hc
    exact ⟨b', vs, ty, h1, (other b' fun e => n1 c (e ▸ h1)).trans h2, h3, h4⟩
  · have hne : b' ≠ b := fun e => by rw [e, n3] at hv; cases hv
    have := h.gs b' i v hv
    unfold World.cell? at this ⊢
    rw [show (w.putObj b o').heap[(⟨b', i, none⟩ : Addr).block]? = w.heap[b']? from other b' hne]
    exact this
  · have hne : b' ≠ b := fun e => by rw [e, n2] at hr; cases hr
    obtain ⟨h1, ⟨cs, ty, h2, h3⟩, h4⟩ := h.rt b' r hr
    exact ⟨h1, ⟨cs, ty, (other b' hne).trans h2, h3⟩, h4⟩
  · obtain ⟨h1, h2, o1, h3, h4⟩ := h.wok b' hb'
    exact ⟨h1, h2, o1, (other b' fun e => by rw [e, hfix] at hb'; cases hb').trans h3, h4⟩

/-- Around a block that is put otherwise in between, and then as it was. -/
theorem FrN.around {np : Nat} {g g1 g2 : Gh} {w w1 w3 : World} {b : Nat} {o o1 : Obj} (hF : FrN np g w g1 w1) {m : Mem S} (h : MemInv L g m w) (hb : w.heap[b]? = some o) (ho : NoCells o) (hF2 : FrN np g1 (w1.putObj b o1) g2 w3) :
    FrN np g w g2 (w3.putObj b o) := by
  obtain ⟨n1, n2, n3⟩ := h.noCell hb ho
  have hlt : b < w.heap.size := (Array.getElem?_eq_some_iff.1 hb).1
  have hs1 : (w1.putObj b o1).heap.size = w1.heap.size := by simp [World.putObj]
  have hs3 : (w3.putObj b o).heap.size = w3.heap.size := by simp [World.putObj]
  have hle := hF2.size
  rw [hs1] at hle
  have hle1 := hF.size
  refine ⟨(show (w3.putObj b o).os = w3.os from rfl).trans (hF2.os.trans ((show (w1.putObj b o1).os = w1.os from rfl).trans hF.os)), (show (w3.putObj b o).tape = w3.tape from rfl).trans (hF2.tape.trans ((show (w1.putObj b o1).tape = w1.tape from rfl).trans hF.tape)),
    (show (w3.putObj b o).output = w3.output from rfl).trans (hF2.output.trans ((show (w1.putObj b o1).output = w1.output from rfl).trans hF.output)), by rw [hs3]; omega, fun b' hb' hβ hω => ?_, fun b' i v hv => hF2.gmono b' i v (hF.gmono b' i v hv), fun c b' hc hb' => hF2.βmono c b' hc (hF.βmono c b' hc hb'), fun c b' hb' => ?_⟩
  · obtain ⟨k1, k2, k3⟩ := hF.keep b' hb' hβ hω
    have hβ1 : ∀ c, g1.β c ≠ some b' := fun c hc => by
      rcases hF.βnew c b' hc with h1 | h1
      · exact hβ c h1
      · omega
    obtain ⟨l1, l2, l3⟩ := hF2.keep b' (by rw [hs1]; omega) hβ1 k3
    refine ⟨?_, fun i => (l2 i).trans (k2 i), l3⟩
    by_cases e : b' = b
    · subst e
      rw [World.putObj_heap_same (by omega)]; exact hb.symm
    · rw [World.putObj_heap_other e, l1, World.putObj_heap_other e, k1]
  · rcases hF2.βnew c b' hb' with h1 | h1
    · exact hF.βnew c b' h1
    · rw [hs1] at h1
      exact .inr (by omega)

def noDefer (ops : Array Oper) : Bool := ops.all fun o => match o.op with | .defer _ => false | _ => true
theorem noDefer_spec {ops : Array Oper} (h : noDefer ops = true) : ∀ o ∈ ops, ∀ c, o.op ≠ .defer c := by
  intro o ho c hc
  have := Array.all_eq_true_iff_forall_mem.1 h o ho
  rw [hc] at this
  cases this

/-- A region in a round's frame. -/
theorem regionIn {ro : Option Nat} {n : Nat} [Natural call] (hcall : ∀ f args m r, dir call f args m = some r → CallOk P L f args m r) {H : Hints} {f np id : Nat} {ops : Array Oper} {e : Ex S} {st st' : St S} {g : Gh} {a : Act} {w : World}
    (hd : ro = none ∨ ∀ o ∈ ops, ∀ c, o.op ≠ .defer c) (h : Inv L g st a w) (hk : regionK P L call H f np id ops false st (fun e s => some (e, s)) = some (e, st')) {Q : Exit → Act → World → Prop} (hQ : ∀ x a' w', ExOk L np g w e st' x a' w' → Q x a' w') :
    (Code.region id ops false).wpIn (FR ro) n P Q a w := by
  obtain ⟨g1, h1, hF⟩ := h.keepOnly np (H.keep f id)
  unfold regionK at hk
  simp only [Bool.false_eq_true, if_false] at hk
  exact wpIn_region (opsIn_all (Q1 := ExOk L np g1 w e st') hd (fun _ _ => ExOk.noOut) (fun a w hx => hQ _ _ _ (hx.trans hF)) (fun ch a w hx => hQ _ _ _ (hx.trans hF)) _ _ _ (opsK_sound hcall (h1.reserve _) hk))

end
end Go.Proofs.YtanfoijdfcnpoaaGreatDoor.Ev
