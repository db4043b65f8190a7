/- This file proves what a deferred function does that recovers first, from what the evaluator says of the rest of it; its conditions are those of the functions called. -/
import Derived.Test.YtanfoijdfcnpoaaGreatDoorEvM
import Derived.Recover
set_option linter.unusedVariables false
set_option linter.unusedSimpArgs false
namespace Go.Proofs.YtanfoijdfcnpoaaGreatDoor.Ev

section
variable {S : Sig} {P : Program} {L : Lay S}

/-- A deferred function's text: the recovery, and the rest. -/
def recDst (c : Code) : Option Nat :=
  match c with
  | .seq (.region _ ops false) _ =>
    match ops.toList with
    | [o] =>
      match o.op, o.guard, o.dst with
      | .call c, none, some d => match c.callee with | .builtin .recover => some d | _ => none
      | _, _, _ => none
    | _ => none
  | _ => none

def restOf (c : Code) : Code := match c with | .seq _ r => r | _ => .skip

theorem recDst_some {c : Code} {d : Nat} (h : recDst c = some d) : ∃ id o cl r, c = .seq (.region id #[o] false) r ∧ o.op = .call cl ∧ cl.callee = .builtin .recover ∧ o.guard = none ∧ o.dst = some d := by
  unfold recDst at h
  split at h
  · rename_i id ops r
    split at h
    · rename_i o ho
      split at h
      · rename_i cl d' h1 h2 h3
        split at h
        · rename_i h4
          cases h
          have : ops = #[o] := by
            apply Array.ext'; simpa using ho
          exact ⟨id, o, cl, r, by rw [this], h1, h4, h2, h3⟩
        · cases h
      · cases h
    · cases h
  · cases h

theorem MemInv.closed {g : Gh} {m : Mem S} {w : World} (h : MemInv L g m w) : maxL (ptrsMem m) ≤ m.length := by
  refine maxL_le fun c hc => ?_
  unfold ptrsMem at hc
  obtain ⟨x, hx, hc⟩ := List.mem_flatMap.1 hc
  cases x with
  | none => cases hc
  | some ps =>
    obtain ⟨i, hi⟩ := List.getElem?_of_mem hx
    have hcell : cellAt m i = some ps := by simp [cellAt, hi]
    obtain ⟨b, vs, ty, e1, e2, e3, e4⟩ := h.cell i ps hcell
    have : ∃ (j : Nat) (p : PV S), ps[j]? = some p ∧ c ∈ p.ptrs := by
      clear e3 e4 e2 ty hcell hi hx
      induction ps with
      | nil => simp [PV.ptrsL] at hc
      | cons p r ih =>
        simp only [PV.ptrsL, List.mem_append] at hc
        rcases hc with hc | hc
        · exact ⟨0, p, rfl, hc⟩
        · obtain ⟨j, q, h1, h2⟩ := ih hc
          exact ⟨j + 1, q, by simpa using h1, h2⟩
    obtain ⟨j, p, hj, hp⟩ := this
    obtain ⟨v, _, hr⟩ := e4 j p hj
    obtain ⟨b', hb'⟩ := hr.1.ptrs c hp
    obtain ⟨qs, hqs⟩ := h.dom c b' hb'
    exact cellAt_lt hqs

def fnOf (P : Program) (f : FuncId) : Func := (P.funcs[f]?).getD default
def textOf (P : Program) (f : FuncId) : Code := (fnOf P f).body.getD .skip

/-- What a deferred function's rest comes to, with the slot of the recovery. -/
def afterD (P : Program) (L : Lay S) (call : CallT S) (LT : LoopT S) (H : Hints) (f d : Nat) (args : List (PV S)) (m : Mem S) (x : PV S) : Option (Ex S × St S) :=
  evK P L call LT H f m.length (restOf (textOf P f)) { startE (fnOf P f) args m with slots := upd (startE (fnOf P f) args m).slots d x } (fun e s => some (e, s))

def stateOf (q : Option (Ex S × St S)) : St S := match q with | some q => q.2 | none => ⟨fun _ => .any, [], [], 0, 0⟩

def recovered (u : Option (PV S)) : PV S := match u with | none => .nilif | some p => p

theorem deferred_ok (hP : Fit P) {call : CallT S} [Natural call] (hcall : ∀ f args m r, dir call f args m = some r → CallOk P L f args m r) {LT : LoopT S} [NaturalL LT] {H : Hints} {f : FuncId}
    {fn : Func} {c : Code} (hf : P.funcs[f]? = some fn) (hb : fn.body = some c) (hr : fn.results = #[]) {d : Nat} (hd : recDst c = some d) (hdn : d < fn.ntmps)
    {args : List (PV S)} {m : Mem S} (hloop : ∀ key st r c, loopOf P f key = some c → dirL LT f m.length key st = some r → LoopOk P L m.length c st r) (hn : args.length ≤ fn.ntmps)
    {u : Option (PV S)} {e : Ex S} {st' : St S} (hk : evK P L call LT H f m.length (restOf c) { startE fn args m with slots := upd (startE fn args m).slots d (recovered u) } (fun e s => some (e, s)) = some (e, st'))
    (he : e = .normal ∨ e = .ret) (hds : st'.dfs = []) (hcut : maxL (ptrsMem (st'.mem.take m.length)) ≤ m.length)
    {g : Gh} {vs : List Value} {w : World} {md : FrameMode} (hm : MemInv L g m w) (ha : PRels L g.β g.G args vs) (hown : ∀ p ∈ args, ∀ k l, p ≠ .own k l) (hu : ModeRel L g u md) (hup : ∀ k l, recovered u ≠ .own k l) :
    (callFunc f vs.toArray).run P w = .ok (.enter f vs.toArray) w ∧
    CallsD P f vs.toArray md w fun e md' w' => ∃ v, e = .returned v ∧ ∃ g', Fr g w g' w' ∧ MemInv L g' (st'.mem.take m.length) w' ∧ ModeRel L g' none (settle md') := by
  refine ⟨run_enter hP hf hb _ _, callsD_of_wpS hf hb fun c₀ cs hc₀ => ?_⟩
  obtain ⟨id, o, cl, r, rfl, ho, hcl, hg, hdst⟩ := recDst_some hd
  have hlen := ha.length
  have hI0 : Inv L g (startE fn args m) { tmps := vs.toArray ++ Array.replicate (fn.ntmps - vs.toArray.size) undef, defers := [] } w :=
    startE_inv hm hlen hn fun i p hp => by
      obtain ⟨v, hv, hrel⟩ := ha.get hp
      refine ⟨v, hv, hrel, ?_⟩
      have := hown p (List.mem_of_getElem? hp)
      cases p <;> first | trivial | exact absurd rfl (this _ _)
  have hrun : ∀ a : Act, (execOp a.eval o).run P w = .ok .recover w := by
    intro a
    simp [execOp, ho, resolve, hcl, invoke, builtin]
  have hput : ∀ v cs', PRel L g.β g.G (recovered u) v → OwnOk L g.ω (.slot d) (recovered u) v → (∃ u', cs' = { c₀ with mode := u' } :: cs ∧ settle u' = .returning) →
      r.wpS P (bodyPostS P fn c₀ cs fun e md' w' => ∃ v, e = .returned v ∧ ∃ g', Fr g w g' w' ∧ MemInv L g' (st'.mem.take m.length) w' ∧ ModeRel L g' none (settle md'))
        (({ tmps := vs.toArray ++ Array.replicate (fn.ntmps - vs.toArray.size) undef, defers := [] } : Act).put (some d) v) cs' w := by
    rintro v cs' hv hv2 ⟨u', rfl, hset⟩
    have hI1 := hI0.put (d := d) (p := recovered u) (v := v) hdn hv hv2
    have hheads : ∀ c' ∈ loopsOf r, ∀ key, headOf c' = some key → loopOf P f key = some c' := fun c' hc' key hk => hP.heads hf hb c' (by simp only [loopsOf, List.mem_append]; exact .inr hc') key hk
    refine wpS_of_wp (wp_mono (evK_sound hP.mixed hcall hloop hheads hI1 hk) fun x a' w' hx => ?_)
    obtain ⟨g', hF, hx⟩ := hx
    have fin : Inv L g' st' a' w' → a'.defers = [] ∧ ∃ u'', ({ c₀ with mode := u' } :: cs) = { c₀ with mode := u'' } :: cs ∧ ∃ v, (results fn a'.tmps).run P w' = .ok v w' ∧
        ∃ v', Ending.returned v = .returned v' ∧ ∃ g', Fr g w g' w' ∧ MemInv L g' (st'.mem.take m.length) w' ∧ ModeRel L g' none (settle u'') := by
      intro hI
      have hdf := hI.dfs
      rw [hds] at hdf
      have h0 : a'.defers = [] := by
        cases hdd : a'.defers with
        | nil => rfl
        | cons _ _ => rw [hdd] at hdf; cases hdf
      refine ⟨h0, u', rfl, .tuple #[], by simp [results, hr], _, rfl, g'.cut m.length, FrN.toFr (hF.trans (FrN.cut (Nat.le_refl _))) hm, hI.mem.cut hcut, hset⟩
    rcases he with rfl | rfl
    · obtain ⟨rfl, hI⟩ := hx
      exact fin hI
    · obtain ⟨rfl, hI⟩ := hx
      exact fin hI
  refine wpS_seq (wpS_region ?_)
  show wpOpsS P #[o] _ [0] _ (c₀ :: cs) w
  simp only [wpOpsS, List.getElem?_toArray, List.getElem?_cons_zero, Region.wanted, hg, if_true, hrun]
  cases u with
  | none =>
    have h1 : md = .returning := hu
    have h2 : recoverD (c₀ :: cs) = none := by simp [recoverD, hc₀, h1]
    rw [h2]
    simp only [hdst]
    refine hput _ _ (by simp only [recovered, PRel]) (by trivial) ⟨md, by rw [← hc₀], by rw [h1]; rfl⟩
  | some p =>
    obtain ⟨v, h1, h2⟩ := hu
    have h3 : recoverD (c₀ :: cs) = some (v, { c₀ with mode := .panicking ({ v, recovered := true } :: []) } :: cs) := by
      simp [recoverD, hc₀, h1]
    rw [h3]
    simp only [hdst]
    refine hput _ _ h2 ?_ ⟨_, rfl, rfl⟩
    cases p <;> first | trivial | exact absurd rfl (hup _ _)

end
end Go.Proofs.YtanfoijdfcnpoaaGreatDoor.Ev
