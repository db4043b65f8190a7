/- This file proves the evaluator sound, function by function: what it computes, the program's function does; its conditions are those of the functions whose answers it was told. -/
import Derived.Test.YtanfoijdfcnpoaaGreatDoorEvI
set_option linter.unusedVariables false
set_option linter.unusedSimpArgs false
namespace Go.Proofs.YtanfoijdfcnpoaaGreatDoor.Ev

/-- What the evaluator asks of a program. -/
structure Fit (P : Program) : Prop where
  mixed : P.follows .mixedOrders = true
  named : (P.funcs.all fun fn => !(fn.name == "runtime.NumGoroutine")) = true
  loops : (P.funcs.all fun fn => match fn.body with | some c => nodupB ((loopsOf c).map headOf) | none => true) = true

theorem Fit.heads {P : Program} (hP : Fit P) {f : Nat} {fn : Func} {c : Code} (hf : P.funcs[f]? = some fn) (hb : fn.body = some c) : ∀ c' ∈ loopsOf c, ∀ key, headOf c' = some key → loopOf P f key = some c' := by
  intro c' hc key hk
  have h1 := Array.all_eq_true_iff_forall_mem.1 hP.loops fn (Array.mem_of_getElem? hf)
  rw [hb] at h1
  unfold loopOf
  rw [hf]
  simp only [hb]
  exact find_head hk h1 hc

theorem run_enter {P : Program} (hP : Fit P) {f : FuncId} {fn : Func} {c : Code} (hf : P.funcs[f]? = some fn) (hb : fn.body = some c) (args : Array Value) (w : World) :
    (callFunc f args).run P w = .ok (.enter f args) w := by
  have h1 : (fn.name == "runtime.NumGoroutine") = false := by
    have := Array.all_eq_true_iff_forall_mem.1 hP.named fn (Array.mem_of_getElem? hf)
    simpa using this
  simp only [beq_eq_false_iff_ne, ne_eq] at h1
  simp [callFunc, go_sem, hf, hb, h1]

section
variable {S : Sig} {P : Program} {L : Lay S} {call : CallT S} [Natural call] {g : Gh} {st : St S} {a : Act} {w : World}

def ModeRel (L : Lay S) (g : Gh) : Option (PV S) → FrameMode → Prop
  | none, md => md = .returning
  | some p, md => ∃ v, md = .panicking [{ v, recovered := false }] ∧ PRel L g.β g.G p v

/-- What the evaluator was told of deferred calls holds. -/
def DOk (P : Program) (L : Lay S) (D : DeferT S) : Prop :=
  ∀ f args m u u' m', D f args m u = some (u', m') → ∀ (g : Gh) (vs : List Value) (w : World) (md : FrameMode), MemInv L g m w → PRels L g.β g.G args vs → ModeRel L g u md →
    (callFunc f vs.toArray).run P w = .ok (.enter f vs.toArray) w ∧
    CallsD P f vs.toArray md w fun e md' w' => ∃ v, e = .returned v ∧ ∃ g', Fr g w g' w' ∧ MemInv L g' m' w' ∧ ModeRel L g' u' (settle md')

theorem ModeRel.mono {g g' : Gh} {w w' : World} (hF : Fr g w g' w') {u : Option (PV S)} {md : FrameMode} (h : ModeRel L g u md) : ModeRel L g' u md := by
  cases u with
  | none => exact h
  | some p => obtain ⟨v, h1, h2⟩ := h; exact ⟨v, h1, h2.mono hF.gmono hF.βmono⟩

theorem ModeRel.cells {g g' : Gh} {u : Option (PV S)} {md : FrameMode} (h : ModeRel L g u md) (hn : noPtr u = true) (hG : ∀ b o v, g.G b o = some v → g'.G b o = some v) : ModeRel L g' u md := by
  cases u with
  | none => exact h
  | some p =>
    obtain ⟨v, h1, h2⟩ := h
    have hp : p.ptrs = [] := by simpa [noPtr] using hn
    have h3 : PRel L g'.β g.G p v := h2.sub fun c hc => by rw [hp] at hc; cases hc
    exact ⟨v, h1, h3.mono hG (fun _ _ h => h)⟩

theorem deferC_some {D : DeferT S} {f : FuncId} {args : List (PV S)} {u u' : Option (PV S)} {m m1 : Mem S} (h : deferC D f args u m = some (u', m1)) :
    ∃ cs lm m' now, closedB m cs args = true ∧ noPtr u = true ∧ locMem m cs = some lm ∧ D f (PV.renL (idx cs) args) lm u = some (u', m') ∧ someAll (m'.take cs.length) = some now ∧ now.length = cs.length ∧ noPtr u' = true ∧
      m1 = setL m (cs.zip (now.map (PV.renL (back cs m.length)))) ++ backMem cs m.length (m'.drop cs.length) := by
  unfold deferC at h
  simp only at h
  split at h
  · rename_i hc
    split at h
    · cases h
    · rename_i lm hlm
      split at h
      · cases h
      · rename_i u2 m' hD
        split at h
        · cases h
        · rename_i now hnow
          split at h
          · rename_i hl
            cases h
            exact ⟨_, lm, m', now, hc.1, hc.2, hlm, hD, hnow, hl.1, hl.2, rfl⟩
          · cases h
  · cases h

theorem ModeRel.notRun {u : Option (PV S)} {md : FrameMode} (h : ModeRel L g u md) : md ≠ .run := by
  cases u with
  | none => intro e; rw [ModeRel] at h; rw [h] at e; cases e
  | some p => obtain ⟨v, h1, h2⟩ := h; rw [h1]; simp

theorem leaves_ok {D : DeferT S} (hD : DOk P L D) {fn : Func} {tmps : Array Value} {R : Ending → World → Prop} : ∀ {xs : List (FuncId × List (PV S))} {ds : List Deferred} {g : Gh} {m : Mem S} {w : World} {u : Option (PV S)} {md : FrameMode} {u' : Option (PV S)} {m' : Mem S},
    DfRels L g.β g.G xs ds → MemInv L g m w → ModeRel L g u md → defersE D xs u m = some (u', m') →
    (∀ g' w' md', Fr g w g' w' → MemInv L g' m' w' → ModeRel L g' u' md' → Leaves P fn tmps R [] md' w') → Leaves P fn tmps R ds md w
  | [], _, g, m, w, u, md, u', m', hd, hm, hu, hk, hR => by
    cases hd
    simp only [defersE, Option.some.injEq, Prod.mk.injEq] at hk
    obtain ⟨rfl, rfl⟩ := hk
    exact hR g w md (Fr.refl g w) hm hu
  | (f, args) :: xs, _, g, m, w, u, md, u', m', hd, hm, hu, hk, hR => by
    simp only [defersE] at hk
    have hne : Nat.beq f markId = false := by
      cases hb : Nat.beq f markId with
      | true => rw [hb] at hk; cases hk
      | false => rfl
    rw [hne] at hk
    simp only [cond_false] at hk
    cases hd with
    | mark _ => exact absurd hne (by simp)
    | @cons _ d _ ds h0 h1 h2 =>
    obtain ⟨cap, vs, e1, e2, e3⟩ := h1
    simp only at e1 e3
    split at hk
    · rename_i u1 m1 h3
      obtain ⟨cs, lm, m', now, hcl, hnp, hlm, hD1, hnow, hnl, hnp1, rfl⟩ := deferC_some h3
      let st : St S := ⟨fun _ => .any, m, [], 0, 0⟩
      obtain ⟨cl1, cl2, cl3⟩ := closedB_spec hcl
      have hml : MemInv L (g.loc cs) lm w := loc_mem (st := st) hm hcl hlm
      have e3' : PRels L (g.loc cs).β (g.loc cs).G (PV.renL (idx cs) args) vs := e3.ren fun c hc b hb => by
        have h := cl1 c hc
        simp only [Gh.loc, idx_get h]; exact hb
      have hu' : ModeRel L (g.loc cs) u md := hu.cells hnp fun _ _ _ h => h
      obtain ⟨hc, hcall⟩ := hD f _ lm u u1 m' hD1 (g.loc cs) vs w md hml e3' hu'
      have hargs : d.args ++ cap = vs.toArray := by rw [← e2]
      refine ⟨hu.notRun, .func f, cap, f, vs.toArray, e1, ?_, hcall.mono ?_⟩
      · rw [e1]
        simp only [invoke, hargs]
        exact hc
      · intro e md' w' he
        obtain ⟨v, hv, g', hF, hM, hU⟩ := he
        subst hv
        simp only
        obtain ⟨hn1, hn2⟩ := someAll_spec hnow
        have A : Around L g st w cs m' g' w' now := ⟨hm, cl3, fun cc hcc => by
          obtain ⟨v, hv, _⟩ := cl2 cc hcc
          obtain ⟨b, _, _, hb, _⟩ := hm.cell cc v hv
          exact ⟨b, hb⟩, hF, hM, hnl, fun i hi => by
            have hi' : i < now.length := by omega
            refine ⟨now[i], List.getElem?_eq_getElem hi', ?_⟩
            have := (hn2 i now[i]).1 (List.getElem?_eq_getElem hi')
            rwa [cellAt_take hi] at this⟩
        refine leaves_ok hD (h2.mono A.gmono A.βmono) A.memAft (hU.cells hnp1 fun _ _ _ h => h) hk fun g'' w'' md'' hF' hM' hU' => hR g'' w'' md'' (A.frAft.trans hF') hM' hU'
    · cases hk

/-! ### Results -/

def retOf (tmps : Array Value) : ResultVar → Sem Value
  | .tmp t => pure (tmps.getD t undef)
  | .cell a t => do loadVar t (← asAddr (tmps.getD a undef))

theorem results_eq (fn : Func) (tmps : Array Value) : results fn tmps = (do let vs ← fn.results.mapM (retOf tmps); pure (if h : vs.size = 1 then vs[0] else .tuple vs)) := by
  have : retOf tmps = (fun r => match r with | .tmp t => pure (tmps.getD t undef) | .cell a t => (do loadVar t (← asAddr (tmps.getD a undef)))) := by
    funext r; cases r <;> rfl
  rw [this]
  rfl

theorem resItem_ok {tmps : Array Value} (hs : ∀ i, PRel L g.β g.G (st.slots i) (tmps.getD i undef)) (hm : MemInv L g st.mem w) {r : ResultVar} {p : PV S} (h : resItem P st r = some p) :
    ∃ v, (retOf tmps r).run P w = .ok v w ∧ PRel L g.β g.G p v := by
  cases r with
  | tmp t => cases h; exact ⟨_, rfl, hs t⟩
  | cell x t =>
    simp only [resItem] at h
    split at h
    · rename_i c hx
      have hp := hs x
      rw [hx] at hp
      simp only [PRel] at hp
      obtain ⟨b, hb, hv⟩ := hp
      split at h
      · rename_i cs n hcs hn
        split at h
        · rename_i hl
          obtain ⟨hl, hnm⟩ := hl
          obtain ⟨b', vs, ty, e1, e2, e3, e4⟩ := hm.plain c cs hcs hnm
          rw [hb] at e1; cases e1
          have hcell : ∀ j v, vs[j]? = some v → w.cell? ⟨b, 0 + j, none⟩ = some v := fun j v hv => by simp [World.cell?, e2, hv]
          split at h
          · rename_i ha
            cases h
            refine ⟨.agg vs, ?_, ?_⟩
            · have := run_loadVar_agg (P := P) (w := w) (b := b) (o := 0) (vs := vs.toList) ha hn (by rw [Array.length_toList, e3, hl]) (fun j v hv => hcell j v (by simpa using hv))
              simp [retOf, hv, asAddr, this]
            · simp only [PRel]
              refine ⟨vs.toList, by simp, ?_⟩
              refine PRels.map (fun _ _ h => h.strip) (PRels.of_get (by simp [e3]) fun j x hx => ?_)
              obtain ⟨v, h1, h2⟩ := e4 j x hx
              exact ⟨v, by simpa using h1, h2.1⟩
          · rename_i p' ha
            cases h
            obtain ⟨v, h1, h2⟩ := e4 0 p' rfl
            refine ⟨v, ?_, h2.1.strip⟩
            have := run_loadVar_one (P := P) (w := w) (b := b) (o := 0) ha (hcell 0 v h1)
            simp [retOf, hv, asAddr, this]
          · cases h
        · cases h
      · cases h
    · cases h

theorem resItems_ok {tmps : Array Value} (hs : ∀ i, PRel L g.β g.G (st.slots i) (tmps.getD i undef)) (hm : MemInv L g st.mem w) : ∀ {rs : List ResultVar} {ps : List (PV S)}, rs.mapM (resItem P st) = some ps →
    ∃ vs, (rs.mapM (retOf tmps)).run P w = .ok vs w ∧ PRels L g.β g.G ps vs
  | [], ps, h => by
    simp at h; subst h; exact ⟨[], by simp, by simp only [PRels]⟩
  | r :: rs, ps, h => by
    simp only [List.mapM_cons, Option.bind_eq_bind, Option.pure_def] at h
    obtain ⟨p, hp, h⟩ := Option.bind_eq_some_iff.1 h
    obtain ⟨qs, hq, h⟩ := Option.bind_eq_some_iff.1 h
    cases h
    obtain ⟨v, h1, h2⟩ := resItem_ok hs hm hp
    obtain ⟨vs, h3, h4⟩ := resItems_ok hs hm hq
    refine ⟨v :: vs, ?_, ?_⟩
    · simp only [List.mapM_cons, Sem.run_bind, h1, Result.andThen_ok, h3, Sem.run_pure]
    · simp only [PRels]; exact ⟨h2, h4⟩

theorem results_ok {tmps : Array Value} (hs : ∀ i, SRel L g (.slot i) (st.slots i) (tmps.getD i undef)) (hm : MemInv L g st.mem w) {rf : Bool} {fn : Func} {p : PV S} (h : resultsE P rf fn st = some p) :
    ∃ v, (results fn tmps).run P w = .ok v w ∧ ∃ g', Fr g w g' w ∧ MemInv L g' st.mem w ∧ SRel L g' .res p v := by
  unfold resultsE at h
  cases hps : fn.results.toList.mapM (resItem P st) with
  | none => simp [hps] at h
  | some ps =>
    obtain ⟨vs, h1, h2⟩ := resItems_ok (fun i => (hs i).1) hm hps
    have hrun : (results fn tmps).run P w = .ok (if h : vs.toArray.size = 1 then vs.toArray[0] else .tuple vs.toArray) w := by
      simp only [results_eq, Array.mapM_eq_mapM_toList, Sem.run_bind, Sem.run_pure, map_eq_pure_bind, h1, Result.andThen_ok]
    have hl := h2.length
    have hps2 : ∀ q, fn.results.toList = [.tmp q] → ps = [st.slots q] := fun q e => by
      rw [e] at hps
      simp [resItem] at hps
      exact hps.symm
    rw [hps] at h
    rcases ps with _ | ⟨q, _ | ⟨q2, qs⟩⟩ <;> rcases vs with _ | ⟨v, _ | ⟨v2, vs⟩⟩ <;> try (simp at hl; done)
    · simp only at h; cases h
      refine ⟨_, hrun, g, Fr.refl g w, hm, ?_, trivial⟩
      simp only [List.map_nil, PRel]
      exact ⟨[], by simp, by simp only [PRels]⟩
    · simp only [PRels, and_true] at h2
      have hrun' : (results fn tmps).run P w = .ok v w := by simpa using hrun
      have hq : p = q ∨ ((∀ k l, p ≠ .own k l) ∧ p = q.norm) := by
        simp only at h
        split at h
        · cases h; exact .inl rfl
        · cases h
          split
          · exact .inl rfl
          · rename_i hno
            refine .inr ⟨fun k l => ?_, rfl⟩
            cases q <;> simp [PV.norm]
      rcases hq with rfl | ⟨hno, rfl⟩
      · by_cases hown : ∃ k l, p = .own k l
        · obtain ⟨k, l, rfl⟩ := hown
          have : ∃ q, fn.results.toList = [.tmp q] := by
            revert hps
            cases hr : fn.results.toList with
            | nil => simp
            | cons r rs =>
              cases rs with
              | cons r2 rs2 =>
                intro hps
                simp only [List.mapM_cons, Option.bind_eq_bind, Option.pure_def] at hps
                obtain ⟨_, _, hps⟩ := Option.bind_eq_some_iff.1 hps
                obtain ⟨qs, hqs, hps⟩ := Option.bind_eq_some_iff.1 hps
                obtain ⟨_, _, hqs⟩ := Option.bind_eq_some_iff.1 hqs
                obtain ⟨_, _, hqs⟩ := Option.bind_eq_some_iff.1 hqs
                cases hqs
                simp at hps
              | nil =>
                intro hps
                cases r with
                | tmp q => exact ⟨q, rfl⟩
                | cell x t =>
                  simp only [List.mapM_cons, List.mapM_nil, Option.bind_eq_bind, Option.pure_def] at hps
                  obtain ⟨q', hq', hps⟩ := Option.bind_eq_some_iff.1 hps
                  simp at hps
                  subst hps
                  exfalso
                  simp only [resItem] at hq'
                  repeat' split at hq'
                  all_goals first
                    | (cases hq'; done)
                    | (simp at hq'; done)
                    | (rename_i p' _; cases p' <;> simp [PV.strip] at hq')
                    | (rename_i p' _ _; cases p' <;> simp [PV.strip] at hq')
                    | (rename_i p' _ _ _; cases p' <;> simp [PV.strip] at hq')
          obtain ⟨t, ht⟩ := this
          have hp := hps2 t ht
          simp only [List.cons.injEq, and_true] at hp
          have hv : v = tmps.getD t undef := by
            rw [ht] at h1
            simp [retOf] at h1
            simpa using h1.symm
          refine ⟨v, hrun', g.mv (.slot t) .res, Fr.mv g w _ _, hm.mv, h2, ?_⟩
          rw [hp, hv]
          exact (hs t).2.mv_self
        · refine ⟨v, hrun', g, Fr.refl g w, hm, h2, ?_⟩
          cases p <;> first | trivial | exact absurd ⟨_, _, rfl⟩ hown
      · refine ⟨v, hrun', g, Fr.refl g w, hm, h2.norm, ?_⟩
        generalize hq2 : q.norm = p2 at hno
        cases p2 <;> first | trivial | exact absurd rfl (hno _ _)
    · simp only at h; cases h
      refine ⟨.tuple (v :: v2 :: vs).toArray, by rw [hrun]; simp, g, Fr.refl g w, hm, ?_, trivial⟩
      simp only [PRel]
      exact ⟨_, rfl, h2.map fun _ _ h => h.norm⟩

/-! ### Functions -/

theorem trim_ok {np : Nat} {p : PV S} {m : Mem S} {v : Value} {pos : Pos} (hm : MemInv L g m w) (hp : SRel L g pos p v) : ∃ g', FrN np g w g' w ∧ MemInv L g' (trim np p m) w ∧ SRel L g' pos p v := by
  unfold trim
  split
  · rename_i h
    exact ⟨g.cut np, FrN.cut (Nat.le_refl _), hm.cut h.2, hp.1.sub fun c hc b hb => β_cut (Nat.lt_of_lt_of_le (maxL_lt hc) h.1) hb, hp.2⟩
  · exact ⟨g, (Fr.refl g w).toN, hm, hp⟩

theorem FrN.toFr {m : Mem S} {g' : Gh} {w' : World} (h : FrN m.length g w g' w') (hm : MemInv L g m w) : Fr g w g' w' :=
  ⟨h.os, h.tape, h.output, h.size, h.keep, h.gmono, fun c b hb => h.βmono c b (by
    obtain ⟨ps, hps⟩ := hm.dom c b hb
    exact cellAt_lt hps) hb, h.βnew⟩

theorem ret_ok {tmps : Array Value} {m0 : Mem S} {g0 : Gh} {w0 : World} (h0 : MemInv L g0 m0 w0) (hF : FrN m0.length g0 w0 g w) (hs : ∀ i, SRel L g (.slot i) (st.slots i) (tmps.getD i undef)) (hm : MemInv L g st.mem w)
    {rf : Bool} {fn : Func} {p : PV S} (h : resultsE P rf fn st = some p) :
    ∃ v, (results fn tmps).run P w = .ok v w ∧ ResOk L g0 w0 (.ret p, trim m0.length p st.mem) (.returned v) w := by
  obtain ⟨v, h1, g1, h2, h3, h4⟩ := results_ok hs hm h
  obtain ⟨g2, h5, h6, h7⟩ := trim_ok (np := m0.length) h3 h4
  exact ⟨v, h1, g2, FrN.toFr (hF.trans (h2.toN.trans h5)) h0, h6, v, rfl, h7⟩

theorem unlo_spec {m : Mem S} {p q : PV S} {c : Nat} (h : unlo L m p = some (q, c)) : ∃ x y k n cs l, p = .agg [x, y, .lo k c n] ∧ q = .agg [x, y, .d (.sl k l)] ∧ cellAt m c = some cs ∧ elsOf L k n cs = some l := by
  unfold unlo at h
  split at h
  · split at h
    · rename_i cs hc
      split at h
      · rename_i l hl; cases h; exact ⟨_, _, _, _, cs, l, rfl, rfl, hc, hl⟩
      · cases h
    · cases h
  · cases h

theorem dv_plain {p : PV S} {d : DV S} (h : p.dv? = some d) : PV.plain p = true := by cases p <;> simp [PV.dv?, PV.plain] at h ⊢

/-- A slice whose variables are the evaluator's own becomes a plain one. -/
theorem free_ok {np : Nat} {p q : PV S} {c : Nat} {m : Mem S} {v : Value} {pos : Pos} (hm : MemInv L g m w) (hp : PRel L g.β g.G p v) (hu : unlo L m p = some (q, c)) (hc : np ≤ c) (hq : maxL q.ptrs ≤ np) (hn : maxL (ptrsMem (m.take np)) ≤ np) :
    ∃ g', FrN np g w g' w ∧ MemInv L g' (m.take np) w ∧ SRel L g' pos q v := by
  obtain ⟨x, y, k, n, cs, l, rfl, rfl, hcs, hl⟩ := unlo_spec hu
  simp only [PRel] at hp
  obtain ⟨vs, rfl, hp⟩ := hp
  obtain ⟨e1, e2⟩ := elsOf_spec hl
  match vs, hp with
  | [vx, vy, vz], hp =>
  simp only [PRels, PRel] at hp
  obtain ⟨hx, hy, ⟨b, hb, rfl⟩, _⟩ := hp
  obtain ⟨b', bs, ty, q1, q2, q3, q4⟩ := hm.cell c cs hcs
  rw [hb] at q1; cases q1
  have hcutm := hm.cut hn
  -- the new ghost
  let g2 : Gh := { β := (g.cut np).β, G := fun b' o => if b' = b then (match w.heap[b]? with | some (.cells vs _ _) => vs[o]? | _ => none) else g.G b' o, ω := g.ω }
  have hne : ∀ c' b', g2.β c' = some b' → b' ≠ b := fun c' b' h e => by
    have := cut_β h
    subst e
    have := hm.inj c' c b' this.2 hb
    omega
  have hGm : ∀ b' o v, g.G b' o = some v → g2.G b' o = some v := fun b' o v h => by
    show (if b' = b then _ else g.G b' o) = some v
    split
    · rename_i e; subst e; rw [hm.βG c b' hb] at h; cases h
    · exact h
  have hGn : ∀ b' o, b' ≠ b → g2.G b' o = g.G b' o := fun b' o h => by
    show (if b' = b then _ else g.G b' o) = _
    rw [if_neg h]
  have hF : FrN np g w g2 w := ⟨rfl, rfl, rfl, Nat.le_refl _, fun b' _ h1 h2 => ⟨rfl, fun o => hGn b' o fun e => h1 c (e ▸ hb), h2⟩, hGm, fun c' b' h1 h2 => β_cut h1 h2, fun c' b' h => .inl (cut_β h).2⟩
  refine ⟨g2, hF, ⟨fun c' ps hps => ?_, hcutm.dom, hcutm.inj, fun c' b' h o => ?_, fun b' o v h => ?_, fun b' r h => ?_, hcutm.wok⟩, ?_, trivial⟩
  · obtain ⟨b', vs', ty', r1, r2, r3, r4⟩ := hcutm.cell c' ps hps
    refine ⟨b', vs', ty', r1, r2, r3, fun j p hp => ?_⟩
    obtain ⟨v, hv, hr⟩ := r4 j p hp
    exact ⟨v, hv, hr.1.mono hGm (fun _ _ h => h), hr.2⟩
  · rw [hGn b' o (hne c' b' h)]; exact hcutm.βG c' b' h o
  · by_cases e : b' = b
    · subst e
      have h : (if b' = b' then (match w.heap[b']? with | some (.cells vs _ _) => vs[o]? | _ => none) else g.G b' o) = some v := h
      rw [if_pos rfl] at h
      cases hh : w.heap[b']? with
      | none => rw [hh] at h; cases h
      | some ob =>
        rw [hh] at h
        cases ob <;> first | (cases h; done) | skip
        rename_i vs' t' fr'
        simp only at h
        simp [World.cell?, hh, h]
    · rw [hGn b' o e] at h; exact hm.gs b' o v h
  · obtain ⟨r1, r2, r3⟩ := hcutm.rt b' r h
    refine ⟨r1, r2, fun o ho => ?_⟩
    rw [hGn b' o fun e => (hm.rt b' r h).1 c (e ▸ hb)]
    exact r3 o ho
  · have hq3 : ∀ c' ∈ PV.ptrsL [x, y, .d (.sl k l)], c' < np := fun c' hc' => Nat.lt_of_lt_of_le (maxL_lt (by simpa [PV.ptrs] using hc')) hq
    have hptr : ∀ {z : PV S} {u : Value}, PRel L g.β g.G z u → (∀ c' ∈ z.ptrs, c' < np) → PRel L g2.β g2.G z u := fun {z u} hz hlt => (hz.sub fun c' hc' b' hb' => β_cut (hlt c' hc') hb').mono hGm (fun _ _ h => h)
    simp only [PRel]
    refine ⟨[vx, vy, .slice (some ⟨b, 0, none⟩) n n], rfl, ?_⟩
    simp only [PRels, PRel, and_true]
    refine ⟨hptr hx fun c' hc' => hq3 c' (by simp [PV.ptrsL, hc']), hptr hy fun c' hc' => hq3 c' (by simp [PV.ptrsL, hc']), ?_⟩
    rw [← e1]
    refine DRel.sl_mk (Nat.le_refl _) fun i e he j d hd => ?_
    obtain ⟨pp, h1, h2⟩ := e2 i e he j d hd
    obtain ⟨u, hu', hur⟩ := q4 _ _ h1
    refine ⟨u, ?_, (hur.1.dv h2).mono hGm⟩
    show (if b = b then _ else g.G b _) = some u
    rw [if_pos rfl, q2]
    cases ty with
    | cells t hn => simp only [VTy.obj, Nat.zero_add]; exact hu'
    | map x0 es k0 he0 _ =>
      exfalso
      rw [he0] at h1
      have h1' : i * L.sz k + j = 0 := by
        have := (List.getElem?_eq_some_iff.1 h1).1
        simp at this; omega
      rw [h1'] at h1
      simp at h1; subst h1
      simp [PV.dv?] at h2

theorem retE_ok {tmps : Array Value} {m0 : Mem S} {g0 : Gh} {w0 : World} (h0 : MemInv L g0 m0 w0) (hF : FrN m0.length g0 w0 g w) (hs : ∀ i, SRel L g (.slot i) (st.slots i) (tmps.getD i undef)) (hm : MemInv L g st.mem w)
    {rf : Bool} {fn : Func} {p : PV S} (h : resultsE P rf fn st = some p) {r : Res S × Mem S} (hr : retE L m0.length p st.mem = some r) :
    ∃ v, (results fn tmps).run P w = .ok v w ∧ ResOk L g0 w0 r (.returned v) w := by
  unfold retE at hr
  split at hr
  · split at hr
    · rename_i q c hu
      split at hr
      · rename_i hc
        cases hr
        obtain ⟨v, h1, g1, h2, h3, h4⟩ := results_ok hs hm h
        obtain ⟨g2, h5, h6, h7⟩ := free_ok (pos := .res) h3 h4.1 hu hc.1 hc.2.1 hc.2.2
        exact ⟨v, h1, g2, FrN.toFr (hF.trans (h2.toN.trans h5)) h0, h6, v, rfl, h7⟩
      · cases hr
    · cases hr
  · cases hr
    exact ret_ok h0 hF hs hm h

theorem pan_ok {m0 : Mem S} {g0 : Gh} {w0 : World} (h0 : MemInv L g0 m0 w0) (hF : FrN m0.length g0 w0 g w) {m : Mem S} (hm : MemInv L g m w) {p : PV S} {v : Value} (hp : PRel L g.β g.G p v) :
    ResOk L g0 w0 (.pan p, trim m0.length p m) (.panicked [{ v, recovered := false }]) w := by
  unfold trim
  split
  · rename_i h
    exact ⟨g.cut m0.length, FrN.toFr (hF.trans (FrN.cut (Nat.le_refl _))) h0, hm.cut h.2, v, rfl, hp.sub fun c hc b hb => β_cut (Nat.lt_of_lt_of_le (maxL_lt hc) h.1) hb⟩
  · exact ⟨g, FrN.toFr hF h0, hm, v, rfl, hp⟩

theorem ret_ok' {tmps : Array Value} {m0 : Mem S} {g0 : Gh} {w0 : World} (h0 : MemInv L g0 m0 w0) (hF : FrN m0.length g0 w0 g w) (hs : ∀ i, PRel L g.β g.G (st.slots i) (tmps.getD i undef)) {m : Mem S} (hm : MemInv L g m w)
    {rf : Bool} {fn : Func} {p : PV S} (h : resultsE P rf fn { st with slots := fun t => (st.slots t).strip, mem := m } = some p) :
    ∃ v, (results fn tmps).run P w = .ok v w ∧ ResOk L g0 w0 (.ret p, trim m0.length p m) (.returned v) w := by
  obtain ⟨v, h1, g1, h2, h3, h4⟩ := results_ok (st := { st with slots := fun t => (st.slots t).strip, mem := m }) (fun i => ⟨(hs i).strip, OwnOk.of_strip _ _⟩) hm h
  obtain ⟨g2, h5, h6, h7⟩ := trim_ok (np := m0.length) h3 h4
  exact ⟨v, h1, g2, FrN.toFr (hF.trans (h2.toN.trans h5)) h0, h6, v, rfl, h7⟩

theorem startE_inv {m : Mem S} (hm : MemInv L g m w) {fn : Func} {args : List (PV S)} {vs : List Value} (hl : args.length = vs.length) (hn : args.length ≤ fn.ntmps)
    (ha : ∀ (i : Nat) (p : PV S), args[i]? = some p → ∃ v, vs[i]? = some v ∧ SRel L g (.slot i) p v) :
    Inv L g (startE fn args m) { tmps := vs.toArray ++ Array.replicate (fn.ntmps - vs.toArray.size) undef, defers := [] } w where
  size := by simp [startE]; omega
  slot i := by
    show SRel L g (.slot i) (if i < args.length then args.getD i .any else .any) _
    split
    · rename_i hi
      obtain ⟨v, hv, hr⟩ := ha i args[i] (List.getElem?_eq_getElem hi)
      have h1 : args.getD i .any = args[i] := by simp [List.getD, List.getElem?_eq_getElem hi]
      have h2 : (vs.toArray ++ Array.replicate (fn.ntmps - vs.toArray.size) undef).getD i undef = v := by
        rw [Array.getD_eq_getD_getElem?, Array.getElem?_append_left (by simpa [← hl] using hi)]
        simp [hv]
      rw [h1, h2]; exact hr
    · exact ⟨by simp only [PRel], trivial⟩
  mem := hm
  dfs := .nil

theorem evF_sound (hP : Fit P) (hcall : ∀ f args m r, dir call f args m = some r → CallOk P L f args m r) {LT : LoopT S} [NaturalL LT] {H : Hints} {f : FuncId} {args : List (PV S)} {m : Mem S}
    (hloop : ∀ key st r c, loopOf P f key = some c → dirL LT f m.length key st = some r → LoopOk P L m.length c st r) {D : DeferT S} (hD : DOk P L D)
    {r : Res S × Mem S} (hk : evF P L call LT H D f args m some = some r) : CallOk P L f args m r := by
  unfold evF at hk
  split at hk
  · cases hk
  · rename_i fn hf
    split at hk
    · cases hk
    · rename_i c hb
      split at hk
      · rename_i hn
        rw [evK_cps] at hk
        cases h1 : evK P L call LT H f m.length c (startE fn args m) fun e s => some (e, s) with
        | none => simp [h1] at hk
        | some q =>
          obtain ⟨e, st'⟩ := q
          simp only [h1, Option.bind_some] at hk
          have hk : finishE P L (H.ret f) D fn m.length e st' = some r := by
            cases hfin : finishE P L (H.ret f) D fn m.length e st' with
            | none => simp [hfin] at hk
            | some r' => simpa [hfin] using hk
          intro g vs w hm hl ha
          refine .inl ⟨run_enter hP hf hb _ _, calls_of_wp_defers hf hb (wp_mono (evK_sound hP.mixed hcall hloop (hP.heads hf hb) (startE_inv hm hl hn ha) h1) fun x a' w' hx => ?_)⟩
          obtain ⟨g', hF, hx⟩ := hx
          have base : Inv L g' st' a' w' → (match st'.dfs with
              | [] => (resultsE P (H.ret f) fn st').bind fun p => retE L m.length p st'.mem
              | ds =>
                match defersE D ds none st'.mem with
                | some (none, m1) => (resultsE P (H.ret f) fn { st' with slots := fun t => (st'.slots t).strip, mem := m1 }).map fun p => (Res.ret p, trim m.length p m1)
                | _ => none) = some r → Leaves P fn a'.tmps (ResOk L g w r) a'.defers .returning w' := by
            intro hI hk
            split at hk
            · rename_i hds
              obtain ⟨p, hp, hre⟩ := Option.bind_eq_some_iff.1 hk
              have hd := hI.dfs
              rw [hds] at hd
              cases hdd : a'.defers with
              | cons _ _ => rw [hdd] at hd; cases hd
              | nil =>
                obtain ⟨v, h2, h3⟩ := retE_ok (st := st') hm hF hI.slot hI.mem hp hre
                exact ⟨v, h2, h3⟩
            · split at hk
              · rename_i m1 hde
                obtain ⟨p, hp, rfl⟩ := Option.map_eq_some_iff.1 hk
                refine leaves_ok hD hI.dfs hI.mem (u := none) rfl hde fun g2 w2 md hF2 hM2 hU2 => ?_
                rw [ModeRel] at hU2
                subst hU2
                obtain ⟨v, h2, h3⟩ := ret_ok' (st := st') hm (hF.trans hF2.toN) (fun i => (hI.slot i).1.mono hF2.gmono hF2.βmono) hM2 hp
                exact ⟨v, h2, h3⟩
              · cases hk
          unfold finishE at hk
          cases e with
          | normal =>
            obtain ⟨hx1, hI⟩ := hx
            subst hx1
            exact base hI hk
          | ret =>
            obtain ⟨hx1, hI⟩ := hx
            subst hx1
            exact base hI hk
          | exit id => cases hk
          | pan p =>
            obtain ⟨v, hx1, hp, hM, hdfs, hsl⟩ := hx
            subst hx1
            show Leaves P fn a'.tmps (ResOk L g w r) a'.defers (.panicking [{ v, recovered := false }]) w'
            simp only at hk
            split at hk
            · rename_i hds
              cases hk
              rw [hds] at hdfs
              cases hdd : a'.defers with
              | cons _ _ => rw [hdd] at hdfs; cases hdfs
              | nil => exact pan_ok hm hF hM hp
            · split at hk
              · rename_i m1 hde
                obtain ⟨q, hq, rfl⟩ := Option.map_eq_some_iff.1 hk
                refine leaves_ok hD hdfs hM (u := some p) ⟨v, rfl, hp⟩ hde fun g2 w2 md hF2 hM2 hU2 => ?_
                rw [ModeRel] at hU2
                subst hU2
                obtain ⟨v, h2, h3⟩ := ret_ok' (st := st') hm (hF.trans hF2.toN) (fun i => (hsl i).mono hF2.gmono hF2.βmono) hM2 hq
                exact ⟨v, h2, h3⟩
              · rename_i q m1 hde
                cases hk
                refine leaves_ok hD hdfs hM (u := some p) ⟨v, rfl, hp⟩ hde fun g2 w2 md hF2 hM2 hU2 => ?_
                obtain ⟨u, hmd, hu⟩ := hU2
                subst hmd
                exact pan_ok hm (hF.trans hF2.toN) hM2 hu
              · cases hk
      · cases hk

end
end Go.Proofs.YtanfoijdfcnpoaaGreatDoor.Ev
