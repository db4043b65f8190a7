/- This file proves that the evaluator's continuation passing loses nothing; without any condition. -/
import Derived.Test.YtanfoijdfcnpoaaGreatDoorEA
set_option linter.unusedVariables false
set_option linter.unusedSimpArgs false
namespace Go.Proofs.YtanfoijdfcnpoaaGreatDoor.Ev

section
variable {S : Sig} {P : Program} {L : Lay S} {call : CallT S} [Natural call] {ρ : Type}

theorem cond_bind {α β : Type} {b : Bool} {x y : Option α} {f : α → Option β} : (cond b x y).bind f = cond b (x.bind f) (y.bind f) := by cases b <;> rfl

theorem binK_cps {o : Oper} {op : BinOp} {xt : TypeId} {x y : Operand} {p q : PV S} {K : Out S → Option ρ} : binK P o op xt x y p q K = (binK P o op xt x y p q some).bind K := by
  unfold binK
  repeat' (first | rfl | split | (rw [cond_bind]; rfl))

theorem convK_cps {o : Oper} {s d : TypeId} {p : PV S} {K : Out S → Option ρ} : convK P L o s d p K = (convK P L o s d p some).bind K := by
  unfold convK
  repeat' (first | rfl | split | (rw [cond_bind]; rfl))

theorem sliceK_cps {o : Oper} {st : St S} {t : TypeId} {p : PV S} {lo hi mx : Option Operand} {K : Out S → Option ρ} : sliceK P L o st t p lo hi mx K = (sliceK P L o st t p lo hi mx some).bind K := by
  unfold sliceK
  repeat' (first | rfl | split | (rw [cond_bind]; rfl))

theorem appK_cps {o : Oper} {st : St S} {ts : List TypeId} {xs : List Operand} {K : Out S → Option ρ} : appK P L o st ts xs K = (appK P L o st ts xs some).bind K := by
  unfold appK
  repeat' (first | rfl | split | (rw [cond_bind]; rfl))

theorem mapSetK_cps {o : Oper} {st : St S} {t : TypeId} {m k x : Operand} {K : Out S → Option ρ} : mapSetK P L o st t m k x K = (mapSetK P L o st t m k x some).bind K := by
  unfold mapSetK
  repeat' (first | rfl | split)

theorem mapGetK_cps {o : Oper} {st : St S} {t : TypeId} {m k : Operand} {K : Out S → Option ρ} : mapGetK P L o st t m k K = (mapGetK P L o st t m k some).bind K := by
  unfold mapGetK
  repeat' (first | rfl | split)

omit [Natural call] in
theorem sliceLitK_cps {tk : Bool} {cid : Nat} {o : Oper} {st : St S} {n : Nat} {k : S.K} {l : List (S.El k)} {K : Out S → Option ρ} : sliceLitK L tk cid o st n k l K = (sliceLitK L tk cid o st n k l some).bind K := by
  unfold sliceLitK
  repeat' (first | rfl | split)

omit [Natural call] in
theorem loIdxK_cps {o : Oper} {st : St S} {t : TypeId} {q : S.K × Nat × Nat} {i : Operand} {K : Out S → Option ρ} : loIdxK P L o st t q i K = (loIdxK P L o st t q i some).bind K := by
  unfold loIdxK
  repeat' (first | rfl | split | (rw [cond_bind]; rfl))

theorem mapDelK_cps {o : Oper} {st : St S} {ts : List TypeId} {xs : List Operand} {K : Out S → Option ρ} : mapDelK P L o st ts xs K = (mapDelK P L o st ts xs some).bind K := by
  unfold mapDelK
  repeat' (first | rfl | split)

theorem builtinK_cps {o : Oper} {st : St S} {b : Builtin} {ts : List TypeId} {xs : List Operand} {K : Out S → Option ρ} : builtinK P L o st b ts xs K = (builtinK P L o st b ts xs some).bind K := by
  unfold builtinK
  repeat' (first | rfl | exact appK_cps | exact mapDelK_cps | split | (rw [cond_bind]; rfl))

theorem callK_cps {o : Oper} {tk fl : Bool} {st : St S} {f : Operand} {ts : List TypeId} {xs : List Operand} {K : Out S → Option ρ} :
    callK P L call o tk fl st f ts xs K = (callK P L call o tk fl st f ts xs some).bind K := by
  unfold callK
  split
  · split
    · rename_i args _
      rw [callC_eq, callC_eq]
      cases callE (dir call) st _ args with
      | none => rfl
      | some q =>
        obtain ⟨r, cs, now, more⟩ := q
        cases r <;> rfl
    · rfl
  · rfl

theorem loadK_cps {o : Oper} {tk : Bool} {st : St S} {t : TypeId} {p : PV S} {K : Out S → Option ρ} : loadK P L o tk st t p K = (loadK P L o tk st t p some).bind K := by
  unfold loadK
  repeat' (first | rfl | split | (rw [cond_bind]; rfl))

omit [Natural call] in
theorem pickK_cps {o : Oper} {p : PV S} {K : Out S → Option ρ} : pickK o p K = (pickK o p some).bind K := by
  unfold pickK; split <;> rfl

theorem effK_cps {tk fl : Bool} {cid : Nat} {o : Oper} {st : St S} {K : Out S → Option ρ} : effK P L call tk fl cid o st K = (effK P L call tk fl cid o st some).bind K := by
  unfold effK
  split
  all_goals (repeat' (first | rfl | exact binK_cps | exact convK_cps | exact sliceK_cps | exact callK_cps | exact builtinK_cps | exact loadK_cps | exact mapSetK_cps | exact mapGetK_cps | exact sliceLitK_cps | exact loIdxK_cps | (rw [cond_bind, ← pickK_cps, ← pickK_cps]) | split | (rw [cond_bind]; rfl)))

theorem opK_cps {tk fl : Bool} {ops : Array Oper} {i : Nat} {st : St S} {K : Out S → Option ρ} : opK P L call tk fl ops i st K = (opK P L call tk fl ops i st some).bind K := by
  unfold opK
  split
  · rfl
  · split
    · exact effK_cps
    · split
      · rfl
      · split
        · split
          · rw [cond_bind]; rw [effK_cps]; rfl
          · rw [cond_bind]; rw [effK_cps]; rfl
        · rfl
        · rfl

theorem know_self {st : St S} {t : Nat} {b : Bool} (h : st.slots t = .d (.bool b)) : st.know t b = st := by
  obtain ⟨slots, mem, dfs, nt, rb⟩ := st
  simp only [St.know, St.mk.injEq, and_true]
  funext j
  by_cases hj : j = t
  · subst hj; rw [upd_same]; exact h.symm
  · rw [upd_other _ _ hj]

omit [Natural call] in
theorem opG_eq {tk fl : Bool} {ops : Array Oper} {i : Nat} {st : St S} {K : St S → Out S → Option ρ} : opG P L call tk fl ops i st K = opK P L call tk fl ops i st (K st) := by
  unfold opG opK
  split
  · rfl
  · split
    · rfl
    · split
      · rfl
      · split
        · rename_i b hb
          have h1 : ∀ b', b = b' → st.know _ b' = st := fun b' e => know_self (e ▸ hb)
          split
          · cases b
            · simp only [cond_false]; rw [h1 false rfl]
            · simp only [cond_true]; rw [h1 true rfl]
          · cases b
            · simp only [cond_false]; rw [h1 false rfl]
            · simp only [cond_true]; rw [h1 true rfl]
        · rfl
        · rfl

theorem opsK_cps {tk fl : Nat → Bool} {ops : Array Oper} : ∀ {l : List Nat} {st : St S} {K : Ex S → St S → Option ρ},
    opsK P L call tk fl ops l st K = (opsK P L call tk fl ops l st fun e s => some (e, s)).bind fun q => K q.1 q.2
  | [], st, K => rfl
  | i :: r, st, K => by
    simp only [opsK, opG_eq]
    conv => lhs; rw [opK_cps]
    conv => rhs; rw [opK_cps]
    cases opK P L call (tk i) (fl i) ops i st some with
    | none => rfl
    | some out =>
      cases out with
      | ok e => simp only [Option.bind_some, cond_bind]; rw [opsK_cps]; rfl
      | pan p e => rfl

theorem drawK_cps {tk fl : Nat → Bool} {ops : Array Oper} {np base : Nat} : ∀ {n : Nat} {listed : Array Bool} {ex : Seen} {st : St S} {K : Ex S → St S → Option ρ},
    drawK P L call tk fl ops np base n listed ex st K = (drawK P L call tk fl ops np base n listed ex st fun e s => some (e, s)).bind fun q => K q.1 q.2
  | 0, listed, ex, st, K => by
    simp only [drawK]; split <;> rfl
  | n + 1, listed, ex, st, K => by
    simp only [drawK, opG_eq]
    split
    · rename_i i _
      rw [cond_bind]
      conv => lhs; rw [opK_cps]
      conv => rhs; rw [opK_cps]
      cases opK P L call (tk i) (fl i) ops i st some with
      | none => rfl
      | some out =>
        cases out with
        | ok e => simp only [Option.bind_some, cond_bind]; rw [drawK_cps]; rfl
        | pan p e => rfl
    · split
      · rfl
      · rename_i i _
        rw [cond_bind]
        conv => lhs; rw [opK_cps]
        conv => rhs; rw [opK_cps]
        cases opK P L call (tk i) (fl i) ops i st some with
        | none => rfl
        | some out =>
          cases out with
          | ok e => simp only [Option.bind_some, cond_bind]; rw [drawK_cps]; rfl
          | pan p e => simp only [Option.bind_some, cond_bind]; rfl
      · rename_i i j _
        cases n with
        | zero => rfl
        | succ n =>
          simp only
          rw [cond_bind]
          conv => lhs; rw [opK_cps]
          conv => rhs; rw [opK_cps]
          cases opK P L call (tk i) (fl i) ops i st some with
          | none => rfl
          | some out =>
            cases out with
            | ok e =>
              simp only [Option.bind_some]
              conv => lhs; rw [opK_cps]
              conv => rhs; rw [opK_cps]
              cases opK P L call (tk j) (fl j) ops j (e.apply st) some with
              | none => rfl
              | some out2 =>
                cases out2 with
                | ok e2 => simp only [Option.bind_some]; rw [drawK_cps]; rfl
                | pan p e => rfl
            | pan p e => rfl
      · rfl

theorem regionK_cps {H : Hints} {f np id : Nat} {ops : Array Oper} {draw : Bool} {st : St S} {K : Ex S → St S → Option ρ} :
    regionK P L call H f np id ops draw st K = (regionK P L call H f np id ops draw st fun e s => some (e, s)).bind fun q => K q.1 q.2 := by
  unfold regionK
  simp only
  split
  · exact drawK_cps
  · exact opsK_cps

theorem copyK_cps {i : CopyI} {st : St S} {ρ : Type} {K : Ex S → St S → Option ρ} : copyK P L i st K = (copyK P L i st fun e s => some (e, s)).bind fun q => K q.1 q.2 := by
  unfold copyK
  split
  · split
    · rfl
    · split
      · cases decide (_ ≤ 1) <;> rfl
      · rfl
    · rfl
  · rfl

theorem evK_cps {LT : LoopT S} [hl : NaturalL LT] {H : Hints} {f np : Nat} : ∀ {c : Code} {ρ : Type} {st : St S} {K : Ex S → St S → Option ρ},
    evK P L call LT H f np c st K = (evK P L call LT H f np c st fun e s => some (e, s)).bind fun q => K q.1 q.2
  | .skip, _, st, K => rfl
  | .label _, _, st, K => rfl
  | .region .., _, st, K => by simp only [evK]; exact regionK_cps
  | .seq a b, _, st, K => by
    simp only [evK]
    cases hcp : copyOf a b with
    | some i => exact copyK_cps
    | none =>
    simp only
    conv => lhs; rw [evK_cps (c := a)]
    conv => rhs; rw [evK_cps (c := a)]
    cases evK P L call LT H f np a st fun e s => some (e, s) with
    | none => rfl
    | some q =>
      obtain ⟨e, s⟩ := q
      cases e with
      | normal => simp only [Option.bind_some]; exact evK_cps
      | _ => rfl
  | .cond c a b, _, st, K => by
    simp only [evK]
    split
    · rw [cond_bind, evK_cps (c := a), evK_cps (c := b)]
    · rfl
  | .block id c, _, st, K => by
    simp only [evK]
    conv => lhs; rw [evK_cps (c := c)]
    conv => rhs; rw [evK_cps (c := c)]
    cases evK P L call LT H f np c st fun e s => some (e, s) with
    | none => rfl
    | some q =>
      obtain ⟨e, s⟩ := q
      cases e with
      | exit i => simp only [Option.bind_some, cond_bind]
      | _ => rfl
  | .loop c, _, st, K => by
    simp only [evK]
    split
    · rw [hl.nat]; rfl
    · rfl
  | .exit id, _, st, K => rfl
  | .ret, _, st, K => rfl
  | .scope c, hl, st, K => by
    simp only [evK]
    exact evK_cps
  | .rangeFunc .., _, st, K => rfl
  | .goto _, _, st, K => rfl
  | .refuse _, _, st, K => rfl

theorem evF_cps {LT : LoopT S} [NaturalL LT] {H : Hints} {D : DeferT S} {f : FuncId} {args : List (PV S)} {m : Mem S} {F : Res S × Mem S → Option ρ} :
    evF P L call LT H D f args m F = (evF P L call LT H D f args m some).bind F := by
  unfold evF
  split
  · rfl
  · split
    · rfl
    · split
      · conv => lhs; rw [evK_cps]
        conv => rhs; rw [evK_cps]
        cases evK P L call LT H f m.length _ _ fun e s => some (e, s) with
        | none => rfl
        | some q =>
          simp only [Option.bind_some]
          split <;> rfl
      · rfl

end
end Go.Proofs.YtanfoijdfcnpoaaGreatDoor.Ev
