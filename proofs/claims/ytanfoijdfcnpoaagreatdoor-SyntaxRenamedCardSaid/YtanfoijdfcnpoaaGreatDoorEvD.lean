/- This file proves that in a region with an open order it makes no difference in which order the evaluator carries out what may be carried out; without any condition. -/
import Derived.Test.YtanfoijdfcnpoaaGreatDoorEvE
set_option linter.unusedVariables false
set_option linter.unusedSimpArgs false
namespace Go.Proofs.YtanfoijdfcnpoaaGreatDoor.Ev

section
variable {S : Sig} {P : Program} {L : Lay S} {call : CallT S}

/-! ### What an operation depends on -/

theorem rdRaw_agree {st st2 : St S} {t : TypeId} {x : Operand} (h : ∀ i, x = .tmp i → st.slots i = st2.slots i) : rdRaw P L st t x = rdRaw P L st2 t x := by
  cases x with
  | tmp i => simp only [rdRaw, h i rfl]
  | _ => rfl

theorem rd_agree {st st2 : St S} {t : TypeId} {x : Operand} (h : ∀ i, x = .tmp i → st.slots i = st2.slots i) : rd P L st t x = rd P L st2 t x := by
  simp only [rd, rdRaw_agree h]

theorem rdAll_agree {st st2 : St S} : ∀ {ts : List TypeId} {xs : List Operand}, (∀ i ∈ tmps xs, st.slots i = st2.slots i) → rdAll P L st ts xs = rdAll P L st2 ts xs
  | [], [], _ => rfl
  | t :: ts, x :: xs, h => by
    simp only [rdAll]
    rw [rd_agree (st2 := st2) (fun i hi => h i (by subst hi; simp [tmps])), rdAll_agree (fun i hi => h i (by
      cases x <;> simp [tmps] at hi ⊢
      · exact .inr hi
      all_goals exact hi))]
  | [], _ :: _, _ => rfl
  | _ :: _, [], _ => rfl

theorem rdAllRaw_agree {st st2 : St S} : ∀ {ts : List TypeId} {xs : List Operand}, (∀ i ∈ tmps xs, st.slots i = st2.slots i) → rdAllRaw P L st ts xs = rdAllRaw P L st2 ts xs
  | [], [], _ => rfl
  | t :: ts, x :: xs, h => by
    simp only [rdAllRaw]
    rw [rdRaw_agree (st2 := st2) (fun i hi => h i (by subst hi; simp [tmps])), rdAllRaw_agree (fun i hi => h i (by
      cases x <;> simp [tmps] at hi ⊢
      · exact .inr hi
      all_goals exact hi))]
  | [], _ :: _, _ => rfl
  | _ :: _, [], _ => rfl

theorem took_agree {st st2 : St S} {x : Operand} (h : ∀ i, x = .tmp i → st.slots i = st2.slots i) : took st x = took st2 x := by
  cases x with
  | tmp i => simp only [took, h i rfl]
  | _ => rfl

theorem tookAll_agree {st st2 : St S} : ∀ {xs : List Operand}, (∀ i ∈ tmps xs, st.slots i = st2.slots i) → tookAll st xs = tookAll st2 xs
  | [], _ => rfl
  | x :: xs, h => by
    simp only [tookAll]
    rw [took_agree (st2 := st2) (fun i hi => h i (by subst hi; simp [tmps])), tookAll_agree (fun i hi => h i (by
      cases x <;> simp [tmps] at hi ⊢
      · exact .inr hi
      all_goals exact hi))]

theorem rdB_agree {st st2 : St S} {x : Operand} (h : ∀ i, x = .tmp i → st.slots i = st2.slots i) : rdB st x = rdB st2 x := by
  cases x with
  | tmp i => simp only [rdB, h i rfl]
  | const v => cases v <;> rfl
  | _ => rfl

theorem boundOr_agree {st st2 : St S} {x : Option Operand} {d : Int} (h : ∀ i, x = some (.tmp i) → st.slots i = st2.slots i) : boundOr st x d = boundOr st2 x d := by
  cases x with
  | none => rfl
  | some x =>
    cases x with
    | tmp i => simp only [boundOr, h i rfl]
    | const v => cases v <;> rfl
    | _ => rfl

theorem cellAt_eq {m m2 : Mem S} {c : Nat} (h : m[c]? = m2[c]?) : cellAt m c = cellAt m2 c := by unfold cellAt; rw [h]

theorem fillB_agree {st st2 : St S} {fs : List Field} : ∀ {ps : List (Nat × Operand)} {cs : List (PV S)}, (∀ i ∈ tmps (ps.map (·.2)), st.slots i = st2.slots i) → fillB P L st fs ps cs = fillB P L st2 fs ps cs
  | [], cs, _ => rfl
  | (i, x) :: r, cs, h => by
    simp only [fillB]
    split
    · rw [rd_agree (st2 := st2) (fun i hi => h i (by subst hi; simp [tmps]))]
      split
      · split
        · exact fillB_agree (fun i hi => h i (by
            simp only [List.map_cons]
            cases x <;> simp [tmps] at hi ⊢
            · exact .inr hi
            all_goals exact hi))
        · rfl
      · rfl
    · rfl

theorem elsB_agree {st st2 : St S} {e : TypeId} {k : S.K} : ∀ {ps : List (Nat × Operand)} {n : Nat}, (∀ i ∈ tmps (ps.map (·.2)), st.slots i = st2.slots i) → elsB P L st e k n ps = elsB P L st2 e k n ps
  | [], n, _ => rfl
  | (i, x) :: r, n, h => by
    simp only [elsB]
    rw [rd_agree (st2 := st2) (fun i hi => h i (by subst hi; simp [tmps])), elsB_agree (st2 := st2) (ps := r) (fun i hi => h i (by
      simp only [List.map_cons]
      cases x <;> simp [tmps] at hi ⊢
      · exact .inr hi
      all_goals exact hi))]

/-! ### The cells that a call reaches -/

theorem flatMap_cong {f f' : Nat → List Nat} : ∀ {l : List Nat}, (∀ c ∈ l, f c = f' c) → l.flatMap f = l.flatMap f'
  | [], _ => rfl
  | c :: r, h => by
    simp only [List.flatMap_cons]
    rw [h c (by simp), flatMap_cong (fun c hc => h c (by simp [hc]))]



theorem reachN_sub {m : Mem S} : ∀ {n : Nat} {cs : List Nat} {c : Nat}, c ∈ cs → c ∈ reachN n m cs
  | 0, cs, c, h => h
  | n + 1, cs, c, h => by
    simp only [reachN]
    exact reachN_sub (List.mem_eraseDups.2 (List.mem_append.2 (.inl h)))

theorem reachN_agree {m m2 : Mem S} : ∀ {n : Nat} {cs : List Nat}, (∀ c ∈ reachN n m cs, m[c]? = m2[c]?) → reachN n m cs = reachN n m2 cs
  | 0, cs, _ => rfl
  | n + 1, cs, h => by
    simp only [reachN] at h ⊢
    refine (reachN_agree h).trans ?_
    refine congrArg (fun l => reachN n m2 (List.eraseDups (cs ++ l))) (flatMap_cong fun c hc => ?_)
    rw [cellAt_eq (h c (reachN_sub (List.mem_eraseDups.2 (List.mem_append.2 (.inl hc)))))]

theorem closedB_agree {m m2 : Mem S} {cs : List Nat} {args : List (PV S)} (h : ∀ c ∈ cs, m[c]? = m2[c]?) : closedB m cs args = closedB m2 cs args := by
  unfold closedB
  congr 1
  congr 1
  rw [Bool.eq_iff_iff]
  simp only [List.all_eq_true]
  constructor
  · intro hh c hc; have := hh c hc; rwa [cellAt_eq (h c hc)] at this
  · intro hh c hc; have := hh c hc; rwa [← cellAt_eq (h c hc)] at this

theorem locMem_agree {m m2 : Mem S} {cs : List Nat} (h : ∀ c ∈ cs, m[c]? = m2[c]?) : locMem m cs = locMem m2 cs := by
  unfold locMem
  suffices hs : ∀ (f : List (PV S) → List (PV S)) (l : List Nat), (∀ c ∈ l, m[c]? = m2[c]?) → (l.mapM fun c => (cellAt m c).map fun v => some (f v)) = (l.mapM fun c => (cellAt m2 c).map fun v => some (f v)) from hs _ cs h
  intro f l
  induction l with
  | nil => intro _; rfl
  | cons c r ih =>
    intro h
    simp only [List.mapM_cons]
    rw [cellAt_eq (h c (by simp)), ih (fun c hc => h c (by simp [hc]))]

theorem callC_agree {ρ : Type} {K : Res S × List Nat × List (List (PV S)) × Mem S → Option ρ} {st st2 : St S} {f : FuncId} {args : List (PV S)} (hl : st.mem.length = st2.mem.length) (h : ∀ c ∈ reachN st.mem.length st.mem (PV.ptrsL args).eraseDups, st.mem[c]? = st2.mem[c]?) :
    callC call st f args K = callC call st2 f args K := by
  unfold callC
  simp only
  rw [← hl, ← reachN_agree h, ← closedB_agree h, ← locMem_agree h]

theorem callArgs_agree {st st2 : St S} {tk fl : Bool} {fst cap : List (PV S)} {ts : List TypeId} {xs : List Operand} (h : ∀ i ∈ tmps xs, st.slots i = st2.slots i) :
    callArgs P L tk fl st fst cap ts xs = callArgs P L tk fl st2 fst cap ts xs := by
  unfold callArgs
  rw [rdAll_agree h, rdAllRaw_agree h]

/-! ### One operation -/

abbrev Slots (st st2 : St S) (xs : List Operand) : Prop := ∀ x ∈ xs, ∀ i, x = .tmp i → st.slots i = st2.slots i

theorem Slots.tmps {st st2 : St S} {xs : List Operand} (h : Slots st st2 xs) : ∀ i ∈ tmps xs, st.slots i = st2.slots i := by
  intro i hi
  unfold Ev.tmps at hi
  obtain ⟨x, hx, he⟩ := List.mem_filterMap.1 hi
  cases x <;> simp at he
  subst he
  exact h _ hx _ rfl

theorem cellsOf_agree {st st2 : St S} {tk fl : Bool} {cid : Nat} {o : Oper} (hs : Slots st st2 o.op.operands.toList)
    (hl : floats o.op = true ∨ (st.mem.length = st2.mem.length ∧ ∀ x ∈ cellsOf P L tk fl cid o st, st.mem[x.1]? = st2.mem[x.1]?)) : cellsOf P L tk fl cid o st = cellsOf P L tk fl cid o st2 := by
  obtain ⟨dst, op, type, pos, after, guard⟩ := o
  cases op <;> try rfl
  case load t a =>
    simp only [cellsOf]
    rw [rd_agree (hs a (by simp [Op.operands]))]
  case store t a x =>
    simp only [cellsOf]
    rw [rd_agree (hs a (by simp [Op.operands]))]
  case insert t m k x =>
    simp only [cellsOf]
    rw [rd_agree (hs m (by simp [Op.operands]))]
  case mapUpdate t m k x =>
    simp only [cellsOf]
    rw [rd_agree (hs m (by simp [Op.operands]))]
  case lookup t m k b =>
    simp only [cellsOf]
    rw [rd_agree (hs m (by simp [Op.operands]))]
  case call c =>
    obtain ⟨callee, args, ts⟩ := c
    cases callee <;> try rfl
    case builtin b =>
      cases b <;> try rfl
      simp only [cellsOf]
      have h1 : ∀ x ∈ args.toList, ∀ t, rd P L st t x = rd P L st2 t x := fun x hx t => rd_agree (hs x (by simp [Op.operands, Call.operands] at hx ⊢; exact hx))
      generalize args.toList = xs at h1
      generalize ts.toList = us
      split
      · rename_i m r; rw [h1 m (by simp)]
      · rfl
    case value f =>
      obtain ⟨hl, hm⟩ : st.mem.length = st2.mem.length ∧ _ := by
        rcases hl with hl | hl
        · simp [floats] at hl
        · exact hl
      simp only [cellsOf] at hm ⊢
      rw [← rd_agree (hs f (by simp [Op.operands, Call.operands]))]
      have e1 : ∀ fst cap, callArgs P L tk fl st2 fst cap ts.toList args.toList = callArgs P L tk fl st fst cap ts.toList args.toList := fun fst cap => (callArgs_agree (Slots.tmps fun x hx => hs x (by simp [Op.operands, Call.operands] at hx ⊢; exact .inr hx))).symm
      simp only [e1]
      split
      · rename_i hr
        simp only [hr] at hm
        split
        · rename_i hc
          simp only [hc] at hm
          rw [← hl]
          congr 1
          exact reachN_agree fun c hc => hm (c, true) (List.mem_map.2 ⟨c, hc, rfl⟩)
        · rfl
      · rfl

theorem mapAt_agree {st st2 : St S} {c : Nat} (h : st.mem[c]? = st2.mem[c]?) (z : MapC) : mapAt st c z = mapAt st2 c z := by
  unfold mapAt; rw [cellAt_eq h]

theorem mapSetK_agree {st st2 : St S} {o : Oper} {t : TypeId} {m k x : Operand} (h1 : ∀ t, rd P L st t m = rd P L st2 t m) (h2 : ∀ t, rd P L st t k = rd P L st2 t k) (h3 : ∀ t, rd P L st t x = rd P L st2 t x)
    (hm : ∀ c, rd P L st t m = some (.mp c) → st.mem[c]? = st2.mem[c]?) : mapSetK P L o st t m k x some = mapSetK P L o st2 t m k x some := by
  unfold mapSetK
  simp only [← h1, ← h2, ← h3]
  split
  · split
    · rename_i hc _ _; rw [mapAt_agree (hm _ hc)]
    · rfl
  · rfl

theorem mapGetK_agree {st st2 : St S} {o : Oper} {t : TypeId} {m k : Operand} (h1 : ∀ t, rd P L st t m = rd P L st2 t m) (h2 : ∀ t, rd P L st t k = rd P L st2 t k)
    (hm : ∀ c, rd P L st t m = some (.mp c) → st.mem[c]? = st2.mem[c]?) : mapGetK P L o st t m k some = mapGetK P L o st2 t m k some := by
  unfold mapGetK
  simp only [← h1, ← h2]
  split
  · split
    · rename_i hc _; rw [mapAt_agree (hm _ hc)]
    · rfl
    · rfl
  · rfl

theorem effK_agree {st st2 : St S} {tk fl : Bool} {cid : Nat} {o : Oper} (hs : Slots st st2 o.op.operands.toList) (hm : ∀ x ∈ cellsOf P L tk fl cid o st, st.mem[x.1]? = st2.mem[x.1]?)
    (hl : floats o.op = true ∨ st.mem.length = st2.mem.length) : effK P L call tk fl cid o st some = effK P L call tk fl cid o st2 some := by
  obtain ⟨dst, op, type, pos, after, guard⟩ := o
  have h1 : ∀ x, x ∈ op.operands.toList → ∀ t, rd P L st t x = rd P L st2 t x := fun x hx t => rd_agree (hs x hx)
  have h2 : ∀ x, x ∈ op.operands.toList → ∀ t, rdRaw P L st t x = rdRaw P L st2 t x := fun x hx t => rdRaw_agree (hs x hx)
  have h3 : ∀ x, x ∈ op.operands.toList → took st x = took st2 x := fun x hx => took_agree (hs x hx)
  have h4 : ∀ x, x ∈ op.operands.toList → rdB st x = rdB st2 x := fun x hx => rdB_agree (hs x hx)
  cases op <;> try rfl
  case move x => simp only [effK, h2 x (by simp [Op.operands]), h3 x (by simp [Op.operands])]
  case assign x => simp only [effK, h2 x (by simp [Op.operands]), h3 x (by simp [Op.operands])]
  case pick c a b => simp only [effK, h4 c (by simp [Op.operands]), h1 a (by simp [Op.operands]), h1 b (by simp [Op.operands])]
  case alloc e =>
    have := hm (cid, true) (by simp [cellsOf])
    simp only [effK, this]
  case box e x =>
    have := hm (cid, true) (by simp [cellsOf])
    simp only [effK, this, h2 x (by simp [Op.operands]), h3 x (by simp [Op.operands])]
  case makeMap t r =>
    have := hm (cid, true) (by simp [cellsOf])
    cases r <;> simp only [effK, this]
  case insert t m k x =>
    simp only [cellsOf] at hm
    simp only [effK]
    exact mapSetK_agree (h1 m (by simp [Op.operands])) (h1 k (by simp [Op.operands])) (h1 x (by simp [Op.operands])) fun c hc => hm (c, true) (by rw [hc]; simp)
  case mapUpdate t m k x =>
    simp only [cellsOf] at hm
    simp only [effK]
    exact mapSetK_agree (h1 m (by simp [Op.operands])) (h1 k (by simp [Op.operands])) (h1 x (by simp [Op.operands])) fun c hc => hm (c, true) (by rw [hc]; simp)
  case lookup t m k b =>
    simp only [cellsOf] at hm
    cases b <;> simp only [effK]
    exact mapGetK_agree (h1 m (by simp [Op.operands])) (h1 k (by simp [Op.operands])) fun c hc => hm (c, false) (by rw [hc]; simp)
  case build t ps =>
    simp only [effK]
    have : ∀ fs cs, fillB P L st fs ps.toList cs = fillB P L st2 fs ps.toList cs := fun fs cs => fillB_agree (Slots.tmps fun x hx => hs x (by simpa [Op.operands] using hx))
    simp only [this]
  case buildSlice t n ps =>
    simp only [effK]
    have : ∀ e k n, elsB P L st e k n ps.toList = elsB P L st2 e k n ps.toList := fun e k n => elsB_agree (Slots.tmps fun x hx => hs x (by simpa [Op.operands] using hx))
    have h5 : ∀ (k : S.K) (l : List (S.El k)) (o : Oper), sliceLitK L tk cid o st n k l some = sliceLitK L tk cid o st2 n k l some := fun k l o => by
      unfold sliceLitK
      cases tk with
      | false => rfl
      | true => simp only [hm (cid, true) (by simp [cellsOf])]
    simp only [this, h5]
  case load t a =>
    simp only [cellsOf] at hm
    simp only [effK, ← h1 a (by simp [Op.operands])]
    split
    · rename_i p hp
      rw [hp] at hm
      unfold loadK
      cases p <;> try rfl
      case ptr c off =>
        have := hm (c, tk) (by simp)
        simp only [cellAt_eq this]
    · rfl
  case store t a x =>
    simp only [cellsOf] at hm
    simp only [effK, ← h1 a (by simp [Op.operands]), ← h2 x (by simp [Op.operands]), ← h3 x (by simp [Op.operands])]
    split
    · rename_i c off p hp hx
      rw [hp] at hm
      have := hm (c, true) (by simp)
      simp only [cellAt_eq this]
    · rfl
  case nilCheck x => simp only [effK, h1 x (by simp [Op.operands])]
  case binOp op xt x y yt => simp only [effK, h1 x (by simp [Op.operands]), h1 y (by simp [Op.operands])]
  case unOp op xt x => cases op <;> simp only [effK, h4 x (by simp [Op.operands])]
  case convert a b x => simp only [effK, h1 x (by simp [Op.operands])]
  case makeInterface t x => simp only [effK, h1 x (by simp [Op.operands])]
  case makeFunc f fst cap =>
    have e1 : ∀ ts, rdAll P L st ts fst.toList = rdAll P L st2 ts fst.toList := fun ts => rdAll_agree (Slots.tmps fun x hx => hs x (by simp [Op.operands] at hx ⊢; exact .inl hx))
    have e2 : ∀ ts, rdAll P L st ts cap.toList = rdAll P L st2 ts cap.toList := fun ts => rdAll_agree (Slots.tmps fun x hx => hs x (by simp [Op.operands] at hx ⊢; exact .inr hx))
    cases f <;> simp only [effK, e1, e2]
  case slice t x lo hi mx =>
    have e1 : ∀ d, boundOr st lo d = boundOr st2 lo d := fun d => boundOr_agree fun i hi => hs (.tmp i) (by subst hi; simp [Op.operands]) i rfl
    have e2 : ∀ d, boundOr st hi d = boundOr st2 hi d := fun d => boundOr_agree fun i hi => hs (.tmp i) (by subst hi; simp [Op.operands]) i rfl
    simp only [effK, h1 x (by simp [Op.operands])]
    split
    · unfold sliceK
      simp only [e1, e2]
    · rfl
  case fieldAddr t x f => simp only [effK, h1 x (by simp [Op.operands])]
  case field t x f => simp only [effK, h1 x (by simp [Op.operands])]
  case indexAddr t x i =>
    have e1 : ∀ d, boundOr st (some i) d = boundOr st2 (some i) d := fun d => boundOr_agree fun j hj => hs (.tmp j) (by cases hj; simp [Op.operands]) j rfl
    have e2 : ∀ (q : S.K × Nat × Nat) (o : Oper), loIdxK P L o st t q i some = loIdxK P L o st2 t q i some := fun q o => by unfold loIdxK; simp only [e1]
    simp only [effK, h1 x (by simp [Op.operands]), e1, e2]
  case index t x i =>
    have e1 : ∀ d, boundOr st (some i) d = boundOr st2 (some i) d := fun d => boundOr_agree fun j hj => hs (.tmp j) (by cases hj; simp [Op.operands]) j rfl
    simp only [effK, h1 x (by simp [Op.operands]), e1]
  case typeAssert x t a b => cases b <;> simp only [effK, h1 x (by simp [Op.operands])]
  case extract x i => simp only [effK, h1 x (by simp [Op.operands])]
  case panic x => simp only [effK, h1 x (by simp [Op.operands])]
  case call c =>
    obtain ⟨callee, args, ts⟩ := c
    cases callee <;> try rfl
    case value f =>
      have hl : st.mem.length = st2.mem.length := by
        rcases hl with hl | hl
        · simp [floats] at hl
        · exact hl
      simp only [cellsOf] at hm
      simp only [effK, callK, ← h1 f (by simp [Op.operands, Call.operands])]
      have e1 : ∀ fst cap, callArgs P L tk fl st2 fst cap ts.toList args.toList = callArgs P L tk fl st fst cap ts.toList args.toList := fun fst cap => (callArgs_agree (Slots.tmps fun x hx => hs x (by simp [Op.operands, Call.operands] at hx ⊢; exact .inr hx))).symm
      simp only [e1]
      have e2 : tookAll st2 args.toList = tookAll st args.toList := (tookAll_agree (Slots.tmps fun x hx => hs x (by simp [Op.operands, Call.operands] at hx ⊢; exact .inr hx))).symm
      simp only [e2]
      split
      · rename_i hr
        simp only [hr] at hm
        split
        · rename_i hc
          simp only [hc] at hm
          rw [callC_agree hl fun c hc => hm (c, true) (List.mem_map.2 ⟨c, hc, rfl⟩)]
        · rfl
      · rfl
    case builtin b =>
      have h1 : ∀ x ∈ args.toList, ∀ t, rd P L st t x = rd P L st2 t x := fun x hx t => rd_agree (hs x (by simp [Op.operands, Call.operands] at hx ⊢; exact hx))
      have h2 : ∀ x ∈ args.toList, ∀ t, rdRaw P L st t x = rdRaw P L st2 t x := fun x hx t => rdRaw_agree (hs x (by simp [Op.operands, Call.operands] at hx ⊢; exact hx))
      have h3 : ∀ x ∈ args.toList, took st x = took st2 x := fun x hx => took_agree (hs x (by simp [Op.operands, Call.operands] at hx ⊢; exact hx))
      simp only [effK]
      simp only [cellsOf] at hm
      generalize args.toList = xs at h1 h2 h3 hm
      generalize ts.toList = us at hm
      unfold builtinK
      split
      · split
        · rename_i x; simp only [h1 x (by simp)]
        · rfl
      · unfold appK
        split
        · rename_i x y; simp only [h2 x (by simp), h1 y (by simp), h3 x (by simp)]
        · rfl
      · unfold mapDelK
        split
        · rename_i t u m k _
          simp only [← h1 m (by simp), ← h1 k (by simp)]
          split
          · split
            · rename_i hc _; rw [mapAt_agree (hm (_, true) (by simp only [hc]; simp))]
            · rfl
          · rfl
        · rfl
      · split
        · rename_i x y; simp only [h1 x (by simp), h1 y (by simp)]
        · rfl
      · rfl
  case defer c =>
    obtain ⟨callee, args, ts⟩ := c
    cases callee <;> try rfl
    case value f =>
      simp only [effK, ← h1 f (by simp [Op.operands, Call.operands])]
      rw [← rdAll_agree (st2 := st2) (Slots.tmps fun x hx => hs x (by simp [Op.operands, Call.operands] at hx ⊢; exact .inr hx))]

end
end Go.Proofs.YtanfoijdfcnpoaaGreatDoor.Ev
