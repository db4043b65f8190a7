/- This file proves that in a region with an open order it makes no difference in which order the evaluator carries out what may be carried out; without any condition. -/
import Derived.Test.YtanfoijdfcnpoaaGreatDoorEvG
set_option linter.unusedVariables false
set_option linter.unusedSimpArgs false
namespace Go.Proofs.YtanfoijdfcnpoaaGreatDoor.Ev

section
variable {S : Sig} {P : Program} {L : Lay S} {call : CallT S}

theorem opK_move {st st2 : St S} {tk fl : Bool} {ops : Array Oper} {i : Nat} {o : Oper} (ho : ops[i]? = some o) (hg : ∀ t ∈ o.looksAt ops, st.slots t = st2.slots t) (hrb : st.rb = st2.rb)
    (hE : ∀ out, effK P L call tk fl (st.rb + cellsBefore ops.toList i) o st some = some out → effK P L call tk fl (st.rb + cellsBefore ops.toList i) o st2 some = some out) {out : Out S}
    (h : opK P L call tk fl ops i st some = some out) : opK P L call tk fl ops i st2 some = some out := by
  unfold opK at h ⊢
  simp only [ho] at h ⊢
  rw [← hrb]
  split at h
  · exact hE _ h
  · rename_i j want hgd
    split at h
    · cases h
    · rename_i t ht
      rw [← hg t (by simp [Oper.looksAt, hgd, ht])]
      split at h
      · rename_i b hb
        split at h
        · cases b
          · exact h
          · exact hE _ h
        · cases b
          · exact hE _ h
          · exact h
      · exact h
      · cases h

variable [Natural call]

theorem opK_wr {st : St S} {tk fl : Bool} {ops : Array Oper} {i : Nat} {o : Oper} (ho : ops[i]? = some o) {out : Out S} (h : opK P L call tk fl ops i st some = some out) :
    OutWr (floats o.op) o.dst (rawTmps tk o) (cellsOf P L tk fl (st.rb + cellsBefore ops.toList i) o st) (st.rb + cellsBefore ops.toList i) st out := by
  unfold opK at h
  simp only [ho] at h
  split at h
  · exact effK_wr h
  · split at h
    · cases h
    · split at h
      · rename_i b hb
        split at h
        · rcases cond_cases h with h | h
          · exact effK_wr h
          · cases h; exact val_wr _ _
        · rcases cond_cases h with h | h
          · cases h; exact val_wr _ _
          · exact effK_wr h
      · cases h; exact val_wr _ _
      · cases h

/-! ### Two operations in turn -/

theorem updL_notin {t : Nat} : ∀ {w : List (Nat × PV S)} {s : Nat → PV S}, (∀ x ∈ w, x.1 ≠ t) → updL s w t = s t
  | [], s, _ => rfl
  | (i, p) :: r, s, h => by
    simp only [updL]
    rw [updL_notin (fun x hx => h x (by simp [hx]))]
    unfold upd
    have : Nat.beq t i = false := by
      cases hb : Nat.beq t i with
      | false => rfl
      | true => exact absurd (Nat.eq_of_beq_eq_true hb).symm (h (i, p) (by simp))
    rw [this]; rfl

theorem updL_in {t : Nat} : ∀ {w : List (Nat × PV S)} {s s2 : Nat → PV S}, (∃ x ∈ w, x.1 = t) → updL s w t = updL s2 w t
  | [], s, s2, h => by obtain ⟨x, hx, _⟩ := h; cases hx
  | (i, p) :: r, s, s2, h => by
    simp only [updL]
    by_cases hr : ∃ x ∈ r, x.1 = t
    · exact updL_in hr
    · have hno : ∀ x ∈ r, x.1 ≠ t := fun x hx he => hr ⟨x, hx, he⟩
      rw [updL_notin hno, updL_notin hno]
      obtain ⟨x, hx, he⟩ := h
      rcases List.mem_cons.1 hx with rfl | hx
      · simp only at he; subst he; unfold upd; simp
      · exact absurd he (hno x hx)

theorem updL_comm {s : Nat → PV S} {a b : List (Nat × PV S)} (h : ∀ x ∈ a, ∀ y ∈ b, x.1 ≠ y.1) : updL (updL s a) b = updL (updL s b) a := by
  funext t
  by_cases hb : ∃ x ∈ b, x.1 = t
  · have hno : ∀ x ∈ a, x.1 ≠ t := fun x hx he => by
      obtain ⟨y, hy, hye⟩ := hb
      exact h x hx y hy (he.trans hye.symm)
    rw [updL_notin hno]
    exact updL_in hb
  · have hno : ∀ x ∈ b, x.1 ≠ t := fun x hx he => hb ⟨x, hx, he⟩
    rw [updL_notin hno]
    by_cases ha : ∃ x ∈ a, x.1 = t
    · exact updL_in ha
    · have hno' : ∀ x ∈ a, x.1 ≠ t := fun x hx he => ha ⟨x, hx, he⟩
      rw [updL_notin hno', updL_notin hno', updL_notin hno]

theorem setL_notin {c : Nat} : ∀ {a : List (Nat × List (PV S))} {m : Mem S}, (∀ x ∈ a, x.1 ≠ c) → (setL m a)[c]? = m[c]?
  | [], m, _ => rfl
  | (i, v) :: r, m, h => by
    simp only [setL]
    rw [setL_notin (fun x hx => h x (by simp [hx])), List.getElem?_set_ne (h (i, v) (by simp))]

theorem setL_set {c : Nat} {v : Option (List (PV S))} : ∀ {a : List (Nat × List (PV S))} {m : Mem S}, (∀ x ∈ a, x.1 ≠ c) → setL (m.set c v) a = (setL m a).set c v
  | [], m, _ => rfl
  | (i, u) :: r, m, h => by
    simp only [setL]
    rw [List.set_comm _ _ (fun e => h (i, u) (by simp) e.symm), setL_set (fun x hx => h x (by simp [hx]))]

theorem mem_frame {e : Eff S} {st : St S} {c : Nat} (hc : ∀ x ∈ e.m, x.1 ≠ c) (hl : c < st.mem.length ∨ e.g = []) : (e.apply st).mem[c]? = st.mem[c]? := by
  show (setL st.mem e.m ++ e.g)[c]? = _
  rcases hl with hl | hl
  · rw [List.getElem?_append_left (by rw [setL_len]; exact hl), setL_notin hc]
  · rw [hl, List.append_nil, setL_notin hc]

theorem apply_comm {st : St S} {ei ej : Eff S} (hw : ∀ x ∈ ei.w, ∀ y ∈ ej.w, x.1 ≠ y.1) (hg : ei.g = []) (hd : ei.df = [])
    (hm : ei.m = [] ∨ ∃ c v, ei.m = [(c, v)] ∧ c < st.mem.length ∧ ∀ y ∈ ej.m, y.1 ≠ c) : ej.apply (ei.apply st) = ei.apply (ej.apply st) := by
  unfold Eff.apply
  simp only [hg, hd, List.append_nil, List.nil_append, St.mk.injEq, and_true]
  refine ⟨updL_comm hw, ?_⟩
  rcases hm with hm | ⟨c, v, hm, hc, hj⟩
  · simp only [hm, setL]
  · simp only [hm, setL]
    rw [setL_set hj, List.set_append_left _ _ (by rw [setL_len]; exact hc)]

theorem left_same {st : St S} {ei ej : Eff S} {base cid : Nat} {ops : Array Oper} (hw : ∀ x ∈ ei.w, written ops x.1 = true ∨ x.2 = (st.slots x.1).strip)
    (hg : ei.g = []) (hd : ei.df = []) (hb : base ≤ cid) (hbl : base ≤ st.mem.length)
    (hm : ei.m = [] ∨ ∃ c v, ei.m = [(c, v)] ∧ Soft cid st c v ∧ ∀ y ∈ ej.m, y.1 ≠ c) : ((ei.apply st).panned ej).left ops base = (st.panned ej).left ops base := by
  have hsl : ∀ t, written ops t = false → ((ei.apply st).slots t).strip = (st.slots t).strip := by
    intro t ht
    show (updL st.slots ei.w t).strip = _
    have key : ∀ (ws : List (Nat × PV S)) (s : Nat → PV S), (∀ x ∈ ws, written ops x.1 = true ∨ x.2 = (st.slots x.1).strip) → (s t).strip = (st.slots t).strip → (updL s ws t).strip = (st.slots t).strip := by
      intro ws
      induction ws with
      | nil => intro s _ h; exact h
      | cons x r ih =>
        intro s hx h
        obtain ⟨i, p⟩ := x
        simp only [updL]
        refine ih _ (fun x hx' => hx x (List.mem_cons_of_mem _ hx')) ?_
        by_cases hti : t = i
        · subst hti
          rw [upd_same]
          rcases hx (t, p) (by simp) with h' | h'
          · simp only at h'; rw [ht] at h'; cases h'
          · simp only at h'; rw [h']; cases st.slots t <;> rfl
        · rw [upd_other _ _ hti]; exact h
    exact key ei.w st.slots hw rfl
  unfold St.left St.panned
  simp only [St.mk.injEq]
  refine ⟨?_, ?_, ?_, rfl, rfl⟩
  · funext t
    cases ht : written ops t with
    | true => rfl
    | false => simp only [cond_false]; rw [hsl t ht]
  · unfold Eff.apply
    simp only [hg, hd, List.append_nil, List.nil_append]
    rcases hm with hm | ⟨c, v, hm, hs, hj⟩
    · simp only [hm, setL]
    · simp only [hm, setL]
      rw [setL_set hj]
      have hlen : base ≤ (setL st.mem ej.m).length := by rw [setL_len]; exact hbl
      rw [List.take_append_of_le_length (by simpa using hlen), List.take_append_of_le_length hlen]
      apply List.ext_getElem?
      intro k
      simp only [List.getElem?_map, List.getElem?_take]
      split
      · rename_i hk
        by_cases hkc : c = k
        · subst hkc
          rcases hs with ⟨rfl, _⟩ | ⟨cs, hcs, hn⟩
          · omega
          · have hlt := cellAt_lt hcs
            rw [List.getElem?_set_self (by rw [setL_len]; exact hlt), setL_notin hj]
            have : st.mem[c]? = some (some cs) := by
              unfold cellAt at hcs
              split at hcs
              · rename_i heq; cases hcs; exact heq
              · cases hcs
            rw [this]
            simp only [Option.map_some, hn]
        · rw [List.getElem?_set_ne hkc]
      · rfl
  · unfold Eff.apply
    simp only [hd, List.nil_append]

/-! ### What may come first -/

def Down (ops : Array Oper) (listed : Array Bool) : Prop :=
  ∀ (k : Nat) (o : Oper), listed.getD k false = true → ops[k]? = some o → ∀ e ∈ o.after, Region.binds .any e = true → listed.getD e.on false = true

theorem getD_set_of {listed : Array Bool} {i j : Nat} (h : (listed.setIfInBounds i true).getD j false = true) : j = i ∨ listed.getD j false = true := by
  by_cases hij : i = j
  · exact .inl hij.symm
  · rw [getD_set_ne false hij] at h; exact .inr h

theorem unlisted {ops : Array Oper} {listed : Array Bool} {i : Nat} (h : i ∈ Region.ready .any ops listed) : listed.getD i false = false := by
  have h0 := (mem_ready.1 h).1
  rcases Nat.lt_or_ge i listed.size with h' | h'
  · simp [h'] at h0 ⊢; exact h0
  · simp [Array.getElem?_eq_none h']

theorem Down.set {ops : Array Oper} {listed : Array Bool} (h : Down ops listed) {j : Nat} (hj : j ∈ Region.ready .any ops listed) : Down ops (listed.setIfInBounds j true) := by
  intro k o hk ho e he hb
  rcases getD_set_of hk with rfl | hk
  · obtain ⟨_, o', ho', hall⟩ := mem_ready.1 hj
    rw [ho'] at ho; cases ho
    exact getD_set_true (hall e he hb)
  · exact getD_set_true (h k o hk ho e he hb)

theorem dep_after {ops : Array Oper} {listed : Array Bool} (h : Down ops listed) {i : Nat} : ∀ (n k : Nat) (o : Oper), ops[k]? = some o →
    (∀ e ∈ o.after, Region.binds .any e = true → listed.getD e.on false = true) → depB ops n i k = true → listed.getD i false = true
  | 0, k, o, ho, hall, hd => by simp [depB] at hd
  | n + 1, k, o, ho, hall, hd => by
    simp only [depB, ho] at hd
    obtain ⟨e, he, hb⟩ := Array.any_eq_true'.1 hd
    simp only [Bool.and_eq_true, Bool.or_eq_true, beq_iff_eq] at hb
    have hl := hall e he hb.1
    rcases hb.2 with hi | hi
    · rw [← hi]; exact hl
    · cases n with
      | zero => simp [depB] at hi
      | succ n =>
        cases ho' : ops[e.on]? with
        | none => simp [depB, ho'] at hi
        | some o' => exact dep_after h (n + 1) e.on o' ho' (fun e' he' hb' => h e.on o' hl ho' e' he' hb') hi

theorem dep_ready {ops : Array Oper} {listed : Array Bool} (h : Down ops listed) {n i j : Nat} (hj : j ∈ Region.ready .any ops listed) (hd : depB ops n i j = true) : listed.getD i false = true := by
  obtain ⟨_, o, ho, hall⟩ := mem_ready.1 hj
  exact dep_after h n j o ho hall hd

theorem raw_looks {tk : Bool} {o : Oper} {ops : Array Oper} : ∀ t ∈ rawTmps tk o, t ∈ o.looksAt ops := by
  intro t ht
  unfold Oper.looksAt
  refine List.mem_append_left _ ?_
  obtain ⟨dst, op, type, pos, after, guard⟩ := o
  cases op <;> simp only [rawTmps] at ht <;> try (cases ht; done)
  case move x => split at ht <;> cases x <;> simp_all [Op.operands, tmps]
  case assign x => cases x <;> simp_all [Op.operands, tmps]
  case box e x => cases x <;> simp_all [Op.operands, tmps]
  case store t a x =>
    simp only [tmps] at ht
    obtain ⟨y, hy, he⟩ := List.mem_filterMap.1 ht
    refine List.mem_filterMap.2 ⟨y, ?_, he⟩
    simp [Op.operands] at hy ⊢
    exact .inr hy
  case call c =>
    obtain ⟨callee, args, ts⟩ := c
    cases callee
    case value f =>
      simp only at ht
      split at ht
      · obtain ⟨y, hy, he⟩ := List.mem_filterMap.1 ht
        refine List.mem_filterMap.2 ⟨y, ?_, he⟩
        simp [Op.operands, Call.operands] at hy ⊢
        exact .inr hy
      · cases ht
    case builtin b =>
      cases b <;> simp only at ht <;> try (cases ht; done)
      obtain ⟨y, hy, he⟩ := List.mem_filterMap.1 ht
      refine List.mem_filterMap.2 ⟨y, ?_, he⟩
      simp [Op.operands, Call.operands]
      have := List.mem_of_mem_take hy
      simpa using this
    case invoke => cases ht

structure Sep (ops : Array Oper) (ti tj : Bool) (oi oj : Oper) : Prop where
  apart : oi.apart ops oj = true
  ij : ∀ t ∈ rawTmps ti oi, t ∉ oj.looksAt ops
  ji : ∀ t ∈ rawTmps tj oj, t ∉ oi.looksAt ops

theorem disj_spec {a b : List Nat} (h : disj a b = true) : ∀ t ∈ a, t ∉ b := by
  intro t ht hb
  unfold disj at h
  have := List.all_eq_true.1 h t ht
  simp at this
  exact this hb

theorem freeT_spec {tk : Nat → Bool} {ops : Array Oper} {listed : Array Bool} {i : Nat} {oi : Oper} (hi : ops[i]? = some oi) (h : freeT tk ops listed i = true) (j : Nat) (oj : Oper)
    (hj : ops[j]? = some oj) (hne : j ≠ i) (hun : listed.getD j true = false) (hno : ∀ e ∈ oj.after, Region.binds .any e = true → e.on ≠ i) : Sep ops (tk i) (tk j) oi oj := by
  simp only [freeT, hi, List.all_eq_true, List.mem_range] at h
  have h1 := h j (Array.getElem?_eq_some_iff.1 hj).1
  simp only [hj, Bool.or_eq_true, beq_iff_eq, hne, false_or, hun, Bool.false_eq_true] at h1
  rcases h1 with h1 | h1
  · obtain ⟨e, he, hb⟩ := Array.any_eq_true'.1 h1
    simp only [Bool.and_eq_true, beq_iff_eq] at hb
    exact absurd hb.2 (hno e he hb.1)
  · simp only [Bool.and_eq_true] at h1
    exact ⟨h1.1, disj_spec h1.2.1, disj_spec h1.2.2⟩

theorem clash_no {a b : List (Nat × Bool)} (h : clash a b = false) {c c' : Nat} {w w' : Bool} (h1 : (c, w) ∈ a) (h2 : (c', w') ∈ b) (hw : (w || w') = true) : c ≠ c' := by
  intro e
  subst e
  unfold clash at h
  have h3 := List.any_eq_false.1 h (c, w) h1
  simp only [List.any_eq_true, not_exists, not_and] at h3
  have h4 := h3 (c, w') h2
  simp [hw] at h4

theorem clash_symm {a b : List (Nat × Bool)} (h : clash a b = false) : clash b a = false := by
  unfold clash
  rw [List.any_eq_false]
  intro x hx hh
  obtain ⟨y, hy, he⟩ := List.any_eq_true.1 hh
  simp only [Bool.and_eq_true, beq_iff_eq] at he
  exact clash_no h (c := y.1) (w := y.2) (c' := x.1) (w' := x.2) hy hx (by rw [Bool.or_comm]; exact he.2) he.1.symm

/-- All orders, each evaluated. -/
def AbsAny (P : Program) (L : Lay S) (call : CallT S) (tk fl : Nat → Bool) (ops : Array Oper) (np base : Nat) (R : Ex S → St S → Prop) : Nat → Array Bool → Seen → St S → Prop
  | 0, listed, ex, st => Region.ready .any ops listed = [] ∧ R .normal st
  | n + 1, listed, ex, st =>
    (Region.ready .any ops listed = [] → R .normal st) ∧
    ∀ i ∈ Region.ready .any ops listed, compat ops ex i (fpOf P L tk fl ops i st) = true ∧ ∃ out, opK P L call (tk i) (fl i) ops i st some = some out ∧
      match out with
      | .ok e => fits st.nt e.w = true ∧ AbsAny P L call tk fl ops np base R n (listed.setIfInBounds i true) ((i, fpOf P L tk fl ops i st) :: ex) (e.apply st)
      | .pan p e => leftOk np base p ((st.panned e).left ops base) = true ∧ R (.pan p) ((st.panned e).left ops base)

end

section
variable {S : Sig} {P : Program} {L : Lay S} {call : CallT S}
variable {tk fl : Nat → Bool} {ops : Array Oper} {np base : Nat} {R : Ex S → St S → Prop}

theorem compat_sub {ex ex' : Seen} {i : Nat} {fp : List (Nat × Bool)} (h : ∀ x ∈ ex', x ∈ ex) (hc : compat ops ex i fp = true) : compat ops ex' i fp = true := by
  unfold compat at hc ⊢
  rw [List.all_eq_true] at hc ⊢
  exact fun x hx => hc x (h x hx)

theorem AbsAny.sub : ∀ {n : Nat} {listed : Array Bool} {ex ex' : Seen} {st : St S}, (∀ x ∈ ex', x ∈ ex) → AbsAny P L call tk fl ops np base R n listed ex st → AbsAny P L call tk fl ops np base R n listed ex' st
  | 0, _, _, _, _, _, h => h
  | n + 1, listed, ex, ex', st, hs, h => by
    refine ⟨h.1, fun i hi => ?_⟩
    obtain ⟨h1, out, h2, h3⟩ := h.2 i hi
    refine ⟨compat_sub hs h1, out, h2, ?_⟩
    cases out with
    | ok e =>
      exact ⟨h3.1, AbsAny.sub (fun x hx => by
        rcases List.mem_cons.1 hx with rfl | hx
        · simp
        · exact List.mem_cons_of_mem _ (hs x hx)) h3.2⟩
    | pan p e => exact h3

variable [Natural call]

theorem fpOf_some {i : Nat} {o : Oper} (ho : ops[i]? = some o) (st : St S) : fpOf P L tk fl ops i st = cellsOf P L (tk i) (fl i) (st.rb + cellsBefore ops.toList i) o st := by
  unfold fpOf; rw [ho]

theorem slots_frame {e : Eff S} {st : St S} {looks : List Nat} (h : ∀ x ∈ e.w, x.1 ∉ looks) : ∀ t ∈ looks, (e.apply st).slots t = st.slots t := by
  intro t ht
  show updL st.slots e.w t = st.slots t
  exact updL_notin fun x hx he => h x hx (he ▸ ht)

theorem looks_slots {o : Oper} {st st2 : St S} (h : ∀ t ∈ o.looksAt ops, st.slots t = st2.slots t) : Slots st st2 o.op.operands.toList := by
  intro x hx i hi
  subst hi
  exact h i (List.mem_append_left _ (List.mem_filterMap.2 ⟨.tmp i, hx, rfl⟩))

theorem insB_float {i : Nat} {oi : Oper} (hoi : ops[i]? = some oi) (hfl : floats oi.op = true) : insB ops i = false := by
  unfold insB
  rw [hoi]
  cases hop : oi.op <;> rw [hop] at hfl <;> first | (simp [hop]; done) | (simp [floats] at hfl; done)

/-! ### Two insertions -/

/-- Two states that differ in one map only. -/
structure Sw (c : Nat) (x x' : MapC) (st st2 : St S) : Prop where
  eq : st2 = { st with mem := st.mem.set c (some [.mpo x']) }
  at' : cellAt st.mem c = some [.mpo x]

theorem blind_cells {tk fl : Bool} {cid : Nat} {o : Oper} (h : blindOp o.op = true) (st : St S) : ∀ x ∈ cellsOf P L tk fl cid o st, x = (cid, true) := by
  intro x hx
  cases hop : o.op <;> rw [hop] at h <;> simp [blindOp] at h <;> simp [cellsOf, hop] at hx
  exact hx

theorem blind_same {tk fl : Bool} {cid : Nat} {o : Oper} (h : blindOp o.op = true) (st st2 : St S) : cellsOf P L tk fl cid o st = cellsOf P L tk fl cid o st2 := by
  cases hop : o.op <;> rw [hop] at h <;> simp [blindOp] at h <;> simp [cellsOf, hop]

theorem blind_ok {tk fl : Bool} {cid : Nat} {o : Oper} (h : blindOp o.op = true) {st : St S} {out : Out S} (hk : effK P L call tk fl cid o st some = some out) : ∃ e, out = .ok e ∧ ∀ c cs, cellAt st.mem c = some cs → ∀ x ∈ e.m, x.1 ≠ c := by
  have wr : OutWr (floats o.op) o.dst (rawTmps tk o) (cellsOf P L tk fl cid o st) cid st out := effK_wr hk
  have key : ∀ e, out = .ok e → ∀ c cs, cellAt st.mem c = some cs → ∀ x ∈ e.m, x.1 ≠ c := by
    intro e he c cs hc x hx hxc
    subst he
    have h0 := wr.m x hx
    have h1 := blind_cells (P := P) (L := L) h st _ h0
    have h2 : x.1 = cid := congrArg Prod.fst h1
    rw [hxc] at h2
    subst h2
    have hfl : floats o.op = true ∨ ∃ y, o.op = .assign y := by
      cases hop : o.op <;> rw [hop] at h <;> simp [blindOp] at h <;> simp [floats]
    rcases hfl with hfl | ⟨y, hy⟩
    · obtain ⟨_, _, hm⟩ := wr.soft hfl
      rcases hm with hm | ⟨c', v, hm, hs⟩
      · rw [hm] at hx; cases hx
      · rw [hm] at hx; simp at hx; subst hx
        simp only at hxc
        subst hxc
        cases hop : o.op <;> rw [hop] at h <;> simp [blindOp] at h
        all_goals
          unfold effK at hk
          simp only [hop] at hk
        case box t y =>
          split at hk
          · rename_i hn
            unfold cellAt at hc; rw [hn] at hc; cases hc
          · cases hk
        all_goals simp [cellsOf, hop] at h0
    · have h3 := wr.m x hx
      simp [cellsOf, hy] at h3
  cases out with
  | ok e => exact ⟨e, rfl, key e rfl⟩
  | pan p e =>
    exfalso
    cases hop : o.op <;> rw [hop] at h <;> simp [blindOp] at h <;> simp only [effK, hop] at hk <;> (repeat' split at hk) <;> cases hk

omit [Natural call] in
theorem blind_off {tk fl : Bool} {cid : Nat} {o : Oper} (h : blindOp o.op = true) {st : St S} {out : Out S} (hk : effK P L call tk fl cid o st some = some out) {c : Nat} {cs : List (PV S)} (hc : cellAt st.mem c = some cs) : ∀ x ∈ cellsOf P L tk fl cid o st, x.1 ≠ c := by
  intro x hx hxc
  have h2 : x.1 = cid := congrArg Prod.fst (blind_cells (P := P) (L := L) h st _ hx)
  rw [hxc] at h2
  subst h2
  cases hop : o.op <;> rw [hop] at h <;> simp [blindOp] at h <;> simp [cellsOf, hop] at hx
  simp only [effK, hop] at hk
  split at hk
  · rename_i hn
    unfold cellAt at hc; rw [hn] at hc; cases hc
  · cases hk

theorem mset_comm {α : Type} {s s' : ByteArray} (hne : s ≠ s') (v v' : α) : ∀ l : List (ByteArray × α), (mset (mset l s v) s' v').Perm (mset (mset l s' v') s v)
  | [] => by
    have h1 : strEq s' s = false := by
      cases h : strEq s' s with
      | false => rfl
      | true => exact absurd (strEq_eq.1 h).symm hne
    have h2 : strEq s s' = false := by
      cases h : strEq s s' with
      | false => rfl
      | true => exact absurd (strEq_eq.1 h) hne
    simp only [mset, h1, h2, cond_false]
    exact List.Perm.swap _ _ _
  | x :: r => by
    have ih := mset_comm hne v v' r
    cases h1 : strEq s x.1 with
    | true =>
      have h2 : strEq s' x.1 = false := by
        cases h : strEq s' x.1 with
        | false => rfl
        | true => exact absurd ((strEq_eq.1 h1).trans (strEq_eq.1 h).symm) hne
      simp only [mset, h1, h2, cond_true, cond_false]
      exact List.Perm.refl _
    | false =>
      cases h2 : strEq s' x.1 with
      | true => simp only [mset, h1, h2, cond_true, cond_false]; exact List.Perm.refl _
      | false => simp only [mset, h1, h2, cond_false]; exact ih.cons x

theorem mset_swap {s s' : ByteArray} (l : List (ByteArray × Bool)) : (mset (mset l s true) s' true).Perm (mset (mset l s' true) s true) := by
  by_cases h : s = s'
  · subst h; exact List.Perm.refl _
  · exact mset_comm h _ _ l

omit [Natural call] in
theorem ins_run {i : Nat} {o : Oper} (ho : ops[i]? = some o) (hi : insB ops i = true) (hg : o.guard = none) (hd : o.dst = none) {tk fl : Bool} {st : St S} {out : Out S} (h : opK P L call tk fl ops i st some = some out) :
    ∃ (c : Nat) (s : ByteArray) (l : List (ByteArray × Bool)), out = .ok { m := [(c, [.mpo (.b (mset l s true))])] } ∧ cellAt st.mem c = some [.mpo (.b l)] ∧ insAt P L ops st i = some c ∧
      ∀ (st2 : St S) (l2 : List (ByteArray × Bool)), st2.slots = st.slots → cellAt st2.mem c = some [.mpo (.b l2)] → opK P L call tk fl ops i st2 some = some (.ok { m := [(c, [.mpo (.b (mset l2 s true))])] }) := by
  obtain ⟨dst, op, type, pos, after, guard⟩ := o
  simp only at hg hd
  subst hg; subst hd
  unfold insB at hi
  rw [ho] at hi
  simp only at hi
  split at hi
  · rename_i t m k
    unfold opK at h
    simp only [ho, effK, mapSetK] at h
    split at h
    · rename_i z kt et hz
      split at h
      · rename_i c s p hm hk hx
        split at h
        · rename_i y hy
          split at h
          · rename_i y' hset
            cases h
            have hp : p = .d (.bool true) := by
              simp only [rd, rdRaw, constAt] at hx
              split at hx
              · rename_i d hd
                cases d <;> simp [constCell, PV.strip] at hx
                exact hx.symm
              · cases hx
            subst hp
            cases y with
            | s l => cases hset
            | b l =>
              cases hset
              have hc : cellAt st.mem c = some [.mpo (.b l)] ∧ MapC.like (.b l) z = true := by
                unfold mapAt at hy
                split at hy
                · rename_i y0 hc
                  cases hl : y0.like z with
                  | false => rw [hl] at hy; cases hy
                  | true => rw [hl] at hy; cases hy; exact ⟨hc, hl⟩
                · cases hy
              refine ⟨c, s, l, rfl, hc.1, by simp only [insAt, ho, hm], fun st2 l2 hs hc2 => ?_⟩
              have e : ∀ t x, rd P L st2 t x = rd P L st t x := fun t x => rd_agree fun i _ => by rw [hs]
              have hl2 : MapC.like (.b l2) z = true := by have := hc.2; cases z <;> first | rfl | cases this
              unfold opK
              simp only [ho, effK, mapSetK, hz, e, hm, hk, hx, mapAt, hc2, hl2, cond_true, MapC.set]
              rfl
          · cases h
        · cases h
      · cases h
    · cases h
  · cases hi

theorem Sw.step {c : Nat} {x x' : MapC} {st st2 : St S} (h : Sw c x x' st st2) {e : Eff S} (hm : ∀ y ∈ e.m, y.1 ≠ c) : Sw c x x' (e.apply st) (e.apply st2) := by
  have hlt := cellAt_lt h.at'
  refine ⟨?_, ?_⟩
  · rw [h.eq]
    unfold Eff.apply
    simp only [St.mk.injEq, true_and, and_true]
    rw [setL_set hm, List.set_append_left _ _ (by rw [setL_len]; exact hlt)]
  · rw [cellAt_eq (mem_frame hm (.inl hlt))]; exact h.at'

omit [Natural call] in
theorem Inv.swap {g : Gh} {a : Act} {w : World} {c : Nat} {l l' : List (ByteArray × Bool)} {s s2 : St S} (hs : Sw c (.b l) (.b l') s s2) (hp : l.Perm l') (h : Inv L g s2 a w) : Inv L g s a w := by
  have hlt := cellAt_lt hs.at'
  have hat2 : cellAt s2.mem c = some [.mpo (.b l')] := by rw [hs.eq]; show cellAt (s.mem.set c _) c = _; rw [cellAt_set hlt, if_pos rfl]
  have hne : ∀ c', c' ≠ c → cellAt s2.mem c' = cellAt s.mem c' := fun c' hc' => by rw [hs.eq]; show cellAt (s.mem.set c _) c' = _; rw [cellAt_set hlt, if_neg hc']
  refine ⟨by rw [h.size, hs.eq], fun i => by have := h.slot i; rw [hs.eq] at this; exact this, ⟨fun c' ps hps => ?_, fun c' b hb => ?_, h.mem.inj, h.mem.βG, h.mem.gs, h.mem.rt, h.mem.wok⟩, by have := h.dfs; rw [hs.eq] at this; exact this⟩
  · by_cases hc : c' = c
    · subst hc
      rw [hs.at'] at hps; cases hps
      obtain ⟨b, vs, ty, e1, e2, e3, e4⟩ := h.mem.cell c' _ hat2
      cases ty with
      | cells t hn => cases hn
      | map x es k he hr =>
        cases he
        refine ⟨b, vs, .map (.b l) es k rfl ⟨hr.1.trans ((hp.map _).symm), hr.2⟩, e1, e2, e3, fun j p hj => ?_⟩
        cases j with
        | zero =>
          simp at hj; subst hj
          obtain ⟨v, hv, hvr⟩ := e4 0 _ rfl
          exact ⟨v, hv, by have := hvr.1; simp only [PRel] at this ⊢; exact this, trivial⟩
        | succ j => simp at hj
    · exact h.mem.cell c' ps (by rw [hne c' hc]; exact hps)
  · obtain ⟨ps, hps⟩ := h.mem.dom c' b hb
    by_cases hc : c' = c
    · subst hc; exact ⟨_, hs.at'⟩
    · exact ⟨ps, by rw [← hne c' hc]; exact hps⟩

/-- What the end of a region may be: the state that was told, or one that differs in the order of a map's entries only. -/
def RR (L : Lay S) (e' : Ex S) (st' : St S) (e : Ex S) (s : St S) : Prop := e = e' ∧ (s = st' ∨ (e' = .normal ∧ ∀ g a w, Inv L g s a w → Inv L g st' a w))

theorem AbsAny.swap {c : Nat} {x x' : MapC} (hR : ∀ s s2, Sw c x x' s s2 → R .normal s → R .normal s2) : ∀ {n : Nat} {listed : Array Bool} {ex : Seen} {st st2 : St S}, Sw c x x' st st2 →
    (∀ k o, listed.getD k false = false → ops[k]? = some o → blindOp o.op = true ∧ o.guard = none) → AbsAny P L call tk fl ops np base R n listed ex st → AbsAny P L call tk fl ops np base R n listed ex st2
  | 0, listed, ex, st, st2, hs, hb, h => ⟨h.1, hR _ _ hs h.2⟩
  | n + 1, listed, ex, st, st2, hs, hb, h => by
    refine ⟨fun hr => hR _ _ hs (h.1 hr), fun k hk => ?_⟩
    obtain ⟨hc, out, ho, hrest⟩ := h.2 k hk
    obtain ⟨hun, o, hok, hall⟩ := mem_ready.1 hk
    obtain ⟨hbl, hg⟩ := hb k o (unlisted hk) hok
    have ho' : effK P L call (tk k) (fl k) (st.rb + cellsBefore ops.toList k) o st some = some out := by
      unfold opK at ho
      simpa only [hok, hg] using ho
    have hrb : st2.rb = st.rb := by rw [hs.eq]
    have hsl : st2.slots = st.slots := by rw [hs.eq]
    have hnt : st2.nt = st.nt := by rw [hs.eq]
    obtain ⟨e, rfl, hm⟩ := blind_ok hbl ho'
    have hfp : fpOf P L tk fl ops k st2 = fpOf P L tk fl ops k st := by
      rw [fpOf_some hok, fpOf_some hok, hrb]; exact blind_same hbl _ _
    have ho2 : opK P L call (tk k) (fl k) ops k st2 some = some (.ok e) := by
      unfold opK
      simp only [hok, hg, hrb]
      rw [← effK_agree (st := st) (fun y _ i _ => by rw [hsl]) (fun y hy => ?_) (.inr (by rw [hs.eq]; simp))]
      · exact ho'
      · have := blind_off hbl ho' hs.at' y hy
        rw [hs.eq]
        show st.mem[y.1]? = (st.mem.set c _)[y.1]?
        rw [List.getElem?_set_ne (Ne.symm this)]
    refine ⟨by rw [hfp]; exact hc, .ok e, ho2, by rw [hnt]; exact hrest.1, ?_⟩
    rw [hfp]
    refine AbsAny.swap hR (hs.step (hm c _ hs.at')) (fun k' o' hk' ho' => hb k' o' ?_ ho') hrest.2
    by_cases hkk : k = k'
    · subst hkk; exact unlisted hk
    · rw [getD_set_ne false hkk] at hk'; exact hk'

theorem AbsAny.first {i : Nat} {oi : Oper} (hoi : ops[i]? = some oi) (hfl : floats oi.op = true) {ei : Eff S} : ∀ (n : Nat) (listed : Array Bool) (ex : Seen) (st : St S),
    Down ops listed → i ∈ Region.ready .any ops listed →
    (∀ j oj, ops[j]? = some oj → j ≠ i → listed.getD j true = false → (∀ e ∈ oj.after, Region.binds .any e = true → e.on ≠ i) → Sep ops (tk i) (tk j) oi oj) →
    st.rb = base → base ≤ st.mem.length → opK P L call (tk i) (fl i) ops i st some = some (.ok ei) → fits st.nt ei.w = true → compat ops ex i (fpOf P L tk fl ops i st) = true →
    AbsAny P L call tk fl ops np base R n (listed.setIfInBounds i true) ((i, fpOf P L tk fl ops i st) :: ex) (ei.apply st) →
    AbsAny P L call tk fl ops np base R (n + 1) listed ex st := by
  intro n
  induction n with
  | zero =>
    intro listed ex st hd hr hfree hrb hbl hop hfit hcomp H
    refine ⟨fun h => (by rw [h] at hr; cases hr), fun j hj => ?_⟩
    by_cases hji : j = i
    · subst hji; exact ⟨hcomp, .ok ei, hop, hfit, H⟩
    · have := ready_mono hj hji
      rw [H.1] at this
      cases this
  | succ n ih =>
    intro listed ex st hd hr hfree hrb hbl hop hfit hcomp H
    refine ⟨fun h => (by rw [h] at hr; cases hr), fun j hj => ?_⟩
    by_cases hji : j = i
    · subst hji; exact ⟨hcomp, .ok ei, hop, hfit, H⟩
    · obtain ⟨hcj, outj, hopj, hrest⟩ := H.2 j (ready_mono hj hji)
      obtain ⟨hjun, oj, hoj, hall⟩ := mem_ready.1 hj
      have hno : ∀ e ∈ oj.after, Region.binds .any e = true → e.on ≠ i := fun e he hb heq => by
        have h1 := hall e he hb
        rw [heq, unlisted hr] at h1
        cases h1
      have sep := hfree j oj hoj hji hjun hno
      obtain ⟨a1, a2, a3⟩ := Oper.apart_spec sep.apart
      have wri := opK_wr hoi hop
      rw [hfl] at wri
      obtain ⟨gi, di, mi⟩ := wri.soft rfl
      have qi : ∀ x ∈ ei.w, x.1 ∉ oj.looksAt ops := fun x hx => by
        rcases wri.w x hx with h | h
        · exact a1 _ h.symm
        · exact sep.ij _ h.1
      have hfpi := fpOf_some (P := P) (L := L) (tk := tk) (fl := fl) hoi st
      have hcl : clash (fpOf P L tk fl ops i st) (fpOf P L tk fl ops j (ei.apply st)) = false := by
        unfold compat at hcj
        rw [List.all_eq_true] at hcj
        have h1 := hcj _ (List.mem_cons_self ..)
        simp only [Bool.or_eq_true, Bool.not_eq_true', Bool.and_eq_true] at h1
        rcases h1 with h1 | h1 | h1
        · exact h1
        · have := dep_ready hd hj h1
          rw [unlisted hr] at this; cases this
        · rw [insB_float hoi hfl] at h1; cases h1.1
      have hlen : (ei.apply st).mem.length = st.mem.length := by
        show (setL st.mem ei.m ++ ei.g).length = _
        rw [gi, List.append_nil, setL_len]
      have hsj := slots_frame (st := st) qi
      have hfpj1 := fpOf_some (P := P) (L := L) (tk := tk) (fl := fl) hoj (ei.apply st)
      have hmj : ∀ x ∈ cellsOf P L (tk j) (fl j) ((ei.apply st).rb + cellsBefore ops.toList j) oj (ei.apply st), (ei.apply st).mem[x.1]? = st.mem[x.1]? := by
        intro x hx
        rw [← hfpj1] at hx
        refine mem_frame (fun y hy => ?_) (.inr gi)
        have h1 := wri.m y hy
        rw [← hfpi] at h1
        exact clash_no hcl h1 hx (by simp)
      have hopj' : opK P L call (tk j) (fl j) ops j st some = some outj := by
        refine opK_move hoj hsj rfl (fun out he => ?_) hopj
        rw [← effK_agree (looks_slots hsj) hmj (.inr hlen)]
        exact he
      have hfpj : fpOf P L tk fl ops j (ei.apply st) = fpOf P L tk fl ops j st := by
        rw [hfpj1, fpOf_some hoj st]
        exact cellsOf_agree (looks_slots hsj) (.inr ⟨hlen, hmj⟩)
      rw [hfpj] at hcl hcj
      have hcj' : compat ops ex j (fpOf P L tk fl ops j st) = true := compat_sub (fun x hx => List.mem_cons_of_mem _ hx) hcj
      refine ⟨hcj', outj, hopj', ?_⟩
      have wrj := opK_wr hoj hopj'
      have hmij : ∀ c, (c, true) ∈ fpOf P L tk fl ops j st → ∀ x ∈ fpOf P L tk fl ops i st, c ≠ x.1 := fun c hc x hx => clash_no (clash_symm hcl) hc hx (by simp)
      cases outj with
      | ok ej =>
        simp only at hrest ⊢
        refine ⟨hrest.1, ?_⟩
        have qj : ∀ x ∈ ej.w, x.1 ∉ oi.looksAt ops := fun x hx => by
          rcases wrj.w x hx with h | h
          · exact a3 _ h.symm
          · exact sep.ji _ h.1
        have hsi := slots_frame (st := st) qj
        have mj : ∀ x ∈ ej.m, ∀ y ∈ fpOf P L tk fl ops i st, x.1 ≠ y.1 := fun x hx y hy => by
          have h1 := wrj.m x hx
          rw [← fpOf_some hoj st] at h1
          exact hmij _ h1 y hy
        have hopi : opK P L call (tk i) (fl i) ops i (ej.apply st) some = some (.ok ei) := by
          refine opK_move hoi (fun t ht => (hsi t ht).symm) rfl (fun out he => ?_) hop
          rw [← effK_agree (looks_slots fun t ht => (hsi t ht).symm) (fun x hx => (mem_frame (fun y hy => mj y hy x (by rw [hfpi]; exact hx)) (.inl (effK_lt hfl he x hx))).symm) (.inl hfl)]
          exact he
        have hfpi2 : fpOf P L tk fl ops i (ej.apply st) = fpOf P L tk fl ops i st := by
          rw [hfpi, fpOf_some hoi]
          exact (cellsOf_agree (looks_slots fun t ht => (hsi t ht).symm) (.inl hfl)).symm
        have hww : ∀ x ∈ ei.w, ∀ y ∈ ej.w, x.1 ≠ y.1 := fun x hx y hy he => by
          rcases wrj.w y hy with h | h
          · rcases wri.w x hx with h' | h'
            · exact a2 _ h'.symm (by rw [he]; exact h.symm)
            · exact a3 _ h.symm (he ▸ raw_looks _ h'.1)
          · exact qi x hx (by rw [he]; exact raw_looks _ h.1)
        have hmm : ei.m = [] ∨ ∃ c v, ei.m = [(c, v)] ∧ c < st.mem.length ∧ ∀ y ∈ ej.m, y.1 ≠ c := by
          rcases mi with h | ⟨c, v, h, hs⟩
          · exact .inl h
          · refine .inr ⟨c, v, h, ?_, fun y hy => ?_⟩
            · rcases hs with ⟨rfl, h0⟩ | ⟨cs, h0, _⟩
              · exact (List.getElem?_eq_some_iff.1 h0).1
              · exact cellAt_lt h0
            · have h1 := wri.m (c, v) (by rw [h]; simp)
              rw [← hfpi] at h1
              exact mj y hy _ h1
        have hcomm := apply_comm (st := st) hww gi di hmm
        refine ih (listed.setIfInBounds j true) _ (ej.apply st) (hd.set hj) (ready_mono hr (Ne.symm hji)) (fun k ok hk hki hun hno => ?_) hrb ?_ hopi hfit ?_ ?_
        · refine hfree k ok hk hki ?_ hno
          by_cases hjk : j = k
          · subst hjk; exact hjun
          · rw [getD_set_ne true hjk] at hun; exact hun
        · show base ≤ (setL st.mem ej.m ++ ej.g).length
          rw [List.length_append, setL_len]; omega
        · rw [hfpi2]
          unfold compat at hcomp ⊢
          simp only [List.all_cons, Bool.and_eq_true]
          refine ⟨?_, hcomp⟩
          rw [clash_symm hcl]; simp
        · rw [hfpi2, Array.setIfInBounds_comm _ _ hji, ← hcomm, ← hfpj]
          refine AbsAny.sub (fun x hx => ?_) hrest.2
          simp only [List.mem_cons] at hx ⊢
          rcases hx with h | h | h
          · exact .inr (.inl h)
          · exact .inl h
          · exact .inr (.inr h)
      | pan p ej =>
        simp only at hrest ⊢
        obtain ⟨wj0, wjw, wjm⟩ := wrj
        have hleft : ((ei.apply st).panned ej).left ops base = (st.panned ej).left ops base := by
          refine left_same (cid := st.rb + cellsBefore ops.toList i) (fun x hx => ?_) gi di (by omega) hbl ?_
          · rcases wri.w x hx with h | h
            · refine .inl ?_
              unfold written
              exact Array.any_eq_true'.2 ⟨oi, Array.mem_of_getElem? hoi, by simp [h]⟩
            · exact .inr h.2
          rcases mi with h | ⟨c, v, h, hs⟩
          · exact .inl h
          · refine .inr ⟨c, v, h, hs, fun y hy => ?_⟩
            have h1 := wri.m (c, v) (by rw [h]; simp)
            rw [← hfpi] at h1
            have h2 := wjm y hy
            rw [← fpOf_some hoj st] at h2
            exact hmij _ h2 _ h1
        rw [hleft] at hrest
        exact hrest

theorem drawK_any : ∀ {n : Nat} {listed : Array Bool} {ex : Seen} {st : St S} {e' : Ex S} {st' : St S}, Down ops listed → st.rb = base → base ≤ st.mem.length →
    drawK P L call tk fl ops np base n listed ex st (fun e s => some (e, s)) = some (e', st') → AbsAny P L call tk fl ops np base (RR L e' st') n listed ex st
  | 0, listed, ex, st, e', st', hd, hrb, hbl, hk => by
    simp only [drawK] at hk
    split at hk
    · rename_i hr; cases hk; exact ⟨hr, rfl, .inl rfl⟩
    · cases hk
  | n + 1, listed, ex, st, e', st', hd, hrb, hbl, hk => by
    have len : ∀ e : Eff S, base ≤ (e.apply st).mem.length := fun e => by
      show base ≤ (setL st.mem e.m ++ e.g).length
      rw [List.length_append, setL_len]; omega
    have len2 : ∀ e e2 : Eff S, base ≤ (e2.apply (e.apply st)).mem.length := fun e e2 => by
      show base ≤ (setL (setL st.mem e.m ++ e.g) e2.m ++ e2.g).length
      rw [List.length_append, setL_len, List.length_append, setL_len]; omega
    simp only [drawK, opG_eq] at hk
    split at hk
    · rename_i i hi
      have hmem := List.mem_of_find?_eq_some hi
      have hp := List.find?_some hi
      simp only [Bool.and_eq_true] at hp
      obtain ⟨hcomp, hk⟩ := cond_some hk
      rw [opK_cps] at hk
      obtain ⟨_, oi, hoi, _⟩ := mem_ready.1 hmem
      have hfl : floats oi.op = true := by
        have := hp.1
        unfold floatsAt at this
        rw [hoi] at this; exact this
      cases ho : opK P L call (tk i) (fl i) ops i st some with
      | none => simp [ho] at hk
      | some out =>
        simp only [ho, Option.bind_some] at hk
        cases out with
        | ok ef =>
          simp only at hk
          obtain ⟨hfit, hk⟩ := cond_some hk
          exact AbsAny.first hoi hfl n listed ex st hd hmem (freeT_spec hoi hp.2) hrb hbl ho hfit hcomp (drawK_any (hd.set hmem) hrb (len ef) hk)
        | pan p ef => simp at hk
    · split at hk
      · rename_i hr
        cases hk
        exact ⟨fun _ => ⟨rfl, .inl rfl⟩, by rw [hr]; simp⟩
      · rename_i i hr
        refine ⟨by rw [hr]; simp, fun j hj => ?_⟩
        rw [hr] at hj
        simp at hj
        subst hj
        obtain ⟨hcomp, hk⟩ := cond_some hk
        rw [opK_cps] at hk
        cases ho : opK P L call (tk j) (fl j) ops j st some with
        | none => simp [ho] at hk
        | some out =>
          simp only [ho, Option.bind_some] at hk
          refine ⟨hcomp, out, rfl, ?_⟩
          cases out with
          | ok ef =>
            simp only at hk
            obtain ⟨hfit, hk⟩ := cond_some hk
            exact ⟨hfit, drawK_any (hd.set (by rw [hr]; simp)) hrb (len ef) hk⟩
          | pan p ef =>
            simp only at hk
            obtain ⟨hfit, hk⟩ := cond_some hk
            cases hk
            exact ⟨hfit, rfl, .inl rfl⟩
      · rename_i i j hr
        cases n with
        | zero => cases hk
        | succ n =>
          simp only at hk
          obtain ⟨hcond, hk⟩ := cond_some hk
          simp only [Bool.and_eq_true] at hcond
          obtain ⟨hpair, hsame, hci, hcj⟩ := hcond
          rw [opK_cps] at hk
          cases ho1 : opK P L call (tk i) (fl i) ops i st some with
          | none => simp [ho1] at hk
          | some out1 =>
            simp only [ho1, Option.bind_some] at hk
            unfold pairB at hpair
            split at hpair
            · rename_i oi oj hoi hoj
              simp only [Bool.and_eq_true, Option.isNone_iff_eq_none, beq_iff_eq, Bool.not_eq_true'] at hpair
              obtain ⟨p1, p2, p3, p4, p5, p6, p7, p8, p9, p10⟩ := hpair
              obtain ⟨c, s, l, rfl, hc, hai, hri⟩ := ins_run hoi p1 p3 p5 ho1
              simp only at hk
              rw [opK_cps] at hk
              cases ho2 : opK P L call (tk j) (fl j) ops j (Eff.apply { m := [(c, [.mpo (.b (mset l s true))])] } st) some with
              | none => simp [ho2] at hk
              | some out2 =>
                obtain ⟨c2, s2, l2, rfl, hc2, haj, hrj⟩ := ins_run hoj p2 p4 p6 ho2
                simp only [ho2, Option.bind_some] at hk
                have hlt := cellAt_lt hc
                have at1 : ∀ (st0 : St S) (v : List (PV S)), c < st0.mem.length → cellAt (Eff.apply { m := [(c, v)] } st0 : St S).mem c = some v := fun st0 v hl => by
                  show cellAt (st0.mem.set c (some v) ++ []) c = some v
                  rw [List.append_nil, cellAt_set hl, if_pos rfl]
                have haj' : insAt P L ops st j = some c2 := by
                  rw [← haj]; unfold insAt; rfl
                have hcc : c = c2 := by
                  rw [hai, haj'] at hsame
                  exact Nat.eq_of_beq_eq_true hsame
                subst hcc
                have hl2 : l2 = mset l s true := by
                  rw [at1 st _ hlt] at hc2; cases hc2; rfl
                subst hl2
                have hj1 := hrj st l rfl hc
                have hi2 := hri (Eff.apply { m := [(c, [.mpo (.b (mset l s2 true))])] } st) (mset l s2 true) rfl (at1 st _ hlt)
                have hri' : i ∈ Region.ready .any ops listed := by rw [hr]; simp
                have hrj' : j ∈ Region.ready .any ops listed := by rw [hr]; simp
                have hij : j ≠ i := fun e => by subst e; simp at p7
                have hrec := drawK_any (st := (Eff.apply { m := [(c, [.mpo (.b (mset (mset l s true) s2 true))])] } (Eff.apply { m := [(c, [.mpo (.b (mset l s true))])] } st) : St S)) ((hd.set hri').set (by rw [p8]; simp)) hrb (len2 _ _) hk
                have fpq : ∀ (q : Nat) (oq : Oper) (v : List (PV S)), ops[q]? = some oq → insB ops q = true → fpOf P L tk fl ops q (Eff.apply { m := [(c, v)] } st) = fpOf P L tk fl ops q st := fun q oq v hoq hq => by
                  unfold insB at hq
                  rw [hoq] at hq
                  simp only at hq
                  split at hq
                  · rename_i hop
                    unfold fpOf
                    rw [hoq]
                    simp only [cellsOf, hop]
                    rfl
                  · cases hq
                have hblind : ∀ k o, ((listed.setIfInBounds i true).setIfInBounds j true).getD k false = false → ops[k]? = some o → blindOp o.op = true ∧ o.guard = none := fun k o hk' hok => by
                  rw [List.all_eq_true] at p10
                  have h1 := p10 k (List.mem_range.2 (Array.getElem?_eq_some_iff.1 hok).1)
                  have hsz : ∀ q, q ∈ Region.ready .any ops listed → q < listed.size := fun q hq => by
                    have h0 := (mem_ready.1 hq).1
                    rcases Nat.lt_or_ge q listed.size with h' | h'
                    · exact h'
                    · simp [Array.getElem?_eq_none h'] at h0
                  have hki : k ≠ i := fun e => by
                    subst e
                    rw [getD_set_true (by simp [Array.getD_eq_getD_getElem?, hsz k hri'])] at hk'
                    cases hk'
                  have hkj : k ≠ j := fun e => by
                    subst e
                    simp [Array.getD_eq_getD_getElem?, hsz k hrj'] at hk'
                  have hkl : listed.getD k false = false := by
                    rw [getD_set_ne false (Ne.symm hkj), getD_set_ne false (Ne.symm hki)] at hk'; exact hk'
                  have b1 : Nat.beq k i = false := by
                    cases hb : Nat.beq k i with
                    | false => rfl
                    | true => exact absurd (Nat.eq_of_beq_eq_true hb) hki
                  have b2 : Nat.beq k j = false := by
                    cases hb : Nat.beq k j with
                    | false => rfl
                    | true => exact absurd (Nat.eq_of_beq_eq_true hb) hkj
                  simp only [b1, b2, hkl, hok, Bool.false_or, Bool.and_eq_true, Option.isNone_iff_eq_none] at h1
                  exact h1
                refine ⟨by rw [hr]; simp, fun q hq => ?_⟩
                rw [hr] at hq
                simp only [List.mem_cons, List.not_mem_nil, or_false] at hq
                rcases hq with rfl | rfl
                · refine ⟨hci, _, ho1, rfl, by rw [p8]; simp, fun q' hq' => ?_⟩
                  rw [p8] at hq'
                  simp only [List.mem_cons, List.not_mem_nil, or_false] at hq'
                  subst hq'
                  rw [fpq _ oj _ hoj p2]
                  refine ⟨?_, _, ho2, rfl, hrec⟩
                  unfold compat at hcj ⊢
                  rw [List.all_cons, hcj, Bool.and_true]
                  simp only [p1, p2, Bool.and_self, Bool.or_true]
                · have e12 : (Eff.apply { m := [(c, [.mpo (.b (mset (mset l s2 true) s true))])] } (Eff.apply { m := [(c, [.mpo (.b (mset l s2 true))])] } st) : St S) = { (Eff.apply { m := [(c, [.mpo (.b (mset (mset l s true) s2 true))])] } (Eff.apply { m := [(c, [.mpo (.b (mset l s true))])] } st) : St S) with mem := (Eff.apply { m := [(c, [.mpo (.b (mset (mset l s true) s2 true))])] } (Eff.apply { m := [(c, [.mpo (.b (mset l s true))])] } st) : St S).mem.set c (some [.mpo (.b (mset (mset l s2 true) s true))]) } := by
                    simp [Eff.apply, setL, List.set_set]
                  refine ⟨hcj, _, hj1, rfl, by rw [p9]; simp, fun q' hq' => ?_⟩
                  rw [p9] at hq'
                  simp only [List.mem_cons, List.not_mem_nil, or_false] at hq'
                  subst hq'
                  rw [fpq _ oi _ hoi p1]
                  refine ⟨?_, _, hi2, rfl, ?_⟩
                  · unfold compat at hci ⊢
                    rw [List.all_cons, hci, Bool.and_true]
                    simp only [p1, p2, Bool.and_self, Bool.or_true]
                  · rw [Array.setIfInBounds_comm _ _ hij]
                    refine AbsAny.sub (ex := _) (fun y hy => ?_) (AbsAny.swap (c := c) (x := .b (mset (mset l s true) s2 true)) (x' := .b (mset (mset l s2 true) s true)) (fun s0 s1 hs h => ⟨h.1, .inr ⟨h.1.symm, fun g a w hI => ?_⟩⟩) ⟨e12, at1 _ _ ?_⟩ hblind hrec)
                    · simp only [List.mem_cons] at hy ⊢
                      rcases hy with h | h | h
                      · exact .inr (.inl h)
                      · exact .inl h
                      · exact .inr (.inr h)
                    · show c < (st.mem.set c _ ++ []).length
                      simp; exact hlt
                    · rcases h.2 with rfl | ⟨_, hh⟩
                      · exact Inv.swap hs (mset_swap l) hI
                      · exact hh g a w (Inv.swap hs (mset_swap l) hI)
            · cases hpair
      · cases hk

end
end Go.Proofs.YtanfoijdfcnpoaaGreatDoor.Ev
