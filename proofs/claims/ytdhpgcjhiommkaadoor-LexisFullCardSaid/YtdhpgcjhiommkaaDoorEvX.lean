/- This file proves that a call, with the cells that its arguments reach and no others, keeps the evaluator's relation to the model's world, if the callee does; without any other condition. -/
import Derived.Test.YtdhpgcjhiommkaaDoorEvW
set_option linter.unusedVariables false
set_option linter.unusedSimpArgs false
namespace Go.Proofs.YtdhpgcjhiommkaaDoor.Ev

section
variable {S : Sig} {P : Program} {L : Lay S} {g : Gh} {st : St S} {a : Act} {w w' : World}

/-- What a call does, as the evaluator tells it. -/
def ResOk (L : Lay S) (g : Gh) (w : World) (r : Res S × Mem S) (e : Ending) (w' : World) : Prop :=
  ∃ g', Fr g w g' w' ∧ MemInv L g' r.2 w' ∧
    match r.1 with
    | .ret p => ∃ v, e = .returned v ∧ SRel L g' .res p v
    | .pan p => ∃ v, e = .panicked [{ v, recovered := false }] ∧ PRel L g'.β g'.G p v

/-- A call of a function by its number: its body is run, or the model answers at once. -/
def Does (P : Program) (f : FuncId) (args : Array Value) (w : World) (R : Ending → World → Prop) : Prop :=
  ((callFunc f args).run P w = .ok (.enter f args) w ∧ Calls P f args w R) ∨ ∃ v w', (callFunc f args).run P w = .ok (.value v) w' ∧ R (.returned v) w'

def CallOk (P : Program) (L : Lay S) (f : FuncId) (args : List (PV S)) (m : Mem S) (r : Res S × Mem S) : Prop :=
  ∀ (g : Gh) (vs : List Value) (w : World), MemInv L g m w → args.length = vs.length →
    (∀ (i : Nat) (p : PV S), args[i]? = some p → ∃ v, vs[i]? = some v ∧ SRel L g (.slot i) p v) →
    Does P f vs.toArray w (ResOk L g w r)

/-! ### Counting cells anew -/

mutual
theorem PRel.ren {β β' : Nat → Option Nat} {G : Nat → Nat → Option Value} {f : Nat → Nat} : ∀ {p : PV S} {v : Value}, PRel L β G p v → (∀ c ∈ p.ptrs, ∀ b, β c = some b → β' (f c) = some b) → PRel L β' G (p.ren f) v
  | .d x, v, h, _ => by simp only [PV.ren, PRel] at h ⊢; exact h
  | .full k l, v, h, _ => by simp only [PV.ren, PRel] at h ⊢; exact h
  | .own k l, v, h, _ => by simp only [PV.ren, PRel] at h ⊢; exact h
  | .ptr c o, v, h, hf => by
    simp only [PV.ren, PRel] at h ⊢; obtain ⟨b, h1, h2⟩ := h
    exact ⟨b, hf c (by simp [PV.ptrs]) b h1, h2⟩
  | .dp k x o, v, h, _ => by simp only [PV.ren, PRel] at h ⊢; exact h
  | .nilp, v, h, _ => by simp only [PV.ren, PRel] at h ⊢; exact h
  | .fn g a b, v, h, hf => by
    simp only [PV.ren, PRel] at h ⊢; obtain ⟨va, vb, h1, h2, h3⟩ := h
    exact ⟨va, vb, h1, PRels.ren h2 (fun c hc => hf c (by simp [PV.ptrs, hc])), PRels.ren h3 (fun c hc => hf c (by simp [PV.ptrs, hc]))⟩
  | .nilfn, v, h, _ => by simp only [PV.ren, PRel] at h ⊢; exact h
  | .iface t p, v, h, hf => by
    simp only [PV.ren, PRel] at h ⊢; obtain ⟨u, h1, h2⟩ := h; exact ⟨u, h1, PRel.ren h2 (fun c hc => hf c (by simp [PV.ptrs, hc]))⟩
  | .nilif, v, h, _ => by simp only [PV.ren, PRel] at h ⊢; exact h
  | .agg l, v, h, hf => by
    simp only [PV.ren, PRel] at h ⊢; obtain ⟨u, h1, h2⟩ := h; exact ⟨u, h1, PRels.ren h2 (fun c hc => hf c (by simp [PV.ptrs, hc]))⟩
  | .tup l, v, h, hf => by
    simp only [PV.ren, PRel] at h ⊢; obtain ⟨u, h1, h2⟩ := h; exact ⟨u, h1, PRels.ren h2 (fun c hc => hf c (by simp [PV.ptrs, hc]))⟩
  | .bot, v, h, _ => by simp only [PV.ren, PRel] at h ⊢; exact h
  | .any, v, h, _ => by simp only [PV.ren, PRel]
theorem PRels.ren {β β' : Nat → Option Nat} {G : Nat → Nat → Option Value} {f : Nat → Nat} : ∀ {p : List (PV S)} {v : List Value}, PRels L β G p v → (∀ c ∈ PV.ptrsL p, ∀ b, β c = some b → β' (f c) = some b) → PRels L β' G (PV.renL f p) v
  | [], [], _, _ => by simp only [PV.renL, PRels]
  | p :: ps, v :: vs, h, hf => by
    simp only [PV.renL, PRels] at h ⊢
    exact ⟨PRel.ren h.1 (fun c hc => hf c (by simp [PV.ptrsL, hc])), PRels.ren h.2 (fun c hc => hf c (by simp [PV.ptrsL, hc]))⟩
  | [], _ :: _, h, _ => by simp only [PRels] at h
  | _ :: _, [], h, _ => by simp only [PRels] at h
end

/-- Every cell that a value points to is there. -/
theorem renL_map (f : Nat → Nat) : ∀ l : List (PV S), PV.renL f l = l.map (PV.ren f)
  | [] => by simp [PV.renL]
  | p :: r => by simp [PV.renL, renL_map f r]

theorem ren_own {f : Nat → Nat} {p : PV S} {ω : Nat → Option Rt} {pos : Pos} {v : Value} : OwnOk L ω pos (p.ren f) v ↔ OwnOk L ω pos p v := by
  cases p <;> simp [PV.ren, OwnOk]

mutual
theorem PRel.ptrs {β : Nat → Option Nat} {G : Nat → Nat → Option Value} : ∀ {p : PV S} {v : Value}, PRel L β G p v → ∀ c ∈ p.ptrs, ∃ b, β c = some b
  | .d x, v, h, c, hc => by simp [PV.ptrs] at hc
  | .full k l, v, h, c, hc => by simp [PV.ptrs] at hc
  | .own k l, v, h, c, hc => by simp [PV.ptrs] at hc
  | .ptr c' o, v, h, c, hc => by simp [PV.ptrs] at hc; subst hc; simp only [PRel] at h; obtain ⟨b, h1, _⟩ := h; exact ⟨b, h1⟩
  | .dp k x o, v, h, c, hc => by simp [PV.ptrs] at hc
  | .nilp, v, h, c, hc => by simp [PV.ptrs] at hc
  | .fn g a b, v, h, c, hc => by
    simp only [PRel] at h; obtain ⟨va, vb, _, h2, h3⟩ := h
    simp only [PV.ptrs, List.mem_append] at hc
    rcases hc with hc | hc
    · exact PRels.ptrs h2 c hc
    · exact PRels.ptrs h3 c hc
  | .nilfn, v, h, c, hc => by simp [PV.ptrs] at hc
  | .iface t p, v, h, c, hc => by simp only [PRel] at h; obtain ⟨u, _, h2⟩ := h; simp only [PV.ptrs] at hc; exact PRel.ptrs h2 c hc
  | .nilif, v, h, c, hc => by simp [PV.ptrs] at hc
  | .agg l, v, h, c, hc => by simp only [PRel] at h; obtain ⟨u, _, h2⟩ := h; simp only [PV.ptrs] at hc; exact PRels.ptrs h2 c hc
  | .tup l, v, h, c, hc => by simp only [PRel] at h; obtain ⟨u, _, h2⟩ := h; simp only [PV.ptrs] at hc; exact PRels.ptrs h2 c hc
  | .bot, v, h, c, hc => by simp [PV.ptrs] at hc
  | .any, v, h, c, hc => by simp [PV.ptrs] at hc
theorem PRels.ptrs {β : Nat → Option Nat} {G : Nat → Nat → Option Value} : ∀ {p : List (PV S)} {v : List Value}, PRels L β G p v → ∀ c ∈ PV.ptrsL p, ∃ b, β c = some b
  | [], [], _, c, hc => by simp [PV.ptrsL] at hc
  | p :: ps, v :: vs, h, c, hc => by
    simp only [PRels] at h
    simp only [PV.ptrsL, List.mem_append] at hc
    rcases hc with hc | hc
    · exact PRel.ptrs h.1 c hc
    · exact PRels.ptrs h.2 c hc
  | [], _ :: _, h, _, _ => by simp only [PRels] at h
  | _ :: _, [], h, _, _ => by simp only [PRels] at h
end

theorem ptrsL_get {l : List (PV S)} {j : Nat} {p : PV S} (h : l[j]? = some p) {c : Nat} (hc : c ∈ p.ptrs) : c ∈ PV.ptrsL l := by
  induction l generalizing j with
  | nil => simp at h
  | cons q r ih =>
    simp only [PV.ptrsL, List.mem_append]
    cases j with
    | zero => simp at h; subst h; exact .inl hc
    | succ j => simp at h; exact .inr (ih h)

theorem idx_get {cs : List Nat} {c : Nat} (h : c ∈ cs) : cs[idx cs c]? = some c := by
  unfold idx
  rw [List.getElem?_eq_getElem (List.idxOf_lt_length_of_mem h)]
  simp

theorem idx_at {cs : List Nat} (hn : cs.Nodup) {i c : Nat} (h : cs[i]? = some c) : idx cs c = i := by
  have hi := (List.getElem?_eq_some_iff.1 h)
  obtain ⟨hlt, hc⟩ := hi
  unfold idx
  rw [← hc]
  exact List.Nodup.idxOf_getElem hn i hlt

/-- The callee's ghost: the cells cs, counted from 0; the rights that are handed on. -/
def Gh.loc (g : Gh) (cs : List Nat) : Gh where
  β := fun i => match cs[i]? with | some c => g.β c | none => none
  G := g.G
  ω := fun b => match g.ω b with
    | some r =>
      match r.pos with
      | .arg j => some { r with pos := .slot j }
      | .cell c j => if c ∈ cs then some { r with pos := .cell (idx cs c) j } else none
      | _ => none
    | none => none

def backPos (cs : List Nat) (base : Nat) : Pos → Pos
  | .cell i j => .cell (back cs base i) j
  | .res => .res
  | _ => .arg 0

/-- The caller's ghost behind the call. -/
def Gh.aft (g : Gh) (cs : List Nat) (base : Nat) (w : World) (g' : Gh) : Gh where
  β := fun c => match g.β c with | some b => some b | none => if base ≤ c then g'.β (cs.length + (c - base)) else none
  G := g'.G
  ω := fun b => if (g.loc cs).ω b = none ∧ b < w.heap.size then g.ω b else (g'.ω b).map fun r => { r with pos := backPos cs base r.pos }

theorem loc_ω_none {cs : List Nat} {b : Nat} (h : g.ω b = none) : (g.loc cs).ω b = none := by simp [Gh.loc, h]

theorem loc_ω_some {cs : List Nat} {b : Nat} {r' : Rt} (h : (g.loc cs).ω b = some r') : ∃ r, g.ω b = some r ∧ r'.e = r.e ∧ r'.top = r.top ∧
    ((∃ j, r.pos = .arg j ∧ r'.pos = .slot j) ∨ ∃ c j, c ∈ cs ∧ r.pos = .cell c j ∧ r'.pos = .cell (idx cs c) j) := by
  simp only [Gh.loc] at h
  split at h
  · rename_i r hr
    refine ⟨r, hr, ?_⟩
    split at h
    · rename_i j hj; cases h; exact ⟨rfl, rfl, .inl ⟨j, hj, rfl⟩⟩
    · rename_i c j hj
      split at h
      · rename_i hm; cases h; exact ⟨rfl, rfl, .inr ⟨c, j, hm, hj, rfl⟩⟩
      · cases h
    · cases h
  · cases h

theorem closedB_spec {m : Mem S} {cs : List Nat} {args : List (PV S)} (h : closedB m cs args = true) :
    (∀ c ∈ PV.ptrsL args, c ∈ cs) ∧ (∀ c ∈ cs, ∃ v, cellAt m c = some v ∧ ∀ c' ∈ PV.ptrsL v, c' ∈ cs) ∧ cs.Nodup := by
  unfold closedB at h
  simp only [Bool.and_eq_true, List.all_eq_true, List.contains_iff_mem, decide_eq_true_eq] at h
  obtain ⟨h1, h2, h3⟩ := h
  refine ⟨h1, fun c hc => ?_, h3⟩
  have := h2 c hc
  split at this
  · rename_i v hv; exact ⟨v, hv, by simpa using this⟩
  · cases this

theorem locMem_spec {m lm : Mem S} : ∀ {cs0 cs : List Nat}, (cs.mapM fun c => (cellAt m c).map fun v => some (PV.renL (idx cs0) v)) = some lm →
    lm.length = cs.length ∧ ∀ (i : Nat) (c : Nat), cs[i]? = some c → ∃ v, cellAt m c = some v ∧ cellAt lm i = some (PV.renL (idx cs0) v) := by
  intro cs0 cs h
  have hl : lm.length = cs.length := by
    induction cs generalizing lm with
    | nil => simp at h; subst h; rfl
    | cons c r ih =>
      simp only [List.mapM_cons, Option.bind_eq_bind, Option.pure_def] at h
      cases h1 : cellAt m c with
      | none => simp [h1] at h
      | some v =>
        cases h2 : r.mapM fun c => (cellAt m c).map fun v => some (PV.renL (idx cs0) v) with
        | none => simp [h1, h2] at h
        | some r' => simp [h1, h2] at h; subst h; simp [ih h2]
  refine ⟨hl, fun i c hc => ?_⟩
  obtain ⟨y, hy, hm⟩ := mapM_get h hc
  cases h1 : cellAt m c with
  | none => simp [h1] at hm
  | some v =>
    simp [h1] at hm
    refine ⟨v, rfl, ?_⟩
    unfold cellAt
    rw [hy, ← hm]

theorem someAll_spec : ∀ {m : Mem S} {now : List (List (PV S))}, someAll m = some now → now.length = m.length ∧ ∀ (i : Nat) (v : List (PV S)), now[i]? = some v ↔ cellAt m i = some v
  | [], now, h => by simp [someAll] at h; subst h; simp [cellAt]
  | some v :: r, now, h => by
    simp only [someAll] at h
    cases h1 : someAll r with
    | none => simp [h1] at h
    | some n =>
      simp [h1] at h; subst h
      obtain ⟨e1, e2⟩ := someAll_spec h1
      refine ⟨by simp [e1], fun i u => ?_⟩
      cases i with
      | zero => simp [cellAt]
      | succ i => simpa [cellAt] using e2 i u
  | none :: r, now, h => by simp [someAll] at h

theorem loc_mem (h : MemInv L g st.mem w) {cs : List Nat} {args : List (PV S)} (hcl : closedB st.mem cs args = true) {lm : Mem S} (hlm : locMem st.mem cs = some lm) : MemInv L (g.loc cs) lm w := by
  obtain ⟨c1, c2, c3⟩ := closedB_spec hcl
  obtain ⟨l1, l2⟩ := locMem_spec hlm
  have hβ : ∀ i b, (g.loc cs).β i = some b → ∃ c, cs[i]? = some c ∧ g.β c = some b := by
    intro i b hb
    simp only [Gh.loc] at hb
    split at hb
    · rename_i c hc; exact ⟨c, hc, hb⟩
    · cases hb
  have hren : ∀ c ∈ cs, ∀ b, g.β c = some b → (g.loc cs).β (idx cs c) = some b := by
    intro c hc b hb
    simp only [Gh.loc, idx_get hc]; exact hb
  refine ⟨fun i ps hps => ?_, fun i b hb => ?_, fun i i' b hi hi' => ?_, fun i b hb o => ?_, h.gs, fun b r hr => ?_, h.wok_sub (fun c b hb => by obtain ⟨c', _, h2⟩ := hβ c b hb; exact .inl ⟨c', h2⟩) (fun b _ _ hb => loc_ω_none hb) (fun _ _ _ _ h => h)⟩
  · have hi : i < cs.length := by rw [← l1]; exact cellAt_lt hps
    obtain ⟨v, hv, hlv⟩ := l2 i cs[i] (List.getElem?_eq_getElem hi)
    rw [hps] at hlv; cases hlv
    obtain ⟨b, vs, ty, e1, e2, e3, e4⟩ := h.cell _ v hv
    refine ⟨b, vs, ty, by simp only [Gh.loc, List.getElem?_eq_getElem hi]; exact e1, e2, by rw [renL_map, List.length_map]; exact e3, fun j p hp => ?_⟩
    rw [renL_map, List.getElem?_map] at hp
    cases hq : v[j]? with
    | none => simp [hq] at hp
    | some q =>
      simp [hq] at hp; subst hp
      obtain ⟨u, hu, hur⟩ := e4 j q hq
      obtain ⟨v', hv', hcl'⟩ := c2 cs[i] (List.getElem_mem hi)
      rw [hv] at hv'; cases hv'
      refine ⟨u, hu, hur.1.ren (fun c hc b hb => hren c (hcl' c (ptrsL_get hq hc)) b hb), ?_⟩
      rw [ren_own]
      have h2 := hur.2
      cases q <;> simp only [OwnOk] at h2 ⊢
      intro ad n cc hvv hn
      obtain ⟨r, f1, f2, f3, f4⟩ := h2 ad n cc hvv hn
      refine ⟨{ r with pos := .cell i j }, ?_, rfl, f3, f4⟩
      simp only [Gh.loc, f1, f2]
      rw [if_pos (List.getElem_mem hi), idx_at c3 (List.getElem?_eq_getElem hi)]
  · obtain ⟨c, hc, hb'⟩ := hβ i b hb
    obtain ⟨v, _, hv⟩ := l2 i c hc
    exact ⟨_, hv⟩
  · obtain ⟨c, hc, hb⟩ := hβ i b hi
    obtain ⟨c', hc', hb'⟩ := hβ i' b hi'
    have := h.inj c c' b hb hb'
    subst this
    rw [← idx_at c3 hc, ← idx_at c3 hc']
  · obtain ⟨c, hc, hb'⟩ := hβ i b hb
    exact h.βG c b hb' o
  · obtain ⟨r0, hr0, he, ht, _⟩ := loc_ω_some hr
    obtain ⟨f1, ⟨cs', ty, f2, f3⟩, f4⟩ := h.rt b r0 hr0
    refine ⟨fun i hb => ?_, ⟨cs', ty, f2, by rw [ht]; exact f3⟩, fun o ho => f4 o (by rw [← he]; exact ho)⟩
    obtain ⟨c, _, hb'⟩ := hβ i b hb
    exact f1 c hb'

theorem back_lt {cs : List Nat} {base i c : Nat} (h : cs[i]? = some c) : back cs base i = c := by simp [back, h]
theorem back_ge {cs : List Nat} {base i : Nat} (h : cs.length ≤ i) : back cs base i = base + (i - cs.length) := by simp [back, List.getElem?_eq_none h]

/-- How the cells stand behind a call: the mem of the caller. -/
theorem cellAt_app {m m' : Mem S} {c : Nat} : cellAt (m ++ m') c = if c < m.length then cellAt m c else cellAt m' (c - m.length) := by
  unfold cellAt
  by_cases h : c < m.length
  · rw [if_pos h, List.getElem?_append_left h]
  · rw [if_neg h, List.getElem?_append_right (by omega)]

theorem setL_len (m : Mem S) : ∀ x : List (Nat × List (PV S)), (setL m x).length = m.length := by
  intro x
  induction x generalizing m with
  | nil => rfl
  | cons p r ih => obtain ⟨c, v⟩ := p; simp [setL, ih]

theorem cellAt_setL {m : Mem S} : ∀ {cs : List Nat} {now : List (List (PV S))}, cs.Nodup → now.length = cs.length → (∀ c ∈ cs, c < m.length) → ∀ c,
    cellAt (setL m (cs.zip now)) c = if c ∈ cs then now[idx cs c]? else cellAt m c := by
  intro cs
  induction cs generalizing m with
  | nil => intro now _ _ _ c; simp [setL]
  | cons d r ih =>
    intro now hn hl hlt c
    cases now with
    | nil => simp at hl
    | cons v now =>
      simp only [List.zip_cons_cons, setL]
      rw [ih (List.nodup_cons.1 hn).2 (by simpa using hl) (fun c hc => by simpa using hlt c (by simp [hc]))]
      have hd : d ∉ r := (List.nodup_cons.1 hn).1
      by_cases hcr : c ∈ r
      · have hne : c ≠ d := by rintro rfl; exact hd hcr
        rw [if_pos hcr, if_pos (by simp [hcr])]
        have : idx (d :: r) c = idx r c + 1 := by
          unfold idx; rw [List.idxOf_cons]
          have : (d == c) = false := by simpa using Ne.symm hne
          rw [this]; rfl
        rw [this]; rfl
      · rw [if_neg hcr, cellAt_set (hlt d (by simp))]
        by_cases hcd : c = d
        · subst hcd
          rw [if_pos rfl, if_pos (by simp)]
          have : idx (c :: r) c = 0 := by unfold idx; simp
          rw [this]; rfl
        · rw [if_neg hcd, if_neg (by simp [hcd, hcr])]

theorem cellAt_back {cs : List Nat} {base : Nat} {m : Mem S} {i : Nat} {v : List (PV S)} : cellAt (backMem cs base m) i = some v ↔ ∃ u, cellAt m i = some u ∧ v = PV.renL (back cs base) u := by
  unfold cellAt backMem
  rw [List.getElem?_map]
  cases h : m[i]? with
  | none => simp
  | some x =>
    cases x with
    | none => simp
    | some u => simp [eq_comm]

theorem cellAt_take {m : Mem S} {n i : Nat} (h : i < n) : cellAt (m.take n) i = cellAt m i := by
  unfold cellAt; rw [List.getElem?_take, if_pos h]

theorem cellAt_drop {m : Mem S} {n i : Nat} : cellAt (m.drop n) i = cellAt m (n + i) := by
  unfold cellAt; rw [List.getElem?_drop]

section aft
variable {cs : List Nat} {args : List (PV S)} {lm m' : Mem S} {g' : Gh} {now : List (List (PV S))}

/-- What is needed of the two worlds around a call. -/
structure Around (L : Lay S) (g : Gh) (st : St S) (w : World) (cs : List Nat) (m' : Mem S) (g' : Gh) (w' : World) (now : List (List (PV S))) : Prop where
  mem : MemInv L g st.mem w
  nodup : cs.Nodup
  live : ∀ c ∈ cs, ∃ b, g.β c = some b
  fr : Fr (g.loc cs) w g' w'
  mem' : MemInv L g' m' w'
  nowLen : now.length = cs.length
  now : ∀ (i : Nat), i < cs.length → ∃ v, now[i]? = some v ∧ cellAt m' i = some v

theorem Around.βin (A : Around L g st w cs m' g' w' now) {i c : Nat} (h : cs[i]? = some c) : g'.β i = g.β c := by
  obtain ⟨b, hb⟩ := A.live c (List.mem_of_getElem? h)
  rw [hb]
  exact A.fr.βmono i b (by simp only [Gh.loc, h]; exact hb)

theorem Around.lt (A : Around L g st w cs m' g' w' now) {c b : Nat} (h : g.β c = some b) : c < st.mem.length := by
  obtain ⟨ps, hps⟩ := A.mem.dom c b h
  exact cellAt_lt hps

theorem Around.βback (A : Around L g st w cs m' g' w' now) {i b : Nat} (h : g'.β i = some b) : (g.aft cs st.mem.length w g').β (back cs st.mem.length i) = some b := by
  by_cases hi : i < cs.length
  · have hc := List.getElem?_eq_getElem hi
    rw [back_lt hc]
    rw [A.βin hc] at h
    simp only [Gh.aft, h]
  · rw [back_ge (by omega)]
    have hn : g.β (st.mem.length + (i - cs.length)) = none := by
      cases hb : g.β (st.mem.length + (i - cs.length)) with
      | none => rfl
      | some b => exact absurd (A.lt hb) (by omega)
    simp only [Gh.aft, hn]
    rw [if_pos (by omega), show cs.length + (st.mem.length + (i - cs.length) - st.mem.length) = i by omega]
    exact h

theorem Around.ωnone (A : Around L g st w cs m' g' w' now) {b : Nat} {r : Rt} (h : g'.ω b = some r) : ¬ ((g.loc cs).ω b = none ∧ b < w.heap.size) := by
  rintro ⟨h1, h2⟩
  by_cases hβ : ∃ i, (g.loc cs).β i = some b
  · obtain ⟨i, hi⟩ := hβ
    exact (A.mem'.rt b r h).1 i (A.fr.βmono i b hi)
  · have := (A.fr.keep b h2 (fun c hc => hβ ⟨c, hc⟩) h1).2.2
    rw [h] at this; cases this

theorem Around.ownBack (A : Around L g st w cs m' g' w' now) {p : PV S} {v : Value} {pos : Pos} (h : OwnOk L g'.ω pos p v) : OwnOk L (g.aft cs st.mem.length w g').ω (backPos cs st.mem.length pos) p v := by
  cases p <;> simp only [OwnOk] at h ⊢
  intro ad n c hv hn
  obtain ⟨r, h1, h2, h3, h4⟩ := h ad n c hv hn
  refine ⟨{ r with pos := backPos cs st.mem.length r.pos }, ?_, by rw [h2], h3, h4⟩
  simp only [Gh.aft]
  rw [if_neg (A.ωnone h1), h1]; rfl

theorem Around.relBack (A : Around L g st w cs m' g' w' now) {p : PV S} {v : Value} (h : PRel L g'.β g'.G p v) : PRel L (g.aft cs st.mem.length w g').β (g.aft cs st.mem.length w g').G (p.ren (back cs st.mem.length)) v :=
  h.ren fun c _ b hb => A.βback hb

theorem Around.βmono (A : Around L g st w cs m' g' w' now) : ∀ c b, g.β c = some b → (g.aft cs st.mem.length w g').β c = some b := by
  intro c b hb; simp only [Gh.aft, hb]

theorem Around.gmono (A : Around L g st w cs m' g' w' now) : ∀ b o v, g.G b o = some v → (g.aft cs st.mem.length w g').G b o = some v := fun b o v h => A.fr.gmono b o v h

/-- What is not handed on stays as it was. -/
theorem Around.ownKept (A : Around L g st w cs m' g' w' now) {p : PV S} {v : Value} {pos : Pos} (hpos : (∀ j, pos ≠ .arg j) ∧ ∀ c j, pos = .cell c j → c ∉ cs) (h : OwnOk L g.ω pos p v) :
    OwnOk L (g.aft cs st.mem.length w g').ω pos p v := by
  cases p <;> simp only [OwnOk] at h ⊢
  intro ad n c hv hn
  obtain ⟨r, h1, h2, h3, h4⟩ := h ad n c hv hn
  refine ⟨r, ?_, h2, h3, h4⟩
  simp only [Gh.aft]
  rw [if_pos]
  · exact h1
  · refine ⟨?_, A.mem.ω_lt h1⟩
    cases hl : (g.loc cs).ω ad.block with
    | none => rfl
    | some r' =>
      obtain ⟨r0, e1, _, _, e2⟩ := loc_ω_some hl
      rw [h1] at e1; cases e1
      rcases e2 with ⟨j, e3, _⟩ | ⟨c', j, e3, e4, _⟩
      · exact absurd (h2 ▸ e3) (hpos.1 j)
      · exact absurd e3 (hpos.2 c' j (h2 ▸ e4))

theorem Around.block (A : Around L g st w cs m' g' w' now) {c b : Nat} (hc : c ∉ cs) (hb : g.β c = some b) : w'.heap[b]? = w.heap[b]? ∧ ∀ o, g'.G b o = g.G b o := by
  have := A.fr.keep b (A.mem.β_lt hb) (fun i hi => by
    simp only [Gh.loc] at hi
    split at hi
    · rename_i c' hc'
      have := A.mem.inj c' c b hi hb
      subst this
      exact hc (List.mem_of_getElem? hc')
    · cases hi) (by
    cases hl : (g.loc cs).ω b with
    | none => rfl
    | some r' =>
      obtain ⟨r0, e1, _⟩ := loc_ω_some hl
      exact absurd hb ((A.mem.rt b r0 e1).1 c))
  exact ⟨this.1, this.2.1⟩

theorem Around.memAft (A : Around L g st w cs m' g' w' now) :
    MemInv L (g.aft cs st.mem.length w g') (setL st.mem (cs.zip (now.map (PV.renL (back cs st.mem.length)))) ++ backMem cs st.mem.length (m'.drop cs.length)) w' := by
  have hlt : ∀ c ∈ cs, c < st.mem.length := fun c hc => by obtain ⟨b, hb⟩ := A.live c hc; exact A.lt hb
  have hcell : ∀ c, cellAt (setL st.mem (cs.zip (now.map (PV.renL (back cs st.mem.length)))) ++ backMem cs st.mem.length (m'.drop cs.length)) c =
      if c < st.mem.length then (if c ∈ cs then (now.map (PV.renL (back cs st.mem.length)))[idx cs c]? else cellAt st.mem c) else cellAt (backMem cs st.mem.length (m'.drop cs.length)) (c - st.mem.length) := by
    intro c
    rw [cellAt_app, setL_len]
    by_cases h : c < st.mem.length
    · rw [if_pos h, if_pos h, cellAt_setL A.nodup (by simpa using A.nowLen) hlt]
    · rw [if_neg h, if_neg h]
  -- the three sorts of cells
  have hβ : ∀ c b, (g.aft cs st.mem.length w g').β c = some b → g.β c = some b ∨ (g.β c = none ∧ st.mem.length ≤ c ∧ g'.β (cs.length + (c - st.mem.length)) = some b) := by
    intro c b hb
    simp only [Gh.aft] at hb
    cases h : g.β c with
    | some b' => rw [h] at hb; exact .inl hb
    | none =>
      rw [h] at hb
      simp only at hb
      split at hb
      · rename_i hle; exact .inr ⟨rfl, hle, hb⟩
      · cases hb
  have hnew : ∀ i b, g'.β (cs.length + i) = some b → w.heap.size ≤ b := by
    intro i b hb
    rcases A.fr.βnew _ b hb with h | h
    · simp only [Gh.loc] at h
      rw [List.getElem?_eq_none (by omega)] at h; cases h
    · exact h
  refine ⟨fun c ps hps => ?_, fun c b hb => ?_, fun c1 c2 b h1 h2 => ?_, fun c b hb o => ?_, A.mem'.gs, fun b r hr => ?_, fun b hb => ?_⟩
  · rw [hcell] at hps
    split at hps
    · rename_i hclt
      split at hps
      · rename_i hc
        have hi := idx_get hc
        have hilt := (List.getElem?_eq_some_iff.1 hi).1
        obtain ⟨v, hv, hcv⟩ := A.now _ hilt
        rw [List.getElem?_map, hv] at hps
        simp at hps; subst hps
        obtain ⟨b, vs, ty, e1, e2, e3, e4⟩ := A.mem'.cell _ v hcv
        refine ⟨b, vs, ty, ?_, e2, by rw [renL_map, List.length_map]; exact e3, fun j p hp => ?_⟩
        · have := A.βback e1; rwa [back_lt hi] at this
        · rw [renL_map, List.getElem?_map] at hp
          cases hq : v[j]? with
          | none => simp [hq] at hp
          | some q =>
            simp [hq] at hp; subst hp
            obtain ⟨u, hu, hur⟩ := e4 j q hq
            have ho := A.ownBack hur.2
            simp only [backPos, back_lt hi] at ho
            exact ⟨u, hu, A.relBack hur.1, ren_own.2 ho⟩
      · rename_i hc
        obtain ⟨b, vs, ty, e1, e2, e3, e4⟩ := A.mem.cell c ps hps
        refine ⟨b, vs, ty, A.βmono c b e1, (A.block hc e1).1.trans e2, e3, fun j p hp => ?_⟩
        obtain ⟨v, hv, hvr⟩ := e4 j p hp
        exact ⟨v, hv, hvr.1.mono A.gmono A.βmono, A.ownKept ⟨by simp, by intro c' j' e; cases e; exact hc⟩ hvr.2⟩
    · rename_i hclt
      obtain ⟨u, hu, rfl⟩ := cellAt_back.1 hps
      rw [cellAt_drop] at hu
      obtain ⟨b, vs, ty, e1, e2, e3, e4⟩ := A.mem'.cell _ u hu
      have hbk : back cs st.mem.length (cs.length + (c - st.mem.length)) = c := by rw [back_ge (by omega)]; omega
      refine ⟨b, vs, ty, ?_, e2, by rw [renL_map, List.length_map]; exact e3, fun j p hp => ?_⟩
      · have := A.βback e1; rwa [hbk] at this
      · rw [renL_map, List.getElem?_map] at hp
        cases hq : u[j]? with
        | none => simp [hq] at hp
        | some q =>
          simp [hq] at hp; subst hp
          obtain ⟨z, hz, hzr⟩ := e4 j q hq
          have ho := A.ownBack hzr.2
          simp only [backPos, hbk] at ho
          exact ⟨z, hz, A.relBack hzr.1, ren_own.2 ho⟩
  · rw [hcell]
    rcases hβ c b hb with h | ⟨h1, h2, h3⟩
    · rw [if_pos (A.lt h)]
      split
      · rename_i hc
        have hi := idx_get hc
        obtain ⟨v, hv, _⟩ := A.now _ (List.getElem?_eq_some_iff.1 hi).1
        rw [List.getElem?_map, hv]; exact ⟨_, rfl⟩
      · exact A.mem.dom c b h
    · rw [if_neg (by omega)]
      obtain ⟨ps, hps⟩ := A.mem'.dom _ b h3
      exact ⟨_, cellAt_back.2 ⟨ps, by rw [cellAt_drop]; exact hps, rfl⟩⟩
  · rcases hβ c1 b h1 with a1 | ⟨a1, a2, a3⟩ <;> rcases hβ c2 b h2 with b1 | ⟨b1, b2, b3⟩
    · exact A.mem.inj c1 c2 b a1 b1
    · exact absurd (A.mem.β_lt a1) (by have := hnew _ _ b3; omega)
    · exact absurd (A.mem.β_lt b1) (by have := hnew _ _ a3; omega)
    · have := A.mem'.inj _ _ b a3 b3; omega
  · rcases hβ c b hb with h | ⟨h1, h2, h3⟩
    · by_cases hc : c ∈ cs
      · have := A.βin (idx_get hc)
        exact A.mem'.βG (idx cs c) b (by rw [this]; exact h) o
      · show g'.G b o = none
        rw [(A.block hc h).2]; exact A.mem.βG c b h o
    · exact A.mem'.βG _ b h3 o
  · simp only [Gh.aft] at hr
    split at hr
    · rename_i hcond
      obtain ⟨e1, ⟨cs', ty, e2, e3⟩, e4⟩ := A.mem.rt b r hr
      have hk := A.fr.keep b hcond.2 (fun i hi => by
        simp only [Gh.loc] at hi
        split at hi
        · exact e1 _ hi
        · cases hi) hcond.1
      refine ⟨fun c hb => ?_, ⟨cs', ty, hk.1.trans e2, e3⟩, fun o ho => ?_⟩
      · rcases hβ c b hb with h | ⟨h1, h2, h3⟩
        · exact e1 c h
        · have := hnew _ _ h3; omega
      · show g'.G b o = none
        rw [hk.2.1]; exact e4 o ho
    · rename_i hcond
      cases hg : g'.ω b with
      | none => simp [hg] at hr
      | some r0 =>
        simp [hg] at hr
        obtain ⟨e1, ⟨cs', ty, e2, e3⟩, e4⟩ := A.mem'.rt b r0 hg
        subst hr
        refine ⟨fun c hb => ?_, ⟨cs', ty, e2, e3⟩, e4⟩
        rcases hβ c b hb with h | ⟨h1, h2, h3⟩
        · by_cases hc : c ∈ cs
          · have := A.βin (idx_get hc)
            exact e1 _ (by rw [this]; exact h)
          · have hlt := A.mem.β_lt h
            cases hl : (g.loc cs).ω b with
            | none => exact hcond ⟨hl, hlt⟩
            | some r' =>
              obtain ⟨r1, f1, _⟩ := loc_ω_some hl
              exact (A.mem.rt b r1 f1).1 c h
        · exact e1 _ h3
  · obtain ⟨k1, k2, o1, k3, k4⟩ := A.mem.wok b hb
    obtain ⟨k5, k6, o2, k7, k8⟩ := A.mem'.wok b hb
    refine ⟨fun c hc => ?_, ?_, o2, k7, k8⟩
    · rcases hβ c b hc with h | ⟨h1, h2, h3⟩
      · exact k1 c h
      · exact k5 _ h3
    · simp only [Gh.aft]
      rw [if_pos ⟨loc_ω_none k2, (Array.getElem?_eq_some_iff.1 k3).1⟩]; exact k2

theorem Around.frAft (A : Around L g st w cs m' g' w' now) : Fr g w (g.aft cs st.mem.length w g') w' := by
  refine ⟨A.fr.os, A.fr.tape, A.fr.output, A.fr.size, fun b hb hβ hω => ?_, A.gmono, A.βmono, fun c b hb => ?_⟩
  · have hl : (g.loc cs).ω b = none := loc_ω_none hω
    have hk := A.fr.keep b hb (fun i hi => by
      simp only [Gh.loc] at hi
      split at hi
      · exact hβ _ hi
      · cases hi) hl
    refine ⟨hk.1, hk.2.1, ?_⟩
    simp only [Gh.aft]
    rw [if_pos ⟨hl, hb⟩]; exact hω
  · simp only [Gh.aft] at hb
    cases h : g.β c with
    | some b' => rw [h] at hb; exact .inl hb
    | none =>
      rw [h] at hb
      simp only at hb
      split at hb
      · rcases A.fr.βnew _ b hb with h' | h'
        · simp only [Gh.loc] at h'
          rw [List.getElem?_eq_none (by omega)] at h'; cases h'
        · exact .inr h'
      · cases hb

end aft

/-! ### Taking the arguments -/

def argIx : List Operand → Nat → Option Nat
  | [], _ => none
  | .tmp j :: xs, i => if i = j then some 0 else (argIx xs i).map (· + 1)
  | _ :: xs, i => (argIx xs i).map (· + 1)

theorem tmps_tmp (j : Nat) (xs : List Operand) : tmps (.tmp j :: xs) = j :: tmps xs := by simp [tmps]

theorem mem_tmps {xs : List Operand} {j i : Nat} (h : xs[j]? = some (.tmp i)) : i ∈ tmps xs := by
  unfold tmps
  exact List.mem_filterMap.2 ⟨.tmp i, List.mem_of_getElem? h, rfl⟩

theorem argIx_get : ∀ {xs : List Operand} {j i : Nat}, (tmps xs).Nodup → xs[j]? = some (.tmp i) → argIx xs i = some j
  | [], j, i, _, h => by simp at h
  | x :: xs, j, i, hn, h => by
    cases j with
    | zero => simp at h; subst h; simp [argIx]
    | succ j =>
      simp at h
      cases x with
      | tmp k =>
        rw [tmps_tmp, List.nodup_cons] at hn
        have hne : i ≠ k := by rintro rfl; exact hn.1 (mem_tmps h)
        simp only [argIx, if_neg hne, argIx_get hn.2 h, Option.map_some]
      | const v => simp only [argIx, argIx_get (xs := xs) (by simpa [tmps] using hn) h, Option.map_some]
      | global v => simp only [argIx, argIx_get (xs := xs) (by simpa [tmps] using hn) h, Option.map_some]
      | func v => simp only [argIx, argIx_get (xs := xs) (by simpa [tmps] using hn) h, Option.map_some]

theorem argIx_none : ∀ {xs : List Operand} {i : Nat}, i ∉ tmps xs → argIx xs i = none
  | [], i, _ => rfl
  | x :: xs, i, h => by
    cases x with
    | tmp k => rw [tmps_tmp] at h; simp at h; simp only [argIx, if_neg h.1, argIx_none h.2, Option.map_none]
    | const v => simp only [argIx, argIx_none (xs := xs) (by simpa [tmps] using h), Option.map_none]
    | global v => simp only [argIx, argIx_none (xs := xs) (by simpa [tmps] using h), Option.map_none]
    | func v => simp only [argIx, argIx_none (xs := xs) (by simpa [tmps] using h), Option.map_none]

def argPos (xs : List Operand) (k : Nat) : Pos → Pos
  | .slot i => match argIx xs i with | some j => .arg (k + j) | none => .slot i
  | p => p

def Gh.args (g : Gh) (xs : List Operand) (k : Nat) : Gh := { g with ω := fun b => (g.ω b).map fun r => { r with pos := argPos xs k r.pos } }

theorem OwnOk.args {pos : Pos} {x : PV S} {v : Value} {xs : List Operand} {k : Nat} (h : OwnOk L g.ω pos x v) : OwnOk L (g.args xs k).ω (argPos xs k pos) x v := by
  cases x <;> simp only [OwnOk] at h ⊢
  intro a n c hv hn
  obtain ⟨r, h1, h2, h3, h4⟩ := h a n c hv hn
  exact ⟨{ r with pos := argPos xs k r.pos }, by simp only [Gh.args, h1, Option.map_some], by rw [h2], h3, h4⟩

theorem took_look (st : St S) : ∀ (xs : List Operand) (s : Nat → PV S), (∀ i ∈ tmps xs, (s i).strip = (st.slots i).strip) → (tmps xs).Nodup → ∀ i, updL s (tookAll st xs) i = if i ∈ tmps xs then (st.slots i).strip else s i
  | [], s, _, _, i => by simp [tookAll, updL, tmps]
  | .tmp j :: xs, s, hs, hn, i => by
    rw [tmps_tmp, List.nodup_cons] at hn
    simp only [tookAll, took, List.singleton_append, updL]
    rw [took_look st xs _ (fun i' hi' => by
      rw [upd_other _ _ (by rintro rfl; exact hn.1 hi')]; exact hs i' (by rw [tmps_tmp]; simp [hi'])) hn.2, tmps_tmp]
    by_cases h1 : i ∈ tmps xs
    · simp [h1]
    · by_cases h2 : i = j
      · subst h2; simp [h1, upd_same]
      · simp [h1, h2, upd_other _ _ h2]
  | .const v :: xs, s, hs, hn, i => by
    simp only [tookAll, took, List.nil_append]
    have e : tmps (.const v :: xs) = tmps xs := by simp [tmps]
    rw [e] at hs hn ⊢; exact took_look st xs s hs hn i
  | .global v :: xs, s, hs, hn, i => by
    simp only [tookAll, took, List.nil_append]
    have e : tmps (.global v :: xs) = tmps xs := by simp [tmps]
    rw [e] at hs hn ⊢; exact took_look st xs s hs hn i
  | .func v :: xs, s, hs, hn, i => by
    simp only [tookAll, took, List.nil_append]
    have e : tmps (.func v :: xs) = tmps xs := by simp [tmps]
    rw [e] at hs hn ⊢; exact took_look st xs s hs hn i

theorem rdAllRaw_get (h : Inv L g st a w) : ∀ {ts : List TypeId} {xs : List Operand} {ps : List (PV S)}, rdAllRaw P L st ts xs = some ps →
    ps.length = xs.length ∧ ∀ (j : Nat) (p : PV S), ps[j]? = some p → ∃ x t, xs[j]? = some x ∧ rdRaw P L st t x = some p
  | [], [], ps, hr => by simp [rdAllRaw] at hr; subst hr; simp
  | t :: ts, x :: xs, ps, hr => by
    simp only [rdAllRaw] at hr
    cases h1 : rdRaw P L st t x with
    | none => simp [h1] at hr
    | some p =>
      cases h2 : rdAllRaw P L st ts xs with
      | none => simp [h1, h2] at hr
      | some r =>
        simp [h1, h2] at hr; subst hr
        obtain ⟨e1, e2⟩ := rdAllRaw_get h h2
        refine ⟨by simp [e1], fun j q hq => ?_⟩
        cases j with
        | zero => simp at hq; subst hq; exact ⟨x, t, rfl, h1⟩
        | succ j => simp at hq; simpa using e2 j q hq
  | [], _ :: _, ps, hr => by simp [rdAllRaw] at hr
  | _ :: _, [], ps, hr => by simp [rdAllRaw] at hr

theorem Inv.takeAll (h : Inv L g st a w) {xs : List Operand} {ts : List TypeId} {ps : List (PV S)} (k : Nat) (hn : (tmps xs).Nodup) (hr : rdAllRaw P L st ts xs = some ps) :
    Inv L (g.args xs k) { st with slots := updL st.slots (tookAll st xs) } a w ∧ Fr g w (g.args xs k) w ∧ ps.length = (xs.map a.eval).length ∧
      (∀ (j : Nat) (p : PV S), ps[j]? = some p → ∃ v, (xs.map a.eval)[j]? = some v ∧ SRel L (g.args xs k) (.arg (k + j)) p v) := by
  obtain ⟨hl, hget⟩ := rdAllRaw_get h hr
  refine ⟨⟨h.size, fun i => ?_, ?_, h.dfs⟩, ?_, by simpa using hl, fun j p hp => ?_⟩
  · show SRel L _ _ (updL st.slots (tookAll st xs) i) _
    rw [took_look st xs st.slots (fun _ _ => rfl) hn i]
    split
    · exact ⟨(h.slot i).1.strip, OwnOk.of_strip _ _⟩
    · rename_i hi
      have := (h.slot i).2.args (xs := xs) (k := k)
      simp only [argPos, argIx_none hi] at this
      exact ⟨(h.slot i).1, this⟩
  · refine ⟨fun c ps hc => ?_, h.mem.dom, h.mem.inj, h.mem.βG, h.mem.gs, fun b r hr => ?_, h.mem.wok_sub (fun c b hb => .inl ⟨c, hb⟩) (fun b _ _ hb => by simp [Gh.args, hb]) (fun _ _ _ _ h => h)⟩
    · obtain ⟨b, vs, ty, e1, e2, e3, e4⟩ := h.mem.cell c ps hc
      refine ⟨b, vs, ty, e1, e2, e3, fun j p hp => ?_⟩
      obtain ⟨v, hv, hvr⟩ := e4 j p hp
      exact ⟨v, hv, hvr.1, hvr.2.args⟩
    · simp only [Gh.args] at hr
      cases hw : g.ω b with
      | none => simp [hw] at hr
      | some r0 => simp [hw] at hr; subst hr; exact h.mem.rt b r0 hw
  · exact ⟨rfl, rfl, rfl, Nat.le_refl _, fun b _ _ h => ⟨rfl, fun _ => rfl, by simp [Gh.args, h]⟩, fun _ _ _ h => h, fun _ _ h => h, fun _ _ h => .inl h⟩
  · obtain ⟨x, t, hx, hrx⟩ := hget j p hp
    refine ⟨a.eval x, by rw [List.getElem?_map, hx]; rfl, ?_⟩
    obtain ⟨h1, h2, h3⟩ := rdRaw_rel h hrx
    cases x with
    | tmp i =>
      have := (h2 i rfl).2.2.args (xs := xs) (k := k)
      simp only [argPos, argIx_get hn hx] at this
      exact ⟨h1, this⟩
    | const v => exact ⟨h1, h3 (by simp) _ _⟩
    | func f => exact ⟨h1, h3 (by simp) _ _⟩
    | global q => simp [rdRaw] at hrx

theorem OwnOk.of_norm {ω : Nat → Option Rt} {pos : Pos} (p : PV S) (v : Value) : OwnOk L ω pos p.norm v := by
  cases p <;> simp [PV.norm, OwnOk]

/-- The arguments of a call, and what they leave. -/
theorem args_rel (h : Inv L g st a w) {tk fl : Bool} {fst cap : List (PV S)} {ts : List TypeId} {xs : List Operand} {args : List (PV S)} (hargs : callArgs P L tk fl st fst cap ts xs = some args)
    {va vb : List Value} (ha : PRels L g.β g.G fst va) (hb : PRels L g.β g.G cap vb) :
    ∃ g1, g1.β = g.β ∧ g1.G = g.G ∧ Inv L g1 { st with slots := updL st.slots (if tk then tookAll st xs else []) } a w ∧ Fr g w g1 w ∧
      args.length = (va ++ xs.map a.eval ++ vb).length ∧
      ∀ (j : Nat) (p : PV S), args[j]? = some p → ∃ v, (va ++ xs.map a.eval ++ vb)[j]? = some v ∧ SRel L g1 (.arg j) p v := by
  have glue : ∀ (g1 : Gh) (mid : List (PV S)), g1.β = g.β → g1.G = g.G → mid.length = (xs.map a.eval).length →
      (∀ (j : Nat) (p : PV S), mid[j]? = some p → ∃ v, (xs.map a.eval)[j]? = some v ∧ SRel L g1 (.arg (fst.length + j)) p v) →
      (fst.map PV.norm ++ mid ++ cap.map PV.norm).length = (va ++ xs.map a.eval ++ vb).length ∧
      ∀ (j : Nat) (p : PV S), (fst.map PV.norm ++ mid ++ cap.map PV.norm)[j]? = some p → ∃ v, (va ++ xs.map a.eval ++ vb)[j]? = some v ∧ SRel L g1 (.arg j) p v := by
    intro g1 mid e1 e2 hl hm
    have l1 := ha.length
    have l2 := hb.length
    refine ⟨by simp at hl ⊢; omega, fun j p hp => ?_⟩
    by_cases c1 : j < fst.length
    · rw [List.append_assoc, List.getElem?_append_left (by simpa using c1)] at hp
      rw [List.append_assoc, List.getElem?_append_left (by omega)]
      simp only [List.getElem?_map, Option.map_eq_some_iff] at hp
      obtain ⟨q, hq, rfl⟩ := hp
      obtain ⟨v, hv, hvr⟩ := ha.get hq
      exact ⟨v, hv, by rw [e1, e2]; exact hvr.norm, OwnOk.of_norm _ _⟩
    · by_cases c2 : j < fst.length + mid.length
      · rw [List.append_assoc, List.getElem?_append_right (by simp; omega), List.getElem?_append_left (by simp; omega)] at hp
        simp only [List.length_map] at hp
        obtain ⟨v, hv, hvr⟩ := hm _ p hp
        refine ⟨v, ?_, by rwa [show fst.length + (j - fst.length) = j by omega] at hvr⟩
        rw [List.append_assoc, List.getElem?_append_right (by omega), List.getElem?_append_left (by omega), ← l1]; exact hv
      · rw [List.getElem?_append_right (by simp; omega)] at hp
        rw [List.getElem?_append_right (by simp; simp at hl; omega)]
        simp only [List.getElem?_map, Option.map_eq_some_iff] at hp
        obtain ⟨q, hq, rfl⟩ := hp
        obtain ⟨v, hv, hvr⟩ := hb.get hq
        refine ⟨v, ?_, by rw [e1, e2]; exact hvr.norm, OwnOk.of_norm _ _⟩
        rw [← hv]; congr 1; simp at hl ⊢; omega
  unfold callArgs at hargs
  cases tk with
  | true =>
    simp only [if_true] at hargs ⊢
    split at hargs
    · rename_i mid hm
      split at hm
      · rename_i hn
        cases hargs
        obtain ⟨i1, i2, i3, i4⟩ := h.takeAll fst.length hn hm
        exact ⟨g.args xs fst.length, rfl, rfl, i1, i2, glue _ mid rfl rfl i3 i4⟩
      · cases hm
    · cases hargs
  | false =>
    simp only [Bool.false_eq_true, if_false] at hargs ⊢
    have hself : Inv L g { st with slots := updL st.slots [] } a w := h
    split at hargs
    · rename_i mid hm
      cases hargs
      refine ⟨g, rfl, rfl, hself, Fr.refl g w, glue g mid rfl rfl ?_ ?_⟩
      · cases fl with
        | true => simp only [if_true] at hm; exact (rdAll_rel h hm).1.length
        | false =>
          simp only [Bool.false_eq_true, if_false] at hm
          cases hq : rdAll P L st ts xs with
          | none => simp [hq] at hm
          | some qs => simp [hq] at hm; subst hm; simpa using (rdAll_rel h hq).1.length
      · intro j p hp
        cases fl with
        | true =>
          simp only [if_true] at hm
          obtain ⟨r1, r2⟩ := rdAll_rel h hm
          obtain ⟨v, hv, hvr⟩ := r1.get hp
          exact ⟨v, hv, hvr, OwnOk.none (r2 p (List.mem_of_getElem? hp))⟩
        | false =>
          simp only [Bool.false_eq_true, if_false] at hm
          cases hq : rdAll P L st ts xs with
          | none => simp [hq] at hm
          | some qs =>
            simp [hq] at hm; subst hm
            rw [List.getElem?_map] at hp
            cases hz : qs[j]? with
            | none => simp [hz] at hp
            | some z =>
              simp [hz] at hp; subst hp
              obtain ⟨v, hv, hvr⟩ := (rdAll_rel h hq).1.get hz
              exact ⟨v, hv, hvr.norm, OwnOk.of_norm _ _⟩
    · cases hargs

theorem callE_around (h : Inv L g st a w) {call : DCall S} {f : FuncId} {args : List (PV S)} {r : Res S} {cs : List Nat} {now : List (List (PV S))} {more : Mem S}
    (hE : callE call st f args = some (r, cs, now, more)) : ∃ (lm : Mem S) (r0 : Res S) (m' : Mem S) (now0 : List (List (PV S))), closedB st.mem cs args = true ∧ locMem st.mem cs = some lm ∧ call f (PV.renL (idx cs) args) lm = some (r0, m') ∧
      now0.length = cs.length ∧ (∀ (i : Nat), i < cs.length → ∃ v, now0[i]? = some v ∧ cellAt m' i = some v) ∧
      r = resRen (back cs st.mem.length) r0 ∧ now = now0.map (PV.renL (back cs st.mem.length)) ∧ more = backMem cs st.mem.length (m'.drop cs.length) := by
  unfold callE at hE
  simp only at hE
  generalize reachN st.mem.length st.mem (PV.ptrsL args).eraseDups = cs0 at hE
  split at hE
  · rename_i hcl
    cases hlm : locMem st.mem cs0 with
    | none => simp [hlm] at hE
    | some lm =>
      simp only [hlm] at hE
      cases hc : call f (PV.renL (idx cs0) args) lm with
      | none => simp [hc] at hE
      | some q =>
        obtain ⟨r0, m'⟩ := q
        simp only [hc] at hE
        cases hn : someAll (m'.take cs0.length) with
        | none => simp [hn] at hE
        | some now0 =>
          simp only [hn] at hE
          split at hE
          · rename_i hl
            cases hE
            refine ⟨lm, r0, m', now0, hcl, hlm, hc, hl, fun i hi => ?_, rfl, rfl, rfl⟩
            have hi' : i < now0.length := by omega
            refine ⟨_, List.getElem?_eq_getElem hi', ?_⟩
            rw [← cellAt_take hi]
            exact ((someAll_spec hn).2 i _).1 (List.getElem?_eq_getElem hi')
          · cases hE
  · cases hE

theorem step_call (h : Inv L g st a w) {call : DCall S} (hcall : ∀ f args m r, call f args m = some r → CallOk P L f args m r) {o : Oper} {c : Call} (ho : o.op = .call c) {f : Operand} (hc : c.callee = .value f)
    {fd : FuncId} {fst cap : List (PV S)} (hf : rd P L st 0 f = some (.fn (.func fd) fst cap)) {tk fl : Bool} {args : List (PV S)} (hargs : callArgs P L tk fl st fst cap c.argTypes.toList c.args.toList = some args)
    {r : Res S} {cs : List Nat} {now : List (List (PV S))} {more : Mem S} (hE : callE call st fd args = some (r, cs, now, more))
    (hd : ∀ p, r = .ret p → fits st.nt ((if tk then tookAll st c.args.toList else []) ++ wr o.dst p) = true) :
    StepOk P L g w st o a (match r with
      | .ret p => .ok { w := (if tk then tookAll st c.args.toList else []) ++ wr o.dst p, m := cs.zip now, g := more }
      | .pan p => .pan p { m := cs.zip now, g := more }) := by
  have hfr := (rd_rel h hf).1
  simp only [PRel] at hfr
  obtain ⟨va, vb, hfv, hva, hvb⟩ := hfr
  obtain ⟨g1, gβ, gG, hI1, hF1, hlen, hget⟩ := args_rel h hargs hva hvb
  obtain ⟨lm, r0, m', now0, hcl, hlm, hcl2, hnl, hnow, hr, hnw, hmore⟩ := callE_around h hE
  obtain ⟨cl1, cl2, cl3⟩ := closedB_spec hcl
  have hok := hcall fd _ lm (r0, m') hcl2 (g1.loc cs) (va ++ c.args.toList.map a.eval ++ vb) w (loc_mem hI1.mem hcl hlm) (by rw [renL_map, List.length_map]; exact hlen) (fun i p hp => by
    rw [renL_map, List.getElem?_map] at hp
    cases hq : args[i]? with
    | none => simp [hq] at hp
    | some q =>
      simp [hq] at hp; subst hp
      obtain ⟨v, hv, hvr⟩ := hget i q hq
      refine ⟨v, hv, hvr.1.ren (fun cc hcc b hb => ?_), ?_⟩
      · have hm := cl1 cc (ptrsL_get hq hcc)
        simp only [Gh.loc, idx_get hm]; exact hb
      · rw [ren_own]
        have h2 := hvr.2
        cases q <;> simp only [OwnOk] at h2 ⊢
        intro ad n cc hvv hn
        obtain ⟨r, f1, f2, f3, f4⟩ := h2 ad n cc hvv hn
        exact ⟨{ r with pos := .slot i }, by simp only [Gh.loc, f1, f2], rfl, f3, f4⟩)
  have harr : (va ++ c.args.toList.map a.eval ++ vb).toArray = va.toArray ++ c.args.map a.eval ++ vb.toArray := by
    apply Array.ext'; simp
  rw [harr] at hok
  have hexec : (execOp a.eval o).run P w = (callFunc fd (va.toArray ++ c.args.map a.eval ++ vb.toArray)).run P w := by
    simp only [execOp, ho, resolve, hc, hfv, Deferred.ofValue, Sem.run_bind, Sem.run_pure, Result.andThen_ok, invoke]
  -- what any return leads to
  have hA : ∀ g' w', Fr (g1.loc cs) w g' w' → MemInv L g' m' w' → Around L g1 st w cs m' g' w' now0 := fun g' w' f1 f2 =>
    ⟨hI1.mem, cl3, fun cc hcc => by
      obtain ⟨v, hv, _⟩ := cl2 cc hcc
      obtain ⟨b, _, _, hb, _⟩ := hI1.mem.cell cc v hv
      exact ⟨b, hb⟩, f1, f2, hnl, hnow⟩
  have happly : ∀ ws, ({ w := ws, m := cs.zip now, g := more } : Eff S).apply st = { st with slots := updL st.slots ws, mem := setL st.mem (cs.zip now) ++ more } := by
    intro ws; simp [Eff.apply]
  have hIaft : ∀ g' w', (A : Around L g1 st w cs m' g' w' now0) → Inv L (g1.aft cs st.mem.length w g') { st with slots := updL st.slots (if tk then tookAll st c.args.toList else []), mem := setL st.mem (cs.zip now) ++ more } a w' := by
    intro g' w' A
    refine ⟨hI1.size, fun i => ?_, by rw [hnw, hmore]; exact A.memAft, hI1.dfs.mono A.gmono A.βmono⟩
    have := hI1.slot i
    exact ⟨this.1.mono A.gmono A.βmono, A.ownKept ⟨by simp, by simp⟩ this.2⟩
  cases r with
  | ret p =>
    simp only
    have hr0 : ∃ p0, r0 = .ret p0 ∧ p = p0.ren (back cs st.mem.length) := by
      cases r0 with
      | ret p0 => simp [resRen] at hr; exact ⟨p0, rfl, hr⟩
      | pan p0 => simp [resRen] at hr
    obtain ⟨p0, rfl, rfl⟩ := hr0
    intro K Q hK
    have main : ∀ v w', ResOk L (g1.loc cs) w (.ret p0, m') (.returned v) w' → K (a.put o.dst v) w' := by
      rintro v w' ⟨g', f1, f2, v', hv', hrel⟩
      cases hv'
      have A := hA g' w' f1 f2
      have hI := (hIaft g' w' A).mvRes (posOf o.dst)
      have hF := hF1.trans (A.frAft.trans (Fr.mv _ w' .res (posOf o.dst)))
      have hp1 : SRel L ((g1.aft cs st.mem.length w g').mv .res (posOf o.dst)) (posOf o.dst) (p0.ren (back cs st.mem.length)) v :=
        ⟨A.relBack hrel.1, OwnOk.mv_self (ren_own.2 (by simpa [backPos] using A.ownBack hrel.2))⟩
      refine hK _ _ _ ?_ hF
      rw [happly]
      cases hdst : o.dst with
      | none => simp only [wr, List.append_nil]; rw [hdst] at hI; exact hI
      | some d =>
        have hdd := hd _ rfl
        rw [hdst] at hdd hp1 hI
        rw [updL_app]
        exact hI.put (fits_wr (dst := some d) (fits_app hdd).2 d rfl) hp1.1 hp1.2
    unfold Oper.wp
    rw [hexec]
    rcases hok with ⟨e1, e2⟩ | ⟨v, w', e1, e2⟩
    · rw [e1, Oper.upon_enter]
      refine e2.mono fun e w' hR => ?_
      obtain ⟨g', f1, f2, v', hv', hrel⟩ := hR
      subst hv'
      exact main v' w' ⟨g', f1, f2, v', rfl, hrel⟩
    · rw [e1, Oper.upon_value]
      exact main v w' e2
  | pan p =>
    simp only
    have hr0 : ∃ p0, r0 = .pan p0 ∧ p = p0.ren (back cs st.mem.length) := by
      cases r0 with
      | ret p0 => simp [resRen] at hr
      | pan p0 => simp [resRen] at hr; exact ⟨p0, rfl, hr⟩
    obtain ⟨p0, rfl, rfl⟩ := hr0
    intro K Q hK
    unfold Oper.wp
    rw [hexec]
    rcases hok with ⟨e1, e2⟩ | ⟨v, w', e1, e2⟩
    · rw [e1, Oper.upon_enter]
      refine e2.mono fun e w' hR => ?_
      obtain ⟨g', f1, f2, v', hv', hrel⟩ := hR
      subst hv'
      have A := hA g' w' f1 f2
      refine hK w' v' (g1.aft cs st.mem.length w g') (A.relBack hrel) ?_ (hI1.dfs.mono A.gmono A.βmono) (hF1.trans A.frAft)
      have := (hIaft g' w' A).mem
      have e : ({ m := cs.zip now, g := more } : Eff S).apply st = { st with mem := setL st.mem (cs.zip now) ++ more } := by simp [Eff.apply, updL]
      rw [e]; exact this
    · obtain ⟨g', f1, f2, v', hv', _⟩ := e2
      cases hv'

end
end Go.Proofs.YtdhpgcjhiommkaaDoor.Ev
