/- This file proves that the evaluator's operations that move what is owned, or make or write memory, keep the relation to the model's world; without any condition. -/
import Derived.Test.YtdhpgcjhiommkaaDoorEvQ
set_option linter.unusedVariables false
set_option linter.unusedSimpArgs false
namespace Go.Proofs.YtdhpgcjhiommkaaDoor.Ev

section
variable {S : Sig} {P : Program} {L : Lay S} {g : Gh} {st : St S} {a : Act} {w w' : World}

theorem heap_lt {w : World} {b : Nat} {o : Obj} (h : w.heap[b]? = some o) : b < w.heap.size := (Array.getElem?_eq_some_iff.1 h).1

theorem MemInv.β_lt {m : Mem S} (h : MemInv L g m w) {c b : Nat} (hc : g.β c = some b) : b < w.heap.size := by
  obtain ⟨ps, hps⟩ := h.dom c b hc
  obtain ⟨b', vs, ty, h1, h2, _⟩ := h.cell c ps hps
  rw [hc] at h1; cases h1
  exact heap_lt h2

theorem MemInv.G_lt {m : Mem S} (h : MemInv L g m w) {b o : Nat} {v : Value} (hc : g.G b o = some v) : b < w.heap.size :=
  World.block_lt_of_cell? w ⟨b, o, none⟩ (h.gs b o v hc)

theorem MemInv.ω_lt {m : Mem S} (h : MemInv L g m w) {b : Nat} {r : Rt} (hc : g.ω b = some r) : b < w.heap.size := by
  obtain ⟨_, ⟨cs, ty, h2, _⟩, _⟩ := h.rt b r hc
  exact heap_lt h2

theorem MemInv.of_heap {m : Mem S} (h : MemInv L g m w) (hh : ∀ b, b < w.heap.size → w'.heap[b]? = w.heap[b]?) : MemInv L g m w' where
  cell c ps hc := by
    obtain ⟨b, vs, ty, h1, h2, h3, h4⟩ := h.cell c ps hc
    exact ⟨b, vs, ty, h1, (hh b (heap_lt h2)).trans h2, h3, h4⟩
  dom := h.dom
  inj := h.inj
  βG := h.βG
  gs b o v hv := by
    have h1 := h.gs b o v hv
    rw [← h1]
    simp only [World.cell?, hh b (h.G_lt hv)]
  wok := h.wok_sub (fun c b hb => .inl ⟨c, hb⟩) (fun _ _ _ h => h) (fun b o _ _ hb => (hh b (Array.getElem?_eq_some_iff.1 hb).1).trans hb)
  rt b r hr := by
    obtain ⟨h1, ⟨cs, ty, h2, h3⟩, h4⟩ := h.rt b r hr
    exact ⟨h1, ⟨cs, ty, (hh b (heap_lt h2)).trans h2, h3⟩, h4⟩

theorem alloc_heap (w : World) (o : Obj) (b : Nat) (h : b < w.heap.size) : (w.alloc o).heap[b]? = w.heap[b]? := heap_alloc_old w o b h

/-- A new block whose cells never turn. -/
def Gh.addG (g : Gh) (N : Nat) (vs : List Value) : Gh := { g with G := fun b o => if b = N then vs[o]? else g.G b o }

theorem MemInv.addG {m : Mem S} (h : MemInv L g m w) {vs : List Value} {xs : Array Value} {e : TypeId} (hx : ∀ (o : Nat) (v : Value), vs[o]? = some v → xs[o]? = some v) :
    MemInv L (g.addG w.heap.size vs) m (w.alloc (.cells xs e)) where
  cell c ps hc := by
    obtain ⟨b, vs', ty, h1, h2, h3, h4⟩ := h.cell c ps hc
    refine ⟨b, vs', ty, h1, (alloc_heap w _ b (heap_lt h2)).trans h2, h3, fun j p hp => ?_⟩
    obtain ⟨v, hv, hr, ho⟩ := h4 j p hp
    refine ⟨v, hv, hr.mono (fun b o v hv => ?_) (fun _ _ h => h), ho⟩
    show (if b = w.heap.size then _ else g.G b o) = some v
    rw [if_neg (Nat.ne_of_lt (h.G_lt hv))]; exact hv
  dom := h.dom
  inj := h.inj
  βG c b hc o := by
    show (if b = w.heap.size then _ else g.G b o) = none
    rw [if_neg (Nat.ne_of_lt (h.β_lt hc))]; exact h.βG c b hc o
  gs b o v hv := by
    change (if b = w.heap.size then vs[o]? else g.G b o) = some v at hv
    split at hv
    · rename_i hb; subst hb
      rw [World.cell?_alloc_new]; exact hx o v hv
    · rw [World.cell?_alloc_lt w _ _ (h.G_lt hv)]; exact h.gs b o v hv
  wok := h.wok_sub (fun c b hb => .inl ⟨c, hb⟩) (fun _ _ _ h => h) (fun b o _ _ hb => (alloc_heap w _ b (Array.getElem?_eq_some_iff.1 hb).1).trans hb)
  rt b r hr := by
    obtain ⟨h1, ⟨cs, ty, h2, h3⟩, h4⟩ := h.rt b r hr
    refine ⟨h1, ⟨cs, ty, (alloc_heap w _ b (heap_lt h2)).trans h2, h3⟩, fun o ho => ?_⟩
    show (if b = w.heap.size then _ else g.G b o) = none
    rw [if_neg (Nat.ne_of_lt (heap_lt h2))]; exact h4 o ho

theorem MemInv.G_mono {m : Mem S} (h : MemInv L g m w) {vs : List Value} : ∀ b o v, g.G b o = some v → (g.addG w.heap.size vs).G b o = some v := by
  intro b o v hv
  show (if b = w.heap.size then _ else g.G b o) = some v
  rw [if_neg (Nat.ne_of_lt (h.G_lt hv))]; exact hv

theorem Fr.addG {m : Mem S} (h : MemInv L g m w) {vs : List Value} {o : Obj} : Fr g w (g.addG w.heap.size vs) (w.alloc o) :=
  ⟨rfl, rfl, rfl, by simp, fun b hb _ hω => ⟨alloc_heap w _ b hb, fun o => by show (if b = w.heap.size then _ else g.G b o) = _; rw [if_neg (Nat.ne_of_lt hb)], hω⟩,
    h.G_mono, fun _ _ h => h, fun _ _ h => .inl h⟩

theorem Inv.of_mono {g' : Gh} (h : Inv L g st a w) (hG : ∀ b o v, g.G b o = some v → g'.G b o = some v) (hβ : ∀ c b, g.β c = some b → g'.β c = some b)
    (hω : ∀ i p v, SRel L g (.slot i) p v → OwnOk L g'.ω (.slot i) p v) {m' : Mem S} (hm : MemInv L g' m' w') : Inv L g' { st with mem := m' } a w' where
  size := h.size
  slot i := ⟨(h.slot i).1.mono hG hβ, hω i _ _ (h.slot i)⟩
  mem := hm
  dfs := h.dfs.mono hG hβ

/-! ### Moves -/

/-- What an operand bears goes to a slot. -/
theorem Inv.moveTo (h : Inv L g st a w) {x : Operand} {t : TypeId} {p : PV S} (hp : rdRaw P L st t x = some p) {d : Nat} (hd : d < st.nt) :
    ∃ g', Inv L g' { st with slots := updL st.slots (took st x ++ wr (some d) p) } (a.put (some d) (a.eval x)) w ∧ Fr g w g' w := by
  obtain ⟨h1, h2, h3⟩ := rdRaw_rel h hp
  cases x with
  | tmp i =>
    obtain ⟨hpi, hs⟩ := h2 i rfl
    subst hpi
    refine ⟨g.mv (.slot i) (.slot d), ?_, Fr.mv g w _ _⟩
    simp only [took, wr, List.singleton_append, updL]
    refine ⟨?_, ?_, h.mem.mv, ?_⟩
    · rw [size_put]; exact h.size
    · intro j
      rw [getD_put (by rw [h.size]; exact hd)]
      by_cases hj : j = d
      · subst hj; simp only [upd_same, if_true]
        exact ⟨hs.1, hs.2.mv_self⟩
      · simp only [hj, if_false]
        rw [upd_other _ _ hj]
        by_cases hji : j = i
        · subst hji; simp only [upd_same]; exact ⟨(h.slot j).1.strip, OwnOk.of_strip _ _⟩
        · rw [upd_other _ _ hji]; exact (h.slot j).mv_other (by simpa using hji)
    · rw [defers_put]; exact h.dfs
  | const v =>
    refine ⟨g, ?_, Fr.refl g w⟩
    simp only [took, wr, List.nil_append, updL]
    exact h.put hd h1 (h3 (by simp) _ _)
  | func f =>
    refine ⟨g, ?_, Fr.refl g w⟩
    simp only [took, wr, List.nil_append, updL]
    exact h.put hd h1 (h3 (by simp) _ _)
  | global q => simp [rdRaw] at hp

theorem Inv.giveUp (h : Inv L g st a w) (x : Operand) : ∃ g', Inv L g' { st with slots := updL st.slots (took st x) } a w ∧ Fr g w g' w := by
  cases x with
  | tmp i =>
    refine ⟨_, ?_, Fr.mv g w (.slot i) .res⟩
    simp only [took, updL]
    exact h.take i .res (by simp)
  | _ => exact ⟨g, h, Fr.refl g w⟩

theorem apply_w (ws : List (Nat × PV S)) (st : St S) : ({ w := ws } : Eff S).apply st = { st with slots := updL st.slots ws } := by simp [Eff.apply, setL]

theorem fits_app {nt : Nat} {x y : List (Nat × PV S)} (h : fits nt (x ++ y) = true) : fits nt x = true ∧ fits nt y = true := by
  induction x with
  | nil => exact ⟨rfl, h⟩
  | cons p r ih =>
    obtain ⟨i, q⟩ := p
    simp only [List.cons_append, fits, Bool.and_eq_true] at h ⊢
    exact ⟨⟨h.1, (ih h.2).1⟩, (ih h.2).2⟩

theorem step_take (h : Inv L g st a w) {o : Oper} {x : Operand} (hrun : (execOp a.eval o).run P w = .ok (.value (a.eval x)) w) {t : TypeId} {p : PV S} (hr : rdRaw P L st t x = some p)
    (hd : fits st.nt (took st x ++ wr o.dst p) = true) : StepOk P L g w st o a (.ok { w := took st x ++ wr o.dst p }) := by
  intro K Q hK
  unfold Oper.wp
  rw [hrun, Oper.upon_value]
  cases hdst : o.dst with
  | none =>
    rw [hdst] at hK
    obtain ⟨g', hi, hf⟩ := h.giveUp x
    refine hK _ _ g' ?_ hf
    rw [apply_w]
    simp only [wr, List.append_nil]
    exact hi
  | some d =>
    rw [hdst] at hd hK
    obtain ⟨g', hi, hf⟩ := h.moveTo hr (fits_wr (dst := some d) (p := p) (fits_app hd).2 d rfl)
    refine hK _ _ g' ?_ hf
    rw [apply_w]
    exact hi

theorem step_assign (h : Inv L g st a w) {o : Oper} {x : Operand} (ho : o.op = .assign x) {p : PV S} (hr : rdRaw P L st o.type x = some p)
    (hd : fits st.nt (took st x ++ wr o.dst p) = true) : StepOk P L g w st o a (.ok { w := took st x ++ wr o.dst p }) :=
  step_take h (by simp [execOp, ho]) hr hd

theorem step_move_take (h : Inv L g st a w) {o : Oper} {x : Operand} (ho : o.op = .move x) {p : PV S} (hr : rdRaw P L st o.type x = some p)
    (hd : fits st.nt (took st x ++ wr o.dst p) = true) : StepOk P L g w st o a (.ok { w := took st x ++ wr o.dst p }) :=
  step_take h (by simp [execOp, ho]) hr hd

/-! ### Cells -/

theorem cellAt_set {m : Mem S} {c c' : Nat} {v : List (PV S)} (hc : c < m.length) : cellAt (m.set c (some v)) c' = if c' = c then some v else cellAt m c' := by
  unfold cellAt
  by_cases h : c' = c
  · subst h; simp [hc]
  · simp [h, List.getElem?_set, Ne.symm h]

theorem cellAt_lt {m : Mem S} {c : Nat} {v : List (PV S)} (h : cellAt m c = some v) : c < m.length := by
  unfold cellAt at h
  split at h
  · rename_i heq; exact (List.getElem?_eq_some_iff.1 heq).1
  · cases h

/-- A cell's contents are replaced, in the model and in the evaluator. -/
theorem MemInv.setCell {m : Mem S} (h : MemInv L g m w) {g' : Gh} (hβ : g'.β = g.β) (hG : g'.G = g.G) {c b : Nat} {ps ps' : List (PV S)} {vs vs' : Array Value} {ty : TypeId}
    (hc : cellAt m c = some ps) (hb : g.β c = some b) (hg : w.heap[b]? = some (.cells vs ty (0, 0))) (hl : vs'.size = ps'.length)
    (hself : ∀ j p, ps'[j]? = some p → ∃ v, vs'[j]? = some v ∧ SRel L g' (.cell c j) p v)
    (hother : ∀ c' j p v, c' ≠ c → SRel L g (.cell c' j) p v → SRel L g' (.cell c' j) p v)
    (hω : ∀ b' r, g'.ω b' = some r → ∃ r', g.ω b' = some r' ∧ r.e = r'.e ∧ r.top = r'.top) :
    MemInv L g' (m.set c (some ps')) (w.setRow b vs') where
  cell c' qs hqs := by
    rw [cellAt_set (cellAt_lt hc)] at hqs
    split at hqs
    · rename_i e; subst e; cases hqs
      exact ⟨b, vs', ty, by rw [hβ]; exact hb, setRow_heap w b vs vs' ty (0, 0) hg, hl, hself⟩
    · rename_i hne
      obtain ⟨b', vs2, ty2, h1, h2, h3, h4⟩ := h.cell c' qs hqs
      have hbb : b' ≠ b := fun e => hne (h.inj c' c b (e ▸ h1) hb)
      refine ⟨b', vs2, ty2, by rw [hβ]; exact h1, (setRow_other w b b' vs' hbb).trans h2, h3, fun j p hp => ?_⟩
      obtain ⟨v, hv, hr⟩ := h4 j p hp
      exact ⟨v, hv, hother c' j p v hne hr⟩
  dom c' b' hb' := by
    rw [hβ] at hb'
    rw [cellAt_set (cellAt_lt hc)]
    split
    · exact ⟨_, rfl⟩
    · exact h.dom c' b' hb'
  inj c1 c2 b' h1 h2 := by rw [hβ] at h1 h2; exact h.inj c1 c2 b' h1 h2
  βG c' b' hb' o := by rw [hG]; rw [hβ] at hb'; exact h.βG c' b' hb' o
  gs b' o v hv := by
    rw [hG] at hv
    have hbb : b' ≠ b := fun e => by have := h.βG c b hb o; rw [← e, hv] at this; cases this
    rw [cell_setRow_other w b vs' ⟨b', o, none⟩ hbb]
    exact h.gs b' o v hv
  wok := h.wok_sub (fun c b hb => .inl ⟨c, by rw [hβ] at hb; exact hb⟩)
    (fun b' _ _ hb => by
      cases hb' : g'.ω b' with
      | none => rfl
      | some r => obtain ⟨r', h1, _⟩ := hω b' r hb'; rw [hb] at h1; cases h1)
    (fun b' o hβ' _ hb' => (setRow_other w b b' vs' (fun e => hβ' c (e ▸ hb))).trans hb')
  rt b' r hr := by
    obtain ⟨r', hr', he, ht⟩ := hω b' r hr
    obtain ⟨h1, ⟨cs, ty', h2, h3⟩, h4⟩ := h.rt b' r' hr'
    have hbb : b' ≠ b := fun e => h1 c (e ▸ hb)
    refine ⟨by rw [hβ]; exact h1, ⟨cs, ty', (setRow_other w b b' vs' hbb).trans h2, by rw [ht]; exact h3⟩, fun o ho => ?_⟩
    rw [hG]; exact h4 o (he ▸ ho)

theorem Fr.setRow {m : Mem S} (h : MemInv L g m w) {g' : Gh} (hβ : g'.β = g.β) (hG : g'.G = g.G) (hω : ∀ b, g.ω b = none → g'.ω b = none) {c b : Nat} (hb : g.β c = some b) (vs : Array Value) :
    Fr g w g' (w.setRow b vs) :=
  ⟨rfl, rfl, rfl, by simp, fun b' hb' hβ' hω' => ⟨setRow_other w b b' vs (fun e => hβ' c (e ▸ hb)), fun o => by rw [hG], hω b' hω'⟩,
    fun b o v hv => by rw [hG]; exact hv, fun c b hb => by rw [hβ]; exact hb, fun c b hb => .inl (by rw [← hβ]; exact hb)⟩

end
end Go.Proofs.YtdhpgcjhiommkaaDoor.Ev
