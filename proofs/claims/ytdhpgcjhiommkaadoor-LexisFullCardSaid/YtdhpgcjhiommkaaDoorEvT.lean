/- This file proves that the evaluator's stores, allocations and literals keep the relation to the model's world; without any condition. -/
import Derived.Test.YtdhpgcjhiommkaaDoorEvR
set_option linter.unusedVariables false
set_option linter.unusedSimpArgs false
namespace Go.Proofs.YtdhpgcjhiommkaaDoor.Ev

section
variable {S : Sig} {P : Program} {L : Lay S} {g : Gh} {st : St S} {a : Act} {w w' : World}

theorem one_rel {β : Nat → Option Nat} {G : Nat → Nat → Option Value} {p : PV S} {v : Value} (h : PRel L β G p v) (h1 : p.one = true) : v.oneCell' = true := by
  cases p <;> simp [PV.one] at h1 <;> simp only [PRel] at h
  all_goals first
    | (cases h <;> rfl)
    | (obtain ⟨h, _⟩ := h; cases h <;> rfl)
    | (obtain ⟨_, _, rfl⟩ := h; rfl)
    | (obtain ⟨_, _, rfl, _⟩ := h; rfl)
    | (obtain ⟨_, rfl, _⟩ := h; rfl)
    | (subst h; rfl)

theorem ones_rel {β : Nat → Option Nat} {G : Nat → Nat → Option Value} : ∀ {ps : List (PV S)} {vs : List Value}, PRels L β G ps vs → ps.all PV.one = true → ∀ v ∈ vs, v.oneCell' = true
  | [], [], _, _ => by simp
  | p :: ps, v :: vs, h, h1 => by
    simp only [PRels] at h
    simp only [List.all_cons, Bool.and_eq_true] at h1
    intro u hu
    simp at hu
    rcases hu with rfl | hu
    · exact one_rel h.1 h1.1
    · exact ones_rel h.2 h1.2 u hu
  | [], _ :: _, h, _ => by simp only [PRels] at h
  | _ :: _, [], h, _ => by simp only [PRels] at h

theorem cells_of_one {β : Nat → Option Nat} {G : Nat → Nat → Option Value} {p : PV S} {v : Value} (h : PRel L β G p v) (h1 : p.cells.all PV.one = true) :
    PRels L β G p.cells v.cells.toList ∧ ∀ u ∈ v.cells.toList, u.oneCell' = true := by
  have : PRels L β G p.cells v.cells.toList := by
    refine h.cells ?_ ?_ ?_
    · rintro rfl; simp [PV.cells, PV.one] at h1
    · rintro l rfl; simp [PV.cells, PV.one] at h1
    · rintro rfl; simp [PV.cells, PV.one] at h1
  exact ⟨this, ones_rel this h1⟩

theorem toCells_len (p : PV S) : p.toCells.length = p.cells.length := by cases p <;> simp [PV.toCells, PV.cells]

/-- The cells of a stored value, at their places. -/
theorem toCells_rel {p : PV S} {v : Value} {from_ : Pos} {c off : Nat} (h : SRel L g from_ p v) (h1 : p.cells.all PV.one = true) :
    ∀ (j : Nat) (q : PV S), p.toCells[j]? = some q → ∃ u, v.cells.toList[j]? = some u ∧ SRel L (g.mv from_ (.cell c off)) (.cell c (off + j)) q u := by
  intro j q hq
  obtain ⟨hr, _⟩ := cells_of_one h.1 h1
  by_cases hagg : ∃ l, p = .agg l
  · obtain ⟨l, rfl⟩ := hagg
    simp only [PV.toCells, List.getElem?_map, Option.map_eq_some_iff] at hq
    obtain ⟨q', hq', rfl⟩ := hq
    obtain ⟨u, hu, hur⟩ := hr.get (by simpa [PV.cells] using hq')
    exact ⟨u, hu, hur.strip, OwnOk.of_strip _ _⟩
  · have e1 : p.toCells = [p] := by cases p <;> first | rfl | exact absurd ⟨_, rfl⟩ hagg
    have e2 : p.cells = [p] := by cases p <;> first | rfl | exact absurd ⟨_, rfl⟩ hagg
    rw [e1] at hq
    cases j with
    | succ j => simp at hq
    | zero =>
      simp at hq; subst hq
      obtain ⟨u, hu, hur⟩ := hr.get (j := 0) (by rw [e2]; rfl)
      have huv : u = v := by
        have hl := hr.length
        rw [e2] at hl
        have hone : v.oneCell' = true := one_rel h.1 (by rw [e2] at h1; simpa using h1)
        cases v <;> simp [Value.oneCell'] at hone <;> simp [Value.cells] at hu <;> exact hu.symm
      subst huv
      exact ⟨u, hu, h.1, h.2.mv_self⟩

theorem putAt_get {cs vs : List (PV S)} {off j : Nat} (h : off + vs.length ≤ cs.length) :
    (putAt cs off vs)[j]? = if j < off then cs[j]? else if j < off + vs.length then vs[j - off]? else cs[j]? := by
  unfold putAt
  by_cases h1 : j < off
  · rw [if_pos h1, List.append_assoc, List.getElem?_append_left (by simp; omega), List.getElem?_take, if_pos h1]
  · rw [if_neg h1]
    by_cases h2 : j < off + vs.length
    · rw [if_pos h2, List.append_assoc, List.getElem?_append_right (by simp; omega)]
      simp only [List.length_take, show min off cs.length = off by omega]
      rw [List.getElem?_append_left (by omega)]
    · rw [if_neg h2, List.getElem?_append_right (by simp; omega)]
      simp only [List.length_append, List.length_take, show min off cs.length = off by omega, List.getElem?_drop]
      congr 1; omega

theorem putAtV_get {cs vs : List Value} {off j : Nat} (h : off + vs.length ≤ cs.length) :
    (cs.take off ++ vs ++ cs.drop (off + vs.length))[j]? = if j < off then cs[j]? else if j < off + vs.length then vs[j - off]? else cs[j]? := by
  by_cases h1 : j < off
  · rw [if_pos h1, List.append_assoc, List.getElem?_append_left (by simp; omega), List.getElem?_take, if_pos h1]
  · rw [if_neg h1]
    by_cases h2 : j < off + vs.length
    · rw [if_pos h2, List.append_assoc, List.getElem?_append_right (by simp; omega)]
      simp only [List.length_take, show min off cs.length = off by omega]
      rw [List.getElem?_append_left (by omega)]
    · rw [if_neg h2, List.getElem?_append_right (by simp; omega)]
      simp only [List.length_append, List.length_take, show min off cs.length = off by omega, List.getElem?_drop]
      congr 1; omega

theorem putAt_len {cs vs : List (PV S)} {off : Nat} (h : off + vs.length ≤ cs.length) : (putAt cs off vs).length = cs.length := by
  simp [putAt]; omega

theorem apply_wm (ws : List (Nat × PV S)) (c : Nat) (v : List (PV S)) (st : St S) : ({ w := ws, m := [(c, v)] } : Eff S).apply st = { st with slots := updL st.slots ws, mem := st.mem.set c (some v) } := by
  simp [Eff.apply, setL]

/-- What an operand bears goes to a cell: the slot's part. -/
theorem Inv.giveTo (h : Inv L g st a w) {x : Operand} {t : TypeId} {p : PV S} (hp : rdRaw P L st t x = some p) (q : Pos) (hq : ∀ j, q ≠ .slot j) :
    ∃ from_, (∀ c j, from_ ≠ .cell c j) ∧ SRel L g from_ p (a.eval x) ∧ Inv L (g.mv from_ q) { st with slots := updL st.slots (took st x) } a w := by
  obtain ⟨h1, h2, h3⟩ := rdRaw_rel h hp
  cases x with
  | tmp i =>
    obtain ⟨hpi, hs⟩ := h2 i rfl
    exact ⟨.slot i, by simp, hs, by simp only [took, updL]; exact h.take i q hq⟩
  | global g => simp [rdRaw] at hp
  | _ =>
    refine ⟨.res, by simp, ⟨h1, h3 (by simp) _ _⟩, ?_⟩
    simp only [took, updL]
    refine ⟨h.size, fun i => (h.slot i).mv_other (by simp), ?_, h.dfs⟩
    refine ⟨fun c ps hc => ?_, h.mem.dom, h.mem.inj, h.mem.βG, h.mem.gs, fun b r hr => ?_, h.mem.wok_sub (fun c b hb => .inl ⟨c, hb⟩) (fun b _ _ hb => by simp [Gh.mv, hb]) (fun _ _ _ _ h => h)⟩
    · obtain ⟨b, vs, ty, e1, e2, e3, e4⟩ := h.mem.cell c ps hc
      refine ⟨b, vs, ty, e1, e2, e3, fun j p hp => ?_⟩
      obtain ⟨v, hv, hr⟩ := e4 j p hp
      exact ⟨v, hv, hr.mv_other (by simp)⟩
    · simp only [Gh.mv] at hr
      cases hw : g.ω b with
      | none => simp [hw] at hr
      | some r0 =>
        simp [hw] at hr
        obtain ⟨e1, e2, e3⟩ := h.mem.rt b r0 hw
        refine ⟨e1, ?_, ?_⟩
        · obtain ⟨cs, ty, f1, f2⟩ := e2
          refine ⟨cs, ty, f1, ?_⟩
          rw [← hr]; split <;> exact f2
        · intro o ho
          refine e3 o ?_
          rw [← hr] at ho; split at ho <;> exact ho

theorem step_store (h : Inv L g st a w) {o : Oper} {t : TypeId} {x y : Operand} (ho : o.op = .store t x y) {c off : Nat} (hx : rd P L st 0 x = some (.ptr c off)) {p : PV S} (hy : rdRaw P L st t y = some p)
    {cs : List (PV S)} (hc : cellAt st.mem c = some cs) (hs : szT P t = some p.cells.length) (hn : off + p.cells.length ≤ cs.length) (h1 : p.cells.all PV.one = true)
    (hd : fits st.nt (took st y ++ wr o.dst (.bot : PV S)) = true) : StepOk P L g w st o a (.ok { w := took st y ++ wr o.dst .bot, m := [(c, putAt cs off p.toCells)] }) := by
  intro K Q hK
  have hxr := (rd_rel h hx).1
  simp only [PRel] at hxr
  obtain ⟨b, hb, hxr⟩ := hxr
  obtain ⟨from_, hf, hsr, hi⟩ := h.giveTo hy (.cell c off) (by simp)
  obtain ⟨b', vs, ty, e1, e2, e3, e4⟩ := h.mem.cell c cs hc
  rw [hb] at e1; cases e1
  obtain ⟨hr, hone⟩ := cells_of_one hsr.1 h1
  have hlen : (a.eval y).cells.toList.length = p.cells.length := hr.length.symm
  have hrun := run_storeCells_at P b off ty (a.eval y).cells.toList 0 vs w e2 (by rw [hlen, e3]; omega) hone
  have hfull : (execOp a.eval o).run P w = .ok .skip (w.setRow b (vs.toList.take off ++ (a.eval y).cells.toList ++ vs.toList.drop (off + (a.eval y).cells.toList.length)).toArray) := by
    have hsz : ¬ (a.eval y).cells.size ≠ p.cells.length := by simp at hlen; omega
    simp only [Nat.add_zero] at hrun
    simp only [execOp, ho, hxr, Instr.storeAt, Instr.sureAddr, storeVar, Sem.run_bind, Sem.run_pure, Result.andThen_ok, run_sizeOf hs, if_neg hsz, hrun]
  unfold Oper.wp
  rw [hfull, Oper.upon_skip]
  have hl' : off + p.toCells.length ≤ cs.length := by rw [toCells_len]; exact hn
  have hlv : off + (a.eval y).cells.toList.length ≤ vs.toList.length := by rw [hlen]; simp; omega
  have hm : MemInv L (g.mv from_ (.cell c off)) (st.mem.set c (some (putAt cs off p.toCells)))
      (w.setRow b (vs.toList.take off ++ (a.eval y).cells.toList ++ vs.toList.drop (off + (a.eval y).cells.toList.length)).toArray) := by
    refine hi.mem.setCell rfl rfl hc hb e2 ?_ ?_ (fun _ _ _ _ _ h => h) (fun b r h => ⟨r, h, rfl, rfl⟩)
    · rw [putAt_len hl']; simp at hlv ⊢; omega
    · intro j q hq
      rw [putAt_get hl'] at hq
      rw [List.getElem?_toArray, putAtV_get hlv]
      rw [hlen, ← toCells_len]
      split at hq
      · rename_i hj
        rw [if_pos hj]
        obtain ⟨v, hv, hvr⟩ := e4 j q hq
        exact ⟨v, by simpa using hv, hvr.mv_other (fun e => hf c j e.symm)⟩
      · rename_i hj
        rw [if_neg hj]
        split at hq
        · rename_i hj2
          rw [if_pos hj2]
          obtain ⟨u, hu, hur⟩ := toCells_rel (c := c) (off := off) hsr h1 (j - off) q hq
          exact ⟨u, hu, by rwa [show off + (j - off) = j by omega] at hur⟩
        · rename_i hj2
          rw [if_neg hj2]
          obtain ⟨v, hv, hvr⟩ := e4 j q hq
          exact ⟨v, by simpa using hv, hvr.mv_other (fun e => hf c j e.symm)⟩
  have hI := hi.of_mono (g' := g.mv from_ (.cell c off)) (fun _ _ _ h => h) (fun _ _ h => h) (fun _ _ _ h => h.2) hm
  have hFr : Fr g w (g.mv from_ (.cell c off)) (w.setRow b (vs.toList.take off ++ (a.eval y).cells.toList ++ vs.toList.drop (off + (a.eval y).cells.toList.length)).toArray) :=
    Fr.setRow (g' := g.mv from_ (.cell c off)) h.mem rfl rfl (fun b hb => by simp [Gh.mv, hb]) hb _
  refine hK _ _ (g.mv from_ (.cell c off)) ?_ hFr
  rw [apply_wm]
  cases hdst : o.dst with
  | none => simp only [wr, List.append_nil]; exact hI
  | some d =>
    rw [hdst] at hd
    have := hI.put (d := d) (p := .bot) (v := undef) (fits_wr (dst := some d) (p := .bot) (fits_app hd).2 d rfl) (by simp only [PRel]) trivial
    have e : updL st.slots (took st y ++ wr (some d) .bot) = upd (updL st.slots (took st y)) d .bot := by
      cases y <;> rfl
    rw [e]; exact this

theorem step_load_take (h : Inv L g st a w) {o : Oper} {t : TypeId} {x : Operand} (ho : o.op = .load t x) {c off : Nat} (hx : rd P L st 0 x = some (.ptr c off))
    {cs : List (PV S)} (hc : cellAt st.mem c = some cs) (hn : off + 1 ≤ cs.length) (ha : aggT P t = some false) {p : PV S} (hp : cs[off]? = some p)
    (hd : fits st.nt (wr o.dst p) = true) : StepOk P L g w st o a (.ok { w := wr o.dst p, m := [(c, putAt cs off [p.strip])] }) := by
  intro K Q hK
  have hxr := (rd_rel h hx).1
  simp only [PRel] at hxr
  obtain ⟨b, hb, hxr⟩ := hxr
  obtain ⟨b', vs, ty, e1, e2, e3, e4⟩ := h.mem.cell c cs hc
  rw [hb] at e1; cases e1
  obtain ⟨v, hv, hvr⟩ := e4 off p hp
  have hcell : w.cell? ⟨b, off, none⟩ = some v := by simp [World.cell?, e2, hv]
  unfold Oper.wp
  rw [run_load_ptr ho hxr (run_loadVar_one ha hcell), Oper.upon_value]
  have main : ∀ (q : Pos), (∀ c' j, q ≠ .cell c' j) → MemInv L (g.mv (.cell c off) q) (st.mem.set c (some (putAt cs off [p.strip]))) w := by
    intro q hq
    have hset : w.setRow b vs = w := by
      have := setRow_self w b vs ty (0, 0) e2
      exact this
    have := h.mem.setCell (g' := g.mv (.cell c off) q) (ps' := putAt cs off [p.strip]) (vs' := vs) rfl rfl hc hb e2 (by rw [putAt_len (by simpa using hn)]; exact e3) ?_ ?_ ?_
    · rwa [hset] at this
    · intro j r hr
      rw [putAt_get (by simpa using hn)] at hr
      split at hr
      · obtain ⟨u, hu, hur⟩ := e4 j r hr
        exact ⟨u, hu, hur.mv_other (by intro e; cases e; omega)⟩
      · split at hr
        · have hj : j = off := by rename_i h1 h2; simp at h2; omega
          subst hj
          simp at hr; subst hr
          exact ⟨v, hv, hvr.1.strip, OwnOk.of_strip _ _⟩
        · obtain ⟨u, hu, hur⟩ := e4 j r hr
          exact ⟨u, hu, hur.mv_other (by intro e; cases e; rename_i h1 h2; simp at h2)⟩
    · intro c' j p v hne hr
      exact hr.mv_other (by intro e; cases e; exact hne rfl)
    · intro b r hr
      simp only [Gh.mv] at hr
      cases hw : g.ω b with
      | none => simp [hw] at hr
      | some r0 =>
        simp [hw] at hr
        refine ⟨r0, rfl, ?_, ?_⟩ <;> (rw [← hr]; split <;> rfl)
  cases hdst : o.dst with
  | none =>
    have hI := h.of_mono (g' := g.mv (.cell c off) .res) (fun _ _ _ h => h) (fun _ _ h => h) (fun i p v h => (h.mv_other (by simp)).2) (main .res (by simp))
    refine hK _ _ _ ?_ (Fr.mv g w (.cell c off) .res)
    rw [apply_wm, hdst]
    exact hI
  | some d =>
    rw [hdst] at hd
    have hdd := fits_wr (dst := some d) (p := p) hd d rfl
    have hI := h.of_mono (g' := g.mv (.cell c off) (.slot d)) (fun _ _ _ h => h) (fun _ _ h => h) (fun i p v h => (h.mv_other (by simp)).2) (main (.slot d) (by simp))
    refine hK _ _ _ ?_ (Fr.mv g w (.cell c off) (.slot d))
    rw [apply_wm, hdst]
    exact hI.put hdd hvr.1 hvr.2.mv_self

/-- A cell of the evaluator's own is made, in a new block. -/
def Gh.newC (g : Gh) (c N : Nat) : Gh := { g with β := fun i => if i = c then some N else g.β i }

theorem MemInv.newCell {m : Mem S} (h : MemInv L g m w) {c : Nat} (hc : m[c]? = some none) {ps : List (PV S)} {vs : Array Value} {e : TypeId} (hl : vs.size = ps.length)
    (hrel : ∀ (j : Nat) (p : PV S), ps[j]? = some p → ∃ v, vs[j]? = some v ∧ SRel L g (.cell c j) p v) :
    MemInv L (g.newC c w.heap.size) (m.set c (some ps)) (w.alloc (.cells vs e)) := by
  have hlt : c < m.length := (List.getElem?_eq_some_iff.1 hc).1
  have hnone : g.β c = none := by
    cases hb : g.β c with
    | none => rfl
    | some b =>
      obtain ⟨q, hq⟩ := h.dom c b hb
      unfold cellAt at hq; rw [hc] at hq; cases hq
  have hβ : ∀ c' b, g.β c' = some b → (g.newC c w.heap.size).β c' = some b := by
    intro c' b hb
    show (if c' = c then _ else g.β c') = some b
    rw [if_neg (by rintro rfl; rw [hnone] at hb; cases hb)]; exact hb
  have hS : ∀ pos p v, SRel L g pos p v → SRel L (g.newC c w.heap.size) pos p v := fun pos p v hr => ⟨hr.1.mono (fun _ _ _ h => h) hβ, hr.2⟩
  refine ⟨fun c' qs hqs => ?_, fun c' b hb => ?_, fun c1 c2 b h1 h2 => ?_, fun c' b hb o => ?_, fun b o v hv => ?_, fun b r hr => ?_,
    h.wok_sub (fun c' b hb => by
      change (if c' = c then some w.heap.size else g.β c') = some b at hb
      split at hb
      · cases hb; exact .inr (Nat.le_refl _)
      · exact .inl ⟨c', hb⟩) (fun _ _ _ h => h) (fun b o _ _ hb => (alloc_heap w _ b (Array.getElem?_eq_some_iff.1 hb).1).trans hb)⟩
  · rw [cellAt_set hlt] at hqs
    split at hqs
    · rename_i e1; subst e1; cases hqs
      refine ⟨w.heap.size, vs, e, by simp [Gh.newC], heap_alloc_new w _, hl, fun j p hp => ?_⟩
      obtain ⟨v, hv, hr⟩ := hrel j p hp
      exact ⟨v, hv, hS _ _ _ hr⟩
    · obtain ⟨b, vs', ty, e1, e2, e3, e4⟩ := h.cell c' qs hqs
      refine ⟨b, vs', ty, hβ _ _ e1, (alloc_heap w _ b (heap_lt e2)).trans e2, e3, fun j p hp => ?_⟩
      obtain ⟨v, hv, hr⟩ := e4 j p hp
      exact ⟨v, hv, hS _ _ _ hr⟩
  · rw [cellAt_set hlt]
    split
    · exact ⟨_, rfl⟩
    · rename_i hne
      change (if c' = c then _ else g.β c') = some b at hb
      rw [if_neg hne] at hb
      exact h.dom c' b hb
  · change (if c1 = c then _ else g.β c1) = some b at h1
    change (if c2 = c then _ else g.β c2) = some b at h2
    split at h1 <;> split at h2
    · omega
    · cases h1; exact absurd (h.β_lt h2) (by omega)
    · cases h2; exact absurd (h.β_lt h1) (by omega)
    · exact h.inj c1 c2 b h1 h2
  · change (if c' = c then _ else g.β c') = some b at hb
    split at hb
    · cases hb
      cases hv : g.G w.heap.size o with
      | none => exact hv
      | some v => exact absurd (h.G_lt hv) (by omega)
    · exact h.βG c' b hb o
  · have hv' : g.G b o = some v := hv
    rw [World.cell?_alloc_lt w _ _ (h.G_lt hv')]; exact h.gs b o v hv'
  · obtain ⟨e1, ⟨cs, ty, e2, e3⟩, e4⟩ := h.rt b r hr
    refine ⟨fun c' hb => ?_, ⟨cs, ty, (alloc_heap w _ b (heap_lt e2)).trans e2, e3⟩, e4⟩
    change (if c' = c then _ else g.β c') = some b at hb
    split at hb
    · cases hb; exact absurd (heap_lt e2) (by omega)
    · exact e1 c' hb

theorem Fr.newC {m : Mem S} (h : MemInv L g m w) {c : Nat} (hc : m[c]? = some none) (o : Obj) : Fr g w (g.newC c w.heap.size) (w.alloc o) := by
  refine ⟨rfl, rfl, rfl, by simp, fun b hb _ hω => ⟨alloc_heap w _ b hb, fun o => rfl, hω⟩, fun _ _ _ h => h, fun c' b hb => ?_, fun c' b hb => ?_⟩
  · show (if c' = c then _ else g.β c') = some b
    rw [if_neg ?_]; exact hb
    rintro rfl
    obtain ⟨q, hq⟩ := h.dom c' b hb
    unfold cellAt at hq; rw [hc] at hq; cases hq
  · change (if c' = c then _ else g.β c') = some b at hb
    split at hb
    · cases hb; exact .inr (Nat.le_refl _)
    · exact .inl hb

theorem β_none {m : Mem S} (h : MemInv L g m w) {c : Nat} (hc : m[c]? = some none) : g.β c = none := by
  cases hb : g.β c with
  | none => rfl
  | some b =>
    obtain ⟨q, hq⟩ := h.dom c b hb
    unfold cellAt at hq; rw [hc] at hq; cases hq

theorem newC_mono {m : Mem S} (h : MemInv L g m w) {c N : Nat} (hc : m[c]? = some none) : ∀ c' b, g.β c' = some b → (g.newC c N).β c' = some b := by
  intro c' b hb
  show (if c' = c then _ else g.β c') = some b
  rw [if_neg (by rintro rfl; rw [β_none h hc] at hb; cases hb)]; exact hb

theorem step_alloc (h : Inv L g st a w) {o : Oper} {e : TypeId} (ho : o.op = .alloc e) {cs : List (PV S)} (hz : zeroCells P L e = some cs) {cid : Nat} (hc : st.mem[cid]? = some none)
    (hd : fits st.nt (wr o.dst (.ptr cid 0 : PV S)) = true) : StepOk P L g w st o a (.ok { w := wr o.dst (.ptr cid 0), m := [(cid, cs)] }) := by
  intro K Q hK
  obtain ⟨i, z, hi, hzz, hr, hstrip, _, _⟩ := zeroCells_rel (β := g.β) (G := g.G) hz
  have hrun : (execOp a.eval o).run P w = .ok (.value (.pointer (some ⟨w.heap.size, 0, none⟩))) (w.alloc (.cells z.cells e)) := by
    simp [execOp, ho, Instr.alloc, zeroValue, typeInfo, hi, hzz, newVar, newRow]
  unfold Oper.wp
  rw [hrun, Oper.upon_value]
  have hm := h.mem.newCell (e := e) hc (ps := cs) (vs := z.cells) (by have := hr.length; simp at this; omega) (fun j p hp => by
    obtain ⟨v, hv, hvr⟩ := hr.get hp
    exact ⟨v, by simpa using hv, hvr, OwnOk.none (hstrip p (List.mem_of_getElem? hp))⟩)
  have hI := h.of_mono (g' := g.newC cid w.heap.size) (fun _ _ _ h => h) (newC_mono h.mem hc) (fun _ _ _ h => h.2) hm
  refine hK _ _ (g.newC cid w.heap.size) ?_ (Fr.newC h.mem hc _)
  rw [apply_wm]
  cases hdst : o.dst with
  | none => exact hI
  | some d =>
    rw [hdst] at hd
    exact hI.put (fits_wr (dst := some d) (p := .ptr cid 0) hd d rfl) (by simp only [PRel]; exact ⟨w.heap.size, by simp [Gh.newC], rfl⟩) trivial

theorem step_box (h : Inv L g st a w) {o : Oper} {e : TypeId} {x : Operand} (ho : o.op = .box e x) {p : PV S} (hp : rdRaw P L st e x = some p) {cid : Nat} (hc : st.mem[cid]? = some none) (h1 : p.cells.all PV.one = true)
    (hd : fits st.nt (took st x ++ wr o.dst (.ptr cid 0 : PV S)) = true) : StepOk P L g w st o a (.ok { w := took st x ++ wr o.dst (.ptr cid 0), m := [(cid, p.toCells)] }) := by
  intro K Q hK
  obtain ⟨from_, hf, hsr, hi⟩ := h.giveTo hp (.cell cid 0) (by simp)
  obtain ⟨hr, hone⟩ := cells_of_one hsr.1 h1
  have hrun : (execOp a.eval o).run P w = .ok (.value (.pointer (some ⟨w.heap.size, 0, none⟩))) (w.alloc (.cells (a.eval x).cells e)) := by
    simp [execOp, ho, Instr.box, newVar, newRow]
  unfold Oper.wp
  rw [hrun, Oper.upon_value]
  have hm := hi.mem.newCell (e := e) hc (ps := p.toCells) (vs := (a.eval x).cells) (by have := hr.length; rw [toCells_len]; simp at this; omega) (fun j q hq => by
    obtain ⟨u, hu, hur⟩ := toCells_rel (c := cid) (off := 0) hsr h1 j q hq
    exact ⟨u, by simpa using hu, by simpa using hur⟩)
  have hI := hi.of_mono (g' := (g.mv from_ (.cell cid 0)).newC cid w.heap.size) (fun _ _ _ h => h) (newC_mono hi.mem hc) (fun _ _ _ h => h.2) hm
  refine hK _ _ ((g.mv from_ (.cell cid 0)).newC cid w.heap.size) ?_ ((Fr.mv g w _ _).trans (Fr.newC hi.mem hc _))
  rw [apply_wm]
  cases hdst : o.dst with
  | none => simp only [wr, List.append_nil]; exact hI
  | some d =>
    rw [hdst] at hd
    have := hI.put (d := d) (p := .ptr cid 0) (v := .pointer (some ⟨w.heap.size, 0, none⟩)) (fits_wr (dst := some d) (p := .ptr cid 0) (fits_app hd).2 d rfl)
      (by simp only [PRel]; exact ⟨w.heap.size, by simp [Gh.newC], rfl⟩) trivial
    have e : updL st.slots (took st x ++ wr (some d) (.ptr cid 0)) = upd (updL st.slots (took st x)) d (.ptr cid 0) := by
      cases x <;> rfl
    rw [e]; exact this

end
end Go.Proofs.YtdhpgcjhiommkaaDoor.Ev
