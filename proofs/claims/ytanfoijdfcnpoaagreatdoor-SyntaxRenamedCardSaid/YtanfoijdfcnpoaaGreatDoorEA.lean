/- This file proves that each of the evaluator's operations keeps the relation to the model's world; without any condition. -/
import Derived.Test.YtanfoijdfcnpoaaGreatDoorEvS
import Derived.Laws.Rows
import Derived.Laws.CopyRow
import Derived.Laws.BytesString
import Derived.Laws.StructEq
import Derived.Laws.AppendOwn
set_option linter.unusedVariables false
set_option linter.unusedSimpArgs false
namespace Go.Proofs.YtanfoijdfcnpoaaGreatDoor.Ev

section
variable {S : Sig} {P : Program} {L : Lay S}

theorem constCell_rel {β : Nat → Option Nat} {G : Nat → Nat → Option Value} {t : TypeDesc} {v : Value} {p : PV S} (h : constCell L t v = some p) :
    PRel L β G p v ∧ (∀ ω pos, OwnOk L ω pos p v) ∧ p.one = true ∧ v.oneCell' = true := by
  unfold constCell at h
  split at h
  · cases h; exact ⟨by simp only [PRel]; exact .bool _, by simp [OwnOk], rfl, rfl⟩
  · split at h
    · rename_i hk; cases h; subst hk; exact ⟨by simp only [PRel]; exact .int _ _, by simp [OwnOk], rfl, rfl⟩
    · cases h
  · cases h; exact ⟨by simp only [PRel]; exact .str _, by simp [OwnOk], rfl, rfl⟩
  · cases h; exact ⟨by simp only [PRel], by simp [OwnOk], rfl, rfl⟩
  · cases h; exact ⟨by simp only [PRel], by simp [OwnOk], rfl, rfl⟩
  · cases h; exact ⟨by simp only [PRel], by simp [OwnOk], rfl, rfl⟩
  · rename_i e
    cases hk : L.key e with
    | none => rw [hk] at h; cases h
    | some k =>
      rw [hk] at h; cases h
      refine ⟨?_, by simp [OwnOk], rfl, rfl⟩
      simp only [PRel]
      exact ⟨.nil k, by intro a n c hh; cases hh; rfl, Plain.nil⟩
  · cases h; exact ⟨by simp only [PRel], by simp [OwnOk], rfl, rfl⟩
  · cases h

theorem constCells_rel {β : Nat → Option Nat} {G : Nat → Nat → Option Value} : ∀ {ts : List TypeDesc} {vs : List Value} {ps : List (PV S)}, constCells L ts vs = some ps →
    PRels L β G ps vs ∧ (∀ p ∈ ps, p.strip = p) ∧ ps.all PV.one = true ∧ ∀ v ∈ vs, v.oneCell' = true
  | [], [], ps, h => by simp [constCells] at h; subst h; simp [PRels]
  | t :: ts, v :: vs, ps, h => by
    simp only [constCells] at h
    cases h1 : constCell L t v with
    | none => simp [h1] at h
    | some p =>
      cases h2 : constCells L ts vs with
      | none => simp [h1, h2] at h
      | some r =>
        simp [h1, h2] at h; subst h
        obtain ⟨a1, a2, a3, a4⟩ := constCell_rel (β := β) (G := G) h1
        obtain ⟨b1, b2, b3, b4⟩ := constCells_rel (β := β) (G := G) h2
        have hs : p.strip = p := by
          unfold constCell at h1
          split at h1
          · cases h1; rfl
          · split at h1
            · cases h1; rfl
            · cases h1
          · cases h1; rfl
          · cases h1; rfl
          · cases h1; rfl
          · cases h1; rfl
          · rename_i e; cases hk : L.key e <;> rw [hk] at h1 <;> cases h1; rfl
          · cases h1; rfl
          · cases h1
        refine ⟨by simp only [PRels]; exact ⟨a1, b1⟩, ?_, by simp [a3, b3], ?_⟩
        · intro q hq; simp at hq; rcases hq with rfl | hq
          · exact hs
          · exact b2 q hq
        · intro u hu; simp at hu; rcases hu with rfl | hu
          · exact a4
          · exact b4 u hu
  | [], _ :: _, ps, h => by simp [constCells] at h
  | _ :: _, [], ps, h => by simp [constCells] at h

theorem constAt_rel {β : Nat → Option Nat} {G : Nat → Nat → Option Value} {t : TypeId} {v : Value} {p : PV S} (h : constAt P L t v = some p) :
    PRel L β G p v ∧ ∀ ω pos, OwnOk L ω pos p v := by
  unfold constAt at h
  split at h
  · rename_i cs
    split at h
    · rename_i ts hts
      cases hc : constCells L ts cs.toList with
      | none => simp [hc] at h
      | some r =>
        simp [hc] at h; subst h
        exact ⟨by simp only [PRel]; exact ⟨cs.toList, by simp, (constCells_rel hc).1⟩, by simp [OwnOk]⟩
    · cases h
  · split at h
    · exact ⟨(constCell_rel h).1, (constCell_rel (β := β) (G := G) h).2.1⟩
    · cases h

/-- A value type's zero cells. -/
theorem zeroCells_rel {β : Nat → Option Nat} {G : Nat → Nat → Option Value} {t : TypeId} {ps : List (PV S)} (h : zeroCells P L t = some ps) :
    ∃ i z, P.info? t = some i ∧ i.zero = some z ∧ PRels L β G ps z.cells.toList ∧ (∀ p ∈ ps, p.strip = p) ∧ ps.all PV.one = true ∧ ∀ v ∈ z.cells.toList, v.oneCell' = true := by
  unfold zeroCells at h
  split at h
  · rename_i z ts hz hts
    cases hi : P.info? t with
    | none => simp [hi] at hz
    | some i =>
      simp [hi] at hz
      obtain ⟨a, b, c, d⟩ := constCells_rel (β := β) (G := G) h
      exact ⟨i, z, rfl, hz, a, b, c, d⟩
  · cases h

variable {g : Gh} {st : St S} {a : Act} {w : World}

theorem eval_tmp (a : Act) (i : Nat) : a.eval (.tmp i) = a.tmps.getD i undef := rfl

theorem rdRaw_rel (h : Inv L g st a w) {t : TypeId} {x : Operand} {p : PV S} (hr : rdRaw P L st t x = some p) :
    PRel L g.β g.G p (a.eval x) ∧ (∀ i, x = .tmp i → p = st.slots i ∧ SRel L g (.slot i) p (a.eval x)) ∧ ((∀ i, x ≠ .tmp i) → ∀ ω pos, OwnOk L ω pos p (a.eval x)) := by
  cases x with
  | tmp i =>
    simp only [rdRaw, Option.some.injEq] at hr; subst hr
    exact ⟨(h.slot i).1, fun j hj => by cases hj; exact ⟨rfl, h.slot i⟩, fun hn => absurd rfl (hn i)⟩
  | const v =>
    simp only [rdRaw] at hr
    obtain ⟨h1, h2⟩ := constAt_rel (β := g.β) (G := g.G) hr
    exact ⟨h1, fun i hi => (by cases hi), fun _ => h2⟩
  | func f =>
    simp only [rdRaw, Option.some.injEq] at hr; subst hr
    refine ⟨?_, fun i hi => (by cases hi), fun _ _ _ => trivial⟩
    simp only [PRel, Act.eval]
    exact ⟨[], [], rfl, by simp only [PRels], by simp only [PRels]⟩
  | global q => simp [rdRaw] at hr

theorem rd_rel (h : Inv L g st a w) {t : TypeId} {x : Operand} {p : PV S} (hr : rd P L st t x = some p) :
    PRel L g.β g.G p (a.eval x) ∧ ∀ ω pos, OwnOk L ω pos p (a.eval x) := by
  unfold rd at hr
  cases hq : rdRaw P L st t x with
  | none => simp [hq] at hr
  | some q =>
    simp [hq] at hr; subst hr
    exact ⟨(rdRaw_rel h hq).1.strip, fun ω pos => OwnOk.of_strip _ _⟩

theorem rdAll_rel (h : Inv L g st a w) : ∀ {ts : List TypeId} {xs : List Operand} {ps : List (PV S)}, rdAll P L st ts xs = some ps → PRels L g.β g.G ps (xs.map a.eval) ∧ ∀ p ∈ ps, p.strip = p
  | [], [], ps, hr => by simp [rdAll] at hr; subst hr; simp [PRels]
  | t :: ts, x :: xs, ps, hr => by
    simp only [rdAll] at hr
    cases h1 : rd P L st t x with
    | none => simp [h1] at hr
    | some p =>
      cases h2 : rdAll P L st ts xs with
      | none => simp [h1, h2] at hr
      | some r =>
        simp [h1, h2] at hr; subst hr
        obtain ⟨b1, b2⟩ := rdAll_rel h h2
        refine ⟨by simp only [List.map, PRels]; exact ⟨(rd_rel h h1).1, b1⟩, ?_⟩
        intro q hq; simp at hq; rcases hq with rfl | hq
        · unfold rd at h1; cases hz : rdRaw P L st t x <;> simp [hz] at h1; subst h1; rename_i z; cases z <;> rfl
        · exact b2 q hq
  | [], _ :: _, ps, hr => by simp [rdAll] at hr
  | _ :: _, [], ps, hr => by simp [rdAll] at hr

theorem rdB_rel (h : Inv L g st a w) {x : Operand} {b : Bool} (hr : rdB st x = some b) : a.eval x = .bool b := by
  unfold rdB at hr
  split at hr
  · rename_i i
    have := (h.slot i).1
    split at hr
    · rename_i b' hs; simp at hr; subst hr; rw [hs] at this; simp only [PRel] at this; generalize hv : a.tmps.getD i undef = v at this; cases this; exact hv
    · cases hr
  · simp at hr; subst hr; rfl
  · cases hr

theorem boundOr_rel (h : Inv L g st a w) {x : Operand} {d n : Int} (hr : boundOr st (some x) d = some n) : ∃ k, a.eval x = .int k n := by
  unfold boundOr at hr
  split at hr
  · simp at *
  · rename_i k n' hx; simp at hx hr; subst hr; subst hx; exact ⟨k, rfl⟩
  · rename_i i hx
    simp at hx; subst hx
    have := (h.slot i).1
    unfold intOf? at hr
    split at hr
    · rename_i k n' hs; simp at hr hs; subst hr; rw [hs] at this; simp only [PRel] at this; generalize hv : a.tmps.getD i undef = v at this; cases this; exact ⟨k, hv⟩
    · cases hr
  · cases hr

/-! ### Writing slots -/

theorem upd_same (s : Nat → PV S) (i : Nat) (p : PV S) : upd s i p i = p := by simp [upd]
theorem upd_other (s : Nat → PV S) {i j : Nat} (p : PV S) (h : j ≠ i) : upd s i p j = s j := by
  have : Nat.beq j i = false := by
    cases hb : Nat.beq j i with
    | false => rfl
    | true => exact absurd (Nat.eq_of_beq_eq_true hb) h
  simp [upd, this]

theorem getD_put {a : Act} {d : Nat} {v : Value} (hd : d < a.tmps.size) (i : Nat) : (a.put (some d) v).tmps.getD i undef = if i = d then v else a.tmps.getD i undef := by
  simp only [Act.put, Array.getD_eq_getD_getElem?]
  by_cases h : i = d
  · subst h; simp [hd]
  · simp [h, Array.getElem?_setIfInBounds_ne (Ne.symm h)]

theorem size_put (a : Act) (d : Option Nat) (v : Value) : (a.put d v).tmps.size = a.tmps.size := by cases d <;> simp [Act.put]
theorem defers_put (a : Act) (d : Option Nat) (v : Value) : (a.put d v).defers = a.defers := by cases d <;> rfl

/-- A slot gets a value that is not owned. -/
theorem Inv.put (h : Inv L g st a w) {d : Nat} (hd : d < st.nt) {p : PV S} {v : Value} (hp : PRel L g.β g.G p v) (ho : OwnOk L g.ω (.slot d) p v) :
    Inv L g { st with slots := upd st.slots d p } (a.put (some d) v) w where
  size := by rw [size_put]; exact h.size
  slot i := by
    rw [getD_put (by rw [h.size]; exact hd)]
    by_cases hi : i = d
    · subst hi; simp only [upd_same, if_true]; exact ⟨hp, ho⟩
    · simp only [hi, if_false]; rw [upd_other _ _ hi]; exact h.slot i
  mem := h.mem
  dfs := by rw [defers_put]; exact h.dfs

/-- The rights of one place become those of another one. -/
def Gh.mv (g : Gh) (p q : Pos) : Gh := { g with ω := fun b => (g.ω b).map fun r => if r.pos = p then { r with pos := q } else r }

theorem OwnOk.mv_other {pos p q : Pos} {x : PV S} {v : Value} (h : OwnOk L g.ω pos x v) (hne : pos ≠ p) : OwnOk L (g.mv p q).ω pos x v := by
  cases x <;> simp only [OwnOk] at h ⊢
  intro a n c hv hn
  obtain ⟨r, h1, h2, h3, h4⟩ := h a n c hv hn
  refine ⟨r, ?_, h2, h3, h4⟩
  simp only [Gh.mv, h1, Option.map_some]
  rw [if_neg (by rw [h2]; exact hne)]

theorem OwnOk.mv_self {p q : Pos} {x : PV S} {v : Value} (h : OwnOk L g.ω p x v) : OwnOk L (g.mv p q).ω q x v := by
  cases x <;> simp only [OwnOk] at h ⊢
  intro a n c hv hn
  obtain ⟨r, h1, h2, h3, h4⟩ := h a n c hv hn
  refine ⟨{ r with pos := q }, ?_, rfl, h3, h4⟩
  simp only [Gh.mv, h1, Option.map_some]
  rw [if_pos h2]

theorem OwnOk.none {ω : Nat → Option Rt} {pos : Pos} {x : PV S} {v : Value} (h : x.strip = x) : OwnOk L ω pos x v := by
  cases x <;> simp [OwnOk, PV.strip] at h ⊢

theorem SRel.mv_other {pos p q : Pos} {x : PV S} {v : Value} (h : SRel L g pos x v) (hne : pos ≠ p) : SRel L (g.mv p q) pos x v := ⟨h.1, h.2.mv_other hne⟩

theorem MemInv.mv (h : MemInv L g st.mem w) {i : Nat} {q : Pos} : MemInv L (g.mv (.slot i) q) st.mem w where
  cell c ps hc := by
    obtain ⟨b, vs, ty, h1, h2, h3, h4⟩ := h.cell c ps hc
    refine ⟨b, vs, ty, h1, h2, h3, fun j p hp => ?_⟩
    obtain ⟨v, hv, hr⟩ := h4 j p hp
    exact ⟨v, hv, hr.mv_other (by simp)⟩
  dom := h.dom
  inj := h.inj
  βG := h.βG
  gs := h.gs
  wok := h.wok_sub (fun c b hb => .inl ⟨c, hb⟩) (fun b _ _ hb => by simp [Gh.mv, hb]) (fun _ _ _ _ h => h)
  rt b r hr := by
    simp only [Gh.mv] at hr
    cases hw : g.ω b with
    | none => simp [hw] at hr
    | some r0 =>
      simp [hw] at hr
      obtain ⟨h1, h2, h3⟩ := h.rt b r0 hw
      refine ⟨h1, ?_, ?_⟩
      · obtain ⟨cs, ty, e1, e2⟩ := h2
        refine ⟨cs, ty, e1, ?_⟩
        rw [← hr]; split <;> exact e2
      · intro o ho
        refine h3 o ?_
        rw [← hr] at ho; split at ho <;> exact ho

theorem Fr.mv (g : Gh) (w : World) (p q : Pos) : Fr g w (g.mv p q) w :=
  ⟨rfl, rfl, rfl, Nat.le_refl _, fun b _ _ h => ⟨rfl, fun _ => rfl, by simp [Gh.mv, h]⟩, fun _ _ _ h => h, fun _ _ h => h, fun _ _ h => .inl h⟩

/-- What a slot bears is given up: its rights go elsewhere. -/
theorem Inv.take (h : Inv L g st a w) (i : Nat) (q : Pos) (hq : ∀ j, q ≠ .slot j) :
    Inv L (g.mv (.slot i) q) { st with slots := upd st.slots i (st.slots i).strip } a w where
  size := h.size
  slot j := by
    by_cases hj : j = i
    · subst hj; simp only [upd_same]; exact ⟨(h.slot j).1.strip, OwnOk.of_strip _ _⟩
    · show SRel L _ _ (upd st.slots i (st.slots i).strip j) _
      rw [upd_other _ _ hj]; exact (h.slot j).mv_other (by simpa using hj)
  mem := h.mem.mv
  dfs := h.dfs

end
end Go.Proofs.YtanfoijdfcnpoaaGreatDoor.Ev

set_option linter.unusedVariables false
set_option linter.unusedSimpArgs false
namespace Go.Proofs.YtanfoijdfcnpoaaGreatDoor.Ev

section
variable {S : Sig} {P : Program} {L : Lay S} {g : Gh} {st : St S} {a : Act} {w : World}

/-- What one operation owes: from a state that fits it goes on in a state that fits, or panics. -/
def StepOk (P : Program) (L : Lay S) (g : Gh) (w : World) (st : St S) (o : Oper) (a : Act) : Out S → Prop
  | .ok e => ∀ (K : Act → World → Prop) (Q : Exit → Act → World → Prop),
      (∀ a' w' g', Inv L g' (e.apply st) a' w' → Fr g w g' w' → K a' w') → o.wp P a w K Q
  | .pan p e => ∀ (K : Act → World → Prop) (Q : Exit → Act → World → Prop),
      (∀ w' v g', PRel L g'.β g'.G p v → MemInv L g' (e.apply st).mem w' → DfRels L g'.β g'.G (e.apply st).dfs a.defers → Fr g w g' w' → Q (.panic [{ v, recovered := false }]) a w') → o.wp P a w K Q

theorem fits_wr {nt : Nat} {dst : Option Nat} {p : PV S} (h : fits nt (wr dst p) = true) : ∀ d, dst = some d → d < nt := by
  intro d hd; subst hd
  simp [wr, fits] at h
  exact h

theorem apply_val (o : Oper) (p : PV S) (st : St S) : ({ w := wr o.dst p } : Eff S).apply st = { st with slots := updL st.slots (wr o.dst p) } := by
  simp [Eff.apply, setL]

theorem step_val (h : Inv L g st a w) {o : Oper} {p : PV S} {v : Value} (hd : fits st.nt (wr o.dst p) = true) (hrun : (execOp a.eval o).run P w = .ok (.value v) w)
    (hp : PRel L g.β g.G p v) (ho : p.strip = p) : StepOk P L g w st o a (val o p) := by
  intro K Q hK
  unfold Oper.wp
  rw [hrun, Oper.upon_value]
  refine hK _ _ g ?_ (Fr.refl g w)
  rw [apply_val]
  cases hdst : o.dst with
  | none => simp only [wr, updL]; exact h
  | some d =>
    simp only [wr, updL]
    exact h.put (fits_wr hd d hdst) hp (OwnOk.none ho)

theorem run_isAgg {t : TypeId} {b : Bool} (h : aggT P t = some b) (w : World) : (isAgg t).run P w = .ok b w := by
  unfold aggT at h
  unfold isAgg
  split at h <;> simp at h <;> subst h
  · rename_i hu; simp [run_underlying hu]
  · rename_i hu; simp [run_underlying hu]
  · rename_i d h1 h2 hu
    rw [Sem.run_bind, run_underlying hu]
    simp only [Result.andThen_ok]
    cases d <;> first | rfl | (exact absurd rfl (h1 _)) | (exact absurd rfl (h2 _ _))

theorem run_sizeOf {t : TypeId} {n : Nat} (h : szT P t = some n) (w : World) : (sizeOf t).run P w = .ok n w := by
  unfold szT at h
  cases hi : P.info? t with
  | none => simp [hi] at h
  | some i => simp [hi] at h; subst h; simp [sizeOf, typeInfo, hi]

theorem add_mk (b o j : Nat) : (⟨b, o, none⟩ : Addr).add j = ⟨b, o + j, none⟩ := by
  unfold Addr.add; split <;> simp_all

theorem run_loadVar_agg {t : TypeId} {n b o : Nat} {vs : List Value} (ha : aggT P t = some true) (hs : szT P t = some n) (hl : vs.length = n)
    (hc : ∀ j v, vs[j]? = some v → w.cell? ⟨b, o + j, none⟩ = some v) : (loadVar t ⟨b, o, none⟩).run P w = .ok (.agg vs.toArray) w := by
  have h1 := run_loadCells_list (P := P) w ⟨b, o, none⟩ vs (fun j v hv => by rw [add_mk]; exact hc j v hv)
  rw [hl] at h1
  simp [loadVar, run_isAgg ha, run_sizeOf hs, h1]

theorem run_loadVar_one {t : TypeId} {b o : Nat} {v : Value} (ha : aggT P t = some false)
    (hc : w.cell? ⟨b, o, none⟩ = some v) : (loadVar t ⟨b, o, none⟩).run P w = .ok v w := by
  simp [loadVar, run_isAgg ha, hc]

/-- Cells that the evaluator reads are there. -/
theorem cells_rel (h : MemInv L g st.mem w) {c b : Nat} {cs : List (PV S)} (hc : cellAt st.mem c = some cs) (hnm : noMap cs = true) (hb : g.β c = some b) (off n : Nat) (hn : off + n ≤ cs.length) :
    ∃ vs : List Value, vs.length = n ∧ (∀ j v, vs[j]? = some v → w.cell? ⟨b, off + j, none⟩ = some v) ∧
      ∀ j p, ((cs.drop off).take n)[j]? = some p → ∃ v, vs[j]? = some v ∧ SRel L g (.cell c (off + j)) p v := by
  obtain ⟨b', vs, ty, h1, h2, h3, h4⟩ := h.plain c cs hc hnm
  rw [hb] at h1; cases h1
  refine ⟨(vs.toList.drop off).take n, ?_, ?_, ?_⟩
  · simp; omega
  · intro j v hv
    have hj : j < n := by
      have := (List.getElem?_eq_some_iff.1 hv).1; simp at this; omega
    simp only [List.getElem?_take, hj, if_true, List.getElem?_drop, Array.getElem?_toList] at hv
    simp only [World.cell?, h2, Option.isSome_none, Bool.false_eq_true, if_false]
    exact hv
  · intro j p hp
    have hj : j < n := by
      have := (List.getElem?_eq_some_iff.1 hp).1; simp at this; omega
    simp only [List.getElem?_take, hj, if_true, List.getElem?_drop] at hp ⊢
    obtain ⟨v, hv, hr⟩ := h4 (off + j) p hp
    exact ⟨v, by simpa using hv, hr⟩

theorem PRels.of_cells {cs : List (PV S)} {vs : List Value} {f : Nat → Pos} (hl : cs.length = vs.length)
    (h : ∀ j p, cs[j]? = some p → ∃ v, vs[j]? = some v ∧ SRel L g (f j) p v) : PRels L g.β g.G cs vs :=
  PRels.of_get hl fun j x hx => by obtain ⟨v, h1, h2⟩ := h j x hx; exact ⟨v, h1, h2.1⟩

theorem dvCells {ds : List (DV S)} {vs : List Value} {G : Nat → Nat → Option Value} {β : Nat → Option Nat} (hl : ds.length = vs.length)
    (h : ∀ (j : Nat) (d : DV S), ds[j]? = some d → ∃ v, vs[j]? = some v ∧ DRel L G d v) : PRels L β G (ds.map PV.d) vs :=
  PRels.of_get (by simpa using hl) fun j x hx => by
    simp only [List.getElem?_map, Option.map_eq_some_iff] at hx
    obtain ⟨d, hd, rfl⟩ := hx
    obtain ⟨v, h1, h2⟩ := h j d hd
    exact ⟨v, h1, by simpa only [PRel] using h2⟩

/-- What a value pointer points to is there. -/
theorem dp_cells (h : MemInv L g st.mem w) {k : S.K} {x : S.El k} {off n : Nat} {v : Value} (hv : PRel L g.β g.G (.dp k x off) v) (hn : off + n ≤ L.sz k) :
    ∃ b o, v = .pointer (some ⟨b, o, none⟩) ∧ ∃ vs : List Value, vs.length = n ∧ (∀ (j : Nat) u, vs[j]? = some u → w.cell? ⟨b, o + j, none⟩ = some u) ∧
      ∀ (j : Nat) (d : DV S), (((L.cells k x).drop off).take n)[j]? = some d → ∃ u, vs[j]? = some u ∧ DRel L g.G d u := by
  simp only [PRel] at hv
  obtain ⟨b, q, rfl, hq⟩ := hv
  refine ⟨b, q + off, rfl, (List.range n).map (fun j => (g.G b (q + off + j)).getD undef), by simp, ?_, ?_⟩
  · intro j u hu
    have hj : j < n := by have := (List.getElem?_eq_some_iff.1 hu).1; simpa using this
    simp [hj] at hu
    have hlen := L.len k x
    obtain ⟨d, hd⟩ : ∃ d, (L.cells k x)[off + j]? = some d := ⟨_, List.getElem?_eq_getElem (by omega)⟩
    obtain ⟨z, hz, _⟩ := hq (off + j) d hd
    rw [show q + (off + j) = q + off + j by omega] at hz
    rw [hz] at hu; simp at hu; subst hu
    exact h.gs _ _ _ hz
  · intro j d hd
    have hj : j < n := by have := (List.getElem?_eq_some_iff.1 hd).1; simp at this; omega
    simp only [List.getElem?_take, hj, if_true, List.getElem?_drop] at hd
    obtain ⟨z, hz, hr⟩ := hq (off + j) d hd
    rw [show q + (off + j) = q + off + j by omega] at hz
    exact ⟨z, by simp [hj, hz], hr⟩

/-- A load, untaken: its value in every world that agrees on what it reads. -/
theorem run_load_ptr {o : Oper} {t : TypeId} {x : Operand} (ho : o.op = .load t x) {b off : Nat} (hx : a.eval x = .pointer (some ⟨b, off, none⟩)) {v : Value}
    (hl : (loadVar t ⟨b, off, none⟩).run P w = .ok v w) : (execOp a.eval o).run P w = .ok (.value v) w := by
  simp [execOp, ho, hx, Instr.loadAt, Instr.sureAddr, hl]

theorem SomeInj {α : Type} {x y : α} (h : some x = some y) : x = y := Option.some.inj h

theorem strip_strip' (p : PV S) : p.strip.strip = p.strip := by cases p <;> rfl

theorem rd_strip {t : TypeId} {x : Operand} {p : PV S} (h : rd P L st t x = some p) : p.strip = p := by
  unfold rd at h; cases hz : rdRaw P L st t x <;> simp [hz] at h; subst h; exact strip_strip' _

/-- move, without taking. -/
theorem step_move (h : Inv L g st a w) {o : Oper} {x : Operand} (ho : o.op = .move x) {p : PV S} (hr : rdRaw P L st o.type x = some p)
    (hd : fits st.nt (wr o.dst p.strip) = true) : StepOk P L g w st o a (val o p.strip) :=
  step_val h hd (v := a.eval x) (by simp [execOp, ho]) (rdRaw_rel h hr).1.strip (strip_strip' p)

theorem step_pick (h : Inv L g st a w) {o : Oper} {c x y : Operand} (ho : o.op = .pick c x y) {t : Bool} (hc : rdB st c = some t) {p : PV S}
    (hr : rd P L st o.type (if t then x else y) = some p) (hd : fits st.nt (wr o.dst p) = true) : StepOk P L g w st o a (val o p) := by
  have hc' := rdB_rel h hc
  refine step_val h hd (v := a.eval (if t then x else y)) ?_ (rd_rel h hr).1 (rd_strip hr)
  cases t <;> simp [execOp, ho, hc', asBool]

theorem step_load_ptr (h : Inv L g st a w) {o : Oper} {t : TypeId} {x : Operand} (ho : o.op = .load t x) {c off n : Nat} (hr : rd P L st 0 x = some (.ptr c off))
    {cs : List (PV S)} (hc : cellAt st.mem c = some cs) (hnm : noMap cs = true) (hs : szT P t = some n) (hn : off + n ≤ cs.length) (ha : aggT P t = some true)
    (hd : fits st.nt (wr o.dst (.agg (((cs.drop off).take n).map PV.strip))) = true) : StepOk P L g w st o a (val o (.agg (((cs.drop off).take n).map PV.strip))) := by
  have hx := (rd_rel h hr).1
  simp only [PRel] at hx
  obtain ⟨b, hb, hx⟩ := hx
  obtain ⟨vs, hl, hcell, hrel⟩ := cells_rel h.mem hc hnm hb off n hn
  refine step_val h hd (run_load_ptr ho hx (run_loadVar_agg ha hs hl hcell)) ?_ rfl
  simp only [PRel]
  refine ⟨vs, rfl, PRels.map (fun _ _ => PRel.strip) (PRels.of_cells (f := fun j => .cell c (off + j)) (by simp; omega) hrel)⟩

theorem step_load_ptr1 (h : Inv L g st a w) {o : Oper} {t : TypeId} {x : Operand} (ho : o.op = .load t x) {c off n : Nat} (hr : rd P L st 0 x = some (.ptr c off))
    {cs : List (PV S)} (hc : cellAt st.mem c = some cs) (hnm : noMap cs = true) (hn : off + n ≤ cs.length) (ha : aggT P t = some false) {p : PV S} (hp : (cs.drop off).take n = [p])
    (hd : fits st.nt (wr o.dst p.strip) = true) : StepOk P L g w st o a (val o p.strip) := by
  have hx := (rd_rel h hr).1
  simp only [PRel] at hx
  obtain ⟨b, hb, hx⟩ := hx
  obtain ⟨vs, hl, hcell, hrel⟩ := cells_rel h.mem hc hnm hb off n hn
  obtain ⟨v, hv, hr'⟩ := hrel 0 p (by rw [hp]; rfl)
  refine step_val h hd (run_load_ptr ho hx (run_loadVar_one ha (hcell 0 v hv))) hr'.1.strip (strip_strip' p)

theorem step_load_dp (h : Inv L g st a w) {o : Oper} {t : TypeId} {x : Operand} (ho : o.op = .load t x) {k : S.K} {e : S.El k} {off n : Nat} (hr : rd P L st 0 x = some (.dp k e off))
    (hs : szT P t = some n) (hn : off + n ≤ L.sz k) (ha : aggT P t = some true)
    (hd : fits st.nt (wr o.dst (.agg ((((L.cells k e).drop off).take n).map .d))) = true) : StepOk P L g w st o a (val o (.agg ((((L.cells k e).drop off).take n).map .d))) := by
  obtain ⟨b, q, hx, vs, hl, hcell, hrel⟩ := dp_cells h.mem (rd_rel h hr).1 hn
  refine step_val h hd (run_load_ptr ho hx (run_loadVar_agg ha hs hl hcell)) ?_ rfl
  simp only [PRel]
  have hlen := L.len k e
  exact ⟨vs, rfl, dvCells (by simp; omega) hrel⟩

theorem step_load_dp1 (h : Inv L g st a w) {o : Oper} {t : TypeId} {x : Operand} (ho : o.op = .load t x) {k : S.K} {e : S.El k} {off n : Nat} (hr : rd P L st 0 x = some (.dp k e off))
    (hn : off + n ≤ L.sz k) (ha : aggT P t = some false) {p : DV S} (hp : ((L.cells k e).drop off).take n = [p])
    (hd : fits st.nt (wr o.dst (.d p)) = true) : StepOk P L g w st o a (val o (.d p)) := by
  obtain ⟨b, q, hx, vs, hl, hcell, hrel⟩ := dp_cells h.mem (rd_rel h hr).1 hn
  obtain ⟨v, hv, hr'⟩ := hrel 0 p (by rw [hp]; rfl)
  exact step_val h hd (run_load_ptr ho hx (run_loadVar_one ha (hcell 0 v hv))) (by simpa only [PRel] using hr') rfl

theorem step_nilCheck (h : Inv L g st a w) {o : Oper} {x : Operand} (ho : o.op = .nilCheck x) {p : PV S} (hr : rd P L st 0 x = some p)
    (hp : (∃ c off, p = .ptr c off) ∨ ∃ k e off, p = .dp k e off) (hd : fits st.nt (wr o.dst p) = true) : StepOk P L g w st o a (val o p) := by
  have hx := (rd_rel h hr).1
  refine step_val h hd (v := a.eval x) ?_ hx (rd_strip hr)
  have : ∃ ad, a.eval x = .pointer (some ad) := by
    rcases hp with ⟨c, off, rfl⟩ | ⟨k, e, off, rfl⟩ <;> simp only [PRel] at hx
    · obtain ⟨b, _, hx⟩ := hx; exact ⟨_, hx⟩
    · obtain ⟨b, q, hx, _⟩ := hx; exact ⟨_, hx⟩
  obtain ⟨ad, hx⟩ := this
  simp [execOp, ho, hx]

theorem step_not (h : Inv L g st a w) {o : Oper} {x : Operand} {t : TypeId} (ho : o.op = .unOp .not t x) {b : Bool} (hr : rdB st x = some b)
    (hd : fits st.nt (wr o.dst (.d (.bool !b) : PV S)) = true) : StepOk P L g w st o a (val o (.d (.bool !b))) := by
  have hx := rdB_rel h hr
  refine step_val h hd (v := .bool !b) ?_ (by simp only [PRel]; exact .bool _) rfl
  simp [execOp, ho, hx, Op.unary]

theorem step_makeInterface (h : Inv L g st a w) {o : Oper} {t : TypeId} {x : Operand} (ho : o.op = .makeInterface t x) {d : TypeDesc} (hu : P.underlying t = some d)
    (hi : ∀ ms, d ≠ .interface ms) {p : PV S} (hr : rd P L st t x = some p) (hd : fits st.nt (wr o.dst (.iface t p.norm)) = true) : StepOk P L g w st o a (val o (.iface t p.norm)) := by
  refine step_val h hd (v := .iface t (a.eval x)) ?_ (by simp only [PRel]; exact ⟨_, rfl, (rd_rel h hr).1.norm⟩) rfl
  have : (Instr.makeInterface t (a.eval x)).run P w = .ok (.iface t (a.eval x)) w := by
    unfold Instr.makeInterface
    rw [Sem.run_bind, run_underlying hu]
    simp only [Result.andThen_ok]
    cases d <;> first | rfl | exact absurd rfl (hi _)
  simp [execOp, ho, this]

theorem step_makeFunc (h : Inv L g st a w) {o : Oper} {f : FuncId} {fst cap : Array Operand} (ho : o.op = .makeFunc (.func f) fst cap) {ts us : List TypeId} {ps qs : List (PV S)}
    (hp : rdAll P L st ts fst.toList = some ps) (hq : rdAll P L st us cap.toList = some qs)
    (hd : fits st.nt (wr o.dst (.fn (.func f) (ps.map PV.norm) (qs.map PV.norm))) = true) : StepOk P L g w st o a (val o (.fn (.func f) (ps.map PV.norm) (qs.map PV.norm))) := by
  refine step_val h hd (v := .func (.func f) (fst.map a.eval) (cap.map a.eval)) (by simp [execOp, ho, Instr.makeFunc]) ?_ rfl
  simp only [PRel]
  exact ⟨fst.toList.map a.eval, cap.toList.map a.eval, by rw [← Array.toList_map, ← Array.toList_map], (rdAll_rel h hp).1.map (fun _ _ => PRel.norm), (rdAll_rel h hq).1.map (fun _ _ => PRel.norm)⟩

theorem step_extract (h : Inv L g st a w) {o : Oper} {x : Operand} {i : Nat} (ho : o.op = .extract x i) {l : List (PV S)} (hr : rd P L st 0 x = some (.tup l)) {p : PV S} (hp : l[i]? = some p)
    (hd : fits st.nt (wr o.dst p.strip) = true) : StepOk P L g w st o a (val o p.strip) := by
  have hx := (rd_rel h hr).1
  simp only [PRel] at hx
  obtain ⟨vs, hx, hrel⟩ := hx
  obtain ⟨v, hv, hr'⟩ := hrel.get hp
  refine step_val h hd (v := v) ?_ hr'.strip (strip_strip' p)
  simp [execOp, ho, hx, Instr.extract, hv]

theorem step_fieldAddr (h : Inv L g st a w) {o : Oper} {t : TypeId} {x : Operand} {f : Nat} (ho : o.op = .fieldAddr t x f) {fd : Field} (hf : fieldOf P t f = some fd) {n : Nat} (hs : szT P fd.type = some (n + 1))
    {p : PV S} (hr : rd P L st 0 x = some p) {q : PV S} (hq : (∃ c off, p = .ptr c off ∧ q = .ptr c (off + fd.offset)) ∨ ∃ k e off, p = .dp k e off ∧ q = .dp k e (off + fd.offset))
    (hd : fits st.nt (wr o.dst q) = true) : StepOk P L g w st o a (val o q) := by
  have hx := (rd_rel h hr).1
  have run : ∀ b off, a.eval x = .pointer (some ⟨b, off, none⟩) → (execOp a.eval o).run P w = .ok (.value (.pointer (some ⟨b, off + fd.offset, none⟩))) w := by
    intro b off hx
    unfold fieldOf at hf
    split at hf
    · rename_i fs hu
      have : (Instr.fieldAt t (.pointer (some ⟨b, off, none⟩)) f).run P w = .ok (.pointer (some ⟨b, off + fd.offset, none⟩)) w := by
        unfold Instr.fieldAt
        rw [Sem.run_bind, run_underlying hu]
        simp [hf, Instr.sureAddr, fieldPlace, run_sizeOf hs, add_mk]
      simp [execOp, ho, hx, this]
    · cases hf
  rcases hq with ⟨c, off, rfl, rfl⟩ | ⟨k, e, off, rfl, rfl⟩ <;> simp only [PRel] at hx
  · obtain ⟨b, hb, hx⟩ := hx
    exact step_val h hd (run b off hx) (by simp only [PRel]; exact ⟨b, hb, rfl⟩) rfl
  · obtain ⟨b, q, hx, hc⟩ := hx
    exact step_val h hd (run b _ hx) (by simp only [PRel]; exact ⟨b, q, by rw [Nat.add_assoc], hc⟩) rfl

theorem step_field (h : Inv L g st a w) {o : Oper} {t : TypeId} {x : Operand} {f : Nat} (ho : o.op = .field t x f) {fd : Field} (hf : fieldOf P t f = some fd)
    {cs : List (PV S)} (hr : rd P L st t x = some (.agg cs)) {n : Nat} (hs : szT P fd.type = some n) (ha : aggT P fd.type = some true) (hn : fd.offset + n ≤ cs.length)
    (hd : fits st.nt (wr o.dst (.agg ((cs.drop fd.offset).take n))) = true) : StepOk P L g w st o a (val o (.agg ((cs.drop fd.offset).take n))) := by
  have hx := (rd_rel h hr).1
  simp only [PRel] at hx
  obtain ⟨vs, hx, hrel⟩ := hx
  have hlen := hrel.length
  refine step_val h hd (v := .agg ((vs.drop fd.offset).take n).toArray) ?_ ?_ rfl
  · unfold fieldOf at hf
    split at hf
    · rename_i fs hu
      have : (Instr.field t (.agg vs.toArray) f).run P w = .ok (.agg ((vs.drop fd.offset).take n).toArray) w := by
        unfold Instr.field
        rw [Sem.run_bind, run_underlying hu]
        simp [hf, part, run_isAgg ha, run_sizeOf hs, asAgg]
      simp [execOp, ho, hx, this]
    · cases hf
  · simp only [PRel]
    refine ⟨_, rfl, PRels.of_get (by simp; omega) fun j p hp => ?_⟩
    have hj : j < n := by have := (List.getElem?_eq_some_iff.1 hp).1; simp at this; omega
    simp only [List.getElem?_take, hj, if_true, List.getElem?_drop] at hp ⊢
    exact hrel.get hp

theorem step_field1 (h : Inv L g st a w) {o : Oper} {t : TypeId} {x : Operand} {f : Nat} (ho : o.op = .field t x f) {fd : Field} (hf : fieldOf P t f = some fd)
    {cs : List (PV S)} (hr : rd P L st t x = some (.agg cs)) (ha : aggT P fd.type = some false) {p : PV S} (hp : cs[fd.offset]? = some p)
    (hd : fits st.nt (wr o.dst p.strip) = true) : StepOk P L g w st o a (val o p.strip) := by
  have hx := (rd_rel h hr).1
  simp only [PRel] at hx
  obtain ⟨vs, hx, hrel⟩ := hx
  obtain ⟨v, hv, hr'⟩ := hrel.get hp
  refine step_val h hd (v := v) ?_ hr'.strip (strip_strip' p)
  unfold fieldOf at hf
  split at hf
  · rename_i fs hu
    have : (Instr.field t (.agg vs.toArray) f).run P w = .ok v w := by
      unfold Instr.field
      rw [Sem.run_bind, run_underlying hu]
      simp [hf, part, run_isAgg ha, asAgg, hv]
    simp [execOp, ho, hx, this]
  · cases hf

theorem strip_strip (p : PV S) : p.strip.strip = p.strip := by cases p <;> rfl

theorem own_or (p : PV S) : p.strip = p ∨ ∃ k l, p = .own k l := by cases p <;> simp [PV.strip]

end
end Go.Proofs.YtanfoijdfcnpoaaGreatDoor.Ev

set_option linter.unusedVariables false
set_option linter.unusedSimpArgs false
namespace Go.Proofs.YtanfoijdfcnpoaaGreatDoor.Ev

section
variable {S : Sig} {P : Program} {L : Lay S} {g : Gh} {st : St S} {a : Act} {w : World}

theorem PRel.d_int {β : Nat → Option Nat} {G : Nat → Nat → Option Value} {k : IntKind} {n : Int} {v : Value} (h : PRel L β G (.d (.int k n)) v) : v = .int k n := by
  simp only [PRel] at h; cases h; rfl
theorem PRel.d_str {β : Nat → Option Nat} {G : Nat → Nat → Option Value} {s : ByteArray} {v : Value} (h : PRel L β G (.d (.str s)) v) : v = .string s := by
  simp only [PRel] at h; cases h; rfl
theorem PRel.d_bool {β : Nat → Option Nat} {G : Nat → Nat → Option Value} {b : Bool} {v : Value} (h : PRel L β G (.d (.bool b)) v) : v = .bool b := by
  simp only [PRel] at h; cases h; rfl

theorem part_plain {t : TypeId} {d : TypeDesc} (hu : P.underlying t = some d) (hd : d = .bool ∨ d = .string ∨ ∃ k, d = .int k) {xs : Array Value} {o : Nat} {v : Value} (hv : xs[o]? = some v) : (part t xs o).run P w = .ok v w := by
  rcases hd with rfl | rfl | ⟨k, rfl⟩ <;> simp [part, isAgg, run_underlying hu, hv]

theorem eqFlds_run {β : Nat → Option Nat} {G : Nat → Nat → Option Value} {d : Nat} {cs ds : List (PV S)} {vs us : List Value} (hc : PRels L β G cs vs) (hd : PRels L β G ds us) : ∀ {fs : List Field} {t : Bool},
    eqFlds P fs cs ds = some t → (Op.eqFields (d + 1) vs.toArray us.toArray fs).run P w = .ok t w
  | [], t, h => by
    simp only [eqFlds, Option.some.injEq] at h
    subst h; rfl
  | f :: r, t, h => by
    simp only [eqFlds] at h
    have fin : ∀ {b t' : Bool} {v u : Value}, (f.name == "_") = false → (part f.type vs.toArray f.offset).run P w = .ok v w → (part f.type us.toArray f.offset).run P w = .ok u w →
        (Op.equalIn (d + 1) f.type v u).run P w = .ok b w → eqFlds P r cs ds = some t' → (Op.eqFields (d + 1) vs.toArray us.toArray (f :: r)).run P w = .ok (b && t') w := by
      intro b t' v u hn h1 h2 h3 h4
      have hn' : f.name ≠ "_" := by simpa using hn
      simp only [Op.eqFields, if_pos hn', Sem.run_bind, h1, h2, h3, Result.andThen_ok]
      cases b with
      | false => rfl
      | true => simpa using eqFlds_run hc hd h4
    split at h
    · rename_i k k1 a1 k2 b1 t' e1 e2 e3 e4 e5
      split at h
      · rename_i hk
        subst hk
        cases h
        obtain ⟨v, hv, hr⟩ := hc.get e3
        obtain ⟨u, hu, hr'⟩ := hd.get e4
        cases hr.d_int; cases hr'.d_int
        exact fin e1 (part_plain e2 (.inr (.inr ⟨_, rfl⟩)) (by simpa using hv)) (part_plain e2 (.inr (.inr ⟨_, rfl⟩)) (by simpa using hu)) (run_equalIn_int w d _ _ _ _ _ e2) e5
      · cases h
    · rename_i a1 b1 t' e1 e2 e3 e4 e5
      cases h
      obtain ⟨v, hv, hr⟩ := hc.get e3
      obtain ⟨u, hu, hr'⟩ := hd.get e4
      cases hr.d_str; cases hr'.d_str
      exact fin e1 (part_plain e2 (.inr (.inl rfl)) (by simpa using hv)) (part_plain e2 (.inr (.inl rfl)) (by simpa using hu)) (run_equalIn_string w d _ _ _ e2) e5
    · rename_i a1 b1 t' e1 e2 e3 e4 e5
      cases h
      obtain ⟨v, hv, hr⟩ := hc.get e3
      obtain ⟨u, hu, hr'⟩ := hd.get e4
      cases hr.d_bool; cases hr'.d_bool
      exact fin e1 (part_plain e2 (.inl rfl) (by simpa using hv)) (part_plain e2 (.inl rfl) (by simpa using hu)) (run_equalIn_bool' w d _ _ _ e2) e5
    · cases h

/-- The value that a binary operation gives, if the evaluator gives one. -/
theorem binK_run (h : Inv L g st a w) {o : Oper} {op : BinOp} {xt yt : TypeId} {x y : Operand} (ho : o.op = .binOp op xt x y yt) {p q : PV S} (hp : rd P L st xt x = some p) (hq : rd P L st yt y = some q)
    {out : Out S} (hk : binK P o op xt x y p q some = some out) : ∃ (r : DV S) (v : Value), out = val o (.d r) ∧ DRel L g.G r v ∧ (execOp a.eval o).run P w = .ok (.value v) w := by
  have hx := (rd_rel h hp).1
  have hy := (rd_rel h hq).1
  unfold binK at hk
  split at hk
  · rename_i k a1 k' b1
    have ex := hx.d_int
    have ey := hy.d_int
    split at hk
    · rename_i hkk
      subst hkk
      have base : ∀ (r : Value), (eqGuard op xt x y (.int k a1) (.int k b1)).run P w = .ok () w := by
        intro r; unfold eqGuard; cases op <;> rfl
      have mk : ∀ (r : DV S) (v : Value), DRel L g.G r v → (binOp op xt (.int k a1) (.int k b1)).run P w = .ok v w → (execOp a.eval o).run P w = .ok (.value v) w := by
        intro r v _ hr
        simp only [execOp, ho, ex, ey, Sem.run_bind, base v, Result.andThen_ok, hr, Sem.run_pure]
      split at hk
      · cases hk; exact ⟨_, _, rfl, .int _ _, mk _ _ (.int _ _) (by simp [binOp, Op.intArith])⟩
      · cases hk; exact ⟨_, _, rfl, .int _ _, mk _ _ (.int _ _) (by simp [binOp, Op.intArith])⟩
      · cases hk; exact ⟨_, _, rfl, .int _ _, mk _ _ (.int _ _) (by simp [binOp, Op.intArith])⟩
      · cases hb : (b1 == 0)
        · rw [hb] at hk; cases hk
          have : ¬ b1 = 0 := by simpa using hb
          exact ⟨_, _, rfl, .int _ _, mk _ _ (.int _ _) (by simp [binOp, Op.intDiv, this])⟩
        · rw [hb] at hk; cases hk
      · cases hb : (b1 == 0)
        · rw [hb] at hk; cases hk
          have : ¬ b1 = 0 := by simpa using hb
          exact ⟨_, _, rfl, .int _ _, mk _ _ (.int _ _) (by simp [binOp, Op.intDiv, this])⟩
        · rw [hb] at hk; cases hk
      · rename_i h1 h2 h3 h4 h5
        cases hc : cmpInt op a1 b1 with
        | none => rw [hc] at hk; cases hk
        | some c =>
          rw [hc] at hk; cases hk
          refine ⟨_, _, rfl, .bool _, mk _ _ (.bool c) ?_⟩
          unfold cmpInt at hc
          cases op <;> simp at hc <;> subst hc <;> simp [binOp, Op.intCmp]
    · cases hk
  · rename_i s1 s2
    have ex := hx.d_str
    have ey := hy.d_str
    have base : (eqGuard op xt x y (.string s1) (.string s2)).run P w = .ok () w := by unfold eqGuard; cases op <;> rfl
    have mk : ∀ (v : Value), (binOp op xt (.string s1) (.string s2)).run P w = .ok v w → (execOp a.eval o).run P w = .ok (.value v) w := by
      intro v hr
      simp only [execOp, ho, ex, ey, Sem.run_bind, base, Result.andThen_ok, hr, Sem.run_pure]
    split at hk
    · cases hb : decide (s1.size + s2.size ≤ 9223372036854775807)
      · rw [hb] at hk; cases hk
      · rw [hb] at hk; cases hk
        refine ⟨_, _, rfl, .str _, mk _ ?_⟩
        have hle : s1.size + s2.size ≤ 9223372036854775807 := of_decide_eq_true hb
        have : ¬ (((s1.size + s2.size : Nat) : Int) > IntKind.i64.max) := by
          have e : IntKind.i64.max = 9223372036854775807 := by decide
          rw [e]; omega
        simp only [binOp, Op.stringOp, if_neg this, Sem.run_pure]
    · cases hk; exact ⟨_, _, rfl, .bool _, mk _ (by simp [binOp, Op.stringOp, strEq])⟩
    · cases hk; exact ⟨_, _, rfl, .bool _, mk _ (by simp [binOp, Op.stringOp, strEq])⟩
    · cases hk
  · rename_i b1 b2
    have ex := hx.d_bool
    have ey := hy.d_bool
    have base : (eqGuard op xt x y (.bool b1) (.bool b2)).run P w = .ok () w := by unfold eqGuard; cases op <;> rfl
    split at hk
    · have hu : P.underlying xt = some .bool := by assumption
      cases hk
      refine ⟨_, .bool (b1 == b2), rfl, .bool _, ?_⟩
      have : (Op.equal xt (.bool b1) (.bool b2)).run P w = .ok (b1 == b2) w := by
        unfold Op.equal Op.maxDepth Op.equalIn
        rw [Sem.run_bind, run_underlying hu]; rfl
      simp only [execOp, ho, ex, ey, Sem.run_bind, base, Result.andThen_ok, binOp, this, Sem.run_pure]
    · have hu : P.underlying xt = some .bool := by assumption
      cases hk
      refine ⟨_, .bool (!(b1 == b2)), rfl, .bool _, ?_⟩
      have : (Op.equal xt (.bool b1) (.bool b2)).run P w = .ok (b1 == b2) w := by
        unfold Op.equal Op.maxDepth Op.equalIn
        rw [Sem.run_bind, run_underlying hu]; rfl
      simp only [execOp, ho, ex, ey, Sem.run_bind, base, Result.andThen_ok, binOp, this, Sem.run_pure]
    · cases hk
  · simp only [PRel] at hx hy
    split at hk
    · obtain ⟨ms, hu⟩ : ∃ ms, P.underlying xt = some (.interface ms) := ⟨_, by assumption⟩
      cases hk
      refine ⟨_, .bool true, rfl, .bool _, ?_⟩
      have base : ∀ z, (eqGuard .eql xt x (.const z) .nilIface .nilIface).run P w = .ok () w := by intro z; unfold eqGuard; simp
      have : (Op.equal xt .nilIface .nilIface).run P w = .ok true w := by
        unfold Op.equal Op.maxDepth Op.equalIn
        rw [Sem.run_bind, run_underlying hu]; rfl
      simp only [execOp, ho, hx, hy, Sem.run_bind, base, Result.andThen_ok, binOp, this, Sem.run_pure]
    · obtain ⟨ms, hu⟩ : ∃ ms, P.underlying xt = some (.interface ms) := ⟨_, by assumption⟩
      cases hk
      refine ⟨_, .bool false, rfl, .bool _, ?_⟩
      have base : ∀ z, (eqGuard .neq xt x (.const z) .nilIface .nilIface).run P w = .ok () w := by intro z; unfold eqGuard; simp
      have : (Op.equal xt .nilIface .nilIface).run P w = .ok true w := by
        unfold Op.equal Op.maxDepth Op.equalIn
        rw [Sem.run_bind, run_underlying hu]; rfl
      simp only [execOp, ho, hx, hy, Sem.run_bind, base, Result.andThen_ok, binOp, this, Sem.run_pure]; rfl
    · cases hk
  · simp only [PRel] at hx hy
    obtain ⟨u, hx, _⟩ := hx
    split at hk
    · obtain ⟨ms, hu⟩ : ∃ ms, P.underlying xt = some (.interface ms) := ⟨_, by assumption⟩
      cases hk
      refine ⟨_, .bool false, rfl, .bool _, ?_⟩
      have base : ∀ t', (eqGuard .eql xt x y (.iface t' u) .nilIface).run P w = .ok () w := by intro t'; unfold eqGuard; rfl
      have : ∀ t', (Op.equal xt (.iface t' u) .nilIface).run P w = .ok false w := by
        intro t'
        unfold Op.equal Op.maxDepth Op.equalIn
        rw [Sem.run_bind, run_underlying hu]; rfl
      simp only [execOp, ho, hx, hy, Sem.run_bind, base, Result.andThen_ok, binOp, this, Sem.run_pure]
    · obtain ⟨ms, hu⟩ : ∃ ms, P.underlying xt = some (.interface ms) := ⟨_, by assumption⟩
      cases hk
      refine ⟨_, .bool true, rfl, .bool _, ?_⟩
      have base : ∀ t', (eqGuard .neq xt x y (.iface t' u) .nilIface).run P w = .ok () w := by intro t'; unfold eqGuard; rfl
      have : ∀ t', (Op.equal xt (.iface t' u) .nilIface).run P w = .ok false w := by
        intro t'
        unfold Op.equal Op.maxDepth Op.equalIn
        rw [Sem.run_bind, run_underlying hu]; rfl
      simp only [execOp, ho, hx, hy, Sem.run_bind, base, Result.andThen_ok, binOp, this, Sem.run_pure]; rfl
    · cases hk
  · rename_i cs ds
    split at hk
    · rename_i fs e1 e3 e4
      split at hk
      · rename_i t e5
        cases hk
        simp only [PRel] at hx hy
        obtain ⟨vs, hx, hvs⟩ := hx
        obtain ⟨us, hy, hus⟩ := hy
        refine ⟨_, .bool t, rfl, .bool _, ?_⟩
        have hfs : P.fieldsOf xt = fs := by simp [Program.fieldsOf, e1]
        have := eqFlds_run (w := w) (d := 9998) hvs hus e5
        simp only [execOp, ho, hx, hy, Sem.run_bind, run_eqGuard_agg w _ _ _ _ _ _ e3, Result.andThen_ok, run_eql_struct]
        rw [run_equalIn_agg w 9999 xt _ _ (by rw [hfs]; exact e1) e4, hfs, this]
        rfl
      · cases hk
    · cases hk
  · cases hk

theorem step_bin (h : Inv L g st a w) {o : Oper} {op : BinOp} {xt yt : TypeId} {x y : Operand} (ho : o.op = .binOp op xt x y yt) {p q : PV S} (hp : rd P L st xt x = some p) (hq : rd P L st yt y = some q)
    {out : Out S} (hk : binK P o op xt x y p q some = some out) (hd : ∀ e, out = .ok e → fits st.nt e.w = true) : StepOk P L g w st o a out := by
  obtain ⟨r, v, rfl, hr, hrun⟩ := binK_run h ho hp hq hk
  exact step_val h (hd _ rfl) hrun (by simpa only [PRel] using hr) rfl

theorem bytes_cells {k : S.K} {l : List (S.El k)} {ns : List Int} (hb : byteList (l.map (L.cells k)) = some ns) :
    ns.length = l.length ∧ ∀ (i : Nat) (x : S.El k), l[i]? = some x → ∃ n, ns[i]? = some n ∧ L.cells k x = [.int .u8 n] := by
  induction l generalizing ns with
  | nil => simp [byteList] at hb; subst hb; simp
  | cons x l ih =>
    simp only [List.map_cons] at hb
    generalize hc : L.cells k x = cs at hb
    unfold byteList at hb
    split at hb
    · rename_i h; simp at h
    · rename_i n r heq
      simp at heq
      obtain ⟨rfl, rfl⟩ := heq
      cases hr : byteList (l.map (L.cells k)) with
      | none => simp [hr] at hb
      | some ms =>
        simp [hr] at hb; subst hb
        obtain ⟨h1, h2⟩ := ih hr
        refine ⟨by simp [h1], fun i y hy => ?_⟩
        cases i with
        | zero => simp at hy; subst hy; exact ⟨n, rfl, hc⟩
        | succ i => simp at hy; obtain ⟨m, e1, e2⟩ := h2 i y hy; exact ⟨m, by simpa using e1, e2⟩
    · cases hb

/-- The bytes of a slice, loaded. -/
theorem load_bytes (h : MemInv L g st.mem w) {k : S.K} {l : List (S.El k)} {ns : List Int} (hb : byteList (l.map (L.cells k)) = some ns) {v : Value} (hv : DRel L g.G (.sl k l) v) :
    v = .slice none 0 0 ∧ ns = [] ∨ ∃ ad c, v = .slice (some ad) l.length c ∧ (loadCells ad l.length).run P w = .ok (ns.map (Value.int .u8)).toArray w := by
  obtain ⟨hlen, hcell⟩ := bytes_cells hb
  rcases hv.sl_inv with ⟨rfl, rfl⟩ | ⟨rfl, ad, c, rfl⟩ | ⟨b, o, c, rfl, hc, hrel⟩
  · exact .inl ⟨rfl, by simpa using hlen⟩
  · have : ns = [] := by simpa using hlen
    subst this
    exact .inr ⟨ad, c, rfl, by simp [loadCells, loadCellsFrom]⟩
  · refine .inr ⟨_, c, rfl, ?_⟩
    by_cases hl : l = []
    · subst hl; simp at hlen; subst hlen; simp [loadCells, loadCellsFrom]
    · have hsz : L.sz k = 1 := by
        obtain ⟨x, l', rfl⟩ : ∃ x l', l = x :: l' := by cases l with | nil => exact absurd rfl hl | cons x l' => exact ⟨x, l', rfl⟩
        obtain ⟨n, _, hx⟩ := hcell 0 x rfl
        have := L.len k x; rw [hx] at this; simpa using this.symm
      have := run_loadCells_list (P := P) w ⟨b, o, none⟩ (ns.map (Value.int .u8)) (fun j v hv => by
        rw [add_mk]
        simp only [List.getElem?_map, Option.map_eq_some_iff] at hv
        obtain ⟨n, hn, rfl⟩ := hv
        have hj : j < l.length := by have := (List.getElem?_eq_some_iff.1 hn).1; omega
        obtain ⟨n', hn', hx⟩ := hcell j l[j] (List.getElem?_eq_getElem hj)
        rw [hn] at hn'; cases hn'
        obtain ⟨u, hu, hr⟩ := hrel j l[j] (List.getElem?_eq_getElem hj) 0 _ (by rw [hx]; rfl)
        cases hr
        have := h.gs _ _ _ hu
        simpa [hsz] using this)
      simp only [List.length_map, hlen] at this
      exact this

theorem step_conv (h : Inv L g st a w) {o : Oper} {src dst : TypeId} {x : Operand} (ho : o.op = .convert src dst x) {p : PV S} (hp : rd P L st src x = some p)
    {out : Out S} (hk : convK P L o src dst p some = some out) (hd : ∀ e, out = .ok e → fits st.nt e.w = true) : StepOk P L g w st o a out := by
  have hx := (rd_rel h hp).1
  have mk : ∀ (v : Value), (convert src dst (a.eval x)).run P w = .ok v w → (execOp a.eval o).run P w = .ok (.value v) w := by
    intro v hr
    simp only [execOp, ho, Sem.run_bind, Result.andThen_ok, hr, Sem.run_pure]
  unfold convK at hk
  split at hk
  · rename_i d k kk n hs ht
    cases hk
    refine step_val h (hd _ rfl) (mk (.int k (k.wrap n)) ?_) (by simp only [PRel]; exact .int _ _) rfl
    rw [hx.d_int]
    unfold convert
    simp only [Sem.run_bind, run_underlying hs, run_underlying ht, Result.andThen_ok]
    cases d <;> rfl
  · rename_i d s hs ht
    cases hk
    refine step_val h (hd _ rfl) (mk (.string s) ?_) (by simp only [PRel]; exact .str _) rfl
    rw [hx.d_str]
    unfold convert
    simp only [Sem.run_bind, run_underlying hs, run_underlying ht, Result.andThen_ok]
    cases d <;> rfl
  · rename_i d kk n hs ht
    cases hk
    refine step_val h (hd _ rfl) (mk (.string (Utf8.encode n)) ?_) (by simp only [PRel]; exact .str _) rfl
    rw [hx.d_int]
    unfold convert
    simp only [Sem.run_bind, run_underlying hs, run_underlying ht, Result.andThen_ok]
    cases d <;> rfl
  · rename_i e hs ht _ _
    split at hk
    · rename_i k l hu hv
      cases hb : byteList (l.map (L.cells k)) with
      | none => simp [hb] at hk
      | some ns =>
        simp only [hb] at hk
        cases hk
        have hr := hx.dv hv
        refine step_val h (hd _ rfl) (mk (.string (strOf ns)) ?_) (by simp only [PRel]; exact .str _) rfl
        rcases load_bytes (P := P) h.mem hb hr with ⟨e1, rfl⟩ | ⟨ad, c, e1, hl⟩
        · rw [e1, run_convert_bytes_string w src dst e none 0 0 hs hu ht]; rfl
        · rw [e1, run_convert_bytes_string w src dst e _ _ _ hs hu ht, run_bytesToString w ad l.length c ns hl]; rfl
    · cases hk
  · cases hk

theorem bound_run (h : Inv L g st a w) {x : Operand} {d n : Int} (hr : boundOr st (some x) d = some n) {y : Nat} {code : BoundsCode} (h0 : 0 ≤ n) (h1 : n ≤ y) :
    (Instr.sliceBound (a.eval x) y code).run P w = .ok n.toNat w := by
  obtain ⟨k, hk⟩ := boundOr_rel h hr
  rw [hk]
  simp [Instr.sliceBound, asIntOf, h0, h1]

theorem cond_some {α : Type} {b : Bool} {x : Option α} {y : α} (h : cond b x none = some y) : b = true ∧ x = some y := by cases b <;> simp_all

theorem sliceBounds_run (h : Inv L g st a w) {lo hi : Option Operand} {len cap : Nat} {l u : Int} (hl : boundOr st lo 0 = some l) (hu : boundOr st hi len = some u)
    (b0 : 0 ≤ l) (b1 : l ≤ u) (b2 : u ≤ cap) (b : Bool) : (Instr.sliceBounds b len cap (lo.map a.eval) (hi.map a.eval) none).run P w = .ok (l.toNat, u.toNat, cap) w := by
  have hcap : (u.toNat : Int) = u := by omega
  cases hi with
  | none =>
    simp [boundOr] at hu; subst hu
    cases lo with
    | none => simp [boundOr] at hl; subst hl; simp [Instr.sliceBounds]
    | some z =>
      have := fun code => bound_run (P := P) h hl (y := len) (code := code) b0 b1
      simp [Instr.sliceBounds, this]
  | some y =>
    have h1 := fun code => bound_run (P := P) h hu (y := cap) (code := code) (by omega) b2
    cases lo with
    | none => simp [boundOr] at hl; subst hl; simp [Instr.sliceBounds, h1]
    | some z =>
      have h2 := fun code => bound_run (P := P) h hl (y := u.toNat) (code := code) b0 (by omega)
      simp [Instr.sliceBounds, h1, h2]

theorem slice_rel {G : Nat → Nat → Option Value} {k : S.K} {l : List (S.El k)} {b o x y m : Nat} (hm : y ≤ m + x)
    (hrel : ∀ (i : Nat) (e : S.El k), l[i]? = some e → ∀ (j : Nat) (d : DV S), (L.cells k e)[j]? = some d → ∃ u, G b (o + i * L.sz k + j) = some u ∧ DRel L G d u) (h1 : x ≤ y) (h2 : y ≤ l.length) :
    DRel L G (.sl k ((l.take y).drop x)) (.slice (some ⟨b, o + x * L.sz k, none⟩) (y - x) m) := by
  have hl : ((l.take y).drop x).length = y - x := by simp; omega
  rw [← hl]
  refine DRel.sl_mk (by rw [hl]; omega) fun i e he j d hd => ?_
  have hi : x + i < y := by have := (List.getElem?_eq_some_iff.1 he).1; simp at this; omega
  simp only [List.getElem?_drop, List.getElem?_take, hi, if_true] at he
  obtain ⟨u, hu, hr⟩ := hrel (x + i) e he j d hd
  refine ⟨u, ?_, hr⟩
  rw [← hu]; congr 1; rw [Nat.add_mul]; omega

theorem add_eq (b o j : Nat) : (⟨b, o, none⟩ : Addr).add j = ⟨b, o + j, none⟩ := add_mk b o j

theorem step_slice (h : Inv L g st a w) {o : Oper} {t : TypeId} {x : Operand} {lo hi mx : Option Operand} (ho : o.op = .slice t x lo hi mx) {p : PV S} (hp : rd P L st t x = some p)
    {out : Out S} (hk : sliceK P L o st t p lo hi mx some = some out) (hd : ∀ e, out = .ok e → fits st.nt e.w = true) : StepOk P L g w st o a out := by
  have hx := (rd_rel h hp).1
  have mk : ∀ (v : Value), (Instr.sliceAt t (a.eval x) (lo.map a.eval) (hi.map a.eval) (mx.map a.eval)).run P w = .ok v w → (execOp a.eval o).run P w = .ok (.value v) w := by
    intro v hr
    simp only [execOp, ho, Sem.run_bind, Result.andThen_ok, hr, Sem.run_pure]
  unfold sliceK at hk
  split at hk
  · rename_i s hu hv
    have hs := hx.dv hv
    split at hk
    · rename_i l u hl hu'
      obtain ⟨hb, hk⟩ := cond_some hk
      cases hk
      simp only [Bool.and_eq_true, decide_eq_true_eq] at hb
      obtain ⟨b0, b1, b2⟩ := hb
      refine step_val h (hd _ rfl) (mk (.string (s.extract l.toNat u.toNat)) ?_) (by simp only [PRel]; exact .str _) rfl
      have ex : a.eval x = .string s := by generalize a.eval x = v at hs; cases hs; rfl
      unfold Instr.sliceAt
      rw [Sem.run_bind, run_underlying hu]
      simp only [Result.andThen_ok, Option.map_none]
      unfold Instr.slice
      rw [Sem.run_bind, run_underlying hu]
      simp [ex, sliceBounds_run (P := P) h hl hu' b0 b1 b2]
    · cases hk
  · rename_i e k l hu hv
    have hs := hx.dv hv
    split at hk
    · rename_i hmx
      split at hk
      · rename_i sz hsz
        split at hk
        · rename_i heq
          split at hk
          · rename_i lo' hi' hl hh
            obtain ⟨hb, hk⟩ := cond_some hk
            cases hk
            simp only [Bool.and_eq_true, decide_eq_true_eq] at hb
            obtain ⟨b0, b1, b2⟩ := hb
            rcases hs.sl_inv with ⟨rfl, ex⟩ | ⟨rfl, ad, c, ex⟩ | ⟨b, q, c, ex, hc, hrel⟩
            · simp at b2
              have e1 : lo' = 0 := by omega
              have e2 : hi' = 0 := by omega
              subst e1; subst e2
              refine step_val h (hd _ rfl) (mk (.slice none 0 0) ?_) (by simp only [PRel]; exact .nil _) rfl
              unfold Instr.sliceAt
              rw [Sem.run_bind, run_underlying hu]
              simp only [Result.andThen_ok, Option.map_none]
              unfold Instr.slice
              rw [Sem.run_bind, run_underlying hu]
              have := fun z => sliceBounds_run (P := P) h (len := 0) (cap := 0) hl hh b0 b1 (by omega) z
              simp at this
              simp [ex, this, run_sizeOf hsz]
            · simp at b2
              have e1 : lo' = 0 := by omega
              have e2 : hi' = 0 := by omega
              subst e1; subst e2
              refine step_val h (hd _ rfl) (mk (.slice (some ad) 0 c) ?_) (by simp only [PRel]; exact .emp _ ad c) rfl
              unfold Instr.sliceAt
              rw [Sem.run_bind, run_underlying hu]
              simp only [Result.andThen_ok, Option.map_none]
              unfold Instr.slice
              rw [Sem.run_bind, run_underlying hu]
              have := fun z => sliceBounds_run (P := P) h (len := 0) (cap := c) hl hh b0 b1 (by omega) z
              simp at this
              simp [ex, this, run_sizeOf hsz, Addr.add]
            · refine step_val h (hd _ rfl) (mk (.slice (some ⟨b, if c = lo'.toNat then q else q + lo'.toNat * sz, none⟩) (hi'.toNat - lo'.toNat) (c - lo'.toNat)) ?_) ?_ rfl
              · unfold Instr.sliceAt
                rw [Sem.run_bind, run_underlying hu]
                simp only [Result.andThen_ok, Option.map_none]
                unfold Instr.slice
                rw [Sem.run_bind, run_underlying hu]
                have := fun z => sliceBounds_run (P := P) h (len := l.length) (cap := c) hl hh b0 b1 (by omega) z
                simp [ex, this, run_sizeOf hsz, add_mk]
                split <;> rfl
              · simp only [PRel]
                rw [heq]
                by_cases hcl : c = lo'.toNat
                · rw [if_pos hcl]
                  have e1 : hi'.toNat - lo'.toNat = 0 := by omega
                  have e2 : (l.take hi'.toNat).drop lo'.toNat = [] := by
                    apply List.drop_eq_nil_of_le; simp; omega
                  rw [e1, e2]
                  exact DRel.sl_mk (l := []) (by simp) (by simp)
                · rw [if_neg hcl]
                  exact slice_rel (by omega) hrel (by omega) (by omega)
          · cases hk
        · cases hk
      · cases hk
    · split at hk
      · rename_i k1 _ _ _ k2 sz hsz
        have hb : ∀ (len cap : Nat) (b : Bool), (Instr.sliceBounds b len cap none (some (.int k2 0)) (some (.int k1 0))).run P w = .ok (0, 0, 0) w := by
          intro len cap b
          cases b <;> simp [Instr.sliceBounds, Instr.sliceBound, asIntOf]
        have ec : ∀ v, a.eval (.const v) = v := fun _ => rfl
        obtain ⟨hmade, hk⟩ := cond_some hk
        cases hk
        have hpl : Plain (a.eval x) := by
          cases p <;> simp only [PV.made, Bool.false_eq_true] at hmade
          · simp only [PRel] at hx; exact hx.2.2
          · simp only [PRel] at hx; exact hx.2
        rcases hs.sl_plain hpl with ⟨_, ex⟩ | ⟨b, q, c, ex, hc, hrel⟩
        · refine step_val h (hd _ rfl) (mk (.slice none 0 0) ?_) (by simp only [PRel]; exact ⟨.nil _, by intro a n c e; cases e; rfl, Plain.nil⟩) rfl
          unfold Instr.sliceAt
          rw [Sem.run_bind, run_underlying hu]
          simp only [Result.andThen_ok, Option.map_none]
          unfold Instr.slice
          rw [Sem.run_bind, run_underlying hu]
          simp [ex, ec, hb, run_sizeOf hsz]
        · refine step_val h (hd _ rfl) (mk (.slice (some ⟨b, q, none⟩) 0 0) ?_) (by simp only [PRel]; exact ⟨DRel.sl_mk (l := []) (by simp) (by simp), by intro a n c e; cases e; rfl, Plain.mk b q 0 0⟩) rfl
          unfold Instr.sliceAt
          rw [Sem.run_bind, run_underlying hu]
          simp only [Result.andThen_ok, Option.map_none]
          unfold Instr.slice
          rw [Sem.run_bind, run_underlying hu]
          simp [ex, ec, hb, run_sizeOf hsz]
      · cases hk
    · cases hk
  · cases hk

theorem rdEl_get {k : S.K} {l : List (S.El k)} {n : Int} (h0 : 0 ≤ n) (h1 : n < (l.length : Int)) : l[n.toNat]? = some (rdEl L k l n) := by
  have : n.toNat < l.length := by omega
  simp [rdEl, List.getElem?_eq_getElem this]

theorem step_indexAddr (h : Inv L g st a w) {o : Oper} {t : TypeId} {x i : Operand} (ho : o.op = .indexAddr t x i) {e : TypeId} (hu : P.underlying t = some (.slice e)) {k : S.K} {l : List (S.El k)}
    {p : PV S} (hp : rd P L st t x = some p) (hv : p.dv? = some (.sl k l)) {n : Int} (hn : boundOr st (some i) 0 = some n) (hs : szT P e = some (L.sz k)) (h0 : 0 ≤ n) (h1 : n < (l.length : Int))
    (hd : fits st.nt (wr o.dst (.dp k (rdEl L k l n) 0)) = true) : StepOk P L g w st o a (val o (.dp k (rdEl L k l n) 0)) := by
  have hx := (rd_rel h hp).1.dv hv
  obtain ⟨kk, hi⟩ := boundOr_rel h hn
  have hlen : n.toNat < l.length := by omega
  rcases hx.sl_inv with ⟨rfl, _⟩ | ⟨rfl, _⟩ | ⟨b, q, c, ex, hc, hrel⟩
  · simp at hlen
  · simp at hlen
  · refine step_val h hd (v := .pointer (some ⟨b, q + n.toNat * L.sz k, none⟩)) ?_ ?_ rfl
    · have : (Instr.indexAt t (.slice (some ⟨b, q, none⟩) l.length c) (.int kk n)).run P w = .ok (.pointer (some ⟨b, q + n.toNat * L.sz k, none⟩)) w := by
        unfold Instr.indexAt
        simp [asIntOf, run_underlying hu, h0, h1, run_sizeOf hs, add_mk]
      simp [execOp, ho, ex, hi, this]
    · simp only [PRel]
      exact ⟨b, q + n.toNat * L.sz k, by simp, fun j d hd => hrel _ _ (rdEl_get h0 h1) j d hd⟩

theorem step_index (h : Inv L g st a w) {o : Oper} {t : TypeId} {x i : Operand} (ho : o.op = .index t x i) (hu : P.underlying t = some .string) {s : ByteArray}
    (hp : rd P L st t x = some (.d (.str s))) {n : Int} (hn : boundOr st (some i) 0 = some n) (h0 : 0 ≤ n) (h1 : n < (s.size : Int))
    (hd : fits st.nt (wr o.dst (.d (.int .u8 (bt s n)) : PV S)) = true) : StepOk P L g w st o a (val o (.d (.int .u8 (bt s n)))) := by
  have ex := (rd_rel h hp).1.d_str
  obtain ⟨kk, hi⟩ := boundOr_rel h hn
  have hlen : n.toNat < s.size := by omega
  refine step_val h hd (v := .int .u8 (bt s n)) ?_ (by simp only [PRel]; exact .int _ _) rfl
  have : (Instr.index t (.string s) (.int kk n)).run P w = .ok (.int .u8 (bt s n)) w := by
    unfold Instr.index
    have hg : s[n.toNat]? = some (s.data.toList.getD n.toNat 0) := by
      have hd : n.toNat < s.data.toList.length := by simpa using hlen
      rw [List.getD_eq_getElem?_getD, List.getElem?_eq_getElem hd]
      simp [hlen]
      rfl
    simp [asIntOf, run_underlying hu, h0, hg, bt]
  simp [execOp, ho, ex, hi, this]

theorem step_typeAssert_yes (h : Inv L g st a w) {o : Oper} {x : Operand} {t ty : TypeId} (ho : o.op = .typeAssert x t ty true) {d : TypeDesc} (hu : P.underlying ty = some d) (hi : ∀ ms, d ≠ .interface ms)
    {p : PV S} (hp : rd P L st 0 x = some (.iface ty p)) (hd : fits st.nt (wr o.dst (.tup [p, .d (.bool true)])) = true) : StepOk P L g w st o a (val o (.tup [p, .d (.bool true)])) := by
  have hx := (rd_rel h hp).1
  simp only [PRel] at hx
  obtain ⟨u, ex, hr⟩ := hx
  refine step_val h hd (v := .tuple #[u, .bool true]) ?_ (by simp only [PRel, PRels]; exact ⟨[u, .bool true], rfl, hr, .bool _, trivial⟩) rfl
  have : (Instr.typeAssert (.iface ty u) t ty true).run P w = .ok (.tuple #[u, .bool true]) w := by
    unfold Instr.typeAssert
    rw [Sem.run_bind, run_underlying hu]
    simp only [Result.andThen_ok]
    cases d <;> first | (simp; done) | exact absurd rfl (hi _)
  simp [execOp, ho, ex, this]

theorem zero_value {t : TypeId} {p : PV S} (hz : zeroPV P L t = some p) (G : Nat → Nat → Option Value) (β : Nat → Option Nat) :
    ∃ v, (∀ w, (zeroValue t).run P w = .ok v w) ∧ PRel L β G p v := by
  unfold zeroPV at hz
  split at hz
  · rename_i z hi
    refine ⟨z, fun w => ?_, (constAt_rel hz).1⟩
    cases h : P.info? t with
    | none => simp [h] at hi
    | some i => simp [h] at hi; simp [zeroValue, typeInfo, h, hi]
  · cases hz

theorem step_typeAssert_no (h : Inv L g st a w) {o : Oper} {x : Operand} {t ty : TypeId} (ho : o.op = .typeAssert x t ty true) {d : TypeDesc} (hu : P.underlying ty = some d) (hi : ∀ ms, d ≠ .interface ms)
    {p : PV S} (hp : rd P L st 0 x = some p) (hno : p = .nilif ∨ ∃ t' q, p = .iface t' q ∧ t' ≠ ty) {q : PV S} (hz : zeroPV P L ty = some q)
    (hd : fits st.nt (wr o.dst (.tup [q, .d (.bool false)])) = true) : StepOk P L g w st o a (val o (.tup [q, .d (.bool false)])) := by
  have hx := (rd_rel h hp).1
  obtain ⟨v, hv, hr⟩ := zero_value hz g.G g.β
  refine step_val h hd (v := .tuple #[v, .bool false]) ?_ (by simp only [PRel, PRels]; exact ⟨[v, .bool false], rfl, hr, .bool _, trivial⟩) rfl
  have : (Instr.typeAssert (a.eval x) t ty true).run P w = .ok (.tuple #[v, .bool false]) w := by
    rcases hno with rfl | ⟨t', q', rfl, hne⟩ <;> simp only [PRel] at hx
    · rw [hx]
      unfold Instr.typeAssert
      rw [Sem.run_bind, run_underlying hu]
      simp only [Result.andThen_ok]
      cases d <;> first | (simp [hv]; done) | exact absurd rfl (hi _)
    · obtain ⟨u, ex, _⟩ := hx
      rw [ex]
      unfold Instr.typeAssert
      rw [Sem.run_bind, run_underlying hu]
      simp only [Result.andThen_ok]
      cases d <;> first | (simp [hv, hne]; done) | exact absurd rfl (hi _)
  simp [execOp, ho, this]

theorem step_len (h : Inv L g st a w) {o : Oper} {c : Call} (ho : o.op = .call c) (hc : c.callee = .builtin .len) {t : TypeId} {x : Operand} (ht : c.argTypes.toList = [t]) (hx : c.args.toList = [x])
    {p : PV S} (hp : rd P L st t x = some p) {n : Nat} (hn : (∃ e k l, P.underlying t = some (.slice e) ∧ p.dv? = some (.sl k l) ∧ n = l.length) ∨ (∃ s, P.underlying t = some .string ∧ p.dv? = some (.str s) ∧ n = s.size))
    (hd : fits st.nt (wr o.dst (.d (.int .i64 n) : PV S)) = true) : StepOk P L g w st o a (val o (.d (.int .i64 n))) := by
  have hr := (rd_rel h hp).1
  have ht' : c.argTypes = #[t] := by apply Array.ext'; simpa using ht
  have hx' : c.args = #[x] := by apply Array.ext'; simpa using hx
  refine step_val h hd (v := .int .i64 n) ?_ (by simp only [PRel]; exact .int _ _) rfl
  have : (Builtin.len_ #[t] o.type #[a.eval x]).run P w = .ok (.int .i64 n) w := by
    rcases hn with ⟨e, k, l, hu, hv, rfl⟩ | ⟨s, hu, hv, rfl⟩
    · have hs := hr.dv hv
      rcases hs.sl_inv with ⟨rfl, ex⟩ | ⟨rfl, ad, c, ex⟩ | ⟨b, q, c, ex, _, _⟩ <;> simp [Builtin.len_, run_underlying hu, ex, goInt]
    · have hs := hr.dv hv
      have ex : a.eval x = .string s := by generalize a.eval x = v at hs; cases hs; rfl
      simp [Builtin.len_, run_underlying hu, ex, goInt]
  simp [execOp, ho, resolve, hc, ht', hx', invoke, builtin, this]

theorem step_min (h : Inv L g st a w) {o : Oper} {c : Call} (ho : o.op = .call c) (hc : c.callee = .builtin .min) {t u : TypeId} {x y : Operand} (hx : c.args.toList = [x, y])
    {k k' : IntKind} {m n : Int} (hp : rd P L st t x = some (.d (.int k m))) (hq : rd P L st u y = some (.d (.int k' n)))
    (hd : fits st.nt (wr o.dst (.d (.int k (min2 m n)) : PV S)) = true) : StepOk P L g w st o a (val o (.d (.int k (min2 m n)))) := by
  have e1 := (rd_rel h hp).1.d_int
  have e2 := (rd_rel h hq).1.d_int
  have hx' : c.args = #[x, y] := by apply Array.ext'; simpa using hx
  refine step_val h hd (v := .int k (min2 m n)) ?_ (by simp only [PRel]; exact .int _ _) rfl
  simp [execOp, ho, resolve, hc, hx', invoke, builtin, Builtin.min_, e1, e2, Builtin.min2, min2]

end
end Go.Proofs.YtanfoijdfcnpoaaGreatDoor.Ev

set_option linter.unusedVariables false
set_option linter.unusedSimpArgs false
namespace Go.Proofs.YtanfoijdfcnpoaaGreatDoor.Ev

section
variable {S : Sig} {P : Program} {L : Lay S} {g : Gh} {st : St S} {a : Act} {w w' : World}

theorem plain_strip (p : PV S) : p.strip.plain = p.plain := by cases p <;> rfl
theorem plain_norm1 (p : PV S) : p.norm1.plain = p.plain := by cases p <;> rfl
theorem plain_ren (f : Nat → Nat) (p : PV S) : (p.ren f).plain = p.plain := by cases p <;> rfl
theorem plain_of_one {p : PV S} (h : p.one = true) : p.plain = true := by cases p <;> first | rfl | cases h
theorem noMap_mem {ps : List (PV S)} : noMap ps = true ↔ ∀ p ∈ ps, p.plain = true := by simp [noMap, List.all_eq_true]
theorem noMap_map {f : PV S → PV S} (hf : ∀ p, (f p).plain = p.plain) (ps : List (PV S)) : noMap (ps.map f) = noMap ps := by
  induction ps with
  | nil => rfl
  | cons p r ih => simp only [noMap, List.map_cons, List.all_cons, hf] at ih ⊢; rw [ih]
theorem noMap_one {ps : List (PV S)} (h : ps.all PV.one = true) : noMap ps = true := by
  rw [noMap_mem]; rw [List.all_eq_true] at h
  exact fun p hp => plain_of_one (h p hp)
theorem noMap_putAt {cs vs : List (PV S)} {o : Nat} (h1 : noMap cs = true) (h2 : noMap vs = true) : noMap (putAt cs o vs) = true := by
  rw [noMap_mem] at h1 h2 ⊢
  intro p hp
  simp only [putAt, List.mem_append] at hp
  rcases hp with (hp | hp) | hp
  · exact h1 p (List.mem_of_mem_take hp)
  · exact h2 p hp
  · exact h1 p (List.mem_of_mem_drop hp)
theorem noMap_toCells {p : PV S} (h : p.cells.all PV.one = true) : noMap p.toCells = true := by
  cases p <;> simp only [PV.cells, PV.toCells] at h ⊢
  case agg l => rw [noMap_map plain_strip]; exact noMap_one h
  all_goals exact noMap_one h
theorem noMap_get {ps : List (PV S)} {j : Nat} {p : PV S} (h : noMap ps = true) (hp : ps[j]? = some p) : p.plain = true := noMap_mem.1 h p (List.mem_of_getElem? hp)

theorem heap_lt {w : World} {b : Nat} {o : Obj} (h : w.heap[b]? = some o) : b < w.heap.size := (Array.getElem?_eq_some_iff.1 h).1

theorem MemInv.β_lt {m : Mem S} (h : MemInv L g m w) {c b : Nat} (hc : g.β c = some b) : b < w.heap.size := by
  obtain ⟨ps, hps⟩ := h.dom c b hc
  obtain ⟨b', vs, ty, h1, h2, _⟩ := h.cell c ps hps
  rw [hc] at h1; cases h1
  exact heap_lt h2

theorem MemInv.G_lt {m : Mem S} (h : MemInv L g m w) {b o : Nat} {v : Value} (hc : g.G b o = some v) : b < w.heap.size :=
  World.block_lt_of_cell? w ⟨b, o, none⟩ (h.gs b o v hc)

theorem MemInv.ω_lt {m : Mem S} (h : MemInv L g m w) {b : Nat} {r : Rt} (hc : g.ω b = some r) : b < w.heap.size := by
  obtain ⟨_, ⟨cs, ty, h2, _⟩, _⟩ := h.rt b r hc
  exact heap_lt h2

theorem MemInv.of_heap {m : Mem S} (h : MemInv L g m w) (hh : ∀ b, b < w.heap.size → w'.heap[b]? = w.heap[b]?) : MemInv L g m w' where
  cell c ps hc := by
    obtain ⟨b, vs, ty, h1, h2, h3, h4⟩ := h.cell c ps hc
    exact ⟨b, vs, ty, h1, (hh b (heap_lt h2)).trans h2, h3, h4⟩
  dom := h.dom
  inj := h.inj
  βG := h.βG
  gs b o v hv := by
    have h1 := h.gs b o v hv
    rw [← h1]
    simp only [World.cell?, hh b (h.G_lt hv)]
  wok := h.wok_sub (fun c b hb => .inl ⟨c, hb⟩) (fun _ _ _ h => h) (fun b o _ _ hb => (hh b (Array.getElem?_eq_some_iff.1 hb).1).trans hb)
  rt b r hr := by
    obtain ⟨h1, ⟨cs, ty, h2, h3⟩, h4⟩ := h.rt b r hr
    exact ⟨h1, ⟨cs, ty, (hh b (heap_lt h2)).trans h2, h3⟩, h4⟩

theorem alloc_heap (w : World) (o : Obj) (b : Nat) (h : b < w.heap.size) : (w.alloc o).heap[b]? = w.heap[b]? := heap_alloc_old w o b h

/-- A new block whose cells never turn. -/
def Gh.addG (g : Gh) (N : Nat) (vs : List Value) : Gh := { g with G := fun b o => if b = N then vs[o]? else g.G b o }

theorem MemInv.addG {m : Mem S} (h : MemInv L g m w) {vs : List Value} {xs : Array Value} {e : TypeId} (hx : ∀ (o : Nat) (v : Value), vs[o]? = some v → xs[o]? = some v) :
    MemInv L (g.addG w.heap.size vs) m (w.alloc (.cells xs e)) where
  cell c ps hc := by
    obtain ⟨b, vs', ty, h1, h2, h3, h4⟩ := h.cell c ps hc
    refine ⟨b, vs', ty, h1, (alloc_heap w _ b (heap_lt h2)).trans h2, h3, fun j p hp => ?_⟩
    obtain ⟨v, hv, hr, ho⟩ := h4 j p hp
    refine ⟨v, hv, hr.mono (fun b o v hv => ?_) (fun _ _ h => h), ho⟩
    show (if b = w.heap.size then _ else g.G b o) = some v
    rw [if_neg (Nat.ne_of_lt (h.G_lt hv))]; exact hv
  dom := h.dom
  inj := h.inj
  βG c b hc o := by
    show (if b = w.heap.size then _ else g.G b o) = none
    rw [if_neg (Nat.ne_of_lt (h.β_lt hc))]; exact h.βG c b hc o
  gs b o v hv := by
    change (if b = w.heap.size then vs[o]? else g.G b o) = some v at hv
    split at hv
    · rename_i hb; subst hb
      rw [World.cell?_alloc_new]; exact hx o v hv
    · rw [World.cell?_alloc_lt w _ _ (h.G_lt hv)]; exact h.gs b o v hv
  wok := h.wok_sub (fun c b hb => .inl ⟨c, hb⟩) (fun _ _ _ h => h) (fun b o _ _ hb => (alloc_heap w _ b (Array.getElem?_eq_some_iff.1 hb).1).trans hb)
  rt b r hr := by
    obtain ⟨h1, ⟨cs, ty, h2, h3⟩, h4⟩ := h.rt b r hr
    refine ⟨h1, ⟨cs, ty, (alloc_heap w _ b (heap_lt h2)).trans h2, h3⟩, fun o ho => ?_⟩
    show (if b = w.heap.size then _ else g.G b o) = none
    rw [if_neg (Nat.ne_of_lt (heap_lt h2))]; exact h4 o ho

theorem MemInv.G_mono {m : Mem S} (h : MemInv L g m w) {vs : List Value} : ∀ b o v, g.G b o = some v → (g.addG w.heap.size vs).G b o = some v := by
  intro b o v hv
  show (if b = w.heap.size then _ else g.G b o) = some v
  rw [if_neg (Nat.ne_of_lt (h.G_lt hv))]; exact hv

theorem Fr.addG {m : Mem S} (h : MemInv L g m w) {vs : List Value} {o : Obj} : Fr g w (g.addG w.heap.size vs) (w.alloc o) :=
  ⟨rfl, rfl, rfl, by simp, fun b hb _ hω => ⟨alloc_heap w _ b hb, fun o => by show (if b = w.heap.size then _ else g.G b o) = _; rw [if_neg (Nat.ne_of_lt hb)], hω⟩,
    h.G_mono, fun _ _ h => h, fun _ _ h => .inl h⟩

theorem Inv.of_mono {g' : Gh} (h : Inv L g st a w) (hG : ∀ b o v, g.G b o = some v → g'.G b o = some v) (hβ : ∀ c b, g.β c = some b → g'.β c = some b)
    (hω : ∀ i p v, SRel L g (.slot i) p v → OwnOk L g'.ω (.slot i) p v) {m' : Mem S} (hm : MemInv L g' m' w') : Inv L g' { st with mem := m' } a w' where
  size := h.size
  slot i := ⟨(h.slot i).1.mono hG hβ, hω i _ _ (h.slot i)⟩
  mem := hm
  dfs := h.dfs.mono hG hβ

/-! ### Moves -/

/-- What an operand bears goes to a slot. -/
theorem Inv.moveTo (h : Inv L g st a w) {x : Operand} {t : TypeId} {p : PV S} (hp : rdRaw P L st t x = some p) {d : Nat} (hd : d < st.nt) :
    ∃ g', Inv L g' { st with slots := updL st.slots (took st x ++ wr (some d) p) } (a.put (some d) (a.eval x)) w ∧ Fr g w g' w := by
  obtain ⟨h1, h2, h3⟩ := rdRaw_rel h hp
  cases x with
  | tmp i =>
    obtain ⟨hpi, hs⟩ := h2 i rfl
    subst hpi
    refine ⟨g.mv (.slot i) (.slot d), ?_, Fr.mv g w _ _⟩
    simp only [took, wr, List.singleton_append, updL]
    refine ⟨?_, ?_, h.mem.mv, ?_⟩
    · rw [size_put]; exact h.size
    · intro j
      rw [getD_put (by rw [h.size]; exact hd)]
      by_cases hj : j = d
      · subst hj; simp only [upd_same, if_true]
        exact ⟨hs.1, hs.2.mv_self⟩
      · simp only [hj, if_false]
        rw [upd_other _ _ hj]
        by_cases hji : j = i
        · subst hji; simp only [upd_same]; exact ⟨(h.slot j).1.strip, OwnOk.of_strip _ _⟩
        · rw [upd_other _ _ hji]; exact (h.slot j).mv_other (by simpa using hji)
    · rw [defers_put]; exact h.dfs
  | const v =>
    refine ⟨g, ?_, Fr.refl g w⟩
    simp only [took, wr, List.nil_append, updL]
    exact h.put hd h1 (h3 (by simp) _ _)
  | func f =>
    refine ⟨g, ?_, Fr.refl g w⟩
    simp only [took, wr, List.nil_append, updL]
    exact h.put hd h1 (h3 (by simp) _ _)
  | global q => simp [rdRaw] at hp

theorem Inv.giveUp (h : Inv L g st a w) (x : Operand) : ∃ g', Inv L g' { st with slots := updL st.slots (took st x) } a w ∧ Fr g w g' w := by
  cases x with
  | tmp i =>
    refine ⟨_, ?_, Fr.mv g w (.slot i) .res⟩
    simp only [took, updL]
    exact h.take i .res (by simp)
  | _ => exact ⟨g, h, Fr.refl g w⟩

theorem apply_w (ws : List (Nat × PV S)) (st : St S) : ({ w := ws } : Eff S).apply st = { st with slots := updL st.slots ws } := by simp [Eff.apply, setL]

theorem fits_app {nt : Nat} {x y : List (Nat × PV S)} (h : fits nt (x ++ y) = true) : fits nt x = true ∧ fits nt y = true := by
  induction x with
  | nil => exact ⟨rfl, h⟩
  | cons p r ih =>
    obtain ⟨i, q⟩ := p
    simp only [List.cons_append, fits, Bool.and_eq_true] at h ⊢
    exact ⟨⟨h.1, (ih h.2).1⟩, (ih h.2).2⟩

theorem step_take (h : Inv L g st a w) {o : Oper} {x : Operand} (hrun : (execOp a.eval o).run P w = .ok (.value (a.eval x)) w) {t : TypeId} {p : PV S} (hr : rdRaw P L st t x = some p)
    (hd : fits st.nt (took st x ++ wr o.dst p) = true) : StepOk P L g w st o a (.ok { w := took st x ++ wr o.dst p }) := by
  intro K Q hK
  unfold Oper.wp
  rw [hrun, Oper.upon_value]
  cases hdst : o.dst with
  | none =>
    rw [hdst] at hK
    obtain ⟨g', hi, hf⟩ := h.giveUp x
    refine hK _ _ g' ?_ hf
    rw [apply_w]
    simp only [wr, List.append_nil]
    exact hi
  | some d =>
    rw [hdst] at hd hK
    obtain ⟨g', hi, hf⟩ := h.moveTo hr (fits_wr (dst := some d) (p := p) (fits_app hd).2 d rfl)
    refine hK _ _ g' ?_ hf
    rw [apply_w]
    exact hi

theorem step_assign (h : Inv L g st a w) {o : Oper} {x : Operand} (ho : o.op = .assign x) {p : PV S} (hr : rdRaw P L st o.type x = some p)
    (hd : fits st.nt (took st x ++ wr o.dst p) = true) : StepOk P L g w st o a (.ok { w := took st x ++ wr o.dst p }) :=
  step_take h (by simp [execOp, ho]) hr hd

theorem step_move_take (h : Inv L g st a w) {o : Oper} {x : Operand} (ho : o.op = .move x) {p : PV S} (hr : rdRaw P L st o.type x = some p)
    (hd : fits st.nt (took st x ++ wr o.dst p) = true) : StepOk P L g w st o a (.ok { w := took st x ++ wr o.dst p }) :=
  step_take h (by simp [execOp, ho]) hr hd

/-! ### Cells -/

theorem cellAt_set {m : Mem S} {c c' : Nat} {v : List (PV S)} (hc : c < m.length) : cellAt (m.set c (some v)) c' = if c' = c then some v else cellAt m c' := by
  unfold cellAt
  by_cases h : c' = c
  · subst h; simp [hc]
  · simp [h, List.getElem?_set, Ne.symm h]

theorem cellAt_lt {m : Mem S} {c : Nat} {v : List (PV S)} (h : cellAt m c = some v) : c < m.length := by
  unfold cellAt at h
  split at h
  · rename_i heq; exact (List.getElem?_eq_some_iff.1 heq).1
  · cases h

/-- A cell's contents are replaced, in the model and in the evaluator. -/
theorem MemInv.setCell {m : Mem S} (h : MemInv L g m w) {g' : Gh} (hβ : g'.β = g.β) (hG : g'.G = g.G) {c b : Nat} {ps ps' : List (PV S)} {vs vs' : Array Value} {ty : TypeId}
    (hc : cellAt m c = some ps) (hb : g.β c = some b) (hg : w.heap[b]? = some (.cells vs ty (0, 0))) (hl : vs'.size = ps'.length) (hnm : noMap ps' = true)
    (hself : ∀ j p, ps'[j]? = some p → ∃ v, vs'[j]? = some v ∧ SRel L g' (.cell c j) p v)
    (hother : ∀ c' j p v, c' ≠ c → SRel L g (.cell c' j) p v → SRel L g' (.cell c' j) p v)
    (hω : ∀ b' r, g'.ω b' = some r → ∃ r', g.ω b' = some r' ∧ r.e = r'.e ∧ r.top = r'.top) :
    MemInv L g' (m.set c (some ps')) (w.setRow b vs') where
  cell c' qs hqs := by
    rw [cellAt_set (cellAt_lt hc)] at hqs
    split at hqs
    · rename_i e; subst e; cases hqs
      exact ⟨b, vs', .cells ty hnm, by rw [hβ]; exact hb, setRow_heap w b vs vs' ty (0, 0) hg, hl, hself⟩
    · rename_i hne
      obtain ⟨b', vs2, ty2, h1, h2, h3, h4⟩ := h.cell c' qs hqs
      have hbb : b' ≠ b := fun e => hne (h.inj c' c b (e ▸ h1) hb)
      refine ⟨b', vs2, ty2, by rw [hβ]; exact h1, (setRow_other w b b' vs' hbb).trans h2, h3, fun j p hp => ?_⟩
      obtain ⟨v, hv, hr⟩ := h4 j p hp
      exact ⟨v, hv, hother c' j p v hne hr⟩
  dom c' b' hb' := by
    rw [hβ] at hb'
    rw [cellAt_set (cellAt_lt hc)]
    split
    · exact ⟨_, rfl⟩
    · exact h.dom c' b' hb'
  inj c1 c2 b' h1 h2 := by rw [hβ] at h1 h2; exact h.inj c1 c2 b' h1 h2
  βG c' b' hb' o := by rw [hG]; rw [hβ] at hb'; exact h.βG c' b' hb' o
  gs b' o v hv := by
    rw [hG] at hv
    have hbb : b' ≠ b := fun e => by have := h.βG c b hb o; rw [← e, hv] at this; cases this
    rw [cell_setRow_other w b vs' ⟨b', o, none⟩ hbb]
    exact h.gs b' o v hv
  wok := h.wok_sub (fun c b hb => .inl ⟨c, by rw [hβ] at hb; exact hb⟩)
    (fun b' _ _ hb => by
      cases hb' : g'.ω b' with
      | none => rfl
      | some r => obtain ⟨r', h1, _⟩ := hω b' r hb'; rw [hb] at h1; cases h1)
    (fun b' o hβ' _ hb' => (setRow_other w b b' vs' (fun e => hβ' c (e ▸ hb))).trans hb')
  rt b' r hr := by
    obtain ⟨r', hr', he, ht⟩ := hω b' r hr
    obtain ⟨h1, ⟨cs, ty', h2, h3⟩, h4⟩ := h.rt b' r' hr'
    have hbb : b' ≠ b := fun e => h1 c (e ▸ hb)
    refine ⟨by rw [hβ]; exact h1, ⟨cs, ty', (setRow_other w b b' vs' hbb).trans h2, by rw [ht]; exact h3⟩, fun o ho => ?_⟩
    rw [hG]; exact h4 o (he ▸ ho)

theorem Fr.setRow {m : Mem S} (h : MemInv L g m w) {g' : Gh} (hβ : g'.β = g.β) (hG : g'.G = g.G) (hω : ∀ b, g.ω b = none → g'.ω b = none) {c b : Nat} (hb : g.β c = some b) (vs : Array Value) :
    Fr g w g' (w.setRow b vs) :=
  ⟨rfl, rfl, rfl, by simp, fun b' hb' hβ' hω' => ⟨setRow_other w b b' vs (fun e => hβ' c (e ▸ hb)), fun o => by rw [hG], hω b' hω'⟩,
    fun b o v hv => by rw [hG]; exact hv, fun c b hb => by rw [hβ]; exact hb, fun c b hb => .inl (by rw [← hβ]; exact hb)⟩

end
end Go.Proofs.YtanfoijdfcnpoaaGreatDoor.Ev

set_option linter.unusedVariables false
set_option linter.unusedSimpArgs false
namespace Go.Proofs.YtanfoijdfcnpoaaGreatDoor.Ev

section
variable {S : Sig} {P : Program} {L : Lay S} {g : Gh} {st : St S} {a : Act} {w w' : World}

theorem one_rel {β : Nat → Option Nat} {G : Nat → Nat → Option Value} {p : PV S} {v : Value} (h : PRel L β G p v) (h1 : p.one = true) : v.oneCell' = true := by
  cases p <;> simp [PV.one] at h1 <;> simp only [PRel] at h
  all_goals first
    | (cases h <;> rfl)
    | (obtain ⟨h, _⟩ := h; cases h <;> rfl)
    | (obtain ⟨_, _, rfl⟩ := h; rfl)
    | (obtain ⟨_, _, rfl, _⟩ := h; rfl)
    | (obtain ⟨_, rfl, _⟩ := h; rfl)
    | (subst h; rfl)

theorem ones_rel {β : Nat → Option Nat} {G : Nat → Nat → Option Value} : ∀ {ps : List (PV S)} {vs : List Value}, PRels L β G ps vs → ps.all PV.one = true → ∀ v ∈ vs, v.oneCell' = true
  | [], [], _, _ => by simp
  | p :: ps, v :: vs, h, h1 => by
    simp only [PRels] at h
    simp only [List.all_cons, Bool.and_eq_true] at h1
    intro u hu
    simp at hu
    rcases hu with rfl | hu
    · exact one_rel h.1 h1.1
    · exact ones_rel h.2 h1.2 u hu
  | [], _ :: _, h, _ => by simp only [PRels] at h
  | _ :: _, [], h, _ => by simp only [PRels] at h

theorem cells_of_one {β : Nat → Option Nat} {G : Nat → Nat → Option Value} {p : PV S} {v : Value} (h : PRel L β G p v) (h1 : p.cells.all PV.one = true) :
    PRels L β G p.cells v.cells.toList ∧ ∀ u ∈ v.cells.toList, u.oneCell' = true := by
  have : PRels L β G p.cells v.cells.toList := by
    refine h.cells ?_ ?_ ?_
    · rintro rfl; simp [PV.cells, PV.one] at h1
    · rintro l rfl; simp [PV.cells, PV.one] at h1
    · rintro rfl; simp [PV.cells, PV.one] at h1
  exact ⟨this, ones_rel this h1⟩

theorem toCells_len (p : PV S) : p.toCells.length = p.cells.length := by cases p <;> simp [PV.toCells, PV.cells]

/-- The cells of a stored value, at their places. -/
theorem toCells_rel {p : PV S} {v : Value} {from_ : Pos} {c off : Nat} (h : SRel L g from_ p v) (h1 : p.cells.all PV.one = true) :
    ∀ (j : Nat) (q : PV S), p.toCells[j]? = some q → ∃ u, v.cells.toList[j]? = some u ∧ SRel L (g.mv from_ (.cell c off)) (.cell c (off + j)) q u := by
  intro j q hq
  obtain ⟨hr, _⟩ := cells_of_one h.1 h1
  by_cases hagg : ∃ l, p = .agg l
  · obtain ⟨l, rfl⟩ := hagg
    simp only [PV.toCells, List.getElem?_map, Option.map_eq_some_iff] at hq
    obtain ⟨q', hq', rfl⟩ := hq
    obtain ⟨u, hu, hur⟩ := hr.get (by simpa [PV.cells] using hq')
    exact ⟨u, hu, hur.strip, OwnOk.of_strip _ _⟩
  · have e1 : p.toCells = [p] := by cases p <;> first | rfl | exact absurd ⟨_, rfl⟩ hagg
    have e2 : p.cells = [p] := by cases p <;> first | rfl | exact absurd ⟨_, rfl⟩ hagg
    rw [e1] at hq
    cases j with
    | succ j => simp at hq
    | zero =>
      simp at hq; subst hq
      obtain ⟨u, hu, hur⟩ := hr.get (j := 0) (by rw [e2]; rfl)
      have huv : u = v := by
        have hl := hr.length
        rw [e2] at hl
        have hone : v.oneCell' = true := one_rel h.1 (by rw [e2] at h1; simpa using h1)
        cases v <;> simp [Value.oneCell'] at hone <;> simp [Value.cells] at hu <;> exact hu.symm
      subst huv
      exact ⟨u, hu, h.1, h.2.mv_self⟩

theorem putAt_get {cs vs : List (PV S)} {off j : Nat} (h : off + vs.length ≤ cs.length) :
    (putAt cs off vs)[j]? = if j < off then cs[j]? else if j < off + vs.length then vs[j - off]? else cs[j]? := by
  unfold putAt
  by_cases h1 : j < off
  · rw [if_pos h1, List.append_assoc, List.getElem?_append_left (by simp; omega), List.getElem?_take, if_pos h1]
  · rw [if_neg h1]
    by_cases h2 : j < off + vs.length
    · rw [if_pos h2, List.append_assoc, List.getElem?_append_right (by simp; omega)]
      simp only [List.length_take, show min off cs.length = off by omega]
      rw [List.getElem?_append_left (by omega)]
    · rw [if_neg h2, List.getElem?_append_right (by simp; omega)]
      simp only [List.length_append, List.length_take, show min off cs.length = off by omega, List.getElem?_drop]
      congr 1; omega

theorem putAtV_get {cs vs : List Value} {off j : Nat} (h : off + vs.length ≤ cs.length) :
    (cs.take off ++ vs ++ cs.drop (off + vs.length))[j]? = if j < off then cs[j]? else if j < off + vs.length then vs[j - off]? else cs[j]? := by
  by_cases h1 : j < off
  · rw [if_pos h1, List.append_assoc, List.getElem?_append_left (by simp; omega), List.getElem?_take, if_pos h1]
  · rw [if_neg h1]
    by_cases h2 : j < off + vs.length
    · rw [if_pos h2, List.append_assoc, List.getElem?_append_right (by simp; omega)]
      simp only [List.length_take, show min off cs.length = off by omega]
      rw [List.getElem?_append_left (by omega)]
    · rw [if_neg h2, List.getElem?_append_right (by simp; omega)]
      simp only [List.length_append, List.length_take, show min off cs.length = off by omega, List.getElem?_drop]
      congr 1; omega

theorem putAt_len {cs vs : List (PV S)} {off : Nat} (h : off + vs.length ≤ cs.length) : (putAt cs off vs).length = cs.length := by
  simp [putAt]; omega

theorem apply_wm (ws : List (Nat × PV S)) (c : Nat) (v : List (PV S)) (st : St S) : ({ w := ws, m := [(c, v)] } : Eff S).apply st = { st with slots := updL st.slots ws, mem := st.mem.set c (some v) } := by
  simp [Eff.apply, setL]

/-- What an operand bears goes to a cell: the slot's part. -/
theorem Inv.giveTo (h : Inv L g st a w) {x : Operand} {t : TypeId} {p : PV S} (hp : rdRaw P L st t x = some p) (q : Pos) (hq : ∀ j, q ≠ .slot j) :
    ∃ from_, (∀ c j, from_ ≠ .cell c j) ∧ SRel L g from_ p (a.eval x) ∧ Inv L (g.mv from_ q) { st with slots := updL st.slots (took st x) } a w := by
  obtain ⟨h1, h2, h3⟩ := rdRaw_rel h hp
  cases x with
  | tmp i =>
    obtain ⟨hpi, hs⟩ := h2 i rfl
    exact ⟨.slot i, by simp, hs, by simp only [took, updL]; exact h.take i q hq⟩
  | global g => simp [rdRaw] at hp
  | _ =>
    refine ⟨.res, by simp, ⟨h1, h3 (by simp) _ _⟩, ?_⟩
    simp only [took, updL]
    refine ⟨h.size, fun i => (h.slot i).mv_other (by simp), ?_, h.dfs⟩
    refine ⟨fun c ps hc => ?_, h.mem.dom, h.mem.inj, h.mem.βG, h.mem.gs, fun b r hr => ?_, h.mem.wok_sub (fun c b hb => .inl ⟨c, hb⟩) (fun b _ _ hb => by simp [Gh.mv, hb]) (fun _ _ _ _ h => h)⟩
    · obtain ⟨b, vs, ty, e1, e2, e3, e4⟩ := h.mem.cell c ps hc
      refine ⟨b, vs, ty, e1, e2, e3, fun j p hp => ?_⟩
      obtain ⟨v, hv, hr⟩ := e4 j p hp
      exact ⟨v, hv, hr.mv_other (by simp)⟩
    · simp only [Gh.mv] at hr
      cases hw : g.ω b with
      | none => simp [hw] at hr
      | some r0 =>
        simp [hw] at hr
        obtain ⟨e1, e2, e3⟩ := h.mem.rt b r0 hw
        refine ⟨e1, ?_, ?_⟩
        · obtain ⟨cs, ty, f1, f2⟩ := e2
          refine ⟨cs, ty, f1, ?_⟩
          rw [← hr]; split <;> exact f2
        · intro o ho
          refine e3 o ?_
          rw [← hr] at ho; split at ho <;> exact ho

theorem step_store (h : Inv L g st a w) {o : Oper} {t : TypeId} {x y : Operand} (ho : o.op = .store t x y) {c off : Nat} (hx : rd P L st 0 x = some (.ptr c off)) {p : PV S} (hy : rdRaw P L st t y = some p)
    {cs : List (PV S)} (hc : cellAt st.mem c = some cs) (hs : szT P t = some p.cells.length) (hn : off + p.cells.length ≤ cs.length) (h1 : p.cells.all PV.one = true) (hnm : noMap cs = true)
    (hd : fits st.nt (took st y ++ wr o.dst (.bot : PV S)) = true) : StepOk P L g w st o a (.ok { w := took st y ++ wr o.dst .bot, m := [(c, putAt cs off p.toCells)] }) := by
  intro K Q hK
  have hxr := (rd_rel h hx).1
  simp only [PRel] at hxr
  obtain ⟨b, hb, hxr⟩ := hxr
  obtain ⟨from_, hf, hsr, hi⟩ := h.giveTo hy (.cell c off) (by simp)
  obtain ⟨b', vs, ty, e1, e2, e3, e4⟩ := h.mem.plain c cs hc hnm
  rw [hb] at e1; cases e1
  obtain ⟨hr, hone⟩ := cells_of_one hsr.1 h1
  have hlen : (a.eval y).cells.toList.length = p.cells.length := hr.length.symm
  have hrun := run_storeCells_at P b off ty (a.eval y).cells.toList 0 vs w e2 (by rw [hlen, e3]; omega) hone
  have hfull : (execOp a.eval o).run P w = .ok .skip (w.setRow b (vs.toList.take off ++ (a.eval y).cells.toList ++ vs.toList.drop (off + (a.eval y).cells.toList.length)).toArray) := by
    have hsz : ¬ (a.eval y).cells.size ≠ p.cells.length := by simp at hlen; omega
    simp only [Nat.add_zero] at hrun
    simp only [execOp, ho, hxr, Instr.storeAt, Instr.sureAddr, storeVar, Sem.run_bind, Sem.run_pure, Result.andThen_ok, run_sizeOf hs, if_neg hsz, hrun]
  unfold Oper.wp
  rw [hfull, Oper.upon_skip]
  have hl' : off + p.toCells.length ≤ cs.length := by rw [toCells_len]; exact hn
  have hlv : off + (a.eval y).cells.toList.length ≤ vs.toList.length := by rw [hlen]; simp; omega
  have hm : MemInv L (g.mv from_ (.cell c off)) (st.mem.set c (some (putAt cs off p.toCells)))
      (w.setRow b (vs.toList.take off ++ (a.eval y).cells.toList ++ vs.toList.drop (off + (a.eval y).cells.toList.length)).toArray) := by
    refine hi.mem.setCell rfl rfl hc hb e2 ?_ (noMap_putAt hnm (noMap_toCells h1)) ?_ (fun _ _ _ _ _ h => h) (fun b r h => ⟨r, h, rfl, rfl⟩)
    · rw [putAt_len hl']; simp at hlv ⊢; omega
    · intro j q hq
      rw [putAt_get hl'] at hq
      rw [List.getElem?_toArray, putAtV_get hlv]
      rw [hlen, ← toCells_len]
      split at hq
      · rename_i hj
        rw [if_pos hj]
        obtain ⟨v, hv, hvr⟩ := e4 j q hq
        exact ⟨v, by simpa using hv, hvr.mv_other (fun e => hf c j e.symm)⟩
      · rename_i hj
        rw [if_neg hj]
        split at hq
        · rename_i hj2
          rw [if_pos hj2]
          obtain ⟨u, hu, hur⟩ := toCells_rel (c := c) (off := off) hsr h1 (j - off) q hq
          exact ⟨u, hu, by rwa [show off + (j - off) = j by omega] at hur⟩
        · rename_i hj2
          rw [if_neg hj2]
          obtain ⟨v, hv, hvr⟩ := e4 j q hq
          exact ⟨v, by simpa using hv, hvr.mv_other (fun e => hf c j e.symm)⟩
  have hI := hi.of_mono (g' := g.mv from_ (.cell c off)) (fun _ _ _ h => h) (fun _ _ h => h) (fun _ _ _ h => h.2) hm
  have hFr : Fr g w (g.mv from_ (.cell c off)) (w.setRow b (vs.toList.take off ++ (a.eval y).cells.toList ++ vs.toList.drop (off + (a.eval y).cells.toList.length)).toArray) :=
    Fr.setRow (g' := g.mv from_ (.cell c off)) h.mem rfl rfl (fun b hb => by simp [Gh.mv, hb]) hb _
  refine hK _ _ (g.mv from_ (.cell c off)) ?_ hFr
  rw [apply_wm]
  cases hdst : o.dst with
  | none => simp only [wr, List.append_nil]; exact hI
  | some d =>
    rw [hdst] at hd
    have := hI.put (d := d) (p := .bot) (v := undef) (fits_wr (dst := some d) (p := .bot) (fits_app hd).2 d rfl) (by simp only [PRel]) trivial
    have e : updL st.slots (took st y ++ wr (some d) .bot) = upd (updL st.slots (took st y)) d .bot := by
      cases y <;> rfl
    rw [e]; exact this

theorem step_load_take (h : Inv L g st a w) {o : Oper} {t : TypeId} {x : Operand} (ho : o.op = .load t x) {c off : Nat} (hx : rd P L st 0 x = some (.ptr c off))
    {cs : List (PV S)} (hc : cellAt st.mem c = some cs) (hnm : noMap cs = true) (hn : off + 1 ≤ cs.length) (ha : aggT P t = some false) {p : PV S} (hp : cs[off]? = some p)
    (hd : fits st.nt (wr o.dst p) = true) : StepOk P L g w st o a (.ok { w := wr o.dst p, m := [(c, putAt cs off [p.strip])] }) := by
  intro K Q hK
  have hxr := (rd_rel h hx).1
  simp only [PRel] at hxr
  obtain ⟨b, hb, hxr⟩ := hxr
  obtain ⟨b', vs, ty, e1, e2, e3, e4⟩ := h.mem.plain c cs hc hnm
  rw [hb] at e1; cases e1
  obtain ⟨v, hv, hvr⟩ := e4 off p hp
  have hcell : w.cell? ⟨b, off, none⟩ = some v := by simp [World.cell?, e2, hv]
  unfold Oper.wp
  rw [run_load_ptr ho hxr (run_loadVar_one ha hcell), Oper.upon_value]
  have main : ∀ (q : Pos), (∀ c' j, q ≠ .cell c' j) → MemInv L (g.mv (.cell c off) q) (st.mem.set c (some (putAt cs off [p.strip]))) w := by
    intro q hq
    have hset : w.setRow b vs = w := by
      have := setRow_self w b vs ty (0, 0) e2
      exact this
    have := h.mem.setCell (g' := g.mv (.cell c off) q) (ps' := putAt cs off [p.strip]) (vs' := vs) rfl rfl hc hb e2 (by rw [putAt_len (by simpa using hn)]; exact e3) (noMap_putAt hnm (by rw [noMap_mem]; intro r hr; simp only [List.mem_singleton] at hr; subst hr; rw [plain_strip]; exact noMap_get hnm hp)) ?_ ?_ ?_
    · rwa [hset] at this
    · intro j r hr
      rw [putAt_get (by simpa using hn)] at hr
      split at hr
      · obtain ⟨u, hu, hur⟩ := e4 j r hr
        exact ⟨u, hu, hur.mv_other (by intro e; cases e; omega)⟩
      · split at hr
        · have hj : j = off := by rename_i h1 h2; simp at h2; omega
          subst hj
          simp at hr; subst hr
          exact ⟨v, hv, hvr.1.strip, OwnOk.of_strip _ _⟩
        · obtain ⟨u, hu, hur⟩ := e4 j r hr
          exact ⟨u, hu, hur.mv_other (by intro e; cases e; rename_i h1 h2; simp at h2)⟩
    · intro c' j p v hne hr
      exact hr.mv_other (by intro e; cases e; exact hne rfl)
    · intro b r hr
      simp only [Gh.mv] at hr
      cases hw : g.ω b with
      | none => simp [hw] at hr
      | some r0 =>
        simp [hw] at hr
        refine ⟨r0, rfl, ?_, ?_⟩ <;> (rw [← hr]; split <;> rfl)
  cases hdst : o.dst with
  | none =>
    have hI := h.of_mono (g' := g.mv (.cell c off) .res) (fun _ _ _ h => h) (fun _ _ h => h) (fun i p v h => (h.mv_other (by simp)).2) (main .res (by simp))
    refine hK _ _ _ ?_ (Fr.mv g w (.cell c off) .res)
    rw [apply_wm, hdst]
    exact hI
  | some d =>
    rw [hdst] at hd
    have hdd := fits_wr (dst := some d) (p := p) hd d rfl
    have hI := h.of_mono (g' := g.mv (.cell c off) (.slot d)) (fun _ _ _ h => h) (fun _ _ h => h) (fun i p v h => (h.mv_other (by simp)).2) (main (.slot d) (by simp))
    refine hK _ _ _ ?_ (Fr.mv g w (.cell c off) (.slot d))
    rw [apply_wm, hdst]
    exact hI.put hdd hvr.1 hvr.2.mv_self

/-- A cell of the evaluator's own is made, in a new block. -/
def Gh.newC (g : Gh) (c N : Nat) : Gh := { g with β := fun i => if i = c then some N else g.β i }

theorem MemInv.newCell {m : Mem S} (h : MemInv L g m w) {c : Nat} (hc : m[c]? = some none) {ps : List (PV S)} {vs : Array Value} (ty : VTy ps) (hl : vs.size = ps.length)
    (hrel : ∀ (j : Nat) (p : PV S), ps[j]? = some p → ∃ v, vs[j]? = some v ∧ SRel L g (.cell c j) p v) :
    MemInv L (g.newC c w.heap.size) (m.set c (some ps)) (w.alloc (ty.obj vs)) := by
  have hlt : c < m.length := (List.getElem?_eq_some_iff.1 hc).1
  have hnone : g.β c = none := by
    cases hb : g.β c with
    | none => rfl
    | some b =>
      obtain ⟨q, hq⟩ := h.dom c b hb
      unfold cellAt at hq; rw [hc] at hq; cases hq
  have hβ : ∀ c' b, g.β c' = some b → (g.newC c w.heap.size).β c' = some b := by
    intro c' b hb
    show (if c' = c then _ else g.β c') = some b
    rw [if_neg (by rintro rfl; rw [hnone] at hb; cases hb)]; exact hb
  have hS : ∀ pos p v, SRel L g pos p v → SRel L (g.newC c w.heap.size) pos p v := fun pos p v hr => ⟨hr.1.mono (fun _ _ _ h => h) hβ, hr.2⟩
  refine ⟨fun c' qs hqs => ?_, fun c' b hb => ?_, fun c1 c2 b h1 h2 => ?_, fun c' b hb o => ?_, fun b o v hv => ?_, fun b r hr => ?_,
    h.wok_sub (fun c' b hb => by
      change (if c' = c then some w.heap.size else g.β c') = some b at hb
      split at hb
      · cases hb; exact .inr (Nat.le_refl _)
      · exact .inl ⟨c', hb⟩) (fun _ _ _ h => h) (fun b o _ _ hb => (alloc_heap w _ b (Array.getElem?_eq_some_iff.1 hb).1).trans hb)⟩
  · rw [cellAt_set hlt] at hqs
    split at hqs
    · rename_i e1; subst e1; cases hqs
      refine ⟨w.heap.size, vs, ty, by simp [Gh.newC], heap_alloc_new w _, hl, fun j p hp => ?_⟩
      obtain ⟨v, hv, hr⟩ := hrel j p hp
      exact ⟨v, hv, hS _ _ _ hr⟩
    · obtain ⟨b, vs', ty, e1, e2, e3, e4⟩ := h.cell c' qs hqs
      refine ⟨b, vs', ty, hβ _ _ e1, (alloc_heap w _ b (heap_lt e2)).trans e2, e3, fun j p hp => ?_⟩
      obtain ⟨v, hv, hr⟩ := e4 j p hp
      exact ⟨v, hv, hS _ _ _ hr⟩
  · rw [cellAt_set hlt]
    split
    · exact ⟨_, rfl⟩
    · rename_i hne
      change (if c' = c then _ else g.β c') = some b at hb
      rw [if_neg hne] at hb
      exact h.dom c' b hb
  · change (if c1 = c then _ else g.β c1) = some b at h1
    change (if c2 = c then _ else g.β c2) = some b at h2
    split at h1 <;> split at h2
    · omega
    · cases h1; exact absurd (h.β_lt h2) (by omega)
    · cases h2; exact absurd (h.β_lt h1) (by omega)
    · exact h.inj c1 c2 b h1 h2
  · change (if c' = c then _ else g.β c') = some b at hb
    split at hb
    · cases hb
      cases hv : g.G w.heap.size o with
      | none => exact hv
      | some v => exact absurd (h.G_lt hv) (by omega)
    · exact h.βG c' b hb o
  · have hv' : g.G b o = some v := hv
    rw [World.cell?_alloc_lt w _ _ (h.G_lt hv')]; exact h.gs b o v hv'
  · obtain ⟨e1, ⟨cs, ty, e2, e3⟩, e4⟩ := h.rt b r hr
    refine ⟨fun c' hb => ?_, ⟨cs, ty, (alloc_heap w _ b (heap_lt e2)).trans e2, e3⟩, e4⟩
    change (if c' = c then _ else g.β c') = some b at hb
    split at hb
    · cases hb; exact absurd (heap_lt e2) (by omega)
    · exact e1 c' hb

theorem Fr.newC {m : Mem S} (h : MemInv L g m w) {c : Nat} (hc : m[c]? = some none) (o : Obj) : Fr g w (g.newC c w.heap.size) (w.alloc o) := by
  refine ⟨rfl, rfl, rfl, by simp, fun b hb _ hω => ⟨alloc_heap w _ b hb, fun o => rfl, hω⟩, fun _ _ _ h => h, fun c' b hb => ?_, fun c' b hb => ?_⟩
  · show (if c' = c then _ else g.β c') = some b
    rw [if_neg ?_]; exact hb
    rintro rfl
    obtain ⟨q, hq⟩ := h.dom c' b hb
    unfold cellAt at hq; rw [hc] at hq; cases hq
  · change (if c' = c then _ else g.β c') = some b at hb
    split at hb
    · cases hb; exact .inr (Nat.le_refl _)
    · exact .inl hb

theorem β_none {m : Mem S} (h : MemInv L g m w) {c : Nat} (hc : m[c]? = some none) : g.β c = none := by
  cases hb : g.β c with
  | none => rfl
  | some b =>
    obtain ⟨q, hq⟩ := h.dom c b hb
    unfold cellAt at hq; rw [hc] at hq; cases hq

theorem newC_mono {m : Mem S} (h : MemInv L g m w) {c N : Nat} (hc : m[c]? = some none) : ∀ c' b, g.β c' = some b → (g.newC c N).β c' = some b := by
  intro c' b hb
  show (if c' = c then _ else g.β c') = some b
  rw [if_neg (by rintro rfl; rw [β_none h hc] at hb; cases hb)]; exact hb

theorem step_alloc (h : Inv L g st a w) {o : Oper} {e : TypeId} (ho : o.op = .alloc e) {cs : List (PV S)} (hz : zeroCells P L e = some cs) {cid : Nat} (hc : st.mem[cid]? = some none)
    (hd : fits st.nt (wr o.dst (.ptr cid 0 : PV S)) = true) : StepOk P L g w st o a (.ok { w := wr o.dst (.ptr cid 0), m := [(cid, cs)] }) := by
  intro K Q hK
  obtain ⟨i, z, hi, hzz, hr, hstrip, hone, _⟩ := zeroCells_rel (β := g.β) (G := g.G) hz
  have hrun : (execOp a.eval o).run P w = .ok (.value (.pointer (some ⟨w.heap.size, 0, none⟩))) (w.alloc (.cells z.cells e)) := by
    simp [execOp, ho, Instr.alloc, zeroValue, typeInfo, hi, hzz, newVar, newRow]
  unfold Oper.wp
  rw [hrun, Oper.upon_value]
  have hm := h.mem.newCell hc (ps := cs) (vs := z.cells) (.cells e (noMap_one hone)) (by have := hr.length; simp at this; omega) (fun j p hp => by
    obtain ⟨v, hv, hvr⟩ := hr.get hp
    exact ⟨v, by simpa using hv, hvr, OwnOk.none (hstrip p (List.mem_of_getElem? hp))⟩)
  have hI := h.of_mono (g' := g.newC cid w.heap.size) (fun _ _ _ h => h) (newC_mono h.mem hc) (fun _ _ _ h => h.2) hm
  refine hK _ _ (g.newC cid w.heap.size) ?_ (Fr.newC h.mem hc _)
  rw [apply_wm]
  cases hdst : o.dst with
  | none => exact hI
  | some d =>
    rw [hdst] at hd
    exact hI.put (fits_wr (dst := some d) (p := .ptr cid 0) hd d rfl) (by simp only [PRel]; exact ⟨w.heap.size, by simp [Gh.newC], rfl⟩) trivial

theorem step_box (h : Inv L g st a w) {o : Oper} {e : TypeId} {x : Operand} (ho : o.op = .box e x) {p : PV S} (hp : rdRaw P L st e x = some p) {cid : Nat} (hc : st.mem[cid]? = some none) (h1 : p.cells.all PV.one = true)
    (hd : fits st.nt (took st x ++ wr o.dst (.ptr cid 0 : PV S)) = true) : StepOk P L g w st o a (.ok { w := took st x ++ wr o.dst (.ptr cid 0), m := [(cid, p.toCells)] }) := by
  intro K Q hK
  obtain ⟨from_, hf, hsr, hi⟩ := h.giveTo hp (.cell cid 0) (by simp)
  obtain ⟨hr, hone⟩ := cells_of_one hsr.1 h1
  have hrun : (execOp a.eval o).run P w = .ok (.value (.pointer (some ⟨w.heap.size, 0, none⟩))) (w.alloc (.cells (a.eval x).cells e)) := by
    simp [execOp, ho, Instr.box, newVar, newRow]
  unfold Oper.wp
  rw [hrun, Oper.upon_value]
  have hm := hi.mem.newCell hc (ps := p.toCells) (vs := (a.eval x).cells) (.cells e (noMap_toCells h1)) (by have := hr.length; rw [toCells_len]; simp at this; omega) (fun j q hq => by
    obtain ⟨u, hu, hur⟩ := toCells_rel (c := cid) (off := 0) hsr h1 j q hq
    exact ⟨u, by simpa using hu, by simpa using hur⟩)
  have hI := hi.of_mono (g' := (g.mv from_ (.cell cid 0)).newC cid w.heap.size) (fun _ _ _ h => h) (newC_mono hi.mem hc) (fun _ _ _ h => h.2) hm
  refine hK _ _ ((g.mv from_ (.cell cid 0)).newC cid w.heap.size) ?_ ((Fr.mv g w _ _).trans (Fr.newC hi.mem hc _))
  rw [apply_wm]
  cases hdst : o.dst with
  | none => simp only [wr, List.append_nil]; exact hI
  | some d =>
    rw [hdst] at hd
    have := hI.put (d := d) (p := .ptr cid 0) (v := .pointer (some ⟨w.heap.size, 0, none⟩)) (fits_wr (dst := some d) (p := .ptr cid 0) (fits_app hd).2 d rfl)
      (by simp only [PRel]; exact ⟨w.heap.size, by simp [Gh.newC], rfl⟩) trivial
    have e : updL st.slots (took st x ++ wr (some d) (.ptr cid 0)) = upd (updL st.slots (took st x)) d (.ptr cid 0) := by
      cases x <;> rfl
    rw [e]; exact this

end
end Go.Proofs.YtanfoijdfcnpoaaGreatDoor.Ev

set_option linter.unusedVariables false
set_option linter.unusedSimpArgs false
namespace Go.Proofs.YtanfoijdfcnpoaaGreatDoor.Ev

section
variable {S : Sig} {P : Program} {L : Lay S} {g : Gh} {st : St S} {a : Act} {w w' : World}

/-! ### Struct literals -/

theorem foldl_setCells (cs vs : List Value) (off : Nat) (hl : off + vs.length ≤ cs.length) :
    ((vs.zipIdx.foldl (fun (c : Array Value) (x : Value × Nat) => c.setIfInBounds (off + x.2) x.1) cs.toArray).toList) = cs.take off ++ vs ++ cs.drop (off + vs.length) := by
  suffices h : ∀ (vs : List Value) (i : Nat) (cs : List Value), off + i + vs.length ≤ cs.length →
      ((vs.zipIdx i).foldl (fun (c : Array Value) (x : Value × Nat) => c.setIfInBounds (off + x.2) x.1) cs.toArray).toList = cs.take (off + i) ++ vs ++ cs.drop (off + i + vs.length) by
    simpa using h vs 0 cs (by simpa using hl)
  intro vs
  induction vs with
  | nil => intro i cs hl; simp
  | cons v r ih =>
    intro i cs hl
    simp only [List.zipIdx_cons, List.foldl_cons]
    have e : cs.toArray.setIfInBounds (off + i) v = (cs.set (off + i) v).toArray := by simp
    rw [e, ih (i + 1) (cs.set (off + i) v) (by simp at hl ⊢; omega)]
    apply List.ext_getElem?
    intro k
    have h1 : off + (i + 1) + r.length ≤ (cs.set (off + i) v).length := by simp at hl ⊢; omega
    have h2 : off + i + (v :: r).length ≤ cs.length := hl
    rw [putAtV_get h1, putAtV_get h2]
    simp only [List.length_cons, List.getElem?_set]
    by_cases c1 : k < off + i
    · simp [c1, show k < off + (i + 1) by omega, show off + i ≠ k by omega]
    · by_cases c2 : k = off + i
      · subst c2; simp [show off + i < cs.length by simp at hl; omega, show off + i < off + (i + 1) by omega]
      · simp [c1, show ¬ k < off + (i + 1) by omega, show k - (off + i) = (k - (off + (i + 1))) + 1 by omega, show off + i ≠ k by omega, show off + (i + 1) + r.length = off + i + (r.length + 1) by omega]

theorem mapM_get {α β : Type} {f : α → Option β} : ∀ {l : List α} {r : List β}, l.mapM f = some r → ∀ {i : Nat} {x : α}, l[i]? = some x → ∃ y, r[i]? = some y ∧ f x = some y
  | [], r, h, i, x, hx => by simp at hx
  | y :: l, r, h, i, x, hx => by
    simp only [List.mapM_cons, Option.bind_eq_bind, Option.pure_def] at h
    cases h1 : f y with
    | none => simp [h1] at h
    | some z =>
      cases h2 : l.mapM f with
      | none => simp [h1, h2] at h
      | some r' =>
        simp [h1, h2] at h; subst h
        cases i with
        | zero => simp at hx; subst hx; exact ⟨z, rfl, h1⟩
        | succ i => simp at hx; simpa using mapM_get h2 hx

theorem fill_rel (h : Inv L g st a w) {fs : List Field} {places : List (Nat × Nat)} (hpl : fs.mapM (fun f => (P.info? f.type).map fun i => (f.offset, i.size)) = some places) :
    ∀ {ps : List (Nat × Operand)} {cs cs' : List (PV S)} {vs : List Value}, fillB P L st fs ps cs = some cs' → PRels L g.β g.G cs vs →
      ∃ vs' : List Value, Instr.fill (places[·]?) vs.toArray (ps.map fun (i, x) => (i, a.eval x)) = some vs'.toArray ∧ PRels L g.β g.G cs' vs'
  | [], cs, cs', vs, hf, hr => by simp [fillB] at hf; subst hf; exact ⟨vs, rfl, hr⟩
  | (i, x) :: r, cs, cs', vs, hf, hr => by
    simp only [fillB] at hf
    cases hfi : fs[i]? with
    | none => simp [hfi] at hf
    | some f =>
      simp only [hfi] at hf
      cases hp : rd P L st f.type x with
      | none => simp [hp] at hf
      | some p =>
        cases hs : szT P f.type with
        | none => simp [hp, hs] at hf
        | some n =>
          simp only [hp, hs] at hf
          split at hf
          · rename_i hc
            obtain ⟨c1, c2, c3⟩ := hc
            obtain ⟨hcells, _⟩ := cells_of_one (rd_rel h hp).1 c3
            have hlen : (a.eval x).cells.toList.length = n := by rw [← hcells.length]; exact c1
            have hvl : vs.length = cs.length := hr.length.symm
            have hplace : places[i]? = some (f.offset, n) := by
              obtain ⟨y, e1, e2⟩ := mapM_get hpl hfi
              rw [e1]
              unfold szT at hs
              cases hi : P.info? f.type with
              | none => simp [hi] at hs
              | some i => simp [hi] at hs e2; rw [← e2, hs]
            have hr' : PRels L g.β g.G (putAt cs f.offset p.cells) (vs.take f.offset ++ (a.eval x).cells.toList ++ vs.drop (f.offset + (a.eval x).cells.toList.length)) := by
              refine PRels.of_get ?_ fun j q hq => ?_
              · rw [putAt_len (by omega)]; simp; simp at hlen; omega
              · rw [putAt_get (by omega)] at hq
                rw [putAtV_get (by omega), hlen]
                rw [c1] at hq
                split at hq
                · rename_i hj; rw [if_pos hj]; exact hr.get hq
                · rename_i hj
                  rw [if_neg hj]
                  split at hq
                  · rename_i hj2; rw [if_pos hj2]; exact hcells.get hq
                  · rename_i hj2; rw [if_neg hj2]; exact hr.get hq
            obtain ⟨vs', e1, e2⟩ := fill_rel h hpl hf hr'
            refine ⟨vs', ?_, e2⟩
            rw [List.map_cons]
            simp only [Instr.fill, hplace]
            have hsz : (a.eval x).cells.size = n := by simpa using hlen
            rw [if_neg (by simp [hsz]; omega)]
            rw [← e1]
            congr 1
            apply Array.ext'
            have := foldl_setCells vs (a.eval x).cells.toList f.offset (by omega)
            rw [← this]
            rw [← Array.foldl_toList, Array.toList_zipIdx]
          · cases hf

theorem all_places {fs : List Field} (h : (fs.all fun f => (szT P f.type).isSome) = true) : ∃ places, fs.mapM (fun f => (P.info? f.type).map fun i => (f.offset, i.size)) = some places := by
  induction fs with
  | nil => exact ⟨[], rfl⟩
  | cons f r ih =>
    simp only [List.all_cons, Bool.and_eq_true] at h
    obtain ⟨ps, hps⟩ := ih h.2
    unfold szT at h
    cases hi : P.info? f.type with
    | none => simp [hi] at h
    | some i => exact ⟨(f.offset, i.size) :: ps, by simp [hi, hps]⟩

theorem step_build (h : Inv L g st a w) {o : Oper} {t : TypeId} {ps : Array (Nat × Operand)} (ho : o.op = .build t ps) {fs : Array Field} (hu : P.underlying t = some (.struct fs)) {z : List (PV S)}
    (hz : zeroCells P L t = some z) (hall : (fs.toList.all fun f => (szT P f.type).isSome) = true) {cs : List (PV S)} (hf : fillB P L st fs.toList ps.toList z = some cs)
    (hd : fits st.nt (wr o.dst (.agg cs)) = true) : StepOk P L g w st o a (val o (.agg cs)) := by
  obtain ⟨it, zv, hi, hzz, hr, _, _, _⟩ := zeroCells_rel (β := g.β) (G := g.G) hz
  obtain ⟨places, hpl⟩ := all_places hall
  obtain ⟨vs', e1, e2⟩ := fill_rel h hpl hf hr
  refine step_val h hd (v := .agg vs'.toArray) ?_ (by simp only [PRel]; exact ⟨vs', rfl, e2⟩) rfl
  have hb : P.built t (ps.map fun (i, x) => (i, a.eval x)).toList = some vs'.toArray := by
    unfold Program.built
    simp only [hi, hu, hzz, hpl]
    rw [← e1]
    congr 1
    · funext i; simp
    · simp
  simp only [execOp, ho, Sem.run_bind, run_build w t _ _ hb, Result.andThen_ok, Sem.run_pure]

/-! ### Slice literals -/

theorem dvs_rel {β : Nat → Option Nat} {G : Nat → Nat → Option Value} : ∀ {ps : List (PV S)} {ds : List (DV S)} {vs : List Value}, dvs ps = some ds → PRels L β G ps vs →
    ∀ (j : Nat) (d : DV S), ds[j]? = some d → ∃ v, vs[j]? = some v ∧ DRel L G d v
  | [], ds, vs, h, hr, j, d, hd => by simp [dvs] at h; subst h; simp at hd
  | p :: ps, ds, [], h, hr, j, d, hd => by simp only [PRels] at hr
  | p :: ps, ds, v :: vs, h, hr, j, d, hd => by
    simp only [dvs] at h
    simp only [PRels] at hr
    cases h1 : p.dv? with
    | none => simp [h1] at h
    | some x =>
      cases h2 : dvs ps with
      | none => simp [h1, h2] at h
      | some r =>
        simp [h1, h2] at h; subst h
        cases j with
        | zero => simp at hd; subst hd; exact ⟨v, rfl, hr.1.dv h1⟩
        | succ j => simp at hd; simpa using dvs_rel h2 hr.2 j d hd

theorem dvs_one : ∀ {ps : List (PV S)} {ds : List (DV S)}, dvs ps = some ds → ps.all PV.one = true ∧ ds.length = ps.length
  | [], ds, h => by simp [dvs] at h; subst h; simp
  | p :: ps, ds, h => by
    simp only [dvs] at h
    cases h1 : p.dv? with
    | none => simp [h1] at h
    | some x =>
      cases h2 : dvs ps with
      | none => simp [h1, h2] at h
      | some r =>
        simp [h1, h2] at h; subst h
        obtain ⟨e1, e2⟩ := dvs_one h2
        refine ⟨?_, by simp [e2]⟩
        simp only [List.all_cons, e1, Bool.and_true]
        cases p <;> simp [PV.dv?] at h1 <;> rfl

theorem els_rel (h : Inv L g st a w) {e : TypeId} {k : S.K} : ∀ {ps : List (Nat × Operand)} {n : Nat} {l : List (S.El k)} {base : List Value}, elsB P L st e k n ps = some l → (n + ps.length) * L.sz k ≤ base.length →
    l.length = ps.length ∧ ∃ flat : List Value, flat.length = ps.length * L.sz k ∧
      Instr.fill (fun i => some (i * L.sz k, L.sz k)) base.toArray (ps.map fun (i, x) => (i, a.eval x)) = some (base.take (n * L.sz k) ++ flat ++ base.drop (n * L.sz k + flat.length)).toArray ∧
      ∀ (i : Nat) (x : S.El k), l[i]? = some x → ∀ (j : Nat) (d : DV S), (L.cells k x)[j]? = some d → ∃ u, flat[i * L.sz k + j]? = some u ∧ DRel L g.G d u
  | [], n, l, base, he, hb => by
    simp [elsB] at he; subst he
    exact ⟨rfl, [], by simp, by simp [Instr.fill], by simp⟩
  | (i, x) :: r, n, l, base, he, hb => by
    simp only [elsB] at he
    split at he
    · rename_i hin; subst hin
      cases hp : rd P L st e x with
      | none => simp [hp] at he
      | some p =>
        cases hds : dvs p.cells with
        | none => simp [hp, hds] at he
        | some ds =>
          cases hx : L.mkE k ds with
          | none => simp [hp, hds, hx] at he
          | some el =>
            cases hr : elsB P L st e k (i + 1) r with
            | none => simp [hp, hds, hx, hr] at he
            | some l' =>
              simp [hp, hds, hx, hr] at he; subst he
              obtain ⟨d1, d2⟩ := dvs_one hds
              obtain ⟨hc1, hc2⟩ := cells_of_one (rd_rel h hp).1 d1
              have hcel := L.mk_cells k ds el hx
              have hsz : (a.eval x).cells.toList.length = L.sz k := by
                rw [← hc1.length, ← d2, ← hcel]; exact L.len k el
              simp only [List.length_cons] at hb
              have hb1 : i * L.sz k + L.sz k ≤ base.length := by
                refine Nat.le_trans ?_ hb
                rw [← Nat.succ_mul]; exact Nat.mul_le_mul_right _ (by omega)
              let base' := base.take (i * L.sz k) ++ (a.eval x).cells.toList ++ base.drop (i * L.sz k + (a.eval x).cells.toList.length)
              have hbl : base'.length = base.length := by simp [base']; simp at hsz; omega
              obtain ⟨e1, flat, e2, e3, e4⟩ := els_rel h (base := base') hr (by rw [hbl, Nat.add_assoc, Nat.add_comm 1]; exact hb)
              refine ⟨by simp [e1], (a.eval x).cells.toList ++ flat, by simp only [List.length_append, List.length_cons, e2, hsz, Nat.succ_mul]; omega, ?_, ?_⟩
              · rw [List.map_cons]
                simp only [Instr.fill]
                have hsz' : (a.eval x).cells.size = L.sz k := by simpa using hsz
                rw [if_neg (by simp [hsz']; omega)]
                have hfold : (a.eval x).cells.zipIdx.foldl (fun (cs : Array Value) (x : Value × Nat) => cs.setIfInBounds (i * L.sz k + x.2) x.1) base.toArray = base'.toArray := by
                  apply Array.ext'
                  rw [← Array.foldl_toList, Array.toList_zipIdx, foldl_setCells base (a.eval x).cells.toList (i * L.sz k) (by omega)]
                rw [show (a.eval x).cells.zipIdx.foldl _ base.toArray = base'.toArray from hfold, e3]
                congr 2
                have hk : (i + 1) * L.sz k = i * L.sz k + L.sz k := Nat.succ_mul _ _
                apply List.ext_getElem?
                intro q
                have hfl : (i + 1) * L.sz k + flat.length ≤ base'.length := by
                  rw [hbl, e2, hk]
                  have : (i + (r.length + 1)) * L.sz k = i * L.sz k + L.sz k + r.length * L.sz k := by rw [Nat.add_mul, Nat.succ_mul]; omega
                  omega
                have hfl2 : i * L.sz k + ((a.eval x).cells.toList ++ flat).length ≤ base.length := by
                  rw [hbl] at hfl
                  simp only [List.length_append, hsz]; omega
                rw [putAtV_get hfl, putAtV_get hfl2, List.length_append, hsz, hk]
                have hb1' : i * L.sz k + (a.eval x).cells.toList.length ≤ base.length := by omega
                have hb' : ∀ q, base'[q]? = if q < i * L.sz k then base[q]? else if q < i * L.sz k + (a.eval x).cells.toList.length then (a.eval x).cells.toList[q - i * L.sz k]? else base[q]? := fun q => putAtV_get hb1'
                rw [hsz] at hb'
                by_cases c1 : q < i * L.sz k
                · rw [if_pos (by omega), hb' q, if_pos c1, if_pos c1]
                · by_cases c2 : q < i * L.sz k + L.sz k
                  · rw [if_pos c2, hb' q, if_neg c1, if_pos c2, if_neg c1, if_pos (by omega), List.getElem?_append_left (by omega)]
                  · rw [if_neg c2, if_neg c1]
                    by_cases c3 : q < i * L.sz k + L.sz k + flat.length
                    · rw [if_pos c3, if_pos (by omega), List.getElem?_append_right (by omega), hsz]
                      congr 1; omega
                    · rw [if_neg c3, if_neg (by omega), hb' q, if_neg c1, if_neg c2]
              · intro i' y hy j d hd
                cases i' with
                | zero =>
                  simp at hy; subst hy
                  rw [hcel] at hd
                  obtain ⟨v, hv, hvr⟩ := dvs_rel hds hc1 j d hd
                  refine ⟨v, ?_, hvr⟩
                  rw [Nat.zero_mul, Nat.zero_add, List.getElem?_append_left (List.getElem?_eq_some_iff.1 hv).1]; exact hv
                | succ i' =>
                  simp at hy
                  obtain ⟨u, hu, hur⟩ := e4 i' y hy j d hd
                  refine ⟨u, ?_, hur⟩
                  rw [List.getElem?_append_right (by rw [hsz, Nat.succ_mul]; omega), hsz, ← hu]
                  congr 1; rw [Nat.succ_mul]; omega
    · cases he

theorem step_buildSlice (h : Inv L g st a w) {o : Oper} {t : TypeId} {n : Nat} {ps : Array (Nat × Operand)} (ho : o.op = .buildSlice t n ps) {e : TypeId} (hu : P.underlying t = some (.slice e)) {k : S.K}
    (hs : szT P e = some (L.sz k)) (hn : ps.size = n) (hsm : n * L.sz k ≤ 1000) (hz : ((P.info? e).bind (·.zero)).isSome = true) {l : List (S.El k)} (hl : elsB P L st e k 0 ps.toList = some l)
    (hd : fits st.nt (wr o.dst (.full k l)) = true) : StepOk P L g w st o a (val o (.full k l)) := by
  intro K Q hK
  cases hi : P.info? e with
  | none => simp [hi] at hz
  | some it =>
    cases hzz : it.zero with
    | none => simp [hi, hzz] at hz
    | some z =>
      have hsize : it.size = L.sz k := by simpa [szT, hi] using hs
      let zc : Array Value := if n * L.sz k = 0 then #[] else z.cells
      let base : List Value := ((Array.range (n * L.sz k)).map (zc[· % zc.size]!)).toList
      have hbl : base.length = n * L.sz k := by simp [base]
      have hpl : ps.toList.length = n := by simpa using hn
      obtain ⟨e1, flat, e2, e3, e4⟩ := els_rel h (base := base) hl (by rw [hbl, hpl, Nat.zero_add]; omega)
      rw [hpl] at e1 e2
      have hfull : base.take (0 * L.sz k) ++ flat ++ base.drop (0 * L.sz k + flat.length) = flat := by
        rw [Nat.zero_mul, List.take_zero, List.nil_append, Nat.zero_add, List.drop_eq_nil_of_le (by omega), List.append_nil]
      rw [hfull] at e3
      have hrun : (execOp a.eval o).run P w = .ok (.value (.slice (some ⟨w.heap.size, 0, none⟩) n n)) (w.alloc (.cells flat.toArray e)) := by
        have hb : (Instr.buildSlice t n (ps.map fun (i, x) => (i, a.eval x))).run P w = .ok (.slice (some ⟨w.heap.size, 0, none⟩) n n) (w.alloc (.cells flat.toArray e)) := by
          have hsmall : ¬ n * it.size > 2 ^ 24 := by rw [hsize]; omega
          have h3 : Instr.fill (fun i => some (i * it.size, it.size)) ((Array.range (n * it.size)).map (zc[· % zc.size]!)) (ps.map fun (i, x) => (i, a.eval x)).toList = some flat.toArray := by
            rw [hsize, ← e3]
            congr 1
            simp
          unfold Instr.buildSlice
          by_cases h0 : n * it.size = 0
          · have hz0 : zc = #[] := by simp only [zc]; rw [if_pos (by rw [← hsize]; exact h0)]
            rw [hz0] at h3
            simp only [Sem.run_bind, run_underlying hu, Result.andThen_ok, sizeOf, typeInfo, run_program, hi, Sem.run_pure, if_neg hsmall, if_pos h0, h3, newRow, run_newObj, World.alloc_eq]
          · have hz0 : zc = z.cells := by simp only [zc]; rw [if_neg (by rw [← hsize]; exact h0)]
            rw [hz0] at h3
            simp only [Sem.run_bind, run_underlying hu, Result.andThen_ok, sizeOf, typeInfo, run_program, hi, Sem.run_pure, if_neg hsmall, if_neg h0, zeroValue, hzz, h3, newRow, run_newObj, World.alloc_eq]
        simp only [execOp, ho, Sem.run_bind, hb, Result.andThen_ok, Sem.run_pure]
      unfold Oper.wp
      rw [hrun, Oper.upon_value]
      have hm := h.mem.addG (vs := flat) (xs := flat.toArray) (e := e) (fun o v hv => by simpa using hv)
      have hI := h.of_mono (g' := g.addG w.heap.size flat) h.mem.G_mono (fun _ _ h => h) (fun _ _ _ h => h.2) hm
      refine hK _ _ (g.addG w.heap.size flat) ?_ (Fr.addG h.mem)
      rw [apply_val]
      cases hdst : o.dst with
      | none => exact hI
      | some d =>
        rw [hdst] at hd
        refine hI.put (fits_wr (dst := some d) (p := .full k l) hd d rfl) ?_ trivial
        simp only [PRel]
        refine ⟨?_, by intro a n c e; cases e; rfl, Plain.mk _ _ _ _⟩
        rw [← e1]
        refine DRel.sl_mk (Nat.le_refl _) fun i x hx j dd hdd => ?_
        obtain ⟨u, hu', hur⟩ := e4 i x hx j dd hdd
        refine ⟨u, ?_, hur.mono h.mem.G_mono⟩
        show (if w.heap.size = w.heap.size then flat[0 + i * L.sz k + j]? else _) = some u
        rw [if_pos rfl, Nat.zero_add]; exact hu'

end
end Go.Proofs.YtanfoijdfcnpoaaGreatDoor.Ev

set_option linter.unusedVariables false
set_option linter.unusedSimpArgs false
namespace Go.Proofs.YtanfoijdfcnpoaaGreatDoor.Ev

section
variable {S : Sig} {P : Program} {L : Lay S} {g : Gh} {st : St S} {a : Act} {w w' : World}

theorem DRel.one {G : Nat → Nat → Option Value} {d : DV S} {v : Value} (h : DRel L G d v) : v.oneCell' = true := by cases h <;> rfl

/-- A slice's cells, as a list. -/
theorem flat_cells {G : Nat → Nat → Option Value} {k : S.K} {l : List (S.El k)} {b o : Nat}
    (hrel : ∀ (i : Nat) (e : S.El k), l[i]? = some e → ∀ (j : Nat) (d : DV S), (L.cells k e)[j]? = some d → ∃ u, G b (o + i * L.sz k + j) = some u ∧ DRel L G d u) :
    ∃ flat : List Value, flat.length = l.length * L.sz k ∧ (∀ (j : Nat) (v : Value), flat[j]? = some v → G b (o + j) = some v ∧ v.oneCell' = true) ∧
      ∀ (i : Nat) (x : S.El k), l[i]? = some x → ∀ (j : Nat) (d : DV S), (L.cells k x)[j]? = some d → ∃ u, flat[i * L.sz k + j]? = some u ∧ DRel L G d u := by
  have get : ∀ q, q < l.length * L.sz k → ∃ u d, G b (o + q) = some u ∧ DRel L G d u := by
    intro q hq
    have hpos : 0 < L.sz k := by
      rcases Nat.eq_zero_or_pos (L.sz k) with h | h
      · rw [h] at hq; omega
      · exact h
    have hi : q / L.sz k < l.length := (Nat.div_lt_iff_lt_mul hpos).2 hq
    have hj : q % L.sz k < L.sz k := Nat.mod_lt _ hpos
    obtain ⟨u, hu, hr⟩ := hrel (q / L.sz k) _ (List.getElem?_eq_getElem hi) (q % L.sz k) _ (List.getElem?_eq_getElem (by rw [L.len]; exact hj))
    refine ⟨u, _, ?_, hr⟩
    rw [← hu]; congr 1
    have := Nat.div_add_mod q (L.sz k)
    rw [Nat.mul_comm] at this; omega
  refine ⟨(List.range (l.length * L.sz k)).map fun q => (G b (o + q)).getD undef, by simp, ?_, ?_⟩
  · intro j v hv
    have hj : j < l.length * L.sz k := by have := (List.getElem?_eq_some_iff.1 hv).1; simpa using this
    obtain ⟨u, d, hu, hr⟩ := get j hj
    simp [hj, hu] at hv
    subst hv
    exact ⟨hu, hr.one⟩
  · intro i x hx j d hd
    obtain ⟨u, hu, hr⟩ := hrel i x hx j d hd
    have hi : i < l.length := (List.getElem?_eq_some_iff.1 hx).1
    have hj : j < L.sz k := by have := (List.getElem?_eq_some_iff.1 hd).1; rwa [L.len] at this
    have hlt : i * L.sz k + j < l.length * L.sz k := by
      have : (i + 1) * L.sz k ≤ l.length * L.sz k := Nat.mul_le_mul_right _ hi
      rw [Nat.succ_mul] at this; omega
    refine ⟨u, ?_, hr⟩
    rw [List.getElem?_map, List.getElem?_range hlt]
    simp only [Option.map_some]
    rw [show o + (i * L.sz k + j) = o + i * L.sz k + j by omega, hu]; rfl

/-- What is appended: its cells. -/
theorem newEls_rel (h : MemInv L g st.mem w) {k : S.K} {q : PV S} {l' : List (S.El k)} (hn : newEls L k q = some l') {v : Value} (hv : PRel L g.β g.G q v) :
    ∃ flat : List Value, flat.length = l'.length * L.sz k ∧ (∀ u ∈ flat, u.oneCell' = true) ∧ (∀ w, (Builtin.lenOf v).run P w = .ok l'.length w) ∧
      (∀ w2 : World, w2.heap = w.heap → (Builtin.firstCells (L.sz k) l'.length v).run P w2 = .ok flat.toArray w2) ∧
      ∀ (i : Nat) (x : S.El k), l'[i]? = some x → ∀ (j : Nat) (d : DV S), (L.cells k x)[j]? = some d → ∃ u, flat[i * L.sz k + j]? = some u ∧ DRel L g.G d u := by
  unfold newEls at hn
  simp only at hn
  split at hn
  · rename_i k' l hd
    have hr := hv.dv hd
    split at hn
    · rename_i hk hk2
      subst hk
      cases hn
      rcases hr.sl_inv with ⟨rfl, rfl⟩ | ⟨rfl, ad, c, rfl⟩ | ⟨b, o, c, rfl, hc, hrel⟩
      · exact ⟨[], by simp, by simp, fun w => by simp [Builtin.lenOf], fun w2 _ => by simp [Builtin.firstCells], by simp⟩
      · exact ⟨[], by simp, by simp, fun w => by simp [Builtin.lenOf], fun w2 _ => by simp [Builtin.firstCells, loadCells, loadCellsFrom], by simp⟩
      · obtain ⟨flat, f1, f2, f3⟩ := flat_cells hrel
        refine ⟨flat, f1, fun u hu => ?_, fun w => by simp [Builtin.lenOf], fun w2 hw2 => ?_, f3⟩
        · obtain ⟨j, hj⟩ := List.getElem?_of_mem hu
          exact (f2 j u hj).2
        · refine run_firstCells_some w2 (L.sz k') l.length ⟨b, o, none⟩ _ _ flat f1 fun j v hv => ?_
          rw [add_mk]
          have := h.gs _ _ _ (f2 j v hv).1
          simpa [World.cell?, hw2] using this
    · cases hn
  · rename_i s hd
    have hr := hv.dv hd
    cases hr
    have hcell : ∀ (i : Nat) (x : S.El k), l'[i]? = some x → ∃ c, s.data.toList[i]? = some c ∧ L.cells k x = [.int .u8 c.toNat] := by
      intro i x hx
      have hlen : l'.length = s.data.toList.length := by
        clear hx
        generalize s.data.toList = bs at hn
        induction bs generalizing l' with
        | nil => simp at hn; subst hn; rfl
        | cons b r ih =>
          simp only [List.mapM_cons, Option.bind_eq_bind, Option.pure_def] at hn
          cases h1 : L.mkE k [.int .u8 b.toNat] with
          | none => simp [h1] at hn
          | some y =>
            cases h2 : r.mapM (fun b => L.mkE k [.int .u8 b.toNat]) with
            | none => simp [h1, h2] at hn
            | some r' => simp [h1, h2] at hn; subst hn; simp [ih h2]
      have hi : i < s.data.toList.length := by rw [← hlen]; exact (List.getElem?_eq_some_iff.1 hx).1
      obtain ⟨y, hy, hm⟩ := mapM_get hn (List.getElem?_eq_getElem hi)
      rw [hx] at hy; cases hy
      exact ⟨_, List.getElem?_eq_getElem hi, L.mk_cells _ _ _ hm⟩
    have hlen : l'.length = s.size := by
      have : l'.length = s.data.toList.length := by
        clear hcell
        generalize s.data.toList = bs at hn
        induction bs generalizing l' with
        | nil => simp at hn; subst hn; rfl
        | cons b r ih =>
          simp only [List.mapM_cons, Option.bind_eq_bind, Option.pure_def] at hn
          cases h1 : L.mkE k [.int .u8 b.toNat] with
          | none => simp [h1] at hn
          | some y =>
            cases h2 : r.mapM (fun b => L.mkE k [.int .u8 b.toNat]) with
            | none => simp [h1, h2] at hn
            | some r' => simp [h1, h2] at hn; subst hn; simp [ih h2]
      simpa using this
    have hsz : l' ≠ [] → L.sz k = 1 := by
      intro hne
      obtain ⟨x, r, rfl⟩ : ∃ x r, l' = x :: r := by cases l' with | nil => exact absurd rfl hne | cons x r => exact ⟨x, r, rfl⟩
      obtain ⟨c, _, hc⟩ := hcell 0 x rfl
      have := L.len k x; rw [hc] at this; simpa using this.symm
    refine ⟨s.data.toList.map fun b => .int .u8 b.toNat, ?_, ?_, fun w => by simp [Builtin.lenOf, hlen], fun w2 _ => ?_, ?_⟩
    · by_cases hne : l' = []
      · subst hne; simp only [List.length_nil] at hlen; simp only [List.length_map, List.length_nil, Nat.zero_mul, Array.length_toList]; exact hlen.symm
      · rw [hsz hne, Nat.mul_one, hlen]; simp
    · intro u hu; simp at hu; obtain ⟨b, _, rfl⟩ := hu; rfl
    · have : s.extract 0 l'.length = s := by rw [hlen]; simp
      simp [Builtin.firstCells, this]
      apply Array.ext'
      simp
    · intro i x hx j d hd
      obtain ⟨c, hc, hcl⟩ := hcell i x hx
      rw [hcl] at hd
      cases j with
      | succ j => simp at hd
      | zero =>
        simp at hd; subst hd
        refine ⟨.int .u8 c.toNat, ?_, .int _ _⟩
        rw [hsz (by rintro rfl; simp at hx), Nat.mul_one, Nat.add_zero, List.getElem?_map, hc]; rfl
  · cases hn

/-- The rights to a new block. -/
def Gh.addW (g : Gh) (N : Nat) (r : Rt) : Gh := { g with ω := fun b => if b = N then some r else g.ω b }

theorem appT_cases {u : TypeId} (hu : appT P u = true) : (∃ e', P.underlying u = some (.slice e')) ∨ P.underlying u = some .string := by
  unfold appT at hu
  split at hu
  · rename_i e' hu'; exact .inl ⟨e', hu'⟩
  · rename_i hu'; exact .inr hu'
  · cases hu

theorem run_append_fit (t u ty e : TypeId) (i : TypeInfo) (ht : P.underlying t = some (.slice e)) (hu : appT P u = true) (hi : P.info? e = some i)
    {base : Option Addr} {sLen sCap n : Nat} {x : Value} (hlen : ∀ w, (Builtin.lenOf x).run P w = .ok n w) {news : List Value}
    (hnew : ∀ w2 : World, w2.heap = w.heap → (Builtin.firstCells i.size n x).run P w2 = .ok news.toArray w2) (hfit : sLen + n ≤ sCap) {w1 : World}
    (hst : ∀ ad, base = some ad → (storeCells (ad.add (sLen * i.size)) news).run P w = .ok () w1) (hno : base = none → w1 = w) :
    (Builtin.append_ #[t, u] ty #[.slice base sLen sCap, x]).run P w = .ok (.slice base (sLen + n) sCap) w1 := by
  have h1 := hnew w rfl
  have h2 := hlen w
  cases base with
  | none =>
    cases hno rfl
    rcases appT_cases hu with ⟨e', hu'⟩ | hu' <;>
      simp [Builtin.append_, run_underlying ht, run_underlying hu', sizeOf, typeInfo, hi, h1, h2, hfit]
  | some ad =>
    have h3 := hst ad rfl
    rcases appT_cases hu with ⟨e', hu'⟩ | hu' <;>
      simp [Builtin.append_, run_underlying ht, run_underlying hu', sizeOf, typeInfo, hi, h1, h2, hfit, h3]

theorem run_append_grows (t u ty e : TypeId) (i : TypeInfo) (z : Value) (ht : P.underlying t = some (.slice e)) (hu : appT P u = true) (hi : P.info? e = some i) (hz : i.zero = some z)
    {base : Option Addr} {sLen sCap n : Nat} {x : Value} (hb1 : 1 ≤ i.bytes) (hb : (sLen + n) * i.bytes ≤ 140737488355328) (hlen : ∀ w, (Builtin.lenOf x).run P w = .ok n w)
    {olds news : List Value} (hold : ∀ w2 : World, w2.heap = w.heap → (Builtin.firstCells i.size sLen (.slice base sLen sCap)).run P w2 = .ok olds.toArray w2)
    (hnew : ∀ w2 : World, w2.heap = w.heap → (Builtin.firstCells i.size n x).run P w2 = .ok news.toArray w2) (hfit : ¬ sLen + n ≤ sCap) :
    (Builtin.append_ #[t, u] ty #[.slice base sLen sCap, x]).run P w = .ok (.slice (some ⟨w.heap.size, 0, none⟩) (sLen + n) (grownCap w (sLen + n) sCap e))
        (w.drew.alloc (.cells (olds ++ (news ++ (Builtin.zeroCells z.cells (grownCap w (sLen + n) sCap e - (sLen + n))).toList)).toArray e)) := by
  have h1 := hnew w.drew rfl
  have h2 := hlen w
  have h3 := hold w.drew rfl
  have hle : sLen + n ≤ 140737488355328 := Nat.le_trans (Nat.le_mul_of_pos_right _ hb1) hb
  have h0 : ¬ i.bytes = 0 := by omega
  have h48' : ¬ (281474976710656 < Builtin.nextslicecap (sLen + n) sCap * i.bytes) := by
    have := growslice_fits (need := sLen + n) (old := sCap) (bytes := i.bytes) (by omega) hb
    omega
  rcases appT_cases hu with ⟨e', hu'⟩ | hu' <;>
    (simp [Builtin.append_, run_underlying ht, run_underlying hu', sizeOf, typeInfo, zeroValue, hi, hz, h1, h2, hfit, h3, h0, h48', Question.forced, newRow, grownCap]; try (congr 2; apply Array.ext'; simp))

end
end Go.Proofs.YtanfoijdfcnpoaaGreatDoor.Ev

set_option linter.unusedVariables false
set_option linter.unusedSimpArgs false
namespace Go.Proofs.YtanfoijdfcnpoaaGreatDoor.Ev

section
variable {S : Sig} {P : Program} {L : Lay S} {g : Gh} {st : St S} {a : Act} {w w' : World}

theorem upd_upd (s : Nat → PV S) (i : Nat) (p q : PV S) : upd (upd s i p) i q = upd s i q := by
  funext j
  by_cases h : j = i
  · subst h; rw [upd_same, upd_same]
  · rw [upd_other _ _ h, upd_other _ _ h, upd_other _ _ h]

theorem Inv.slotAs (h : Inv L g st a w) {d : Nat} {p : PV S} (hp : SRel L g (.slot d) p (a.tmps.getD d undef)) : Inv L g { st with slots := upd st.slots d p } a w where
  size := h.size
  slot i := by
    by_cases hi : i = d
    · subst hi; simp only [upd_same]; exact hp
    · show SRel L g (.slot i) (upd st.slots d p i) _
      rw [upd_other _ _ hi]; exact h.slot i
  mem := h.mem
  dfs := h.dfs

theorem OwnOk.addW {pos : Pos} {x : PV S} {v : Value} {N : Nat} {r : Rt} (h : OwnOk L g.ω pos x v) (hne : ∀ r0, g.ω N = some r0 → r0.pos ≠ pos) : OwnOk L (g.addW N r).ω pos x v := by
  cases x <;> simp only [OwnOk] at h ⊢
  intro a n c hv hn
  obtain ⟨r1, h1, h2, h3, h4⟩ := h a n c hv hn
  refine ⟨r1, ?_, h2, h3, h4⟩
  show (if a.block = N then _ else g.ω a.block) = some r1
  rw [if_neg]
  · exact h1
  · rintro rfl; exact hne r1 h1 h2

theorem MemInv.drew {m : Mem S} (h : MemInv L g m w) : MemInv L g m w.drew := h.of_heap fun _ _ => rfl

theorem MemInv.addW {m : Mem S} (h : MemInv L g m w) {N : Nat} {r : Rt} (hN : L.fixB N = false) (hω : g.ω N = none) (hβ : ∀ c, g.β c ≠ some N) {cs : Array Value} {ty : TypeId} (hg : w.heap[N]? = some (.cells cs ty (0, 0)))
    (ht : r.top ≤ cs.size) (hG : ∀ o, r.e ≤ o → g.G N o = none) : MemInv L (g.addW N r) m w where
  cell c ps hc := by
    obtain ⟨b, vs, ty, e1, e2, e3, e4⟩ := h.cell c ps hc
    refine ⟨b, vs, ty, e1, e2, e3, fun j p hp => ?_⟩
    obtain ⟨v, hv, hr⟩ := e4 j p hp
    exact ⟨v, hv, hr.1, hr.2.addW (fun r0 h0 => by rw [hω] at h0; cases h0)⟩
  dom := h.dom
  inj := h.inj
  βG := h.βG
  gs := h.gs
  wok := h.wok_sub (fun c b hb => .inl ⟨c, hb⟩) (fun b _ hf hb => by
    show (if b = N then some r else g.ω b) = none
    rw [if_neg (by rintro rfl; rw [hN] at hf; cases hf)]; exact hb) (fun _ _ _ _ h => h)
  rt b r' hr := by
    change (if b = N then some r else g.ω b) = some r' at hr
    split at hr
    · rename_i hb; subst hb; cases hr
      exact ⟨hβ, ⟨cs, ty, hg, ht⟩, hG⟩
    · exact h.rt b r' hr

/-- In place: a row grows by news, at the end of what is used. -/
def Gh.grow (g : Gh) (b : Nat) (r : Rt) (news : List Value) (q : Pos) : Gh :=
  { g with
    G := fun b' o => if b' = b ∧ r.e ≤ o ∧ o < r.e + news.length then news[o - r.e]? else g.G b' o
    ω := fun b' => if b' = b then some { pos := q, e := r.e + news.length, top := r.top } else g.ω b' }

theorem grow_mono {m : Mem S} (h : MemInv L g m w) {b : Nat} {r : Rt} (hr : g.ω b = some r) (news : List Value) (q : Pos) : ∀ b' o v, g.G b' o = some v → (g.grow b r news q).G b' o = some v := by
  intro b' o v hv
  show (if b' = b ∧ r.e ≤ o ∧ o < r.e + news.length then _ else g.G b' o) = some v
  rw [if_neg]
  · exact hv
  · rintro ⟨rfl, h1, _⟩
    rw [(h.rt b' r hr).2.2 o h1] at hv; cases hv

theorem MemInv.grow {m : Mem S} (h : MemInv L g m w) {b : Nat} {r : Rt} (hr : g.ω b = some r) (hpos : ∀ c j, r.pos ≠ .cell c j) {news : List Value} {q : Pos} {cur : Array Value} {ty : TypeId}
    (hg : w.heap[b]? = some (.cells cur ty (0, 0))) (ht : r.top ≤ cur.size) (hfit : r.e + news.length ≤ r.top) :
    MemInv L (g.grow b r news q) m (w.setRow b (cur.toList.take r.e ++ news ++ cur.toList.drop (r.e + news.length)).toArray) where
  cell c ps hc := by
    obtain ⟨b', vs, ty', e1, e2, e3, e4⟩ := h.cell c ps hc
    have hbb : b' ≠ b := fun e => (h.rt b r hr).1 c (e ▸ e1)
    refine ⟨b', vs, ty', e1, (setRow_other w b b' _ hbb).trans e2, e3, fun j p hp => ?_⟩
    obtain ⟨v, hv, hvr⟩ := e4 j p hp
    refine ⟨v, hv, hvr.1.mono (grow_mono h hr news q) (fun _ _ h => h), ?_⟩
    have h2 := hvr.2
    cases p <;> simp only [OwnOk] at h2 ⊢
    intro a n c' hv' hn
    obtain ⟨r1, h1, h2', h3, h4⟩ := h2 a n c' hv' hn
    refine ⟨r1, ?_, h2', h3, h4⟩
    show (if a.block = b then _ else g.ω a.block) = some r1
    rw [if_neg]
    · exact h1
    · intro e; rw [e, hr] at h1; cases h1; exact hpos c j h2'
  wok := h.wok_sub (fun c b hb => .inl ⟨c, hb⟩)
    (fun b' _ _ hb => by
      show (if b' = b then _ else g.ω b') = none
      rw [if_neg (by rintro rfl; rw [hr] at hb; cases hb)]; exact hb)
    (fun b' o _ hω hb' => (setRow_other w b b' _ (by rintro rfl; rw [hr] at hω; cases hω)).trans hb')
  dom := h.dom
  inj := h.inj
  βG c b' hb' o := by
    show (if b' = b ∧ r.e ≤ o ∧ o < r.e + news.length then _ else g.G b' o) = none
    rw [if_neg]
    · exact h.βG c b' hb' o
    · rintro ⟨rfl, _⟩; exact (h.rt b' r hr).1 c hb'
  gs b' o v hv := by
    change (if b' = b ∧ r.e ≤ o ∧ o < r.e + news.length then news[o - r.e]? else g.G b' o) = some v at hv
    have hlen : r.e + news.length ≤ cur.toList.length := by simp; omega
    split at hv
    · rename_i hc
      obtain ⟨rfl, h1, h2⟩ := hc
      rw [cell_setRow_same w b' o cur _ ty (0, 0) hg, List.getElem?_toArray, putAtV_get hlen, if_neg (by omega), if_pos h2]; exact hv
    · rename_i hc
      by_cases hb : b' = b
      · subst hb
        have h1 := h.gs b' o v hv
        rw [cell_setRow_same w b' o cur _ ty (0, 0) hg, List.getElem?_toArray, putAtV_get hlen]
        simp only [World.cell?, hg, Option.isSome_none, Bool.false_eq_true, if_false] at h1
        by_cases c1 : o < r.e
        · rw [if_pos c1]; simpa using h1
        · rw [if_neg c1, if_neg (by intro c2; exact hc ⟨rfl, by omega, c2⟩)]; simpa using h1
      · rw [cell_setRow_other w b _ ⟨b', o, none⟩ hb]; exact h.gs b' o v hv
  rt b' r' hr' := by
    change (if b' = b then _ else g.ω b') = some r' at hr'
    split at hr'
    · rename_i hb; subst hb; cases hr'
      obtain ⟨h1, _, h3⟩ := h.rt b' r hr
      refine ⟨h1, ⟨_, ty, setRow_heap w b' cur _ ty (0, 0) hg, by simp; omega⟩, fun o ho => ?_⟩
      show (if b' = b' ∧ r.e ≤ o ∧ o < r.e + news.length then _ else g.G b' o) = none
      change r.e + news.length ≤ o at ho
      rw [if_neg (by omega)]; exact h3 o (by omega)
    · rename_i hb
      obtain ⟨h1, ⟨cs, ty', h2, h3⟩, h4⟩ := h.rt b' r' hr'
      refine ⟨h1, ⟨cs, ty', (setRow_other w b b' _ hb).trans h2, h3⟩, fun o ho => ?_⟩
      show (if b' = b ∧ r.e ≤ o ∧ o < r.e + news.length then _ else g.G b' o) = none
      rw [if_neg (fun h => hb h.1)]; exact h4 o ho

theorem Fr.grow {m : Mem S} (h : MemInv L g m w) {b : Nat} {r : Rt} (hr : g.ω b = some r) (news : List Value) (q : Pos) (cs : Array Value) : Fr g w (g.grow b r news q) (w.setRow b cs) := by
  refine ⟨rfl, rfl, rfl, by simp, fun b' hb' hβ hω => ?_, grow_mono h hr news q, fun _ _ h => h, fun _ _ h => .inl h⟩
  have hbb : b' ≠ b := by rintro rfl; rw [hr] at hω; cases hω
  refine ⟨setRow_other w b b' cs hbb, fun o => ?_, ?_⟩
  · show (if b' = b ∧ _ then _ else g.G b' o) = g.G b' o
    rw [if_neg (fun h => hbb h.1)]
  · show (if b' = b then _ else g.ω b') = none
    rw [if_neg hbb]; exact hω

theorem Fr.addW (g : Gh) {w0 w : World} {g0 : Gh} (h : Fr g0 w0 g w) {N : Nat} {r : Rt} (hN : w0.heap.size ≤ N) : Fr g0 w0 (g.addW N r) w :=
  ⟨h.os, h.tape, h.output, h.size, fun b hb hβ hω => by
    obtain ⟨e1, e2, e3⟩ := h.keep b hb hβ hω
    refine ⟨e1, e2, ?_⟩
    show (if b = N then _ else g.ω b) = none
    rw [if_neg (by omega)]; exact e3, h.gmono, h.βmono, h.βnew⟩

theorem Fr.drew (g : Gh) (w : World) : Fr g w g w.drew := ⟨rfl, rfl, rfl, Nat.le_refl _, fun b _ _ h => ⟨rfl, fun _ => rfl, h⟩, fun _ _ _ h => h, fun _ _ h => h, fun _ _ h => .inl h⟩

theorem Inv.mvRes (h : Inv L g st a w) (q : Pos) : Inv L (g.mv .res q) st a w := by
  refine ⟨h.size, fun i => (h.slot i).mv_other (by simp), ?_, h.dfs⟩
  refine ⟨fun c ps hc => ?_, h.mem.dom, h.mem.inj, h.mem.βG, h.mem.gs, fun b r hr => ?_, h.mem.wok_sub (fun c b hb => .inl ⟨c, hb⟩) (fun b _ _ hb => by simp [Gh.mv, hb]) (fun _ _ _ _ h => h)⟩
  · obtain ⟨b, vs, ty, e1, e2, e3, e4⟩ := h.mem.cell c ps hc
    refine ⟨b, vs, ty, e1, e2, e3, fun j p hp => ?_⟩
    obtain ⟨v, hv, hr⟩ := e4 j p hp
    exact ⟨v, hv, hr.mv_other (by simp)⟩
  · simp only [Gh.mv] at hr
    cases hw : g.ω b with
    | none => simp [hw] at hr
    | some r0 =>
      simp [hw] at hr
      obtain ⟨e1, e2, e3⟩ := h.mem.rt b r0 hw
      refine ⟨e1, ?_, ?_⟩
      · obtain ⟨cs, ty, f1, f2⟩ := e2
        refine ⟨cs, ty, f1, ?_⟩
        rw [← hr]; split <;> exact f2
      · intro o ho
        refine e3 o ?_
        rw [← hr] at ho; split at ho <;> exact ho

def posOf : Option Nat → Pos
  | some d => .slot d
  | none => .res

theorem updL_app (s : Nat → PV S) (x : List (Nat × PV S)) (d : Nat) (p : PV S) : updL s (x ++ wr (some d) p) = upd (updL s x) d p := by
  induction x generalizing s with
  | nil => rfl
  | cons q r ih => obtain ⟨i, q⟩ := q; exact ih _

theorem step_append (h : Inv L g st a w) {o : Oper} {c : Call} (ho : o.op = .call c) (hc : c.callee = .builtin .append) {t u e : TypeId} {x y : Operand} (hts : c.argTypes.toList = [t, u]) (hxs : c.args.toList = [x, y])
    (ht : P.underlying t = some (.slice e)) (hu : appT P u = true) {i : TypeInfo} {z : Value} (hi : P.info? e = some i) (hz : i.zero = some z) {k : S.K} {l l' : List (S.El k)} (hsz : i.size = L.sz k) (hb1 : 1 ≤ i.bytes)
    (hzs : z.cells.size = i.size) {p q : PV S} (hp : rdRaw P L st t x = some p) (hpk : p = .own k l ∨ p = .full k l) (hq : rd P L st u y = some q) (hn : newEls L k q = some l')
    (hb : (l.length + l'.length) * i.bytes ≤ 140737488355328) (hd : fits st.nt (took st x ++ wr o.dst (.own k (l ++ l'))) = true) :
    StepOk P L g w st o a (.ok { w := took st x ++ wr o.dst (.own k (l ++ l')) }) := by
  intro K Q hK
  have ht' : c.argTypes = #[t, u] := by apply Array.ext'; simpa using hts
  have hx' : c.args = #[x, y] := by apply Array.ext'; simpa using hxs
  obtain ⟨from_, hf, hsr, hI1⟩ := h.giveTo hp .res (by simp)
  have hown := hsr.2.mv_self (q := .res)
  have hdata : DRel L g.G (.sl k l) (a.eval x) := by
    rcases hpk with rfl | rfl
    · have := hsr.1; simp only [PRel] at this; exact this.1
    · have := hsr.1; simp only [PRel] at this; exact this.1
  have hplain : Plain (a.eval x) := by
    rcases hpk with rfl | rfl
    · have := hsr.1; simp only [PRel] at this; exact this.2
    · have := hsr.1; simp only [PRel] at this; exact this.2.2
  have hFr1 : Fr g w (g.mv from_ .res) w := Fr.mv g w _ _
  generalize hg1 : g.mv from_ .res = g1 at hI1 hown hFr1
  have hG1 : g1.G = g.G := by rw [← hg1]; rfl
  have hβ1 : g1.β = g.β := by rw [← hg1]; rfl
  obtain ⟨news, n1, n2, n3, n4, n5⟩ := newEls_rel (P := P) hI1.mem hn (v := a.eval y) (by rw [hβ1, hG1]; exact (rd_rel h hq).1)
  rw [hG1] at n5
  have hexec : ∀ (v : Value) (w1 : World), (Builtin.append_ #[t, u] o.type #[a.eval x, a.eval y]).run P w = .ok v w1 → (execOp a.eval o).run P w = .ok (.value v) w1 := by
    intro v w1 hv
    simp [execOp, ho, resolve, hc, ht', hx', invoke, builtin, hv]
  -- from an invariant behind the operation to the end
  have fin : ∀ (v : Value) (w1 : World) (g2 : Gh), (Builtin.append_ #[t, u] o.type #[a.eval x, a.eval y]).run P w = .ok v w1 →
      Inv L g2 { st with slots := updL st.slots (took st x) } a w1 → Fr g w g2 w1 → SRel L g2 (posOf o.dst) (.own k (l ++ l')) v → o.wp P a w K Q := by
    intro v w1 g2 hrun hInv hfr hs
    unfold Oper.wp
    rw [hexec v w1 hrun, Oper.upon_value]
    refine hK _ _ g2 ?_ hfr
    rw [apply_w]
    cases hdst : o.dst with
    | none => simp only [wr, List.append_nil]; exact hInv
    | some d =>
      rw [hdst] at hd hs
      rw [updL_app]
      exact hInv.put (fits_wr (dst := some d) (fits_app hd).2 d rfl) hs.1 hs.2
  rw [hsz] at hzs
  rcases hdata.sl_plain hplain with ⟨rfl, ev⟩ | ⟨b, q0, cap, ev, hcap, hrel⟩
  · -- the nil slice
    rw [ev] at fin hown
    by_cases h0 : l' = []
    · subst h0
      simp at n1
      subst n1
      refine fin (.slice none 0 0) w (g1.mv .res (posOf o.dst)) ?_ (hI1.mvRes _) (hFr1.trans (Fr.mv g1 w _ _)) ⟨by simp only [PRel]; exact ⟨.nil k, Plain.nil⟩, by intro a n c hv; cases hv⟩
      exact run_append_fit t u o.type e i ht hu hi n3 (hsz ▸ n4) (by simp) (by simp) (fun _ => rfl)
    · have hpos : 0 < l'.length := by cases l' with | nil => exact absurd rfl h0 | cons => simp
      have hgrow := run_append_grows (P := P) (w := w) t u o.type e i z ht hu hi hz (base := none) (sLen := 0) (sCap := 0) hb1 (by simpa using hb) n3 (olds := []) (fun w2 _ => by simp [Builtin.firstCells]) (hsz ▸ n4) (by omega)
      simp only [Nat.zero_add, List.nil_append] at hgrow
      have hcapge : l'.length ≤ grownCap w l'.length 0 e := by unfold grownCap; simp only [Question.cut]; omega
      have hm := hI1.mem.drew.addG (vs := news) (xs := (news ++ (Builtin.zeroCells z.cells (grownCap w l'.length 0 e - l'.length)).toList).toArray) (e := e) (fun j v hv => by
        rw [List.getElem?_toArray, List.getElem?_append_left (List.getElem?_eq_some_iff.1 hv).1]; exact hv)
      have hN : w.drew.heap.size = w.heap.size := rfl
      have hm2 := hm.addW (N := w.heap.size) (r := ⟨posOf o.dst, l'.length * L.sz k, grownCap w l'.length 0 e * L.sz k⟩) hI1.mem.fresh
        (by
          cases hw : g1.ω w.heap.size with
          | none => exact hw
          | some r => exact absurd (hI1.mem.ω_lt hw) (by omega))
        (fun c hcc => absurd (hI1.mem.β_lt hcc) (by omega))
        (heap_alloc_new w.drew _)
        (by
          simp only [List.size_toArray, List.length_append, n1, Array.length_toList, Builtin.zeroCells, Array.size_map, Array.size_range, hzs]
          rw [← Nat.add_mul]; exact Nat.mul_le_mul_right _ (by omega))
        (fun j hj => by
          show (if w.heap.size = w.heap.size then news[j]? else _) = none
          rw [if_pos rfl, List.getElem?_eq_none]; simp only at hj; omega)
      have hI2 := (Inv.of_mono (w := w) hI1 (g' := (g1.addG w.heap.size news).addW w.heap.size ⟨posOf o.dst, l'.length * L.sz k, grownCap w l'.length 0 e * L.sz k⟩)
        hI1.mem.drew.G_mono (fun _ _ h => h) (fun j p v hv => (hv.2.addW (fun r0 h0 => absurd (hI1.mem.ω_lt h0) (by omega)))) hm2)
      refine fin _ _ _ hgrow hI2 (hFr1.trans ((Fr.drew g1 w).trans (Fr.addW _ (Fr.addG hI1.mem.drew) (Nat.le_refl _)))) ⟨?_, ?_⟩
      · simp only [PRel, List.nil_append]
        refine ⟨?_, Plain.mk _ _ _ _⟩
        refine DRel.sl_mk hcapge fun j x hx jj d hdd => ?_
        obtain ⟨u', hu', hur⟩ := n5 j x hx jj d hdd
        refine ⟨u', ?_, hur.mono (fun b o v hv => hI1.mem.drew.G_mono b o v (by rw [hG1]; exact hv))⟩
        show (if w.heap.size = w.heap.size then news[0 + j * L.sz k + jj]? else _) = some u'
        rw [if_pos rfl, Nat.zero_add]; exact hu'
      · intro ad n c hv hlt
        cases hv
        exact ⟨_, if_pos rfl, rfl, by simp, by simp⟩
  · rw [ev] at fin hown
    obtain ⟨olds, o1, o2, o3⟩ := flat_cells hrel
    have hcat : ∀ (flat : List Value), flat = olds ++ news → ∀ (i : Nat) (x : S.El k), (l ++ l')[i]? = some x → ∀ (j : Nat) (d : DV S), (L.cells k x)[j]? = some d → ∃ u, flat[i * L.sz k + j]? = some u ∧ DRel L g.G d u := by
      intro flat hfl i x hx j d hd
      subst hfl
      by_cases hlt : i < l.length
      · rw [List.getElem?_append_left hlt] at hx
        obtain ⟨u', hu', hur⟩ := o3 i x hx j d hd
        exact ⟨u', by rw [List.getElem?_append_left (List.getElem?_eq_some_iff.1 hu').1]; exact hu', hur⟩
      · rw [List.getElem?_append_right (by omega)] at hx
        obtain ⟨u', hu', hur⟩ := n5 _ x hx j d hd
        refine ⟨u', ?_, hur⟩
        have e1 : i * L.sz k = l.length * L.sz k + (i - l.length) * L.sz k := by rw [← Nat.add_mul]; congr 1; omega
        rw [List.getElem?_append_right (by omega), o1, ← hu']
        congr 1; omega
    by_cases hfit : l.length + l'.length ≤ cap
    · by_cases h0 : l' = []
      · subst h0
        simp at n1
        subst n1
        refine fin (.slice (some ⟨b, q0, none⟩) l.length cap) w (g1.mv .res (posOf o.dst)) ?_ (hI1.mvRes _) (hFr1.trans (Fr.mv g1 w _ _)) ⟨?_, ?_⟩
        · exact run_append_fit t u o.type e i ht hu hi n3 (hsz ▸ n4) hfit (by intro ad _; rfl) (fun hh => by cases hh)
        · simp only [PRel, List.append_nil]
          refine ⟨?_, Plain.mk _ _ _ _⟩
          rw [ev] at hdata
          exact hdata.mono (fun _ _ _ h => by show g1.G _ _ = _; rw [hG1]; exact h)
        · rw [List.append_nil]
          rcases hpk with rfl | rfl
          · exact hown.mv_self
          · intro ad n c hv hlt
            have := hsr.1; simp only [PRel] at this
            rw [ev] at this
            have := this.2.1 _ _ _ rfl
            cases hv; omega
      · have hpos : 0 < l'.length := by cases l' with | nil => exact absurd rfl h0 | cons => simp
        have hp' : p = .own k l := by
          rcases hpk with rfl | rfl
          · rfl
          · have := hsr.1; simp only [PRel] at this
            rw [ev] at this
            have := this.2.1 _ _ _ rfl
            omega
        subst hp'
        obtain ⟨r, hr, hrp, hre, hrt⟩ := hown ⟨b, q0, none⟩ l.length cap rfl (by omega)
        simp only at hr hre hrt
        obtain ⟨hrβ, ⟨cur, ty, hcur, htop⟩, hrG⟩ := hI1.mem.rt b r hr
        have hspace : r.e + news.length ≤ r.top := by
          rw [n1, hre, Nat.add_assoc, ← Nat.add_mul]
          exact Nat.le_trans (Nat.add_le_add_left (Nat.mul_le_mul_right _ hfit) _) hrt
        have hst := run_storeCells_at P b r.e ty news 0 cur w hcur (by omega) n2
        simp only [Nat.add_zero] at hst
        have hrun := run_append_fit (P := P) (w := w) (base := some ⟨b, q0, none⟩) (sLen := l.length) t u o.type e i ht hu hi n3 (hsz ▸ n4) hfit
          (w1 := w.setRow b (cur.toList.take r.e ++ news ++ cur.toList.drop (r.e + news.length)).toArray)
          (by intro ad had; cases had; rw [add_mk, hsz, ← hre]; exact hst) (fun hh => by cases hh)
        have hm := hI1.mem.grow (q := posOf o.dst) hr (by rw [hrp]; simp) hcur htop hspace
        have hI2 := Inv.of_mono (w := w) hI1 (g' := g1.grow b r news (posOf o.dst)) (grow_mono hI1.mem hr news _) (fun _ _ h => h) (fun j p v hv => by
          have h2 := hv.2
          cases p <;> simp only [OwnOk] at h2 ⊢
          intro a' n c' hv' hn'
          obtain ⟨r1, f1, f2, f3, f4⟩ := h2 a' n c' hv' hn'
          refine ⟨r1, ?_, f2, f3, f4⟩
          show (if a'.block = b then _ else g1.ω a'.block) = some r1
          rw [if_neg]
          · exact f1
          · intro ee; rw [ee, hr] at f1; cases f1; rw [hrp] at f2; cases f2) hm
        refine fin _ _ _ hrun hI2 (hFr1.trans (Fr.grow hI1.mem hr news _ _)) ⟨?_, ?_⟩
        · simp only [PRel]
          refine ⟨?_, Plain.mk _ _ _ _⟩
          have hll : (l ++ l').length = l.length + l'.length := by simp
          rw [← hll]
          refine DRel.sl_mk (by rw [hll]; exact hfit) fun i' x hx j d hdd => ?_
          by_cases hlt : i' < l.length
          · rw [List.getElem?_append_left hlt] at hx
            obtain ⟨u', hu', hur⟩ := hrel i' x hx j d hdd
            exact ⟨u', grow_mono hI1.mem hr news _ _ _ _ (by rw [hG1]; exact hu'), hur.mono (fun b o v hv => grow_mono hI1.mem hr news _ _ _ _ (by rw [hG1]; exact hv))⟩
          · rw [List.getElem?_append_right (by omega)] at hx
            obtain ⟨u', hu', hur⟩ := n5 _ x hx j d hdd
            have e1 : i' * L.sz k = l.length * L.sz k + (i' - l.length) * L.sz k := by rw [← Nat.add_mul]; congr 1; omega
            have hlt2 := (List.getElem?_eq_some_iff.1 hu').1
            refine ⟨u', ?_, hur.mono (fun b o v hv => grow_mono hI1.mem hr news _ _ _ _ (by rw [hG1]; exact hv))⟩
            show (if b = b ∧ r.e ≤ q0 + i' * L.sz k + j ∧ q0 + i' * L.sz k + j < r.e + news.length then news[q0 + i' * L.sz k + j - r.e]? else _) = some u'
            rw [if_pos ⟨rfl, by omega, by omega⟩, ← hu']
            congr 1; omega
        · intro ad n c hv hlt
          cases hv
          refine ⟨_, if_pos rfl, rfl, ?_, ?_⟩
          · simp only [List.length_append]; rw [hre, n1, Nat.add_mul]; omega
          · exact hrt
    · have hold : ∀ w2 : World, w2.heap = w.heap → (Builtin.firstCells i.size l.length (.slice (some ⟨b, q0, none⟩) l.length cap)).run P w2 = .ok olds.toArray w2 := by
        intro w2 hw2
        rw [hsz]
        refine run_firstCells_some w2 (L.sz k) l.length ⟨b, q0, none⟩ _ _ olds o1 fun j v hv => ?_
        rw [add_mk]
        have := h.mem.gs _ _ _ (o2 j v hv).1
        simpa [World.cell?, hw2] using this
      have hgrow := run_append_grows (P := P) (w := w) t u o.type e i z ht hu hi hz (base := some ⟨b, q0, none⟩) (sLen := l.length) (sCap := cap) hb1 hb n3 hold (hsz ▸ n4) hfit
      generalize hgc : grownCap w (l.length + l'.length) cap e = nc at hgrow
      have hcapge : l.length + l'.length ≤ nc := by rw [← hgc]; unfold grownCap; simp only [Question.cut]; omega
      have hflen : (olds ++ news).length = (l.length + l'.length) * L.sz k := by simp [o1, n1, Nat.add_mul]
      have hm := hI1.mem.drew.addG (vs := olds ++ news) (xs := (olds ++ (news ++ (Builtin.zeroCells z.cells (nc - (l.length + l'.length))).toList)).toArray) (e := e) (fun j v hv => by
        rw [List.getElem?_toArray, ← List.append_assoc, List.getElem?_append_left (List.getElem?_eq_some_iff.1 hv).1]; exact hv)
      have hN : w.drew.heap.size = w.heap.size := rfl
      have hm2 := hm.addW (N := w.heap.size) (r := ⟨posOf o.dst, (l.length + l'.length) * L.sz k, nc * L.sz k⟩) hI1.mem.fresh
        (by
          cases hw : g1.ω w.heap.size with
          | none => exact hw
          | some r => exact absurd (hI1.mem.ω_lt hw) (by omega))
        (fun c hcc => absurd (hI1.mem.β_lt hcc) (by omega))
        (heap_alloc_new w.drew _)
        (by
          simp only [List.size_toArray, List.length_append, n1, o1, Array.length_toList, Builtin.zeroCells, Array.size_map, Array.size_range, hzs]
          rw [← Nat.add_mul, ← Nat.add_mul]; exact Nat.mul_le_mul_right _ (by omega))
        (fun j hj => by
          show (if w.heap.size = w.heap.size then (olds ++ news)[j]? else _) = none
          rw [if_pos rfl, List.getElem?_eq_none]; simp only at hj; omega)
      have hI2 := (Inv.of_mono (w := w) hI1 (g' := (g1.addG w.heap.size (olds ++ news)).addW w.heap.size ⟨posOf o.dst, (l.length + l'.length) * L.sz k, nc * L.sz k⟩)
        hI1.mem.drew.G_mono (fun _ _ h => h) (fun j p v hv => (hv.2.addW (fun r0 h0 => absurd (hI1.mem.ω_lt h0) (by omega)))) hm2)
      refine fin _ _ _ hgrow hI2 (hFr1.trans ((Fr.drew g1 w).trans (Fr.addW _ (Fr.addG hI1.mem.drew) (Nat.le_refl _)))) ⟨?_, ?_⟩
      · simp only [PRel]
        refine ⟨?_, Plain.mk _ _ _ _⟩
        have hll : (l ++ l').length = l.length + l'.length := by simp
        rw [← hll]
        refine DRel.sl_mk (by rw [hll]; exact hcapge) fun j x hx jj d hdd => ?_
        obtain ⟨u', hu', hur⟩ := hcat _ rfl j x hx jj d hdd
        refine ⟨u', ?_, hur.mono (fun b o v hv => hI1.mem.drew.G_mono b o v (by rw [hG1]; exact hv))⟩
        show (if w.heap.size = w.heap.size then (olds ++ news)[0 + j * L.sz k + jj]? else _) = some u'
        rw [if_pos rfl, Nat.zero_add]; exact hu'
      · intro ad n c hv hlt
        cases hv
        exact ⟨_, if_pos rfl, rfl, by simp, by simp⟩

/-! ### Panics and deferred calls -/

theorem step_panic (h : Inv L g st a w) {o : Oper} {x : Operand} (ho : o.op = .panic x) {t : TypeId} {p : PV S} (hx : rd P L st 0 x = some (.iface t p)) :
    StepOk P L g w st o a (.pan (.iface t p) {}) := by
  intro K Q hK
  have hr := (rd_rel h hx).1
  have hr' := hr
  simp only [PRel] at hr
  obtain ⟨u, hu, _⟩ := hr
  have hrun : (execOp a.eval o).run P w = .halt (.panic (.iface t u)) w := by
    simp [execOp, ho, hu, Instr.panic]
  unfold Oper.wp
  rw [hrun, Oper.upon_panic]
  refine hK w (.iface t u) g (by rw [← hu]; exact hr') ?_ h.dfs (Fr.refl g w)
  simpa [Eff.apply, setL] using h.mem

theorem step_defer (h : Inv L g st a w) {o : Oper} {c : Call} (ho : o.op = .defer c) {f : Operand} (hc : c.callee = .value f) {fd : FuncId} {fst cap : List (PV S)} (hf : rd P L st 0 f = some (.fn (.func fd) fst cap))
    {ps : List (PV S)} (hps : rdAll P L st c.argTypes.toList c.args.toList = some ps) (hd : fits st.nt (wr o.dst (.bot : PV S)) = true) (hmk : Nat.beq fd markId = false) :
    StepOk P L g w st o a (.ok { w := wr o.dst .bot, df := [(fd, fst ++ ps.map PV.norm ++ cap)] }) := by
  intro K Q hK
  have hfr := (rd_rel h hf).1
  simp only [PRel] at hfr
  obtain ⟨va, vb, hfv, ha, hb⟩ := hfr
  have hargs := (rdAll_rel h hps).1.map (fun _ _ => PRel.norm)
  have hrun : (execOp a.eval o).run P w = .ok (.defer { target := .fn (.func fd) vb.toArray, args := va.toArray ++ c.args.map a.eval }) w := by
    simp [execOp, ho, resolve, hc, hfv, Deferred.ofValue]
  unfold Oper.wp
  rw [hrun, Oper.upon_defer]
  have hI : Inv L g { st with dfs := (fd, fst ++ ps.map PV.norm ++ cap) :: st.dfs } { a with defers := { target := .fn (.func fd) vb.toArray, args := va.toArray ++ c.args.map a.eval } :: a.defers } w := by
    refine ⟨h.size, h.slot, h.mem, .cons hmk ⟨vb.toArray, _, rfl, rfl, ?_⟩ h.dfs⟩
    have := (ha.append hargs).append hb
    simpa [Array.toList_map] using this
  refine hK _ _ g ?_ (Fr.refl g w)
  have e : ({ w := wr o.dst .bot, df := [(fd, fst ++ ps.map PV.norm ++ cap)] } : Eff S).apply st = { st with slots := updL st.slots (wr o.dst .bot), dfs := (fd, fst ++ ps.map PV.norm ++ cap) :: st.dfs } := by
    simp [Eff.apply, setL]
  rw [e]
  cases hdst : o.dst with
  | none => exact hI
  | some d =>
    rw [hdst] at hd
    exact hI.put (d := d) (p := .bot) (v := undef) (fits_wr (dst := some d) (p := (.bot : PV S)) hd d rfl) (by simp only [PRel]) trivial

end
end Go.Proofs.YtanfoijdfcnpoaaGreatDoor.Ev

set_option linter.unusedVariables false
set_option linter.unusedSimpArgs false
namespace Go.Proofs.YtanfoijdfcnpoaaGreatDoor.Ev

section
variable {S : Sig} {P : Program} {L : Lay S} {g : Gh} {st : St S} {a : Act} {w w' : World}

/-- What a call does, as the evaluator tells it. -/
def ResOk (L : Lay S) (g : Gh) (w : World) (r : Res S × Mem S) (e : Ending) (w' : World) : Prop :=
  ∃ g', Fr g w g' w' ∧ MemInv L g' r.2 w' ∧
    match r.1 with
    | .ret p => ∃ v, e = .returned v ∧ SRel L g' .res p v
    | .pan p => ∃ v, e = .panicked [{ v, recovered := false }] ∧ PRel L g'.β g'.G p v

/-- A call of a function by its number: its body is run, or the model answers at once. -/
def Does (P : Program) (f : FuncId) (args : Array Value) (w : World) (R : Ending → World → Prop) : Prop :=
  ((callFunc f args).run P w = .ok (.enter f args) w ∧ Calls P f args w R) ∨ ∃ v w', (callFunc f args).run P w = .ok (.value v) w' ∧ R (.returned v) w'

def CallOk (P : Program) (L : Lay S) (f : FuncId) (args : List (PV S)) (m : Mem S) (r : Res S × Mem S) : Prop :=
  ∀ (g : Gh) (vs : List Value) (w : World), MemInv L g m w → args.length = vs.length →
    (∀ (i : Nat) (p : PV S), args[i]? = some p → ∃ v, vs[i]? = some v ∧ SRel L g (.slot i) p v) →
    Does P f vs.toArray w (ResOk L g w r)

/-! ### Counting cells anew -/

mutual
theorem PRel.ren {β β' : Nat → Option Nat} {G : Nat → Nat → Option Value} {f : Nat → Nat} : ∀ {p : PV S} {v : Value}, PRel L β G p v → (∀ c ∈ p.ptrs, ∀ b, β c = some b → β' (f c) = some b) → PRel L β' G (p.ren f) v
  | .d x, v, h, _ => by simp only [PV.ren, PRel] at h ⊢; exact h
  | .full k l, v, h, _ => by simp only [PV.ren, PRel] at h ⊢; exact h
  | .own k l, v, h, _ => by simp only [PV.ren, PRel] at h ⊢; exact h
  | .ptr c o, v, h, hf => by
    simp only [PV.ren, PRel] at h ⊢; obtain ⟨b, h1, h2⟩ := h
    exact ⟨b, hf c (by simp [PV.ptrs]) b h1, h2⟩
  | .dp k x o, v, h, _ => by simp only [PV.ren, PRel] at h ⊢; exact h
  | .nilp, v, h, _ => by simp only [PV.ren, PRel] at h ⊢; exact h
  | .fn g a b, v, h, hf => by
    simp only [PV.ren, PRel] at h ⊢; obtain ⟨va, vb, h1, h2, h3⟩ := h
    exact ⟨va, vb, h1, PRels.ren h2 (fun c hc => hf c (by simp [PV.ptrs, hc])), PRels.ren h3 (fun c hc => hf c (by simp [PV.ptrs, hc]))⟩
  | .nilfn, v, h, _ => by simp only [PV.ren, PRel] at h ⊢; exact h
  | .iface t p, v, h, hf => by
    simp only [PV.ren, PRel] at h ⊢; obtain ⟨u, h1, h2⟩ := h; exact ⟨u, h1, PRel.ren h2 (fun c hc => hf c (by simp [PV.ptrs, hc]))⟩
  | .nilif, v, h, _ => by simp only [PV.ren, PRel] at h ⊢; exact h
  | .agg l, v, h, hf => by
    simp only [PV.ren, PRel] at h ⊢; obtain ⟨u, h1, h2⟩ := h; exact ⟨u, h1, PRels.ren h2 (fun c hc => hf c (by simp [PV.ptrs, hc]))⟩
  | .tup l, v, h, hf => by
    simp only [PV.ren, PRel] at h ⊢; obtain ⟨u, h1, h2⟩ := h; exact ⟨u, h1, PRels.ren h2 (fun c hc => hf c (by simp [PV.ptrs, hc]))⟩
  | .bot, v, h, _ => by simp only [PV.ren, PRel] at h ⊢; exact h
  | .any, v, h, _ => by simp only [PV.ren, PRel]
  | .mp c, v, h, hf => by
    simp only [PV.ren, PRel] at h ⊢; obtain ⟨b, h1, h2⟩ := h
    exact ⟨b, hf c (by simp [PV.ptrs]) b h1, h2⟩
  | .lo k c n, v, h, hf => by
    simp only [PV.ren, PRel] at h ⊢; obtain ⟨b, h1, h2⟩ := h
    exact ⟨b, hf c (by simp [PV.ptrs]) b h1, h2⟩
  | .nilmp, v, h, _ => by simp only [PV.ren, PRel] at h ⊢; exact h
  | .mpo _, v, h, _ => by simp only [PV.ren, PRel] at h ⊢; exact h
theorem PRels.ren {β β' : Nat → Option Nat} {G : Nat → Nat → Option Value} {f : Nat → Nat} : ∀ {p : List (PV S)} {v : List Value}, PRels L β G p v → (∀ c ∈ PV.ptrsL p, ∀ b, β c = some b → β' (f c) = some b) → PRels L β' G (PV.renL f p) v
  | [], [], _, _ => by simp only [PV.renL, PRels]
  | p :: ps, v :: vs, h, hf => by
    simp only [PV.renL, PRels] at h ⊢
    exact ⟨PRel.ren h.1 (fun c hc => hf c (by simp [PV.ptrsL, hc])), PRels.ren h.2 (fun c hc => hf c (by simp [PV.ptrsL, hc]))⟩
  | [], _ :: _, h, _ => by simp only [PRels] at h
  | _ :: _, [], h, _ => by simp only [PRels] at h
end

/-- Every cell that a value points to is there. -/
theorem renL_map (f : Nat → Nat) : ∀ l : List (PV S), PV.renL f l = l.map (PV.ren f)
  | [] => by simp [PV.renL]
  | p :: r => by simp [PV.renL, renL_map f r]

def VTy.ren (f : Nat → Nat) {ps : List (PV S)} : VTy ps → VTy (PV.renL f ps)
  | .cells t h => .cells t (by rw [renL_map, noMap_map (plain_ren f)]; exact h)
  | .map x es k h hr => .map x es k (by rw [h]; rfl) hr
theorem VTy.ren_obj (f : Nat → Nat) {ps : List (PV S)} (ty : VTy ps) (vs : Array Value) : (ty.ren f).obj vs = ty.obj vs := by cases ty <;> rfl

theorem ren_own {f : Nat → Nat} {p : PV S} {ω : Nat → Option Rt} {pos : Pos} {v : Value} : OwnOk L ω pos (p.ren f) v ↔ OwnOk L ω pos p v := by
  cases p <;> simp [PV.ren, OwnOk]

mutual
theorem PRel.ptrs {β : Nat → Option Nat} {G : Nat → Nat → Option Value} : ∀ {p : PV S} {v : Value}, PRel L β G p v → ∀ c ∈ p.ptrs, ∃ b, β c = some b
  | .d x, v, h, c, hc => by simp [PV.ptrs] at hc
  | .full k l, v, h, c, hc => by simp [PV.ptrs] at hc
  | .own k l, v, h, c, hc => by simp [PV.ptrs] at hc
  | .ptr c' o, v, h, c, hc => by simp [PV.ptrs] at hc; subst hc; simp only [PRel] at h; obtain ⟨b, h1, _⟩ := h; exact ⟨b, h1⟩
  | .dp k x o, v, h, c, hc => by simp [PV.ptrs] at hc
  | .nilp, v, h, c, hc => by simp [PV.ptrs] at hc
  | .fn g a b, v, h, c, hc => by
    simp only [PRel] at h; obtain ⟨va, vb, _, h2, h3⟩ := h
    simp only [PV.ptrs, List.mem_append] at hc
    rcases hc with hc | hc
    · exact PRels.ptrs h2 c hc
    · exact PRels.ptrs h3 c hc
  | .nilfn, v, h, c, hc => by simp [PV.ptrs] at hc
  | .iface t p, v, h, c, hc => by simp only [PRel] at h; obtain ⟨u, _, h2⟩ := h; simp only [PV.ptrs] at hc; exact PRel.ptrs h2 c hc
  | .nilif, v, h, c, hc => by simp [PV.ptrs] at hc
  | .agg l, v, h, c, hc => by simp only [PRel] at h; obtain ⟨u, _, h2⟩ := h; simp only [PV.ptrs] at hc; exact PRels.ptrs h2 c hc
  | .tup l, v, h, c, hc => by simp only [PRel] at h; obtain ⟨u, _, h2⟩ := h; simp only [PV.ptrs] at hc; exact PRels.ptrs h2 c hc
  | .bot, v, h, c, hc => by simp [PV.ptrs] at hc
  | .any, v, h, c, hc => by simp [PV.ptrs] at hc
  | .mp c', v, h, c, hc => by simp [PV.ptrs] at hc; subst hc; simp only [PRel] at h; obtain ⟨b, h1, _⟩ := h; exact ⟨b, h1⟩
  | .lo k c' n, v, h, c, hc => by simp [PV.ptrs] at hc; subst hc; simp only [PRel] at h; obtain ⟨b, h1, _⟩ := h; exact ⟨b, h1⟩
  | .nilmp, v, h, c, hc => by simp [PV.ptrs] at hc
  | .mpo _, v, h, c, hc => by simp [PV.ptrs] at hc
theorem PRels.ptrs {β : Nat → Option Nat} {G : Nat → Nat → Option Value} : ∀ {p : List (PV S)} {v : List Value}, PRels L β G p v → ∀ c ∈ PV.ptrsL p, ∃ b, β c = some b
  | [], [], _, c, hc => by simp [PV.ptrsL] at hc
  | p :: ps, v :: vs, h, c, hc => by
    simp only [PRels] at h
    simp only [PV.ptrsL, List.mem_append] at hc
    rcases hc with hc | hc
    · exact PRel.ptrs h.1 c hc
    · exact PRels.ptrs h.2 c hc
  | [], _ :: _, h, _, _ => by simp only [PRels] at h
  | _ :: _, [], h, _, _ => by simp only [PRels] at h
end

theorem ptrsL_get {l : List (PV S)} {j : Nat} {p : PV S} (h : l[j]? = some p) {c : Nat} (hc : c ∈ p.ptrs) : c ∈ PV.ptrsL l := by
  induction l generalizing j with
  | nil => simp at h
  | cons q r ih =>
    simp only [PV.ptrsL, List.mem_append]
    cases j with
    | zero => simp at h; subst h; exact .inl hc
    | succ j => simp at h; exact .inr (ih h)

theorem idx_get {cs : List Nat} {c : Nat} (h : c ∈ cs) : cs[idx cs c]? = some c := by
  unfold idx
  rw [List.getElem?_eq_getElem (List.idxOf_lt_length_of_mem h)]
  simp

theorem idx_at {cs : List Nat} (hn : cs.Nodup) {i c : Nat} (h : cs[i]? = some c) : idx cs c = i := by
  have hi := (List.getElem?_eq_some_iff.1 h)
  obtain ⟨hlt, hc⟩ := hi
  unfold idx
  rw [← hc]
  exact List.Nodup.idxOf_getElem hn i hlt

/-- The callee's ghost: the cells cs, counted from 0; the rights that are handed on. -/
def Gh.loc (g : Gh) (cs : List Nat) : Gh where
  β := fun i => match cs[i]? with | some c => g.β c | none => none
  G := g.G
  ω := fun b => match g.ω b with
    | some r =>
      match r.pos with
      | .arg j => some { r with pos := .slot j }
      | .cell c j => if c ∈ cs then some { r with pos := .cell (idx cs c) j } else none
      | _ => none
    | none => none

def backPos (cs : List Nat) (base : Nat) : Pos → Pos
  | .cell i j => .cell (back cs base i) j
  | .res => .res
  | _ => .arg 0

/-- The caller's ghost behind the call. -/
def Gh.aft (g : Gh) (cs : List Nat) (base : Nat) (w : World) (g' : Gh) : Gh where
  β := fun c => match g.β c with | some b => some b | none => if base ≤ c then g'.β (cs.length + (c - base)) else none
  G := g'.G
  ω := fun b => if (g.loc cs).ω b = none ∧ b < w.heap.size then g.ω b else (g'.ω b).map fun r => { r with pos := backPos cs base r.pos }

theorem loc_ω_none {cs : List Nat} {b : Nat} (h : g.ω b = none) : (g.loc cs).ω b = none := by simp [Gh.loc, h]

theorem loc_ω_some {cs : List Nat} {b : Nat} {r' : Rt} (h : (g.loc cs).ω b = some r') : ∃ r, g.ω b = some r ∧ r'.e = r.e ∧ r'.top = r.top ∧
    ((∃ j, r.pos = .arg j ∧ r'.pos = .slot j) ∨ ∃ c j, c ∈ cs ∧ r.pos = .cell c j ∧ r'.pos = .cell (idx cs c) j) := by
  simp only [Gh.loc] at h
  split at h
  · rename_i r hr
    refine ⟨r, hr, ?_⟩
    split at h
    · rename_i j hj; cases h; exact ⟨rfl, rfl, .inl ⟨j, hj, rfl⟩⟩
    · rename_i c j hj
      split at h
      · rename_i hm; cases h; exact ⟨rfl, rfl, .inr ⟨c, j, hm, hj, rfl⟩⟩
      · cases h
    · cases h
  · cases h

theorem closedB_spec {m : Mem S} {cs : List Nat} {args : List (PV S)} (h : closedB m cs args = true) :
    (∀ c ∈ PV.ptrsL args, c ∈ cs) ∧ (∀ c ∈ cs, ∃ v, cellAt m c = some v ∧ ∀ c' ∈ PV.ptrsL v, c' ∈ cs) ∧ cs.Nodup := by
  unfold closedB at h
  simp only [Bool.and_eq_true, List.all_eq_true, List.contains_iff_mem, decide_eq_true_eq] at h
  obtain ⟨h1, h2, h3⟩ := h
  refine ⟨h1, fun c hc => ?_, h3⟩
  have := h2 c hc
  split at this
  · rename_i v hv; exact ⟨v, hv, by simpa using this⟩
  · cases this

theorem locMem_spec {m lm : Mem S} : ∀ {cs0 cs : List Nat}, (cs.mapM fun c => (cellAt m c).map fun v => some (PV.renL (idx cs0) v)) = some lm →
    lm.length = cs.length ∧ ∀ (i : Nat) (c : Nat), cs[i]? = some c → ∃ v, cellAt m c = some v ∧ cellAt lm i = some (PV.renL (idx cs0) v) := by
  intro cs0 cs h
  have hl : lm.length = cs.length := by
    induction cs generalizing lm with
    | nil => simp at h; subst h; rfl
    | cons c r ih =>
      simp only [List.mapM_cons, Option.bind_eq_bind, Option.pure_def] at h
      cases h1 : cellAt m c with
      | none => simp [h1] at h
      | some v =>
        cases h2 : r.mapM fun c => (cellAt m c).map fun v => some (PV.renL (idx cs0) v) with
        | none => simp [h1, h2] at h
        | some r' => simp [h1, h2] at h; subst h; simp [ih h2]
  refine ⟨hl, fun i c hc => ?_⟩
  obtain ⟨y, hy, hm⟩ := mapM_get h hc
  cases h1 : cellAt m c with
  | none => simp [h1] at hm
  | some v =>
    simp [h1] at hm
    refine ⟨v, rfl, ?_⟩
    unfold cellAt
    rw [hy, ← hm]

theorem someAll_spec : ∀ {m : Mem S} {now : List (List (PV S))}, someAll m = some now → now.length = m.length ∧ ∀ (i : Nat) (v : List (PV S)), now[i]? = some v ↔ cellAt m i = some v
  | [], now, h => by simp [someAll] at h; subst h; simp [cellAt]
  | some v :: r, now, h => by
    simp only [someAll] at h
    cases h1 : someAll r with
    | none => simp [h1] at h
    | some n =>
      simp [h1] at h; subst h
      obtain ⟨e1, e2⟩ := someAll_spec h1
      refine ⟨by simp [e1], fun i u => ?_⟩
      cases i with
      | zero => simp [cellAt]
      | succ i => simpa [cellAt] using e2 i u
  | none :: r, now, h => by simp [someAll] at h

theorem loc_mem (h : MemInv L g st.mem w) {cs : List Nat} {args : List (PV S)} (hcl : closedB st.mem cs args = true) {lm : Mem S} (hlm : locMem st.mem cs = some lm) : MemInv L (g.loc cs) lm w := by
  obtain ⟨c1, c2, c3⟩ := closedB_spec hcl
  obtain ⟨l1, l2⟩ := locMem_spec hlm
  have hβ : ∀ i b, (g.loc cs).β i = some b → ∃ c, cs[i]? = some c ∧ g.β c = some b := by
    intro i b hb
    simp only [Gh.loc] at hb
    split at hb
    · rename_i c hc; exact ⟨c, hc, hb⟩
    · cases hb
  have hren : ∀ c ∈ cs, ∀ b, g.β c = some b → (g.loc cs).β (idx cs c) = some b := by
    intro c hc b hb
    simp only [Gh.loc, idx_get hc]; exact hb
  refine ⟨fun i ps hps => ?_, fun i b hb => ?_, fun i i' b hi hi' => ?_, fun i b hb o => ?_, h.gs, fun b r hr => ?_, h.wok_sub (fun c b hb => by obtain ⟨c', _, h2⟩ := hβ c b hb; exact .inl ⟨c', h2⟩) (fun b _ _ hb => loc_ω_none hb) (fun _ _ _ _ h => h)⟩
  · have hi : i < cs.length := by rw [← l1]; exact cellAt_lt hps
    obtain ⟨v, hv, hlv⟩ := l2 i cs[i] (List.getElem?_eq_getElem hi)
    rw [hps] at hlv; cases hlv
    obtain ⟨b, vs, ty, e1, e2, e3, e4⟩ := h.cell _ v hv
    refine ⟨b, vs, ty.ren _, by simp only [Gh.loc, List.getElem?_eq_getElem hi]; exact e1, by rw [VTy.ren_obj]; exact e2, by rw [renL_map, List.length_map]; exact e3, fun j p hp => ?_⟩
    rw [renL_map, List.getElem?_map] at hp
    cases hq : v[j]? with
    | none => simp [hq] at hp
    | some q =>
      simp [hq] at hp; subst hp
      obtain ⟨u, hu, hur⟩ := e4 j q hq
      obtain ⟨v', hv', hcl'⟩ := c2 cs[i] (List.getElem_mem hi)
      rw [hv] at hv'; cases hv'
      refine ⟨u, hu, hur.1.ren (fun c hc b hb => hren c (hcl' c (ptrsL_get hq hc)) b hb), ?_⟩
      rw [ren_own]
      have h2 := hur.2
      cases q <;> simp only [OwnOk] at h2 ⊢
      intro ad n cc hvv hn
      obtain ⟨r, f1, f2, f3, f4⟩ := h2 ad n cc hvv hn
      refine ⟨{ r with pos := .cell i j }, ?_, rfl, f3, f4⟩
      simp only [Gh.loc, f1, f2]
      rw [if_pos (List.getElem_mem hi), idx_at c3 (List.getElem?_eq_getElem hi)]
  · obtain ⟨c, hc, hb'⟩ := hβ i b hb
    obtain ⟨v, _, hv⟩ := l2 i c hc
    exact ⟨_, hv⟩
  · obtain ⟨c, hc, hb⟩ := hβ i b hi
    obtain ⟨c', hc', hb'⟩ := hβ i' b hi'
    have := h.inj c c' b hb hb'
    subst this
    rw [← idx_at c3 hc, ← idx_at c3 hc']
  · obtain ⟨c, hc, hb'⟩ := hβ i b hb
    exact h.βG c b hb' o
  · obtain ⟨r0, hr0, he, ht, _⟩ := loc_ω_some hr
    obtain ⟨f1, ⟨cs', ty, f2, f3⟩, f4⟩ := h.rt b r0 hr0
    refine ⟨fun i hb => ?_, ⟨cs', ty, f2, by rw [ht]; exact f3⟩, fun o ho => f4 o (by rw [← he]; exact ho)⟩
    obtain ⟨c, _, hb'⟩ := hβ i b hb
    exact f1 c hb'

theorem back_lt {cs : List Nat} {base i c : Nat} (h : cs[i]? = some c) : back cs base i = c := by simp [back, h]
theorem back_ge {cs : List Nat} {base i : Nat} (h : cs.length ≤ i) : back cs base i = base + (i - cs.length) := by simp [back, List.getElem?_eq_none h]

/-- How the cells stand behind a call: the mem of the caller. -/
theorem cellAt_app {m m' : Mem S} {c : Nat} : cellAt (m ++ m') c = if c < m.length then cellAt m c else cellAt m' (c - m.length) := by
  unfold cellAt
  by_cases h : c < m.length
  · rw [if_pos h, List.getElem?_append_left h]
  · rw [if_neg h, List.getElem?_append_right (by omega)]

theorem setL_len (m : Mem S) : ∀ x : List (Nat × List (PV S)), (setL m x).length = m.length := by
  intro x
  induction x generalizing m with
  | nil => rfl
  | cons p r ih => obtain ⟨c, v⟩ := p; simp [setL, ih]

theorem cellAt_setL {m : Mem S} : ∀ {cs : List Nat} {now : List (List (PV S))}, cs.Nodup → now.length = cs.length → (∀ c ∈ cs, c < m.length) → ∀ c,
    cellAt (setL m (cs.zip now)) c = if c ∈ cs then now[idx cs c]? else cellAt m c := by
  intro cs
  induction cs generalizing m with
  | nil => intro now _ _ _ c; simp [setL]
  | cons d r ih =>
    intro now hn hl hlt c
    cases now with
    | nil => simp at hl
    | cons v now =>
      simp only [List.zip_cons_cons, setL]
      rw [ih (List.nodup_cons.1 hn).2 (by simpa using hl) (fun c hc => by simpa using hlt c (by simp [hc]))]
      have hd : d ∉ r := (List.nodup_cons.1 hn).1
      by_cases hcr : c ∈ r
      · have hne : c ≠ d := by rintro rfl; exact hd hcr
        rw [if_pos hcr, if_pos (by simp [hcr])]
        have : idx (d :: r) c = idx r c + 1 := by
          unfold idx; rw [List.idxOf_cons]
          have : (d == c) = false := by simpa using Ne.symm hne
          rw [this]; rfl
        rw [this]; rfl
      · rw [if_neg hcr, cellAt_set (hlt d (by simp))]
        by_cases hcd : c = d
        · subst hcd
          rw [if_pos rfl, if_pos (by simp)]
          have : idx (c :: r) c = 0 := by unfold idx; simp
          rw [this]; rfl
        · rw [if_neg hcd, if_neg (by simp [hcd, hcr])]

theorem cellAt_back {cs : List Nat} {base : Nat} {m : Mem S} {i : Nat} {v : List (PV S)} : cellAt (backMem cs base m) i = some v ↔ ∃ u, cellAt m i = some u ∧ v = PV.renL (back cs base) u := by
  unfold cellAt backMem
  rw [List.getElem?_map]
  cases h : m[i]? with
  | none => simp
  | some x =>
    cases x with
    | none => simp
    | some u => simp [eq_comm]

theorem cellAt_take {m : Mem S} {n i : Nat} (h : i < n) : cellAt (m.take n) i = cellAt m i := by
  unfold cellAt; rw [List.getElem?_take, if_pos h]

theorem cellAt_drop {m : Mem S} {n i : Nat} : cellAt (m.drop n) i = cellAt m (n + i) := by
  unfold cellAt; rw [List.getElem?_drop]

section aft
variable {cs : List Nat} {args : List (PV S)} {lm m' : Mem S} {g' : Gh} {now : List (List (PV S))}

/-- What is needed of the two worlds around a call. -/
structure Around (L : Lay S) (g : Gh) (st : St S) (w : World) (cs : List Nat) (m' : Mem S) (g' : Gh) (w' : World) (now : List (List (PV S))) : Prop where
  mem : MemInv L g st.mem w
  nodup : cs.Nodup
  live : ∀ c ∈ cs, ∃ b, g.β c = some b
  fr : Fr (g.loc cs) w g' w'
  mem' : MemInv L g' m' w'
  nowLen : now.length = cs.length
  now : ∀ (i : Nat), i < cs.length → ∃ v, now[i]? = some v ∧ cellAt m' i = some v

theorem Around.βin (A : Around L g st w cs m' g' w' now) {i c : Nat} (h : cs[i]? = some c) : g'.β i = g.β c := by
  obtain ⟨b, hb⟩ := A.live c (List.mem_of_getElem? h)
  rw [hb]
  exact A.fr.βmono i b (by simp only [Gh.loc, h]; exact hb)

theorem Around.lt (A : Around L g st w cs m' g' w' now) {c b : Nat} (h : g.β c = some b) : c < st.mem.length := by
  obtain ⟨ps, hps⟩ := A.mem.dom c b h
  exact cellAt_lt hps

theorem Around.βback (A : Around L g st w cs m' g' w' now) {i b : Nat} (h : g'.β i = some b) : (g.aft cs st.mem.length w g').β (back cs st.mem.length i) = some b := by
  by_cases hi : i < cs.length
  · have hc := List.getElem?_eq_getElem hi
    rw [back_lt hc]
    rw [A.βin hc] at h
    simp only [Gh.aft, h]
  · rw [back_ge (by omega)]
    have hn : g.β (st.mem.length + (i - cs.length)) = none := by
      cases hb : g.β (st.mem.length + (i - cs.length)) with
      | none => rfl
      | some b => exact absurd (A.lt hb) (by omega)
    simp only [Gh.aft, hn]
    rw [if_pos (by omega), show cs.length + (st.mem.length + (i - cs.length) - st.mem.length) = i by omega]
    exact h

theorem Around.ωnone (A : Around L g st w cs m' g' w' now) {b : Nat} {r : Rt} (h : g'.ω b = some r) : ¬ ((g.loc cs).ω b = none ∧ b < w.heap.size) := by
  rintro ⟨h1, h2⟩
  by_cases hβ : ∃ i, (g.loc cs).β i = some b
  · obtain ⟨i, hi⟩ := hβ
    exact (A.mem'.rt b r h).1 i (A.fr.βmono i b hi)
  · have := (A.fr.keep b h2 (fun c hc => hβ ⟨c, hc⟩) h1).2.2
    rw [h] at this; cases this

theorem Around.ownBack (A : Around L g st w cs m' g' w' now) {p : PV S} {v : Value} {pos : Pos} (h : OwnOk L g'.ω pos p v) : OwnOk L (g.aft cs st.mem.length w g').ω (backPos cs st.mem.length pos) p v := by
  cases p <;> simp only [OwnOk] at h ⊢
  intro ad n c hv hn
  obtain ⟨r, h1, h2, h3, h4⟩ := h ad n c hv hn
  refine ⟨{ r with pos := backPos cs st.mem.length r.pos }, ?_, by rw [h2], h3, h4⟩
  simp only [Gh.aft]
  rw [if_neg (A.ωnone h1), h1]; rfl

theorem Around.relBack (A : Around L g st w cs m' g' w' now) {p : PV S} {v : Value} (h : PRel L g'.β g'.G p v) : PRel L (g.aft cs st.mem.length w g').β (g.aft cs st.mem.length w g').G (p.ren (back cs st.mem.length)) v :=
  h.ren fun c _ b hb => A.βback hb

theorem Around.βmono (A : Around L g st w cs m' g' w' now) : ∀ c b, g.β c = some b → (g.aft cs st.mem.length w g').β c = some b := by
  intro c b hb; simp only [Gh.aft, hb]

theorem Around.gmono (A : Around L g st w cs m' g' w' now) : ∀ b o v, g.G b o = some v → (g.aft cs st.mem.length w g').G b o = some v := fun b o v h => A.fr.gmono b o v h

/-- What is not handed on stays as it was. -/
theorem Around.ownKept (A : Around L g st w cs m' g' w' now) {p : PV S} {v : Value} {pos : Pos} (hpos : (∀ j, pos ≠ .arg j) ∧ ∀ c j, pos = .cell c j → c ∉ cs) (h : OwnOk L g.ω pos p v) :
    OwnOk L (g.aft cs st.mem.length w g').ω pos p v := by
  cases p <;> simp only [OwnOk] at h ⊢
  intro ad n c hv hn
  obtain ⟨r, h1, h2, h3, h4⟩ := h ad n c hv hn
  refine ⟨r, ?_, h2, h3, h4⟩
  simp only [Gh.aft]
  rw [if_pos]
  · exact h1
  · refine ⟨?_, A.mem.ω_lt h1⟩
    cases hl : (g.loc cs).ω ad.block with
    | none => rfl
    | some r' =>
      obtain ⟨r0, e1, _, _, e2⟩ := loc_ω_some hl
      rw [h1] at e1; cases e1
      rcases e2 with ⟨j, e3, _⟩ | ⟨c', j, e3, e4, _⟩
      · exact absurd (h2 ▸ e3) (hpos.1 j)
      · exact absurd e3 (hpos.2 c' j (h2 ▸ e4))

theorem Around.block (A : Around L g st w cs m' g' w' now) {c b : Nat} (hc : c ∉ cs) (hb : g.β c = some b) : w'.heap[b]? = w.heap[b]? ∧ ∀ o, g'.G b o = g.G b o := by
  have := A.fr.keep b (A.mem.β_lt hb) (fun i hi => by
    simp only [Gh.loc] at hi
    split at hi
    · rename_i c' hc'
      have := A.mem.inj c' c b hi hb
      subst this
      exact hc (List.mem_of_getElem? hc')
    · cases hi) (by
    cases hl : (g.loc cs).ω b with
    | none => rfl
    | some r' =>
      obtain ⟨r0, e1, _⟩ := loc_ω_some hl
      exact absurd hb ((A.mem.rt b r0 e1).1 c))
  exact ⟨this.1, this.2.1⟩

theorem Around.memAft (A : Around L g st w cs m' g' w' now) :
    MemInv L (g.aft cs st.mem.length w g') (setL st.mem (cs.zip (now.map (PV.renL (back cs st.mem.length)))) ++ backMem cs st.mem.length (m'.drop cs.length)) w' := by
  have hlt : ∀ c ∈ cs, c < st.mem.length := fun c hc => by obtain ⟨b, hb⟩ := A.live c hc; exact A.lt hb
  have hcell : ∀ c, cellAt (setL st.mem (cs.zip (now.map (PV.renL (back cs st.mem.length)))) ++ backMem cs st.mem.length (m'.drop cs.length)) c =
      if c < st.mem.length then (if c ∈ cs then (now.map (PV.renL (back cs st.mem.length)))[idx cs c]? else cellAt st.mem c) else cellAt (backMem cs st.mem.length (m'.drop cs.length)) (c - st.mem.length) := by
    intro c
    rw [cellAt_app, setL_len]
    by_cases h : c < st.mem.length
    · rw [if_pos h, if_pos h, cellAt_setL A.nodup (by simpa using A.nowLen) hlt]
    · rw [if_neg h, if_neg h]
  -- the three sorts of cells
  have hβ : ∀ c b, (g.aft cs st.mem.length w g').β c = some b → g.β c = some b ∨ (g.β c = none ∧ st.mem.length ≤ c ∧ g'.β (cs.length + (c - st.mem.length)) = some b) := by
    intro c b hb
    simp only [Gh.aft] at hb
    cases h : g.β c with
    | some b' => rw [h] at hb; exact .inl hb
    | none =>
      rw [h] at hb
      simp only at hb
      split at hb
      · rename_i hle; exact .inr ⟨rfl, hle, hb⟩
      · cases hb
  have hnew : ∀ i b, g'.β (cs.length + i) = some b → w.heap.size ≤ b := by
    intro i b hb
    rcases A.fr.βnew _ b hb with h | h
    · simp only [Gh.loc] at h
      rw [List.getElem?_eq_none (by omega)] at h; cases h
    · exact h
  refine ⟨fun c ps hps => ?_, fun c b hb => ?_, fun c1 c2 b h1 h2 => ?_, fun c b hb o => ?_, A.mem'.gs, fun b r hr => ?_, fun b hb => ?_⟩
  · rw [hcell] at hps
    split at hps
    · rename_i hclt
      split at hps
      · rename_i hc
        have hi := idx_get hc
        have hilt := (List.getElem?_eq_some_iff.1 hi).1
        obtain ⟨v, hv, hcv⟩ := A.now _ hilt
        rw [List.getElem?_map, hv] at hps
        simp at hps; subst hps
        obtain ⟨b, vs, ty, e1, e2, e3, e4⟩ := A.mem'.cell _ v hcv
        refine ⟨b, vs, ty.ren _, ?_, by rw [VTy.ren_obj]; exact e2, by rw [renL_map, List.length_map]; exact e3, fun j p hp => ?_⟩
        · have := A.βback e1; rwa [back_lt hi] at this
        · rw [renL_map, List.getElem?_map] at hp
          cases hq : v[j]? with
          | none => simp [hq] at hp
          | some q =>
            simp [hq] at hp; subst hp
            obtain ⟨u, hu, hur⟩ := e4 j q hq
            have ho := A.ownBack hur.2
            simp only [backPos, back_lt hi] at ho
            exact ⟨u, hu, A.relBack hur.1, ren_own.2 ho⟩
      · rename_i hc
        obtain ⟨b, vs, ty, e1, e2, e3, e4⟩ := A.mem.cell c ps hps
        refine ⟨b, vs, ty, A.βmono c b e1, (A.block hc e1).1.trans e2, e3, fun j p hp => ?_⟩
        obtain ⟨v, hv, hvr⟩ := e4 j p hp
        exact ⟨v, hv, hvr.1.mono A.gmono A.βmono, A.ownKept ⟨by simp, by intro c' j' e; cases e; exact hc⟩ hvr.2⟩
    · rename_i hclt
      obtain ⟨u, hu, rfl⟩ := cellAt_back.1 hps
      rw [cellAt_drop] at hu
      obtain ⟨b, vs, ty, e1, e2, e3, e4⟩ := A.mem'.cell _ u hu
      have hbk : back cs st.mem.length (cs.length + (c - st.mem.length)) = c := by rw [back_ge (by omega)]; omega
      refine ⟨b, vs, ty.ren _, ?_, by rw [VTy.ren_obj]; exact e2, by rw [renL_map, List.length_map]; exact e3, fun j p hp => ?_⟩
      · have := A.βback e1; rwa [hbk] at this
      · rw [renL_map, List.getElem?_map] at hp
        cases hq : u[j]? with
        | none => simp [hq] at hp
        | some q =>
          simp [hq] at hp; subst hp
          obtain ⟨z, hz, hzr⟩ := e4 j q hq
          have ho := A.ownBack hzr.2
          simp only [backPos, hbk] at ho
          exact ⟨z, hz, A.relBack hzr.1, ren_own.2 ho⟩
  · rw [hcell]
    rcases hβ c b hb with h | ⟨h1, h2, h3⟩
    · rw [if_pos (A.lt h)]
      split
      · rename_i hc
        have hi := idx_get hc
        obtain ⟨v, hv, _⟩ := A.now _ (List.getElem?_eq_some_iff.1 hi).1
        rw [List.getElem?_map, hv]; exact ⟨_, rfl⟩
      · exact A.mem.dom c b h
    · rw [if_neg (by omega)]
      obtain ⟨ps, hps⟩ := A.mem'.dom _ b h3
      exact ⟨_, cellAt_back.2 ⟨ps, by rw [cellAt_drop]; exact hps, rfl⟩⟩
  · rcases hβ c1 b h1 with a1 | ⟨a1, a2, a3⟩ <;> rcases hβ c2 b h2 with b1 | ⟨b1, b2, b3⟩
    · exact A.mem.inj c1 c2 b a1 b1
    · exact absurd (A.mem.β_lt a1) (by have := hnew _ _ b3; omega)
    · exact absurd (A.mem.β_lt b1) (by have := hnew _ _ a3; omega)
    · have := A.mem'.inj _ _ b a3 b3; omega
  · rcases hβ c b hb with h | ⟨h1, h2, h3⟩
    · by_cases hc : c ∈ cs
      · have := A.βin (idx_get hc)
        exact A.mem'.βG (idx cs c) b (by rw [this]; exact h) o
      · show g'.G b o = none
        rw [(A.block hc h).2]; exact A.mem.βG c b h o
    · exact A.mem'.βG _ b h3 o
  · simp only [Gh.aft] at hr
    split at hr
    · rename_i hcond
      obtain ⟨e1, ⟨cs', ty, e2, e3⟩, e4⟩ := A.mem.rt b r hr
      have hk := A.fr.keep b hcond.2 (fun i hi => by
        simp only [Gh.loc] at hi
        split at hi
        · exact e1 _ hi
        · cases hi) hcond.1
      refine ⟨fun c hb => ?_, ⟨cs', ty, hk.1.trans e2, e3⟩, fun o ho => ?_⟩
      · rcases hβ c b hb with h | ⟨h1, h2, h3⟩
        · exact e1 c h
        · have := hnew _ _ h3; omega
      · show g'.G b o = none
        rw [hk.2.1]; exact e4 o ho
    · rename_i hcond
      cases hg : g'.ω b with
      | none => simp [hg] at hr
      | some r0 =>
        simp [hg] at hr
        obtain ⟨e1, ⟨cs', ty, e2, e3⟩, e4⟩ := A.mem'.rt b r0 hg
        subst hr
        refine ⟨fun c hb => ?_, ⟨cs', ty, e2, e3⟩, e4⟩
        rcases hβ c b hb with h | ⟨h1, h2, h3⟩
        · by_cases hc : c ∈ cs
          · have := A.βin (idx_get hc)
            exact e1 _ (by rw [this]; exact h)
          · have hlt := A.mem.β_lt h
            cases hl : (g.loc cs).ω b with
            | none => exact hcond ⟨hl, hlt⟩
            | some r' =>
              obtain ⟨r1, f1, _⟩ := loc_ω_some hl
              exact (A.mem.rt b r1 f1).1 c h
        · exact e1 _ h3
  · obtain ⟨k1, k2, o1, k3, k4⟩ := A.mem.wok b hb
    obtain ⟨k5, k6, o2, k7, k8⟩ := A.mem'.wok b hb
    refine ⟨fun c hc => ?_, ?_, o2, k7, k8⟩
    · rcases hβ c b hc with h | ⟨h1, h2, h3⟩
      · exact k1 c h
      · exact k5 _ h3
    · simp only [Gh.aft]
      rw [if_pos ⟨loc_ω_none k2, (Array.getElem?_eq_some_iff.1 k3).1⟩]; exact k2

theorem Around.frAft (A : Around L g st w cs m' g' w' now) : Fr g w (g.aft cs st.mem.length w g') w' := by
  refine ⟨A.fr.os, A.fr.tape, A.fr.output, A.fr.size, fun b hb hβ hω => ?_, A.gmono, A.βmono, fun c b hb => ?_⟩
  · have hl : (g.loc cs).ω b = none := loc_ω_none hω
    have hk := A.fr.keep b hb (fun i hi => by
      simp only [Gh.loc] at hi
      split at hi
      · exact hβ _ hi
      · cases hi) hl
    refine ⟨hk.1, hk.2.1, ?_⟩
    simp only [Gh.aft]
    rw [if_pos ⟨hl, hb⟩]; exact hω
  · simp only [Gh.aft] at hb
    cases h : g.β c with
    | some b' => rw [h] at hb; exact .inl hb
    | none =>
      rw [h] at hb
      simp only at hb
      split at hb
      · rcases A.fr.βnew _ b hb with h' | h'
        · simp only [Gh.loc] at h'
          rw [List.getElem?_eq_none (by omega)] at h'; cases h'
        · exact .inr h'
      · cases hb

end aft

/-! ### Taking the arguments -/

def argIx : List Operand → Nat → Option Nat
  | [], _ => none
  | .tmp j :: xs, i => if i = j then some 0 else (argIx xs i).map (· + 1)
  | _ :: xs, i => (argIx xs i).map (· + 1)

theorem tmps_tmp (j : Nat) (xs : List Operand) : tmps (.tmp j :: xs) = j :: tmps xs := by simp [tmps]

theorem mem_tmps {xs : List Operand} {j i : Nat} (h : xs[j]? = some (.tmp i)) : i ∈ tmps xs := by
  unfold tmps
  exact List.mem_filterMap.2 ⟨.tmp i, List.mem_of_getElem? h, rfl⟩

theorem argIx_get : ∀ {xs : List Operand} {j i : Nat}, (tmps xs).Nodup → xs[j]? = some (.tmp i) → argIx xs i = some j
  | [], j, i, _, h => by simp at h
  | x :: xs, j, i, hn, h => by
    cases j with
    | zero => simp at h; subst h; simp [argIx]
    | succ j =>
      simp at h
      cases x with
      | tmp k =>
        rw [tmps_tmp, List.nodup_cons] at hn
        have hne : i ≠ k := by rintro rfl; exact hn.1 (mem_tmps h)
        simp only [argIx, if_neg hne, argIx_get hn.2 h, Option.map_some]
      | const v => simp only [argIx, argIx_get (xs := xs) (by simpa [tmps] using hn) h, Option.map_some]
      | global v => simp only [argIx, argIx_get (xs := xs) (by simpa [tmps] using hn) h, Option.map_some]
      | func v => simp only [argIx, argIx_get (xs := xs) (by simpa [tmps] using hn) h, Option.map_some]

theorem argIx_none : ∀ {xs : List Operand} {i : Nat}, i ∉ tmps xs → argIx xs i = none
  | [], i, _ => rfl
  | x :: xs, i, h => by
    cases x with
    | tmp k => rw [tmps_tmp] at h; simp at h; simp only [argIx, if_neg h.1, argIx_none h.2, Option.map_none]
    | const v => simp only [argIx, argIx_none (xs := xs) (by simpa [tmps] using h), Option.map_none]
    | global v => simp only [argIx, argIx_none (xs := xs) (by simpa [tmps] using h), Option.map_none]
    | func v => simp only [argIx, argIx_none (xs := xs) (by simpa [tmps] using h), Option.map_none]

def argPos (xs : List Operand) (k : Nat) : Pos → Pos
  | .slot i => match argIx xs i with | some j => .arg (k + j) | none => .slot i
  | p => p

def Gh.args (g : Gh) (xs : List Operand) (k : Nat) : Gh := { g with ω := fun b => (g.ω b).map fun r => { r with pos := argPos xs k r.pos } }

theorem OwnOk.args {pos : Pos} {x : PV S} {v : Value} {xs : List Operand} {k : Nat} (h : OwnOk L g.ω pos x v) : OwnOk L (g.args xs k).ω (argPos xs k pos) x v := by
  cases x <;> simp only [OwnOk] at h ⊢
  intro a n c hv hn
  obtain ⟨r, h1, h2, h3, h4⟩ := h a n c hv hn
  exact ⟨{ r with pos := argPos xs k r.pos }, by simp only [Gh.args, h1, Option.map_some], by rw [h2], h3, h4⟩

theorem took_look (st : St S) : ∀ (xs : List Operand) (s : Nat → PV S), (∀ i ∈ tmps xs, (s i).strip = (st.slots i).strip) → (tmps xs).Nodup → ∀ i, updL s (tookAll st xs) i = if i ∈ tmps xs then (st.slots i).strip else s i
  | [], s, _, _, i => by simp [tookAll, updL, tmps]
  | .tmp j :: xs, s, hs, hn, i => by
    rw [tmps_tmp, List.nodup_cons] at hn
    simp only [tookAll, took, List.singleton_append, updL]
    rw [took_look st xs _ (fun i' hi' => by
      rw [upd_other _ _ (by rintro rfl; exact hn.1 hi')]; exact hs i' (by rw [tmps_tmp]; simp [hi'])) hn.2, tmps_tmp]
    by_cases h1 : i ∈ tmps xs
    · simp [h1]
    · by_cases h2 : i = j
      · subst h2; simp [h1, upd_same]
      · simp [h1, h2, upd_other _ _ h2]
  | .const v :: xs, s, hs, hn, i => by
    simp only [tookAll, took, List.nil_append]
    have e : tmps (.const v :: xs) = tmps xs := by simp [tmps]
    rw [e] at hs hn ⊢; exact took_look st xs s hs hn i
  | .global v :: xs, s, hs, hn, i => by
    simp only [tookAll, took, List.nil_append]
    have e : tmps (.global v :: xs) = tmps xs := by simp [tmps]
    rw [e] at hs hn ⊢; exact took_look st xs s hs hn i
  | .func v :: xs, s, hs, hn, i => by
    simp only [tookAll, took, List.nil_append]
    have e : tmps (.func v :: xs) = tmps xs := by simp [tmps]
    rw [e] at hs hn ⊢; exact took_look st xs s hs hn i

theorem rdAllRaw_get (h : Inv L g st a w) : ∀ {ts : List TypeId} {xs : List Operand} {ps : List (PV S)}, rdAllRaw P L st ts xs = some ps →
    ps.length = xs.length ∧ ∀ (j : Nat) (p : PV S), ps[j]? = some p → ∃ x t, xs[j]? = some x ∧ rdRaw P L st t x = some p
  | [], [], ps, hr => by simp [rdAllRaw] at hr; subst hr; simp
  | t :: ts, x :: xs, ps, hr => by
    simp only [rdAllRaw] at hr
    cases h1 : rdRaw P L st t x with
    | none => simp [h1] at hr
    | some p =>
      cases h2 : rdAllRaw P L st ts xs with
      | none => simp [h1, h2] at hr
      | some r =>
        simp [h1, h2] at hr; subst hr
        obtain ⟨e1, e2⟩ := rdAllRaw_get h h2
        refine ⟨by simp [e1], fun j q hq => ?_⟩
        cases j with
        | zero => simp at hq; subst hq; exact ⟨x, t, rfl, h1⟩
        | succ j => simp at hq; simpa using e2 j q hq
  | [], _ :: _, ps, hr => by simp [rdAllRaw] at hr
  | _ :: _, [], ps, hr => by simp [rdAllRaw] at hr

theorem Inv.takeAll (h : Inv L g st a w) {xs : List Operand} {ts : List TypeId} {ps : List (PV S)} (k : Nat) (hn : (tmps xs).Nodup) (hr : rdAllRaw P L st ts xs = some ps) :
    Inv L (g.args xs k) { st with slots := updL st.slots (tookAll st xs) } a w ∧ Fr g w (g.args xs k) w ∧ ps.length = (xs.map a.eval).length ∧
      (∀ (j : Nat) (p : PV S), ps[j]? = some p → ∃ v, (xs.map a.eval)[j]? = some v ∧ SRel L (g.args xs k) (.arg (k + j)) p v) := by
  obtain ⟨hl, hget⟩ := rdAllRaw_get h hr
  refine ⟨⟨h.size, fun i => ?_, ?_, h.dfs⟩, ?_, by simpa using hl, fun j p hp => ?_⟩
  · show SRel L _ _ (updL st.slots (tookAll st xs) i) _
    rw [took_look st xs st.slots (fun _ _ => rfl) hn i]
    split
    · exact ⟨(h.slot i).1.strip, OwnOk.of_strip _ _⟩
    · rename_i hi
      have := (h.slot i).2.args (xs := xs) (k := k)
      simp only [argPos, argIx_none hi] at this
      exact ⟨(h.slot i).1, this⟩
  · refine ⟨fun c ps hc => ?_, h.mem.dom, h.mem.inj, h.mem.βG, h.mem.gs, fun b r hr => ?_, h.mem.wok_sub (fun c b hb => .inl ⟨c, hb⟩) (fun b _ _ hb => by simp [Gh.args, hb]) (fun _ _ _ _ h => h)⟩
    · obtain ⟨b, vs, ty, e1, e2, e3, e4⟩ := h.mem.cell c ps hc
      refine ⟨b, vs, ty, e1, e2, e3, fun j p hp => ?_⟩
      obtain ⟨v, hv, hvr⟩ := e4 j p hp
      exact ⟨v, hv, hvr.1, hvr.2.args⟩
    · simp only [Gh.args] at hr
      cases hw : g.ω b with
      | none => simp [hw] at hr
      | some r0 => simp [hw] at hr; subst hr; exact h.mem.rt b r0 hw
  · exact ⟨rfl, rfl, rfl, Nat.le_refl _, fun b _ _ h => ⟨rfl, fun _ => rfl, by simp [Gh.args, h]⟩, fun _ _ _ h => h, fun _ _ h => h, fun _ _ h => .inl h⟩
  · obtain ⟨x, t, hx, hrx⟩ := hget j p hp
    refine ⟨a.eval x, by rw [List.getElem?_map, hx]; rfl, ?_⟩
    obtain ⟨h1, h2, h3⟩ := rdRaw_rel h hrx
    cases x with
    | tmp i =>
      have := (h2 i rfl).2.2.args (xs := xs) (k := k)
      simp only [argPos, argIx_get hn hx] at this
      exact ⟨h1, this⟩
    | const v => exact ⟨h1, h3 (by simp) _ _⟩
    | func f => exact ⟨h1, h3 (by simp) _ _⟩
    | global q => simp [rdRaw] at hrx

theorem OwnOk.of_norm {ω : Nat → Option Rt} {pos : Pos} (p : PV S) (v : Value) : OwnOk L ω pos p.norm v := by
  cases p <;> simp [PV.norm, OwnOk]

/-- The arguments of a call, and what they leave. -/
theorem args_rel (h : Inv L g st a w) {tk fl : Bool} {fst cap : List (PV S)} {ts : List TypeId} {xs : List Operand} {args : List (PV S)} (hargs : callArgs P L tk fl st fst cap ts xs = some args)
    {va vb : List Value} (ha : PRels L g.β g.G fst va) (hb : PRels L g.β g.G cap vb) :
    ∃ g1, g1.β = g.β ∧ g1.G = g.G ∧ Inv L g1 { st with slots := updL st.slots (if tk then tookAll st xs else []) } a w ∧ Fr g w g1 w ∧
      args.length = (va ++ xs.map a.eval ++ vb).length ∧
      ∀ (j : Nat) (p : PV S), args[j]? = some p → ∃ v, (va ++ xs.map a.eval ++ vb)[j]? = some v ∧ SRel L g1 (.arg j) p v := by
  have glue : ∀ (g1 : Gh) (mid : List (PV S)), g1.β = g.β → g1.G = g.G → mid.length = (xs.map a.eval).length →
      (∀ (j : Nat) (p : PV S), mid[j]? = some p → ∃ v, (xs.map a.eval)[j]? = some v ∧ SRel L g1 (.arg (fst.length + j)) p v) →
      (fst.map PV.norm ++ mid ++ cap.map PV.norm).length = (va ++ xs.map a.eval ++ vb).length ∧
      ∀ (j : Nat) (p : PV S), (fst.map PV.norm ++ mid ++ cap.map PV.norm)[j]? = some p → ∃ v, (va ++ xs.map a.eval ++ vb)[j]? = some v ∧ SRel L g1 (.arg j) p v := by
    intro g1 mid e1 e2 hl hm
    have l1 := ha.length
    have l2 := hb.length
    refine ⟨by simp at hl ⊢; omega, fun j p hp => ?_⟩
    by_cases c1 : j < fst.length
    · rw [List.append_assoc, List.getElem?_append_left (by simpa using c1)] at hp
      rw [List.append_assoc, List.getElem?_append_left (by omega)]
      simp only [List.getElem?_map, Option.map_eq_some_iff] at hp
      obtain ⟨q, hq, rfl⟩ := hp
      obtain ⟨v, hv, hvr⟩ := ha.get hq
      exact ⟨v, hv, by rw [e1, e2]; exact hvr.norm, OwnOk.of_norm _ _⟩
    · by_cases c2 : j < fst.length + mid.length
      · rw [List.append_assoc, List.getElem?_append_right (by simp; omega), List.getElem?_append_left (by simp; omega)] at hp
        simp only [List.length_map] at hp
        obtain ⟨v, hv, hvr⟩ := hm _ p hp
        refine ⟨v, ?_, by rwa [show fst.length + (j - fst.length) = j by omega] at hvr⟩
        rw [List.append_assoc, List.getElem?_append_right (by omega), List.getElem?_append_left (by omega), ← l1]; exact hv
      · rw [List.getElem?_append_right (by simp; omega)] at hp
        rw [List.getElem?_append_right (by simp; simp at hl; omega)]
        simp only [List.getElem?_map, Option.map_eq_some_iff] at hp
        obtain ⟨q, hq, rfl⟩ := hp
        obtain ⟨v, hv, hvr⟩ := hb.get hq
        refine ⟨v, ?_, by rw [e1, e2]; exact hvr.norm, OwnOk.of_norm _ _⟩
        rw [← hv]; congr 1; simp at hl ⊢; omega
  unfold callArgs at hargs
  cases tk with
  | true =>
    simp only [if_true] at hargs ⊢
    split at hargs
    · rename_i mid hm
      split at hm
      · rename_i hn
        cases hargs
        obtain ⟨i1, i2, i3, i4⟩ := h.takeAll fst.length hn hm
        exact ⟨g.args xs fst.length, rfl, rfl, i1, i2, glue _ mid rfl rfl i3 i4⟩
      · cases hm
    · cases hargs
  | false =>
    simp only [Bool.false_eq_true, if_false] at hargs ⊢
    have hself : Inv L g { st with slots := updL st.slots [] } a w := h
    split at hargs
    · rename_i mid hm
      cases hargs
      refine ⟨g, rfl, rfl, hself, Fr.refl g w, glue g mid rfl rfl ?_ ?_⟩
      · cases fl with
        | true => simp only [if_true] at hm; exact (rdAll_rel h hm).1.length
        | false =>
          simp only [Bool.false_eq_true, if_false] at hm
          cases hq : rdAll P L st ts xs with
          | none => simp [hq] at hm
          | some qs => simp [hq] at hm; subst hm; simpa using (rdAll_rel h hq).1.length
      · intro j p hp
        cases fl with
        | true =>
          simp only [if_true] at hm
          obtain ⟨r1, r2⟩ := rdAll_rel h hm
          obtain ⟨v, hv, hvr⟩ := r1.get hp
          exact ⟨v, hv, hvr, OwnOk.none (r2 p (List.mem_of_getElem? hp))⟩
        | false =>
          simp only [Bool.false_eq_true, if_false] at hm
          cases hq : rdAll P L st ts xs with
          | none => simp [hq] at hm
          | some qs =>
            simp [hq] at hm; subst hm
            rw [List.getElem?_map] at hp
            cases hz : qs[j]? with
            | none => simp [hz] at hp
            | some z =>
              simp [hz] at hp; subst hp
              obtain ⟨v, hv, hvr⟩ := (rdAll_rel h hq).1.get hz
              exact ⟨v, hv, hvr.norm, OwnOk.of_norm _ _⟩
    · cases hargs

theorem callE_around (h : Inv L g st a w) {call : DCall S} {f : FuncId} {args : List (PV S)} {r : Res S} {cs : List Nat} {now : List (List (PV S))} {more : Mem S}
    (hE : callE call st f args = some (r, cs, now, more)) : ∃ (lm : Mem S) (r0 : Res S) (m' : Mem S) (now0 : List (List (PV S))), closedB st.mem cs args = true ∧ locMem st.mem cs = some lm ∧ call f (PV.renL (idx cs) args) lm = some (r0, m') ∧
      now0.length = cs.length ∧ (∀ (i : Nat), i < cs.length → ∃ v, now0[i]? = some v ∧ cellAt m' i = some v) ∧
      r = resRen (back cs st.mem.length) r0 ∧ now = now0.map (PV.renL (back cs st.mem.length)) ∧ more = backMem cs st.mem.length (m'.drop cs.length) := by
  unfold callE at hE
  simp only at hE
  generalize reachN st.mem.length st.mem (PV.ptrsL args).eraseDups = cs0 at hE
  split at hE
  · rename_i hcl
    cases hlm : locMem st.mem cs0 with
    | none => simp [hlm] at hE
    | some lm =>
      simp only [hlm] at hE
      cases hc : call f (PV.renL (idx cs0) args) lm with
      | none => simp [hc] at hE
      | some q =>
        obtain ⟨r0, m'⟩ := q
        simp only [hc] at hE
        cases hn : someAll (m'.take cs0.length) with
        | none => simp [hn] at hE
        | some now0 =>
          simp only [hn] at hE
          split at hE
          · rename_i hl
            cases hE
            refine ⟨lm, r0, m', now0, hcl, hlm, hc, hl, fun i hi => ?_, rfl, rfl, rfl⟩
            have hi' : i < now0.length := by omega
            refine ⟨_, List.getElem?_eq_getElem hi', ?_⟩
            rw [← cellAt_take hi]
            exact ((someAll_spec hn).2 i _).1 (List.getElem?_eq_getElem hi')
          · cases hE
  · cases hE

theorem step_call (h : Inv L g st a w) {call : DCall S} (hcall : ∀ f args m r, call f args m = some r → CallOk P L f args m r) {o : Oper} {c : Call} (ho : o.op = .call c) {f : Operand} (hc : c.callee = .value f)
    {fd : FuncId} {fst cap : List (PV S)} (hf : rd P L st 0 f = some (.fn (.func fd) fst cap)) {tk fl : Bool} {args : List (PV S)} (hargs : callArgs P L tk fl st fst cap c.argTypes.toList c.args.toList = some args)
    {r : Res S} {cs : List Nat} {now : List (List (PV S))} {more : Mem S} (hE : callE call st fd args = some (r, cs, now, more))
    (hd : ∀ p, r = .ret p → fits st.nt ((if tk then tookAll st c.args.toList else []) ++ wr o.dst p) = true) :
    StepOk P L g w st o a (match r with
      | .ret p => .ok { w := (if tk then tookAll st c.args.toList else []) ++ wr o.dst p, m := cs.zip now, g := more }
      | .pan p => .pan p { m := cs.zip now, g := more }) := by
  have hfr := (rd_rel h hf).1
  simp only [PRel] at hfr
  obtain ⟨va, vb, hfv, hva, hvb⟩ := hfr
  obtain ⟨g1, gβ, gG, hI1, hF1, hlen, hget⟩ := args_rel h hargs hva hvb
  obtain ⟨lm, r0, m', now0, hcl, hlm, hcl2, hnl, hnow, hr, hnw, hmore⟩ := callE_around h hE
  obtain ⟨cl1, cl2, cl3⟩ := closedB_spec hcl
  have hok := hcall fd _ lm (r0, m') hcl2 (g1.loc cs) (va ++ c.args.toList.map a.eval ++ vb) w (loc_mem hI1.mem hcl hlm) (by rw [renL_map, List.length_map]; exact hlen) (fun i p hp => by
    rw [renL_map, List.getElem?_map] at hp
    cases hq : args[i]? with
    | none => simp [hq] at hp
    | some q =>
      simp [hq] at hp; subst hp
      obtain ⟨v, hv, hvr⟩ := hget i q hq
      refine ⟨v, hv, hvr.1.ren (fun cc hcc b hb => ?_), ?_⟩
      · have hm := cl1 cc (ptrsL_get hq hcc)
        simp only [Gh.loc, idx_get hm]; exact hb
      · rw [ren_own]
        have h2 := hvr.2
        cases q <;> simp only [OwnOk] at h2 ⊢
        intro ad n cc hvv hn
        obtain ⟨r, f1, f2, f3, f4⟩ := h2 ad n cc hvv hn
        exact ⟨{ r with pos := .slot i }, by simp only [Gh.loc, f1, f2], rfl, f3, f4⟩)
  have harr : (va ++ c.args.toList.map a.eval ++ vb).toArray = va.toArray ++ c.args.map a.eval ++ vb.toArray := by
    apply Array.ext'; simp
  rw [harr] at hok
  have hexec : (execOp a.eval o).run P w = (callFunc fd (va.toArray ++ c.args.map a.eval ++ vb.toArray)).run P w := by
    simp only [execOp, ho, resolve, hc, hfv, Deferred.ofValue, Sem.run_bind, Sem.run_pure, Result.andThen_ok, invoke]
  -- what any return leads to
  have hA : ∀ g' w', Fr (g1.loc cs) w g' w' → MemInv L g' m' w' → Around L g1 st w cs m' g' w' now0 := fun g' w' f1 f2 =>
    ⟨hI1.mem, cl3, fun cc hcc => by
      obtain ⟨v, hv, _⟩ := cl2 cc hcc
      obtain ⟨b, _, _, hb, _⟩ := hI1.mem.cell cc v hv
      exact ⟨b, hb⟩, f1, f2, hnl, hnow⟩
  have happly : ∀ ws, ({ w := ws, m := cs.zip now, g := more } : Eff S).apply st = { st with slots := updL st.slots ws, mem := setL st.mem (cs.zip now) ++ more } := by
    intro ws; simp [Eff.apply]
  have hIaft : ∀ g' w', (A : Around L g1 st w cs m' g' w' now0) → Inv L (g1.aft cs st.mem.length w g') { st with slots := updL st.slots (if tk then tookAll st c.args.toList else []), mem := setL st.mem (cs.zip now) ++ more } a w' := by
    intro g' w' A
    refine ⟨hI1.size, fun i => ?_, by rw [hnw, hmore]; exact A.memAft, hI1.dfs.mono A.gmono A.βmono⟩
    have := hI1.slot i
    exact ⟨this.1.mono A.gmono A.βmono, A.ownKept ⟨by simp, by simp⟩ this.2⟩
  cases r with
  | ret p =>
    simp only
    have hr0 : ∃ p0, r0 = .ret p0 ∧ p = p0.ren (back cs st.mem.length) := by
      cases r0 with
      | ret p0 => simp [resRen] at hr; exact ⟨p0, rfl, hr⟩
      | pan p0 => simp [resRen] at hr
    obtain ⟨p0, rfl, rfl⟩ := hr0
    intro K Q hK
    have main : ∀ v w', ResOk L (g1.loc cs) w (.ret p0, m') (.returned v) w' → K (a.put o.dst v) w' := by
      rintro v w' ⟨g', f1, f2, v', hv', hrel⟩
      cases hv'
      have A := hA g' w' f1 f2
      have hI := (hIaft g' w' A).mvRes (posOf o.dst)
      have hF := hF1.trans (A.frAft.trans (Fr.mv _ w' .res (posOf o.dst)))
      have hp1 : SRel L ((g1.aft cs st.mem.length w g').mv .res (posOf o.dst)) (posOf o.dst) (p0.ren (back cs st.mem.length)) v :=
        ⟨A.relBack hrel.1, OwnOk.mv_self (ren_own.2 (by simpa [backPos] using A.ownBack hrel.2))⟩
      refine hK _ _ _ ?_ hF
      rw [happly]
      cases hdst : o.dst with
      | none => simp only [wr, List.append_nil]; rw [hdst] at hI; exact hI
      | some d =>
        have hdd := hd _ rfl
        rw [hdst] at hdd hp1 hI
        rw [updL_app]
        exact hI.put (fits_wr (dst := some d) (fits_app hdd).2 d rfl) hp1.1 hp1.2
    unfold Oper.wp
    rw [hexec]
    rcases hok with ⟨e1, e2⟩ | ⟨v, w', e1, e2⟩
    · rw [e1, Oper.upon_enter]
      refine e2.mono fun e w' hR => ?_
      obtain ⟨g', f1, f2, v', hv', hrel⟩ := hR
      subst hv'
      exact main v' w' ⟨g', f1, f2, v', rfl, hrel⟩
    · rw [e1, Oper.upon_value]
      exact main v w' e2
  | pan p =>
    simp only
    have hr0 : ∃ p0, r0 = .pan p0 ∧ p = p0.ren (back cs st.mem.length) := by
      cases r0 with
      | ret p0 => simp [resRen] at hr
      | pan p0 => simp [resRen] at hr; exact ⟨p0, rfl, hr⟩
    obtain ⟨p0, rfl, rfl⟩ := hr0
    intro K Q hK
    unfold Oper.wp
    rw [hexec]
    rcases hok with ⟨e1, e2⟩ | ⟨v, w', e1, e2⟩
    · rw [e1, Oper.upon_enter]
      refine e2.mono fun e w' hR => ?_
      obtain ⟨g', f1, f2, v', hv', hrel⟩ := hR
      subst hv'
      have A := hA g' w' f1 f2
      refine hK w' v' (g1.aft cs st.mem.length w g') (A.relBack hrel) ?_ (hI1.dfs.mono A.gmono A.βmono) (hF1.trans A.frAft)
      have := (hIaft g' w' A).mem
      have e : ({ m := cs.zip now, g := more } : Eff S).apply st = { st with mem := setL st.mem (cs.zip now) ++ more } := by simp [Eff.apply, updL]
      rw [e]; exact this
    · obtain ⟨g', f1, f2, v', hv', _⟩ := e2
      cases hv'

end
end Go.Proofs.YtanfoijdfcnpoaaGreatDoor.Ev

set_option linter.unusedVariables false
set_option linter.unusedSimpArgs false
namespace Go.Proofs.YtanfoijdfcnpoaaGreatDoor.Ev
open Go.MapKept

theorem strEq_eq {a b : ByteArray} : strEq a b = true ↔ a = b := by
  unfold strEq
  rw [beq_iff_eq]
  constructor
  · intro h
    rw [ByteArray.toList_eq, ByteArray.toList_eq] at h
    obtain ⟨⟨x⟩⟩ := a
    obtain ⟨⟨y⟩⟩ := b
    simp only at h
    rw [h]
  · intro h; rw [h]

section
variable {α : Type}

theorem mset_new {l : List (ByteArray × α)} {s : ByteArray} (h : ∀ q ∈ l, q.1 ≠ s) (v : α) : mset l s v = l ++ [(s, v)] := by
  induction l with
  | nil => rfl
  | cons x r ih =>
    have hx : strEq s x.1 = false := by
      cases hs : strEq s x.1 with
      | false => rfl
      | true => exact absurd (strEq_eq.1 hs).symm (h x (by simp))
    simp only [mset, hx, cond_false, List.cons_append, ih fun q hq => h q (by simp [hq])]

theorem mset_old {a b : List (ByteArray × α)} {s : ByteArray} {u : α} (h : ∀ q ∈ a, q.1 ≠ s) (v : α) : mset (a ++ (s, u) :: b) s v = a ++ (s, v) :: b := by
  induction a with
  | nil => simp only [List.nil_append, mset, strEq_eq.2 rfl, cond_true]
  | cons x r ih =>
    have hx : strEq s x.1 = false := by
      cases hs : strEq s x.1 with
      | false => rfl
      | true => exact absurd (strEq_eq.1 hs).symm (h x (by simp))
    simp only [List.cons_append, mset, hx, cond_false, ih fun q hq => h q (by simp [hq])]

theorem mget_none {l : List (ByteArray × α)} {s : ByteArray} (h : ∀ q ∈ l, q.1 ≠ s) (d : α) : mget d l s = d := by
  induction l with
  | nil => rfl
  | cons x r ih =>
    have hx : strEq s x.1 = false := by
      cases hs : strEq s x.1 with
      | false => rfl
      | true => exact absurd (strEq_eq.1 hs).symm (h x (by simp))
    simp only [mget, hx, cond_false, ih fun q hq => h q (by simp [hq])]

theorem mget_old {a b : List (ByteArray × α)} {s : ByteArray} {u : α} (h : ∀ q ∈ a, q.1 ≠ s) (d : α) : mget d (a ++ (s, u) :: b) s = u := by
  induction a with
  | nil => simp only [List.nil_append, mget, strEq_eq.2 rfl, cond_true]
  | cons x r ih =>
    have hx : strEq s x.1 = false := by
      cases hs : strEq s x.1 with
      | false => rfl
      | true => exact absurd (strEq_eq.1 hs).symm (h x (by simp))
    simp only [List.cons_append, mget, hx, cond_false, ih fun q hq => h q (by simp [hq])]

theorem mdel_none {l : List (ByteArray × α)} {s : ByteArray} (h : ∀ q ∈ l, q.1 ≠ s) : mdel l s = l := by
  induction l with
  | nil => rfl
  | cons x r ih =>
    have hx : strEq s x.1 = false := by
      cases hs : strEq s x.1 with
      | false => rfl
      | true => exact absurd (strEq_eq.1 hs).symm (h x (by simp))
    simp only [mdel, hx, cond_false, ih fun q hq => h q (by simp [hq])]

theorem mdel_old {a b : List (ByteArray × α)} {s : ByteArray} {u : α} (h : ∀ q ∈ a, q.1 ≠ s) : mdel (a ++ (s, u) :: b) s = a ++ b := by
  induction a with
  | nil => simp only [List.nil_append, mdel, strEq_eq.2 rfl, cond_true]
  | cons x r ih =>
    have hx : strEq s x.1 = false := by
      cases hs : strEq s x.1 with
      | false => rfl
      | true => exact absurd (strEq_eq.1 hs).symm (h x (by simp))
    simp only [List.cons_append, mdel, hx, cond_false, ih fun q hq => h q (by simp [hq])]

/-- A key of a list, or none of its. -/
theorem key_split (l : List (ByteArray × α)) (s : ByteArray) : (∀ q ∈ l, q.1 ≠ s) ∨ ∃ a u b, l = a ++ (s, u) :: b ∧ ∀ q ∈ a, q.1 ≠ s := by
  induction l with
  | nil => exact .inl (by simp)
  | cons x r ih =>
    by_cases hx : x.1 = s
    · exact .inr ⟨[], x.2, r, by rw [← hx]; rfl, by simp⟩
    · rcases ih with ih | ⟨a, u, b, rfl, ha⟩
      · refine .inl fun q hq => ?_
        rcases List.mem_cons.1 hq with rfl | hq
        · exact hx
        · exact ih q hq
      · refine .inr ⟨x :: a, u, b, rfl, fun q hq => ?_⟩
        rcases List.mem_cons.1 hq with rfl | hq
        · exact hx
        · exact ha q hq

variable {f : α → Value}

theorem entries_keys {es : Array MapEntry} {k : Nat} (h : Stamped es k) : ((entries es).map (·.1)).Nodup := by
  have := h.2.2
  simpa [entries, List.map_map, Function.comp_def] using this

/-- What the model finds is what is there. -/
theorem found {l : List (ByteArray × α)} {es : Array MapEntry} {k : Nat} (hp : (entries es).Perm (pairsOf f l)) (hs : Stamped es k) (s : ByteArray) :
    (∀ x ∈ es.toList, IsKey .string x.key) ∧
    ((Instr.findNow .string (.string s) es.toList 0 = some none ∧ (∀ q ∈ l, q.1 ≠ s) ∧ ∀ x ∈ es.toList, x.key ≠ .string s) ∨
     ∃ j e a u b, Instr.findNow .string (.string s) es.toList 0 = some (some (j, e.val)) ∧ es[j]? = some e ∧ e.key = .string s ∧ e.val = f u ∧ l = a ++ (s, u) :: b ∧ (∀ q ∈ a, q.1 ≠ s) ∧
       ((entries es).take j ++ (entries es).drop (j + 1)).Perm (pairsOf f (a ++ b))) := by
  have hkeys : ∀ x ∈ es.toList, IsKey .string x.key := by
    intro x hx
    have h1 : (x.key, x.val) ∈ entries es := List.mem_map.2 ⟨x, hx, rfl⟩
    have h2 := hp.mem_iff.1 h1
    obtain ⟨q, _, hq⟩ := List.mem_map.1 h2
    have : x.key = .string q.1 := (congrArg Prod.fst hq).symm
    rw [this]; trivial
  refine ⟨hkeys, ?_⟩
  rcases findNow_spec (d := .string) (k := .string s) trivial es.toList 0 hkeys with ⟨h1, h2⟩ | ⟨j, e, h1, h2, h3⟩
  · refine .inl ⟨h1, fun q hq hqs => ?_, h2⟩
    have h4 : (Value.string q.1, f q.2) ∈ entries es := hp.mem_iff.2 (List.mem_map.2 ⟨q, hq, rfl⟩)
    obtain ⟨x, hx, hxe⟩ := List.mem_map.1 h4
    have : x.key = .string q.1 := congrArg Prod.fst hxe
    exact h2 x hx (by rw [this, hqs])
  · have hj : es[j]? = some e := by simpa using h2
    have hjE : (entries es)[j]? = some (.string s, e.val) := by simp [entries, hj, h3]
    have hjl : j < (entries es).length := (List.getElem?_eq_some_iff.1 hjE).1
    have hsplit : entries es = (entries es).take j ++ (Value.string s, e.val) :: (entries es).drop (j + 1) := by
      have h5 : (entries es)[j] = (.string s, e.val) := (List.getElem?_eq_some_iff.1 hjE).2
      rw [← h5, ← List.drop_eq_getElem_cons hjl, List.take_append_drop]
    have hmem : (Value.string s, e.val) ∈ pairsOf f l := hp.mem_iff.1 (List.mem_of_getElem? hjE)
    obtain ⟨q, hq, hqe⟩ := List.mem_map.1 hmem
    have hqs : q.1 = s := by have := congrArg Prod.fst hqe; simpa using this
    rcases key_split l s with hno | ⟨a, u, b, rfl, ha⟩
    · exact absurd hqs (hno q hq)
    · have hnd : ((pairsOf f (a ++ (s, u) :: b)).map (·.1)).Nodup := (hp.map _).nodup_iff.1 (entries_keys hs)
      have hqu : f q.2 = f u := by
        rcases List.mem_append.1 hq with hq | hq
        · exact absurd hqs (ha q hq)
        · rcases List.mem_cons.1 hq with rfl | hq
          · rfl
          · exfalso
            simp only [pairsOf, List.map_append, List.map_cons, List.map_map] at hnd
            have h6 := (List.nodup_append.1 hnd).2.1
            have h7 := (List.nodup_cons.1 h6).1
            exact h7 (List.mem_map.2 ⟨q, hq, by simp [hqs]⟩)
      have hval : e.val = f u := by
        have := congrArg Prod.snd hqe
        simp only at this
        rw [← this, hqu]
      refine .inr ⟨j, e, a, u, b, by simpa using h1, hj, h3, hval, rfl, ha, ?_⟩
      have h8 : ((entries es).take j ++ (Value.string s, f u) :: (entries es).drop (j + 1)).Perm (pairsOf f (a ++ (s, u) :: b)) := by
        rw [← hval, ← hsplit]; exact hp
      have h9 : ((Value.string s, f u) :: ((entries es).take j ++ (entries es).drop (j + 1))).Perm ((Value.string s, f u) :: pairsOf f (a ++ b)) := by
        refine List.perm_middle.symm.trans (h8.trans ?_)
        simp only [pairsOf, List.map_append, List.map_cons]
        exact List.perm_middle
      exact List.Perm.cons_inv h9

theorem entries_push (es : Array MapEntry) (e : MapEntry) : entries (es.push e) = entries es ++ [(e.key, e.val)] := by simp [entries]

theorem entries_modify {es : Array MapEntry} {j : Nat} {e : MapEntry} (hj : es[j]? = some e) (g : MapEntry → MapEntry) : entries (es.modify j g) = (entries es).take j ++ ((g e).key, (g e).val) :: (entries es).drop (j + 1) := by
  have hl : j < es.size := (Array.getElem?_eq_some_iff.1 hj).1
  have hle : j < (entries es).length := by simp [entries, hl]
  apply List.ext_getElem?
  intro i
  have h1 : (entries (es.modify j g))[i]? = (es.modify j g)[i]?.map fun e => (e.key, e.val) := by simp only [entries, List.getElem?_map, Array.getElem?_toList]
  have h2 : (entries es)[i]? = es[i]?.map fun e => (e.key, e.val) := by simp [entries]
  rw [h1, Array.getElem?_modify]
  have hlen : ((entries es).take j).length = j := by rw [List.length_take]; omega
  by_cases hij : j = i
  · subst hij
    rw [if_pos rfl, hj, List.getElem?_append_right (by omega), hlen, Nat.sub_self]
    rfl
  · rw [if_neg hij, ← h2]
    by_cases hi : i < j
    · rw [List.getElem?_append_left (by omega), List.getElem?_take_of_lt hi]
    · rw [List.getElem?_append_right (by omega), hlen]
      obtain ⟨d, hd⟩ : ∃ d, i - j = d + 1 := ⟨i - j - 1, by omega⟩
      rw [hd, List.getElem?_cons_succ, List.getElem?_drop]
      congr 1; omega

theorem entries_erase {es : Array MapEntry} {j : Nat} {e : MapEntry} (hj : es[j]? = some e) : entries (es.eraseIdxIfInBounds j) = (entries es).take j ++ (entries es).drop (j + 1) := by
  have hl : j < es.size := (Array.getElem?_eq_some_iff.1 hj).1
  unfold Array.eraseIdxIfInBounds
  rw [dif_pos hl]
  simp only [entries, Array.toList_eraseIdx, List.eraseIdx_eq_take_drop_succ, List.map_append, List.map_take, List.map_drop]

variable {P : Program} {w : World} {mty kt et : TypeId} {r clock : Nat} {es : Array MapEntry} {l : List (ByteArray × α)}

theorem run_mapSet (hm : P.underlying mty = some (.map kt et)) (hd : P.underlying kt = some .string) (hb : w.heap[r]? = some (.map es clock)) (hp : (entries es).Perm (pairsOf f l)) (hs : Stamped es clock) (s : ByteArray) (v : α) :
    ∃ es' k', (Instr.mapUpdate mty (.map (some r)) (.string s) (f v)).run P w = .ok () { w with heap := w.heap.setIfInBounds r (.map es' k') } ∧ (entries es').Perm (pairsOf f (mset l s v)) ∧ Stamped es' k' := by
  have hk : IsKey .string (.string s) := trivial
  obtain ⟨hkeys, h⟩ := found hp hs s
  rcases h with ⟨h1, h2, h3⟩ | ⟨j, e, a, u, b, h1, hj, h3, h4, rfl, h5, h6⟩
  · refine ⟨es.push { key := .string s, val := f v, born := clock }, clock + 1, ?_, ?_, stamped_push hs h3⟩
    · simp [Instr.mapUpdate, run_underlying hm, Go.MapKept.run_getObj_map hb, Go.MapKept.run_checkKey hd hk, Go.MapKept.run_findKey hd h1, Go.MapKept.run_setObj_map _ hb, Result.andThen]
    · rw [entries_push, mset_new h2]
      simp only [pairsOf, List.map_append, List.map_cons, List.map_nil]
      exact hp.append_right _
  · refine ⟨es.modify j fun e => { e with key := .string s, val := f v }, clock, ?_, ?_, stamped_modify hs _ _ (fun _ _ => rfl) fun e' _ he' => ?_⟩
    · simp [Instr.mapUpdate, run_underlying hm, Go.MapKept.run_getObj_map hb, Go.MapKept.run_checkKey hd hk, Go.MapKept.run_findKey hd h1, hj, h3, Go.MapKept.run_keyThatStays hk, Go.MapKept.run_setObj_map _ hb, Result.andThen]
    · rw [entries_modify hj, mset_old h5]
      refine List.perm_middle.trans ((h6.cons _).trans ?_)
      simp only [pairsOf, List.map_append, List.map_cons]
      exact List.perm_middle.symm
    · rw [hj] at he'; cases he'; exact h3.symm

theorem run_mapDel (hm : P.underlying mty = some (.map kt et)) (hd : P.underlying kt = some .string) (hb : w.heap[r]? = some (.map es clock)) (hp : (entries es).Perm (pairsOf f l)) (hs : Stamped es clock) (s : ByteArray) (ts : Array TypeId) (hts : ts[0]? = some mty) (ty : TypeId) :
    ∃ es', (Builtin.delete_ ts ty #[.map (some r), .string s]).run P w = .ok (.tuple #[]) { w with heap := w.heap.setIfInBounds r (.map es' clock) } ∧ (entries es').Perm (pairsOf f (mdel l s)) ∧ Stamped es' clock := by
  have hk : IsKey .string (.string s) := trivial
  obtain ⟨hkeys, h⟩ := found hp hs s
  rcases h with ⟨h1, h2, h3⟩ | ⟨j, e, a, u, b, h1, hj, h3, h4, rfl, h5, h6⟩
  · refine ⟨es, ?_, by rw [mdel_none h2]; exact hp, hs⟩
    simp [Builtin.delete_, hts, run_underlying hm, Go.MapKept.run_getObj_map hb, Go.MapKept.run_checkKey hd hk, Go.MapKept.run_findKey hd h1, Go.MapKept.run_setObj_map _ hb, Result.andThen]
  · refine ⟨es.eraseIdxIfInBounds j, ?_, ?_, stamped_erase hs j⟩
    · simp [Builtin.delete_, hts, run_underlying hm, Go.MapKept.run_getObj_map hb, Go.MapKept.run_checkKey hd hk, Go.MapKept.run_findKey hd h1, Go.MapKept.run_setObj_map _ hb, Result.andThen]
    · rw [entries_erase hj, mdel_old h5]; exact h6

theorem run_mapGet (hm : P.underlying mty = some (.map kt et)) (hd : P.underlying kt = some .string) (hb : w.heap[r]? = some (.map es clock)) (hp : (entries es).Perm (pairsOf f l)) (hs : Stamped es clock) (s : ByteArray) (d : α) (hz : (zeroValue et).run P w = .ok (f d) w) :
    (Instr.lookup mty (.map (some r)) (.string s) false).run P w = .ok (f (mget d l s)) w := by
  have hk : IsKey .string (.string s) := trivial
  obtain ⟨hkeys, h⟩ := found hp hs s
  rcases h with ⟨h1, h2, h3⟩ | ⟨j, e, a, u, b, h1, hj, h3, h4, rfl, h5, h6⟩
  · rw [mget_none h2]
    simp [Instr.lookup, run_underlying hm, Go.MapKept.run_getObj_map hb, Go.MapKept.run_checkKey hd hk, Go.MapKept.run_findKey hd h1, hz, Result.andThen]
  · rw [mget_old h5]
    simp [Instr.lookup, run_underlying hm, Go.MapKept.run_getObj_map hb, Go.MapKept.run_checkKey hd hk, Go.MapKept.run_findKey hd h1, h4, Result.andThen]

end

section
variable {S : Sig} {P : Program} {L : Lay S} {g : Gh} {st : St S} {a : Act} {w w' : World}

theorem MapC.set_run {x x' : MapC} {s : ByteArray} {p : PV S} {v : Value} {β : Nat → Option Nat} {G : Nat → Nat → Option Value} (h : x.set s p = some x') (hv : PRel L β G p v) {mty kt et : TypeId} {r k : Nat} {es : Array MapEntry}
    (hm : P.underlying mty = some (.map kt et)) (hd : P.underlying kt = some .string) (hb : w.heap[r]? = some (.map es k)) (hr : MapRel x es k) :
    ∃ es' k', (Instr.mapUpdate mty (.map (some r)) (.string s) v).run P w = .ok () { w with heap := w.heap.setIfInBounds r (.map es' k') } ∧ MapRel x' es' k' := by
  unfold MapC.set at h
  split at h
  · cases h
    simp only [PRel] at hv
    cases hv
    exact run_mapSet (f := Value.bool) hm hd hb hr.1 hr.2 s _
  · cases h
    simp only [PRel] at hv
    cases hv
    exact run_mapSet (f := Value.string) hm hd hb hr.1 hr.2 s _
  · cases h

theorem MapC.del_run {x : MapC} {s : ByteArray} {mty kt et : TypeId} {r k : Nat} {es : Array MapEntry}
    (hm : P.underlying mty = some (.map kt et)) (hd : P.underlying kt = some .string) (hb : w.heap[r]? = some (.map es k)) (hr : MapRel x es k) (ts : Array TypeId) (hts : ts[0]? = some mty) (ty : TypeId) :
    ∃ es', (Builtin.delete_ ts ty #[.map (some r), .string s]).run P w = .ok (.tuple #[]) { w with heap := w.heap.setIfInBounds r (.map es' k) } ∧ MapRel (x.del s) es' k := by
  cases x with
  | b l => exact run_mapDel (f := Value.bool) hm hd hb hr.1 hr.2 s ts hts ty
  | s l => exact run_mapDel (f := Value.string) hm hd hb hr.1 hr.2 s ts hts ty

theorem emptyM_spec {t kt et : TypeId} {z : MapC} (h : emptyM P L t = some (z, kt, et)) : P.underlying t = some (.map kt et) ∧ P.underlying kt = some .string ∧
    ((z = .b [] ∧ zeroPV P L et = some (.d (.bool false))) ∨ (z = .s [] ∧ zeroPV P L et = some (.d (.str (ByteArray.mk #[]))))) := by
  unfold emptyM at h
  split at h
  · rename_i kt' et' hm
    split at h
    · rename_i h1 h2; cases h; exact ⟨hm, h1, .inl ⟨rfl, h2⟩⟩
    · rename_i s h1 h2
      cases hs : strEq s (ByteArray.mk #[]) with
      | false => rw [hs] at h; cases h
      | true =>
        rw [hs] at h; cases h
        rw [strEq_eq.1 hs] at h2
        exact ⟨hm, h1, .inr ⟨rfl, h2⟩⟩
    · cases h
  · cases h

/-- A map's block is replaced. -/
theorem MemInv.setMap {m : Mem S} (h : MemInv L g m w) {c b : Nat} {x x' : MapC} {es es' : Array MapEntry} {k k' : Nat} (hc : cellAt m c = some [.mpo x]) (hb : g.β c = some b) (hg : w.heap[b]? = some (.map es k)) (hr : MapRel x' es' k') :
    MemInv L g (m.set c (some [.mpo x'])) { w with heap := w.heap.setIfInBounds b (.map es' k') } := by
  obtain ⟨hs1, hs2⟩ := heap_set (o' := .map es' k') hg
  refine ⟨fun c' qs hqs => ?_, fun c' b' hb' => ?_, h.inj, h.βG, fun b' o v hv => ?_, fun b' r hrr => ?_, h.wok_sub (fun c b hb => .inl ⟨c, hb⟩) (fun _ _ _ h => h) (fun b' o hβ' _ hb' => ?_)⟩
  · rw [cellAt_set (cellAt_lt hc)] at hqs
    split at hqs
    · rename_i e; subst e; cases hqs
      refine ⟨b, #[.bool false], .map x' es' k' rfl hr, hb, hs1, rfl, fun j p hp => ?_⟩
      cases j with
      | zero => simp at hp; subst hp; exact ⟨.bool false, rfl, by simp only [PRel], trivial⟩
      | succ j => simp at hp
    · rename_i hne
      obtain ⟨b', vs2, ty2, h1, h2, h3, h4⟩ := h.cell c' qs hqs
      have hbb : b' ≠ b := fun e => hne (h.inj c' c b (e ▸ h1) hb)
      exact ⟨b', vs2, ty2, h1, (hs2 b' hbb).trans h2, h3, h4⟩
  · rw [cellAt_set (cellAt_lt hc)]
    split
    · exact ⟨_, rfl⟩
    · exact h.dom c' b' hb'
  · have hbb : b' ≠ b := fun e => by have := h.βG c b hb o; rw [← e, hv] at this; cases this
    have := h.gs b' o v hv
    rw [← this]
    simp only [World.cell?, hs2 b' hbb]
  · obtain ⟨h1, ⟨cs, ty', h2, h3⟩, h4⟩ := h.rt b' r hrr
    have hbb : b' ≠ b := fun e => h1 c (e ▸ hb)
    exact ⟨h1, ⟨cs, ty', (hs2 b' hbb).trans h2, h3⟩, h4⟩
  · exact (hs2 b' (fun e => hβ' c (e ▸ hb))).trans hb'

theorem Fr.setMap {m : Mem S} (h : MemInv L g m w) {c b : Nat} (hb : g.β c = some b) (o : Obj) {o0 : Obj} (hg : w.heap[b]? = some o0) : Fr g w g { w with heap := w.heap.setIfInBounds b o } :=
  ⟨rfl, rfl, rfl, by simp, fun b' _ hβ' hω' => ⟨(heap_set (o' := o) hg).2 b' (fun e => hβ' c (e ▸ hb)), fun _ => rfl, hω'⟩, fun _ _ _ h => h, fun _ _ h => h, fun _ _ h => .inl h⟩

theorem mapAt_spec (h : MemInv L g st.mem w) {c b : Nat} {z y : MapC} (hy : mapAt st c z = some y) (hb : g.β c = some b) : cellAt st.mem c = some [.mpo y] ∧ y.like z = true ∧ ∃ es k, w.heap[b]? = some (.map es k) ∧ MapRel y es k := by
  unfold mapAt at hy
  split at hy
  · rename_i y' hc
    cases hl : y'.like z with
    | false => rw [hl] at hy; cases hy
    | true =>
      rw [hl] at hy; cases hy
      obtain ⟨b', vs, ty, h1, h2, _, _⟩ := h.cell c _ hc
      rw [hb] at h1; cases h1
      refine ⟨hc, hl, ?_⟩
      cases ty with
      | cells t hn => cases hn
      | map x es k he hr => cases he; exact ⟨es, k, h2, hr⟩
  · cases hy

theorem step_makeMap (h : Inv L g st a w) {o : Oper} {t kt et : TypeId} (ho : o.op = .makeMap t none) {z : MapC} (hz : emptyM P L t = some (z, kt, et)) {cid : Nat} (hc : st.mem[cid]? = some none)
    (hd : fits st.nt (wr o.dst (.mp cid : PV S)) = true) : StepOk P L g w st o a (.ok { w := wr o.dst (.mp cid), m := [(cid, [.mpo z])] }) := by
  intro K Q hK
  obtain ⟨_, _, hz'⟩ := emptyM_spec hz
  have hrel : MapRel z #[] 0 := by
    rcases hz' with ⟨rfl, _⟩ | ⟨rfl, _⟩ <;> exact ⟨List.Perm.refl _, stamped_empty 0⟩
  have hrun : (execOp a.eval o).run P w = .ok (.value (.map (some w.heap.size))) (w.alloc (.map #[] 0)) := by
    simp [execOp, ho, Instr.makeMap]
  unfold Oper.wp
  rw [hrun, Oper.upon_value]
  have hm := h.mem.newCell hc (ps := [.mpo z]) (vs := #[.bool false]) (.map z #[] 0 rfl hrel) rfl (fun j p hp => by
    cases j with
    | zero => simp at hp; subst hp; exact ⟨.bool false, rfl, by simp only [PRel], trivial⟩
    | succ j => simp at hp)
  have hI := h.of_mono (g' := g.newC cid w.heap.size) (fun _ _ _ h => h) (newC_mono h.mem hc) (fun _ _ _ h => h.2) hm
  refine hK _ _ (g.newC cid w.heap.size) ?_ (Fr.newC h.mem hc _)
  rw [apply_wm]
  cases hdst : o.dst with
  | none => exact hI
  | some d =>
    rw [hdst] at hd
    exact hI.put (fits_wr (dst := some d) (p := .mp cid) hd d rfl) (by simp only [PRel]; exact ⟨w.heap.size, by simp [Gh.newC], rfl⟩) trivial

theorem step_mapSet (h : Inv L g st a w) {o : Oper} {t : TypeId} {m kx x : Operand} (ho : o.op = .mapUpdate t m kx x ∨ o.op = .insert t m kx x) {out : Out S} (hk : mapSetK P L o st t m kx x some = some out)
    (hd : ∀ e, out = .ok e → fits st.nt e.w = true) : StepOk P L g w st o a out := by
  unfold mapSetK at hk
  split at hk
  · rename_i z kt et hz
    obtain ⟨hmt, hkt, _⟩ := emptyM_spec hz
    split at hk
    · rename_i c s p hm hkk hx
      split at hk
      · rename_i y hy
        split at hk
        · rename_i y' hset
          cases hk
          have hd := hd _ rfl
          intro K Q hK
          have h1 := (rd_rel h hm).1
          have h2 := (rd_rel h hkk).1
          have h3 := (rd_rel h hx).1
          simp only [PRel] at h1 h2
          obtain ⟨b, hb, h1⟩ := h1
          cases h2' : a.eval kx with
          | string s' =>
            rw [h2'] at h2; cases h2
            obtain ⟨hc, _, es, k, hg, hr⟩ := mapAt_spec h.mem hy hb
            obtain ⟨es', k', hrun, hr'⟩ := MapC.set_run hset h3 hmt hkt hg hr
            have hfull : (execOp a.eval o).run P w = .ok .skip { w with heap := w.heap.setIfInBounds b (.map es' k') } := by
              rcases ho with ho | ho <;> simp [execOp, ho, h1, h2', hrun, Result.andThen]
            unfold Oper.wp
            rw [hfull, Oper.upon_skip]
            have hI := h.of_mono (g' := g) (fun _ _ _ h => h) (fun _ _ h => h) (fun _ _ _ h => h.2) (h.mem.setMap hc hb hg hr')
            refine hK _ _ g ?_ (Fr.setMap h.mem hb _ hg)
            rw [apply_wm]
            cases hdst : o.dst with
            | none => exact hI
            | some d =>
              rw [hdst] at hd
              exact hI.put (fits_wr (dst := some d) (p := .bot) hd d rfl) (by simp only [PRel]) trivial
          | _ => rw [h2'] at h2; cases h2
        · cases hk
      · cases hk
    · cases hk
  · cases hk

theorem step_mapGet (h : Inv L g st a w) {o : Oper} {t : TypeId} {m kx : Operand} (ho : o.op = .lookup t m kx false) {out : Out S} (hk : mapGetK P L o st t m kx some = some out)
    (hd : ∀ e, out = .ok e → fits st.nt e.w = true) : StepOk P L g w st o a out := by
  unfold mapGetK at hk
  split at hk
  · rename_i z kt et hz
    obtain ⟨hmt, hkt, hzz⟩ := emptyM_spec hz
    split at hk
    · rename_i c s hm hkk
      split at hk
      · rename_i y hy
        cases hk
        have h1 := (rd_rel h hm).1
        have h2 := (rd_rel h hkk).1.d_str
        simp only [PRel] at h1
        obtain ⟨b, hb, h1⟩ := h1
        obtain ⟨hc, hlike, es, k, hg, hr⟩ := mapAt_spec h.mem hy hb
        rcases hzz with ⟨rfl, hzp⟩ | ⟨rfl, hzp⟩
        · cases y with
          | s l => cases hlike
          | b l =>
            obtain ⟨v, hv, hvr⟩ := zero_value hzp g.G g.β
            simp only [PRel] at hvr
            cases hvr
            have hrun := run_mapGet (f := Value.bool) hmt hkt hg hr.1 hr.2 s false (hv w)
            refine step_val h (hd _ rfl) (v := .bool (mget false l s)) ?_ (by simp only [PRel]; exact .bool _) rfl
            simp [execOp, ho, h1, h2, hrun]
        · cases y with
          | b l => cases hlike
          | s l =>
            obtain ⟨v, hv, hvr⟩ := zero_value hzp g.G g.β
            have hvr := hvr.d_str
            subst hvr
            have hrun := run_mapGet (f := Value.string) hmt hkt hg hr.1 hr.2 s (ByteArray.mk #[]) (hv w)
            refine step_val h (hd _ rfl) (v := .string (mget (ByteArray.mk #[]) l s)) ?_ (by simp only [PRel]; exact .str _) rfl
            simp [execOp, ho, h1, h2, hrun]
      · cases hk
    · rename_i s hm hkk
      cases hk
      have h1 := (rd_rel h hm).1
      have h2 := (rd_rel h hkk).1.d_str
      simp only [PRel] at h1
      have hkey : MapKept.IsKey .string (.string s) := trivial
      rcases hzz with ⟨rfl, hzp⟩ | ⟨rfl, hzp⟩
      · obtain ⟨v, hv, hvr⟩ := zero_value hzp g.G g.β
        simp only [PRel] at hvr
        cases hvr
        have hrun : (Instr.lookup t (.map none) (.string s) false).run P w = .ok (.bool false) w := by
          simp [Instr.lookup, run_underlying hmt, Go.MapKept.run_checkKey hkt hkey, Go.MapKept.run_findKey (a := none) hkt (show Instr.findNow .string (.string s) [] 0 = some none from rfl), hv w, Result.andThen]
        refine step_val h (hd _ rfl) (v := .bool false) ?_ (by simp only [PRel]; exact .bool _) rfl
        simp [execOp, ho, h1, h2, hrun]
      · obtain ⟨v, hv, hvr⟩ := zero_value hzp g.G g.β
        have hvr := hvr.d_str
        subst hvr
        have hrun : (Instr.lookup t (.map none) (.string s) false).run P w = .ok (.string (ByteArray.mk #[])) w := by
          simp [Instr.lookup, run_underlying hmt, Go.MapKept.run_checkKey hkt hkey, Go.MapKept.run_findKey (a := none) hkt (show Instr.findNow .string (.string s) [] 0 = some none from rfl), hv w, Result.andThen]
        refine step_val h (hd _ rfl) (v := .string (ByteArray.mk #[])) ?_ (by simp only [PRel]; exact .str _) rfl
        simp [execOp, ho, h1, h2, hrun]
    · cases hk
  · cases hk

theorem step_mapDel (h : Inv L g st a w) {o : Oper} {c : Call} (ho : o.op = .call c) (hcal : c.callee = .builtin .delete) {out : Out S} (hk : mapDelK P L o st c.argTypes.toList c.args.toList some = some out) : StepOk P L g w st o a out := by
  unfold mapDelK at hk
  split at hk
  · rename_i t u m kx ht hx hdst
    split at hk
    · rename_i z kt et hz
      obtain ⟨hmt, hkt, hzz⟩ := emptyM_spec hz
      split at hk
      · rename_i c' s hm hkk
        split at hk
        · rename_i y hy
          cases hk
          intro K Q hK
          have h1 := (rd_rel h hm).1
          have h2 := (rd_rel h hkk).1.d_str
          simp only [PRel] at h1
          obtain ⟨b, hb, h1⟩ := h1
          obtain ⟨hc, hlike, es, k, hg, hr⟩ := mapAt_spec h.mem hy hb
          have ht' : c.argTypes = #[t, u] := by apply Array.ext'; simpa using ht
          have hx' : c.args = #[m, kx] := by apply Array.ext'; simpa using hx
          obtain ⟨es', hrun, hr'⟩ := MapC.del_run (s := s) hmt hkt hg hr #[t, u] rfl o.type
          have hfull : (execOp a.eval o).run P w = .ok (.value (.tuple #[])) { w with heap := w.heap.setIfInBounds b (.map es' k) } := by
            simp [execOp, ho, resolve, hcal, ht', hx', invoke, builtin, h1, h2, hrun]
          unfold Oper.wp
          rw [hfull, Oper.upon_value, hdst]
          have hI := h.of_mono (g' := g) (fun _ _ _ h => h) (fun _ _ h => h) (fun _ _ _ h => h.2) (h.mem.setMap hc hb hg hr')
          refine hK _ _ g ?_ (Fr.setMap h.mem hb _ hg)
          rw [apply_wm]
          exact hI
        · cases hk
      · cases hk
    · cases hk
  · cases hk

end
end Go.Proofs.YtanfoijdfcnpoaaGreatDoor.Ev

set_option linter.unusedVariables false
set_option linter.unusedSimpArgs false
namespace Go.Proofs.YtanfoijdfcnpoaaGreatDoor.Ev

section
variable {S : Sig} {P : Program} {L : Lay S} {g : Gh} {st : St S} {a : Act} {w w' : World}

theorem loCells_len (k : S.K) : ∀ l : List (S.El k), (loCells L k l).length = l.length * L.sz k
  | [] => by simp [loCells]
  | x :: r => by
    have := loCells_len k r
    simp only [loCells, List.length_map] at this ⊢
    rw [List.flatMap_cons, List.length_append, this, L.len, List.length_cons, Nat.succ_mul]; omega

theorem loCells_cons (k : S.K) (x : S.El k) (r : List (S.El k)) : loCells L k (x :: r) = (L.cells k x).map .d ++ loCells L k r := by
  simp [loCells]

theorem loCells_noMap (k : S.K) (l : List (S.El k)) : noMap (loCells L k l) = true := by
  unfold noMap loCells
  rw [List.all_eq_true]
  intro p hp
  obtain ⟨d, _, rfl⟩ := List.mem_map.1 hp
  rfl

theorem loCells_rel {k : S.K} {β : Nat → Option Nat} {G : Nat → Nat → Option Value} : ∀ {l : List (S.El k)} {flat : List Value},
    (∀ (i : Nat) (x : S.El k), l[i]? = some x → ∀ (j : Nat) (d : DV S), (L.cells k x)[j]? = some d → ∃ u, flat[i * L.sz k + j]? = some u ∧ DRel L G d u) →
    ∀ (j : Nat) (p : PV S), (loCells L k l)[j]? = some p → ∃ u, flat[j]? = some u ∧ PRel L β G p u
  | [], flat, _, j, p, hp => by simp [loCells] at hp
  | x :: r, flat, h, j, p, hp => by
    rw [loCells_cons] at hp
    have hcl : ((L.cells k x).map (PV.d : DV S → PV S)).length = L.sz k := by rw [List.length_map, L.len]
    by_cases hj : j < L.sz k
    · rw [List.getElem?_append_left (by omega), List.getElem?_map] at hp
      obtain ⟨d, hd, rfl⟩ := Option.map_eq_some_iff.1 hp
      obtain ⟨u, hu, hr⟩ := h 0 x rfl j d hd
      exact ⟨u, by simpa using hu, by simp only [PRel]; exact hr⟩
    · rw [List.getElem?_append_right (by omega), hcl] at hp
      obtain ⟨u, hu, hr⟩ := loCells_rel (flat := flat.drop (L.sz k)) (β := β) (fun i y hy j d hd => by
        obtain ⟨u, hu, hr⟩ := h (i + 1) y (by simpa using hy) j d hd
        refine ⟨u, ?_, hr⟩
        rw [List.getElem?_drop, ← hu]
        congr 1; rw [Nat.succ_mul]; omega) (j - L.sz k) p hp
      refine ⟨u, ?_, hr⟩
      rw [List.getElem?_drop] at hu
      rw [← hu]; congr 1; omega

theorem step_sliceLo (h : Inv L g st a w) {o : Oper} {t : TypeId} {n : Nat} {ps : Array (Nat × Operand)} (ho : o.op = .buildSlice t n ps) {e : TypeId} (hu : P.underlying t = some (.slice e)) {k : S.K}
    (hs : szT P e = some (L.sz k)) (hn : ps.size = n) (hsm : n * L.sz k ≤ 1000) (hz : ((P.info? e).bind (·.zero)).isSome = true) {l : List (S.El k)} (hl : elsB P L st e k 0 ps.toList = some l) {cid : Nat} (hc : st.mem[cid]? = some none)
    (hd : fits st.nt (wr o.dst (.lo k cid n : PV S)) = true) : StepOk P L g w st o a (.ok { w := wr o.dst (.lo k cid n), m := [(cid, loCells L k l)] }) := by
  intro K Q hK
  cases hi : P.info? e with
  | none => simp [hi] at hz
  | some it =>
    cases hzz : it.zero with
    | none => simp [hi, hzz] at hz
    | some z =>
      have hsize : it.size = L.sz k := by simpa [szT, hi] using hs
      let zc : Array Value := if n * L.sz k = 0 then #[] else z.cells
      let base : List Value := ((Array.range (n * L.sz k)).map (zc[· % zc.size]!)).toList
      have hbl : base.length = n * L.sz k := by simp [base]
      have hpl : ps.toList.length = n := by simpa using hn
      obtain ⟨e1, flat, e2, e3, e4⟩ := els_rel h (base := base) hl (by rw [hbl, hpl, Nat.zero_add]; omega)
      rw [hpl] at e1 e2
      have hfull : base.take (0 * L.sz k) ++ flat ++ base.drop (0 * L.sz k + flat.length) = flat := by
        rw [Nat.zero_mul, List.take_zero, List.nil_append, Nat.zero_add, List.drop_eq_nil_of_le (by omega), List.append_nil]
      rw [hfull] at e3
      have hrun : (execOp a.eval o).run P w = .ok (.value (.slice (some ⟨w.heap.size, 0, none⟩) n n)) (w.alloc (.cells flat.toArray e)) := by
        have hb : (Instr.buildSlice t n (ps.map fun (i, x) => (i, a.eval x))).run P w = .ok (.slice (some ⟨w.heap.size, 0, none⟩) n n) (w.alloc (.cells flat.toArray e)) := by
          have hsmall : ¬ n * it.size > 2 ^ 24 := by rw [hsize]; omega
          have h3 : Instr.fill (fun i => some (i * it.size, it.size)) ((Array.range (n * it.size)).map (zc[· % zc.size]!)) (ps.map fun (i, x) => (i, a.eval x)).toList = some flat.toArray := by
            rw [hsize, ← e3]
            congr 1
            simp
          unfold Instr.buildSlice
          by_cases h0 : n * it.size = 0
          · have hz0 : zc = #[] := by simp only [zc]; rw [if_pos (by rw [← hsize]; exact h0)]
            rw [hz0] at h3
            simp only [Sem.run_bind, run_underlying hu, Result.andThen_ok, sizeOf, typeInfo, run_program, hi, Sem.run_pure, if_neg hsmall, if_pos h0, h3, newRow, run_newObj, World.alloc_eq]
          · have hz0 : zc = z.cells := by simp only [zc]; rw [if_neg (by rw [← hsize]; exact h0)]
            rw [hz0] at h3
            simp only [Sem.run_bind, run_underlying hu, Result.andThen_ok, sizeOf, typeInfo, run_program, hi, Sem.run_pure, if_neg hsmall, if_neg h0, zeroValue, hzz, h3, newRow, run_newObj, World.alloc_eq]
        simp only [execOp, ho, Sem.run_bind, hb, Result.andThen_ok, Sem.run_pure]
      unfold Oper.wp
      rw [hrun, Oper.upon_value]
      have hm := h.mem.newCell hc (ps := loCells L k l) (vs := flat.toArray) (.cells e (loCells_noMap k l)) (by rw [loCells_len, e1]; simp [e2]) (fun j q hq => by
        obtain ⟨u, hu', hur⟩ := loCells_rel (β := g.β) e4 j q hq
        refine ⟨u, by simpa using hu', hur, ?_⟩
        unfold loCells at hq
        rw [List.getElem?_map] at hq
        obtain ⟨d, _, rfl⟩ := Option.map_eq_some_iff.1 hq
        trivial)
      have hI := h.of_mono (g' := g.newC cid w.heap.size) (fun _ _ _ h => h) (newC_mono h.mem hc) (fun _ _ _ h => h.2) hm
      refine hK _ _ (g.newC cid w.heap.size) ?_ (Fr.newC h.mem hc _)
      rw [apply_wm]
      cases hdst : o.dst with
      | none => exact hI
      | some d =>
        rw [hdst] at hd
        exact hI.put (fits_wr (dst := some d) (p := .lo k cid n) hd d rfl) (by simp only [PRel]; exact ⟨w.heap.size, by simp [Gh.newC], rfl⟩) trivial

theorem loOf_spec {p : Option (PV S)} {q : S.K × Nat × Nat} (h : loOf p = some q) : p = some (.lo q.1 q.2.1 q.2.2) := by
  unfold loOf at h
  split at h
  · cases h; rfl
  · cases h

theorem step_loIdx (h : Inv L g st a w) {o : Oper} {t : TypeId} {x i : Operand} (ho : o.op = .indexAddr t x i) {q : S.K × Nat × Nat} (hq : loOf (rd P L st t x) = some q) {out : Out S} (hk : loIdxK P L o st t q i some = some out)
    (hd : ∀ e, out = .ok e → fits st.nt e.w = true) : StepOk P L g w st o a out := by
  have hp := loOf_spec hq
  obtain ⟨k, c, m⟩ := q
  unfold loIdxK at hk
  split at hk
  · rename_i e n hu hn
    split at hk
    · rename_i hs
      obtain ⟨hb, hk⟩ := cond_some hk
      cases hk
      simp only [Bool.and_eq_true, decide_eq_true_eq] at hb
      obtain ⟨h0, h1⟩ := hb
      have hx := (rd_rel h hp).1
      simp only [PRel] at hx
      obtain ⟨b, hb, ex⟩ := hx
      obtain ⟨kk, hi⟩ := boundOr_rel h hn
      refine step_val h (hd _ rfl) (v := .pointer (some ⟨b, n.toNat * L.sz k, none⟩)) ?_ ?_ rfl
      · have : (Instr.indexAt t (.slice (some ⟨b, 0, none⟩) m m) (.int kk n)).run P w = .ok (.pointer (some ⟨b, n.toNat * L.sz k, none⟩)) w := by
          unfold Instr.indexAt
          simp [asIntOf, run_underlying hu, h0, h1, run_sizeOf hs, add_mk]
        simp [execOp, ho, ex, hi, this]
      · simp only [PRel]
        exact ⟨b, hb, rfl⟩
    · cases hk
  · cases hk

/-! ### A slice becomes a plain one -/

theorem dvs_at {ps : List (PV S)} : ∀ {ds : List (DV S)}, dvs ps = some ds → ∀ {j : Nat} {d : DV S}, ds[j]? = some d → ∃ p, ps[j]? = some p ∧ p.dv? = some d := by
  induction ps with
  | nil => intro ds h j d hd; simp [dvs] at h; subst h; simp at hd
  | cons p r ih =>
    intro ds h j d hd
    simp only [dvs] at h
    split at h
    · rename_i x y hx hy
      cases h
      cases j with
      | zero => simp at hd; subst hd; exact ⟨p, rfl, hx⟩
      | succ j =>
        obtain ⟨q, h1, h2⟩ := ih hy (j := j) (d := d) (by simpa using hd)
        exact ⟨q, by simpa using h1, h2⟩
    · cases h

theorem elsOf_spec {k : S.K} : ∀ {n : Nat} {cs : List (PV S)} {l : List (S.El k)}, elsOf L k n cs = some l → l.length = n ∧
    ∀ (i : Nat) (x : S.El k), l[i]? = some x → ∀ (j : Nat) (d : DV S), (L.cells k x)[j]? = some d → ∃ p, cs[i * L.sz k + j]? = some p ∧ p.dv? = some d
  | 0, [], l, h => by simp [elsOf] at h; subst h; exact ⟨rfl, by simp⟩
  | 0, _ :: _, l, h => by simp [elsOf] at h
  | n + 1, cs, l, h => by
    simp only [elsOf] at h
    split at h
    · rename_i ds r hds hr
      split at h
      · rename_i y hy
        cases h
        obtain ⟨e1, e2⟩ := elsOf_spec hr
        refine ⟨by simp [e1], fun i x hx j d hd => ?_⟩
        cases i with
        | zero =>
          simp at hx; subst hx
          rw [L.mk_cells _ _ _ hy] at hd
          obtain ⟨p, h1, h2⟩ := dvs_at hds hd
          refine ⟨p, ?_, h2⟩
          rw [Nat.zero_mul, Nat.zero_add]
          have hj : j < L.sz k := by
            have := (List.getElem?_eq_some_iff.1 h1).1
            rw [List.length_take] at this; omega
          rwa [List.getElem?_take_of_lt hj] at h1
        | succ i =>
          obtain ⟨p, h1, h2⟩ := e2 i x (by simpa using hx) j d hd
          refine ⟨p, ?_, h2⟩
          rw [List.getElem?_drop] at h1
          rw [← h1]; congr 1; rw [Nat.succ_mul]; omega
      · cases h
    · cases h

end
end Go.Proofs.YtanfoijdfcnpoaaGreatDoor.Ev

set_option linter.unusedVariables false
set_option linter.unusedSimpArgs false
namespace Go.Proofs.YtanfoijdfcnpoaaGreatDoor.Ev

section
variable {S : Sig} {P : Program} {L : Lay S} {g : Gh} {st : St S} {a : Act} {w w' : World}

theorem opt_inj {α : Type} {x y : α} (h : some x = some y) : x = y := Option.some.inj h

theorem loadK_sound (h : Inv L g st a w) {o : Oper} {t : TypeId} {x : Operand} (ho : o.op = .load t x) {p : PV S} (hp : rd P L st 0 x = some p) {tk : Bool} {out : Out S}
    (hk : loadK P L o tk st t p some = some out) (hd : ∀ e, out = .ok e → fits st.nt e.w = true) : StepOk P L g w st o a out := by
  unfold loadK at hk
  split at hk
  · rename_i n hn
    split at hk
    · rename_i c off
      split at hk
      · rename_i cs hcs
        split at hk
        · rename_i hle
          split at hk
          · rename_i ps ha
            cases hk
            exact step_load_ptr h ho hp hcs hle.2 hn hle.1 ha (hd _ rfl)
          · rename_i p' ha hps
            split at hk
            · rename_i htk
              cases hk
              have hone : (((cs.drop off).take n).length) = 1 := by rw [hps]; rfl
              have hn1 : n = 1 := by simp at hone; omega
              have hg : cs[off]? = some p' := by
                have : ((cs.drop off).take n)[0]? = some p' := by rw [hps]; rfl
                rw [List.getElem?_take, if_pos (by omega), List.getElem?_drop] at this
                simpa using this
              exact step_load_take h ho hp hcs hle.2 (by have := hle.1; omega) ha hg (hd _ rfl)
            · cases hk
              exact step_load_ptr1 h ho hp hcs hle.2 hle.1 ha hps (hd _ rfl)
          · cases hk
        · cases hk
      · cases hk
    · rename_i k e off
      split at hk
      · rename_i hle
        split at hk
        · rename_i ps ha
          cases hk
          exact step_load_dp h ho hp hn hle ha (hd _ rfl)
        · rename_i p' ha hps
          cases hk
          exact step_load_dp1 h ho hp hle ha hps (hd _ rfl)
        · cases hk
      · cases hk
    · cases hk
  · cases hk

theorem builtinK_sound (h : Inv L g st a w) {o : Oper} {c : Call} (ho : o.op = .call c) {b : Builtin} (hc : c.callee = .builtin b) {out : Out S}
    (hk : builtinK P L o st b c.argTypes.toList c.args.toList some = some out) (hd : ∀ e, out = .ok e → fits st.nt e.w = true) : StepOk P L g w st o a out := by
  unfold builtinK at hk
  split at hk
  · split at hk
    · rename_i t x ht hx
      split at hk
      · rename_i e k l hu hb
        cases hk
        cases hp : rd P L st t x with
        | none => simp [hp] at hb
        | some p =>
          simp [hp] at hb
          exact step_len h ho hc ht hx hp (.inl ⟨e, k, l, hu, hb, rfl⟩) (hd _ rfl)
      · rename_i s hu hb
        cases hk
        cases hp : rd P L st t x with
        | none => simp [hp] at hb
        | some p =>
          simp [hp] at hb
          exact step_len h ho hc ht hx hp (.inr ⟨s, hu, hb, rfl⟩) (hd _ rfl)
      · cases hk
    · cases hk
  · unfold appK at hk
    split at hk
    · rename_i t u x y ht hx
      split at hk
      · rename_i e p q hu hp hq
        split at hk
        · rename_i i hi
          split at hk
          · rename_i z hz
            split at hk
            · rename_i k l
              split at hk
              · rename_i hcond
                obtain ⟨_, c2, c3, c4, c5⟩ := hcond
                split at hk
                · rename_i l' hn
                  obtain ⟨hb, hk⟩ := cond_some hk
                  cases hk
                  exact step_append h ho hc ht hx hu c4 hi hz c2 c3 c5 hp (.inl rfl) hq hn (of_decide_eq_true hb) (hd _ rfl)
                · cases hk
              · cases hk
            · rename_i k l
              split at hk
              · rename_i hcond
                obtain ⟨_, c2, c3, c4, c5⟩ := hcond
                split at hk
                · rename_i l' hn
                  obtain ⟨hb, hk⟩ := cond_some hk
                  cases hk
                  exact step_append h ho hc ht hx hu c4 hi hz c2 c3 c5 hp (.inr rfl) hq hn (of_decide_eq_true hb) (hd _ rfl)
                · cases hk
              · cases hk
            · cases hk
          · cases hk
        · cases hk
      · cases hk
    · cases hk
  · exact step_mapDel h ho hc hk
  · split at hk
    · rename_i t u x y ht hx
      split at hk
      · rename_i k m k' n hp hq
        cases hk
        exact step_min h ho hc hx hp hq (hd _ rfl)
      · cases hk
    · cases hk
  · cases hk

theorem pickK_some {o : Oper} {p : PV S} {out : Out S} (h : pickK o p some = some out) : out = val o p := by
  unfold pickK at h
  split at h
  · cases h
  · cases h; rfl

theorem effK_sound (h : Inv L g st a w) {call : CallT S} [Natural call] (hcall : ∀ f args m r, dir call f args m = some r → CallOk P L f args m r) {tk fl : Bool} {cid : Nat} {o : Oper} {out : Out S}
    (hk : effK P L call tk fl cid o st some = some out) (hd : ∀ e, out = .ok e → fits st.nt e.w = true) : StepOk P L g w st o a out := by
  unfold effK at hk
  split at hk
  · rename_i x ho
    split at hk
    · rename_i p hp
      split at hk
      · cases hk; exact step_move_take h ho hp (hd _ rfl)
      · cases hk; exact step_move h ho hp (hd _ rfl)
    · cases hk
  · rename_i x ho
    split at hk
    · rename_i p hp; cases hk; exact step_assign h ho hp (hd _ rfl)
    · cases hk
  · rename_i c x y ho
    split at hk
    · rename_i t ht
      split at hk
      · rename_i p q hp hq
        cases t with
        | true => simp only [cond_true] at hk; have hk := pickK_some hk; subst hk; exact step_pick h ho ht (by simpa using hp) (hd _ rfl)
        | false => simp only [cond_false] at hk; have hk := pickK_some hk; subst hk; exact step_pick h ho ht (by simpa using hq) (hd _ rfl)
      · cases hk
    · cases hk
  · rename_i e ho
    split at hk
    · rename_i cs hz hc; cases hk; exact step_alloc h ho hz hc (hd _ rfl)
    · cases hk
  · rename_i e x ho
    split at hk
    · rename_i p hp hc
      split at hk
      · rename_i h1; cases hk; exact step_box h ho hp hc h1 (hd _ rfl)
      · cases hk
    · cases hk
  · rename_i t ps ho
    split at hk
    · rename_i fs z hu hz
      split at hk
      · rename_i hall
        split at hk
        · rename_i cs hf; cases hk; exact step_build h ho hu hz hall hf (hd _ rfl)
        · cases hk
      · cases hk
    · cases hk
  · rename_i t n ps ho
    split at hk
    · rename_i e hu
      split at hk
      · rename_i k hkey
        split at hk
        · rename_i hc
          obtain ⟨c1, c2, c3, c4⟩ := hc
          split at hk
          · rename_i l hl
            unfold sliceLitK at hk
            cases tk with
            | false => simp only at hk; cases hk; exact step_buildSlice h ho hu c1 c2 c3 c4 hl (hd _ rfl)
            | true =>
              simp only at hk
              split at hk
              · rename_i hcid; cases hk; exact step_sliceLo h ho hu c1 c2 c3 c4 hl hcid (hd _ rfl)
              · cases hk
          · cases hk
        · cases hk
      · cases hk
    · cases hk
  · rename_i t x ho
    split at hk
    · rename_i p hp; exact loadK_sound h ho hp hk hd
    · cases hk
  · rename_i t x y ho
    split at hk
    · rename_i c off p hx hy
      split at hk
      · rename_i cs hc
        split at hk
        · rename_i hcond
          obtain ⟨c1, c2, c3, c4⟩ := hcond
          cases hk; exact step_store h ho hx hy hc c1 c2 c3 c4 (hd _ rfl)
        · cases hk
      · cases hk
    · cases hk
  · rename_i x ho
    split at hk
    · rename_i c off hp; cases hk; exact step_nilCheck h ho hp (.inl ⟨c, off, rfl⟩) (hd _ rfl)
    · rename_i k e off hp; cases hk; exact step_nilCheck h ho hp (.inr ⟨k, e, off, rfl⟩) (hd _ rfl)
    · cases hk
  · rename_i op xt x y yt ho
    split at hk
    · rename_i p q hp hq; exact step_bin h ho hp hq hk hd
    · cases hk
  · rename_i t x ho
    split at hk
    · rename_i b hb; cases hk; exact step_not h ho hb (hd _ rfl)
    · cases hk
  · rename_i src dst x ho
    split at hk
    · rename_i p hp; exact step_conv h ho hp hk hd
    · cases hk
  · rename_i t x ho
    split at hk
    · cases hk
    · rename_i d p hni hu hp; cases hk; exact step_makeInterface h ho hu (fun ms e => hni ms (by subst e; first | rfl | exact hu)) hp (hd _ rfl)
    · cases hk
  · rename_i f fst cap ho
    split at hk
    · rename_i ps qs hp hq; cases hk; exact step_makeFunc h ho hp hq (hd _ rfl)
    · cases hk
  · rename_i t x lo hi mx ho
    split at hk
    · rename_i p hp; exact step_slice h ho hp hk hd
    · cases hk
  · rename_i t x f ho
    split at hk
    · rename_i fd p hf hp
      split at hk
      · rename_i n hs
        split at hk
        · rename_i c off; cases hk; exact step_fieldAddr h ho hf hs hp (.inl ⟨c, off, rfl, rfl⟩) (hd _ rfl)
        · rename_i k e off; cases hk; exact step_fieldAddr h ho hf hs hp (.inr ⟨k, e, off, rfl, rfl⟩) (hd _ rfl)
        · cases hk
      · cases hk
    · cases hk
  · rename_i t x f ho
    split at hk
    · rename_i fd cs hf hp
      split at hk
      · rename_i n ha hs
        split at hk
        · rename_i hn; cases hk; exact step_field h ho hf hp hs ha hn (hd _ rfl)
        · cases hk
      · rename_i n ha hs
        split at hk
        · rename_i p hpp; cases hk; exact step_field1 h ho hf hp ha hpp (hd _ rfl)
        · cases hk
      · cases hk
    · cases hk
  · rename_i t x i ho
    split at hk
    · rename_i q hq; exact step_loIdx h ho hq hk hd
    split at hk
    · rename_i e k l n hu hb hn
      split at hk
      · rename_i hc
        obtain ⟨hbb, hk⟩ := cond_some hk
        simp only [Bool.and_eq_true, decide_eq_true_eq] at hbb
        cases hk
        cases hp : rd P L st t x with
        | none => simp [hp] at hb
        | some p =>
          simp [hp] at hb
          exact step_indexAddr h ho hu hp hb hn hc.1 hbb.1 hbb.2 (hd _ rfl)
      · cases hk
    · cases hk
  · rename_i t x i ho
    split at hk
    · rename_i s n hu hp hn
      obtain ⟨hbb, hk⟩ := cond_some hk
      simp only [Bool.and_eq_true, decide_eq_true_eq] at hbb
      cases hk
      exact step_index h ho hu hp hn hbb.1 hbb.2 (hd _ rfl)
    · cases hk
  · rename_i x t ty ho
    split at hk
    · cases hk
    · rename_i d t' p hni hu hp
      split at hk
      · rename_i e
        subst e
        cases hk; exact step_typeAssert_yes h ho hu (fun ms e => hni ms (by subst e; first | rfl | exact hu)) hp (hd _ rfl)
      · rename_i hne
        split at hk
        · rename_i z hz; cases hk; exact step_typeAssert_no h ho hu (fun ms e => hni ms (by subst e; first | rfl | exact hu)) hp (.inr ⟨t', p, rfl, hne⟩) hz (hd _ rfl)
        · cases hk
    · rename_i d hni hu hp
      split at hk
      · rename_i z hz; cases hk; exact step_typeAssert_no h ho hu (fun ms e => hni ms (by subst e; first | rfl | exact hu)) hp (.inl rfl) hz (hd _ rfl)
      · cases hk
    · cases hk
  · rename_i x i ho
    split at hk
    · rename_i l hp
      split at hk
      · rename_i p hpp; cases hk; exact step_extract h ho hp hpp (hd _ rfl)
      · cases hk
    · cases hk
  · rename_i t ho
    split at hk
    · rename_i z kt et hz hc; cases hk; exact step_makeMap h ho hz hc (hd _ rfl)
    · cases hk
  · rename_i t m k x ho
    exact step_mapSet h (.inr ho) hk hd
  · rename_i t m k x ho
    exact step_mapSet h (.inl ho) hk hd
  · rename_i t m k ho
    exact step_mapGet h ho hk hd
  · rename_i c ho
    split at hk
    · rename_i f hc
      unfold callK at hk
      split at hk
      · rename_i fd fst cap hf
        split at hk
        · rename_i args hargs
          rw [callC_eq] at hk
          cases hE : callE (dir call) st fd args with
          | none => simp [hE] at hk
          | some q =>
            obtain ⟨r, cs, now, more⟩ := q
            simp only [hE, Option.bind_some] at hk
            cases r with
            | ret p =>
              cases hk
              exact step_call h hcall ho hc hf hargs hE (fun p' hp' => by cases hp'; exact hd _ rfl)
            | pan p =>
              cases hk
              exact step_call h hcall ho hc hf hargs hE (fun p' hp' => by cases hp')
        · cases hk
      · cases hk
    · rename_i b hc
      exact builtinK_sound h ho hc hk hd
    · cases hk
  · rename_i c ho
    split at hk
    · rename_i f hc
      split at hk
      · rename_i fd fst cap args hf hargs
        split at hk
        · cases hk
        · rename_i hmk; cases hk; exact step_defer h ho hc hf hargs (hd _ rfl) hmk
      · cases hk
    · cases hk
  · rename_i x ho
    split at hk
    · rename_i t p hp; cases hk; exact step_panic h ho hp
    · cases hk
  · cases hk

end
end Go.Proofs.YtanfoijdfcnpoaaGreatDoor.Ev
