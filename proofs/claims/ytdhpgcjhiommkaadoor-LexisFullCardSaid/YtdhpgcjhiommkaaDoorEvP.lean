/- This file proves that the evaluator's operations that only compute or read give the model's values; without any condition. -/
import Derived.Test.YtdhpgcjhiommkaaDoorEvO
set_option linter.unusedVariables false
set_option linter.unusedSimpArgs false
namespace Go.Proofs.YtdhpgcjhiommkaaDoor.Ev

section
variable {S : Sig} {P : Program} {L : Lay S} {g : Gh} {st : St S} {a : Act} {w : World}

/-- What one operation owes: from a state that fits it goes on in a state that fits, or panics. -/
def StepOk (P : Program) (L : Lay S) (g : Gh) (w : World) (st : St S) (o : Oper) (a : Act) : Out S → Prop
  | .ok e => ∀ (K : Act → World → Prop) (Q : Exit → Act → World → Prop),
      (∀ a' w' g', Inv L g' (e.apply st) a' w' → Fr g w g' w' → K a' w') → o.wp P a w K Q
  | .pan p e => ∀ (K : Act → World → Prop) (Q : Exit → Act → World → Prop),
      (∀ w' v g', PRel L g'.β g'.G p v → MemInv L g' (e.apply st).mem w' → DfRels L g'.β g'.G (e.apply st).dfs a.defers → Fr g w g' w' → Q (.panic [{ v, recovered := false }]) a w') → o.wp P a w K Q

theorem fits_wr {nt : Nat} {dst : Option Nat} {p : PV S} (h : fits nt (wr dst p) = true) : ∀ d, dst = some d → d < nt := by
  intro d hd; subst hd
  simp [wr, fits] at h
  exact h

theorem apply_val (o : Oper) (p : PV S) (st : St S) : ({ w := wr o.dst p } : Eff S).apply st = { st with slots := updL st.slots (wr o.dst p) } := by
  simp [Eff.apply, setL]

theorem step_val (h : Inv L g st a w) {o : Oper} {p : PV S} {v : Value} (hd : fits st.nt (wr o.dst p) = true) (hrun : (execOp a.eval o).run P w = .ok (.value v) w)
    (hp : PRel L g.β g.G p v) (ho : p.strip = p) : StepOk P L g w st o a (val o p) := by
  intro K Q hK
  unfold Oper.wp
  rw [hrun, Oper.upon_value]
  refine hK _ _ g ?_ (Fr.refl g w)
  rw [apply_val]
  cases hdst : o.dst with
  | none => simp only [wr, updL]; exact h
  | some d =>
    simp only [wr, updL]
    exact h.put (fits_wr hd d hdst) hp (OwnOk.none ho)

theorem run_isAgg {t : TypeId} {b : Bool} (h : aggT P t = some b) (w : World) : (isAgg t).run P w = .ok b w := by
  unfold aggT at h
  unfold isAgg
  split at h <;> simp at h <;> subst h
  · rename_i hu; simp [run_underlying hu]
  · rename_i hu; simp [run_underlying hu]
  · rename_i d h1 h2 hu
    rw [Sem.run_bind, run_underlying hu]
    simp only [Result.andThen_ok]
    cases d <;> first | rfl | (exact absurd rfl (h1 _)) | (exact absurd rfl (h2 _ _))

theorem run_sizeOf {t : TypeId} {n : Nat} (h : szT P t = some n) (w : World) : (sizeOf t).run P w = .ok n w := by
  unfold szT at h
  cases hi : P.info? t with
  | none => simp [hi] at h
  | some i => simp [hi] at h; subst h; simp [sizeOf, typeInfo, hi]

theorem add_mk (b o j : Nat) : (⟨b, o, none⟩ : Addr).add j = ⟨b, o + j, none⟩ := by
  unfold Addr.add; split <;> simp_all

theorem run_loadVar_agg {t : TypeId} {n b o : Nat} {vs : List Value} (ha : aggT P t = some true) (hs : szT P t = some n) (hl : vs.length = n)
    (hc : ∀ j v, vs[j]? = some v → w.cell? ⟨b, o + j, none⟩ = some v) : (loadVar t ⟨b, o, none⟩).run P w = .ok (.agg vs.toArray) w := by
  have h1 := run_loadCells_list (P := P) w ⟨b, o, none⟩ vs (fun j v hv => by rw [add_mk]; exact hc j v hv)
  rw [hl] at h1
  simp [loadVar, run_isAgg ha, run_sizeOf hs, h1]

theorem run_loadVar_one {t : TypeId} {b o : Nat} {v : Value} (ha : aggT P t = some false)
    (hc : w.cell? ⟨b, o, none⟩ = some v) : (loadVar t ⟨b, o, none⟩).run P w = .ok v w := by
  simp [loadVar, run_isAgg ha, hc]

/-- Cells that the evaluator reads are there. -/
theorem cells_rel (h : MemInv L g st.mem w) {c b : Nat} {cs : List (PV S)} (hc : cellAt st.mem c = some cs) (hb : g.β c = some b) (off n : Nat) (hn : off + n ≤ cs.length) :
    ∃ vs : List Value, vs.length = n ∧ (∀ j v, vs[j]? = some v → w.cell? ⟨b, off + j, none⟩ = some v) ∧
      ∀ j p, ((cs.drop off).take n)[j]? = some p → ∃ v, vs[j]? = some v ∧ SRel L g (.cell c (off + j)) p v := by
  obtain ⟨b', vs, ty, h1, h2, h3, h4⟩ := h.cell c cs hc
  rw [hb] at h1; cases h1
  refine ⟨(vs.toList.drop off).take n, ?_, ?_, ?_⟩
  · simp; omega
  · intro j v hv
    have hj : j < n := by
      have := (List.getElem?_eq_some_iff.1 hv).1; simp at this; omega
    simp only [List.getElem?_take, hj, if_true, List.getElem?_drop, Array.getElem?_toList] at hv
    simp only [World.cell?, h2, Option.isSome_none, Bool.false_eq_true, if_false]
    exact hv
  · intro j p hp
    have hj : j < n := by
      have := (List.getElem?_eq_some_iff.1 hp).1; simp at this; omega
    simp only [List.getElem?_take, hj, if_true, List.getElem?_drop] at hp ⊢
    obtain ⟨v, hv, hr⟩ := h4 (off + j) p hp
    exact ⟨v, by simpa using hv, hr⟩

theorem PRels.of_cells {cs : List (PV S)} {vs : List Value} {f : Nat → Pos} (hl : cs.length = vs.length)
    (h : ∀ j p, cs[j]? = some p → ∃ v, vs[j]? = some v ∧ SRel L g (f j) p v) : PRels L g.β g.G cs vs :=
  PRels.of_get hl fun j x hx => by obtain ⟨v, h1, h2⟩ := h j x hx; exact ⟨v, h1, h2.1⟩

theorem dvCells {ds : List (DV S)} {vs : List Value} {G : Nat → Nat → Option Value} {β : Nat → Option Nat} (hl : ds.length = vs.length)
    (h : ∀ (j : Nat) (d : DV S), ds[j]? = some d → ∃ v, vs[j]? = some v ∧ DRel L G d v) : PRels L β G (ds.map PV.d) vs :=
  PRels.of_get (by simpa using hl) fun j x hx => by
    simp only [List.getElem?_map, Option.map_eq_some_iff] at hx
    obtain ⟨d, hd, rfl⟩ := hx
    obtain ⟨v, h1, h2⟩ := h j d hd
    exact ⟨v, h1, by simpa only [PRel] using h2⟩

/-- What a value pointer points to is there. -/
theorem dp_cells (h : MemInv L g st.mem w) {k : S.K} {x : S.El k} {off n : Nat} {v : Value} (hv : PRel L g.β g.G (.dp k x off) v) (hn : off + n ≤ L.sz k) :
    ∃ b o, v = .pointer (some ⟨b, o, none⟩) ∧ ∃ vs : List Value, vs.length = n ∧ (∀ (j : Nat) u, vs[j]? = some u → w.cell? ⟨b, o + j, none⟩ = some u) ∧
      ∀ (j : Nat) (d : DV S), (((L.cells k x).drop off).take n)[j]? = some d → ∃ u, vs[j]? = some u ∧ DRel L g.G d u := by
  simp only [PRel] at hv
  obtain ⟨b, q, rfl, hq⟩ := hv
  refine ⟨b, q + off, rfl, (List.range n).map (fun j => (g.G b (q + off + j)).getD undef), by simp, ?_, ?_⟩
  · intro j u hu
    have hj : j < n := by have := (List.getElem?_eq_some_iff.1 hu).1; simpa using this
    simp [hj] at hu
    have hlen := L.len k x
    obtain ⟨d, hd⟩ : ∃ d, (L.cells k x)[off + j]? = some d := ⟨_, List.getElem?_eq_getElem (by omega)⟩
    obtain ⟨z, hz, _⟩ := hq (off + j) d hd
    rw [show q + (off + j) = q + off + j by omega] at hz
    rw [hz] at hu; simp at hu; subst hu
    exact h.gs _ _ _ hz
  · intro j d hd
    have hj : j < n := by have := (List.getElem?_eq_some_iff.1 hd).1; simp at this; omega
    simp only [List.getElem?_take, hj, if_true, List.getElem?_drop] at hd
    obtain ⟨z, hz, hr⟩ := hq (off + j) d hd
    rw [show q + (off + j) = q + off + j by omega] at hz
    exact ⟨z, by simp [hj, hz], hr⟩

/-- A load, untaken: its value in every world that agrees on what it reads. -/
theorem run_load_ptr {o : Oper} {t : TypeId} {x : Operand} (ho : o.op = .load t x) {b off : Nat} (hx : a.eval x = .pointer (some ⟨b, off, none⟩)) {v : Value}
    (hl : (loadVar t ⟨b, off, none⟩).run P w = .ok v w) : (execOp a.eval o).run P w = .ok (.value v) w := by
  simp [execOp, ho, hx, Instr.loadAt, Instr.sureAddr, hl]

theorem SomeInj {α : Type} {x y : α} (h : some x = some y) : x = y := Option.some.inj h

theorem strip_strip' (p : PV S) : p.strip.strip = p.strip := by cases p <;> rfl

theorem rd_strip {t : TypeId} {x : Operand} {p : PV S} (h : rd P L st t x = some p) : p.strip = p := by
  unfold rd at h; cases hz : rdRaw P L st t x <;> simp [hz] at h; subst h; exact strip_strip' _

/-- move, without taking. -/
theorem step_move (h : Inv L g st a w) {o : Oper} {x : Operand} (ho : o.op = .move x) {p : PV S} (hr : rdRaw P L st o.type x = some p)
    (hd : fits st.nt (wr o.dst p.strip) = true) : StepOk P L g w st o a (val o p.strip) :=
  step_val h hd (v := a.eval x) (by simp [execOp, ho]) (rdRaw_rel h hr).1.strip (strip_strip' p)

theorem step_pick (h : Inv L g st a w) {o : Oper} {c x y : Operand} (ho : o.op = .pick c x y) {t : Bool} (hc : rdB st c = some t) {p : PV S}
    (hr : rd P L st o.type (if t then x else y) = some p) (hd : fits st.nt (wr o.dst p) = true) : StepOk P L g w st o a (val o p) := by
  have hc' := rdB_rel h hc
  refine step_val h hd (v := a.eval (if t then x else y)) ?_ (rd_rel h hr).1 (rd_strip hr)
  cases t <;> simp [execOp, ho, hc', asBool]

theorem step_load_ptr (h : Inv L g st a w) {o : Oper} {t : TypeId} {x : Operand} (ho : o.op = .load t x) {c off n : Nat} (hr : rd P L st 0 x = some (.ptr c off))
    {cs : List (PV S)} (hc : cellAt st.mem c = some cs) (hs : szT P t = some n) (hn : off + n ≤ cs.length) (ha : aggT P t = some true)
    (hd : fits st.nt (wr o.dst (.agg (((cs.drop off).take n).map PV.strip))) = true) : StepOk P L g w st o a (val o (.agg (((cs.drop off).take n).map PV.strip))) := by
  have hx := (rd_rel h hr).1
  simp only [PRel] at hx
  obtain ⟨b, hb, hx⟩ := hx
  obtain ⟨vs, hl, hcell, hrel⟩ := cells_rel h.mem hc hb off n hn
  refine step_val h hd (run_load_ptr ho hx (run_loadVar_agg ha hs hl hcell)) ?_ rfl
  simp only [PRel]
  refine ⟨vs, rfl, PRels.map (fun _ _ => PRel.strip) (PRels.of_cells (f := fun j => .cell c (off + j)) (by simp; omega) hrel)⟩

theorem step_load_ptr1 (h : Inv L g st a w) {o : Oper} {t : TypeId} {x : Operand} (ho : o.op = .load t x) {c off n : Nat} (hr : rd P L st 0 x = some (.ptr c off))
    {cs : List (PV S)} (hc : cellAt st.mem c = some cs) (hn : off + n ≤ cs.length) (ha : aggT P t = some false) {p : PV S} (hp : (cs.drop off).take n = [p])
    (hd : fits st.nt (wr o.dst p.strip) = true) : StepOk P L g w st o a (val o p.strip) := by
  have hx := (rd_rel h hr).1
  simp only [PRel] at hx
  obtain ⟨b, hb, hx⟩ := hx
  obtain ⟨vs, hl, hcell, hrel⟩ := cells_rel h.mem hc hb off n hn
  obtain ⟨v, hv, hr'⟩ := hrel 0 p (by rw [hp]; rfl)
  refine step_val h hd (run_load_ptr ho hx (run_loadVar_one ha (hcell 0 v hv))) hr'.1.strip (strip_strip' p)

theorem step_load_dp (h : Inv L g st a w) {o : Oper} {t : TypeId} {x : Operand} (ho : o.op = .load t x) {k : S.K} {e : S.El k} {off n : Nat} (hr : rd P L st 0 x = some (.dp k e off))
    (hs : szT P t = some n) (hn : off + n ≤ L.sz k) (ha : aggT P t = some true)
    (hd : fits st.nt (wr o.dst (.agg ((((L.cells k e).drop off).take n).map .d))) = true) : StepOk P L g w st o a (val o (.agg ((((L.cells k e).drop off).take n).map .d))) := by
  obtain ⟨b, q, hx, vs, hl, hcell, hrel⟩ := dp_cells h.mem (rd_rel h hr).1 hn
  refine step_val h hd (run_load_ptr ho hx (run_loadVar_agg ha hs hl hcell)) ?_ rfl
  simp only [PRel]
  have hlen := L.len k e
  exact ⟨vs, rfl, dvCells (by simp; omega) hrel⟩

theorem step_load_dp1 (h : Inv L g st a w) {o : Oper} {t : TypeId} {x : Operand} (ho : o.op = .load t x) {k : S.K} {e : S.El k} {off n : Nat} (hr : rd P L st 0 x = some (.dp k e off))
    (hn : off + n ≤ L.sz k) (ha : aggT P t = some false) {p : DV S} (hp : ((L.cells k e).drop off).take n = [p])
    (hd : fits st.nt (wr o.dst (.d p)) = true) : StepOk P L g w st o a (val o (.d p)) := by
  obtain ⟨b, q, hx, vs, hl, hcell, hrel⟩ := dp_cells h.mem (rd_rel h hr).1 hn
  obtain ⟨v, hv, hr'⟩ := hrel 0 p (by rw [hp]; rfl)
  exact step_val h hd (run_load_ptr ho hx (run_loadVar_one ha (hcell 0 v hv))) (by simpa only [PRel] using hr') rfl

theorem step_nilCheck (h : Inv L g st a w) {o : Oper} {x : Operand} (ho : o.op = .nilCheck x) {p : PV S} (hr : rd P L st 0 x = some p)
    (hp : (∃ c off, p = .ptr c off) ∨ ∃ k e off, p = .dp k e off) (hd : fits st.nt (wr o.dst p) = true) : StepOk P L g w st o a (val o p) := by
  have hx := (rd_rel h hr).1
  refine step_val h hd (v := a.eval x) ?_ hx (rd_strip hr)
  have : ∃ ad, a.eval x = .pointer (some ad) := by
    rcases hp with ⟨c, off, rfl⟩ | ⟨k, e, off, rfl⟩ <;> simp only [PRel] at hx
    · obtain ⟨b, _, hx⟩ := hx; exact ⟨_, hx⟩
    · obtain ⟨b, q, hx, _⟩ := hx; exact ⟨_, hx⟩
  obtain ⟨ad, hx⟩ := this
  simp [execOp, ho, hx]

theorem step_not (h : Inv L g st a w) {o : Oper} {x : Operand} {t : TypeId} (ho : o.op = .unOp .not t x) {b : Bool} (hr : rdB st x = some b)
    (hd : fits st.nt (wr o.dst (.d (.bool !b) : PV S)) = true) : StepOk P L g w st o a (val o (.d (.bool !b))) := by
  have hx := rdB_rel h hr
  refine step_val h hd (v := .bool !b) ?_ (by simp only [PRel]; exact .bool _) rfl
  simp [execOp, ho, hx, Op.unary]

theorem step_makeInterface (h : Inv L g st a w) {o : Oper} {t : TypeId} {x : Operand} (ho : o.op = .makeInterface t x) {d : TypeDesc} (hu : P.underlying t = some d)
    (hi : ∀ ms, d ≠ .interface ms) {p : PV S} (hr : rd P L st t x = some p) (hd : fits st.nt (wr o.dst (.iface t p.norm)) = true) : StepOk P L g w st o a (val o (.iface t p.norm)) := by
  refine step_val h hd (v := .iface t (a.eval x)) ?_ (by simp only [PRel]; exact ⟨_, rfl, (rd_rel h hr).1.norm⟩) rfl
  have : (Instr.makeInterface t (a.eval x)).run P w = .ok (.iface t (a.eval x)) w := by
    unfold Instr.makeInterface
    rw [Sem.run_bind, run_underlying hu]
    simp only [Result.andThen_ok]
    cases d <;> first | rfl | exact absurd rfl (hi _)
  simp [execOp, ho, this]

theorem step_makeFunc (h : Inv L g st a w) {o : Oper} {f : FuncId} {fst cap : Array Operand} (ho : o.op = .makeFunc (.func f) fst cap) {ts us : List TypeId} {ps qs : List (PV S)}
    (hp : rdAll P L st ts fst.toList = some ps) (hq : rdAll P L st us cap.toList = some qs)
    (hd : fits st.nt (wr o.dst (.fn (.func f) (ps.map PV.norm) (qs.map PV.norm))) = true) : StepOk P L g w st o a (val o (.fn (.func f) (ps.map PV.norm) (qs.map PV.norm))) := by
  refine step_val h hd (v := .func (.func f) (fst.map a.eval) (cap.map a.eval)) (by simp [execOp, ho, Instr.makeFunc]) ?_ rfl
  simp only [PRel]
  exact ⟨fst.toList.map a.eval, cap.toList.map a.eval, by rw [← Array.toList_map, ← Array.toList_map], (rdAll_rel h hp).1.map (fun _ _ => PRel.norm), (rdAll_rel h hq).1.map (fun _ _ => PRel.norm)⟩

theorem step_extract (h : Inv L g st a w) {o : Oper} {x : Operand} {i : Nat} (ho : o.op = .extract x i) {l : List (PV S)} (hr : rd P L st 0 x = some (.tup l)) {p : PV S} (hp : l[i]? = some p)
    (hd : fits st.nt (wr o.dst p.strip) = true) : StepOk P L g w st o a (val o p.strip) := by
  have hx := (rd_rel h hr).1
  simp only [PRel] at hx
  obtain ⟨vs, hx, hrel⟩ := hx
  obtain ⟨v, hv, hr'⟩ := hrel.get hp
  refine step_val h hd (v := v) ?_ hr'.strip (strip_strip' p)
  simp [execOp, ho, hx, Instr.extract, hv]

theorem step_fieldAddr (h : Inv L g st a w) {o : Oper} {t : TypeId} {x : Operand} {f : Nat} (ho : o.op = .fieldAddr t x f) {fd : Field} (hf : fieldOf P t f = some fd) {n : Nat} (hs : szT P fd.type = some (n + 1))
    {p : PV S} (hr : rd P L st 0 x = some p) {q : PV S} (hq : (∃ c off, p = .ptr c off ∧ q = .ptr c (off + fd.offset)) ∨ ∃ k e off, p = .dp k e off ∧ q = .dp k e (off + fd.offset))
    (hd : fits st.nt (wr o.dst q) = true) : StepOk P L g w st o a (val o q) := by
  have hx := (rd_rel h hr).1
  have run : ∀ b off, a.eval x = .pointer (some ⟨b, off, none⟩) → (execOp a.eval o).run P w = .ok (.value (.pointer (some ⟨b, off + fd.offset, none⟩))) w := by
    intro b off hx
    unfold fieldOf at hf
    split at hf
    · rename_i fs hu
      have : (Instr.fieldAt t (.pointer (some ⟨b, off, none⟩)) f).run P w = .ok (.pointer (some ⟨b, off + fd.offset, none⟩)) w := by
        unfold Instr.fieldAt
        rw [Sem.run_bind, run_underlying hu]
        simp [hf, Instr.sureAddr, fieldPlace, run_sizeOf hs, add_mk]
      simp [execOp, ho, hx, this]
    · cases hf
  rcases hq with ⟨c, off, rfl, rfl⟩ | ⟨k, e, off, rfl, rfl⟩ <;> simp only [PRel] at hx
  · obtain ⟨b, hb, hx⟩ := hx
    exact step_val h hd (run b off hx) (by simp only [PRel]; exact ⟨b, hb, rfl⟩) rfl
  · obtain ⟨b, q, hx, hc⟩ := hx
    exact step_val h hd (run b _ hx) (by simp only [PRel]; exact ⟨b, q, by rw [Nat.add_assoc], hc⟩) rfl

theorem step_field (h : Inv L g st a w) {o : Oper} {t : TypeId} {x : Operand} {f : Nat} (ho : o.op = .field t x f) {fd : Field} (hf : fieldOf P t f = some fd)
    {cs : List (PV S)} (hr : rd P L st t x = some (.agg cs)) {n : Nat} (hs : szT P fd.type = some n) (ha : aggT P fd.type = some true) (hn : fd.offset + n ≤ cs.length)
    (hd : fits st.nt (wr o.dst (.agg ((cs.drop fd.offset).take n))) = true) : StepOk P L g w st o a (val o (.agg ((cs.drop fd.offset).take n))) := by
  have hx := (rd_rel h hr).1
  simp only [PRel] at hx
  obtain ⟨vs, hx, hrel⟩ := hx
  have hlen := hrel.length
  refine step_val h hd (v := .agg ((vs.drop fd.offset).take n).toArray) ?_ ?_ rfl
  · unfold fieldOf at hf
    split at hf
    · rename_i fs hu
      have : (Instr.field t (.agg vs.toArray) f).run P w = .ok (.agg ((vs.drop fd.offset).take n).toArray) w := by
        unfold Instr.field
        rw [Sem.run_bind, run_underlying hu]
        simp [hf, part, run_isAgg ha, run_sizeOf hs, asAgg]
      simp [execOp, ho, hx, this]
    · cases hf
  · simp only [PRel]
    refine ⟨_, rfl, PRels.of_get (by simp; omega) fun j p hp => ?_⟩
    have hj : j < n := by have := (List.getElem?_eq_some_iff.1 hp).1; simp at this; omega
    simp only [List.getElem?_take, hj, if_true, List.getElem?_drop] at hp ⊢
    exact hrel.get hp

theorem step_field1 (h : Inv L g st a w) {o : Oper} {t : TypeId} {x : Operand} {f : Nat} (ho : o.op = .field t x f) {fd : Field} (hf : fieldOf P t f = some fd)
    {cs : List (PV S)} (hr : rd P L st t x = some (.agg cs)) (ha : aggT P fd.type = some false) {p : PV S} (hp : cs[fd.offset]? = some p)
    (hd : fits st.nt (wr o.dst p.strip) = true) : StepOk P L g w st o a (val o p.strip) := by
  have hx := (rd_rel h hr).1
  simp only [PRel] at hx
  obtain ⟨vs, hx, hrel⟩ := hx
  obtain ⟨v, hv, hr'⟩ := hrel.get hp
  refine step_val h hd (v := v) ?_ hr'.strip (strip_strip' p)
  unfold fieldOf at hf
  split at hf
  · rename_i fs hu
    have : (Instr.field t (.agg vs.toArray) f).run P w = .ok v w := by
      unfold Instr.field
      rw [Sem.run_bind, run_underlying hu]
      simp [hf, part, run_isAgg ha, asAgg, hv]
    simp [execOp, ho, hx, this]
  · cases hf

theorem strip_strip (p : PV S) : p.strip.strip = p.strip := by cases p <;> rfl

theorem own_or (p : PV S) : p.strip = p ∨ ∃ k l, p = .own k l := by cases p <;> simp [PV.strip]

end
end Go.Proofs.YtdhpgcjhiommkaaDoor.Ev
