/- This file proves that the evaluator reads operands, constants and slots as the model does, and how a slot is written; without any condition. -/
import Derived.Test.YtdhpgcjhiommkaaDoorEvS
import Derived.Laws.Rows
import Derived.Laws.CopyRow
set_option linter.unusedVariables false
set_option linter.unusedSimpArgs false
namespace Go.Proofs.YtdhpgcjhiommkaaDoor.Ev

section
variable {S : Sig} {P : Program} {L : Lay S}

theorem constCell_rel {β : Nat → Option Nat} {G : Nat → Nat → Option Value} {t : TypeDesc} {v : Value} {p : PV S} (h : constCell L t v = some p) :
    PRel L β G p v ∧ (∀ ω pos, OwnOk L ω pos p v) ∧ p.one = true ∧ v.oneCell' = true := by
  unfold constCell at h
  split at h
  · cases h; exact ⟨by simp only [PRel]; exact .bool _, by simp [OwnOk], rfl, rfl⟩
  · split at h
    · rename_i hk; cases h; subst hk; exact ⟨by simp only [PRel]; exact .int _ _, by simp [OwnOk], rfl, rfl⟩
    · cases h
  · cases h; exact ⟨by simp only [PRel]; exact .str _, by simp [OwnOk], rfl, rfl⟩
  · cases h; exact ⟨by simp only [PRel], by simp [OwnOk], rfl, rfl⟩
  · cases h; exact ⟨by simp only [PRel], by simp [OwnOk], rfl, rfl⟩
  · cases h; exact ⟨by simp only [PRel], by simp [OwnOk], rfl, rfl⟩
  · rename_i e
    cases hk : L.key e with
    | none => rw [hk] at h; cases h
    | some k =>
      rw [hk] at h; cases h
      refine ⟨?_, by simp [OwnOk], rfl, rfl⟩
      simp only [PRel]
      exact ⟨.nil k, by intro a n c hh; cases hh; rfl, Plain.nil⟩
  · cases h

theorem constCells_rel {β : Nat → Option Nat} {G : Nat → Nat → Option Value} : ∀ {ts : List TypeDesc} {vs : List Value} {ps : List (PV S)}, constCells L ts vs = some ps →
    PRels L β G ps vs ∧ (∀ p ∈ ps, p.strip = p) ∧ ps.all PV.one = true ∧ ∀ v ∈ vs, v.oneCell' = true
  | [], [], ps, h => by simp [constCells] at h; subst h; simp [PRels]
  | t :: ts, v :: vs, ps, h => by
    simp only [constCells] at h
    cases h1 : constCell L t v with
    | none => simp [h1] at h
    | some p =>
      cases h2 : constCells L ts vs with
      | none => simp [h1, h2] at h
      | some r =>
        simp [h1, h2] at h; subst h
        obtain ⟨a1, a2, a3, a4⟩ := constCell_rel (β := β) (G := G) h1
        obtain ⟨b1, b2, b3, b4⟩ := constCells_rel (β := β) (G := G) h2
        have hs : p.strip = p := by
          unfold constCell at h1
          split at h1
          · cases h1; rfl
          · split at h1
            · cases h1; rfl
            · cases h1
          · cases h1; rfl
          · cases h1; rfl
          · cases h1; rfl
          · cases h1; rfl
          · rename_i e; cases hk : L.key e <;> rw [hk] at h1 <;> cases h1; rfl
          · cases h1
        refine ⟨by simp only [PRels]; exact ⟨a1, b1⟩, ?_, by simp [a3, b3], ?_⟩
        · intro q hq; simp at hq; rcases hq with rfl | hq
          · exact hs
          · exact b2 q hq
        · intro u hu; simp at hu; rcases hu with rfl | hu
          · exact a4
          · exact b4 u hu
  | [], _ :: _, ps, h => by simp [constCells] at h
  | _ :: _, [], ps, h => by simp [constCells] at h

theorem constAt_rel {β : Nat → Option Nat} {G : Nat → Nat → Option Value} {t : TypeId} {v : Value} {p : PV S} (h : constAt P L t v = some p) :
    PRel L β G p v ∧ ∀ ω pos, OwnOk L ω pos p v := by
  unfold constAt at h
  split at h
  · rename_i cs
    split at h
    · rename_i ts hts
      cases hc : constCells L ts cs.toList with
      | none => simp [hc] at h
      | some r =>
        simp [hc] at h; subst h
        exact ⟨by simp only [PRel]; exact ⟨cs.toList, by simp, (constCells_rel hc).1⟩, by simp [OwnOk]⟩
    · cases h
  · split at h
    · exact ⟨(constCell_rel h).1, (constCell_rel (β := β) (G := G) h).2.1⟩
    · cases h

/-- A value type's zero cells. -/
theorem zeroCells_rel {β : Nat → Option Nat} {G : Nat → Nat → Option Value} {t : TypeId} {ps : List (PV S)} (h : zeroCells P L t = some ps) :
    ∃ i z, P.info? t = some i ∧ i.zero = some z ∧ PRels L β G ps z.cells.toList ∧ (∀ p ∈ ps, p.strip = p) ∧ ps.all PV.one = true ∧ ∀ v ∈ z.cells.toList, v.oneCell' = true := by
  unfold zeroCells at h
  split at h
  · rename_i z ts hz hts
    cases hi : P.info? t with
    | none => simp [hi] at hz
    | some i =>
      simp [hi] at hz
      obtain ⟨a, b, c, d⟩ := constCells_rel (β := β) (G := G) h
      exact ⟨i, z, rfl, hz, a, b, c, d⟩
  · cases h

variable {g : Gh} {st : St S} {a : Act} {w : World}

theorem eval_tmp (a : Act) (i : Nat) : a.eval (.tmp i) = a.tmps.getD i undef := rfl

theorem rdRaw_rel (h : Inv L g st a w) {t : TypeId} {x : Operand} {p : PV S} (hr : rdRaw P L st t x = some p) :
    PRel L g.β g.G p (a.eval x) ∧ (∀ i, x = .tmp i → p = st.slots i ∧ SRel L g (.slot i) p (a.eval x)) ∧ ((∀ i, x ≠ .tmp i) → ∀ ω pos, OwnOk L ω pos p (a.eval x)) := by
  cases x with
  | tmp i =>
    simp only [rdRaw, Option.some.injEq] at hr; subst hr
    exact ⟨(h.slot i).1, fun j hj => by cases hj; exact ⟨rfl, h.slot i⟩, fun hn => absurd rfl (hn i)⟩
  | const v =>
    simp only [rdRaw] at hr
    obtain ⟨h1, h2⟩ := constAt_rel (β := g.β) (G := g.G) hr
    exact ⟨h1, fun i hi => (by cases hi), fun _ => h2⟩
  | func f =>
    simp only [rdRaw, Option.some.injEq] at hr; subst hr
    refine ⟨?_, fun i hi => (by cases hi), fun _ _ _ => trivial⟩
    simp only [PRel, Act.eval]
    exact ⟨[], [], rfl, by simp only [PRels], by simp only [PRels]⟩
  | global q => simp [rdRaw] at hr

theorem rd_rel (h : Inv L g st a w) {t : TypeId} {x : Operand} {p : PV S} (hr : rd P L st t x = some p) :
    PRel L g.β g.G p (a.eval x) ∧ ∀ ω pos, OwnOk L ω pos p (a.eval x) := by
  unfold rd at hr
  cases hq : rdRaw P L st t x with
  | none => simp [hq] at hr
  | some q =>
    simp [hq] at hr; subst hr
    exact ⟨(rdRaw_rel h hq).1.strip, fun ω pos => OwnOk.of_strip _ _⟩

theorem rdAll_rel (h : Inv L g st a w) : ∀ {ts : List TypeId} {xs : List Operand} {ps : List (PV S)}, rdAll P L st ts xs = some ps → PRels L g.β g.G ps (xs.map a.eval) ∧ ∀ p ∈ ps, p.strip = p
  | [], [], ps, hr => by simp [rdAll] at hr; subst hr; simp [PRels]
  | t :: ts, x :: xs, ps, hr => by
    simp only [rdAll] at hr
    cases h1 : rd P L st t x with
    | none => simp [h1] at hr
    | some p =>
      cases h2 : rdAll P L st ts xs with
      | none => simp [h1, h2] at hr
      | some r =>
        simp [h1, h2] at hr; subst hr
        obtain ⟨b1, b2⟩ := rdAll_rel h h2
        refine ⟨by simp only [List.map, PRels]; exact ⟨(rd_rel h h1).1, b1⟩, ?_⟩
        intro q hq; simp at hq; rcases hq with rfl | hq
        · unfold rd at h1; cases hz : rdRaw P L st t x <;> simp [hz] at h1; subst h1; rename_i z; cases z <;> rfl
        · exact b2 q hq
  | [], _ :: _, ps, hr => by simp [rdAll] at hr
  | _ :: _, [], ps, hr => by simp [rdAll] at hr

theorem rdB_rel (h : Inv L g st a w) {x : Operand} {b : Bool} (hr : rdB st x = some b) : a.eval x = .bool b := by
  unfold rdB at hr
  split at hr
  · rename_i i
    have := (h.slot i).1
    split at hr
    · rename_i b' hs; simp at hr; subst hr; rw [hs] at this; simp only [PRel] at this; generalize hv : a.tmps.getD i undef = v at this; cases this; exact hv
    · cases hr
  · simp at hr; subst hr; rfl
  · cases hr

theorem boundOr_rel (h : Inv L g st a w) {x : Operand} {d n : Int} (hr : boundOr st (some x) d = some n) : ∃ k, a.eval x = .int k n := by
  unfold boundOr at hr
  split at hr
  · simp at *
  · rename_i k n' hx; simp at hx hr; subst hr; subst hx; exact ⟨k, rfl⟩
  · rename_i i hx
    simp at hx; subst hx
    have := (h.slot i).1
    unfold intOf? at hr
    split at hr
    · rename_i k n' hs; simp at hr hs; subst hr; rw [hs] at this; simp only [PRel] at this; generalize hv : a.tmps.getD i undef = v at this; cases this; exact ⟨k, hv⟩
    · cases hr
  · cases hr

/-! ### Writing slots -/

theorem upd_same (s : Nat → PV S) (i : Nat) (p : PV S) : upd s i p i = p := by simp [upd]
theorem upd_other (s : Nat → PV S) {i j : Nat} (p : PV S) (h : j ≠ i) : upd s i p j = s j := by
  have : Nat.beq j i = false := by
    cases hb : Nat.beq j i with
    | false => rfl
    | true => exact absurd (Nat.eq_of_beq_eq_true hb) h
  simp [upd, this]

theorem getD_put {a : Act} {d : Nat} {v : Value} (hd : d < a.tmps.size) (i : Nat) : (a.put (some d) v).tmps.getD i undef = if i = d then v else a.tmps.getD i undef := by
  simp only [Act.put, Array.getD_eq_getD_getElem?]
  by_cases h : i = d
  · subst h; simp [hd]
  · simp [h, Array.getElem?_setIfInBounds_ne (Ne.symm h)]

theorem size_put (a : Act) (d : Option Nat) (v : Value) : (a.put d v).tmps.size = a.tmps.size := by cases d <;> simp [Act.put]
theorem defers_put (a : Act) (d : Option Nat) (v : Value) : (a.put d v).defers = a.defers := by cases d <;> rfl

/-- A slot gets a value that is not owned. -/
theorem Inv.put (h : Inv L g st a w) {d : Nat} (hd : d < st.nt) {p : PV S} {v : Value} (hp : PRel L g.β g.G p v) (ho : OwnOk L g.ω (.slot d) p v) :
    Inv L g { st with slots := upd st.slots d p } (a.put (some d) v) w where
  size := by rw [size_put]; exact h.size
  slot i := by
    rw [getD_put (by rw [h.size]; exact hd)]
    by_cases hi : i = d
    · subst hi; simp only [upd_same, if_true]; exact ⟨hp, ho⟩
    · simp only [hi, if_false]; rw [upd_other _ _ hi]; exact h.slot i
  mem := h.mem
  dfs := by rw [defers_put]; exact h.dfs

/-- The rights of one place become those of another one. -/
def Gh.mv (g : Gh) (p q : Pos) : Gh := { g with ω := fun b => (g.ω b).map fun r => if r.pos = p then { r with pos := q } else r }

theorem OwnOk.mv_other {pos p q : Pos} {x : PV S} {v : Value} (h : OwnOk L g.ω pos x v) (hne : pos ≠ p) : OwnOk L (g.mv p q).ω pos x v := by
  cases x <;> simp only [OwnOk] at h ⊢
  intro a n c hv hn
  obtain ⟨r, h1, h2, h3, h4⟩ := h a n c hv hn
  refine ⟨r, ?_, h2, h3, h4⟩
  simp only [Gh.mv, h1, Option.map_some]
  rw [if_neg (by rw [h2]; exact hne)]

theorem OwnOk.mv_self {p q : Pos} {x : PV S} {v : Value} (h : OwnOk L g.ω p x v) : OwnOk L (g.mv p q).ω q x v := by
  cases x <;> simp only [OwnOk] at h ⊢
  intro a n c hv hn
  obtain ⟨r, h1, h2, h3, h4⟩ := h a n c hv hn
  refine ⟨{ r with pos := q }, ?_, rfl, h3, h4⟩
  simp only [Gh.mv, h1, Option.map_some]
  rw [if_pos h2]

theorem OwnOk.none {ω : Nat → Option Rt} {pos : Pos} {x : PV S} {v : Value} (h : x.strip = x) : OwnOk L ω pos x v := by
  cases x <;> simp [OwnOk, PV.strip] at h ⊢

theorem SRel.mv_other {pos p q : Pos} {x : PV S} {v : Value} (h : SRel L g pos x v) (hne : pos ≠ p) : SRel L (g.mv p q) pos x v := ⟨h.1, h.2.mv_other hne⟩

theorem MemInv.mv (h : MemInv L g st.mem w) {i : Nat} {q : Pos} : MemInv L (g.mv (.slot i) q) st.mem w where
  cell c ps hc := by
    obtain ⟨b, vs, ty, h1, h2, h3, h4⟩ := h.cell c ps hc
    refine ⟨b, vs, ty, h1, h2, h3, fun j p hp => ?_⟩
    obtain ⟨v, hv, hr⟩ := h4 j p hp
    exact ⟨v, hv, hr.mv_other (by simp)⟩
  dom := h.dom
  inj := h.inj
  βG := h.βG
  gs := h.gs
  wok := h.wok_sub (fun c b hb => .inl ⟨c, hb⟩) (fun b _ _ hb => by simp [Gh.mv, hb]) (fun _ _ _ _ h => h)
  rt b r hr := by
    simp only [Gh.mv] at hr
    cases hw : g.ω b with
    | none => simp [hw] at hr
    | some r0 =>
      simp [hw] at hr
      obtain ⟨h1, h2, h3⟩ := h.rt b r0 hw
      refine ⟨h1, ?_, ?_⟩
      · obtain ⟨cs, ty, e1, e2⟩ := h2
        refine ⟨cs, ty, e1, ?_⟩
        rw [← hr]; split <;> exact e2
      · intro o ho
        refine h3 o ?_
        rw [← hr] at ho; split at ho <;> exact ho

theorem Fr.mv (g : Gh) (w : World) (p q : Pos) : Fr g w (g.mv p q) w :=
  ⟨rfl, rfl, rfl, Nat.le_refl _, fun b _ _ h => ⟨rfl, fun _ => rfl, by simp [Gh.mv, h]⟩, fun _ _ _ h => h, fun _ _ h => h, fun _ _ h => .inl h⟩

/-- What a slot bears is given up: its rights go elsewhere. -/
theorem Inv.take (h : Inv L g st a w) (i : Nat) (q : Pos) (hq : ∀ j, q ≠ .slot j) :
    Inv L (g.mv (.slot i) q) { st with slots := upd st.slots i (st.slots i).strip } a w where
  size := h.size
  slot j := by
    by_cases hj : j = i
    · subst hj; simp only [upd_same]; exact ⟨(h.slot j).1.strip, OwnOk.of_strip _ _⟩
    · show SRel L _ _ (upd st.slots i (st.slots i).strip j) _
      rw [upd_other _ _ hj]; exact (h.slot j).mv_other (by simpa using hj)
  mem := h.mem.mv
  dfs := h.dfs

end
end Go.Proofs.YtdhpgcjhiommkaaDoor.Ev
