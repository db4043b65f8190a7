/- This file proves that the evaluator's append, defer and panic keep the relation to the model's world; without any condition. -/
import Derived.Test.YtdhpgcjhiommkaaDoorEvV
set_option linter.unusedVariables false
set_option linter.unusedSimpArgs false
namespace Go.Proofs.YtdhpgcjhiommkaaDoor.Ev

section
variable {S : Sig} {P : Program} {L : Lay S} {g : Gh} {st : St S} {a : Act} {w w' : World}

theorem upd_upd (s : Nat → PV S) (i : Nat) (p q : PV S) : upd (upd s i p) i q = upd s i q := by
  funext j
  by_cases h : j = i
  · subst h; rw [upd_same, upd_same]
  · rw [upd_other _ _ h, upd_other _ _ h, upd_other _ _ h]

theorem Inv.slotAs (h : Inv L g st a w) {d : Nat} {p : PV S} (hp : SRel L g (.slot d) p (a.tmps.getD d undef)) : Inv L g { st with slots := upd st.slots d p } a w where
  size := h.size
  slot i := by
    by_cases hi : i = d
    · subst hi; simp only [upd_same]; exact hp
    · show SRel L g (.slot i) (upd st.slots d p i) _
      rw [upd_other _ _ hi]; exact h.slot i
  mem := h.mem
  dfs := h.dfs

theorem OwnOk.addW {pos : Pos} {x : PV S} {v : Value} {N : Nat} {r : Rt} (h : OwnOk L g.ω pos x v) (hne : ∀ r0, g.ω N = some r0 → r0.pos ≠ pos) : OwnOk L (g.addW N r).ω pos x v := by
  cases x <;> simp only [OwnOk] at h ⊢
  intro a n c hv hn
  obtain ⟨r1, h1, h2, h3, h4⟩ := h a n c hv hn
  refine ⟨r1, ?_, h2, h3, h4⟩
  show (if a.block = N then _ else g.ω a.block) = some r1
  rw [if_neg]
  · exact h1
  · rintro rfl; exact hne r1 h1 h2

theorem MemInv.drew {m : Mem S} (h : MemInv L g m w) : MemInv L g m w.drew := h.of_heap fun _ _ => rfl

theorem MemInv.addW {m : Mem S} (h : MemInv L g m w) {N : Nat} {r : Rt} (hN : L.fixB N = false) (hω : g.ω N = none) (hβ : ∀ c, g.β c ≠ some N) {cs : Array Value} {ty : TypeId} (hg : w.heap[N]? = some (.cells cs ty (0, 0)))
    (ht : r.top ≤ cs.size) (hG : ∀ o, r.e ≤ o → g.G N o = none) : MemInv L (g.addW N r) m w where
  cell c ps hc := by
    obtain ⟨b, vs, ty, e1, e2, e3, e4⟩ := h.cell c ps hc
    refine ⟨b, vs, ty, e1, e2, e3, fun j p hp => ?_⟩
    obtain ⟨v, hv, hr⟩ := e4 j p hp
    exact ⟨v, hv, hr.1, hr.2.addW (fun r0 h0 => by rw [hω] at h0; cases h0)⟩
  dom := h.dom
  inj := h.inj
  βG := h.βG
  gs := h.gs
  wok := h.wok_sub (fun c b hb => .inl ⟨c, hb⟩) (fun b _ hf hb => by
    show (if b = N then some r else g.ω b) = none
    rw [if_neg (by rintro rfl; rw [hN] at hf; cases hf)]; exact hb) (fun _ _ _ _ h => h)
  rt b r' hr := by
    change (if b = N then some r else g.ω b) = some r' at hr
    split at hr
    · rename_i hb; subst hb; cases hr
      exact ⟨hβ, ⟨cs, ty, hg, ht⟩, hG⟩
    · exact h.rt b r' hr

/-- In place: a row grows by news, at the end of what is used. -/
def Gh.grow (g : Gh) (b : Nat) (r : Rt) (news : List Value) (q : Pos) : Gh :=
  { g with
    G := fun b' o => if b' = b ∧ r.e ≤ o ∧ o < r.e + news.length then news[o - r.e]? else g.G b' o
    ω := fun b' => if b' = b then some { pos := q, e := r.e + news.length, top := r.top } else g.ω b' }

theorem grow_mono {m : Mem S} (h : MemInv L g m w) {b : Nat} {r : Rt} (hr : g.ω b = some r) (news : List Value) (q : Pos) : ∀ b' o v, g.G b' o = some v → (g.grow b r news q).G b' o = some v := by
  intro b' o v hv
  show (if b' = b ∧ r.e ≤ o ∧ o < r.e + news.length then _ else g.G b' o) = some v
  rw [if_neg]
  · exact hv
  · rintro ⟨rfl, h1, _⟩
    rw [(h.rt b' r hr).2.2 o h1] at hv; cases hv

theorem MemInv.grow {m : Mem S} (h : MemInv L g m w) {b : Nat} {r : Rt} (hr : g.ω b = some r) (hpos : ∀ c j, r.pos ≠ .cell c j) {news : List Value} {q : Pos} {cur : Array Value} {ty : TypeId}
    (hg : w.heap[b]? = some (.cells cur ty (0, 0))) (ht : r.top ≤ cur.size) (hfit : r.e + news.length ≤ r.top) :
    MemInv L (g.grow b r news q) m (w.setRow b (cur.toList.take r.e ++ news ++ cur.toList.drop (r.e + news.length)).toArray) where
  cell c ps hc := by
    obtain ⟨b', vs, ty', e1, e2, e3, e4⟩ := h.cell c ps hc
    have hbb : b' ≠ b := fun e => (h.rt b r hr).1 c (e ▸ e1)
    refine ⟨b', vs, ty', e1, (setRow_other w b b' _ hbb).trans e2, e3, fun j p hp => ?_⟩
    obtain ⟨v, hv, hvr⟩ := e4 j p hp
    refine ⟨v, hv, hvr.1.mono (grow_mono h hr news q) (fun _ _ h => h), ?_⟩
    have h2 := hvr.2
    cases p <;> simp only [OwnOk] at h2 ⊢
    intro a n c' hv' hn
    obtain ⟨r1, h1, h2', h3, h4⟩ := h2 a n c' hv' hn
    refine ⟨r1, ?_, h2', h3, h4⟩
    show (if a.block = b then _ else g.ω a.block) = some r1
    rw [if_neg]
    · exact h1
    · intro e; rw [e, hr] at h1; cases h1; exact hpos c j h2'
  wok := h.wok_sub (fun c b hb => .inl ⟨c, hb⟩)
    (fun b' _ _ hb => by
      show (if b' = b then _ else g.ω b') = none
      rw [if_neg (by rintro rfl; rw [hr] at hb; cases hb)]; exact hb)
    (fun b' o _ hω hb' => (setRow_other w b b' _ (by rintro rfl; rw [hr] at hω; cases hω)).trans hb')
  dom := h.dom
  inj := h.inj
  βG c b' hb' o := by
    show (if b' = b ∧ r.e ≤ o ∧ o < r.e + news.length then _ else g.G b' o) = none
    rw [if_neg]
    · exact h.βG c b' hb' o
    · rintro ⟨rfl, _⟩; exact (h.rt b' r hr).1 c hb'
  gs b' o v hv := by
    change (if b' = b ∧ r.e ≤ o ∧ o < r.e + news.length then news[o - r.e]? else g.G b' o) = some v at hv
    have hlen : r.e + news.length ≤ cur.toList.length := by simp; omega
    split at hv
    · rename_i hc
      obtain ⟨rfl, h1, h2⟩ := hc
      rw [cell_setRow_same w b' o cur _ ty (0, 0) hg, List.getElem?_toArray, putAtV_get hlen, if_neg (by omega), if_pos h2]; exact hv
    · rename_i hc
      by_cases hb : b' = b
      · subst hb
        have h1 := h.gs b' o v hv
        rw [cell_setRow_same w b' o cur _ ty (0, 0) hg, List.getElem?_toArray, putAtV_get hlen]
        simp only [World.cell?, hg, Option.isSome_none, Bool.false_eq_true, if_false] at h1
        by_cases c1 : o < r.e
        · rw [if_pos c1]; simpa using h1
        · rw [if_neg c1, if_neg (by intro c2; exact hc ⟨rfl, by omega, c2⟩)]; simpa using h1
      · rw [cell_setRow_other w b _ ⟨b', o, none⟩ hb]; exact h.gs b' o v hv
  rt b' r' hr' := by
    change (if b' = b then _ else g.ω b') = some r' at hr'
    split at hr'
    · rename_i hb; subst hb; cases hr'
      obtain ⟨h1, _, h3⟩ := h.rt b' r hr
      refine ⟨h1, ⟨_, ty, setRow_heap w b' cur _ ty (0, 0) hg, by simp; omega⟩, fun o ho => ?_⟩
      show (if b' = b' ∧ r.e ≤ o ∧ o < r.e + news.length then _ else g.G b' o) = none
      change r.e + news.length ≤ o at ho
      rw [if_neg (by omega)]; exact h3 o (by omega)
    · rename_i hb
      obtain ⟨h1, ⟨cs, ty', h2, h3⟩, h4⟩ := h.rt b' r' hr'
      refine ⟨h1, ⟨cs, ty', (setRow_other w b b' _ hb).trans h2, h3⟩, fun o ho => ?_⟩
      show (if b' = b ∧ r.e ≤ o ∧ o < r.e + news.length then _ else g.G b' o) = none
      rw [if_neg (fun h => hb h.1)]; exact h4 o ho

theorem Fr.grow {m : Mem S} (h : MemInv L g m w) {b : Nat} {r : Rt} (hr : g.ω b = some r) (news : List Value) (q : Pos) (cs : Array Value) : Fr g w (g.grow b r news q) (w.setRow b cs) := by
  refine ⟨rfl, rfl, rfl, by simp, fun b' hb' hβ hω => ?_, grow_mono h hr news q, fun _ _ h => h, fun _ _ h => .inl h⟩
  have hbb : b' ≠ b := by rintro rfl; rw [hr] at hω; cases hω
  refine ⟨setRow_other w b b' cs hbb, fun o => ?_, ?_⟩
  · show (if b' = b ∧ _ then _ else g.G b' o) = g.G b' o
    rw [if_neg (fun h => hbb h.1)]
  · show (if b' = b then _ else g.ω b') = none
    rw [if_neg hbb]; exact hω

theorem Fr.addW (g : Gh) {w0 w : World} {g0 : Gh} (h : Fr g0 w0 g w) {N : Nat} {r : Rt} (hN : w0.heap.size ≤ N) : Fr g0 w0 (g.addW N r) w :=
  ⟨h.os, h.tape, h.output, h.size, fun b hb hβ hω => by
    obtain ⟨e1, e2, e3⟩ := h.keep b hb hβ hω
    refine ⟨e1, e2, ?_⟩
    show (if b = N then _ else g.ω b) = none
    rw [if_neg (by omega)]; exact e3, h.gmono, h.βmono, h.βnew⟩

theorem Fr.drew (g : Gh) (w : World) : Fr g w g w.drew := ⟨rfl, rfl, rfl, Nat.le_refl _, fun b _ _ h => ⟨rfl, fun _ => rfl, h⟩, fun _ _ _ h => h, fun _ _ h => h, fun _ _ h => .inl h⟩

theorem Inv.mvRes (h : Inv L g st a w) (q : Pos) : Inv L (g.mv .res q) st a w := by
  refine ⟨h.size, fun i => (h.slot i).mv_other (by simp), ?_, h.dfs⟩
  refine ⟨fun c ps hc => ?_, h.mem.dom, h.mem.inj, h.mem.βG, h.mem.gs, fun b r hr => ?_, h.mem.wok_sub (fun c b hb => .inl ⟨c, hb⟩) (fun b _ _ hb => by simp [Gh.mv, hb]) (fun _ _ _ _ h => h)⟩
  · obtain ⟨b, vs, ty, e1, e2, e3, e4⟩ := h.mem.cell c ps hc
    refine ⟨b, vs, ty, e1, e2, e3, fun j p hp => ?_⟩
    obtain ⟨v, hv, hr⟩ := e4 j p hp
    exact ⟨v, hv, hr.mv_other (by simp)⟩
  · simp only [Gh.mv] at hr
    cases hw : g.ω b with
    | none => simp [hw] at hr
    | some r0 =>
      simp [hw] at hr
      obtain ⟨e1, e2, e3⟩ := h.mem.rt b r0 hw
      refine ⟨e1, ?_, ?_⟩
      · obtain ⟨cs, ty, f1, f2⟩ := e2
        refine ⟨cs, ty, f1, ?_⟩
        rw [← hr]; split <;> exact f2
      · intro o ho
        refine e3 o ?_
        rw [← hr] at ho; split at ho <;> exact ho

def posOf : Option Nat → Pos
  | some d => .slot d
  | none => .res

theorem updL_app (s : Nat → PV S) (x : List (Nat × PV S)) (d : Nat) (p : PV S) : updL s (x ++ wr (some d) p) = upd (updL s x) d p := by
  induction x generalizing s with
  | nil => rfl
  | cons q r ih => obtain ⟨i, q⟩ := q; exact ih _

theorem step_append (h : Inv L g st a w) {o : Oper} {c : Call} (ho : o.op = .call c) (hc : c.callee = .builtin .append) {t u e : TypeId} {x y : Operand} (hts : c.argTypes.toList = [t, u]) (hxs : c.args.toList = [x, y])
    (ht : P.underlying t = some (.slice e)) (hu : appT P u = true) {i : TypeInfo} {z : Value} (hi : P.info? e = some i) (hz : i.zero = some z) {k : S.K} {l l' : List (S.El k)} (hsz : i.size = L.sz k) (hb1 : 1 ≤ i.bytes)
    (hzs : z.cells.size = i.size) {p q : PV S} (hp : rdRaw P L st t x = some p) (hpk : p = .own k l ∨ p = .full k l) (hq : rd P L st u y = some q) (hn : newEls L k q = some l')
    (hb : (l.length + l'.length) * i.bytes ≤ 140737488355328) (hd : fits st.nt (took st x ++ wr o.dst (.own k (l ++ l'))) = true) :
    StepOk P L g w st o a (.ok { w := took st x ++ wr o.dst (.own k (l ++ l')) }) := by
  intro K Q hK
  have ht' : c.argTypes = #[t, u] := by apply Array.ext'; simpa using hts
  have hx' : c.args = #[x, y] := by apply Array.ext'; simpa using hxs
  obtain ⟨from_, hf, hsr, hI1⟩ := h.giveTo hp .res (by simp)
  have hown := hsr.2.mv_self (q := .res)
  have hdata : DRel L g.G (.sl k l) (a.eval x) := by
    rcases hpk with rfl | rfl
    · have := hsr.1; simp only [PRel] at this; exact this.1
    · have := hsr.1; simp only [PRel] at this; exact this.1
  have hplain : Plain (a.eval x) := by
    rcases hpk with rfl | rfl
    · have := hsr.1; simp only [PRel] at this; exact this.2
    · have := hsr.1; simp only [PRel] at this; exact this.2.2
  have hFr1 : Fr g w (g.mv from_ .res) w := Fr.mv g w _ _
  generalize hg1 : g.mv from_ .res = g1 at hI1 hown hFr1
  have hG1 : g1.G = g.G := by rw [← hg1]; rfl
  have hβ1 : g1.β = g.β := by rw [← hg1]; rfl
  obtain ⟨news, n1, n2, n3, n4, n5⟩ := newEls_rel (P := P) hI1.mem hn (v := a.eval y) (by rw [hβ1, hG1]; exact (rd_rel h hq).1)
  rw [hG1] at n5
  have hexec : ∀ (v : Value) (w1 : World), (Builtin.append_ #[t, u] o.type #[a.eval x, a.eval y]).run P w = .ok v w1 → (execOp a.eval o).run P w = .ok (.value v) w1 := by
    intro v w1 hv
    simp [execOp, ho, resolve, hc, ht', hx', invoke, builtin, hv]
  -- from an invariant behind the operation to the end
  have fin : ∀ (v : Value) (w1 : World) (g2 : Gh), (Builtin.append_ #[t, u] o.type #[a.eval x, a.eval y]).run P w = .ok v w1 →
      Inv L g2 { st with slots := updL st.slots (took st x) } a w1 → Fr g w g2 w1 → SRel L g2 (posOf o.dst) (.own k (l ++ l')) v → o.wp P a w K Q := by
    intro v w1 g2 hrun hInv hfr hs
    unfold Oper.wp
    rw [hexec v w1 hrun, Oper.upon_value]
    refine hK _ _ g2 ?_ hfr
    rw [apply_w]
    cases hdst : o.dst with
    | none => simp only [wr, List.append_nil]; exact hInv
    | some d =>
      rw [hdst] at hd hs
      rw [updL_app]
      exact hInv.put (fits_wr (dst := some d) (fits_app hd).2 d rfl) hs.1 hs.2
  rw [hsz] at hzs
  rcases hdata.sl_plain hplain with ⟨rfl, ev⟩ | ⟨b, q0, cap, ev, hcap, hrel⟩
  · -- the nil slice
    rw [ev] at fin hown
    by_cases h0 : l' = []
    · subst h0
      simp at n1
      subst n1
      refine fin (.slice none 0 0) w (g1.mv .res (posOf o.dst)) ?_ (hI1.mvRes _) (hFr1.trans (Fr.mv g1 w _ _)) ⟨by simp only [PRel]; exact ⟨.nil k, Plain.nil⟩, by intro a n c hv; cases hv⟩
      exact run_append_fit t u o.type e i ht hu hi n3 (hsz ▸ n4) (by simp) (by simp) (fun _ => rfl)
    · have hpos : 0 < l'.length := by cases l' with | nil => exact absurd rfl h0 | cons => simp
      have hgrow := run_append_grows (P := P) (w := w) t u o.type e i z ht hu hi hz (base := none) (sLen := 0) (sCap := 0) hb1 (by simpa using hb) n3 (olds := []) (fun w2 _ => by simp [Builtin.firstCells]) (hsz ▸ n4) (by omega)
      simp only [Nat.zero_add, List.nil_append] at hgrow
      have hcapge : l'.length ≤ grownCap w l'.length 0 e := by unfold grownCap; simp only [Question.cut]; omega
      have hm := hI1.mem.drew.addG (vs := news) (xs := (news ++ (Builtin.zeroCells z.cells (grownCap w l'.length 0 e - l'.length)).toList).toArray) (e := e) (fun j v hv => by
        rw [List.getElem?_toArray, List.getElem?_append_left (List.getElem?_eq_some_iff.1 hv).1]; exact hv)
      have hN : w.drew.heap.size = w.heap.size := rfl
      have hm2 := hm.addW (N := w.heap.size) (r := ⟨posOf o.dst, l'.length * L.sz k, grownCap w l'.length 0 e * L.sz k⟩) hI1.mem.fresh
        (by
          cases hw : g1.ω w.heap.size with
          | none => exact hw
          | some r => exact absurd (hI1.mem.ω_lt hw) (by omega))
        (fun c hcc => absurd (hI1.mem.β_lt hcc) (by omega))
        (heap_alloc_new w.drew _)
        (by
          simp only [List.size_toArray, List.length_append, n1, Array.length_toList, Builtin.zeroCells, Array.size_map, Array.size_range, hzs]
          rw [← Nat.add_mul]; exact Nat.mul_le_mul_right _ (by omega))
        (fun j hj => by
          show (if w.heap.size = w.heap.size then news[j]? else _) = none
          rw [if_pos rfl, List.getElem?_eq_none]; simp only at hj; omega)
      have hI2 := (Inv.of_mono (w := w) hI1 (g' := (g1.addG w.heap.size news).addW w.heap.size ⟨posOf o.dst, l'.length * L.sz k, grownCap w l'.length 0 e * L.sz k⟩)
        hI1.mem.drew.G_mono (fun _ _ h => h) (fun j p v hv => (hv.2.addW (fun r0 h0 => absurd (hI1.mem.ω_lt h0) (by omega)))) hm2)
      refine fin _ _ _ hgrow hI2 (hFr1.trans ((Fr.drew g1 w).trans (Fr.addW _ (Fr.addG hI1.mem.drew) (Nat.le_refl _)))) ⟨?_, ?_⟩
      · simp only [PRel, List.nil_append]
        refine ⟨?_, Plain.mk _ _ _ _⟩
        refine DRel.sl_mk hcapge fun j x hx jj d hdd => ?_
        obtain ⟨u', hu', hur⟩ := n5 j x hx jj d hdd
        refine ⟨u', ?_, hur.mono (fun b o v hv => hI1.mem.drew.G_mono b o v (by rw [hG1]; exact hv))⟩
        show (if w.heap.size = w.heap.size then news[0 + j * L.sz k + jj]? else _) = some u'
        rw [if_pos rfl, Nat.zero_add]; exact hu'
      · intro ad n c hv hlt
        cases hv
        exact ⟨_, if_pos rfl, rfl, by simp, by simp⟩
  · rw [ev] at fin hown
    obtain ⟨olds, o1, o2, o3⟩ := flat_cells hrel
    have hcat : ∀ (flat : List Value), flat = olds ++ news → ∀ (i : Nat) (x : S.El k), (l ++ l')[i]? = some x → ∀ (j : Nat) (d : DV S), (L.cells k x)[j]? = some d → ∃ u, flat[i * L.sz k + j]? = some u ∧ DRel L g.G d u := by
      intro flat hfl i x hx j d hd
      subst hfl
      by_cases hlt : i < l.length
      · rw [List.getElem?_append_left hlt] at hx
        obtain ⟨u', hu', hur⟩ := o3 i x hx j d hd
        exact ⟨u', by rw [List.getElem?_append_left (List.getElem?_eq_some_iff.1 hu').1]; exact hu', hur⟩
      · rw [List.getElem?_append_right (by omega)] at hx
        obtain ⟨u', hu', hur⟩ := n5 _ x hx j d hd
        refine ⟨u', ?_, hur⟩
        have e1 : i * L.sz k = l.length * L.sz k + (i - l.length) * L.sz k := by rw [← Nat.add_mul]; congr 1; omega
        rw [List.getElem?_append_right (by omega), o1, ← hu']
        congr 1; omega
    by_cases hfit : l.length + l'.length ≤ cap
    · by_cases h0 : l' = []
      · subst h0
        simp at n1
        subst n1
        refine fin (.slice (some ⟨b, q0, none⟩) l.length cap) w (g1.mv .res (posOf o.dst)) ?_ (hI1.mvRes _) (hFr1.trans (Fr.mv g1 w _ _)) ⟨?_, ?_⟩
        · exact run_append_fit t u o.type e i ht hu hi n3 (hsz ▸ n4) hfit (by intro ad _; rfl) (fun hh => by cases hh)
        · simp only [PRel, List.append_nil]
          refine ⟨?_, Plain.mk _ _ _ _⟩
          rw [ev] at hdata
          exact hdata.mono (fun _ _ _ h => by show g1.G _ _ = _; rw [hG1]; exact h)
        · rw [List.append_nil]
          rcases hpk with rfl | rfl
          · exact hown.mv_self
          · intro ad n c hv hlt
            have := hsr.1; simp only [PRel] at this
            rw [ev] at this
            have := this.2.1 _ _ _ rfl
            cases hv; omega
      · have hpos : 0 < l'.length := by cases l' with | nil => exact absurd rfl h0 | cons => simp
        have hp' : p = .own k l := by
          rcases hpk with rfl | rfl
          · rfl
          · have := hsr.1; simp only [PRel] at this
            rw [ev] at this
            have := this.2.1 _ _ _ rfl
            omega
        subst hp'
        obtain ⟨r, hr, hrp, hre, hrt⟩ := hown ⟨b, q0, none⟩ l.length cap rfl (by omega)
        simp only at hr hre hrt
        obtain ⟨hrβ, ⟨cur, ty, hcur, htop⟩, hrG⟩ := hI1.mem.rt b r hr
        have hspace : r.e + news.length ≤ r.top := by
          rw [n1, hre, Nat.add_assoc, ← Nat.add_mul]
          exact Nat.le_trans (Nat.add_le_add_left (Nat.mul_le_mul_right _ hfit) _) hrt
        have hst := run_storeCells_at P b r.e ty news 0 cur w hcur (by omega) n2
        simp only [Nat.add_zero] at hst
        have hrun := run_append_fit (P := P) (w := w) (base := some ⟨b, q0, none⟩) (sLen := l.length) t u o.type e i ht hu hi n3 (hsz ▸ n4) hfit
          (w1 := w.setRow b (cur.toList.take r.e ++ news ++ cur.toList.drop (r.e + news.length)).toArray)
          (by intro ad had; cases had; rw [add_mk, hsz, ← hre]; exact hst) (fun hh => by cases hh)
        have hm := hI1.mem.grow (q := posOf o.dst) hr (by rw [hrp]; simp) hcur htop hspace
        have hI2 := Inv.of_mono (w := w) hI1 (g' := g1.grow b r news (posOf o.dst)) (grow_mono hI1.mem hr news _) (fun _ _ h => h) (fun j p v hv => by
          have h2 := hv.2
          cases p <;> simp only [OwnOk] at h2 ⊢
          intro a' n c' hv' hn'
          obtain ⟨r1, f1, f2, f3, f4⟩ := h2 a' n c' hv' hn'
          refine ⟨r1, ?_, f2, f3, f4⟩
          show (if a'.block = b then _ else g1.ω a'.block) = some r1
          rw [if_neg]
          · exact f1
          · intro ee; rw [ee, hr] at f1; cases f1; rw [hrp] at f2; cases f2) hm
        refine fin _ _ _ hrun hI2 (hFr1.trans (Fr.grow hI1.mem hr news _ _)) ⟨?_, ?_⟩
        · simp only [PRel]
          refine ⟨?_, Plain.mk _ _ _ _⟩
          have hll : (l ++ l').length = l.length + l'.length := by simp
          rw [← hll]
          refine DRel.sl_mk (by rw [hll]; exact hfit) fun i' x hx j d hdd => ?_
          by_cases hlt : i' < l.length
          · rw [List.getElem?_append_left hlt] at hx
            obtain ⟨u', hu', hur⟩ := hrel i' x hx j d hdd
            exact ⟨u', grow_mono hI1.mem hr news _ _ _ _ (by rw [hG1]; exact hu'), hur.mono (fun b o v hv => grow_mono hI1.mem hr news _ _ _ _ (by rw [hG1]; exact hv))⟩
          · rw [List.getElem?_append_right (by omega)] at hx
            obtain ⟨u', hu', hur⟩ := n5 _ x hx j d hdd
            have e1 : i' * L.sz k = l.length * L.sz k + (i' - l.length) * L.sz k := by rw [← Nat.add_mul]; congr 1; omega
            have hlt2 := (List.getElem?_eq_some_iff.1 hu').1
            refine ⟨u', ?_, hur.mono (fun b o v hv => grow_mono hI1.mem hr news _ _ _ _ (by rw [hG1]; exact hv))⟩
            show (if b = b ∧ r.e ≤ q0 + i' * L.sz k + j ∧ q0 + i' * L.sz k + j < r.e + news.length then news[q0 + i' * L.sz k + j - r.e]? else _) = some u'
            rw [if_pos ⟨rfl, by omega, by omega⟩, ← hu']
            congr 1; omega
        · intro ad n c hv hlt
          cases hv
          refine ⟨_, if_pos rfl, rfl, ?_, ?_⟩
          · simp only [List.length_append]; rw [hre, n1, Nat.add_mul]; omega
          · exact hrt
    · have hold : ∀ w2 : World, w2.heap = w.heap → (Builtin.firstCells i.size l.length (.slice (some ⟨b, q0, none⟩) l.length cap)).run P w2 = .ok olds.toArray w2 := by
        intro w2 hw2
        rw [hsz]
        refine run_firstCells_some w2 (L.sz k) l.length ⟨b, q0, none⟩ _ _ olds o1 fun j v hv => ?_
        rw [add_mk]
        have := h.mem.gs _ _ _ (o2 j v hv).1
        simpa [World.cell?, hw2] using this
      have hgrow := run_append_grows (P := P) (w := w) t u o.type e i z ht hu hi hz (base := some ⟨b, q0, none⟩) (sLen := l.length) (sCap := cap) hb1 hb n3 hold (hsz ▸ n4) hfit
      generalize hgc : grownCap w (l.length + l'.length) cap e = nc at hgrow
      have hcapge : l.length + l'.length ≤ nc := by rw [← hgc]; unfold grownCap; simp only [Question.cut]; omega
      have hflen : (olds ++ news).length = (l.length + l'.length) * L.sz k := by simp [o1, n1, Nat.add_mul]
      have hm := hI1.mem.drew.addG (vs := olds ++ news) (xs := (olds ++ (news ++ (Builtin.zeroCells z.cells (nc - (l.length + l'.length))).toList)).toArray) (e := e) (fun j v hv => by
        rw [List.getElem?_toArray, ← List.append_assoc, List.getElem?_append_left (List.getElem?_eq_some_iff.1 hv).1]; exact hv)
      have hN : w.drew.heap.size = w.heap.size := rfl
      have hm2 := hm.addW (N := w.heap.size) (r := ⟨posOf o.dst, (l.length + l'.length) * L.sz k, nc * L.sz k⟩) hI1.mem.fresh
        (by
          cases hw : g1.ω w.heap.size with
          | none => exact hw
          | some r => exact absurd (hI1.mem.ω_lt hw) (by omega))
        (fun c hcc => absurd (hI1.mem.β_lt hcc) (by omega))
        (heap_alloc_new w.drew _)
        (by
          simp only [List.size_toArray, List.length_append, n1, o1, Array.length_toList, Builtin.zeroCells, Array.size_map, Array.size_range, hzs]
          rw [← Nat.add_mul, ← Nat.add_mul]; exact Nat.mul_le_mul_right _ (by omega))
        (fun j hj => by
          show (if w.heap.size = w.heap.size then (olds ++ news)[j]? else _) = none
          rw [if_pos rfl, List.getElem?_eq_none]; simp only at hj; omega)
      have hI2 := (Inv.of_mono (w := w) hI1 (g' := (g1.addG w.heap.size (olds ++ news)).addW w.heap.size ⟨posOf o.dst, (l.length + l'.length) * L.sz k, nc * L.sz k⟩)
        hI1.mem.drew.G_mono (fun _ _ h => h) (fun j p v hv => (hv.2.addW (fun r0 h0 => absurd (hI1.mem.ω_lt h0) (by omega)))) hm2)
      refine fin _ _ _ hgrow hI2 (hFr1.trans ((Fr.drew g1 w).trans (Fr.addW _ (Fr.addG hI1.mem.drew) (Nat.le_refl _)))) ⟨?_, ?_⟩
      · simp only [PRel]
        refine ⟨?_, Plain.mk _ _ _ _⟩
        have hll : (l ++ l').length = l.length + l'.length := by simp
        rw [← hll]
        refine DRel.sl_mk (by rw [hll]; exact hcapge) fun j x hx jj d hdd => ?_
        obtain ⟨u', hu', hur⟩ := hcat _ rfl j x hx jj d hdd
        refine ⟨u', ?_, hur.mono (fun b o v hv => hI1.mem.drew.G_mono b o v (by rw [hG1]; exact hv))⟩
        show (if w.heap.size = w.heap.size then (olds ++ news)[0 + j * L.sz k + jj]? else _) = some u'
        rw [if_pos rfl, Nat.zero_add]; exact hu'
      · intro ad n c hv hlt
        cases hv
        exact ⟨_, if_pos rfl, rfl, by simp, by simp⟩

/-! ### Panics and deferred calls -/

theorem step_panic (h : Inv L g st a w) {o : Oper} {x : Operand} (ho : o.op = .panic x) {t : TypeId} {p : PV S} (hx : rd P L st 0 x = some (.iface t p)) :
    StepOk P L g w st o a (.pan (.iface t p) {}) := by
  intro K Q hK
  have hr := (rd_rel h hx).1
  have hr' := hr
  simp only [PRel] at hr
  obtain ⟨u, hu, _⟩ := hr
  have hrun : (execOp a.eval o).run P w = .halt (.panic (.iface t u)) w := by
    simp [execOp, ho, hu, Instr.panic]
  unfold Oper.wp
  rw [hrun, Oper.upon_panic]
  refine hK w (.iface t u) g (by rw [← hu]; exact hr') ?_ h.dfs (Fr.refl g w)
  simpa [Eff.apply, setL] using h.mem

theorem step_defer (h : Inv L g st a w) {o : Oper} {c : Call} (ho : o.op = .defer c) {f : Operand} (hc : c.callee = .value f) {fd : FuncId} {fst cap : List (PV S)} (hf : rd P L st 0 f = some (.fn (.func fd) fst cap))
    {ps : List (PV S)} (hps : rdAll P L st c.argTypes.toList c.args.toList = some ps) (hd : fits st.nt (wr o.dst (.bot : PV S)) = true) :
    StepOk P L g w st o a (.ok { w := wr o.dst .bot, df := [(fd, fst ++ ps.map PV.norm ++ cap)] }) := by
  intro K Q hK
  have hfr := (rd_rel h hf).1
  simp only [PRel] at hfr
  obtain ⟨va, vb, hfv, ha, hb⟩ := hfr
  have hargs := (rdAll_rel h hps).1.map (fun _ _ => PRel.norm)
  have hrun : (execOp a.eval o).run P w = .ok (.defer { target := .fn (.func fd) vb.toArray, args := va.toArray ++ c.args.map a.eval }) w := by
    simp [execOp, ho, resolve, hc, hfv, Deferred.ofValue]
  unfold Oper.wp
  rw [hrun, Oper.upon_defer]
  have hI : Inv L g { st with dfs := (fd, fst ++ ps.map PV.norm ++ cap) :: st.dfs } { a with defers := { target := .fn (.func fd) vb.toArray, args := va.toArray ++ c.args.map a.eval } :: a.defers } w := by
    refine ⟨h.size, h.slot, h.mem, .cons ⟨vb.toArray, _, rfl, rfl, ?_⟩ h.dfs⟩
    have := (ha.append hargs).append hb
    simpa [Array.toList_map] using this
  refine hK _ _ g ?_ (Fr.refl g w)
  have e : ({ w := wr o.dst .bot, df := [(fd, fst ++ ps.map PV.norm ++ cap)] } : Eff S).apply st = { st with slots := updL st.slots (wr o.dst .bot), dfs := (fd, fst ++ ps.map PV.norm ++ cap) :: st.dfs } := by
    simp [Eff.apply, setL]
  rw [e]
  cases hdst : o.dst with
  | none => exact hI
  | some d =>
    rw [hdst] at hd
    exact hI.put (d := d) (p := .bot) (v := undef) (fits_wr (dst := some d) (p := (.bot : PV S)) hd d rfl) (by simp only [PRel]) trivial

end
end Go.Proofs.YtdhpgcjhiommkaaDoor.Ev
