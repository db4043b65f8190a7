/- This file proves that the evaluator's regions in text order, its bookkeeping of cells, and its statements keep the relation to the model's world; without any condition but that of the regions with an open order, which is taken as a hypothesis here. -/
import Derived.Test.YtanfoijdfcnpoaaGreatDoorEvZ
set_option linter.unusedVariables false
set_option linter.unusedSimpArgs false
namespace Go.Proofs.YtanfoijdfcnpoaaGreatDoor.Ev

section
variable {S : Sig} {P : Program} {L : Lay S} {call : CallT S} [Natural call] {g : Gh} {st : St S} {a : Act} {w : World}

/-- As 'Fr', but of the evaluator's own cells only the first np stay. -/
structure FrN (np : Nat) (g0 : Gh) (w0 : World) (g : Gh) (w : World) : Prop where
  os : w.os = w0.os
  tape : w.tape = w0.tape
  output : w.output = w0.output
  size : w0.heap.size ≤ w.heap.size
  keep : ∀ b, b < w0.heap.size → (∀ c, g0.β c ≠ some b) → g0.ω b = none → w.heap[b]? = w0.heap[b]? ∧ (∀ o, g.G b o = g0.G b o) ∧ g.ω b = none
  gmono : ∀ b o v, g0.G b o = some v → g.G b o = some v
  βmono : ∀ c b, c < np → g0.β c = some b → g.β c = some b
  βnew : ∀ c b, g.β c = some b → g0.β c = some b ∨ w0.heap.size ≤ b

theorem Fr.toN {np : Nat} {g0 g1 : Gh} {w0 w1 : World} (h : Fr g0 w0 g1 w1) : FrN np g0 w0 g1 w1 :=
  ⟨h.os, h.tape, h.output, h.size, h.keep, h.gmono, fun c b _ hb => h.βmono c b hb, h.βnew⟩

theorem FrN.trans {np : Nat} {g0 g1 g2 : Gh} {w0 w1 w2 : World} (h : FrN np g0 w0 g1 w1) (k : FrN np g1 w1 g2 w2) : FrN np g0 w0 g2 w2 where
  os := k.os.trans h.os
  tape := k.tape.trans h.tape
  output := k.output.trans h.output
  size := Nat.le_trans h.size k.size
  keep b hb hβ hω := by
    obtain ⟨e1, e2, e3⟩ := h.keep b hb hβ hω
    obtain ⟨f1, f2, f3⟩ := k.keep b (Nat.lt_of_lt_of_le hb h.size) (fun c hc => by
      rcases h.βnew c b hc with h' | h'
      · exact hβ c h'
      · omega) e3
    exact ⟨f1.trans e1, fun o => (f2 o).trans (e2 o), f3⟩
  gmono b o v hv := k.gmono b o v (h.gmono b o v hv)
  βmono c b hc hb := k.βmono c b hc (h.βmono c b hc hb)
  βnew c b hb := by
    rcases k.βnew c b hb with h' | h'
    · exact h.βnew c b h'
    · exact .inr (Nat.le_trans h.size h')

/-- What a statement comes to. -/
def ExOk (L : Lay S) (np : Nat) (g : Gh) (w : World) (e : Ex S) (st' : St S) (x : Exit) (a' : Act) (w' : World) : Prop :=
  ∃ g', FrN np g w g' w' ∧
    match e with
    | .normal => x = .normal ∧ Inv L g' st' a' w'
    | .exit id => x = .exit id ∧ Inv L g' st' a' w'
    | .ret => x = .ret ∧ Inv L g' st' a' w'
    | .pan p => ∃ v, x = .panic [{ v, recovered := false }] ∧ PRel L g'.β g'.G p v ∧ MemInv L g' st'.mem w' ∧ DfRels L g'.β g'.G st'.dfs a'.defers ∧ ∀ i, PRel L g'.β g'.G (st'.slots i) (a'.tmps.getD i undef)

theorem ExOk.trans {np : Nat} {g1 : Gh} {w1 : World} {e : Ex S} {st' : St S} {x : Exit} {a' : Act} {w' : World} (h : ExOk L np g1 w1 e st' x a' w') (hf : FrN np g w g1 w1) : ExOk L np g w e st' x a' w' := by
  obtain ⟨g', f, r⟩ := h
  exact ⟨g', hf.trans f, r⟩

theorem yielded_bool (h : Inv L g st a w) {ops : Array Oper} {j t : Nat} (hj : (ops[j]?).bind (·.dst) = some t) {b : Bool} (hs : st.slots t = .d (.bool b)) : yielded ops a.tmps j = some b := by
  have := (h.slot t).1
  rw [hs] at this
  have := this.d_bool
  unfold yielded
  rw [hj, Option.bind_some]
  cases hv : a.tmps[t]? with
  | none => simp [Array.getD_eq_getD_getElem?, hv, undef] at this
  | some v => simp [Array.getD_eq_getD_getElem?, hv] at this; subst this; rfl

theorem yielded_bot (h : Inv L g st a w) {ops : Array Oper} {j t : Nat} (hj : (ops[j]?).bind (·.dst) = some t) (hs : st.slots t = .bot) : yielded ops a.tmps j = none := by
  have := (h.slot t).1
  rw [hs] at this
  simp only [PRel] at this
  unfold yielded
  rw [hj, Option.bind_some]
  cases hv : a.tmps[t]? with
  | none => rfl
  | some v => simp [Array.getD_eq_getD_getElem?, hv] at this; subst this; rfl

/-- What an operation, under its guard, leads to. -/
def OutOk (L : Lay S) (g : Gh) (w : World) (st : St S) (a : Act) (K : Act → World → Prop) (Q : Exit → Act → World → Prop) : Out S → Prop
  | .ok e => ∀ a' w' g', Inv L g' (e.apply st) a' w' → Fr g w g' w' → K a' w'
  | .pan p e => ∀ w' v g', PRel L g'.β g'.G p v → MemInv L g' (e.apply st).mem w' → DfRels L g'.β g'.G (e.apply st).dfs a.defers → Fr g w g' w' → Q (.panic [{ v, recovered := false }]) a w'

theorem StepOk.use {o : Oper} {out : Out S} (h : StepOk P L g w st o a out) {K : Act → World → Prop} {Q : Exit → Act → World → Prop} (hK : OutOk L g w st a K Q out) : o.wp P a w K Q := by
  cases out with
  | ok e => exact h K Q hK
  | pan p e => exact h K Q hK

theorem opK_sound (h : Inv L g st a w) (hcall : ∀ f args m r, dir call f args m = some r → CallOk P L f args m r) {tk fl : Bool} {ops : Array Oper} {i : Nat} {out : Out S}
    (hk : opK P L call tk fl ops i st some = some out) (hd : ∀ e, out = .ok e → fits st.nt e.w = true) {K : Act → World → Prop} {Q : Exit → Act → World → Prop} (hK : OutOk L g w st a K Q out) :
    wpOp P ops Q i K a w := by
  unfold opK at hk
  split at hk
  · cases hk
  · rename_i o ho
    have skip : ∀ {out : Out S}, out = val o .bot → fits st.nt (wr o.dst (.bot : PV S)) = true → OutOk L g w st a K Q out → Region.wanted o (yielded ops a.tmps) = false → wpOp P ops Q i K a w := by
      intro out e1 hd hK hw
      subst e1
      unfold wpOp
      simp only [ho, hw, Bool.false_eq_true, if_false]
      refine hK _ _ g ?_ (Fr.refl g w)
      rw [apply_val]
      cases hdst : o.dst with
      | none => exact h
      | some d =>
        rw [hdst] at hd
        exact h.put (d := d) (p := .bot) (v := undef) (fits_wr (dst := some d) (p := (.bot : PV S)) hd d rfl) (by simp only [PRel]) trivial
    have run : effK P L call tk fl (st.rb + cellsBefore ops.toList i) o st some = some out → Region.wanted o (yielded ops a.tmps) = true → wpOp P ops Q i K a w := by
      intro he hw
      unfold wpOp
      simp only [ho, hw, if_true]
      exact .inl ((effK_sound h hcall he hd).use hK)
    split at hk
    · rename_i hg
      exact run hk (by simp [Region.wanted, hg])
    · rename_i j want hg
      split at hk
      · cases hk
      · rename_i t ht
        split at hk
        · rename_i b hb
          have hy := yielded_bool h ht hb
          split at hk
          · cases b with
            | true => exact run hk (by simp [Region.wanted, hg, hy])
            | false => cases hk; exact skip rfl (hd _ rfl) hK (by simp [Region.wanted, hg, hy])
          · cases b with
            | false => exact run hk (by simp [Region.wanted, hg, hy])
            | true => cases hk; exact skip rfl (hd _ rfl) hK (by simp [Region.wanted, hg, hy])
        · rename_i hb
          have hy := yielded_bot h ht hb
          cases hk
          exact skip rfl (hd _ rfl) hK (by simp [Region.wanted, hg, hy])
        · cases hk

theorem upon_mono {o : Oper} {a : Act} {K K' : Act → World → Prop} {Q Q' : Exit → Act → World → Prop} (hK : ∀ a w, K a w → K' a w) (hQ : ∀ e a w, Q e a w → Q' e a w) {r : Result Next}
    (h : o.upon P a K Q r) : o.upon P a K' Q' r := by
  cases r with
  | ok n w' =>
    cases n <;> simp only [Oper.upon] at h ⊢ <;> first
      | exact hK _ _ h
      | exact Calls.mono h (fun e w'' he => by
          cases e with
          | returned v => exact hK _ _ he
          | panicked ch => exact hQ _ _ _ he
          | outgrown => obtain ⟨a0, w0, hq⟩ := he; exact ⟨a0, w0, hQ _ _ _ hq⟩)
      | exact Rows.mono h (fun _ _ he => hK _ _ he)
  | halt x w' => cases x <;> simp only [Oper.upon] at h ⊢ <;> first | exact hQ _ _ _ h | exact h

theorem wpOp_mono' {ops : Array Oper} {i : Nat} {K K' : Act → World → Prop} {Q Q' : Exit → Act → World → Prop} (hK : ∀ a w, K a w → K' a w) (hQ : ∀ e a w, Q e a w → Q' e a w) {a : Act} {w : World}
    (h : wpOp P ops Q i K a w) : wpOp P ops Q' i K' a w := by
  unfold wpOp at h ⊢
  split at h
  · exact hK _ _ h
  · rename_i o ho
    split at h
    · rename_i hw
      rw [if_pos hw]
      rcases h with h | ⟨h1, a0, w0, h2⟩
      · exact .inl (upon_mono hK hQ h)
      · exact .inr ⟨h1, a0, w0, hQ _ _ _ h2⟩
    · rename_i hw
      rw [if_neg hw]; exact hK _ _ h

theorem wpOps_mono' {ops : Array Oper} {Q Q' : Exit → Act → World → Prop} (hQ : ∀ e a w, Q e a w → Q' e a w) : ∀ (l : List Nat) (a : Act) (w : World), wpOps P ops Q l a w → wpOps P ops Q' l a w
  | [], a, w, h => hQ _ _ _ h
  | i :: r, a, w, h => by
    rw [wpOps_cons] at h ⊢
    exact wpOp_mono' (fun a w h => wpOps_mono' hQ r a w h) hQ h

theorem opsK_sound (hcall : ∀ f args m r, dir call f args m = some r → CallOk P L f args m r) {tk fl : Nat → Bool} {ops : Array Oper} {np : Nat} :
    ∀ {l : List Nat} {g : Gh} {st : St S} {a : Act} {w : World} {e : Ex S} {st' : St S}, Inv L g st a w → opsK P L call tk fl ops l st (fun e s => some (e, s)) = some (e, st') → wpOps P ops (ExOk L np g w e st') l a w
  | [], g, st, a, w, e, st', h, hk => by
    simp only [opsK, Option.some.injEq, Prod.mk.injEq] at hk
    obtain ⟨rfl, rfl⟩ := hk
    exact ⟨g, (Fr.refl g w).toN, rfl, h⟩
  | i :: r, g, st, a, w, e, st', h, hk => by
    simp only [opsK, opG_eq] at hk
    rw [opK_cps] at hk
    rw [wpOps_cons]
    cases ho : opK P L call (tk i) (fl i) ops i st some with
    | none => simp [ho] at hk
    | some out =>
      simp only [ho, Option.bind_some] at hk
      cases out with
      | ok ef =>
        simp only at hk
        obtain ⟨hfit, hk⟩ := cond_some hk
        refine opK_sound h hcall ho (fun e he => by cases he; exact hfit) ?_
        intro a' w' g' hI hF
        exact wpOps_mono' (fun _ _ _ hx => hx.trans hF.toN) _ _ _ (opsK_sound hcall hI hk)
      | pan p ef =>
        simp only [Option.some.injEq, Prod.mk.injEq] at hk
        obtain ⟨rfl, rfl⟩ := hk
        refine opK_sound h hcall ho (fun e he => by cases he) ?_
        intro w' v g' h1 h2 h3 h4
        exact ⟨g', h4.toN, v, rfl, h1, h2, h3, fun i => (h.slot i).1.strip.mono h4.gmono h4.βmono⟩

/-! ### Keeping and reserving cells -/

theorem Inv.reserve (h : Inv L g st a w) (n : Nat) : Inv L g (reserve st n) a w := by
  have hc : ∀ c, cellAt (st.mem ++ List.replicate n none) c = cellAt st.mem c := by
    intro c
    rw [cellAt_app]
    split
    · rfl
    · rename_i hc
      unfold cellAt
      rw [List.getElem?_eq_none (by omega : st.mem.length ≤ c)]
      by_cases h2 : c - st.mem.length < n
      · rw [List.getElem?_replicate, if_pos h2]
      · rw [List.getElem?_replicate, if_neg h2]
  exact ⟨h.size, h.slot, ⟨fun c ps hps => h.mem.cell c ps (by rw [← hc]; exact hps), fun c b hb => by
    obtain ⟨ps, hps⟩ := h.mem.dom c b hb
    exact ⟨ps, by show cellAt (st.mem ++ List.replicate n none) c = some ps; rw [hc]; exact hps⟩, h.mem.inj, h.mem.βG, h.mem.gs, h.mem.rt, h.mem.wok⟩, h.dfs⟩

mutual
theorem ren_id : ∀ p : PV S, p.ren (fun c => c) = p
  | .ptr c o => by simp [PV.ren]
  | .fn g a b => by simp [PV.ren, renL_id a, renL_id b]
  | .iface t x => by simp [PV.ren, ren_id x]
  | .agg l => by simp [PV.ren, renL_id l]
  | .tup l => by simp [PV.ren, renL_id l]
  | .mp c => by simp [PV.ren]
  | .lo k c n => by simp [PV.ren]
  | .d _ | .full _ _ | .own _ _ | .dp _ _ _ | .nilp | .nilfn | .nilif | .bot | .any | .nilmp | .mpo _ => by simp [PV.ren]
theorem renL_id : ∀ l : List (PV S), PV.renL (fun c => c) l = l
  | [] => by simp [PV.renL]
  | p :: r => by simp [PV.renL, ren_id p, renL_id r]
end

theorem PRel.sub {β β' : Nat → Option Nat} {G : Nat → Nat → Option Value} {p : PV S} {v : Value} (h : PRel L β G p v) (hf : ∀ c ∈ p.ptrs, ∀ b, β c = some b → β' c = some b) : PRel L β' G p v := by
  have := h.ren (f := fun c => c) hf
  rwa [ren_id] at this

theorem PRels.sub {β β' : Nat → Option Nat} {G : Nat → Nat → Option Value} {p : List (PV S)} {v : List Value} (h : PRels L β G p v) (hf : ∀ c ∈ PV.ptrsL p, ∀ b, β c = some b → β' c = some b) : PRels L β' G p v := by
  have := h.ren (f := fun c => c) hf
  rwa [renL_id] at this

theorem maxL_lt : ∀ {l : List Nat} {c : Nat}, c ∈ l → c < maxL l
  | d :: r, c, h => by
    simp at h
    simp only [maxL]
    rcases h with rfl | h
    · exact Nat.lt_of_lt_of_le (Nat.lt_succ_self _) (Nat.le_max_left _ _)
    · exact Nat.lt_of_lt_of_le (maxL_lt h) (Nat.le_max_right _ _)

theorem maxL_app : ∀ {l r : List Nat} {c : Nat}, c ∈ l ++ r → c < maxL (l ++ r) := maxL_lt

/-- The ghost without the cells from n on. -/
def Gh.cut (g : Gh) (n : Nat) : Gh := { g with β := fun c => if c < n then g.β c else none }

theorem cut_β {n c b : Nat} (h : (g.cut n).β c = some b) : c < n ∧ g.β c = some b := by
  change (if c < n then g.β c else none) = some b at h
  split at h
  · rename_i hc; exact ⟨hc, h⟩
  · cases h

theorem β_cut {n c b : Nat} (hc : c < n) (h : g.β c = some b) : (g.cut n).β c = some b := by
  show (if c < n then g.β c else none) = some b
  rw [if_pos hc]; exact h

theorem MemInv.cut {m : Mem S} (h : MemInv L g m w) {n : Nat} (hn : maxL (ptrsMem (m.take n)) ≤ n) : MemInv L (g.cut n) (m.take n) w := by
  have hc : ∀ c ps, cellAt (m.take n) c = some ps → c < n ∧ cellAt m c = some ps := by
    intro c ps hps
    have hlt := cellAt_lt hps
    simp at hlt
    have hcn : c < n := by omega
    exact ⟨hcn, by rw [← cellAt_take hcn]; exact hps⟩
  refine ⟨fun c ps hps => ?_, fun c b hb => ?_, fun c c' b h1 h2 => h.inj c c' b (cut_β h1).2 (cut_β h2).2, fun c b hb => h.βG c b (cut_β hb).2, h.gs, fun b r hr => ?_, h.wok_sub (fun c b hb => .inl ⟨c, (cut_β hb).2⟩) (fun _ _ _ h => h) (fun _ _ _ _ h => h)⟩
  · obtain ⟨hcn, hps'⟩ := hc c ps hps
    obtain ⟨b, vs, ty, e1, e2, e3, e4⟩ := h.cell c ps hps'
    refine ⟨b, vs, ty, β_cut hcn e1, e2, e3, fun j p hp => ?_⟩
    obtain ⟨v, hv, hvr⟩ := e4 j p hp
    refine ⟨v, hv, hvr.1.sub fun c' hc' b hb => β_cut ?_ hb, hvr.2⟩
    refine Nat.lt_of_lt_of_le (maxL_lt ?_) hn
    unfold ptrsMem
    refine List.mem_flatMap.2 ⟨some ps, ?_, ptrsL_get hp hc'⟩
    have : (m.take n)[c]? = some (some ps) := by
      unfold cellAt at hps
      split at hps
      · rename_i heq; cases hps; exact heq
      · cases hps
    exact List.mem_of_getElem? this
  · obtain ⟨hcn, hb'⟩ := cut_β hb
    obtain ⟨ps, hps⟩ := h.dom c b hb'
    exact ⟨ps, by rw [cellAt_take hcn]; exact hps⟩
  · obtain ⟨e1, e2, e3⟩ := h.rt b r hr
    exact ⟨fun c hb => e1 c (cut_β hb).2, e2, e3⟩

theorem FrN.cut {np n : Nat} (h : np ≤ n) : FrN np g w (g.cut n) w :=
  ⟨rfl, rfl, rfl, Nat.le_refl _, fun b _ _ hω => ⟨rfl, fun _ => rfl, hω⟩, fun _ _ _ h => h, fun c b hc hb => β_cut (by omega) hb, fun c b hb => .inl (cut_β hb).2⟩

theorem slotsOf_look (s : Nat → PV S) : ∀ (ks : List Nat) (i : Nat), slotsOf (ks.map fun i => (i, s i)) i = if i ∈ ks then s i else .any
  | [], i => by simp [slotsOf]
  | k :: ks, i => by
    simp only [List.map_cons, slotsOf]
    by_cases h : i = k
    · subst h; rw [upd_same]; simp
    · rw [upd_other _ _ h, slotsOf_look s ks i]; simp [h]

theorem DfRels.sub {β β' : Nat → Option Nat} {G : Nat → Nat → Option Value} {xs : List (FuncId × List (PV S))} {ds : List Deferred} (h : DfRels L β G xs ds)
    (hf : ∀ c ∈ xs.flatMap (fun d => PV.ptrsL d.2), ∀ b, β c = some b → β' c = some b) : DfRels L β' G xs ds := by
  induction h with
  | nil => exact .nil
  | cons h0 h1 _ ih =>
    obtain ⟨cap, vs, e1, e2, e3⟩ := h1
    refine .cons h0 ⟨cap, vs, e1, e2, e3.sub fun c hc => hf c ?_⟩ (ih fun c hc => hf c ?_)
    · simp only [List.flatMap_cons, List.mem_append]; exact .inl hc
    · simp only [List.flatMap_cons, List.mem_append]; exact .inr hc
  | mark _ ih =>
    refine .mark (ih fun c hc => hf c ?_)
    simp only [List.flatMap_cons, List.mem_append]; exact .inr hc

theorem Inv.keepOnly (h : Inv L g st a w) (np : Nat) (ks : Option (List Nat)) : ∃ g', Inv L g' (keepOnly np st ks) a w ∧ FrN np g w g' w := by
  cases ks with
  | none => exact ⟨g, h, (Fr.refl g w).toN⟩
  | some ks =>
    have hslots : ∀ i, SRel L g (.slot i) (slotsOf (ks.map fun i => (i, st.slots i)) i) (a.tmps.getD i undef) := by
      intro i
      rw [slotsOf_look]
      split
      · exact h.slot i
      · exact ⟨by simp only [PRel], trivial⟩
    unfold Ev.keepOnly
    simp only
    generalize hn : Nat.max np (maxL (PV.ptrsL ((ks.map fun i => (i, st.slots i)).map (·.2)) ++ st.dfs.flatMap fun d => PV.ptrsL d.2)) = n
    have hnp : np ≤ n := by rw [← hn]; exact Nat.le_max_left _ _
    have hmx : maxL (PV.ptrsL ((ks.map fun i => (i, st.slots i)).map (·.2)) ++ st.dfs.flatMap fun d => PV.ptrsL d.2) ≤ n := by rw [← hn]; exact Nat.le_max_right _ _
    split
    · rename_i hcut
      refine ⟨g.cut n, ⟨h.size, fun i => ?_, h.mem.cut hcut, h.dfs.sub fun c hc b hb => β_cut (Nat.lt_of_lt_of_le (maxL_lt (List.mem_append.2 (.inr hc))) hmx) hb⟩, FrN.cut hnp⟩
      have h1 := hslots i
      refine ⟨h1.1.sub fun c hc b hb => β_cut (Nat.lt_of_lt_of_le (maxL_lt (List.mem_append.2 (.inl ?_))) hmx) hb, h1.2⟩
      rw [slotsOf_look] at hc
      split at hc
      · rename_i hi
        obtain ⟨j, hj⟩ := List.getElem?_of_mem hi
        refine ptrsL_get (j := j) (p := st.slots i) ?_ hc
        simp [hj]
      · simp [PV.ptrs] at hc
    · exact ⟨g, ⟨h.size, hslots, h.mem, h.dfs⟩, (Fr.refl g w).toN⟩

end
end Go.Proofs.YtanfoijdfcnpoaaGreatDoor.Ev
