/- This file proves that the evaluator's literals and appends keep the relation to the model's world; without any condition. -/
import Derived.Test.YtdhpgcjhiommkaaDoorEvT
import Derived.Laws.AppendOwn
set_option linter.unusedVariables false
set_option linter.unusedSimpArgs false
namespace Go.Proofs.YtdhpgcjhiommkaaDoor.Ev

section
variable {S : Sig} {P : Program} {L : Lay S} {g : Gh} {st : St S} {a : Act} {w w' : World}

/-! ### Struct literals -/

theorem foldl_setCells (cs vs : List Value) (off : Nat) (hl : off + vs.length ≤ cs.length) :
    ((vs.zipIdx.foldl (fun (c : Array Value) (x : Value × Nat) => c.setIfInBounds (off + x.2) x.1) cs.toArray).toList) = cs.take off ++ vs ++ cs.drop (off + vs.length) := by
  suffices h : ∀ (vs : List Value) (i : Nat) (cs : List Value), off + i + vs.length ≤ cs.length →
      ((vs.zipIdx i).foldl (fun (c : Array Value) (x : Value × Nat) => c.setIfInBounds (off + x.2) x.1) cs.toArray).toList = cs.take (off + i) ++ vs ++ cs.drop (off + i + vs.length) by
    simpa using h vs 0 cs (by simpa using hl)
  intro vs
  induction vs with
  | nil => intro i cs hl; simp
  | cons v r ih =>
    intro i cs hl
    simp only [List.zipIdx_cons, List.foldl_cons]
    have e : cs.toArray.setIfInBounds (off + i) v = (cs.set (off + i) v).toArray := by simp
    rw [e, ih (i + 1) (cs.set (off + i) v) (by simp at hl ⊢; omega)]
    apply List.ext_getElem?
    intro k
    have h1 : off + (i + 1) + r.length ≤ (cs.set (off + i) v).length := by simp at hl ⊢; omega
    have h2 : off + i + (v :: r).length ≤ cs.length := hl
    rw [putAtV_get h1, putAtV_get h2]
    simp only [List.length_cons, List.getElem?_set]
    by_cases c1 : k < off + i
    · simp [c1, show k < off + (i + 1) by omega, show off + i ≠ k by omega]
    · by_cases c2 : k = off + i
      · subst c2; simp [show off + i < cs.length by simp at hl; omega, show off + i < off + (i + 1) by omega]
      · simp [c1, show ¬ k < off + (i + 1) by omega, show k - (off + i) = (k - (off + (i + 1))) + 1 by omega, show off + i ≠ k by omega, show off + (i + 1) + r.length = off + i + (r.length + 1) by omega]

theorem mapM_get {α β : Type} {f : α → Option β} : ∀ {l : List α} {r : List β}, l.mapM f = some r → ∀ {i : Nat} {x : α}, l[i]? = some x → ∃ y, r[i]? = some y ∧ f x = some y
  | [], r, h, i, x, hx => by simp at hx
  | y :: l, r, h, i, x, hx => by
    simp only [List.mapM_cons, Option.bind_eq_bind, Option.pure_def] at h
    cases h1 : f y with
    | none => simp [h1] at h
    | some z =>
      cases h2 : l.mapM f with
      | none => simp [h1, h2] at h
      | some r' =>
        simp [h1, h2] at h; subst h
        cases i with
        | zero => simp at hx; subst hx; exact ⟨z, rfl, h1⟩
        | succ i => simp at hx; simpa using mapM_get h2 hx

theorem fill_rel (h : Inv L g st a w) {fs : List Field} {places : List (Nat × Nat)} (hpl : fs.mapM (fun f => (P.info? f.type).map fun i => (f.offset, i.size)) = some places) :
    ∀ {ps : List (Nat × Operand)} {cs cs' : List (PV S)} {vs : List Value}, fillB P L st fs ps cs = some cs' → PRels L g.β g.G cs vs →
      ∃ vs' : List Value, Instr.fill (places[·]?) vs.toArray (ps.map fun (i, x) => (i, a.eval x)) = some vs'.toArray ∧ PRels L g.β g.G cs' vs'
  | [], cs, cs', vs, hf, hr => by simp [fillB] at hf; subst hf; exact ⟨vs, rfl, hr⟩
  | (i, x) :: r, cs, cs', vs, hf, hr => by
    simp only [fillB] at hf
    cases hfi : fs[i]? with
    | none => simp [hfi] at hf
    | some f =>
      simp only [hfi] at hf
      cases hp : rd P L st f.type x with
      | none => simp [hp] at hf
      | some p =>
        cases hs : szT P f.type with
        | none => simp [hp, hs] at hf
        | some n =>
          simp only [hp, hs] at hf
          split at hf
          · rename_i hc
            obtain ⟨c1, c2, c3⟩ := hc
            obtain ⟨hcells, _⟩ := cells_of_one (rd_rel h hp).1 c3
            have hlen : (a.eval x).cells.toList.length = n := by rw [← hcells.length]; exact c1
            have hvl : vs.length = cs.length := hr.length.symm
            have hplace : places[i]? = some (f.offset, n) := by
              obtain ⟨y, e1, e2⟩ := mapM_get hpl hfi
              rw [e1]
              unfold szT at hs
              cases hi : P.info? f.type with
              | none => simp [hi] at hs
              | some i => simp [hi] at hs e2; rw [← e2, hs]
            have hr' : PRels L g.β g.G (putAt cs f.offset p.cells) (vs.take f.offset ++ (a.eval x).cells.toList ++ vs.drop (f.offset + (a.eval x).cells.toList.length)) := by
              refine PRels.of_get ?_ fun j q hq => ?_
              · rw [putAt_len (by omega)]; simp; simp at hlen; omega
              · rw [putAt_get (by omega)] at hq
                rw [putAtV_get (by omega), hlen]
                rw [c1] at hq
                split at hq
                · rename_i hj; rw [if_pos hj]; exact hr.get hq
                · rename_i hj
                  rw [if_neg hj]
                  split at hq
                  · rename_i hj2; rw [if_pos hj2]; exact hcells.get hq
                  · rename_i hj2; rw [if_neg hj2]; exact hr.get hq
            obtain ⟨vs', e1, e2⟩ := fill_rel h hpl hf hr'
            refine ⟨vs', ?_, e2⟩
            rw [List.map_cons]
            simp only [Instr.fill, hplace]
            have hsz : (a.eval x).cells.size = n := by simpa using hlen
            rw [if_neg (by simp [hsz]; omega)]
            rw [← e1]
            congr 1
            apply Array.ext'
            have := foldl_setCells vs (a.eval x).cells.toList f.offset (by omega)
            rw [← this]
            rw [← Array.foldl_toList, Array.toList_zipIdx]
          · cases hf

theorem all_places {fs : List Field} (h : (fs.all fun f => (szT P f.type).isSome) = true) : ∃ places, fs.mapM (fun f => (P.info? f.type).map fun i => (f.offset, i.size)) = some places := by
  induction fs with
  | nil => exact ⟨[], rfl⟩
  | cons f r ih =>
    simp only [List.all_cons, Bool.and_eq_true] at h
    obtain ⟨ps, hps⟩ := ih h.2
    unfold szT at h
    cases hi : P.info? f.type with
    | none => simp [hi] at h
    | some i => exact ⟨(f.offset, i.size) :: ps, by simp [hi, hps]⟩

theorem step_build (h : Inv L g st a w) {o : Oper} {t : TypeId} {ps : Array (Nat × Operand)} (ho : o.op = .build t ps) {fs : Array Field} (hu : P.underlying t = some (.struct fs)) {z : List (PV S)}
    (hz : zeroCells P L t = some z) (hall : (fs.toList.all fun f => (szT P f.type).isSome) = true) {cs : List (PV S)} (hf : fillB P L st fs.toList ps.toList z = some cs)
    (hd : fits st.nt (wr o.dst (.agg cs)) = true) : StepOk P L g w st o a (val o (.agg cs)) := by
  obtain ⟨it, zv, hi, hzz, hr, _, _, _⟩ := zeroCells_rel (β := g.β) (G := g.G) hz
  obtain ⟨places, hpl⟩ := all_places hall
  obtain ⟨vs', e1, e2⟩ := fill_rel h hpl hf hr
  refine step_val h hd (v := .agg vs'.toArray) ?_ (by simp only [PRel]; exact ⟨vs', rfl, e2⟩) rfl
  have hb : P.built t (ps.map fun (i, x) => (i, a.eval x)).toList = some vs'.toArray := by
    unfold Program.built
    simp only [hi, hu, hzz, hpl]
    rw [← e1]
    congr 1
    · funext i; simp
    · simp
  simp only [execOp, ho, Sem.run_bind, run_build w t _ _ hb, Result.andThen_ok, Sem.run_pure]

/-! ### Slice literals -/

theorem dvs_rel {β : Nat → Option Nat} {G : Nat → Nat → Option Value} : ∀ {ps : List (PV S)} {ds : List (DV S)} {vs : List Value}, dvs ps = some ds → PRels L β G ps vs →
    ∀ (j : Nat) (d : DV S), ds[j]? = some d → ∃ v, vs[j]? = some v ∧ DRel L G d v
  | [], ds, vs, h, hr, j, d, hd => by simp [dvs] at h; subst h; simp at hd
  | p :: ps, ds, [], h, hr, j, d, hd => by simp only [PRels] at hr
  | p :: ps, ds, v :: vs, h, hr, j, d, hd => by
    simp only [dvs] at h
    simp only [PRels] at hr
    cases h1 : p.dv? with
    | none => simp [h1] at h
    | some x =>
      cases h2 : dvs ps with
      | none => simp [h1, h2] at h
      | some r =>
        simp [h1, h2] at h; subst h
        cases j with
        | zero => simp at hd; subst hd; exact ⟨v, rfl, hr.1.dv h1⟩
        | succ j => simp at hd; simpa using dvs_rel h2 hr.2 j d hd

theorem dvs_one : ∀ {ps : List (PV S)} {ds : List (DV S)}, dvs ps = some ds → ps.all PV.one = true ∧ ds.length = ps.length
  | [], ds, h => by simp [dvs] at h; subst h; simp
  | p :: ps, ds, h => by
    simp only [dvs] at h
    cases h1 : p.dv? with
    | none => simp [h1] at h
    | some x =>
      cases h2 : dvs ps with
      | none => simp [h1, h2] at h
      | some r =>
        simp [h1, h2] at h; subst h
        obtain ⟨e1, e2⟩ := dvs_one h2
        refine ⟨?_, by simp [e2]⟩
        simp only [List.all_cons, e1, Bool.and_true]
        cases p <;> simp [PV.dv?] at h1 <;> rfl

theorem els_rel (h : Inv L g st a w) {e : TypeId} {k : S.K} : ∀ {ps : List (Nat × Operand)} {n : Nat} {l : List (S.El k)} {base : List Value}, elsB P L st e k n ps = some l → (n + ps.length) * L.sz k ≤ base.length →
    l.length = ps.length ∧ ∃ flat : List Value, flat.length = ps.length * L.sz k ∧
      Instr.fill (fun i => some (i * L.sz k, L.sz k)) base.toArray (ps.map fun (i, x) => (i, a.eval x)) = some (base.take (n * L.sz k) ++ flat ++ base.drop (n * L.sz k + flat.length)).toArray ∧
      ∀ (i : Nat) (x : S.El k), l[i]? = some x → ∀ (j : Nat) (d : DV S), (L.cells k x)[j]? = some d → ∃ u, flat[i * L.sz k + j]? = some u ∧ DRel L g.G d u
  | [], n, l, base, he, hb => by
    simp [elsB] at he; subst he
    exact ⟨rfl, [], by simp, by simp [Instr.fill], by simp⟩
  | (i, x) :: r, n, l, base, he, hb => by
    simp only [elsB] at he
    split at he
    · rename_i hin; subst hin
      cases hp : rd P L st e x with
      | none => simp [hp] at he
      | some p =>
        cases hds : dvs p.cells with
        | none => simp [hp, hds] at he
        | some ds =>
          cases hx : L.mkE k ds with
          | none => simp [hp, hds, hx] at he
          | some el =>
            cases hr : elsB P L st e k (i + 1) r with
            | none => simp [hp, hds, hx, hr] at he
            | some l' =>
              simp [hp, hds, hx, hr] at he; subst he
              obtain ⟨d1, d2⟩ := dvs_one hds
              obtain ⟨hc1, hc2⟩ := cells_of_one (rd_rel h hp).1 d1
              have hcel := L.mk_cells k ds el hx
              have hsz : (a.eval x).cells.toList.length = L.sz k := by
                rw [← hc1.length, ← d2, ← hcel]; exact L.len k el
              simp only [List.length_cons] at hb
              have hb1 : i * L.sz k + L.sz k ≤ base.length := by
                refine Nat.le_trans ?_ hb
                rw [← Nat.succ_mul]; exact Nat.mul_le_mul_right _ (by omega)
              let base' := base.take (i * L.sz k) ++ (a.eval x).cells.toList ++ base.drop (i * L.sz k + (a.eval x).cells.toList.length)
              have hbl : base'.length = base.length := by simp [base']; simp at hsz; omega
              obtain ⟨e1, flat, e2, e3, e4⟩ := els_rel h (base := base') hr (by rw [hbl, Nat.add_assoc, Nat.add_comm 1]; exact hb)
              refine ⟨by simp [e1], (a.eval x).cells.toList ++ flat, by simp only [List.length_append, List.length_cons, e2, hsz, Nat.succ_mul]; omega, ?_, ?_⟩
              · rw [List.map_cons]
                simp only [Instr.fill]
                have hsz' : (a.eval x).cells.size = L.sz k := by simpa using hsz
                rw [if_neg (by simp [hsz']; omega)]
                have hfold : (a.eval x).cells.zipIdx.foldl (fun (cs : Array Value) (x : Value × Nat) => cs.setIfInBounds (i * L.sz k + x.2) x.1) base.toArray = base'.toArray := by
                  apply Array.ext'
                  rw [← Array.foldl_toList, Array.toList_zipIdx, foldl_setCells base (a.eval x).cells.toList (i * L.sz k) (by omega)]
                rw [show (a.eval x).cells.zipIdx.foldl _ base.toArray = base'.toArray from hfold, e3]
                congr 2
                have hk : (i + 1) * L.sz k = i * L.sz k + L.sz k := Nat.succ_mul _ _
                apply List.ext_getElem?
                intro q
                have hfl : (i + 1) * L.sz k + flat.length ≤ base'.length := by
                  rw [hbl, e2, hk]
                  have : (i + (r.length + 1)) * L.sz k = i * L.sz k + L.sz k + r.length * L.sz k := by rw [Nat.add_mul, Nat.succ_mul]; omega
                  omega
                have hfl2 : i * L.sz k + ((a.eval x).cells.toList ++ flat).length ≤ base.length := by
                  rw [hbl] at hfl
                  simp only [List.length_append, hsz]; omega
                rw [putAtV_get hfl, putAtV_get hfl2, List.length_append, hsz, hk]
                have hb1' : i * L.sz k + (a.eval x).cells.toList.length ≤ base.length := by omega
                have hb' : ∀ q, base'[q]? = if q < i * L.sz k then base[q]? else if q < i * L.sz k + (a.eval x).cells.toList.length then (a.eval x).cells.toList[q - i * L.sz k]? else base[q]? := fun q => putAtV_get hb1'
                rw [hsz] at hb'
                by_cases c1 : q < i * L.sz k
                · rw [if_pos (by omega), hb' q, if_pos c1, if_pos c1]
                · by_cases c2 : q < i * L.sz k + L.sz k
                  · rw [if_pos c2, hb' q, if_neg c1, if_pos c2, if_neg c1, if_pos (by omega), List.getElem?_append_left (by omega)]
                  · rw [if_neg c2, if_neg c1]
                    by_cases c3 : q < i * L.sz k + L.sz k + flat.length
                    · rw [if_pos c3, if_pos (by omega), List.getElem?_append_right (by omega), hsz]
                      congr 1; omega
                    · rw [if_neg c3, if_neg (by omega), hb' q, if_neg c1, if_neg c2]
              · intro i' y hy j d hd
                cases i' with
                | zero =>
                  simp at hy; subst hy
                  rw [hcel] at hd
                  obtain ⟨v, hv, hvr⟩ := dvs_rel hds hc1 j d hd
                  refine ⟨v, ?_, hvr⟩
                  rw [Nat.zero_mul, Nat.zero_add, List.getElem?_append_left (List.getElem?_eq_some_iff.1 hv).1]; exact hv
                | succ i' =>
                  simp at hy
                  obtain ⟨u, hu, hur⟩ := e4 i' y hy j d hd
                  refine ⟨u, ?_, hur⟩
                  rw [List.getElem?_append_right (by rw [hsz, Nat.succ_mul]; omega), hsz, ← hu]
                  congr 1; rw [Nat.succ_mul]; omega
    · cases he

theorem step_buildSlice (h : Inv L g st a w) {o : Oper} {t : TypeId} {n : Nat} {ps : Array (Nat × Operand)} (ho : o.op = .buildSlice t n ps) {e : TypeId} (hu : P.underlying t = some (.slice e)) {k : S.K}
    (hs : szT P e = some (L.sz k)) (hn : ps.size = n) (hsm : n * L.sz k ≤ 1000) (hz : ((P.info? e).bind (·.zero)).isSome = true) {l : List (S.El k)} (hl : elsB P L st e k 0 ps.toList = some l)
    (hd : fits st.nt (wr o.dst (.full k l)) = true) : StepOk P L g w st o a (val o (.full k l)) := by
  intro K Q hK
  cases hi : P.info? e with
  | none => simp [hi] at hz
  | some it =>
    cases hzz : it.zero with
    | none => simp [hi, hzz] at hz
    | some z =>
      have hsize : it.size = L.sz k := by simpa [szT, hi] using hs
      let zc : Array Value := if n * L.sz k = 0 then #[] else z.cells
      let base : List Value := ((Array.range (n * L.sz k)).map (zc[· % zc.size]!)).toList
      have hbl : base.length = n * L.sz k := by simp [base]
      have hpl : ps.toList.length = n := by simpa using hn
      obtain ⟨e1, flat, e2, e3, e4⟩ := els_rel h (base := base) hl (by rw [hbl, hpl, Nat.zero_add]; omega)
      rw [hpl] at e1 e2
      have hfull : base.take (0 * L.sz k) ++ flat ++ base.drop (0 * L.sz k + flat.length) = flat := by
        rw [Nat.zero_mul, List.take_zero, List.nil_append, Nat.zero_add, List.drop_eq_nil_of_le (by omega), List.append_nil]
      rw [hfull] at e3
      have hrun : (execOp a.eval o).run P w = .ok (.value (.slice (some ⟨w.heap.size, 0, none⟩) n n)) (w.alloc (.cells flat.toArray e)) := by
        have hb : (Instr.buildSlice t n (ps.map fun (i, x) => (i, a.eval x))).run P w = .ok (.slice (some ⟨w.heap.size, 0, none⟩) n n) (w.alloc (.cells flat.toArray e)) := by
          have hsmall : ¬ n * it.size > 2 ^ 24 := by rw [hsize]; omega
          have h3 : Instr.fill (fun i => some (i * it.size, it.size)) ((Array.range (n * it.size)).map (zc[· % zc.size]!)) (ps.map fun (i, x) => (i, a.eval x)).toList = some flat.toArray := by
            rw [hsize, ← e3]
            congr 1
            simp
          unfold Instr.buildSlice
          by_cases h0 : n * it.size = 0
          · have hz0 : zc = #[] := by simp only [zc]; rw [if_pos (by rw [← hsize]; exact h0)]
            rw [hz0] at h3
            simp only [Sem.run_bind, run_underlying hu, Result.andThen_ok, sizeOf, typeInfo, run_program, hi, Sem.run_pure, if_neg hsmall, if_pos h0, h3, newRow, run_newObj, World.alloc_eq]
          · have hz0 : zc = z.cells := by simp only [zc]; rw [if_neg (by rw [← hsize]; exact h0)]
            rw [hz0] at h3
            simp only [Sem.run_bind, run_underlying hu, Result.andThen_ok, sizeOf, typeInfo, run_program, hi, Sem.run_pure, if_neg hsmall, if_neg h0, zeroValue, hzz, h3, newRow, run_newObj, World.alloc_eq]
        simp only [execOp, ho, Sem.run_bind, hb, Result.andThen_ok, Sem.run_pure]
      unfold Oper.wp
      rw [hrun, Oper.upon_value]
      have hm := h.mem.addG (vs := flat) (xs := flat.toArray) (e := e) (fun o v hv => by simpa using hv)
      have hI := h.of_mono (g' := g.addG w.heap.size flat) h.mem.G_mono (fun _ _ h => h) (fun _ _ _ h => h.2) hm
      refine hK _ _ (g.addG w.heap.size flat) ?_ (Fr.addG h.mem)
      rw [apply_val]
      cases hdst : o.dst with
      | none => exact hI
      | some d =>
        rw [hdst] at hd
        refine hI.put (fits_wr (dst := some d) (p := .full k l) hd d rfl) ?_ trivial
        simp only [PRel]
        refine ⟨?_, by intro a n c e; cases e; rfl, Plain.mk _ _ _ _⟩
        rw [← e1]
        refine DRel.sl_mk (Nat.le_refl _) fun i x hx j dd hdd => ?_
        obtain ⟨u, hu', hur⟩ := e4 i x hx j dd hdd
        refine ⟨u, ?_, hur.mono h.mem.G_mono⟩
        show (if w.heap.size = w.heap.size then flat[0 + i * L.sz k + j]? else _) = some u
        rw [if_pos rfl, Nat.zero_add]; exact hu'

end
end Go.Proofs.YtdhpgcjhiommkaaDoor.Ev
