/- This file proves that the evaluator's append, defer and panic keep the relation to the model's world; without any condition. -/
import Derived.Test.YtdhpgcjhiommkaaDoorEvU
set_option linter.unusedVariables false
set_option linter.unusedSimpArgs false
namespace Go.Proofs.YtdhpgcjhiommkaaDoor.Ev

section
variable {S : Sig} {P : Program} {L : Lay S} {g : Gh} {st : St S} {a : Act} {w w' : World}

theorem DRel.one {G : Nat → Nat → Option Value} {d : DV S} {v : Value} (h : DRel L G d v) : v.oneCell' = true := by cases h <;> rfl

/-- A slice's cells, as a list. -/
theorem flat_cells {G : Nat → Nat → Option Value} {k : S.K} {l : List (S.El k)} {b o : Nat}
    (hrel : ∀ (i : Nat) (e : S.El k), l[i]? = some e → ∀ (j : Nat) (d : DV S), (L.cells k e)[j]? = some d → ∃ u, G b (o + i * L.sz k + j) = some u ∧ DRel L G d u) :
    ∃ flat : List Value, flat.length = l.length * L.sz k ∧ (∀ (j : Nat) (v : Value), flat[j]? = some v → G b (o + j) = some v ∧ v.oneCell' = true) ∧
      ∀ (i : Nat) (x : S.El k), l[i]? = some x → ∀ (j : Nat) (d : DV S), (L.cells k x)[j]? = some d → ∃ u, flat[i * L.sz k + j]? = some u ∧ DRel L G d u := by
  have get : ∀ q, q < l.length * L.sz k → ∃ u d, G b (o + q) = some u ∧ DRel L G d u := by
    intro q hq
    have hpos : 0 < L.sz k := by
      rcases Nat.eq_zero_or_pos (L.sz k) with h | h
      · rw [h] at hq; omega
      · exact h
    have hi : q / L.sz k < l.length := (Nat.div_lt_iff_lt_mul hpos).2 hq
    have hj : q % L.sz k < L.sz k := Nat.mod_lt _ hpos
    obtain ⟨u, hu, hr⟩ := hrel (q / L.sz k) _ (List.getElem?_eq_getElem hi) (q % L.sz k) _ (List.getElem?_eq_getElem (by rw [L.len]; exact hj))
    refine ⟨u, _, ?_, hr⟩
    rw [← hu]; congr 1
    have := Nat.div_add_mod q (L.sz k)
    rw [Nat.mul_comm] at this; omega
  refine ⟨(List.range (l.length * L.sz k)).map fun q => (G b (o + q)).getD undef, by simp, ?_, ?_⟩
  · intro j v hv
    have hj : j < l.length * L.sz k := by have := (List.getElem?_eq_some_iff.1 hv).1; simpa using this
    obtain ⟨u, d, hu, hr⟩ := get j hj
    simp [hj, hu] at hv
    subst hv
    exact ⟨hu, hr.one⟩
  · intro i x hx j d hd
    obtain ⟨u, hu, hr⟩ := hrel i x hx j d hd
    have hi : i < l.length := (List.getElem?_eq_some_iff.1 hx).1
    have hj : j < L.sz k := by have := (List.getElem?_eq_some_iff.1 hd).1; rwa [L.len] at this
    have hlt : i * L.sz k + j < l.length * L.sz k := by
      have : (i + 1) * L.sz k ≤ l.length * L.sz k := Nat.mul_le_mul_right _ hi
      rw [Nat.succ_mul] at this; omega
    refine ⟨u, ?_, hr⟩
    rw [List.getElem?_map, List.getElem?_range hlt]
    simp only [Option.map_some]
    rw [show o + (i * L.sz k + j) = o + i * L.sz k + j by omega, hu]; rfl

/-- What is appended: its cells. -/
theorem newEls_rel (h : MemInv L g st.mem w) {k : S.K} {q : PV S} {l' : List (S.El k)} (hn : newEls L k q = some l') {v : Value} (hv : PRel L g.β g.G q v) :
    ∃ flat : List Value, flat.length = l'.length * L.sz k ∧ (∀ u ∈ flat, u.oneCell' = true) ∧ (∀ w, (Builtin.lenOf v).run P w = .ok l'.length w) ∧
      (∀ w2 : World, w2.heap = w.heap → (Builtin.firstCells (L.sz k) l'.length v).run P w2 = .ok flat.toArray w2) ∧
      ∀ (i : Nat) (x : S.El k), l'[i]? = some x → ∀ (j : Nat) (d : DV S), (L.cells k x)[j]? = some d → ∃ u, flat[i * L.sz k + j]? = some u ∧ DRel L g.G d u := by
  unfold newEls at hn
  simp only at hn
  split at hn
  · rename_i k' l hd
    have hr := hv.dv hd
    split at hn
    · rename_i hk hk2
      subst hk
      cases hn
      rcases hr.sl_inv with ⟨rfl, rfl⟩ | ⟨rfl, ad, c, rfl⟩ | ⟨b, o, c, rfl, hc, hrel⟩
      · exact ⟨[], by simp, by simp, fun w => by simp [Builtin.lenOf], fun w2 _ => by simp [Builtin.firstCells], by simp⟩
      · exact ⟨[], by simp, by simp, fun w => by simp [Builtin.lenOf], fun w2 _ => by simp [Builtin.firstCells, loadCells, loadCellsFrom], by simp⟩
      · obtain ⟨flat, f1, f2, f3⟩ := flat_cells hrel
        refine ⟨flat, f1, fun u hu => ?_, fun w => by simp [Builtin.lenOf], fun w2 hw2 => ?_, f3⟩
        · obtain ⟨j, hj⟩ := List.getElem?_of_mem hu
          exact (f2 j u hj).2
        · refine run_firstCells_some w2 (L.sz k') l.length ⟨b, o, none⟩ _ _ flat f1 fun j v hv => ?_
          rw [add_mk]
          have := h.gs _ _ _ (f2 j v hv).1
          simpa [World.cell?, hw2] using this
    · cases hn
  · rename_i s hd
    have hr := hv.dv hd
    cases hr
    have hcell : ∀ (i : Nat) (x : S.El k), l'[i]? = some x → ∃ c, s.data.toList[i]? = some c ∧ L.cells k x = [.int .u8 c.toNat] := by
      intro i x hx
      have hlen : l'.length = s.data.toList.length := by
        clear hx
        generalize s.data.toList = bs at hn
        induction bs generalizing l' with
        | nil => simp at hn; subst hn; rfl
        | cons b r ih =>
          simp only [List.mapM_cons, Option.bind_eq_bind, Option.pure_def] at hn
          cases h1 : L.mkE k [.int .u8 b.toNat] with
          | none => simp [h1] at hn
          | some y =>
            cases h2 : r.mapM (fun b => L.mkE k [.int .u8 b.toNat]) with
            | none => simp [h1, h2] at hn
            | some r' => simp [h1, h2] at hn; subst hn; simp [ih h2]
      have hi : i < s.data.toList.length := by rw [← hlen]; exact (List.getElem?_eq_some_iff.1 hx).1
      obtain ⟨y, hy, hm⟩ := mapM_get hn (List.getElem?_eq_getElem hi)
      rw [hx] at hy; cases hy
      exact ⟨_, List.getElem?_eq_getElem hi, L.mk_cells _ _ _ hm⟩
    have hlen : l'.length = s.size := by
      have : l'.length = s.data.toList.length := by
        clear hcell
        generalize s.data.toList = bs at hn
        induction bs generalizing l' with
        | nil => simp at hn; subst hn; rfl
        | cons b r ih =>
          simp only [List.mapM_cons, Option.bind_eq_bind, Option.pure_def] at hn
          cases h1 : L.mkE k [.int .u8 b.toNat] with
          | none => simp [h1] at hn
          | some y =>
            cases h2 : r.mapM (fun b => L.mkE k [.int .u8 b.toNat]) with
            | none => simp [h1, h2] at hn
            | some r' => simp [h1, h2] at hn; subst hn; simp [ih h2]
      simpa using this
    have hsz : l' ≠ [] → L.sz k = 1 := by
      intro hne
      obtain ⟨x, r, rfl⟩ : ∃ x r, l' = x :: r := by cases l' with | nil => exact absurd rfl hne | cons x r => exact ⟨x, r, rfl⟩
      obtain ⟨c, _, hc⟩ := hcell 0 x rfl
      have := L.len k x; rw [hc] at this; simpa using this.symm
    refine ⟨s.data.toList.map fun b => .int .u8 b.toNat, ?_, ?_, fun w => by simp [Builtin.lenOf, hlen], fun w2 _ => ?_, ?_⟩
    · by_cases hne : l' = []
      · subst hne; simp only [List.length_nil] at hlen; simp only [List.length_map, List.length_nil, Nat.zero_mul, Array.length_toList]; exact hlen.symm
      · rw [hsz hne, Nat.mul_one, hlen]; simp
    · intro u hu; simp at hu; obtain ⟨b, _, rfl⟩ := hu; rfl
    · have : s.extract 0 l'.length = s := by rw [hlen]; simp
      simp [Builtin.firstCells, this]
      apply Array.ext'
      simp
    · intro i x hx j d hd
      obtain ⟨c, hc, hcl⟩ := hcell i x hx
      rw [hcl] at hd
      cases j with
      | succ j => simp at hd
      | zero =>
        simp at hd; subst hd
        refine ⟨.int .u8 c.toNat, ?_, .int _ _⟩
        rw [hsz (by rintro rfl; simp at hx), Nat.mul_one, Nat.add_zero, List.getElem?_map, hc]; rfl
  · cases hn

/-- The rights to a new block. -/
def Gh.addW (g : Gh) (N : Nat) (r : Rt) : Gh := { g with ω := fun b => if b = N then some r else g.ω b }

theorem appT_cases {u : TypeId} (hu : appT P u = true) : (∃ e', P.underlying u = some (.slice e')) ∨ P.underlying u = some .string := by
  unfold appT at hu
  split at hu
  · rename_i e' hu'; exact .inl ⟨e', hu'⟩
  · rename_i hu'; exact .inr hu'
  · cases hu

theorem run_append_fit (t u ty e : TypeId) (i : TypeInfo) (ht : P.underlying t = some (.slice e)) (hu : appT P u = true) (hi : P.info? e = some i)
    {base : Option Addr} {sLen sCap n : Nat} {x : Value} (hlen : ∀ w, (Builtin.lenOf x).run P w = .ok n w) {news : List Value}
    (hnew : ∀ w2 : World, w2.heap = w.heap → (Builtin.firstCells i.size n x).run P w2 = .ok news.toArray w2) (hfit : sLen + n ≤ sCap) {w1 : World}
    (hst : ∀ ad, base = some ad → (storeCells (ad.add (sLen * i.size)) news).run P w = .ok () w1) (hno : base = none → w1 = w) :
    (Builtin.append_ #[t, u] ty #[.slice base sLen sCap, x]).run P w = .ok (.slice base (sLen + n) sCap) w1 := by
  have h1 := hnew w rfl
  have h2 := hlen w
  cases base with
  | none =>
    cases hno rfl
    rcases appT_cases hu with ⟨e', hu'⟩ | hu' <;>
      simp [Builtin.append_, run_underlying ht, run_underlying hu', sizeOf, typeInfo, hi, h1, h2, hfit]
  | some ad =>
    have h3 := hst ad rfl
    rcases appT_cases hu with ⟨e', hu'⟩ | hu' <;>
      simp [Builtin.append_, run_underlying ht, run_underlying hu', sizeOf, typeInfo, hi, h1, h2, hfit, h3]

theorem run_append_grows (t u ty e : TypeId) (i : TypeInfo) (z : Value) (ht : P.underlying t = some (.slice e)) (hu : appT P u = true) (hi : P.info? e = some i) (hz : i.zero = some z)
    {base : Option Addr} {sLen sCap n : Nat} {x : Value} (hb1 : 1 ≤ i.bytes) (hb : (sLen + n) * i.bytes ≤ 140737488355328) (hlen : ∀ w, (Builtin.lenOf x).run P w = .ok n w)
    {olds news : List Value} (hold : ∀ w2 : World, w2.heap = w.heap → (Builtin.firstCells i.size sLen (.slice base sLen sCap)).run P w2 = .ok olds.toArray w2)
    (hnew : ∀ w2 : World, w2.heap = w.heap → (Builtin.firstCells i.size n x).run P w2 = .ok news.toArray w2) (hfit : ¬ sLen + n ≤ sCap) :
    (Builtin.append_ #[t, u] ty #[.slice base sLen sCap, x]).run P w = .ok (.slice (some ⟨w.heap.size, 0, none⟩) (sLen + n) (grownCap w (sLen + n) sCap e))
        (w.drew.alloc (.cells (olds ++ (news ++ (Builtin.zeroCells z.cells (grownCap w (sLen + n) sCap e - (sLen + n))).toList)).toArray e)) := by
  have h1 := hnew w.drew rfl
  have h2 := hlen w
  have h3 := hold w.drew rfl
  have hle : sLen + n ≤ 140737488355328 := Nat.le_trans (Nat.le_mul_of_pos_right _ hb1) hb
  have h0 : ¬ i.bytes = 0 := by omega
  have h48' : ¬ (281474976710656 < Builtin.nextslicecap (sLen + n) sCap * i.bytes) := by
    have := growslice_fits (need := sLen + n) (old := sCap) (bytes := i.bytes) (by omega) hb
    omega
  rcases appT_cases hu with ⟨e', hu'⟩ | hu' <;>
    (simp [Builtin.append_, run_underlying ht, run_underlying hu', sizeOf, typeInfo, zeroValue, hi, hz, h1, h2, hfit, h3, h0, h48', Question.forced, newRow, grownCap]; try (congr 2; apply Array.ext'; simp))

end
end Go.Proofs.YtdhpgcjhiommkaaDoor.Ev
