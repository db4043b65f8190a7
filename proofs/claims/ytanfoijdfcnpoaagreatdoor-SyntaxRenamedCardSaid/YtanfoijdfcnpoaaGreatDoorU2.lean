/- This file proves that the copy of a slice of strings is a slice of the call's own, in every world that the evaluator's relation allows; without any condition. -/
import Derived.Test.YtanfoijdfcnpoaaGreatDoorU0C
import Derived.Test.YtanfoijdfcnpoaaGreatDoorU1
set_option linter.unusedVariables false
set_option linter.unusedSimpArgs false
namespace Go.Proofs.YtanfoijdfcnpoaaGreatDoor.Ev
open Go.RowKit

section
variable {S : Sig} {L : Lay S} {g : Gh} {m : Mem S} {w w' : World}

theorem MemInv.rowAt (h : MemInv L g m w) (hb : Below w.heap.size w w') {blk : Nat} (hk : w.heap.size ≤ blk) {cur : Array Value} {ty : TypeId} (hc : w'.heap[blk]? = some (.cells cur ty (0, 0)))
    {vs : List Value} (hx : ∀ (o : Nat) (v : Value), vs[o]? = some v → cur[o]? = some v) : MemInv L (g.addG blk vs) m w' := by
  have h' : MemInv L g m w' := h.of_heap fun b hb' => hb.block b hb'
  refine ⟨fun c ps hc' => ?_, h'.dom, h'.inj, fun c b hcb o => ?_, fun b o v hv => ?_, fun b r hr => ?_, ?_⟩
  · obtain ⟨b, vs', ty', h1, h2, h3, h4⟩ := h'.cell c ps hc'
    refine ⟨b, vs', ty', h1, h2, h3, fun j p hp => ?_⟩
    obtain ⟨v, hv, hr, ho⟩ := h4 j p hp
    refine ⟨v, hv, hr.mono (fun b o v hv => ?_) (fun _ _ h => h), ho⟩
    show (if b = blk then _ else g.G b o) = some v
    rw [if_neg (by have := h.G_lt hv; omega)]; exact hv
  · show (if b = blk then _ else g.G b o) = none
    rw [if_neg (by have := h.β_lt hcb; omega)]; exact h.βG c b hcb o
  · change (if b = blk then vs[o]? else g.G b o) = some v at hv
    split at hv
    · rename_i e; subst e
      have h1 := hx o v hv
      simp [World.cell?, hc, h1]
    · exact h'.gs b o v hv
  · obtain ⟨h1, h2, h3⟩ := h'.rt b r hr
    refine ⟨h1, h2, fun o ho => ?_⟩
    show (if b = blk then _ else g.G b o) = none
    rw [if_neg (by have := h.ω_lt hr; omega)]; exact h3 o ho
  · exact h'.wok

theorem Fr.rowAt (h : MemInv L g m w) (hb : Below w.heap.size w w') {blk : Nat} (hk : w.heap.size ≤ blk) {vs : List Value} : Fr g w (g.addG blk vs) w' where
  os := hb.os
  tape := hb.tape
  output := hb.output
  size := hb.size
  keep b hb' _ hω := ⟨hb.block b hb', fun o => by show (if b = blk then _ else g.G b o) = _; rw [if_neg (by omega)], hω⟩
  gmono b o v hv := by
    show (if b = blk then _ else g.G b o) = some v
    rw [if_neg (by have := h.G_lt hv; omega)]; exact hv
  βmono _ _ h := h
  βnew _ _ h := .inl h
end

/-- A row of strings of the call's own, as the result. -/
theorem own_res {g : Gh} {w w' : World} (hm : MemInv lay g [] w) (hb : Below w.heap.size w w') {l : List ByteArray} {v : Value} (h : w'.ownsRow w.heap.size 9 1 v l.length (l.map Value.string)) (hne : v ≠ .slice none 0 0) :
    ∃ g', Fr g w g' w' ∧ MemInv lay g' [] w' ∧ PRel lay g'.β g'.G (.own Key.str l) v ∧ OwnOk lay g'.ω .res (.own Key.str l) v := by
  obtain ⟨hlen, ⟨h1, _⟩ | ⟨blk, cap, cur, rfl, hk, hc, hcap, _, hsz, htake⟩⟩ := h
  · exact absurd h1 hne
  · have hx : ∀ (o : Nat) (u : Value), (l.map Value.string)[o]? = some u → cur[o]? = some u := by
      intro o u hu
      rw [← htake, List.getElem?_take] at hu
      split at hu
      · rw [← Array.getElem?_toList]; exact hu
      · cases hu
    have hfix : lay.fixB blk = false := by
      cases hf : lay.fixB blk with
      | false => rfl
      | true =>
        obtain ⟨_, _, o, ho, _⟩ := hm.wok _ hf
        have := (Array.getElem?_eq_some_iff.1 ho).1
        omega
    have hm1 := hm.rowAt hb hk hc hx
    have hm2 := hm1.addW (N := blk) (r := ⟨.res, l.length, cap⟩) hfix
      (by
        show g.ω blk = none
        cases hw : g.ω blk with
        | none => rfl
        | some r => exact absurd (hm.ω_lt hw) (by omega))
      (fun c hcc => absurd (hm.β_lt (show g.β c = some blk from hcc)) (by omega)) hc (by show cap ≤ cur.size; omega)
      (fun o ho => by
        show (if blk = blk then (l.map Value.string)[o]? else _) = none
        rw [if_pos rfl, List.getElem?_eq_none]
        simp only [List.length_map]; exact ho)
    refine ⟨_, Fr.addW _ (Fr.rowAt hm hb hk) hk, hm2, ?_, ?_⟩
    · simp only [PRel]
      refine ⟨DRel.sl_mk hcap fun i x hx' j d hd => ?_, Plain.mk _ _ _ _⟩
      have hd' : [(DV.str x : DV sig)][j]? = some d := hd
      cases j with
      | zero =>
        simp at hd'; subst hd'
        refine ⟨.string x, ?_, .str _⟩
        show (if blk = blk then (l.map Value.string)[0 + i * lay.sz Key.str + 0]? else _) = _
        have e : 0 + i * lay.sz Key.str + 0 = i := by show 0 + i * 1 + 0 = i; omega
        rw [if_pos rfl, e, List.getElem?_map]
        exact congrArg (Option.map Value.string) (show (l : List ByteArray)[i]? = some (x : ByteArray) from hx')
      | succ j => simp at hd'
    · intro a n c hv hlt
      cases hv
      refine ⟨⟨.res, l.length, cap⟩, if_pos rfl, rfl, ?_, ?_⟩
      · show l.length = 0 + l.length * 1; omega
      · show 0 + cap * 1 ≤ cap; omega

theorem ok_clone (l : List ByteArray) (hl : l.length * 16 ≤ 140737488355328) : CallOk Tryz.prog lay 80 [.d (.sl Key.str l)] [] (.ret (.own Key.str l), []) := by
  intro g vs w hm hlen ha
  have hrel : PRels lay g.β g.G [.d (.sl Key.str l)] vs := PRels.of_get hlen fun i p hp => by
    obtain ⟨v, h1, h2⟩ := ha i p hp
    exact ⟨v, h1, h2.1⟩
  obtain ⟨v, rfl, hv⟩ := prels1 hrel
  simp only [PRel] at hv
  refine .inl ⟨enters fit1 80 (n := fnOf Tryz.prog 80) (c := textOf Tryz.prog 80) (by kernel_rfl) (by kernel_rfl) _ _, ?_⟩
  rcases hv.sl_inv with ⟨rfl, rfl⟩ | ⟨rfl, a, c, rfl⟩ | ⟨b, o, c, rfl, hc, hcells⟩
  · refine (Tryz.clone_nil 0 0 w).mono fun e w' ⟨he, hw⟩ => ?_
    subst hw
    refine ⟨g, Fr.refl g w', hm, _, he, ?_, ?_⟩
    · simp only [PRel]; exact ⟨.nil _, Plain.nil⟩
    · intro a n c hv; cases hv
  · refine (Tryz.clone_zero a c w).mono fun e w' ⟨v', he, hr, hne, hb⟩ => ?_
    obtain ⟨g', h1, h2, h3, h4⟩ := own_res (l := []) hm hb hr hne
    exact ⟨g', h1, h2, v', he, h3, h4⟩
  · refine (Tryz.clone b o l.length c l w (Nat.le_refl _) hl (fun j hj => ?_)).mono fun e w' ⟨v', he, hr, hne, hb⟩ => ?_
    · have hx : l[j]? = some (l.getD j ByteArray.empty) := by
        rw [List.getD_eq_getElem?_getD, List.getElem?_eq_getElem hj]; rfl
      obtain ⟨u, hu, hur⟩ := hcells j _ hx 0 (.str _) rfl
      cases hur
      have e : o + j * lay.sz Key.str + 0 = o + j := by show o + j * 1 + 0 = o + j; omega
      rw [e] at hu
      exact hm.gs _ _ _ hu
    · rw [List.take_length] at hr
      obtain ⟨g', h1, h2, h3, h4⟩ := own_res hm hb hr hne
      exact ⟨g', h1, h2, v', he, h3, h4⟩

theorem told80 (l : List ByteArray) : (∀ ρ (K : Res sig × Mem sig → Option ρ), toldClone l (fun x => K (.ret (.own Key.str x), [])) = none) ∨
    ∃ r, CallOk Tryz.prog lay 80 [.d (.sl Key.str l)] [] r ∧ ∀ ρ (K : Res sig × Mem sig → Option ρ), toldClone l (fun x => K (.ret (.own Key.str x), [])) = K r := by
  unfold toldClone
  by_cases h : l.length * 16 ≤ 140737488355328
  · simp only [h, decide_true, cond_true]
    exact .inr ⟨_, ok_clone l h, fun _ _ => rfl⟩
  · simp only [h, decide_false, cond_false]
    exact .inl fun _ _ => trivial

end Go.Proofs.YtanfoijdfcnpoaaGreatDoor.Ev
