/- This file proves that the evaluator's statements keep the relation to the model's world; its condition is that of the program's functions called. -/
import Derived.Test.YtanfoijdfcnpoaaGreatDoorEvCp
import Derived.Scope
set_option linter.unusedVariables false
set_option linter.unusedSimpArgs false
namespace Go.Proofs.YtanfoijdfcnpoaaGreatDoor.Ev

section
variable {S : Sig} {P : Program} {L : Lay S} {call : CallT S} [Natural call] {g : Gh} {st : St S} {a : Act} {w : World}

theorem wpAny_monoQ {ops : Array Oper} {Q Q' : Exit → Act → World → Prop} (hQ : ∀ e a w, Q e a w → Q' e a w) {md : Region.Mode} : ∀ {n : Nat} {listed : Array Bool} {a : Act} {w : World},
    wpAny P md ops Q n listed a w → wpAny P md ops Q' n listed a w
  | 0, _, _, _, h => ⟨h.1, hQ _ _ _ h.2⟩
  | n + 1, _, _, _, h => ⟨fun hr => hQ _ _ _ (h.1 hr), fun i hi => wpOp_mono' (fun a w h => wpAny_monoQ hQ h) hQ (h.2 i hi)⟩

def nrm (m : Mem S) : Mem S := m.map fun | some v => some (v.map PV.norm1) | none => none

theorem cellAt_nrm (m : Mem S) (c : Nat) : cellAt (nrm m) c = (cellAt m c).map (List.map PV.norm1) := by
  unfold cellAt nrm
  rw [List.getElem?_map]
  cases h : m[c]? with
  | none => rfl
  | some v => cases v <;> rfl

theorem OwnOk.of_norm1 {ω : Nat → Option Rt} {pos : Pos} (p : PV S) (v : Value) : OwnOk L ω pos p.norm1 v := by
  cases p <;> simp [PV.norm1, OwnOk]

def VTy.nrm {ps : List (PV S)} : VTy ps → VTy (ps.map PV.norm1)
  | .cells t h => .cells t (by rw [noMap_map plain_norm1]; exact h)
  | .map x es k h hr => .map x es k (by rw [h]; rfl) hr
theorem VTy.nrm_obj {ps : List (PV S)} (ty : VTy ps) (vs : Array Value) : ty.nrm.obj vs = ty.obj vs := by cases ty <;> rfl

theorem MemInv.nrm {m : Mem S} (h : MemInv L g m w) : MemInv L g (nrm m) w where
  cell c ps hps := by
    rw [cellAt_nrm] at hps
    obtain ⟨qs, hqs, he⟩ := Option.map_eq_some_iff.1 hps
    obtain ⟨b, vs, ty, e1, e2, e3, e4⟩ := h.cell c qs hqs
    subst he
    refine ⟨b, vs, ty.nrm, e1, by rw [VTy.nrm_obj]; exact e2, by rw [e3, List.length_map], fun j p hp => ?_⟩
    rw [List.getElem?_map] at hp
    obtain ⟨q, hq, rfl⟩ := Option.map_eq_some_iff.1 hp
    obtain ⟨v, hv, hr⟩ := e4 j q hq
    exact ⟨v, hv, hr.1.norm1, OwnOk.of_norm1 _ _⟩
  dom c b hb := by
    obtain ⟨ps, hps⟩ := h.dom c b hb
    exact ⟨ps.map PV.norm1, by rw [cellAt_nrm, hps]; rfl⟩
  inj := h.inj
  βG := h.βG
  gs := h.gs
  rt := h.rt
  wok := h.wok

theorem maxL_le : ∀ {l : List Nat} {n : Nat}, (∀ c ∈ l, c < n) → maxL l ≤ n
  | [], n, _ => Nat.zero_le _
  | c :: r, n, h => by
    simp only [maxL]
    exact Nat.max_le.2 ⟨h c (by simp), maxL_le fun d hd => h d (by simp [hd])⟩

theorem any_sound (hcall : ∀ f args m r, dir call f args m = some r → CallOk P L f args m r) {tk fl : Nat → Bool} {ops : Array Oper} {np base : Nat} {e : Ex S} {st' : St S} :
    ∀ {n : Nat} {listed : Array Bool} {ex : Seen} {g : Gh} {st : St S} {a : Act} {w : World}, Inv L g st a w →
      AbsAny P L call tk fl ops np base (RR L e st') n listed ex st → wpAny P .any ops (ExOk L np g w e st') n listed a w
  | 0, listed, ex, g, st, a, w, h, hk => by
    obtain ⟨h1, h2, h3⟩ := hk
    subst h2
    rcases h3 with rfl | ⟨_, h3⟩
    · exact ⟨h1, g, (Fr.refl g w).toN, rfl, h⟩
    · exact ⟨h1, g, (Fr.refl g w).toN, rfl, h3 g a w h⟩
  | n + 1, listed, ex, g, st, a, w, h, hk => by
    refine ⟨fun hr => ?_, fun i hi => ?_⟩
    · obtain ⟨h2, h3⟩ := hk.1 hr
      subst h2
      rcases h3 with rfl | ⟨_, h3⟩
      · exact ⟨g, (Fr.refl g w).toN, rfl, h⟩
      · exact ⟨g, (Fr.refl g w).toN, rfl, h3 g a w h⟩
    · obtain ⟨_, out, ho, hrest⟩ := hk.2 i hi
      refine opK_sound h hcall ho (fun e he => by subst he; exact hrest.1) ?_
      cases out with
      | ok ef =>
        intro a' w' g' hI hF
        exact wpAny_monoQ (fun _ _ _ hx => hx.trans hF.toN) (any_sound hcall hI hrest.2)
      | pan p ef =>
        obtain ⟨hl, h2, h3⟩ := hrest
        subst h2
        rcases h3 with h3 | ⟨h3, _⟩
        rotate_left
        · cases h3
        subst h3
        intro w' v g' h1 h2 h3 h4
        unfold leftOk at hl
        simp only [Bool.and_eq_true, decide_eq_true_eq, Nat.ble_eq] at hl
        obtain ⟨hnp, hmx⟩ := hl
        have hlt : ∀ c, c ∈ p.ptrs ++ (ptrsMem ((st.panned ef).left ops base).mem ++ ((st.panned ef).left ops base).dfs.flatMap fun d => PV.ptrsL d.2) → c < base := fun c hc => Nat.lt_of_lt_of_le (maxL_lt hc) hmx
        have hmem : ((st.panned ef).left ops base).mem = (Ev.nrm (ef.apply st).mem).take base := by
          unfold St.left Ev.nrm St.panned
          simp only [List.map_take]
          rfl
        refine ⟨g'.cut base, h4.toN.trans (FrN.cut hnp), v, rfl, h1.sub fun c hc b hb => β_cut (hlt c ?_) hb, ?_, ?_, fun i => ?_⟩
        · exact List.mem_append.2 (.inl hc)
        · rw [hmem]
          refine h2.nrm.cut (maxL_le fun c hc => hlt c ?_)
          rw [← hmem] at hc
          exact List.mem_append.2 (.inr (List.mem_append.2 (.inl hc)))
        · exact h3.sub fun c hc b hb => β_cut (hlt c (List.mem_append.2 (.inr (List.mem_append.2 (.inr hc))))) hb
        · show PRel L (g'.cut base).β g'.G (bif written ops i then .any else bif Nat.ble (maxL ((st.panned ef).slots i).ptrs) base then (st.panned ef).slots i else .any) _
          cases written ops i with
          | true => simp only [cond_true, PRel]
          | false =>
            simp only [cond_false]
            cases hb : Nat.ble (maxL ((st.panned ef).slots i).ptrs) base with
            | false => simp only [cond_false, PRel]
            | true =>
              simp only [cond_true]
              exact ((h.slot i).1.strip.mono h4.gmono h4.βmono).sub fun c hc b hb' => β_cut (Nat.lt_of_lt_of_le (maxL_lt hc) (Nat.le_of_ble_eq_true hb)) hb'

theorem Inv.drawn (h : Inv L g st a w) (n : Nat) : Inv L g st a { w with drawn := n } :=
  ⟨h.size, h.slot, ⟨h.mem.cell, h.mem.dom, h.mem.inj, h.mem.βG, h.mem.gs, h.mem.rt, h.mem.wok⟩, h.dfs⟩

theorem FrN.drawn {np : Nat} {g0 : Gh} {w0 : World} (h : FrN np g0 w0 g w) (n : Nat) : FrN np g0 w0 g { w with drawn := n } :=
  ⟨h.os, h.tape, h.output, h.size, h.keep, h.gmono, h.βmono, h.βnew⟩

theorem regionK_sound (hm : P.follows .mixedOrders = true) (hcall : ∀ f args m r, dir call f args m = some r → CallOk P L f args m r) {H : Hints} {f np id : Nat} {ops : Array Oper} {draw : Bool} {e : Ex S} {st' : St S}
    (h : Inv L g st a w) (hk : regionK P L call H f np id ops draw st (fun e s => some (e, s)) = some (e, st')) : (Code.region id ops draw).wp P (ExOk L np g w e st') a w := by
  obtain ⟨g1, h1, hF⟩ := h.keepOnly np (H.keep f id)
  unfold regionK at hk
  simp only at hk
  cases draw with
  | true =>
    simp only [if_true] at hk
    refine wp_region_any hm ?_
    have hd : Down ops (Array.replicate ops.size false) := by
      intro k o hk
      simp only [Array.getD_eq_getD_getElem?, Array.getElem?_replicate] at hk
      split at hk <;> simp at hk
    have := drawK_any (base := (keepOnly np st (H.keep f id)).mem.length) hd rfl (by show _ ≤ ((keepOnly np st (H.keep f id)).mem ++ List.replicate _ none).length; rw [List.length_append]; omega) hk
    exact wpAny_monoQ (fun _ _ _ hx => hx.trans (hF.drawn _)) (any_sound hcall ((h1.reserve _).drawn _) this)
  | false =>
    simp only [Bool.false_eq_true, if_false] at hk
    refine wp_region ?_
    exact wpOps_mono' (fun _ _ _ hx => hx.trans hF) _ _ _ (opsK_sound hcall (h1.reserve _) hk)

/-! ### Statements -/

/-- An end that is not the text's end passes on. -/
theorem ExOk.passes {np : Nat} {e : Ex S} {st' : St S} {x : Exit} {a' : Act} {w' : World} {K : Act → World → Prop} {Q : Exit → Act → World → Prop} (he : e ≠ .normal) (h : ExOk L np g w e st' x a' w')
    (hQ : ExOk L np g w e st' x a' w' → Q x a' w') : Exit.then K Q x a' w' := by
  cases x with
  | normal =>
    obtain ⟨g', hF, h'⟩ := h
    cases e with
    | normal => exact absurd rfl he
    | exit id => exact absurd h'.1 (by simp)
    | ret => exact absurd h'.1 (by simp)
    | pan p => obtain ⟨v, h1, _⟩ := h'; cases h1
  | _ => exact hQ h

/-- The loop of a function with this first region. -/
def loopOf (P : Program) (f key : Nat) : Option Code :=
  match P.funcs[f]? with
  | some fn =>
    match fn.body with
    | some c => (loopsOf c).find? fun c => headOf c == some key
    | none => none
  | none => none

/-- What the evaluator was told of a loop holds. -/
def LoopOk (P : Program) (L : Lay S) (np : Nat) (c : Code) (st : St S) (r : Ex S × St S) : Prop :=
  ∀ g a w, Inv L g st a w → LoopWp P c (ExOk L np g w r.1 r.2) a w

theorem evK_sound (hm : P.follows .mixedOrders = true) (hcall : ∀ f args m r, dir call f args m = some r → CallOk P L f args m r) {LT : LoopT S} [NaturalL LT] {H : Hints} {f np : Nat}
    (hloop : ∀ key st r c, loopOf P f key = some c → dirL LT f np key st = some r → LoopOk P L np c st r) :
    ∀ {c : Code} {g : Gh} {st : St S} {a : Act} {w : World} {e : Ex S} {st' : St S}, (∀ c' ∈ loopsOf c, ∀ key, headOf c' = some key → loopOf P f key = some c') →
      Inv L g st a w → evK P L call LT H f np c st (fun e s => some (e, s)) = some (e, st') → c.wp P (ExOk L np g w e st') a w
  | .skip, g, st, a, w, e, st', hl, h, hk => by
    simp only [evK, Option.some.injEq, Prod.mk.injEq] at hk
    obtain ⟨rfl, rfl⟩ := hk
    exact wp_skip ⟨g, (Fr.refl g w).toN, rfl, h⟩
  | .label _, g, st, a, w, e, st', hl, h, hk => by
    simp only [evK, Option.some.injEq, Prod.mk.injEq] at hk
    obtain ⟨rfl, rfl⟩ := hk
    exact wp_label ⟨g, (Fr.refl g w).toN, rfl, h⟩
  | .region .., g, st, a, w, e, st', hl, h, hk => by
    simp only [evK] at hk
    exact regionK_sound hm hcall h hk
  | .seq x y, g, st, a, w, e, st', hl, h, hk => by
    simp only [loopsOf, List.mem_append] at hl
    simp only [evK] at hk
    cases hcp : copyOf x y with
    | some i => rw [hcp] at hk; exact copy_sound h hcp hk
    | none =>
    rw [hcp] at hk
    simp only at hk
    rw [evK_cps] at hk
    cases h1 : evK P L call LT H f np x st fun e s => some (e, s) with
    | none => simp [h1] at hk
    | some q =>
      obtain ⟨e1, s1⟩ := q
      simp only [h1, Option.bind_some] at hk
      refine wp_seq (wp_mono (evK_sound hm hcall hloop (fun c hc => hl c (.inl hc)) h h1) fun x1 a1 w1 hx => ?_)
      cases e1 with
      | normal =>
        simp only at hk
        obtain ⟨g1, hF, hx1, hI⟩ := hx
        subst hx1
        exact wp_mono (evK_sound hm hcall hloop (fun c hc => hl c (.inr hc)) hI hk) fun _ _ _ hx => hx.trans hF
      | _ =>
        cases hk
        exact hx.passes (by simp) fun hx => hx
  | .cond c x y, g, st, a, w, e, st', hl, h, hk => by
    simp only [loopsOf, List.mem_append] at hl
    simp only [evK] at hk
    split at hk
    · rename_i t ht
      refine wp_cond (rdB_rel h ht) ?_
      cases t with
      | true => exact evK_sound hm hcall hloop (fun c hc => hl c (.inl hc)) h hk
      | false => exact evK_sound hm hcall hloop (fun c hc => hl c (.inr hc)) h hk
    · cases hk
  | .block id c, g, st, a, w, e, st', hl, h, hk => by
    simp only [loopsOf] at hl
    simp only [evK] at hk
    rw [evK_cps] at hk
    cases h1 : evK P L call LT H f np c st fun e s => some (e, s) with
    | none => simp [h1] at hk
    | some q =>
      obtain ⟨e1, s1⟩ := q
      simp only [h1, Option.bind_some] at hk
      refine wp_block (wp_mono (evK_sound hm hcall hloop hl h h1) fun x1 a1 w1 hx => ?_)
      cases e1 with
      | exit i =>
        simp only at hk
        obtain ⟨g1, hF, hx1, hI⟩ := hx
        subst hx1
        simp only [Exit.inBlock]
        cases hb : Nat.beq i id with
        | true =>
          rw [hb] at hk
          have := Nat.eq_of_beq_eq_true hb
          rw [if_pos this]
          cases hk
          exact ⟨g1, hF, rfl, hI⟩
        | false =>
          rw [hb] at hk
          rw [if_neg (fun e => by subst e; simp at hb)]
          cases hk
          exact ⟨g1, hF, rfl, hI⟩
      | normal =>
        cases hk
        obtain ⟨g1, hF, hx1, hI⟩ := hx
        subst hx1
        exact ⟨g1, hF, rfl, hI⟩
      | ret =>
        cases hk
        obtain ⟨g1, hF, hx1, hI⟩ := hx
        subst hx1
        exact ⟨g1, hF, rfl, hI⟩
      | pan p =>
        cases hk
        obtain ⟨g1, hF, v, hx1, hI⟩ := hx
        subst hx1
        exact ⟨g1, hF, v, rfl, hI⟩
  | .loop c, g, st, a, w, e, st', hl, h, hk => by
    simp only [loopsOf, List.mem_cons, forall_eq_or_imp] at hl
    simp only [evK] at hk
    split at hk
    · rename_i key hkey
      exact LoopWp.loop (hloop key st (e, st') c (hl.1 key hkey) hk g a w h)
    · cases hk
  | .exit id, g, st, a, w, e, st', hl, h, hk => by
    simp only [evK, Option.some.injEq, Prod.mk.injEq] at hk
    obtain ⟨rfl, rfl⟩ := hk
    exact wp_exit ⟨g, (Fr.refl g w).toN, rfl, h⟩
  | .ret, g, st, a, w, e, st', hl, h, hk => by
    simp only [evK, Option.some.injEq, Prod.mk.injEq] at hk
    obtain ⟨rfl, rfl⟩ := hk
    exact wp_ret ⟨g, (Fr.refl g w).toN, rfl, h⟩
  | .scope c, g, st, a, w, e, st', hl, h, hk => by
    simp only [loopsOf] at hl
    simp only [evK] at hk
    refine wp_scope_straight (wp_mono (evK_sound hm hcall hloop hl h hk) fun x1 a1 w1 hx => ?_)
    have hng : ∀ l, x1 ≠ .goto l := by
      intro l hl
      subst hl
      obtain ⟨g1, hF, hx⟩ := hx
      cases e with
      | normal => cases hx.1
      | exit i => cases hx.1
      | ret => cases hx.1
      | pan p => obtain ⟨v, hx, _⟩ := hx; cases hx
    cases x1 <;> first | exact hx | exact absurd rfl (hng _)
  | .rangeFunc .., g, st, a, w, e, st', hl, h, hk => by simp [evK] at hk
  | .goto _, g, st, a, w, e, st', hl, h, hk => by simp [evK] at hk
  | .refuse _, g, st, a, w, e, st', hl, h, hk => by simp [evK] at hk

def nodupB : List (Option Nat) → Bool
  | [] => true
  | x :: r => !r.contains x && nodupB r

theorem find_head {key : Nat} {c : Code} (hh : headOf c = some key) : ∀ {l : List Code}, nodupB (l.map headOf) = true → c ∈ l → l.find? (fun c => headOf c == some key) = some c
  | [], _, h => by cases h
  | d :: r, hn, h => by
    simp only [List.map_cons, nodupB, Bool.and_eq_true] at hn
    simp only [List.find?_cons]
    rcases List.mem_cons.1 h with rfl | h
    · simp [hh]
    · have : headOf d ≠ some key := by
        intro e
        have h1 := hn.1
        simp only [Bool.not_eq_true', List.contains_eq_mem, decide_eq_false_iff_not] at h1
        exact h1 (List.mem_map.2 ⟨c, h, by rw [hh, e]⟩)
      have hb : (headOf d == some key) = false := by simp [this]
      rw [hb]
      exact find_head hh hn.2 h

end
end Go.Proofs.YtanfoijdfcnpoaaGreatDoor.Ev
