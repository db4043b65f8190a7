/- This file proves the evaluator sound with tables of calls and loops, level by level; its conditions are those of the functions whose answers it was told. -/
import Derived.Test.YtanfoijdfcnpoaaGreatDoorEvJ
set_option linter.unusedVariables false
set_option linter.unusedSimpArgs false
namespace Go.Proofs.YtanfoijdfcnpoaaGreatDoor.Ev

/-- How a value is seen at a loop's head or end. -/
inductive Mode
  | raw
  | own
  | norm

section
variable {S : Sig}

def Mode.ap : Mode → PV S → PV S
  | .raw, p => p
  | .own, .full k l => .own k l
  | .own, p => p
  | .norm, p => p.norm

def modesV : List Mode → List (PV S) → List (PV S)
  | md :: ms, p :: r => md.ap p :: modesV ms r
  | [], l => l
  | _ :: _, [] => []

def modesM : List (List Mode) → Mem S → Mem S
  | md :: ms, some v :: r => some (modesV md v) :: modesM ms r
  | _ :: ms, none :: r => none :: modesM ms r
  | [], m => m
  | _ :: _, [] => []

/-- What is seen: slots and cells. -/
abbrev Seen2 := List (Nat × Mode) × List (List Mode)

def park (np : Nat) (sp : Seen2) (extra : List Nat) (st : St S) : St S :=
  let sl := sp.1.map fun x => (x.1, x.2.ap (st.slots x.1))
  let n := Nat.max np (maxL (PV.ptrsL (sl.map (·.2)) ++ (extra ++ st.dfs.flatMap fun d => PV.ptrsL d.2)))
  { slots := slotsOf sl
    mem := modesM sp.2 (if maxL (ptrsMem (st.mem.take n)) ≤ n then st.mem.take n else st.mem)
    dfs := st.dfs
    nt := st.nt
    rb := 0 }

def kindOf : Ex S → Nat
  | .normal => 0
  | .ret => 1
  | .pan _ => 2
  | .exit id => id + 3

def ptrsE : Ex S → List Nat
  | .pan p => p.ptrs
  | _ => []

/-- What is seen at loops' heads and ends. -/
abbrev Parks := FuncId → Nat → Nat → Nat → Seen2

def parkE (PK : Parks) (f np key : Nat) (e : Ex S) (st : St S) : St S := park np (PK f np key (kindOf e)) (ptrsE e) st

/-- What follows a round. -/
def loopNext {ρ : Type} (LT : LoopT S) (PK : Parks) (f np key : Nat) (K : Ex S → St S → Option ρ) (e : Ex S) (st : St S) : Option ρ :=
  match e with
  | .normal => LT ρ f np key st K
  | e => K e (parkE PK f np key e st)

variable {P : Program} {L : Lay S} {g : Gh} {st : St S} {a : Act} {w : World}

theorem PRel.ap {β : Nat → Option Nat} {G : Nat → Nat → Option Value} {p : PV S} {v : Value} (md : Mode) (h : PRel L β G p v) : PRel L β G (md.ap p) v := by
  cases md with
  | raw => exact h
  | norm => exact h.norm
  | own =>
    cases p <;> first
      | exact h
      | (simp only [Mode.ap, PRel] at h ⊢; exact ⟨h.1, h.2.2⟩)

theorem SRel.ap {pos : Pos} {p : PV S} {v : Value} (md : Mode) (h : SRel L g pos p v) : SRel L g pos (md.ap p) v := by
  refine ⟨h.1.ap md, ?_⟩
  cases md with
  | raw => exact h.2
  | norm => exact OwnOk.of_norm _ _
  | own =>
    cases p <;> first
      | exact h.2
      | (have h1 := h.1
         simp only [PRel] at h1
         intro a n c hv hlt
         have := h1.2.1 _ _ _ hv
         omega)

theorem modesV_len : ∀ (ms : List Mode) (l : List (PV S)), (modesV ms l).length = l.length
  | [], _ => rfl
  | _ :: _, [] => rfl
  | _ :: ms, _ :: r => by simp [modesV, modesV_len ms r]

theorem modesV_get : ∀ (ms : List Mode) (l : List (PV S)) (j : Nat) (p : PV S), (modesV ms l)[j]? = some p → ∃ md q, l[j]? = some q ∧ p = Mode.ap md q
  | [], l, j, p, h => ⟨.raw, p, h, rfl⟩
  | _ :: _, [], j, p, h => by simp [modesV] at h
  | md :: ms, q :: r, 0, p, h => by simp [modesV] at h; exact ⟨md, q, rfl, h.symm⟩
  | md :: ms, q :: r, j + 1, p, h => by simp [modesV] at h; simpa using modesV_get ms r j p h

theorem cellAt_cons (x : Option (List (PV S))) (r : Mem S) (c : Nat) : cellAt (x :: r) (c + 1) = cellAt r c := by simp [cellAt]

theorem cellAt_modes : ∀ (ms : List (List Mode)) (m : Mem S) (c : Nat), ∃ md, cellAt (modesM ms m) c = (cellAt m c).map (modesV md)
  | [], m, c => ⟨[], by
    have : (fun l => modesV ([] : List Mode) l) = (id : List (PV S) → List (PV S)) := by funext l; rfl
    show cellAt m c = _
    rw [show (modesV [] : List (PV S) → List (PV S)) = id from this]; simp⟩
  | _ :: _, [], c => ⟨[], by simp [modesM, cellAt]⟩
  | md :: ms, some v :: r, 0 => ⟨md, rfl⟩
  | md :: ms, none :: r, 0 => ⟨md, rfl⟩
  | md :: ms, some v :: r, c + 1 => by
    obtain ⟨md', h⟩ := cellAt_modes ms r c
    exact ⟨md', by simp only [modesM, cellAt_cons]; exact h⟩
  | md :: ms, none :: r, c + 1 => by
    obtain ⟨md', h⟩ := cellAt_modes ms r c
    exact ⟨md', by simp only [modesM, cellAt_cons]; exact h⟩

theorem plain_ap (md : Mode) (p : PV S) : (md.ap p).plain = p.plain := by cases md <;> cases p <;> rfl

theorem noMap_modes : ∀ (ms : List Mode) (l : List (PV S)), noMap (modesV ms l) = noMap l
  | [], _ => rfl
  | _ :: _, [] => rfl
  | md :: ms, p :: r => by
    have := noMap_modes ms r
    simp only [noMap, modesV, List.all_cons, plain_ap] at this ⊢
    rw [this]

theorem modes_mpo (ms : List Mode) (x : MapC) : modesV ms [(.mpo x : PV S)] = [.mpo x] := by
  cases ms with
  | nil => rfl
  | cons md ms => cases md <;> cases ms <;> rfl

def VTy.modes (ms : List Mode) {ps : List (PV S)} : VTy ps → VTy (modesV ms ps)
  | .cells t h => .cells t (by rw [noMap_modes]; exact h)
  | .map x es k h hr => .map x es k (by rw [h]; exact modes_mpo ms x) hr
theorem VTy.modes_obj (ms : List Mode) {ps : List (PV S)} (ty : VTy ps) (vs : Array Value) : (ty.modes ms).obj vs = ty.obj vs := by cases ty <;> rfl

theorem MemInv.modes {m : Mem S} (h : MemInv L g m w) (ms : List (List Mode)) : MemInv L g (modesM ms m) w where
  cell c ps hps := by
    obtain ⟨md, he⟩ := cellAt_modes ms m c
    rw [he] at hps
    obtain ⟨qs, hqs, rfl⟩ := Option.map_eq_some_iff.1 hps
    obtain ⟨b, vs, ty, e1, e2, e3, e4⟩ := h.cell c qs hqs
    refine ⟨b, vs, ty.modes md, e1, by rw [VTy.modes_obj]; exact e2, by rw [e3, modesV_len], fun j p hp => ?_⟩
    obtain ⟨md', q, hq, rfl⟩ := modesV_get _ _ _ _ hp
    obtain ⟨v, hv, hr⟩ := e4 j q hq
    exact ⟨v, hv, hr.ap md'⟩
  dom c b hb := by
    obtain ⟨md, he⟩ := cellAt_modes ms m c
    obtain ⟨ps, hps⟩ := h.dom c b hb
    exact ⟨modesV md ps, by rw [he, hps]; rfl⟩
  inj := h.inj
  βG := h.βG
  gs := h.gs
  rt := h.rt
  wok := h.wok

theorem slotsOf_ap (s : Nat → PV S) : ∀ (ks : List (Nat × Mode)) (i : Nat), (slotsOf (ks.map fun x => (x.1, x.2.ap (s x.1))) i = .any) ∨ ∃ md, (i, md) ∈ ks ∧ slotsOf (ks.map fun x => (x.1, x.2.ap (s x.1))) i = md.ap (s i)
  | [], i => .inl rfl
  | (k, md) :: ks, i => by
    simp only [List.map_cons, slotsOf]
    by_cases h : i = k
    · subst h; rw [upd_same]; exact .inr ⟨md, by simp, rfl⟩
    · rw [upd_other _ _ h]
      rcases slotsOf_ap s ks i with h' | ⟨md', h1, h2⟩
      · exact .inl h'
      · exact .inr ⟨md', by simp [h1], h2⟩

/-- What is seen of slots and cells keeps the relation. -/
theorem park_core (np : Nat) (sp : Seen2) (extra : List Nat) (hm : MemInv L g st.mem w) {ds : List Deferred} (hd : DfRels L g.β g.G st.dfs ds) :
    ∃ g', FrN np g w g' w ∧ MemInv L g' (park np sp extra st).mem w ∧ DfRels L g'.β g'.G st.dfs ds ∧ g'.G = g.G ∧ g'.ω = g.ω ∧
      (∀ p v, (∀ c ∈ p.ptrs, c ∈ extra) → PRel L g.β g.G p v → PRel L g'.β g'.G p v) ∧
      ∀ i v, PRel L g.β g.G (st.slots i) v → PRel L g'.β g'.G ((park np sp extra st).slots i) v := by
  unfold park
  simp only
  generalize hn : Nat.max np (maxL (PV.ptrsL ((sp.1.map fun x => (x.1, x.2.ap (st.slots x.1))).map (·.2)) ++ (extra ++ st.dfs.flatMap fun d => PV.ptrsL d.2))) = n
  have hnp : np ≤ n := by rw [← hn]; exact Nat.le_max_left _ _
  have hmx : maxL (PV.ptrsL ((sp.1.map fun x => (x.1, x.2.ap (st.slots x.1))).map (·.2)) ++ (extra ++ st.dfs.flatMap fun d => PV.ptrsL d.2)) ≤ n := by rw [← hn]; exact Nat.le_max_right _ _
  have hlt := fun c hc => Nat.lt_of_lt_of_le (maxL_lt (c := c) hc) hmx
  split
  · rename_i hcut
    refine ⟨g.cut n, FrN.cut hnp, (hm.cut hcut).modes _, hd.sub fun c hc b hb => β_cut (hlt c (by simp only [List.mem_append]; exact .inr (.inr hc))) hb, rfl, rfl, fun p v hp h => h.sub fun c hc b hb => β_cut (hlt c (by simp only [List.mem_append]; exact .inr (.inl (hp c hc)))) hb, fun i v h => ?_⟩
    rcases slotsOf_ap st.slots sp.1 i with h' | ⟨md, h1, h2⟩
    · rw [h']; simp only [PRel]
    · rw [h2]
      refine (h.ap md).sub fun c hc b hb => β_cut (hlt c (List.mem_append.2 (.inl ?_))) hb
      obtain ⟨j, hj⟩ := List.getElem?_of_mem h1
      exact ptrsL_get (j := j) (p := md.ap (st.slots i)) (by simp [hj]) hc
  · refine ⟨g, (Fr.refl g w).toN, hm.modes _, hd, rfl, rfl, fun _ _ _ h => h, fun i v h => ?_⟩
    rcases slotsOf_ap st.slots sp.1 i with h' | ⟨md, h1, h2⟩
    · rw [h']; simp only [PRel]
    · rw [h2]; exact h.ap md

theorem Inv.park (h : Inv L g st a w) (np : Nat) (sp : Seen2) (extra : List Nat) : ∃ g', Inv L g' (park np sp extra st) a w ∧ FrN np g w g' w := by
  obtain ⟨g', h1, h2, h3, h4, h5, h6, h7⟩ := park_core np sp extra h.mem h.dfs
  refine ⟨g', ⟨h.size, fun i => ⟨h7 i _ (h.slot i).1, ?_⟩, h2, h3⟩, h1⟩
  rw [h5]
  show OwnOk L g.ω (.slot i) (slotsOf (sp.1.map fun x => (x.1, x.2.ap (st.slots x.1))) i) _
  rcases slotsOf_ap st.slots sp.1 i with h' | ⟨md, _, h8⟩
  · rw [h']; trivial
  · rw [h8]; exact ((h.slot i).ap md).2

theorem ExOk.park {np : Nat} {e : Ex S} {x : Exit} {w0 : World} {g0 : Gh} (h : ExOk L np g0 w0 e st x a w) (PK : Parks) (f key : Nat) : ExOk L np g0 w0 e (parkE PK f np key e st) x a w := by
  obtain ⟨g', hF, h⟩ := h
  cases e with
  | normal =>
    obtain ⟨hx, hI⟩ := h
    obtain ⟨g2, h1, h2⟩ := hI.park np (PK f np key 0) []
    exact ⟨g2, hF.trans h2, hx, h1⟩
  | exit id =>
    obtain ⟨hx, hI⟩ := h
    obtain ⟨g2, h1, h2⟩ := hI.park np (PK f np key (id + 3)) []
    exact ⟨g2, hF.trans h2, hx, h1⟩
  | ret =>
    obtain ⟨hx, hI⟩ := h
    obtain ⟨g2, h1, h2⟩ := hI.park np (PK f np key 1) []
    exact ⟨g2, hF.trans h2, hx, h1⟩
  | pan p =>
    obtain ⟨v, hx, hp, hM, hd, hs⟩ := h
    obtain ⟨g2, h1, h2, h3, h4, h5, h6, h7⟩ := park_core np (PK f np key 2) p.ptrs hM hd
    exact ⟨g2, hF.trans h1, v, hx, h6 p v (fun c hc => hc) hp, h2, h3, fun i => h7 i _ (hs i)⟩

/-! ### Levels -/

theorem loopsOf_trans : ∀ {b c c' : Code}, c ∈ loopsOf b → c' ∈ loopsOf c → c' ∈ loopsOf b
  | .seq x y, c, c', h, h' => by
    simp only [loopsOf, List.mem_append] at h ⊢
    exact h.imp (fun h => loopsOf_trans h h') (fun h => loopsOf_trans h h')
  | .cond _ x y, c, c', h, h' => by
    simp only [loopsOf, List.mem_append] at h ⊢
    exact h.imp (fun h => loopsOf_trans h h') (fun h => loopsOf_trans h h')
  | .block _ x, c, c', h, h' => by
    simp only [loopsOf] at h ⊢
    exact loopsOf_trans h h'
  | .loop x, c, c', h, h' => by
    simp only [loopsOf, List.mem_cons] at h ⊢
    rcases h with rfl | h
    · exact .inr h'
    · exact .inr (loopsOf_trans h h')
  | .skip, _, _, h, _ => by cases h
  | .label _, _, _, h, _ => by cases h
  | .region .., _, _, h, _ => by cases h
  | .exit _, _, _, h, _ => by cases h
  | .ret, _, _, h, _ => by cases h
  | .scope c, _, _, h, h' => by
    simp only [loopsOf] at h ⊢
    exact loopsOf_trans h h'
  | .rangeFunc .., _, _, h, _ => by cases h
  | .goto _, _, _, h, _ => by cases h
  | .refuse _, _, _, h, _ => by cases h

theorem loopOf_body {f key : Nat} {c : Code} (h : loopOf P f key = some c) : ∃ fn b, P.funcs[f]? = some fn ∧ fn.body = some b ∧ c ∈ loopsOf b := by
  unfold loopOf at h
  split at h
  · rename_i fn hf
    split at h
    · rename_i b hb; exact ⟨fn, b, hf, hb, List.mem_of_find?_eq_some h⟩
    · cases h
  · cases h

/-- What is known of a level. -/
structure Snd (P : Program) (L : Lay S) (C : CallT S) (LC : LoopT S) : Prop where
  nat : Natural C
  natL : NaturalL LC
  call : ∀ f args m r, dir C f args m = some r → CallOk P L f args m r
  loop : ∀ f np key st r c, loopOf P f key = some c → dirL LC f np key st = some r → LoopOk P L np c st r

/-- Tables of calls and loops, level by level: each level is evaluated with the one before, or answers what is shown out of it. -/
structure Levels (P : Program) (L : Lay S) (H : Hints) (D : DeferT S) (PK : Parks) (T : Nat → CallT S) (LT : Nat → LoopT S) : Prop where
  t0 : ∀ ρ f args m K, T 0 ρ f args m K = none
  l0 : ∀ ρ f np key st K, LT 0 ρ f np key st K = none
  t : ∀ k f args m, (∀ ρ K, T (k + 1) ρ f args m K = none) ∨ (∀ ρ K, T (k + 1) ρ f args m K = evF P L (T k) (LT k) H D f args m K) ∨
    (Snd P L (T k) (LT k) → (∀ ρ K, T (k + 1) ρ f args m K = none) ∨ ∃ r, CallOk P L f args m r ∧ ∀ ρ K, T (k + 1) ρ f args m K = K r)
  l : ∀ k f np key st, (∀ ρ K, LT (k + 1) ρ f np key st K = none) ∨
    ∃ c, loopOf P f key = some c ∧ ∀ ρ K, LT (k + 1) ρ f np key st K = evK P L (T k) (LT k) H f np c (parkE PK f np key .normal st) (loopNext (LT k) PK f np key K)

theorem Levels.sound {H : Hints} {D : DeferT S} {PK : Parks} {T : Nat → CallT S} {LT : Nat → LoopT S} (h : Levels P L H D PK T LT) (hP : Fit P) (hD : DOk P L D) : ∀ k,
    Natural (T k) ∧ NaturalL (LT k) ∧ (∀ f args m r, dir (T k) f args m = some r → CallOk P L f args m r) ∧
      ∀ f np key st r c, loopOf P f key = some c → dirL (LT k) f np key st = some r → LoopOk P L np c st r
  | 0 => by
    refine ⟨⟨fun ρ f args m K => ?_⟩, ⟨fun ρ f np key st K => ?_⟩, fun f args m r hr => ?_, fun f np key st r c _ hr => ?_⟩
    · rw [h.t0]; unfold dir; rw [h.t0]; rfl
    · rw [h.l0]; unfold dirL; rw [h.l0]; rfl
    · unfold dir at hr; rw [h.t0] at hr; cases hr
    · unfold dirL at hr; rw [h.l0] at hr; cases hr
  | k + 1 => by
    obtain ⟨n1, n2, s1, s2⟩ := h.sound hP hD k
    have next : ∀ {ρ : Type} (f np key : Nat) (K : Ex S → St S → Option ρ) (e : Ex S) (st : St S),
        loopNext (LT k) PK f np key K e st = (loopNext (LT k) PK f np key (fun e s => some (e, s)) e st).bind fun q => K q.1 q.2 := by
      intro ρ f np key K e st
      cases e with
      | normal => simp only [loopNext]; rw [n2.nat]; rfl
      | _ => rfl
    refine ⟨⟨fun ρ f args m K => ?_⟩, ⟨fun ρ f np key st K => ?_⟩, fun f args m r hr => ?_, fun f np key st r c hc hr => ?_⟩
    · rcases h.t k f args m with h1 | h1 | h1
      · unfold dir; rw [h1, h1]; rfl
      · unfold dir; rw [h1, h1]; exact evF_cps
      · rcases h1 ⟨n1, n2, s1, s2⟩ with h1 | ⟨r, _, h1⟩
        · unfold dir; rw [h1, h1]; rfl
        · unfold dir; rw [h1, h1]; rfl
    · rcases h.l k f np key st with h1 | ⟨c, _, h1⟩
      · unfold dirL; rw [h1, h1]; rfl
      · unfold dirL; rw [h1, h1]
        conv => lhs; rw [evK_cps]
        conv => rhs; rw [evK_cps]
        cases evK P L (T k) (LT k) H f np c (parkE PK f np key .normal st) fun e s => some (e, s) with
        | none => rfl
        | some q => simp only [Option.bind_some]; exact next f np key K q.1 q.2
    · rcases h.t k f args m with h1 | h1 | h1
      · unfold dir at hr; rw [h1] at hr; cases hr
      · unfold dir at hr; rw [h1] at hr
        exact evF_sound hP s1 (fun key st r c hc hr => s2 f _ key st r c hc hr) hD hr
      · rcases h1 ⟨n1, n2, s1, s2⟩ with h1 | ⟨r', h2, h1⟩
        · unfold dir at hr; rw [h1] at hr; cases hr
        · unfold dir at hr; rw [h1] at hr; cases hr; exact h2
    · rcases h.l k f np key st with h1 | ⟨c', hc', h1⟩
      · unfold dirL at hr; rw [h1] at hr; cases hr
      · rw [hc] at hc'; cases hc'
        unfold dirL at hr; rw [h1, evK_cps] at hr
        cases hev : evK P L (T k) (LT k) H f np c (parkE PK f np key .normal st) fun e s => some (e, s) with
        | none => rw [hev] at hr; cases hr
        | some q =>
          obtain ⟨e1, st1⟩ := q
          rw [hev] at hr
          simp only [Option.bind_some] at hr
          intro g a w hI
          obtain ⟨g0, hI0, hF0⟩ := hI.park np (PK f np key (kindOf (.normal : Ex S))) (ptrsE (.normal : Ex S))
          have hheads : ∀ c' ∈ loopsOf c, ∀ key, headOf c' = some key → loopOf P f key = some c' := by
            obtain ⟨fn, b, hf, hb, hmem⟩ := loopOf_body hc
            exact fun c' hc' key hk => hP.heads hf hb c' (loopsOf_trans hmem hc') key hk
          refine LoopWp.round (wp_mono (evK_sound hP.mixed s1 (fun key st r c hc hr => s2 f np key st r c hc hr) hheads hI0 hev) fun x1 a1 w1 hx => ?_)
          cases e1 with
          | normal =>
            simp only [loopNext] at hr
            obtain ⟨g1, hF, hx1, hI1⟩ := hx
            subst hx1
            exact (s2 f np key st1 r c hc hr g1 a1 w1 hI1).mono fun _ _ _ hx => hx.trans (hF0.trans hF)
          | _ =>
            simp only [loopNext, Option.some.injEq] at hr
            subst hr
            exact ExOk.passes (by simp) ((hx.park PK f key).trans hF0) fun hx => hx

theorem Levels.snd {H : Hints} {D : DeferT S} {PK : Parks} {T : Nat → CallT S} {LT : Nat → LoopT S} (h : Levels P L H D PK T LT) (hP : Fit P) (hD : DOk P L D) (k : Nat) : Snd P L (T k) (LT k) :=
  let ⟨n1, n2, s1, s2⟩ := h.sound hP hD k
  ⟨n1, n2, s1, s2⟩

end
end Go.Proofs.YtanfoijdfcnpoaaGreatDoor.Ev
